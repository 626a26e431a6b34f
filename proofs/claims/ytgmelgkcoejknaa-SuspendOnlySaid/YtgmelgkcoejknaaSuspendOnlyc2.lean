/- For SuspendOnly: contracts, and facts on lists and numbers, that it uses (part 2). -/
import Derived.ChangeArms
import Derived.Deep.Slices
import Derived.Laws.BitsLemmas
import Derived.Laws.Strings
import Derived.Lib.Bytealg
import Derived.SizedLaws
import Derived.Test.YtgmelgkcoejknaaSuspendOnlyc1
import Derived.WideShapes
section
namespace Go.Proofs.Ytgmelgkcoejknaa.X
open Go.RowKit Go.Proofs.YtgmelgkcoejknaaW.PrintWords Go.Proofs.YtgmelgkcoejknaaW.PrintLast Go.Proofs.YtgmelgkcoejknaaW.PrintMore
attribute [local go_sem] max2_int min2_int max_two min_two max_three min_three max_four min_four
set_option linter.unusedVariables false
set_option linter.unusedSimpArgs false
def suspend_Of.l0:Nat → ByteArray → List (S37) → Int → Int → Option (ByteArray × Int × Int × Bool)
 | 0,_,_,_,_=>none
 | k + 1,x1,x8,x9,x10=>if x10 < x9 then (if 0 ≤ x10 then (if x10 < (x8.length:Int) then (if ((rd_T37 x8 x10).f0).toList = x1.toList then (some ((rd_T37 x8 x10).f0,(rd_T37 x8 x10).f1,(rd_T37 x8 x10).f2,true)) else (suspend_Of.l0 k x1 x8 x9 (wrap64 (x10 + 1)))) else (none)) else (none)) else (some ((⟨#[]⟩:ByteArray),0,0,false))
def suspend_Of.f (k:Nat) (l0:List (S37)) (a1:ByteArray):Option (ByteArray × Int × Int × Bool):=suspend_Of.l0 k a1 l0 (l0.length:Int) 0
theorem suspend_Of.mono_l:∀ k,(∀ y0 y1 y2 y3,LeO (suspend_Of.l0 k y0 y1 y2 y3) (suspend_Of.l0 (k + 1) y0 y1 y2 y3))
 | 0=>fun _ _ _ _ r h=>by simp [suspend_Of.l0] at h
 | k + 1=>by
  have ih0:=suspend_Of.mono_l k
  ·intro y0 y1 y2 y3
   unfold suspend_Of.l0
   repeat' first
   | (with_reducible exact ih0 _ _ _ _)
   | (with_reducible exact LeO.refl _)
   | (with_reducible exact LeO.none _)
   | (with_reducible refine LeO.ite ?_ ?_)
   | (with_reducible refine LeO.bind ?_ (fun _=>?_))
   | exact ih0 _ _ _ _
   | exact LeO.none _
   | refine LeO.ite ?_ ?_
   | refine LeO.bind ?_ (fun _=>?_)
theorem suspend_Of.mono:∀ a0 a1 k,LeO (suspend_Of.f k a0 a1) (suspend_Of.f (k + 1) a0 a1):=by
 intro a0 a1 k
 have ih0:=suspend_Of.mono_l k
 unfold suspend_Of.f
 repeat' first
   | (with_reducible exact ih0 _ _ _ _)
   | (with_reducible exact LeO.refl _)
   | (with_reducible exact LeO.none _)
   | (with_reducible refine LeO.ite ?_ ?_)
   | (with_reducible refine LeO.bind ?_ (fun _=>?_))
   | exact ih0 _ _ _ _
   | exact LeO.none _
   | refine LeO.ite ?_ ?_
   | refine LeO.bind ?_ (fun _=>?_)
set_option maxHeartbeats 8000000 in
set_option maxRecDepth 100000 in
theorem suspend_Of.calls (k:Nat) (A0:Option Addr) (c0:Nat) (l0:List (S37)) (a1:ByteArray) (r1:ByteArray) (r2:Int) (r3:Int) (r4:Bool) (w:World) (hr0:Kd.C k37 w A0 l0.length l0) (hc0:l0.length ≤ c0) (h:suspend_Of.f k l0 a1 = some (r1,r2,r3,r4)) :
  Calls Try.prog 15 #[.slice A0 l0.length c0,.string a1] w fun e w'=>e = .returned (.tuple #[.agg #[.string r1,.int .i64 r2,.int .i64 r3],.bool r4]) ∧ Below w.heap.size w w':=by
 have hu37:=Try.underlying37
 have HR0:=Aside0.mk hr0
 have HC0:=Aside0.mk hc0
 clear hr0 hc0
 have HB:=Aside0.mk (Below.refl w.heap.size w)
 have H:(suspend_Of.l0 k a1 l0 (l0.length:Int) 0) = some (r1,r2,r3,r4):=h
 clear h
 have H':=Aside0.mk H
 clear H
 go_enter Try.func15,Try.ntmps15
 go_wp2_with (first|((with_reducible refine gate_dst (N:=4) rfl ?_);refine box_event ?hg (N:=4) ?hd (cs:=#[.string (⟨#[]⟩:ByteArray),.int .i64 0,.int .i64 0]) (t:=37) ?hr ?_;(case hd=>rfl);(case hg=>rfl);(case hr=>first|(go_simp;done)|(go_simp;rfl));intro gb101 hg w3 hbox hb;have n0_:=Aside0.mk (below_step (by repeat (first|(with_reducible first|exact HB.out|apply below_alloc|apply pw_below_drewN|apply below_drew1)|exact HB.out)) hb);have n1_:=Aside0.mk (hbox);have n2_:=Aside0.mk ((by rw [hg];exact (below_size (by repeat (first|(with_reducible first|exact HB.out|apply below_alloc|apply pw_below_drewN|apply below_drew1)|exact HB.out))):w.heap.size ≤ gb101));have n3_:=Aside0.mk ((by rw [hg];exact (below_size (by repeat (first|(with_reducible first|exact HB.out|apply below_alloc|apply pw_below_drewN|apply below_drew1)|exact HB.out))):w.heap.size ≤ gb101));clear HB;have HB:=n0_;have BK101:=n1_;have GW101:=n2_;have GE101:=n3_;clear n0_ n1_ n2_ n3_;clear hb hbox hg))
 go_loopg [10] k (fun kq v10 w'=>∃ (x10_1:Int) (x102000_1:ByteArray) (x102001_1:Int) (x102002_1:Int),v10 = .int .i64 x10_1 ∧ Aside0 (suspend_Of.l0 kq a1 l0 (l0.length:Int) x10_1 = some (r1,r2,r3,r4)) ∧ Aside0 (kq ≤ k) ∧ Aside0 (w'.heap[gb101]? = some (.cells #[.string x102000_1,.int .i64 x102001_1,.int .i64 x102002_1] 37 (0,0))) ∧ Aside0 (Below w.heap.size w w'))
 case atStart=>exact ⟨(0),((⟨#[]⟩:ByteArray)),(0),(0),(by first|rfl|(simp;done)|(simp [*];done)),H',⟨Nat.le_refl _⟩,⟨by (with_reducible repeat (first|refine blk_drewN ?_ _|refine blk_drew ?_|refine blk_alloc ?_ _));exact BK101.out⟩,⟨by repeat (first|(with_reducible first|exact HB.out|apply below_alloc|apply pw_below_drewN|apply below_drew1|refine below_set ?_ GE101.out)|exact HB.out)⟩⟩
 case round =>
  clear H'
  try clear c1
  try clear p2
  obtain ⟨x10_1,x102000_1,x102001_1,x102002_1,rfl,HA,HK1,BK101,HB⟩:=hrel
  cases gk with
  | zero=>exact absurd HA.out (by simp [suspend_Of.l0])
  | succ k1 =>
   have H:=HA.out
   clear HA
   simp only [suspend_Of.l0] at H
   by_cases c4:x10_1 < (l0.length:Int)
   ·rw [if_pos c4] at H
    have c4b0:decide (x10_1 < (l0.length:Int)) = true:=decide_eq_true c4
    clear c4
    by_cases c5:0 ≤ x10_1
    ·rw [if_pos c5] at H
     have c5b0:decide (0 ≤ x10_1) = true:=decide_eq_true c5
     clear c5
     by_cases c6:x10_1 < (l0.length:Int)
     ·rw [if_pos c6] at H
      have c6b0:decide (x10_1 < (l0.length:Int)) = true:=decide_eq_true c6
      clear c6
      by_cases c7:((rd_T37 l0 x10_1).f0).toList = a1.toList
      ·rw [if_pos c7] at H
       have c7b0:(((rd_T37 l0 x10_1).f0).toList == a1.toList) = true:=beq_iff_eq.mpr c7
       have c7b1:(((rd_T37 l0 x10_1).f0).toList != a1.toList) = false:=bne_eq_false_iff_eq.mpr c7
       clear c7
       simp only [Option.some.injEq,Prod.mk.injEq] at H
       obtain ⟨rfl,rfl,rfl,rfl⟩:=H
       have p102:0 ≤ (x10_1:Int):=of_decide_eq_true (by first|(with_reducible assumption)|assumption)
       have q102:x10_1 < (l0.length:Int):=of_decide_eq_true (by first|(with_reducible assumption)|assumption)
       obtain ⟨ad102,e102,hx102_0,hx102_1,hx102_2⟩:=at_T37 HR0.out x10_1 p102 q102
       cases e102
       replace hx102_0:=(HB.out.cell (World.block_lt_of_cell? w _ hx102_0)).trans hx102_0
       replace hx102_1:=(HB.out.cell (World.block_lt_of_cell? w _ hx102_1)).trans hx102_1
       replace hx102_2:=(HB.out.cell (World.block_lt_of_cell? w _ hx102_2)).trans hx102_2
       replace p102:=eq_true p102
       replace q102:=eq_true q102
       go_wp2_with (first|((with_reducible refine gate_dst (N:=7) rfl ?_);refine box_event ?hg (N:=7) ?hd (cs:=#[.string (⟨#[]⟩:ByteArray),.int .i64 0,.int .i64 0]) (t:=37) ?hr ?_;(case hd=>rfl);(case hg=>rfl);(case hr=>first|(go_simp;done)|(go_simp;rfl));intro gb103 hg w8 hbox hb;have n0_:=Aside0.mk (blk_below (g:=gb101) (o:=.cells #[.string x102000_1,.int .i64 x102001_1,.int .i64 x102002_1] 37 (0,0)) (by (with_reducible repeat (first|refine blk_drewN ?_ _|refine blk_drew ?_|refine blk_alloc ?_ _));exact BK101.out) hb);have n1_:=Aside0.mk (below_step (by repeat (first|(with_reducible first|exact HB.out|apply below_alloc|apply pw_below_drewN|apply below_drew1|refine below_set ?_ GE101.out)|exact HB.out)) hb);have n2_:=Aside0.mk (hbox);have n3_:=Aside0.mk ((by rw [hg];exact (below_size (by repeat (first|(with_reducible first|exact HB.out|apply below_alloc|apply pw_below_drewN|apply below_drew1|refine below_set ?_ GE101.out)|exact HB.out))):w.heap.size ≤ gb103));have n4_:=Aside0.mk ((by rw [hg];exact (below_size (by repeat (first|(with_reducible first|exact HB.out|apply below_alloc|apply pw_below_drewN|apply below_drew1|refine below_set ?_ GE101.out)|exact HB.out))):w.heap.size ≤ gb103));have n5_:=Aside0.mk ((by rw [hg];exact Nat.ne_of_lt (blk_lt (g:=gb101) (o:=.cells #[.string x102000_1,.int .i64 x102001_1,.int .i64 x102002_1] 37 (0,0)) (by (with_reducible repeat (first|refine blk_drewN ?_ _|refine blk_drew ?_|refine blk_alloc ?_ _));exact BK101.out)):gb101 ≠ gb103));have n6_:=Aside0.mk ((by rw [hg];exact Nat.ne_of_gt (blk_lt (g:=gb101) (o:=.cells #[.string x102000_1,.int .i64 x102001_1,.int .i64 x102002_1] 37 (0,0)) (by (with_reducible repeat (first|refine blk_drewN ?_ _|refine blk_drew ?_|refine blk_alloc ?_ _));exact BK101.out)):gb103 ≠ gb101));clear BK101;clear HB;have BK101:=n0_;have HB:=n1_;have BK103:=n2_;have GW103:=n3_;have GE103:=n4_;have NB101_103:=n5_;have NB103_101:=n6_;clear n0_ n1_ n2_ n3_ n4_ n5_ n6_;clear hb hbox hg;have hnb9:=NB103_101.out;have hnc9:=NB101_103.out;have hcz10_0:w8.cell? ⟨gb103,0,none⟩ = some (.string (⟨#[]⟩:ByteArray)):=(blk_cell BK103.out 0).trans rfl;have hcz10_1:w8.cell? ⟨gb103,1,none⟩ = some (.int .i64 0):=(blk_cell BK103.out 1).trans rfl;have hcz10_2:w8.cell? ⟨gb103,2,none⟩ = some (.int .i64 0):=(blk_cell BK103.out 2).trans rfl;have hfz10_0:=blk_frozen BK103.out 0;have hfz10_1:=blk_frozen BK103.out 1;have hfz10_2:=blk_frozen BK103.out 2;have hcz11_0:w8.cell? ⟨gb101,0,none⟩ = some (.string x102000_1):=(blk_cell BK101.out 0).trans rfl;have hcz11_1:w8.cell? ⟨gb101,1,none⟩ = some (.int .i64 x102001_1):=(blk_cell BK101.out 1).trans rfl;have hcz11_2:w8.cell? ⟨gb101,2,none⟩ = some (.int .i64 x102002_1):=(blk_cell BK101.out 2).trans rfl;have hfz11_0:=blk_frozen BK101.out 0;have hfz11_1:=blk_frozen BK101.out 1;have hfz11_2:=blk_frozen BK101.out 2))
       refine bodyPost_ret (results_ct rfl _ _ gb101 37 #[.string ((rd_T37 l0 x10_1).f0),.int .i64 ((rd_T37 l0 x10_1).f1),.int .i64 ((rd_T37 l0 x10_1).f2)] (0,0) _ rfl (by (with_reducible repeat (first|refine blk_drewN ?_ _|refine blk_drew ?_|refine blk_alloc ?_ _));refine blk_put (cs:=#[.string ((rd_T37 l0 x10_1).f0),.int .i64 ((rd_T37 l0 x10_1).f1),.int .i64 x102002_1]) ?_ 2 _ rfl;(with_reducible repeat (first|refine blk_drewN ?_ _|refine blk_drew ?_|refine blk_alloc ?_ _));refine blk_put (cs:=#[.string ((rd_T37 l0 x10_1).f0),.int .i64 x102001_1,.int .i64 x102002_1]) ?_ 1 _ rfl;(with_reducible repeat (first|refine blk_drewN ?_ _|refine blk_drew ?_|refine blk_alloc ?_ _));refine blk_put (cs:=#[.string x102000_1,.int .i64 x102001_1,.int .i64 x102002_1]) ?_ 0 _ rfl;(with_reducible repeat (first|refine blk_drewN ?_ _|refine blk_drew ?_|refine blk_alloc ?_ _));refine blk_far ?_ NB101_103.out _;(with_reducible repeat (first|refine blk_drewN ?_ _|refine blk_drew ?_|refine blk_alloc ?_ _));refine blk_far ?_ NB101_103.out _;(with_reducible repeat (first|refine blk_drewN ?_ _|refine blk_drew ?_|refine blk_alloc ?_ _));refine blk_far ?_ NB101_103.out _;(with_reducible repeat (first|refine blk_drewN ?_ _|refine blk_drew ?_|refine blk_alloc ?_ _));exact BK101.out) Try.underlying37 rfl (by kernel_rfl)) rfl ?_
       exact ⟨by first|rfl|(simp [errW_none,errW_some] <;> rfl)|(simp [*,errW_none,errW_some] <;> rfl),by repeat (first|(with_reducible first|exact HB.out|apply below_alloc|apply pw_below_drewN|apply below_drew1|refine below_set ?_ GE101.out|refine below_set ?_ GE103.out)|exact HB.out)⟩
      ·rw [if_neg c7] at H
       have c7b0:(((rd_T37 l0 x10_1).f0).toList == a1.toList) = false:=beq_eq_false_iff_ne.mpr c7
       have c7b1:(((rd_T37 l0 x10_1).f0).toList != a1.toList) = true:=bne_iff_ne.mpr c7
       have H':=Aside0.mk H
       clear H
       have p102:0 ≤ (x10_1:Int):=of_decide_eq_true (by first|(with_reducible assumption)|assumption)
       have q102:x10_1 < (l0.length:Int):=of_decide_eq_true (by first|(with_reducible assumption)|assumption)
       obtain ⟨ad102,e102,hx102_0,hx102_1,hx102_2⟩:=at_T37 HR0.out x10_1 p102 q102
       cases e102
       replace hx102_0:=(HB.out.cell (World.block_lt_of_cell? w _ hx102_0)).trans hx102_0
       replace hx102_1:=(HB.out.cell (World.block_lt_of_cell? w _ hx102_1)).trans hx102_1
       replace hx102_2:=(HB.out.cell (World.block_lt_of_cell? w _ hx102_2)).trans hx102_2
       replace p102:=eq_true p102
       replace q102:=eq_true q102
       go_wp2_with (first|((with_reducible refine gate_dst (N:=7) rfl ?_);refine box_event ?hg (N:=7) ?hd (cs:=#[.string (⟨#[]⟩:ByteArray),.int .i64 0,.int .i64 0]) (t:=37) ?hr ?_;(case hd=>rfl);(case hg=>rfl);(case hr=>first|(go_simp;done)|(go_simp;rfl));intro gb103 hg w12 hbox hb;have n0_:=Aside0.mk (blk_below (g:=gb101) (o:=.cells #[.string x102000_1,.int .i64 x102001_1,.int .i64 x102002_1] 37 (0,0)) (by (with_reducible repeat (first|refine blk_drewN ?_ _|refine blk_drew ?_|refine blk_alloc ?_ _));exact BK101.out) hb);have n1_:=Aside0.mk (below_step (by repeat (first|(with_reducible first|exact HB.out|apply below_alloc|apply pw_below_drewN|apply below_drew1|refine below_set ?_ GE101.out)|exact HB.out)) hb);have n2_:=Aside0.mk (hbox);have n3_:=Aside0.mk ((by rw [hg];exact (below_size (by repeat (first|(with_reducible first|exact HB.out|apply below_alloc|apply pw_below_drewN|apply below_drew1|refine below_set ?_ GE101.out)|exact HB.out))):w.heap.size ≤ gb103));have n4_:=Aside0.mk ((by rw [hg];exact (below_size (by repeat (first|(with_reducible first|exact HB.out|apply below_alloc|apply pw_below_drewN|apply below_drew1|refine below_set ?_ GE101.out)|exact HB.out))):w.heap.size ≤ gb103));have n5_:=Aside0.mk ((by rw [hg];exact Nat.ne_of_lt (blk_lt (g:=gb101) (o:=.cells #[.string x102000_1,.int .i64 x102001_1,.int .i64 x102002_1] 37 (0,0)) (by (with_reducible repeat (first|refine blk_drewN ?_ _|refine blk_drew ?_|refine blk_alloc ?_ _));exact BK101.out)):gb101 ≠ gb103));have n6_:=Aside0.mk ((by rw [hg];exact Nat.ne_of_gt (blk_lt (g:=gb101) (o:=.cells #[.string x102000_1,.int .i64 x102001_1,.int .i64 x102002_1] 37 (0,0)) (by (with_reducible repeat (first|refine blk_drewN ?_ _|refine blk_drew ?_|refine blk_alloc ?_ _));exact BK101.out)):gb103 ≠ gb101));clear BK101;clear HB;have BK101:=n0_;have HB:=n1_;have BK103:=n2_;have GW103:=n3_;have GE103:=n4_;have NB101_103:=n5_;have NB103_101:=n6_;clear n0_ n1_ n2_ n3_ n4_ n5_ n6_;clear hb hbox hg;have hnb13:=NB103_101.out;have hnc13:=NB101_103.out;have hcz14_0:w12.cell? ⟨gb103,0,none⟩ = some (.string (⟨#[]⟩:ByteArray)):=(blk_cell BK103.out 0).trans rfl;have hcz14_1:w12.cell? ⟨gb103,1,none⟩ = some (.int .i64 0):=(blk_cell BK103.out 1).trans rfl;have hcz14_2:w12.cell? ⟨gb103,2,none⟩ = some (.int .i64 0):=(blk_cell BK103.out 2).trans rfl;have hfz14_0:=blk_frozen BK103.out 0;have hfz14_1:=blk_frozen BK103.out 1;have hfz14_2:=blk_frozen BK103.out 2))
       go_roundg k1
       case measure=>have:=HK1.out;omega
       case rel=>exact ⟨(wrap64 (x10_1 + 1)),(x102000_1),(x102001_1),(x102002_1),(by first|rfl|(simp;done)|(simp [*];done)),H',⟨by have:=HK1.out;omega⟩,⟨by (with_reducible repeat (first|refine blk_drewN ?_ _|refine blk_drew ?_|refine blk_alloc ?_ _));refine blk_far ?_ NB101_103.out _;(with_reducible repeat (first|refine blk_drewN ?_ _|refine blk_drew ?_|refine blk_alloc ?_ _));refine blk_far ?_ NB101_103.out _;(with_reducible repeat (first|refine blk_drewN ?_ _|refine blk_drew ?_|refine blk_alloc ?_ _));refine blk_far ?_ NB101_103.out _;(with_reducible repeat (first|refine blk_drewN ?_ _|refine blk_drew ?_|refine blk_alloc ?_ _));exact BK101.out⟩,⟨by repeat (first|(with_reducible first|exact HB.out|apply below_alloc|apply pw_below_drewN|apply below_drew1|refine below_set ?_ GE101.out|refine below_set ?_ GE103.out)|exact HB.out)⟩⟩
     ·rw [if_neg c6] at H
      exact absurd H (by simp)
    ·rw [if_neg c5] at H
     exact absurd H (by simp)
   ·rw [if_neg c4] at H
    have c4b0:decide (x10_1 < (l0.length:Int)) = false:=decide_eq_false c4
    clear c4
    simp only [Option.some.injEq,Prod.mk.injEq] at H
    obtain ⟨rfl,rfl,rfl,rfl⟩:=H
    have hcz15_0:wr.cell? ⟨gb101,0,none⟩ = some (.string x102000_1):=(blk_cell BK101.out 0).trans rfl
    have hcz15_1:wr.cell? ⟨gb101,1,none⟩ = some (.int .i64 x102001_1):=(blk_cell BK101.out 1).trans rfl
    have hcz15_2:wr.cell? ⟨gb101,2,none⟩ = some (.int .i64 x102002_1):=(blk_cell BK101.out 2).trans rfl
    have hfz15_0:=blk_frozen BK101.out 0
    have hfz15_1:=blk_frozen BK101.out 1
    have hfz15_2:=blk_frozen BK101.out 2
    go_wp2
    refine bodyPost_ret (results_ct rfl _ _ gb101 37 #[.string (⟨#[]⟩:ByteArray),.int .i64 0,.int .i64 0] (0,0) _ rfl (by (with_reducible repeat (first|refine blk_drewN ?_ _|refine blk_drew ?_|refine blk_alloc ?_ _));refine blk_put (cs:=#[.string (⟨#[]⟩:ByteArray),.int .i64 0,.int .i64 x102002_1]) ?_ 2 _ rfl;(with_reducible repeat (first|refine blk_drewN ?_ _|refine blk_drew ?_|refine blk_alloc ?_ _));refine blk_put (cs:=#[.string (⟨#[]⟩:ByteArray),.int .i64 x102001_1,.int .i64 x102002_1]) ?_ 1 _ rfl;(with_reducible repeat (first|refine blk_drewN ?_ _|refine blk_drew ?_|refine blk_alloc ?_ _));refine blk_put (cs:=#[.string x102000_1,.int .i64 x102001_1,.int .i64 x102002_1]) ?_ 0 _ rfl;(with_reducible repeat (first|refine blk_drewN ?_ _|refine blk_drew ?_|refine blk_alloc ?_ _));exact BK101.out) Try.underlying37 rfl (by kernel_rfl)) rfl ?_
    exact ⟨by first|rfl|(simp [errW_none,errW_some] <;> rfl)|(simp [*,errW_none,errW_some] <;> rfl),by repeat (first|(with_reducible first|exact HB.out|apply below_alloc|apply pw_below_drewN|apply below_drew1|refine below_set ?_ GE101.out)|exact HB.out)⟩
end Go.Proofs.Ytgmelgkcoejknaa.X
end
section
namespace Go.Proofs.Ytgmelgkcoejknaa.X
open Go.RowKit Go.Proofs.YtgmelgkcoejknaaW.PrintWords Go.Proofs.YtgmelgkcoejknaaW.PrintLast Go.Proofs.YtgmelgkcoejknaaW.PrintMore
attribute [local go_sem] max2_int min2_int max_two min_two max_three min_three max_four min_four
set_option linter.unusedVariables false
set_option linter.unusedSimpArgs false
theorem eqA37 (d:Nat) (w:World) (x0 y0:ByteArray) (x1 y1:Int) (x2 y2:Int) :
  (Op.equalIn (d + 2) 37 (.agg #[.string x0,.int .i64 x1,.int .i64 x2]) (.agg #[.string y0,.int .i64 y1,.int .i64 y2])).run Try.prog w = .ok (x0.toList == y0.toList && (x1 == y1 && (x2 == y2))) w:=by
 refine eqA_of Try.underlying37 (by kernel_rfl) ?_
 refine eqf_cons (by rfl) (by go_simp;rfl) (by go_simp;rfl) (by go_simp) ?_
 refine eqf_cons (by rfl) (by go_simp;rfl) (by go_simp;rfl) (by go_simp) ?_
 exact eqf_last (by rfl) (by go_simp;rfl) (by go_simp;rfl) (by go_simp)
end Go.Proofs.Ytgmelgkcoejknaa.X
end
section
namespace Go.Proofs.Ytgmelgkcoejknaa.X
open Go.RowKit Go.Proofs.YtgmelgkcoejknaaW.PrintWords Go.Proofs.YtgmelgkcoejknaaW.PrintLast Go.Proofs.YtgmelgkcoejknaaW.PrintMore
attribute [local go_sem] max2_int min2_int max_two min_two max_three min_three max_four min_four
set_option linter.unusedVariables false
set_option linter.unusedSimpArgs false
attribute [local go_sem high] eqA37
mutual
def contangolaw41_SuspendOnly.l0:Nat → ByteArray → List Int → List (S37) → Int → Int → Option (Bool)
 | 0,_,_,_,_,_=>none
 | k + 1,x1,x2,x7,x8,x9=>if x9 < (x2.length:Int) then ((suspend_Of.f k x7 x1).bind fun bt109=>(if 0 ≤ x9 then ((suspend_Step.f k x7 x1 (rd x2 x9)).bind fun bt115=>(if bt115.2 = 0 then ((suspend_Of.f k bt115.1 x1).bind fun bt119=>(if bt119.2.2.2 = true then (if bt119.2.1 = (rd x2 x9) then (if bt119.2.1 ≤ bt109.2.1 then (contangolaw41_SuspendOnly.j1 k x1 x2 x7 x8 x9 bt115.1 true) else (if bt119.2.2.1 = bt109.2.2.1 then (contangolaw41_SuspendOnly.j1 k x1 x2 x7 x8 x9 bt115.1 ((bt115.1.length:Int) != (x7.length:Int))) else (contangolaw41_SuspendOnly.j1 k x1 x2 x7 x8 x9 bt115.1 true))) else (contangolaw41_SuspendOnly.j1 k x1 x2 x7 x8 x9 bt115.1 true)) else (contangolaw41_SuspendOnly.j1 k x1 x2 x7 x8 x9 bt115.1 true))) else (contangolaw41_SuspendOnly.l0 k x1 x2 x7 x8 (wrap64 (x9 + 1))))) else (none))) else (if x8 ≤ 6 then ((suspend_Check.f k x7).bind fun t107=>(if t107 = 0 then ((contangolaw41_goes.f k).bind fun t108=>(some t108)) else (none))) else (none))
def contangolaw41_SuspendOnly.j1:Nat → ByteArray → List Int → List (S37) → Int → Int → List (S37) → Bool → Option (Bool)
 | 0,_,_,_,_,_,_,_=>none
 | k + 1,x1,x2,x7,x8,x9,x12,x88=>if x88 = true then (none) else (contangolaw41_SuspendOnly.l1 k x1 x2 x7 x8 x9 x12 0)
def contangolaw41_SuspendOnly.l1:Nat → ByteArray → List Int → List (S37) → Int → Int → List (S37) → Int → Option (Bool)
 | 0,_,_,_,_,_,_,_=>none
 | k + 1,x1,x2,x7,x8,x9,x12,x16=>if x16 < (x7.length:Int) then (if 0 ≤ x16 then (if ((rd_T37 x7 x16).f0).toList = x1.toList then (contangolaw41_SuspendOnly.l1 k x1 x2 x7 x8 x9 x12 (wrap64 (x16 + 1))) else (if x16 < (x12.length:Int) then (if (!((((rd_T37 x12 x16).f0).toList) == (((rd_T37 x7 x16).f0).toList)) || (!(((rd_T37 x12 x16).f1) == ((rd_T37 x7 x16).f1)) || (!(((rd_T37 x12 x16).f2) == ((rd_T37 x7 x16).f2))))) = true then (none) else (contangolaw41_SuspendOnly.l1 k x1 x2 x7 x8 x9 x12 (wrap64 (x16 + 1)))) else (none))) else (none)) else (contangolaw41_SuspendOnly.l0 k x1 x2 x12 (wrap64 (x8 + 1)) (wrap64 (x9 + 1)))
end
def contangolaw41_SuspendOnly.f (k:Nat) (l0:List (S41)) (a1:ByteArray) (l2:List Int):Option (Bool):=if (l2.length:Int) > 40 then ((contangolaw41_goes.f k).bind fun t101=>(some t101)) else ((contangolaw41_Cases.f k l0).bind fun t102=>((suspend_Check.f k t102).bind fun t105=>(if t105 = 0 then (contangolaw41_SuspendOnly.l0 k a1 l2 t102 0 0) else ((contangolaw41_goes.f k).bind fun t106=>(some t106)))))
theorem contangolaw41_SuspendOnly.mono_l:∀ k,(∀ y0 y1 y2 y3 y4,LeO (contangolaw41_SuspendOnly.l0 k y0 y1 y2 y3 y4) (contangolaw41_SuspendOnly.l0 (k + 1) y0 y1 y2 y3 y4)) ∧ (∀ y0 y1 y2 y3 y4 y5 y6,LeO (contangolaw41_SuspendOnly.j1 k y0 y1 y2 y3 y4 y5 y6) (contangolaw41_SuspendOnly.j1 (k + 1) y0 y1 y2 y3 y4 y5 y6)) ∧ (∀ y0 y1 y2 y3 y4 y5 y6,LeO (contangolaw41_SuspendOnly.l1 k y0 y1 y2 y3 y4 y5 y6) (contangolaw41_SuspendOnly.l1 (k + 1) y0 y1 y2 y3 y4 y5 y6))
 | 0=>⟨fun _ _ _ _ _ r h=>by simp [contangolaw41_SuspendOnly.l0] at h,fun _ _ _ _ _ _ _ r h=>by simp [contangolaw41_SuspendOnly.j1] at h,fun _ _ _ _ _ _ _ r h=>by simp [contangolaw41_SuspendOnly.l1] at h⟩
 | k + 1=>by
  obtain ⟨ih0,ih1,ih2⟩:=contangolaw41_SuspendOnly.mono_l k
  refine ⟨?_,?_,?_⟩
  ·intro y0 y1 y2 y3 y4
   unfold contangolaw41_SuspendOnly.l0
   repeat' first
   | (with_reducible exact ih0 _ _ _ _ _)
   | (with_reducible exact ih1 _ _ _ _ _ _ _)
   | (with_reducible exact ih2 _ _ _ _ _ _ _)
   | (with_reducible exact contangolaw41_Cases.mono _ _)
   | (with_reducible exact contangolaw41_goes.mono _)
   | (with_reducible exact suspend_Check.mono _ _)
   | (with_reducible exact suspend_Of.mono _ _ _)
   | (with_reducible exact suspend_Step.mono _ _ _ _)
   | (with_reducible exact LeO.refl _)
   | (with_reducible exact LeO.none _)
   | (with_reducible refine LeO.ite ?_ ?_)
   | (with_reducible refine LeO.bind ?_ (fun _=>?_))
   | exact ih0 _ _ _ _ _
   | exact ih1 _ _ _ _ _ _ _
   | exact ih2 _ _ _ _ _ _ _
   | exact contangolaw41_Cases.mono _ _
   | exact contangolaw41_goes.mono _
   | exact suspend_Check.mono _ _
   | exact suspend_Of.mono _ _ _
   | exact suspend_Step.mono _ _ _ _
   | exact LeO.none _
   | refine LeO.ite ?_ ?_
   | refine LeO.bind ?_ (fun _=>?_)
  ·intro y0 y1 y2 y3 y4 y5 y6
   unfold contangolaw41_SuspendOnly.j1
   repeat' first
   | (with_reducible exact ih0 _ _ _ _ _)
   | (with_reducible exact ih1 _ _ _ _ _ _ _)
   | (with_reducible exact ih2 _ _ _ _ _ _ _)
   | (with_reducible exact contangolaw41_Cases.mono _ _)
   | (with_reducible exact contangolaw41_goes.mono _)
   | (with_reducible exact suspend_Check.mono _ _)
   | (with_reducible exact suspend_Of.mono _ _ _)
   | (with_reducible exact suspend_Step.mono _ _ _ _)
   | (with_reducible exact LeO.refl _)
   | (with_reducible exact LeO.none _)
   | (with_reducible refine LeO.ite ?_ ?_)
   | (with_reducible refine LeO.bind ?_ (fun _=>?_))
   | exact ih0 _ _ _ _ _
   | exact ih1 _ _ _ _ _ _ _
   | exact ih2 _ _ _ _ _ _ _
   | exact contangolaw41_Cases.mono _ _
   | exact contangolaw41_goes.mono _
   | exact suspend_Check.mono _ _
   | exact suspend_Of.mono _ _ _
   | exact suspend_Step.mono _ _ _ _
   | exact LeO.none _
   | refine LeO.ite ?_ ?_
   | refine LeO.bind ?_ (fun _=>?_)
  ·intro y0 y1 y2 y3 y4 y5 y6
   unfold contangolaw41_SuspendOnly.l1
   repeat' first
   | (with_reducible exact ih0 _ _ _ _ _)
   | (with_reducible exact ih1 _ _ _ _ _ _ _)
   | (with_reducible exact ih2 _ _ _ _ _ _ _)
   | (with_reducible exact contangolaw41_Cases.mono _ _)
   | (with_reducible exact contangolaw41_goes.mono _)
   | (with_reducible exact suspend_Check.mono _ _)
   | (with_reducible exact suspend_Of.mono _ _ _)
   | (with_reducible exact suspend_Step.mono _ _ _ _)
   | (with_reducible exact LeO.refl _)
   | (with_reducible exact LeO.none _)
   | (with_reducible refine LeO.ite ?_ ?_)
   | (with_reducible refine LeO.bind ?_ (fun _=>?_))
   | exact ih0 _ _ _ _ _
   | exact ih1 _ _ _ _ _ _ _
   | exact ih2 _ _ _ _ _ _ _
   | exact contangolaw41_Cases.mono _ _
   | exact contangolaw41_goes.mono _
   | exact suspend_Check.mono _ _
   | exact suspend_Of.mono _ _ _
   | exact suspend_Step.mono _ _ _ _
   | exact LeO.none _
   | refine LeO.ite ?_ ?_
   | refine LeO.bind ?_ (fun _=>?_)
theorem contangolaw41_SuspendOnly.mono:∀ a0 a1 a2 k,LeO (contangolaw41_SuspendOnly.f k a0 a1 a2) (contangolaw41_SuspendOnly.f (k + 1) a0 a1 a2):=by
 intro a0 a1 a2 k
 obtain ⟨ih0,ih1,ih2⟩:=contangolaw41_SuspendOnly.mono_l k
 unfold contangolaw41_SuspendOnly.f
 repeat' first
   | (with_reducible exact ih0 _ _ _ _ _)
   | (with_reducible exact ih1 _ _ _ _ _ _ _)
   | (with_reducible exact ih2 _ _ _ _ _ _ _)
   | (with_reducible exact contangolaw41_Cases.mono _ _)
   | (with_reducible exact contangolaw41_goes.mono _)
   | (with_reducible exact suspend_Check.mono _ _)
   | (with_reducible exact suspend_Of.mono _ _ _)
   | (with_reducible exact suspend_Step.mono _ _ _ _)
   | (with_reducible exact LeO.refl _)
   | (with_reducible exact LeO.none _)
   | (with_reducible refine LeO.ite ?_ ?_)
   | (with_reducible refine LeO.bind ?_ (fun _=>?_))
   | exact ih0 _ _ _ _ _
   | exact ih1 _ _ _ _ _ _ _
   | exact ih2 _ _ _ _ _ _ _
   | exact contangolaw41_Cases.mono _ _
   | exact contangolaw41_goes.mono _
   | exact suspend_Check.mono _ _
   | exact suspend_Of.mono _ _ _
   | exact suspend_Step.mono _ _ _ _
   | exact LeO.none _
   | refine LeO.ite ?_ ?_
   | refine LeO.bind ?_ (fun _=>?_)
set_option maxHeartbeats 8000000 in
set_option maxRecDepth 100000 in
theorem contangolaw41_SuspendOnly.calls (k:Nat) (A0:Option Addr) (c0:Nat) (l0:List (S41)) (a1:ByteArray) (A2:Option Addr) (c2:Nat) (l2:List Int) (r:Bool) (w:World) (hr0:Kd.C k41 w A0 l0.length l0) (hc0:l0.length ≤ c0) (hr2:Kd.C (Kd.int .i64) w A2 l2.length l2) (hc2:l2.length ≤ c2) (h:contangolaw41_SuspendOnly.f k l0 a1 l2 = some r) :
  Calls Try.prog 5 #[.slice A0 l0.length c0,.string a1,.slice A2 l2.length c2] w fun e w'=>e = .returned (.bool r) ∧ Below w.heap.size w w':=by
 have hu37:=Try.underlying37
 have HR0:=Aside0.mk hr0
 have HC0:=Aside0.mk hc0
 clear hr0 hc0
 have HR2:=Aside0.mk hr2
 have HC2:=Aside0.mk hc2
 clear hr2 hc2
 have HB:=Aside0.mk (Below.refl w.heap.size w)
 have H:(if (l2.length:Int) > 40 then ((contangolaw41_goes.f k).bind fun t101=>(some t101)) else ((contangolaw41_Cases.f k l0).bind fun t102=>((suspend_Check.f k t102).bind fun t105=>(if t105 = 0 then (contangolaw41_SuspendOnly.l0 k a1 l2 t102 0 0) else ((contangolaw41_goes.f k).bind fun t106=>(some t106)))))) = some r:=h
 clear h
 by_cases c4:(l2.length:Int) > 40
 ·rw [if_pos c4] at H
  have c4b0:decide (40 < (l2.length:Int)) = true:=decide_eq_true c4
  have c4b1:decide (40 < l2.length) = true:=decide_eq_true (by omega)
  clear c4
  replace H:=Option.bind_eq_some_iff.mp H
  obtain ⟨t101,A50,H⟩:=H
  replace H:(some t101) = some r:=H
  have A5:=Aside0.mk A50
  clear A50
  obtain rfl:=Option.some.inj H
  go_enter Try.func5,Try.ntmps5
  go_wp2_with (first|(go_at_call 11;(with_reducible refine (contangolaw41_goes.calls k  t101 _ A5.out).mono ?_);rintro e w6 ⟨rfl,hb⟩;have n0_:=Aside0.mk (below_step (by repeat (first|(with_reducible first|exact HB.out|apply below_alloc|apply pw_below_drewN|apply below_drew1)|exact HB.out)) hb);clear HB;have HB:=n0_;clear n0_;(try clear hb);(try clear hb2);(try clear hk);(try clear hi)))
  repeat (go_quiet (first|(go_at_call 11;(with_reducible refine (contangolaw41_goes.calls k  t101 _ A5.out).mono ?_);rintro e w6 ⟨rfl,hb⟩;have n0_:=Aside0.mk (below_step (by repeat (first|(with_reducible first|exact HB.out|apply below_alloc|apply pw_below_drewN|apply below_drew1)|exact HB.out)) hb);clear HB;have HB:=n0_;clear n0_;(try clear hb);(try clear hb2);(try clear hk);(try clear hi)));try go_wp2_with (first|(go_at_call 11;(with_reducible refine (contangolaw41_goes.calls k  t101 _ A5.out).mono ?_);rintro e w6 ⟨rfl,hb⟩;have n0_:=Aside0.mk (below_step (by repeat (first|(with_reducible first|exact HB.out|apply below_alloc|apply pw_below_drewN|apply below_drew1)|exact HB.out)) hb);clear HB;have HB:=n0_;clear n0_;(try clear hb);(try clear hb2);(try clear hk);(try clear hi))))
  go_ret
  exact ⟨by first|rfl|(simp [errW_none,errW_some] <;> rfl)|(simp [*,errW_none,errW_some] <;> rfl),by repeat (first|(with_reducible first|exact HB.out|apply below_alloc|apply pw_below_drewN|apply below_drew1)|exact HB.out)⟩
 ·rw [if_neg c4] at H
  have c4b0:decide (40 < (l2.length:Int)) = false:=decide_eq_false c4
  have c4b1:decide (40 < l2.length) = false:=decide_eq_false (by omega)
  clear c4
  replace H:=Option.bind_eq_some_iff.mp H
  obtain ⟨t102,A70,H⟩:=H
  replace H:((suspend_Check.f k t102).bind fun t105=>(if t105 = 0 then (contangolaw41_SuspendOnly.l0 k a1 l2 t102 0 0) else ((contangolaw41_goes.f k).bind fun t106=>(some t106)))) = some r:=H
  have A7:=Aside0.mk A70
  clear A70
  replace H:=Option.bind_eq_some_iff.mp H
  obtain ⟨t105,A80,H⟩:=H
  replace H:(if t105 = 0 then (contangolaw41_SuspendOnly.l0 k a1 l2 t102 0 0) else ((contangolaw41_goes.f k).bind fun t106=>(some t106))) = some r:=H
  have A8:=Aside0.mk A80
  clear A80
  by_cases c9:t105 = 0
  ·rw [if_pos c9] at H
   have c9b0:(t105 == 0) = true:=beq_iff_eq.mpr c9
   have c9b1:(t105 != 0) = false:=bne_eq_false_iff_eq.mpr c9
   clear c9
   have H':=Aside0.mk H
   clear H
   go_enter Try.func5,Try.ntmps5
   go_wp2_with (first|(go_at_call 8;(with_reducible refine (contangolaw41_Cases.calls k _ _ l0 t102 _ ?side1 ?side2 A7.out).mono ?_);(case side1=>repeat (first|exact HR0.out|(with_reducible refine Kd.C_alloc ?_ _)|(with_reducible refine Kd.C_drewN ?_ _)|(with_reducible refine Kd.C_drew ?_)));(case side2=>exact HC0.out);rintro e w10 ⟨v103,rfl,ho0,hb⟩;have n0_:=Aside0.mk (Kd.R_lower ho0 (below_size (by repeat (first|(with_reducible first|exact HB.out|apply below_alloc|apply pw_below_drewN|apply below_drew1)|exact HB.out))));have n1_:=Aside0.mk (below_step (by repeat (first|(with_reducible first|exact HB.out|apply below_alloc|apply pw_below_drewN|apply below_drew1)|exact HB.out)) hb);clear HB;have HO104:=n0_;have HB:=n1_;clear n0_ n1_;(try clear hb);(try clear hb2);(try clear hk);(try clear hi);(try clear ho0);obtain ⟨Ao11,co11,eo11⟩:=Kd.R_slice HO104.out;subst eo11)|(go_at_call 14;(with_reducible refine (suspend_Check.calls k _ _ t102 t105 _ ?side1 ?side2 A8.out).mono ?_);(case side1=>repeat (first|exact (Kd.R_reads' HO104.out).2.2|(with_reducible refine Kd.C_alloc ?_ _)|(with_reducible refine Kd.C_drewN ?_ _)|(with_reducible refine Kd.C_drew ?_)));(case side2=>exact (Kd.R_reads' HO104.out).2.1);rintro e w12 ⟨rfl,hb⟩;have n0_:=Aside0.mk (Kd.R_below (by (with_reducible repeat (first|apply Kd.R_alloc|apply Kd.R_drewN|apply Kd.R_drew));exact HO104.out) hb);have n1_:=Aside0.mk (below_step (by repeat (first|(with_reducible first|exact HB.out|apply below_alloc|apply pw_below_drewN|apply below_drew1)|exact HB.out)) hb);clear HO104;clear HB;have HO104:=n0_;have HB:=n1_;clear n0_ n1_;(try clear hb);(try clear hb2);(try clear hk);(try clear hi)))
   repeat (go_quiet (first|(go_at_call 8;(with_reducible refine (contangolaw41_Cases.calls k _ _ l0 t102 _ ?side1 ?side2 A7.out).mono ?_);(case side1=>repeat (first|exact HR0.out|(with_reducible refine Kd.C_alloc ?_ _)|(with_reducible refine Kd.C_drewN ?_ _)|(with_reducible refine Kd.C_drew ?_)));(case side2=>exact HC0.out);rintro e w10 ⟨v103,rfl,ho0,hb⟩;have n0_:=Aside0.mk (Kd.R_lower ho0 (below_size (by repeat (first|(with_reducible first|exact HB.out|apply below_alloc|apply pw_below_drewN|apply below_drew1)|exact HB.out))));have n1_:=Aside0.mk (below_step (by repeat (first|(with_reducible first|exact HB.out|apply below_alloc|apply pw_below_drewN|apply below_drew1)|exact HB.out)) hb);clear HB;have HO104:=n0_;have HB:=n1_;clear n0_ n1_;(try clear hb);(try clear hb2);(try clear hk);(try clear hi);(try clear ho0);obtain ⟨Ao11,co11,eo11⟩:=Kd.R_slice HO104.out;subst eo11)|(go_at_call 14;(with_reducible refine (suspend_Check.calls k _ _ t102 t105 _ ?side1 ?side2 A8.out).mono ?_);(case side1=>repeat (first|exact (Kd.R_reads' HO104.out).2.2|(with_reducible refine Kd.C_alloc ?_ _)|(with_reducible refine Kd.C_drewN ?_ _)|(with_reducible refine Kd.C_drew ?_)));(case side2=>exact (Kd.R_reads' HO104.out).2.1);rintro e w12 ⟨rfl,hb⟩;have n0_:=Aside0.mk (Kd.R_below (by (with_reducible repeat (first|apply Kd.R_alloc|apply Kd.R_drewN|apply Kd.R_drew));exact HO104.out) hb);have n1_:=Aside0.mk (below_step (by repeat (first|(with_reducible first|exact HB.out|apply below_alloc|apply pw_below_drewN|apply below_drew1)|exact HB.out)) hb);clear HO104;clear HB;have HO104:=n0_;have HB:=n1_;clear n0_ n1_;(try clear hb);(try clear hb2);(try clear hk);(try clear hi)));try go_wp2_with (first|(go_at_call 8;(with_reducible refine (contangolaw41_Cases.calls k _ _ l0 t102 _ ?side1 ?side2 A7.out).mono ?_);(case side1=>repeat (first|exact HR0.out|(with_reducible refine Kd.C_alloc ?_ _)|(with_reducible refine Kd.C_drewN ?_ _)|(with_reducible refine Kd.C_drew ?_)));(case side2=>exact HC0.out);rintro e w10 ⟨v103,rfl,ho0,hb⟩;have n0_:=Aside0.mk (Kd.R_lower ho0 (below_size (by repeat (first|(with_reducible first|exact HB.out|apply below_alloc|apply pw_below_drewN|apply below_drew1)|exact HB.out))));have n1_:=Aside0.mk (below_step (by repeat (first|(with_reducible first|exact HB.out|apply below_alloc|apply pw_below_drewN|apply below_drew1)|exact HB.out)) hb);clear HB;have HO104:=n0_;have HB:=n1_;clear n0_ n1_;(try clear hb);(try clear hb2);(try clear hk);(try clear hi);(try clear ho0);obtain ⟨Ao11,co11,eo11⟩:=Kd.R_slice HO104.out;subst eo11)|(go_at_call 14;(with_reducible refine (suspend_Check.calls k _ _ t102 t105 _ ?side1 ?side2 A8.out).mono ?_);(case side1=>repeat (first|exact (Kd.R_reads' HO104.out).2.2|(with_reducible refine Kd.C_alloc ?_ _)|(with_reducible refine Kd.C_drewN ?_ _)|(with_reducible refine Kd.C_drew ?_)));(case side2=>exact (Kd.R_reads' HO104.out).2.1);rintro e w12 ⟨rfl,hb⟩;have n0_:=Aside0.mk (Kd.R_below (by (with_reducible repeat (first|apply Kd.R_alloc|apply Kd.R_drewN|apply Kd.R_drew));exact HO104.out) hb);have n1_:=Aside0.mk (below_step (by repeat (first|(with_reducible first|exact HB.out|apply below_alloc|apply pw_below_drewN|apply below_drew1)|exact HB.out)) hb);clear HO104;clear HB;have HO104:=n0_;have HB:=n1_;clear n0_ n1_;(try clear hb);(try clear hb2);(try clear hk);(try clear hi))))
   go_loopg [7,8,9] k (fun kq v7 v8 v9 w'=>∃ (x7_1:List (S37)) (x8_1:Int) (x9_1:Int),v8 = .int .i64 x8_1 ∧ v9 = .int .i64 x9_1 ∧ Aside0 (contangolaw41_SuspendOnly.l0 kq a1 l2 x7_1 x8_1 x9_1 = some r) ∧ Aside0 (kq ≤ k) ∧ Aside0 (Kd.R k37 37 w' w.heap.size (fun _=>True) v7 x7_1) ∧ Aside0 (Below w.heap.size w w'))
   case atStart=>exact ⟨(t102),(0),(0),(by first|rfl|(simp;done)|(simp [*];done)),(by first|rfl|(simp;done)|(simp [*];done)),H',⟨Nat.le_refl _⟩,⟨by (with_reducible repeat (first|apply Kd.R_alloc|apply Kd.R_drewN|apply Kd.R_drew));exact HO104.out⟩,⟨by repeat (first|(with_reducible first|exact HB.out|apply below_alloc|apply pw_below_drewN|apply below_drew1)|exact HB.out)⟩⟩
   case round =>
    clear H'
    try clear c2
    try clear p2
    try clear c4
    try clear c4b0
    try clear c4b1
    try clear c5
    try clear c9
    try clear c9b0
    try clear c9b1
    obtain ⟨x7_1,x8_1,x9_1,rfl,rfl,HA,HK1,HO_7,HB⟩:=hrel
    cases gk with
    | zero=>exact absurd HA.out (by simp [contangolaw41_SuspendOnly.l0])
    | succ k1 =>
     have H:=HA.out
     clear HA
     simp only [contangolaw41_SuspendOnly.l0] at H
     by_cases c13:x9_1 < (l2.length:Int)
     ·rw [if_pos c13] at H
      have c13b0:decide (x9_1 < (l2.length:Int)) = true:=decide_eq_true c13
      clear c13
      replace H:=Option.bind_eq_some_iff.mp H
      obtain ⟨⟨t109,t110,t111,t112⟩,A140,H⟩:=H
      replace H:(if 0 ≤ x9_1 then ((suspend_Step.f k1 x7_1 a1 (rd l2 x9_1)).bind fun bt115=>(if bt115.2 = 0 then ((suspend_Of.f k1 bt115.1 a1).bind fun bt119=>(if bt119.2.2.2 = true then (if bt119.2.1 = (rd l2 x9_1) then (if bt119.2.1 ≤ t110 then (contangolaw41_SuspendOnly.j1 k1 a1 l2 x7_1 x8_1 x9_1 bt115.1 true) else (if bt119.2.2.1 = t111 then (contangolaw41_SuspendOnly.j1 k1 a1 l2 x7_1 x8_1 x9_1 bt115.1 ((bt115.1.length:Int) != (x7_1.length:Int))) else (contangolaw41_SuspendOnly.j1 k1 a1 l2 x7_1 x8_1 x9_1 bt115.1 true))) else (contangolaw41_SuspendOnly.j1 k1 a1 l2 x7_1 x8_1 x9_1 bt115.1 true)) else (contangolaw41_SuspendOnly.j1 k1 a1 l2 x7_1 x8_1 x9_1 bt115.1 true))) else (contangolaw41_SuspendOnly.l0 k1 a1 l2 x7_1 x8_1 (wrap64 (x9_1 + 1))))) else (none)) = some r:=H
      have A14:=Aside0.mk A140
      clear A140
      by_cases c15:0 ≤ x9_1
      ·rw [if_pos c15] at H
       have c15b0:decide (0 ≤ x9_1) = true:=decide_eq_true c15
       clear c15
       replace H:=Option.bind_eq_some_iff.mp H
       obtain ⟨⟨t115,t116⟩,A160,H⟩:=H
       replace H:(if t116 = 0 then ((suspend_Of.f k1 t115 a1).bind fun bt119=>(if bt119.2.2.2 = true then (if bt119.2.1 = (rd l2 x9_1) then (if bt119.2.1 ≤ t110 then (contangolaw41_SuspendOnly.j1 k1 a1 l2 x7_1 x8_1 x9_1 t115 true) else (if bt119.2.2.1 = t111 then (contangolaw41_SuspendOnly.j1 k1 a1 l2 x7_1 x8_1 x9_1 t115 ((t115.length:Int) != (x7_1.length:Int))) else (contangolaw41_SuspendOnly.j1 k1 a1 l2 x7_1 x8_1 x9_1 t115 true))) else (contangolaw41_SuspendOnly.j1 k1 a1 l2 x7_1 x8_1 x9_1 t115 true)) else (contangolaw41_SuspendOnly.j1 k1 a1 l2 x7_1 x8_1 x9_1 t115 true))) else (contangolaw41_SuspendOnly.l0 k1 a1 l2 x7_1 x8_1 (wrap64 (x9_1 + 1)))) = some r:=H
       have A16:=Aside0.mk A160
       clear A160
       by_cases c17:t116 = 0
       ·rw [if_pos c17] at H
        have c17b0:(t116 == 0) = true:=beq_iff_eq.mpr c17
        have c17b1:(t116 != 0) = false:=bne_eq_false_iff_eq.mpr c17
        clear c17
        replace H:=Option.bind_eq_some_iff.mp H
        obtain ⟨⟨t119,t120,t121,t122⟩,A180,H⟩:=H
        replace H:(if t122 = true then (if t120 = (rd l2 x9_1) then (if t120 ≤ t110 then (contangolaw41_SuspendOnly.j1 k1 a1 l2 x7_1 x8_1 x9_1 t115 true) else (if t121 = t111 then (contangolaw41_SuspendOnly.j1 k1 a1 l2 x7_1 x8_1 x9_1 t115 ((t115.length:Int) != (x7_1.length:Int))) else (contangolaw41_SuspendOnly.j1 k1 a1 l2 x7_1 x8_1 x9_1 t115 true))) else (contangolaw41_SuspendOnly.j1 k1 a1 l2 x7_1 x8_1 x9_1 t115 true)) else (contangolaw41_SuspendOnly.j1 k1 a1 l2 x7_1 x8_1 x9_1 t115 true)) = some r:=H
        have A18:=Aside0.mk A180
        clear A180
        have HC19:=Aside0.mk H
        clear H
        obtain ⟨Ao20,co20,eo20⟩:=Kd.R_slice HO_7.out
        subst eo20
        go_upto_region 14 with (first|(go_at_call 15;(with_reducible refine (suspend_Of.calls k1 _ _ x7_1 a1 t109 t110 t111 t112 _ ?side1 ?side2 A14.out).mono ?_);(case side1=>repeat (first|exact (Kd.R_reads' HO_7.out).2.2|(with_reducible refine Kd.C_alloc ?_ _)|(with_reducible refine Kd.C_drewN ?_ _)|(with_reducible refine Kd.C_drew ?_)));(case side2=>exact (Kd.R_reads' HO_7.out).2.1);rintro e w21 ⟨rfl,hb⟩;have n0_:=Aside0.mk (Kd.R_below (by (with_reducible repeat (first|apply Kd.R_alloc|apply Kd.R_drewN|apply Kd.R_drew));exact HO_7.out) hb);have n1_:=Aside0.mk (below_step (by repeat (first|(with_reducible first|exact HB.out|apply below_alloc|apply pw_below_drewN|apply below_drew1)|exact HB.out)) hb);clear HO_7;clear HB;have HO_7:=n0_;have HB:=n1_;clear n0_ n1_;(try clear hb);(try clear hb2);(try clear hk);(try clear hi))|((with_reducible refine gate_dst (N:=10) rfl ?_);(try (refine gate_guard (by rfl) ?_;dsimp only));refine box_event ?hg (N:=10) ?hd (cs:=#[.string (⟨#[]⟩:ByteArray),.int .i64 0,.int .i64 0]) (t:=37) ?hr ?_;(case hd=>rfl);(case hg=>rfl);(case hr=>first|(go_simp;done)|(go_simp;rfl));intro gb113 hg w22 hbox hb;have n0_:=Aside0.mk (Kd.R_below (Kd.R_elderB (by (with_reducible repeat (first|apply Kd.R_alloc|apply Kd.R_drewN|apply Kd.R_drew));exact HO_7.out) gb113 (Nat.le_of_eq hg.symm)) hb);have n1_:=Aside0.mk (below_step (by repeat (first|(with_reducible first|exact HB.out|apply below_alloc|apply pw_below_drewN|apply below_drew1)|exact HB.out)) hb);have n2_:=Aside0.mk (hbox);have n3_:=Aside0.mk ((by rw [hg];exact (below_size (by repeat (first|(with_reducible first|exact HB.out|apply below_alloc|apply pw_below_drewN|apply below_drew1)|exact HB.out))):w.heap.size ≤ gb113));have n4_:=Aside0.mk ((by rw [hg];exact (below_size (by repeat (first|(with_reducible first|exact HB.out|apply below_alloc|apply pw_below_drewN|apply below_drew1)|exact HB.out))):w.heap.size ≤ gb113));clear HO_7;clear HB;have HO_7:=n0_;have HB:=n1_;have BK113:=n2_;have GW113:=n3_;have GE113:=n4_;clear n0_ n1_ n2_ n3_ n4_;clear hb hbox hg;have hcz23_0:w22.cell? ⟨gb113,0,none⟩ = some (.string (⟨#[]⟩:ByteArray)):=(blk_cell BK113.out 0).trans rfl;have hcz23_1:w22.cell? ⟨gb113,1,none⟩ = some (.int .i64 0):=(blk_cell BK113.out 1).trans rfl;have hcz23_2:w22.cell? ⟨gb113,2,none⟩ = some (.int .i64 0):=(blk_cell BK113.out 2).trans rfl;have hfz23_0:=blk_frozen BK113.out 0;have hfz23_1:=blk_frozen BK113.out 1;have hfz23_2:=blk_frozen BK113.out 2;have p114:0 ≤ (x9_1:Int):=of_decide_eq_true (by first|(with_reducible assumption)|assumption);have q114:x9_1 < (l2.length:Int):=of_decide_eq_true (by first|(with_reducible assumption)|assumption);obtain ⟨ad114,e114,hx114_0⟩:=Kd.at_int HR2.out x9_1 p114 q114;cases e114;have hn114_0:ad114.block ≠ gb113:=Nat.ne_of_lt (Nat.lt_of_lt_of_le (by have:=World.block_lt_of_cell? _ _ hx114_0;first|rwa [add_block] at this|exact this) GW113.out);have hn114_1:ad114.block ≠ gb113:=Nat.ne_of_lt (Nat.lt_of_lt_of_le (by have:=World.block_lt_of_cell? _ _ hx114_0;first|rwa [add_block] at this|exact this) GW113.out);have hn114_2:ad114.block ≠ gb113:=Nat.ne_of_lt (Nat.lt_of_lt_of_le (by have:=World.block_lt_of_cell? _ _ hx114_0;first|rwa [add_block] at this|exact this) GW113.out);replace hx114_0:=(HB.out.cell (World.block_lt_of_cell? w _ hx114_0)).trans hx114_0;replace hx114_0:=(cell_far (p:=⟨gb113,0,none⟩) (by first|(rw [add_block];exact hn114_0)|(show (Addr.add _ _).block ≠ _;rw [add_block];exact hn114_0)|exact hn114_0) (.string t109)).trans hx114_0;replace hx114_0:=(cell_far (p:=⟨gb113,1,none⟩) (by first|(rw [add_block];exact hn114_1)|(show (Addr.add _ _).block ≠ _;rw [add_block];exact hn114_1)|exact hn114_1) (.int .i64 t110)).trans hx114_0;replace hx114_0:=(cell_far (p:=⟨gb113,2,none⟩) (by first|(rw [add_block];exact hn114_2)|(show (Addr.add _ _).block ≠ _;rw [add_block];exact hn114_2)|exact hn114_2) (.int .i64 t111)).trans hx114_0;(try have hy114_0:=fun (n_:Nat)=>(show (((((w22.drewN n_).setCell ⟨gb113,0,none⟩ (.string t109)).setCell ⟨gb113,1,none⟩ (.int .i64 t110)).setCell ⟨gb113,2,none⟩ (.int .i64 t111))).cell? _ = some _ from hx114_0));clear hn114_0;clear hn114_1;clear hn114_2;replace p114:=eq_true p114;replace q114:=eq_true q114)|(go_at_call 7;(with_reducible refine (suspend_Step.calls k1 _ _ x7_1 a1 (rd l2 x9_1) t115 t116 _ ?side1 ?side2 A16.out).mono ?_);(case side1=>refine (Kd.R_reads' (e:=37) (base:=w.heap.size) (ok:=fun k_=>(True ∧ k_ ≠ gb113)) (n:=x7_1.length) (c:=co20) ?_).2.2;exact (by (with_reducible repeat (first|apply Kd.R_alloc|apply Kd.R_drewN|apply Kd.R_drew));exact (Kd.R_mono (Kd.R_far (p:=⟨gb113,2,none⟩) (Kd.R_far (p:=⟨gb113,1,none⟩) (Kd.R_far (p:=⟨gb113,0,none⟩) (Kd.R_mono HO_7.out (fun k_ hk=>(⟨hk,hk.2⟩:_ ∧ k_ ≠ gb113))) (fun _ hk=>hk.2) (.string t109)) (fun _ hk=>hk.2) (.int .i64 t110)) (fun _ hk=>hk.2) (.int .i64 t111)) (fun _ h_=>h_.1))));(case side2=>exact (Kd.R_reads' HO_7.out).2.1);rintro e w24 ⟨v117,rfl,ho0,hb⟩;have n0_:=Aside0.mk (Kd.R_elder' (by (with_reducible repeat (first|apply Kd.R_alloc|apply Kd.R_drewN|apply Kd.R_drew));exact (Kd.R_mono (Kd.R_far (p:=⟨gb113,2,none⟩) (Kd.R_far (p:=⟨gb113,1,none⟩) (Kd.R_far (p:=⟨gb113,0,none⟩) (Kd.R_mono HO_7.out (fun k_ hk=>(⟨hk,hk.2⟩:_ ∧ k_ ≠ gb113))) (fun _ hk=>hk.2) (.string t109)) (fun _ hk=>hk.2) (.int .i64 t110)) (fun _ hk=>hk.2) (.int .i64 t111)) (fun _ h_=>h_.1))) (Kd.R_base ho0) hb);have n1_:=Aside0.mk (Kd.R_lower (Kd.R_newB (Kd.R_new' ho0 (Kd.R_lt (by (with_reducible repeat (first|apply Kd.R_alloc|apply Kd.R_drewN|apply Kd.R_drew));exact (Kd.R_mono (Kd.R_far (p:=⟨gb113,2,none⟩) (Kd.R_far (p:=⟨gb113,1,none⟩) (Kd.R_far (p:=⟨gb113,0,none⟩) (Kd.R_mono HO_7.out (fun k_ hk=>(⟨hk,hk.2⟩:_ ∧ k_ ≠ gb113))) (fun _ hk=>hk.2) (.string t109)) (fun _ hk=>hk.2) (.int .i64 t110)) (fun _ hk=>hk.2) (.int .i64 t111)) (fun _ h_=>h_.1))))) (g:=gb113) (o:=.cells #[.string t109,.int .i64 t110,.int .i64 t111] 37 (0,0)) (by (with_reducible repeat (first|refine blk_drewN ?_ _|refine blk_drew ?_|refine blk_alloc ?_ _));refine blk_put (cs:=#[.string t109,.int .i64 t110,.int .i64 0]) ?_ 2 _ rfl;(with_reducible repeat (first|refine blk_drewN ?_ _|refine blk_drew ?_|refine blk_alloc ?_ _));refine blk_put (cs:=#[.string t109,.int .i64 0,.int .i64 0]) ?_ 1 _ rfl;(with_reducible repeat (first|refine blk_drewN ?_ _|refine blk_drew ?_|refine blk_alloc ?_ _));refine blk_put (cs:=#[.string (⟨#[]⟩:ByteArray),.int .i64 0,.int .i64 0]) ?_ 0 _ rfl;(with_reducible repeat (first|refine blk_drewN ?_ _|refine blk_drew ?_|refine blk_alloc ?_ _));exact BK113.out)) (below_size (by repeat (first|(with_reducible first|exact HB.out|apply below_alloc|apply pw_below_drewN|apply below_drew1|refine below_set ?_ GE113.out)|exact HB.out))));have n2_:=Aside0.mk (blk_below (g:=gb113) (o:=.cells #[.string t109,.int .i64 t110,.int .i64 t111] 37 (0,0)) (by (with_reducible repeat (first|refine blk_drewN ?_ _|refine blk_drew ?_|refine blk_alloc ?_ _));refine blk_put (cs:=#[.string t109,.int .i64 t110,.int .i64 0]) ?_ 2 _ rfl;(with_reducible repeat (first|refine blk_drewN ?_ _|refine blk_drew ?_|refine blk_alloc ?_ _));refine blk_put (cs:=#[.string t109,.int .i64 0,.int .i64 0]) ?_ 1 _ rfl;(with_reducible repeat (first|refine blk_drewN ?_ _|refine blk_drew ?_|refine blk_alloc ?_ _));refine blk_put (cs:=#[.string (⟨#[]⟩:ByteArray),.int .i64 0,.int .i64 0]) ?_ 0 _ rfl;(with_reducible repeat (first|refine blk_drewN ?_ _|refine blk_drew ?_|refine blk_alloc ?_ _));exact BK113.out) hb);have n3_:=Aside0.mk (below_step (by repeat (first|(with_reducible first|exact HB.out|apply below_alloc|apply pw_below_drewN|apply below_drew1|refine below_set ?_ GE113.out)|exact HB.out)) hb);clear HO_7;clear BK113;clear HB;have HO_7:=n0_;have HO118:=n1_;have BK113:=n2_;have HB:=n3_;clear n0_ n1_ n2_ n3_;(try clear hb);(try clear hb2);(try clear hk);(try clear hi);(try clear ho0);obtain ⟨Ao25,co25,eo25⟩:=Kd.R_slice HO118.out;subst eo25)|(go_at_call 15;(with_reducible refine (suspend_Of.calls k1 _ _ t115 a1 t119 t120 t121 t122 _ ?side1 ?side2 A18.out).mono ?_);(case side1=>repeat (first|exact (Kd.R_reads' HO118.out).2.2|(with_reducible refine Kd.C_alloc ?_ _)|(with_reducible refine Kd.C_drewN ?_ _)|(with_reducible refine Kd.C_drew ?_)));(case side2=>exact (Kd.R_reads' HO118.out).2.1);rintro e w26 ⟨rfl,hb⟩;have n0_:=Aside0.mk (Kd.R_below (by (with_reducible repeat (first|apply Kd.R_alloc|apply Kd.R_drewN|apply Kd.R_drew));exact HO_7.out) hb);have n1_:=Aside0.mk (Kd.R_below (by (with_reducible repeat (first|apply Kd.R_alloc|apply Kd.R_drewN|apply Kd.R_drew));exact HO118.out) hb);have n2_:=Aside0.mk (blk_below (g:=gb113) (o:=.cells #[.string t109,.int .i64 t110,.int .i64 t111] 37 (0,0)) (by (with_reducible repeat (first|refine blk_drewN ?_ _|refine blk_drew ?_|refine blk_alloc ?_ _));exact BK113.out) hb);have n3_:=Aside0.mk (below_step (by repeat (first|(with_reducible first|exact HB.out|apply below_alloc|apply pw_below_drewN|apply below_drew1|refine below_set ?_ GE113.out)|exact HB.out)) hb);clear HO_7;clear HO118;clear BK113;clear HB;have HO_7:=n0_;have HO118:=n1_;have BK113:=n2_;have HB:=n3_;clear n0_ n1_ n2_ n3_;(try clear hb);(try clear hb2);(try clear hk);(try clear hi))|((with_reducible refine gate_dst (N:=14) rfl ?_);(try (refine gate_guard (by rfl) ?_;dsimp only));refine box_event ?hg (N:=14) ?hd (cs:=#[.string (⟨#[]⟩:ByteArray),.int .i64 0,.int .i64 0]) (t:=37) ?hr ?_;(case hd=>rfl);(case hg=>rfl);(case hr=>first|(go_simp;done)|(go_simp;rfl));intro gb123 hg w27 hbox hb;have n0_:=Aside0.mk (Kd.R_below (Kd.R_elderB (by (with_reducible repeat (first|apply Kd.R_alloc|apply Kd.R_drewN|apply Kd.R_drew));exact HO_7.out) gb123 (Nat.le_of_eq hg.symm)) hb);have n1_:=Aside0.mk (Kd.R_below (Kd.R_elderB (by (with_reducible repeat (first|apply Kd.R_alloc|apply Kd.R_drewN|apply Kd.R_drew));exact HO118.out) gb123 (Nat.le_of_eq hg.symm)) hb);have n2_:=Aside0.mk (blk_below (g:=gb113) (o:=.cells #[.string t109,.int .i64 t110,.int .i64 t111] 37 (0,0)) (by (with_reducible repeat (first|refine blk_drewN ?_ _|refine blk_drew ?_|refine blk_alloc ?_ _));exact BK113.out) hb);have n3_:=Aside0.mk (below_step (by repeat (first|(with_reducible first|exact HB.out|apply below_alloc|apply pw_below_drewN|apply below_drew1|refine below_set ?_ GE113.out)|exact HB.out)) hb);have n4_:=Aside0.mk (hbox);have n5_:=Aside0.mk ((by rw [hg];exact (below_size (by repeat (first|(with_reducible first|exact HB.out|apply below_alloc|apply pw_below_drewN|apply below_drew1|refine below_set ?_ GE113.out)|exact HB.out))):w.heap.size ≤ gb123));have n6_:=Aside0.mk ((by rw [hg];exact (below_size (by repeat (first|(with_reducible first|exact HB.out|apply below_alloc|apply pw_below_drewN|apply below_drew1|refine below_set ?_ GE113.out)|exact HB.out))):w.heap.size ≤ gb123));have n7_:=Aside0.mk ((by rw [hg];exact Nat.ne_of_lt (blk_lt (g:=gb113) (o:=.cells #[.string t109,.int .i64 t110,.int .i64 t111] 37 (0,0)) (by (with_reducible repeat (first|refine blk_drewN ?_ _|refine blk_drew ?_|refine blk_alloc ?_ _));exact BK113.out)):gb113 ≠ gb123));have n8_:=Aside0.mk ((by rw [hg];exact Nat.ne_of_gt (blk_lt (g:=gb113) (o:=.cells #[.string t109,.int .i64 t110,.int .i64 t111] 37 (0,0)) (by (with_reducible repeat (first|refine blk_drewN ?_ _|refine blk_drew ?_|refine blk_alloc ?_ _));exact BK113.out)):gb123 ≠ gb113));clear HO_7;clear HO118;clear BK113;clear HB;have HO_7:=n0_;have HO118:=n1_;have BK113:=n2_;have HB:=n3_;have BK123:=n4_;have GW123:=n5_;have GE123:=n6_;have NB113_123:=n7_;have NB123_113:=n8_;clear n0_ n1_ n2_ n3_ n4_ n5_ n6_ n7_ n8_;clear hb hbox hg;have hnb28:=NB123_113.out;have hnc28:=NB113_123.out;have hcz29_0:w27.cell? ⟨gb123,0,none⟩ = some (.string (⟨#[]⟩:ByteArray)):=(blk_cell BK123.out 0).trans rfl;have hcz29_1:w27.cell? ⟨gb123,1,none⟩ = some (.int .i64 0):=(blk_cell BK123.out 1).trans rfl;have hcz29_2:w27.cell? ⟨gb123,2,none⟩ = some (.int .i64 0):=(blk_cell BK123.out 2).trans rfl;have hfz29_0:=blk_frozen BK123.out 0;have hfz29_1:=blk_frozen BK123.out 1;have hfz29_2:=blk_frozen BK123.out 2))
        repeat (go_quiet (first|(go_at_call 15;(with_reducible refine (suspend_Of.calls k1 _ _ x7_1 a1 t109 t110 t111 t112 _ ?side1 ?side2 A14.out).mono ?_);(case side1=>repeat (first|exact (Kd.R_reads' HO_7.out).2.2|(with_reducible refine Kd.C_alloc ?_ _)|(with_reducible refine Kd.C_drewN ?_ _)|(with_reducible refine Kd.C_drew ?_)));(case side2=>exact (Kd.R_reads' HO_7.out).2.1);rintro e w21 ⟨rfl,hb⟩;have n0_:=Aside0.mk (Kd.R_below (by (with_reducible repeat (first|apply Kd.R_alloc|apply Kd.R_drewN|apply Kd.R_drew));exact HO_7.out) hb);have n1_:=Aside0.mk (below_step (by repeat (first|(with_reducible first|exact HB.out|apply below_alloc|apply pw_below_drewN|apply below_drew1)|exact HB.out)) hb);clear HO_7;clear HB;have HO_7:=n0_;have HB:=n1_;clear n0_ n1_;(try clear hb);(try clear hb2);(try clear hk);(try clear hi))|((with_reducible refine gate_dst (N:=10) rfl ?_);(try (refine gate_guard (by rfl) ?_;dsimp only));refine box_event ?hg (N:=10) ?hd (cs:=#[.string (⟨#[]⟩:ByteArray),.int .i64 0,.int .i64 0]) (t:=37) ?hr ?_;(case hd=>rfl);(case hg=>rfl);(case hr=>first|(go_simp;done)|(go_simp;rfl));intro gb113 hg w22 hbox hb;have n0_:=Aside0.mk (Kd.R_below (Kd.R_elderB (by (with_reducible repeat (first|apply Kd.R_alloc|apply Kd.R_drewN|apply Kd.R_drew));exact HO_7.out) gb113 (Nat.le_of_eq hg.symm)) hb);have n1_:=Aside0.mk (below_step (by repeat (first|(with_reducible first|exact HB.out|apply below_alloc|apply pw_below_drewN|apply below_drew1)|exact HB.out)) hb);have n2_:=Aside0.mk (hbox);have n3_:=Aside0.mk ((by rw [hg];exact (below_size (by repeat (first|(with_reducible first|exact HB.out|apply below_alloc|apply pw_below_drewN|apply below_drew1)|exact HB.out))):w.heap.size ≤ gb113));have n4_:=Aside0.mk ((by rw [hg];exact (below_size (by repeat (first|(with_reducible first|exact HB.out|apply below_alloc|apply pw_below_drewN|apply below_drew1)|exact HB.out))):w.heap.size ≤ gb113));clear HO_7;clear HB;have HO_7:=n0_;have HB:=n1_;have BK113:=n2_;have GW113:=n3_;have GE113:=n4_;clear n0_ n1_ n2_ n3_ n4_;clear hb hbox hg;have hcz23_0:w22.cell? ⟨gb113,0,none⟩ = some (.string (⟨#[]⟩:ByteArray)):=(blk_cell BK113.out 0).trans rfl;have hcz23_1:w22.cell? ⟨gb113,1,none⟩ = some (.int .i64 0):=(blk_cell BK113.out 1).trans rfl;have hcz23_2:w22.cell? ⟨gb113,2,none⟩ = some (.int .i64 0):=(blk_cell BK113.out 2).trans rfl;have hfz23_0:=blk_frozen BK113.out 0;have hfz23_1:=blk_frozen BK113.out 1;have hfz23_2:=blk_frozen BK113.out 2;have p114:0 ≤ (x9_1:Int):=of_decide_eq_true (by first|(with_reducible assumption)|assumption);have q114:x9_1 < (l2.length:Int):=of_decide_eq_true (by first|(with_reducible assumption)|assumption);obtain ⟨ad114,e114,hx114_0⟩:=Kd.at_int HR2.out x9_1 p114 q114;cases e114;have hn114_0:ad114.block ≠ gb113:=Nat.ne_of_lt (Nat.lt_of_lt_of_le (by have:=World.block_lt_of_cell? _ _ hx114_0;first|rwa [add_block] at this|exact this) GW113.out);have hn114_1:ad114.block ≠ gb113:=Nat.ne_of_lt (Nat.lt_of_lt_of_le (by have:=World.block_lt_of_cell? _ _ hx114_0;first|rwa [add_block] at this|exact this) GW113.out);have hn114_2:ad114.block ≠ gb113:=Nat.ne_of_lt (Nat.lt_of_lt_of_le (by have:=World.block_lt_of_cell? _ _ hx114_0;first|rwa [add_block] at this|exact this) GW113.out);replace hx114_0:=(HB.out.cell (World.block_lt_of_cell? w _ hx114_0)).trans hx114_0;replace hx114_0:=(cell_far (p:=⟨gb113,0,none⟩) (by first|(rw [add_block];exact hn114_0)|(show (Addr.add _ _).block ≠ _;rw [add_block];exact hn114_0)|exact hn114_0) (.string t109)).trans hx114_0;replace hx114_0:=(cell_far (p:=⟨gb113,1,none⟩) (by first|(rw [add_block];exact hn114_1)|(show (Addr.add _ _).block ≠ _;rw [add_block];exact hn114_1)|exact hn114_1) (.int .i64 t110)).trans hx114_0;replace hx114_0:=(cell_far (p:=⟨gb113,2,none⟩) (by first|(rw [add_block];exact hn114_2)|(show (Addr.add _ _).block ≠ _;rw [add_block];exact hn114_2)|exact hn114_2) (.int .i64 t111)).trans hx114_0;(try have hy114_0:=fun (n_:Nat)=>(show (((((w22.drewN n_).setCell ⟨gb113,0,none⟩ (.string t109)).setCell ⟨gb113,1,none⟩ (.int .i64 t110)).setCell ⟨gb113,2,none⟩ (.int .i64 t111))).cell? _ = some _ from hx114_0));clear hn114_0;clear hn114_1;clear hn114_2;replace p114:=eq_true p114;replace q114:=eq_true q114)|(go_at_call 7;(with_reducible refine (suspend_Step.calls k1 _ _ x7_1 a1 (rd l2 x9_1) t115 t116 _ ?side1 ?side2 A16.out).mono ?_);(case side1=>refine (Kd.R_reads' (e:=37) (base:=w.heap.size) (ok:=fun k_=>(True ∧ k_ ≠ gb113)) (n:=x7_1.length) (c:=co20) ?_).2.2;exact (by (with_reducible repeat (first|apply Kd.R_alloc|apply Kd.R_drewN|apply Kd.R_drew));exact (Kd.R_mono (Kd.R_far (p:=⟨gb113,2,none⟩) (Kd.R_far (p:=⟨gb113,1,none⟩) (Kd.R_far (p:=⟨gb113,0,none⟩) (Kd.R_mono HO_7.out (fun k_ hk=>(⟨hk,hk.2⟩:_ ∧ k_ ≠ gb113))) (fun _ hk=>hk.2) (.string t109)) (fun _ hk=>hk.2) (.int .i64 t110)) (fun _ hk=>hk.2) (.int .i64 t111)) (fun _ h_=>h_.1))));(case side2=>exact (Kd.R_reads' HO_7.out).2.1);rintro e w24 ⟨v117,rfl,ho0,hb⟩;have n0_:=Aside0.mk (Kd.R_elder' (by (with_reducible repeat (first|apply Kd.R_alloc|apply Kd.R_drewN|apply Kd.R_drew));exact (Kd.R_mono (Kd.R_far (p:=⟨gb113,2,none⟩) (Kd.R_far (p:=⟨gb113,1,none⟩) (Kd.R_far (p:=⟨gb113,0,none⟩) (Kd.R_mono HO_7.out (fun k_ hk=>(⟨hk,hk.2⟩:_ ∧ k_ ≠ gb113))) (fun _ hk=>hk.2) (.string t109)) (fun _ hk=>hk.2) (.int .i64 t110)) (fun _ hk=>hk.2) (.int .i64 t111)) (fun _ h_=>h_.1))) (Kd.R_base ho0) hb);have n1_:=Aside0.mk (Kd.R_lower (Kd.R_newB (Kd.R_new' ho0 (Kd.R_lt (by (with_reducible repeat (first|apply Kd.R_alloc|apply Kd.R_drewN|apply Kd.R_drew));exact (Kd.R_mono (Kd.R_far (p:=⟨gb113,2,none⟩) (Kd.R_far (p:=⟨gb113,1,none⟩) (Kd.R_far (p:=⟨gb113,0,none⟩) (Kd.R_mono HO_7.out (fun k_ hk=>(⟨hk,hk.2⟩:_ ∧ k_ ≠ gb113))) (fun _ hk=>hk.2) (.string t109)) (fun _ hk=>hk.2) (.int .i64 t110)) (fun _ hk=>hk.2) (.int .i64 t111)) (fun _ h_=>h_.1))))) (g:=gb113) (o:=.cells #[.string t109,.int .i64 t110,.int .i64 t111] 37 (0,0)) (by (with_reducible repeat (first|refine blk_drewN ?_ _|refine blk_drew ?_|refine blk_alloc ?_ _));refine blk_put (cs:=#[.string t109,.int .i64 t110,.int .i64 0]) ?_ 2 _ rfl;(with_reducible repeat (first|refine blk_drewN ?_ _|refine blk_drew ?_|refine blk_alloc ?_ _));refine blk_put (cs:=#[.string t109,.int .i64 0,.int .i64 0]) ?_ 1 _ rfl;(with_reducible repeat (first|refine blk_drewN ?_ _|refine blk_drew ?_|refine blk_alloc ?_ _));refine blk_put (cs:=#[.string (⟨#[]⟩:ByteArray),.int .i64 0,.int .i64 0]) ?_ 0 _ rfl;(with_reducible repeat (first|refine blk_drewN ?_ _|refine blk_drew ?_|refine blk_alloc ?_ _));exact BK113.out)) (below_size (by repeat (first|(with_reducible first|exact HB.out|apply below_alloc|apply pw_below_drewN|apply below_drew1|refine below_set ?_ GE113.out)|exact HB.out))));have n2_:=Aside0.mk (blk_below (g:=gb113) (o:=.cells #[.string t109,.int .i64 t110,.int .i64 t111] 37 (0,0)) (by (with_reducible repeat (first|refine blk_drewN ?_ _|refine blk_drew ?_|refine blk_alloc ?_ _));refine blk_put (cs:=#[.string t109,.int .i64 t110,.int .i64 0]) ?_ 2 _ rfl;(with_reducible repeat (first|refine blk_drewN ?_ _|refine blk_drew ?_|refine blk_alloc ?_ _));refine blk_put (cs:=#[.string t109,.int .i64 0,.int .i64 0]) ?_ 1 _ rfl;(with_reducible repeat (first|refine blk_drewN ?_ _|refine blk_drew ?_|refine blk_alloc ?_ _));refine blk_put (cs:=#[.string (⟨#[]⟩:ByteArray),.int .i64 0,.int .i64 0]) ?_ 0 _ rfl;(with_reducible repeat (first|refine blk_drewN ?_ _|refine blk_drew ?_|refine blk_alloc ?_ _));exact BK113.out) hb);have n3_:=Aside0.mk (below_step (by repeat (first|(with_reducible first|exact HB.out|apply below_alloc|apply pw_below_drewN|apply below_drew1|refine below_set ?_ GE113.out)|exact HB.out)) hb);clear HO_7;clear BK113;clear HB;have HO_7:=n0_;have HO118:=n1_;have BK113:=n2_;have HB:=n3_;clear n0_ n1_ n2_ n3_;(try clear hb);(try clear hb2);(try clear hk);(try clear hi);(try clear ho0);obtain ⟨Ao25,co25,eo25⟩:=Kd.R_slice HO118.out;subst eo25)|(go_at_call 15;(with_reducible refine (suspend_Of.calls k1 _ _ t115 a1 t119 t120 t121 t122 _ ?side1 ?side2 A18.out).mono ?_);(case side1=>repeat (first|exact (Kd.R_reads' HO118.out).2.2|(with_reducible refine Kd.C_alloc ?_ _)|(with_reducible refine Kd.C_drewN ?_ _)|(with_reducible refine Kd.C_drew ?_)));(case side2=>exact (Kd.R_reads' HO118.out).2.1);rintro e w26 ⟨rfl,hb⟩;have n0_:=Aside0.mk (Kd.R_below (by (with_reducible repeat (first|apply Kd.R_alloc|apply Kd.R_drewN|apply Kd.R_drew));exact HO_7.out) hb);have n1_:=Aside0.mk (Kd.R_below (by (with_reducible repeat (first|apply Kd.R_alloc|apply Kd.R_drewN|apply Kd.R_drew));exact HO118.out) hb);have n2_:=Aside0.mk (blk_below (g:=gb113) (o:=.cells #[.string t109,.int .i64 t110,.int .i64 t111] 37 (0,0)) (by (with_reducible repeat (first|refine blk_drewN ?_ _|refine blk_drew ?_|refine blk_alloc ?_ _));exact BK113.out) hb);have n3_:=Aside0.mk (below_step (by repeat (first|(with_reducible first|exact HB.out|apply below_alloc|apply pw_below_drewN|apply below_drew1|refine below_set ?_ GE113.out)|exact HB.out)) hb);clear HO_7;clear HO118;clear BK113;clear HB;have HO_7:=n0_;have HO118:=n1_;have BK113:=n2_;have HB:=n3_;clear n0_ n1_ n2_ n3_;(try clear hb);(try clear hb2);(try clear hk);(try clear hi))|((with_reducible refine gate_dst (N:=14) rfl ?_);(try (refine gate_guard (by rfl) ?_;dsimp only));refine box_event ?hg (N:=14) ?hd (cs:=#[.string (⟨#[]⟩:ByteArray),.int .i64 0,.int .i64 0]) (t:=37) ?hr ?_;(case hd=>rfl);(case hg=>rfl);(case hr=>first|(go_simp;done)|(go_simp;rfl));intro gb123 hg w27 hbox hb;have n0_:=Aside0.mk (Kd.R_below (Kd.R_elderB (by (with_reducible repeat (first|apply Kd.R_alloc|apply Kd.R_drewN|apply Kd.R_drew));exact HO_7.out) gb123 (Nat.le_of_eq hg.symm)) hb);have n1_:=Aside0.mk (Kd.R_below (Kd.R_elderB (by (with_reducible repeat (first|apply Kd.R_alloc|apply Kd.R_drewN|apply Kd.R_drew));exact HO118.out) gb123 (Nat.le_of_eq hg.symm)) hb);have n2_:=Aside0.mk (blk_below (g:=gb113) (o:=.cells #[.string t109,.int .i64 t110,.int .i64 t111] 37 (0,0)) (by (with_reducible repeat (first|refine blk_drewN ?_ _|refine blk_drew ?_|refine blk_alloc ?_ _));exact BK113.out) hb);have n3_:=Aside0.mk (below_step (by repeat (first|(with_reducible first|exact HB.out|apply below_alloc|apply pw_below_drewN|apply below_drew1|refine below_set ?_ GE113.out)|exact HB.out)) hb);have n4_:=Aside0.mk (hbox);have n5_:=Aside0.mk ((by rw [hg];exact (below_size (by repeat (first|(with_reducible first|exact HB.out|apply below_alloc|apply pw_below_drewN|apply below_drew1|refine below_set ?_ GE113.out)|exact HB.out))):w.heap.size ≤ gb123));have n6_:=Aside0.mk ((by rw [hg];exact (below_size (by repeat (first|(with_reducible first|exact HB.out|apply below_alloc|apply pw_below_drewN|apply below_drew1|refine below_set ?_ GE113.out)|exact HB.out))):w.heap.size ≤ gb123));have n7_:=Aside0.mk ((by rw [hg];exact Nat.ne_of_lt (blk_lt (g:=gb113) (o:=.cells #[.string t109,.int .i64 t110,.int .i64 t111] 37 (0,0)) (by (with_reducible repeat (first|refine blk_drewN ?_ _|refine blk_drew ?_|refine blk_alloc ?_ _));exact BK113.out)):gb113 ≠ gb123));have n8_:=Aside0.mk ((by rw [hg];exact Nat.ne_of_gt (blk_lt (g:=gb113) (o:=.cells #[.string t109,.int .i64 t110,.int .i64 t111] 37 (0,0)) (by (with_reducible repeat (first|refine blk_drewN ?_ _|refine blk_drew ?_|refine blk_alloc ?_ _));exact BK113.out)):gb123 ≠ gb113));clear HO_7;clear HO118;clear BK113;clear HB;have HO_7:=n0_;have HO118:=n1_;have BK113:=n2_;have HB:=n3_;have BK123:=n4_;have GW123:=n5_;have GE123:=n6_;have NB113_123:=n7_;have NB123_113:=n8_;clear n0_ n1_ n2_ n3_ n4_ n5_ n6_ n7_ n8_;clear hb hbox hg;have hnb28:=NB123_113.out;have hnc28:=NB113_123.out;have hcz29_0:w27.cell? ⟨gb123,0,none⟩ = some (.string (⟨#[]⟩:ByteArray)):=(blk_cell BK123.out 0).trans rfl;have hcz29_1:w27.cell? ⟨gb123,1,none⟩ = some (.int .i64 0):=(blk_cell BK123.out 1).trans rfl;have hcz29_2:w27.cell? ⟨gb123,2,none⟩ = some (.int .i64 0):=(blk_cell BK123.out 2).trans rfl;have hfz29_0:=blk_frozen BK123.out 0;have hfz29_1:=blk_frozen BK123.out 1;have hfz29_2:=blk_frozen BK123.out 2));go_upto_region 14 with (first|(go_at_call 15;(with_reducible refine (suspend_Of.calls k1 _ _ x7_1 a1 t109 t110 t111 t112 _ ?side1 ?side2 A14.out).mono ?_);(case side1=>repeat (first|exact (Kd.R_reads' HO_7.out).2.2|(with_reducible refine Kd.C_alloc ?_ _)|(with_reducible refine Kd.C_drewN ?_ _)|(with_reducible refine Kd.C_drew ?_)));(case side2=>exact (Kd.R_reads' HO_7.out).2.1);rintro e w21 ⟨rfl,hb⟩;have n0_:=Aside0.mk (Kd.R_below (by (with_reducible repeat (first|apply Kd.R_alloc|apply Kd.R_drewN|apply Kd.R_drew));exact HO_7.out) hb);have n1_:=Aside0.mk (below_step (by repeat (first|(with_reducible first|exact HB.out|apply below_alloc|apply pw_below_drewN|apply below_drew1)|exact HB.out)) hb);clear HO_7;clear HB;have HO_7:=n0_;have HB:=n1_;clear n0_ n1_;(try clear hb);(try clear hb2);(try clear hk);(try clear hi))|((with_reducible refine gate_dst (N:=10) rfl ?_);(try (refine gate_guard (by rfl) ?_;dsimp only));refine box_event ?hg (N:=10) ?hd (cs:=#[.string (⟨#[]⟩:ByteArray),.int .i64 0,.int .i64 0]) (t:=37) ?hr ?_;(case hd=>rfl);(case hg=>rfl);(case hr=>first|(go_simp;done)|(go_simp;rfl));intro gb113 hg w22 hbox hb;have n0_:=Aside0.mk (Kd.R_below (Kd.R_elderB (by (with_reducible repeat (first|apply Kd.R_alloc|apply Kd.R_drewN|apply Kd.R_drew));exact HO_7.out) gb113 (Nat.le_of_eq hg.symm)) hb);have n1_:=Aside0.mk (below_step (by repeat (first|(with_reducible first|exact HB.out|apply below_alloc|apply pw_below_drewN|apply below_drew1)|exact HB.out)) hb);have n2_:=Aside0.mk (hbox);have n3_:=Aside0.mk ((by rw [hg];exact (below_size (by repeat (first|(with_reducible first|exact HB.out|apply below_alloc|apply pw_below_drewN|apply below_drew1)|exact HB.out))):w.heap.size ≤ gb113));have n4_:=Aside0.mk ((by rw [hg];exact (below_size (by repeat (first|(with_reducible first|exact HB.out|apply below_alloc|apply pw_below_drewN|apply below_drew1)|exact HB.out))):w.heap.size ≤ gb113));clear HO_7;clear HB;have HO_7:=n0_;have HB:=n1_;have BK113:=n2_;have GW113:=n3_;have GE113:=n4_;clear n0_ n1_ n2_ n3_ n4_;clear hb hbox hg;have hcz23_0:w22.cell? ⟨gb113,0,none⟩ = some (.string (⟨#[]⟩:ByteArray)):=(blk_cell BK113.out 0).trans rfl;have hcz23_1:w22.cell? ⟨gb113,1,none⟩ = some (.int .i64 0):=(blk_cell BK113.out 1).trans rfl;have hcz23_2:w22.cell? ⟨gb113,2,none⟩ = some (.int .i64 0):=(blk_cell BK113.out 2).trans rfl;have hfz23_0:=blk_frozen BK113.out 0;have hfz23_1:=blk_frozen BK113.out 1;have hfz23_2:=blk_frozen BK113.out 2;have p114:0 ≤ (x9_1:Int):=of_decide_eq_true (by first|(with_reducible assumption)|assumption);have q114:x9_1 < (l2.length:Int):=of_decide_eq_true (by first|(with_reducible assumption)|assumption);obtain ⟨ad114,e114,hx114_0⟩:=Kd.at_int HR2.out x9_1 p114 q114;cases e114;have hn114_0:ad114.block ≠ gb113:=Nat.ne_of_lt (Nat.lt_of_lt_of_le (by have:=World.block_lt_of_cell? _ _ hx114_0;first|rwa [add_block] at this|exact this) GW113.out);have hn114_1:ad114.block ≠ gb113:=Nat.ne_of_lt (Nat.lt_of_lt_of_le (by have:=World.block_lt_of_cell? _ _ hx114_0;first|rwa [add_block] at this|exact this) GW113.out);have hn114_2:ad114.block ≠ gb113:=Nat.ne_of_lt (Nat.lt_of_lt_of_le (by have:=World.block_lt_of_cell? _ _ hx114_0;first|rwa [add_block] at this|exact this) GW113.out);replace hx114_0:=(HB.out.cell (World.block_lt_of_cell? w _ hx114_0)).trans hx114_0;replace hx114_0:=(cell_far (p:=⟨gb113,0,none⟩) (by first|(rw [add_block];exact hn114_0)|(show (Addr.add _ _).block ≠ _;rw [add_block];exact hn114_0)|exact hn114_0) (.string t109)).trans hx114_0;replace hx114_0:=(cell_far (p:=⟨gb113,1,none⟩) (by first|(rw [add_block];exact hn114_1)|(show (Addr.add _ _).block ≠ _;rw [add_block];exact hn114_1)|exact hn114_1) (.int .i64 t110)).trans hx114_0;replace hx114_0:=(cell_far (p:=⟨gb113,2,none⟩) (by first|(rw [add_block];exact hn114_2)|(show (Addr.add _ _).block ≠ _;rw [add_block];exact hn114_2)|exact hn114_2) (.int .i64 t111)).trans hx114_0;(try have hy114_0:=fun (n_:Nat)=>(show (((((w22.drewN n_).setCell ⟨gb113,0,none⟩ (.string t109)).setCell ⟨gb113,1,none⟩ (.int .i64 t110)).setCell ⟨gb113,2,none⟩ (.int .i64 t111))).cell? _ = some _ from hx114_0));clear hn114_0;clear hn114_1;clear hn114_2;replace p114:=eq_true p114;replace q114:=eq_true q114)|(go_at_call 7;(with_reducible refine (suspend_Step.calls k1 _ _ x7_1 a1 (rd l2 x9_1) t115 t116 _ ?side1 ?side2 A16.out).mono ?_);(case side1=>refine (Kd.R_reads' (e:=37) (base:=w.heap.size) (ok:=fun k_=>(True ∧ k_ ≠ gb113)) (n:=x7_1.length) (c:=co20) ?_).2.2;exact (by (with_reducible repeat (first|apply Kd.R_alloc|apply Kd.R_drewN|apply Kd.R_drew));exact (Kd.R_mono (Kd.R_far (p:=⟨gb113,2,none⟩) (Kd.R_far (p:=⟨gb113,1,none⟩) (Kd.R_far (p:=⟨gb113,0,none⟩) (Kd.R_mono HO_7.out (fun k_ hk=>(⟨hk,hk.2⟩:_ ∧ k_ ≠ gb113))) (fun _ hk=>hk.2) (.string t109)) (fun _ hk=>hk.2) (.int .i64 t110)) (fun _ hk=>hk.2) (.int .i64 t111)) (fun _ h_=>h_.1))));(case side2=>exact (Kd.R_reads' HO_7.out).2.1);rintro e w24 ⟨v117,rfl,ho0,hb⟩;have n0_:=Aside0.mk (Kd.R_elder' (by (with_reducible repeat (first|apply Kd.R_alloc|apply Kd.R_drewN|apply Kd.R_drew));exact (Kd.R_mono (Kd.R_far (p:=⟨gb113,2,none⟩) (Kd.R_far (p:=⟨gb113,1,none⟩) (Kd.R_far (p:=⟨gb113,0,none⟩) (Kd.R_mono HO_7.out (fun k_ hk=>(⟨hk,hk.2⟩:_ ∧ k_ ≠ gb113))) (fun _ hk=>hk.2) (.string t109)) (fun _ hk=>hk.2) (.int .i64 t110)) (fun _ hk=>hk.2) (.int .i64 t111)) (fun _ h_=>h_.1))) (Kd.R_base ho0) hb);have n1_:=Aside0.mk (Kd.R_lower (Kd.R_newB (Kd.R_new' ho0 (Kd.R_lt (by (with_reducible repeat (first|apply Kd.R_alloc|apply Kd.R_drewN|apply Kd.R_drew));exact (Kd.R_mono (Kd.R_far (p:=⟨gb113,2,none⟩) (Kd.R_far (p:=⟨gb113,1,none⟩) (Kd.R_far (p:=⟨gb113,0,none⟩) (Kd.R_mono HO_7.out (fun k_ hk=>(⟨hk,hk.2⟩:_ ∧ k_ ≠ gb113))) (fun _ hk=>hk.2) (.string t109)) (fun _ hk=>hk.2) (.int .i64 t110)) (fun _ hk=>hk.2) (.int .i64 t111)) (fun _ h_=>h_.1))))) (g:=gb113) (o:=.cells #[.string t109,.int .i64 t110,.int .i64 t111] 37 (0,0)) (by (with_reducible repeat (first|refine blk_drewN ?_ _|refine blk_drew ?_|refine blk_alloc ?_ _));refine blk_put (cs:=#[.string t109,.int .i64 t110,.int .i64 0]) ?_ 2 _ rfl;(with_reducible repeat (first|refine blk_drewN ?_ _|refine blk_drew ?_|refine blk_alloc ?_ _));refine blk_put (cs:=#[.string t109,.int .i64 0,.int .i64 0]) ?_ 1 _ rfl;(with_reducible repeat (first|refine blk_drewN ?_ _|refine blk_drew ?_|refine blk_alloc ?_ _));refine blk_put (cs:=#[.string (⟨#[]⟩:ByteArray),.int .i64 0,.int .i64 0]) ?_ 0 _ rfl;(with_reducible repeat (first|refine blk_drewN ?_ _|refine blk_drew ?_|refine blk_alloc ?_ _));exact BK113.out)) (below_size (by repeat (first|(with_reducible first|exact HB.out|apply below_alloc|apply pw_below_drewN|apply below_drew1|refine below_set ?_ GE113.out)|exact HB.out))));have n2_:=Aside0.mk (blk_below (g:=gb113) (o:=.cells #[.string t109,.int .i64 t110,.int .i64 t111] 37 (0,0)) (by (with_reducible repeat (first|refine blk_drewN ?_ _|refine blk_drew ?_|refine blk_alloc ?_ _));refine blk_put (cs:=#[.string t109,.int .i64 t110,.int .i64 0]) ?_ 2 _ rfl;(with_reducible repeat (first|refine blk_drewN ?_ _|refine blk_drew ?_|refine blk_alloc ?_ _));refine blk_put (cs:=#[.string t109,.int .i64 0,.int .i64 0]) ?_ 1 _ rfl;(with_reducible repeat (first|refine blk_drewN ?_ _|refine blk_drew ?_|refine blk_alloc ?_ _));refine blk_put (cs:=#[.string (⟨#[]⟩:ByteArray),.int .i64 0,.int .i64 0]) ?_ 0 _ rfl;(with_reducible repeat (first|refine blk_drewN ?_ _|refine blk_drew ?_|refine blk_alloc ?_ _));exact BK113.out) hb);have n3_:=Aside0.mk (below_step (by repeat (first|(with_reducible first|exact HB.out|apply below_alloc|apply pw_below_drewN|apply below_drew1|refine below_set ?_ GE113.out)|exact HB.out)) hb);clear HO_7;clear BK113;clear HB;have HO_7:=n0_;have HO118:=n1_;have BK113:=n2_;have HB:=n3_;clear n0_ n1_ n2_ n3_;(try clear hb);(try clear hb2);(try clear hk);(try clear hi);(try clear ho0);obtain ⟨Ao25,co25,eo25⟩:=Kd.R_slice HO118.out;subst eo25)|(go_at_call 15;(with_reducible refine (suspend_Of.calls k1 _ _ t115 a1 t119 t120 t121 t122 _ ?side1 ?side2 A18.out).mono ?_);(case side1=>repeat (first|exact (Kd.R_reads' HO118.out).2.2|(with_reducible refine Kd.C_alloc ?_ _)|(with_reducible refine Kd.C_drewN ?_ _)|(with_reducible refine Kd.C_drew ?_)));(case side2=>exact (Kd.R_reads' HO118.out).2.1);rintro e w26 ⟨rfl,hb⟩;have n0_:=Aside0.mk (Kd.R_below (by (with_reducible repeat (first|apply Kd.R_alloc|apply Kd.R_drewN|apply Kd.R_drew));exact HO_7.out) hb);have n1_:=Aside0.mk (Kd.R_below (by (with_reducible repeat (first|apply Kd.R_alloc|apply Kd.R_drewN|apply Kd.R_drew));exact HO118.out) hb);have n2_:=Aside0.mk (blk_below (g:=gb113) (o:=.cells #[.string t109,.int .i64 t110,.int .i64 t111] 37 (0,0)) (by (with_reducible repeat (first|refine blk_drewN ?_ _|refine blk_drew ?_|refine blk_alloc ?_ _));exact BK113.out) hb);have n3_:=Aside0.mk (below_step (by repeat (first|(with_reducible first|exact HB.out|apply below_alloc|apply pw_below_drewN|apply below_drew1|refine below_set ?_ GE113.out)|exact HB.out)) hb);clear HO_7;clear HO118;clear BK113;clear HB;have HO_7:=n0_;have HO118:=n1_;have BK113:=n2_;have HB:=n3_;clear n0_ n1_ n2_ n3_;(try clear hb);(try clear hb2);(try clear hk);(try clear hi))|((with_reducible refine gate_dst (N:=14) rfl ?_);(try (refine gate_guard (by rfl) ?_;dsimp only));refine box_event ?hg (N:=14) ?hd (cs:=#[.string (⟨#[]⟩:ByteArray),.int .i64 0,.int .i64 0]) (t:=37) ?hr ?_;(case hd=>rfl);(case hg=>rfl);(case hr=>first|(go_simp;done)|(go_simp;rfl));intro gb123 hg w27 hbox hb;have n0_:=Aside0.mk (Kd.R_below (Kd.R_elderB (by (with_reducible repeat (first|apply Kd.R_alloc|apply Kd.R_drewN|apply Kd.R_drew));exact HO_7.out) gb123 (Nat.le_of_eq hg.symm)) hb);have n1_:=Aside0.mk (Kd.R_below (Kd.R_elderB (by (with_reducible repeat (first|apply Kd.R_alloc|apply Kd.R_drewN|apply Kd.R_drew));exact HO118.out) gb123 (Nat.le_of_eq hg.symm)) hb);have n2_:=Aside0.mk (blk_below (g:=gb113) (o:=.cells #[.string t109,.int .i64 t110,.int .i64 t111] 37 (0,0)) (by (with_reducible repeat (first|refine blk_drewN ?_ _|refine blk_drew ?_|refine blk_alloc ?_ _));exact BK113.out) hb);have n3_:=Aside0.mk (below_step (by repeat (first|(with_reducible first|exact HB.out|apply below_alloc|apply pw_below_drewN|apply below_drew1|refine below_set ?_ GE113.out)|exact HB.out)) hb);have n4_:=Aside0.mk (hbox);have n5_:=Aside0.mk ((by rw [hg];exact (below_size (by repeat (first|(with_reducible first|exact HB.out|apply below_alloc|apply pw_below_drewN|apply below_drew1|refine below_set ?_ GE113.out)|exact HB.out))):w.heap.size ≤ gb123));have n6_:=Aside0.mk ((by rw [hg];exact (below_size (by repeat (first|(with_reducible first|exact HB.out|apply below_alloc|apply pw_below_drewN|apply below_drew1|refine below_set ?_ GE113.out)|exact HB.out))):w.heap.size ≤ gb123));have n7_:=Aside0.mk ((by rw [hg];exact Nat.ne_of_lt (blk_lt (g:=gb113) (o:=.cells #[.string t109,.int .i64 t110,.int .i64 t111] 37 (0,0)) (by (with_reducible repeat (first|refine blk_drewN ?_ _|refine blk_drew ?_|refine blk_alloc ?_ _));exact BK113.out)):gb113 ≠ gb123));have n8_:=Aside0.mk ((by rw [hg];exact Nat.ne_of_gt (blk_lt (g:=gb113) (o:=.cells #[.string t109,.int .i64 t110,.int .i64 t111] 37 (0,0)) (by (with_reducible repeat (first|refine blk_drewN ?_ _|refine blk_drew ?_|refine blk_alloc ?_ _));exact BK113.out)):gb123 ≠ gb113));clear HO_7;clear HO118;clear BK113;clear HB;have HO_7:=n0_;have HO118:=n1_;have BK113:=n2_;have HB:=n3_;have BK123:=n4_;have GW123:=n5_;have GE123:=n6_;have NB113_123:=n7_;have NB123_113:=n8_;clear n0_ n1_ n2_ n3_ n4_ n5_ n6_ n7_ n8_;clear hb hbox hg;have hnb28:=NB123_113.out;have hnc28:=NB113_123.out;have hcz29_0:w27.cell? ⟨gb123,0,none⟩ = some (.string (⟨#[]⟩:ByteArray)):=(blk_cell BK123.out 0).trans rfl;have hcz29_1:w27.cell? ⟨gb123,1,none⟩ = some (.int .i64 0):=(blk_cell BK123.out 1).trans rfl;have hcz29_2:w27.cell? ⟨gb123,2,none⟩ = some (.int .i64 0):=(blk_cell BK123.out 2).trans rfl;have hfz29_0:=blk_frozen BK123.out 0;have hfz29_1:=blk_frozen BK123.out 1;have hfz29_2:=blk_frozen BK123.out 2)))
        (try simp only [Act.put,List.setIfInBounds_toArray,List.set_cons_zero,List.set_cons_succ])
        go_cut [88] (fun v88 wc=>∃ (kq:Nat) (x88_18:Bool),v88 = .bool x88_18 ∧ Aside0 (contangolaw41_SuspendOnly.j1 kq a1 l2 x7_1 x8_1 x9_1 t115 x88_18 = some r) ∧ Aside0 (kq ≤ k1) ∧ Aside0 (Kd.R k37 37 wc w.heap.size (fun k_=>some k_ ≠ ((.slice Ao25 t115.length co25):Value).ownBlock ∧ k_ ≠ gb113 ∧ k_ ≠ gb123) (.slice Ao20 x7_1.length co20) x7_1) ∧ Aside0 (Kd.R k37 37 wc w.heap.size (fun k_=>some k_ ≠ ((.slice Ao20 x7_1.length co20):Value).ownBlock ∧ k_ ≠ gb113 ∧ k_ ≠ gb123) (.slice Ao25 t115.length co25) t115) ∧ Aside0 (wc.heap[gb113]? = some (.cells #[.string t109,.int .i64 t110,.int .i64 t111] 37 (0,0))) ∧ Aside0 (wc.heap[gb123]? = some (.cells #[.string t119,.int .i64 t120,.int .i64 t121] 37 (0,0))) ∧ Aside0 (Below w.heap.size w wc))
        case first =>
         have H:=HC19.out
         clear HC19
         by_cases c30:t122 = true
         ·subst c30
          have H1:(if t120 = (rd l2 x9_1) then (if t120 ≤ t110 then (contangolaw41_SuspendOnly.j1 k1 a1 l2 x7_1 x8_1 x9_1 t115 true) else (if t121 = t111 then (contangolaw41_SuspendOnly.j1 k1 a1 l2 x7_1 x8_1 x9_1 t115 ((t115.length:Int) != (x7_1.length:Int))) else (contangolaw41_SuspendOnly.j1 k1 a1 l2 x7_1 x8_1 x9_1 t115 true))) else (contangolaw41_SuspendOnly.j1 k1 a1 l2 x7_1 x8_1 x9_1 t115 true)) = some r:=by rw [if_pos rfl] at H;exact H
          clear H
          have H:=H1
          clear H1
          by_cases c31:t120 = (rd l2 x9_1)
          ·rw [if_pos c31] at H
           have c31b0:(t120 == (rd l2 x9_1)) = true:=beq_iff_eq.mpr c31
           have c31b1:(t120 != (rd l2 x9_1)) = false:=bne_eq_false_iff_eq.mpr c31
           clear c31
           (first|rw [c31b0]|(simp only [i64_w,i32_w];rw [c31b0])|skip)
           by_cases c32:t120 ≤ t110
           ·rw [if_pos c32] at H
            have c32b0:decide (t120 ≤ t110) = true:=decide_eq_true c32
            clear c32
            have H':=Aside0.mk H
            clear H
            have hnb33:=NB123_113.out
            have hnc33:=NB113_123.out
            have hcz34_0:w27.cell? ⟨gb123,0,none⟩ = some (.string (⟨#[]⟩:ByteArray)):=(blk_cell BK123.out 0).trans rfl
            have hcz34_1:w27.cell? ⟨gb123,1,none⟩ = some (.int .i64 0):=(blk_cell BK123.out 1).trans rfl
            have hcz34_2:w27.cell? ⟨gb123,2,none⟩ = some (.int .i64 0):=(blk_cell BK123.out 2).trans rfl
            have hfz34_0:=blk_frozen BK123.out 0
            have hfz34_1:=blk_frozen BK123.out 1
            have hfz34_2:=blk_frozen BK123.out 2
            have p124:0 ≤ (x9_1:Int):=of_decide_eq_true (by first|(with_reducible assumption)|assumption)
            have q124:x9_1 < (l2.length:Int):=of_decide_eq_true (by first|(with_reducible assumption)|assumption)
            obtain ⟨ad124,e124,hx124_0⟩:=Kd.at_int HR2.out x9_1 p124 q124
            obtain rfl:ad114 = ad124:=(by injection e124)
            have hn124_0:ad114.block ≠ gb123:=Nat.ne_of_lt (Nat.lt_of_lt_of_le (by have:=World.block_lt_of_cell? _ _ hx124_0;first|rwa [add_block] at this|exact this) GW123.out)
            have hn124_1:ad114.block ≠ gb123:=Nat.ne_of_lt (Nat.lt_of_lt_of_le (by have:=World.block_lt_of_cell? _ _ hx124_0;first|rwa [add_block] at this|exact this) GW123.out)
            have hn124_2:ad114.block ≠ gb123:=Nat.ne_of_lt (Nat.lt_of_lt_of_le (by have:=World.block_lt_of_cell? _ _ hx124_0;first|rwa [add_block] at this|exact this) GW123.out)
            replace hx124_0:=(HB.out.cell (World.block_lt_of_cell? w _ hx124_0)).trans hx124_0
            replace hx124_0:=(cell_far (p:=⟨gb123,0,none⟩) (by first|(rw [add_block];exact hn124_0)|(show (Addr.add _ _).block ≠ _;rw [add_block];exact hn124_0)|exact hn124_0) (.string t119)).trans hx124_0
            replace hx124_0:=(cell_far (p:=⟨gb123,1,none⟩) (by first|(rw [add_block];exact hn124_1)|(show (Addr.add _ _).block ≠ _;rw [add_block];exact hn124_1)|exact hn124_1) (.int .i64 t120)).trans hx124_0
            replace hx124_0:=(cell_far (p:=⟨gb123,2,none⟩) (by first|(rw [add_block];exact hn124_2)|(show (Addr.add _ _).block ≠ _;rw [add_block];exact hn124_2)|exact hn124_2) (.int .i64 t121)).trans hx124_0
            (try have hy124_0:=fun (n_:Nat)=>(show (((((w27.drewN n_).setCell ⟨gb123,0,none⟩ (.string t119)).setCell ⟨gb123,1,none⟩ (.int .i64 t120)).setCell ⟨gb123,2,none⟩ (.int .i64 t121))).cell? _ = some _ from hx124_0))
            clear hn124_0
            clear hn124_1
            clear hn124_2
            replace p124:=eq_true p124
            replace q124:=eq_true q124
            have hcz35_0:w27.cell? ⟨gb113,0,none⟩ = some (.string t109):=(blk_cell BK113.out 0).trans rfl
            have hcz35_1:w27.cell? ⟨gb113,1,none⟩ = some (.int .i64 t110):=(blk_cell BK113.out 1).trans rfl
            have hcz35_2:w27.cell? ⟨gb113,2,none⟩ = some (.int .i64 t111):=(blk_cell BK113.out 2).trans rfl
            have hfz35_0:=blk_frozen BK113.out 0
            have hfz35_1:=blk_frozen BK113.out 1
            have hfz35_2:=blk_frozen BK113.out 2
            go_wp2
            repeat (go_quiet (fail);try go_wp2)
            go_meet
            case rel=>exact ⟨_,(true),(by first|rfl|(simp;done)|(simp [*];done)),H',⟨by have:=HK1.out;first|omega|exact Nat.le_refl _⟩,⟨by (with_reducible repeat (first|apply Kd.R_alloc|apply Kd.R_drewN|apply Kd.R_drew));exact Kd.R_mono (Kd.R_far (p:=⟨gb123,2,none⟩) (Kd.R_far (p:=⟨gb123,1,none⟩) (Kd.R_far (p:=⟨gb123,0,none⟩) (Kd.R_mono HO_7.out (fun k_ hk=>(⟨hk,hk.2⟩:_ ∧ k_ ≠ gb123))) (fun _ hk=>hk.2) (.string t119)) (fun _ hk=>hk.2) (.int .i64 t120)) (fun _ hk=>hk.2) (.int .i64 t121)) (fun _ hk=>⟨hk.1.1.2,⟨hk.1.1.1.2,hk.1.2⟩⟩)⟩,⟨by (with_reducible repeat (first|apply Kd.R_alloc|apply Kd.R_drewN|apply Kd.R_drew));exact Kd.R_mono (Kd.R_far (p:=⟨gb123,2,none⟩) (Kd.R_far (p:=⟨gb123,1,none⟩) (Kd.R_far (p:=⟨gb123,0,none⟩) (Kd.R_mono HO118.out (fun k_ hk=>(⟨hk,hk.2⟩:_ ∧ k_ ≠ gb123))) (fun _ hk=>hk.2) (.string t119)) (fun _ hk=>hk.2) (.int .i64 t120)) (fun _ hk=>hk.2) (.int .i64 t121)) (fun _ hk=>⟨hk.1.1.1.2,⟨hk.1.1.2,hk.1.2⟩⟩)⟩,⟨by (with_reducible repeat (first|refine blk_drewN ?_ _|refine blk_drew ?_|refine blk_alloc ?_ _));refine blk_far ?_ NB113_123.out _;(with_reducible repeat (first|refine blk_drewN ?_ _|refine blk_drew ?_|refine blk_alloc ?_ _));refine blk_far ?_ NB113_123.out _;(with_reducible repeat (first|refine blk_drewN ?_ _|refine blk_drew ?_|refine blk_alloc ?_ _));refine blk_far ?_ NB113_123.out _;(with_reducible repeat (first|refine blk_drewN ?_ _|refine blk_drew ?_|refine blk_alloc ?_ _));exact BK113.out⟩,⟨by (with_reducible repeat (first|refine blk_drewN ?_ _|refine blk_drew ?_|refine blk_alloc ?_ _));refine blk_put (cs:=#[.string t119,.int .i64 t120,.int .i64 0]) ?_ 2 _ rfl;(with_reducible repeat (first|refine blk_drewN ?_ _|refine blk_drew ?_|refine blk_alloc ?_ _));refine blk_put (cs:=#[.string t119,.int .i64 0,.int .i64 0]) ?_ 1 _ rfl;(with_reducible repeat (first|refine blk_drewN ?_ _|refine blk_drew ?_|refine blk_alloc ?_ _));refine blk_put (cs:=#[.string (⟨#[]⟩:ByteArray),.int .i64 0,.int .i64 0]) ?_ 0 _ rfl;(with_reducible repeat (first|refine blk_drewN ?_ _|refine blk_drew ?_|refine blk_alloc ?_ _));exact BK123.out⟩,⟨by repeat (first|(with_reducible first|exact HB.out|apply below_alloc|apply pw_below_drewN|apply below_drew1|refine below_set ?_ GE113.out|refine below_set ?_ GE123.out)|exact HB.out)⟩⟩
           ·rw [if_neg c32] at H
            have c32b0:decide (t120 ≤ t110) = false:=decide_eq_false c32
            clear c32
            by_cases c36:t121 = t111
            ·rw [if_pos c36] at H
             have c36b0:(t121 == t111) = true:=beq_iff_eq.mpr c36
             have c36b1:(t121 != t111) = false:=bne_eq_false_iff_eq.mpr c36
             clear c36
             have H':=Aside0.mk H
             clear H
             have hnb37:=NB123_113.out
             have hnc37:=NB113_123.out
             have hcz38_0:w27.cell? ⟨gb123,0,none⟩ = some (.string (⟨#[]⟩:ByteArray)):=(blk_cell BK123.out 0).trans rfl
             have hcz38_1:w27.cell? ⟨gb123,1,none⟩ = some (.int .i64 0):=(blk_cell BK123.out 1).trans rfl
             have hcz38_2:w27.cell? ⟨gb123,2,none⟩ = some (.int .i64 0):=(blk_cell BK123.out 2).trans rfl
             have hfz38_0:=blk_frozen BK123.out 0
             have hfz38_1:=blk_frozen BK123.out 1
             have hfz38_2:=blk_frozen BK123.out 2
             have p124:0 ≤ (x9_1:Int):=of_decide_eq_true (by first|(with_reducible assumption)|assumption)
             have q124:x9_1 < (l2.length:Int):=of_decide_eq_true (by first|(with_reducible assumption)|assumption)
             obtain ⟨ad124,e124,hx124_0⟩:=Kd.at_int HR2.out x9_1 p124 q124
             obtain rfl:ad114 = ad124:=(by injection e124)
             have hn124_0:ad114.block ≠ gb123:=Nat.ne_of_lt (Nat.lt_of_lt_of_le (by have:=World.block_lt_of_cell? _ _ hx124_0;first|rwa [add_block] at this|exact this) GW123.out)
             have hn124_1:ad114.block ≠ gb123:=Nat.ne_of_lt (Nat.lt_of_lt_of_le (by have:=World.block_lt_of_cell? _ _ hx124_0;first|rwa [add_block] at this|exact this) GW123.out)
             have hn124_2:ad114.block ≠ gb123:=Nat.ne_of_lt (Nat.lt_of_lt_of_le (by have:=World.block_lt_of_cell? _ _ hx124_0;first|rwa [add_block] at this|exact this) GW123.out)
             replace hx124_0:=(HB.out.cell (World.block_lt_of_cell? w _ hx124_0)).trans hx124_0
             replace hx124_0:=(cell_far (p:=⟨gb123,0,none⟩) (by first|(rw [add_block];exact hn124_0)|(show (Addr.add _ _).block ≠ _;rw [add_block];exact hn124_0)|exact hn124_0) (.string t119)).trans hx124_0
             replace hx124_0:=(cell_far (p:=⟨gb123,1,none⟩) (by first|(rw [add_block];exact hn124_1)|(show (Addr.add _ _).block ≠ _;rw [add_block];exact hn124_1)|exact hn124_1) (.int .i64 t120)).trans hx124_0
             replace hx124_0:=(cell_far (p:=⟨gb123,2,none⟩) (by first|(rw [add_block];exact hn124_2)|(show (Addr.add _ _).block ≠ _;rw [add_block];exact hn124_2)|exact hn124_2) (.int .i64 t121)).trans hx124_0
             (try have hy124_0:=fun (n_:Nat)=>(show (((((w27.drewN n_).setCell ⟨gb123,0,none⟩ (.string t119)).setCell ⟨gb123,1,none⟩ (.int .i64 t120)).setCell ⟨gb123,2,none⟩ (.int .i64 t121))).cell? _ = some _ from hx124_0))
             clear hn124_0
             clear hn124_1
             clear hn124_2
             replace p124:=eq_true p124
             replace q124:=eq_true q124
             have hcz39_0:w27.cell? ⟨gb113,0,none⟩ = some (.string t109):=(blk_cell BK113.out 0).trans rfl
             have hcz39_1:w27.cell? ⟨gb113,1,none⟩ = some (.int .i64 t110):=(blk_cell BK113.out 1).trans rfl
             have hcz39_2:w27.cell? ⟨gb113,2,none⟩ = some (.int .i64 t111):=(blk_cell BK113.out 2).trans rfl
             have hfz39_0:=blk_frozen BK113.out 0
             have hfz39_1:=blk_frozen BK113.out 1
             have hfz39_2:=blk_frozen BK113.out 2
             go_wp2
             repeat (go_quiet (fail);try go_wp2)
             go_meet
             case rel=>exact ⟨_,(((t115.length:Int) != (x7_1.length:Int))),(by first|rfl|(simp;done)|(simp [*];done)),H',⟨by have:=HK1.out;first|omega|exact Nat.le_refl _⟩,⟨by (with_reducible repeat (first|apply Kd.R_alloc|apply Kd.R_drewN|apply Kd.R_drew));exact Kd.R_mono (Kd.R_far (p:=⟨gb123,2,none⟩) (Kd.R_far (p:=⟨gb123,1,none⟩) (Kd.R_far (p:=⟨gb123,0,none⟩) (Kd.R_mono HO_7.out (fun k_ hk=>(⟨hk,hk.2⟩:_ ∧ k_ ≠ gb123))) (fun _ hk=>hk.2) (.string t119)) (fun _ hk=>hk.2) (.int .i64 t120)) (fun _ hk=>hk.2) (.int .i64 t121)) (fun _ hk=>⟨hk.1.1.2,⟨hk.1.1.1.2,hk.1.2⟩⟩)⟩,⟨by (with_reducible repeat (first|apply Kd.R_alloc|apply Kd.R_drewN|apply Kd.R_drew));exact Kd.R_mono (Kd.R_far (p:=⟨gb123,2,none⟩) (Kd.R_far (p:=⟨gb123,1,none⟩) (Kd.R_far (p:=⟨gb123,0,none⟩) (Kd.R_mono HO118.out (fun k_ hk=>(⟨hk,hk.2⟩:_ ∧ k_ ≠ gb123))) (fun _ hk=>hk.2) (.string t119)) (fun _ hk=>hk.2) (.int .i64 t120)) (fun _ hk=>hk.2) (.int .i64 t121)) (fun _ hk=>⟨hk.1.1.1.2,⟨hk.1.1.2,hk.1.2⟩⟩)⟩,⟨by (with_reducible repeat (first|refine blk_drewN ?_ _|refine blk_drew ?_|refine blk_alloc ?_ _));refine blk_far ?_ NB113_123.out _;(with_reducible repeat (first|refine blk_drewN ?_ _|refine blk_drew ?_|refine blk_alloc ?_ _));refine blk_far ?_ NB113_123.out _;(with_reducible repeat (first|refine blk_drewN ?_ _|refine blk_drew ?_|refine blk_alloc ?_ _));refine blk_far ?_ NB113_123.out _;(with_reducible repeat (first|refine blk_drewN ?_ _|refine blk_drew ?_|refine blk_alloc ?_ _));exact BK113.out⟩,⟨by (with_reducible repeat (first|refine blk_drewN ?_ _|refine blk_drew ?_|refine blk_alloc ?_ _));refine blk_put (cs:=#[.string t119,.int .i64 t120,.int .i64 0]) ?_ 2 _ rfl;(with_reducible repeat (first|refine blk_drewN ?_ _|refine blk_drew ?_|refine blk_alloc ?_ _));refine blk_put (cs:=#[.string t119,.int .i64 0,.int .i64 0]) ?_ 1 _ rfl;(with_reducible repeat (first|refine blk_drewN ?_ _|refine blk_drew ?_|refine blk_alloc ?_ _));refine blk_put (cs:=#[.string (⟨#[]⟩:ByteArray),.int .i64 0,.int .i64 0]) ?_ 0 _ rfl;(with_reducible repeat (first|refine blk_drewN ?_ _|refine blk_drew ?_|refine blk_alloc ?_ _));exact BK123.out⟩,⟨by repeat (first|(with_reducible first|exact HB.out|apply below_alloc|apply pw_below_drewN|apply below_drew1|refine below_set ?_ GE113.out|refine below_set ?_ GE123.out)|exact HB.out)⟩⟩
            ·rw [if_neg c36] at H
             have c36b0:(t121 == t111) = false:=beq_eq_false_iff_ne.mpr c36
             have c36b1:(t121 != t111) = true:=bne_iff_ne.mpr c36
             have H':=Aside0.mk H
             clear H
             have hnb40:=NB123_113.out
             have hnc40:=NB113_123.out
             have hcz41_0:w27.cell? ⟨gb123,0,none⟩ = some (.string (⟨#[]⟩:ByteArray)):=(blk_cell BK123.out 0).trans rfl
             have hcz41_1:w27.cell? ⟨gb123,1,none⟩ = some (.int .i64 0):=(blk_cell BK123.out 1).trans rfl
             have hcz41_2:w27.cell? ⟨gb123,2,none⟩ = some (.int .i64 0):=(blk_cell BK123.out 2).trans rfl
             have hfz41_0:=blk_frozen BK123.out 0
             have hfz41_1:=blk_frozen BK123.out 1
             have hfz41_2:=blk_frozen BK123.out 2
             have p124:0 ≤ (x9_1:Int):=of_decide_eq_true (by first|(with_reducible assumption)|assumption)
             have q124:x9_1 < (l2.length:Int):=of_decide_eq_true (by first|(with_reducible assumption)|assumption)
             obtain ⟨ad124,e124,hx124_0⟩:=Kd.at_int HR2.out x9_1 p124 q124
             obtain rfl:ad114 = ad124:=(by injection e124)
             have hn124_0:ad114.block ≠ gb123:=Nat.ne_of_lt (Nat.lt_of_lt_of_le (by have:=World.block_lt_of_cell? _ _ hx124_0;first|rwa [add_block] at this|exact this) GW123.out)
             have hn124_1:ad114.block ≠ gb123:=Nat.ne_of_lt (Nat.lt_of_lt_of_le (by have:=World.block_lt_of_cell? _ _ hx124_0;first|rwa [add_block] at this|exact this) GW123.out)
             have hn124_2:ad114.block ≠ gb123:=Nat.ne_of_lt (Nat.lt_of_lt_of_le (by have:=World.block_lt_of_cell? _ _ hx124_0;first|rwa [add_block] at this|exact this) GW123.out)
             replace hx124_0:=(HB.out.cell (World.block_lt_of_cell? w _ hx124_0)).trans hx124_0
             replace hx124_0:=(cell_far (p:=⟨gb123,0,none⟩) (by first|(rw [add_block];exact hn124_0)|(show (Addr.add _ _).block ≠ _;rw [add_block];exact hn124_0)|exact hn124_0) (.string t119)).trans hx124_0
             replace hx124_0:=(cell_far (p:=⟨gb123,1,none⟩) (by first|(rw [add_block];exact hn124_1)|(show (Addr.add _ _).block ≠ _;rw [add_block];exact hn124_1)|exact hn124_1) (.int .i64 t120)).trans hx124_0
             replace hx124_0:=(cell_far (p:=⟨gb123,2,none⟩) (by first|(rw [add_block];exact hn124_2)|(show (Addr.add _ _).block ≠ _;rw [add_block];exact hn124_2)|exact hn124_2) (.int .i64 t121)).trans hx124_0
             (try have hy124_0:=fun (n_:Nat)=>(show (((((w27.drewN n_).setCell ⟨gb123,0,none⟩ (.string t119)).setCell ⟨gb123,1,none⟩ (.int .i64 t120)).setCell ⟨gb123,2,none⟩ (.int .i64 t121))).cell? _ = some _ from hx124_0))
             clear hn124_0
             clear hn124_1
             clear hn124_2
             replace p124:=eq_true p124
             replace q124:=eq_true q124
             have hcz42_0:w27.cell? ⟨gb113,0,none⟩ = some (.string t109):=(blk_cell BK113.out 0).trans rfl
             have hcz42_1:w27.cell? ⟨gb113,1,none⟩ = some (.int .i64 t110):=(blk_cell BK113.out 1).trans rfl
             have hcz42_2:w27.cell? ⟨gb113,2,none⟩ = some (.int .i64 t111):=(blk_cell BK113.out 2).trans rfl
             have hfz42_0:=blk_frozen BK113.out 0
             have hfz42_1:=blk_frozen BK113.out 1
             have hfz42_2:=blk_frozen BK113.out 2
             go_wp2
             repeat (go_quiet (fail);try go_wp2)
             go_meet
             case rel=>exact ⟨_,(true),(by first|rfl|(simp;done)|(simp [*];done)),H',⟨by have:=HK1.out;first|omega|exact Nat.le_refl _⟩,⟨by (with_reducible repeat (first|apply Kd.R_alloc|apply Kd.R_drewN|apply Kd.R_drew));exact Kd.R_mono (Kd.R_far (p:=⟨gb123,2,none⟩) (Kd.R_far (p:=⟨gb123,1,none⟩) (Kd.R_far (p:=⟨gb123,0,none⟩) (Kd.R_mono HO_7.out (fun k_ hk=>(⟨hk,hk.2⟩:_ ∧ k_ ≠ gb123))) (fun _ hk=>hk.2) (.string t119)) (fun _ hk=>hk.2) (.int .i64 t120)) (fun _ hk=>hk.2) (.int .i64 t121)) (fun _ hk=>⟨hk.1.1.2,⟨hk.1.1.1.2,hk.1.2⟩⟩)⟩,⟨by (with_reducible repeat (first|apply Kd.R_alloc|apply Kd.R_drewN|apply Kd.R_drew));exact Kd.R_mono (Kd.R_far (p:=⟨gb123,2,none⟩) (Kd.R_far (p:=⟨gb123,1,none⟩) (Kd.R_far (p:=⟨gb123,0,none⟩) (Kd.R_mono HO118.out (fun k_ hk=>(⟨hk,hk.2⟩:_ ∧ k_ ≠ gb123))) (fun _ hk=>hk.2) (.string t119)) (fun _ hk=>hk.2) (.int .i64 t120)) (fun _ hk=>hk.2) (.int .i64 t121)) (fun _ hk=>⟨hk.1.1.1.2,⟨hk.1.1.2,hk.1.2⟩⟩)⟩,⟨by (with_reducible repeat (first|refine blk_drewN ?_ _|refine blk_drew ?_|refine blk_alloc ?_ _));refine blk_far ?_ NB113_123.out _;(with_reducible repeat (first|refine blk_drewN ?_ _|refine blk_drew ?_|refine blk_alloc ?_ _));refine blk_far ?_ NB113_123.out _;(with_reducible repeat (first|refine blk_drewN ?_ _|refine blk_drew ?_|refine blk_alloc ?_ _));refine blk_far ?_ NB113_123.out _;(with_reducible repeat (first|refine blk_drewN ?_ _|refine blk_drew ?_|refine blk_alloc ?_ _));exact BK113.out⟩,⟨by (with_reducible repeat (first|refine blk_drewN ?_ _|refine blk_drew ?_|refine blk_alloc ?_ _));refine blk_put (cs:=#[.string t119,.int .i64 t120,.int .i64 0]) ?_ 2 _ rfl;(with_reducible repeat (first|refine blk_drewN ?_ _|refine blk_drew ?_|refine blk_alloc ?_ _));refine blk_put (cs:=#[.string t119,.int .i64 0,.int .i64 0]) ?_ 1 _ rfl;(with_reducible repeat (first|refine blk_drewN ?_ _|refine blk_drew ?_|refine blk_alloc ?_ _));refine blk_put (cs:=#[.string (⟨#[]⟩:ByteArray),.int .i64 0,.int .i64 0]) ?_ 0 _ rfl;(with_reducible repeat (first|refine blk_drewN ?_ _|refine blk_drew ?_|refine blk_alloc ?_ _));exact BK123.out⟩,⟨by repeat (first|(with_reducible first|exact HB.out|apply below_alloc|apply pw_below_drewN|apply below_drew1|refine below_set ?_ GE113.out|refine below_set ?_ GE123.out)|exact HB.out)⟩⟩
          ·rw [if_neg c31] at H
           have c31b0:(t120 == (rd l2 x9_1)) = false:=beq_eq_false_iff_ne.mpr c31
           have c31b1:(t120 != (rd l2 x9_1)) = true:=bne_iff_ne.mpr c31
           (first|rw [c31b0]|(simp only [i64_w,i32_w];rw [c31b0])|skip)
           have H':=Aside0.mk H
           clear H
           have hnb43:=NB123_113.out
           have hnc43:=NB113_123.out
           have hcz44_0:w27.cell? ⟨gb123,0,none⟩ = some (.string (⟨#[]⟩:ByteArray)):=(blk_cell BK123.out 0).trans rfl
           have hcz44_1:w27.cell? ⟨gb123,1,none⟩ = some (.int .i64 0):=(blk_cell BK123.out 1).trans rfl
           have hcz44_2:w27.cell? ⟨gb123,2,none⟩ = some (.int .i64 0):=(blk_cell BK123.out 2).trans rfl
           have hfz44_0:=blk_frozen BK123.out 0
           have hfz44_1:=blk_frozen BK123.out 1
           have hfz44_2:=blk_frozen BK123.out 2
           have p124:0 ≤ (x9_1:Int):=of_decide_eq_true (by first|(with_reducible assumption)|assumption)
           have q124:x9_1 < (l2.length:Int):=of_decide_eq_true (by first|(with_reducible assumption)|assumption)
           obtain ⟨ad124,e124,hx124_0⟩:=Kd.at_int HR2.out x9_1 p124 q124
           obtain rfl:ad114 = ad124:=(by injection e124)
           have hn124_0:ad114.block ≠ gb123:=Nat.ne_of_lt (Nat.lt_of_lt_of_le (by have:=World.block_lt_of_cell? _ _ hx124_0;first|rwa [add_block] at this|exact this) GW123.out)
           have hn124_1:ad114.block ≠ gb123:=Nat.ne_of_lt (Nat.lt_of_lt_of_le (by have:=World.block_lt_of_cell? _ _ hx124_0;first|rwa [add_block] at this|exact this) GW123.out)
           have hn124_2:ad114.block ≠ gb123:=Nat.ne_of_lt (Nat.lt_of_lt_of_le (by have:=World.block_lt_of_cell? _ _ hx124_0;first|rwa [add_block] at this|exact this) GW123.out)
           replace hx124_0:=(HB.out.cell (World.block_lt_of_cell? w _ hx124_0)).trans hx124_0
           replace hx124_0:=(cell_far (p:=⟨gb123,0,none⟩) (by first|(rw [add_block];exact hn124_0)|(show (Addr.add _ _).block ≠ _;rw [add_block];exact hn124_0)|exact hn124_0) (.string t119)).trans hx124_0
           replace hx124_0:=(cell_far (p:=⟨gb123,1,none⟩) (by first|(rw [add_block];exact hn124_1)|(show (Addr.add _ _).block ≠ _;rw [add_block];exact hn124_1)|exact hn124_1) (.int .i64 t120)).trans hx124_0
           replace hx124_0:=(cell_far (p:=⟨gb123,2,none⟩) (by first|(rw [add_block];exact hn124_2)|(show (Addr.add _ _).block ≠ _;rw [add_block];exact hn124_2)|exact hn124_2) (.int .i64 t121)).trans hx124_0
           (try have hy124_0:=fun (n_:Nat)=>(show (((((w27.drewN n_).setCell ⟨gb123,0,none⟩ (.string t119)).setCell ⟨gb123,1,none⟩ (.int .i64 t120)).setCell ⟨gb123,2,none⟩ (.int .i64 t121))).cell? _ = some _ from hx124_0))
           clear hn124_0
           clear hn124_1
           clear hn124_2
           replace p124:=eq_true p124
           replace q124:=eq_true q124
           go_wp2
           repeat (go_quiet (fail);try go_wp2)
           go_meet
           case rel=>exact ⟨_,(true),(by first|rfl|(simp;done)|(simp [*];done)),H',⟨by have:=HK1.out;first|omega|exact Nat.le_refl _⟩,⟨by (with_reducible repeat (first|apply Kd.R_alloc|apply Kd.R_drewN|apply Kd.R_drew));exact Kd.R_mono (Kd.R_far (p:=⟨gb123,2,none⟩) (Kd.R_far (p:=⟨gb123,1,none⟩) (Kd.R_far (p:=⟨gb123,0,none⟩) (Kd.R_mono HO_7.out (fun k_ hk=>(⟨hk,hk.2⟩:_ ∧ k_ ≠ gb123))) (fun _ hk=>hk.2) (.string t119)) (fun _ hk=>hk.2) (.int .i64 t120)) (fun _ hk=>hk.2) (.int .i64 t121)) (fun _ hk=>⟨hk.1.1.2,⟨hk.1.1.1.2,hk.1.2⟩⟩)⟩,⟨by (with_reducible repeat (first|apply Kd.R_alloc|apply Kd.R_drewN|apply Kd.R_drew));exact Kd.R_mono (Kd.R_far (p:=⟨gb123,2,none⟩) (Kd.R_far (p:=⟨gb123,1,none⟩) (Kd.R_far (p:=⟨gb123,0,none⟩) (Kd.R_mono HO118.out (fun k_ hk=>(⟨hk,hk.2⟩:_ ∧ k_ ≠ gb123))) (fun _ hk=>hk.2) (.string t119)) (fun _ hk=>hk.2) (.int .i64 t120)) (fun _ hk=>hk.2) (.int .i64 t121)) (fun _ hk=>⟨hk.1.1.1.2,⟨hk.1.1.2,hk.1.2⟩⟩)⟩,⟨by (with_reducible repeat (first|refine blk_drewN ?_ _|refine blk_drew ?_|refine blk_alloc ?_ _));refine blk_far ?_ NB113_123.out _;(with_reducible repeat (first|refine blk_drewN ?_ _|refine blk_drew ?_|refine blk_alloc ?_ _));refine blk_far ?_ NB113_123.out _;(with_reducible repeat (first|refine blk_drewN ?_ _|refine blk_drew ?_|refine blk_alloc ?_ _));refine blk_far ?_ NB113_123.out _;(with_reducible repeat (first|refine blk_drewN ?_ _|refine blk_drew ?_|refine blk_alloc ?_ _));exact BK113.out⟩,⟨by (with_reducible repeat (first|refine blk_drewN ?_ _|refine blk_drew ?_|refine blk_alloc ?_ _));refine blk_put (cs:=#[.string t119,.int .i64 t120,.int .i64 0]) ?_ 2 _ rfl;(with_reducible repeat (first|refine blk_drewN ?_ _|refine blk_drew ?_|refine blk_alloc ?_ _));refine blk_put (cs:=#[.string t119,.int .i64 0,.int .i64 0]) ?_ 1 _ rfl;(with_reducible repeat (first|refine blk_drewN ?_ _|refine blk_drew ?_|refine blk_alloc ?_ _));refine blk_put (cs:=#[.string (⟨#[]⟩:ByteArray),.int .i64 0,.int .i64 0]) ?_ 0 _ rfl;(with_reducible repeat (first|refine blk_drewN ?_ _|refine blk_drew ?_|refine blk_alloc ?_ _));exact BK123.out⟩,⟨by repeat (first|(with_reducible first|exact HB.out|apply below_alloc|apply pw_below_drewN|apply below_drew1|refine below_set ?_ GE113.out|refine below_set ?_ GE123.out)|exact HB.out)⟩⟩
         ·replace c30:=Bool.eq_false_iff.mpr c30
          subst c30
          have H1:(contangolaw41_SuspendOnly.j1 k1 a1 l2 x7_1 x8_1 x9_1 t115 true) = some r:=by rw [if_neg (show ¬ (false = true) by decide)] at H;exact H
          clear H
          have H:=H1
          clear H1
          have H':=Aside0.mk H
          clear H
          go_wp2
          repeat (go_quiet (fail);try go_wp2)
          go_meet
          case rel=>exact ⟨_,(true),(by first|rfl|(simp;done)|(simp [*];done)),H',⟨by have:=HK1.out;first|omega|exact Nat.le_refl _⟩,⟨by (with_reducible repeat (first|apply Kd.R_alloc|apply Kd.R_drewN|apply Kd.R_drew));exact Kd.R_mono (Kd.R_far (p:=⟨gb123,2,none⟩) (Kd.R_far (p:=⟨gb123,1,none⟩) (Kd.R_far (p:=⟨gb123,0,none⟩) (Kd.R_mono HO_7.out (fun k_ hk=>(⟨hk,hk.2⟩:_ ∧ k_ ≠ gb123))) (fun _ hk=>hk.2) (.string t119)) (fun _ hk=>hk.2) (.int .i64 t120)) (fun _ hk=>hk.2) (.int .i64 t121)) (fun _ hk=>⟨hk.1.1.2,⟨hk.1.1.1.2,hk.1.2⟩⟩)⟩,⟨by (with_reducible repeat (first|apply Kd.R_alloc|apply Kd.R_drewN|apply Kd.R_drew));exact Kd.R_mono (Kd.R_far (p:=⟨gb123,2,none⟩) (Kd.R_far (p:=⟨gb123,1,none⟩) (Kd.R_far (p:=⟨gb123,0,none⟩) (Kd.R_mono HO118.out (fun k_ hk=>(⟨hk,hk.2⟩:_ ∧ k_ ≠ gb123))) (fun _ hk=>hk.2) (.string t119)) (fun _ hk=>hk.2) (.int .i64 t120)) (fun _ hk=>hk.2) (.int .i64 t121)) (fun _ hk=>⟨hk.1.1.1.2,⟨hk.1.1.2,hk.1.2⟩⟩)⟩,⟨by (with_reducible repeat (first|refine blk_drewN ?_ _|refine blk_drew ?_|refine blk_alloc ?_ _));refine blk_far ?_ NB113_123.out _;(with_reducible repeat (first|refine blk_drewN ?_ _|refine blk_drew ?_|refine blk_alloc ?_ _));refine blk_far ?_ NB113_123.out _;(with_reducible repeat (first|refine blk_drewN ?_ _|refine blk_drew ?_|refine blk_alloc ?_ _));refine blk_far ?_ NB113_123.out _;(with_reducible repeat (first|refine blk_drewN ?_ _|refine blk_drew ?_|refine blk_alloc ?_ _));exact BK113.out⟩,⟨by (with_reducible repeat (first|refine blk_drewN ?_ _|refine blk_drew ?_|refine blk_alloc ?_ _));refine blk_put (cs:=#[.string t119,.int .i64 t120,.int .i64 0]) ?_ 2 _ rfl;(with_reducible repeat (first|refine blk_drewN ?_ _|refine blk_drew ?_|refine blk_alloc ?_ _));refine blk_put (cs:=#[.string t119,.int .i64 0,.int .i64 0]) ?_ 1 _ rfl;(with_reducible repeat (first|refine blk_drewN ?_ _|refine blk_drew ?_|refine blk_alloc ?_ _));refine blk_put (cs:=#[.string (⟨#[]⟩:ByteArray),.int .i64 0,.int .i64 0]) ?_ 0 _ rfl;(with_reducible repeat (first|refine blk_drewN ?_ _|refine blk_drew ?_|refine blk_alloc ?_ _));exact BK123.out⟩,⟨by repeat (first|(with_reducible first|exact HB.out|apply below_alloc|apply pw_below_drewN|apply below_drew1|refine below_set ?_ GE113.out|refine below_set ?_ GE123.out)|exact HB.out)⟩⟩
        case rest =>
         clear HC19
         try clear c1
         try clear p1
         try clear q1
         try clear hx1
         try clear c2
         try clear p2
         try clear c3
         try clear c4
         try clear c4b0
         try clear c4b1
         try clear c5
         try clear p6
         try clear c9
         try clear c9b0
         try clear c9b1
         try clear p11
         try clear q11
         try clear hx11
         try clear p12
         try clear q12
         try clear hx12
         try clear c13
         try clear c13b0
         try clear c15
         try clear c15b0
         try clear c17
         try clear c17b0
         try clear c17b1
         try clear c28
         try clear c30
         try clear c31
         try clear c31b0
         try clear c31b1
         try clear c32
         try clear c32b0
         try clear c33
         try clear c36
         try clear c36b0
         try clear c36b1
         try clear c37
         try clear c40
         try clear c43
         try clear hcz23_0
         try clear hcz23_1
         try clear hcz23_2
         try clear hcz29_0
         try clear hcz29_1
         try clear hcz29_2
         try clear hcz34_0
         try clear hcz34_1
         try clear hcz34_2
         try clear hcz35_0
         try clear hcz35_1
         try clear hcz35_2
         try clear hcz38_0
         try clear hcz38_1
         try clear hcz38_2
         try clear hcz39_0
         try clear hcz39_1
         try clear hcz39_2
         try clear hcz41_0
         try clear hcz41_1
         try clear hcz41_2
         try clear hcz42_0
         try clear hcz42_1
         try clear hcz42_2
         try clear hcz44_0
         try clear hcz44_1
         try clear hcz44_2
         try clear hfz23_0
         try clear hfz23_1
         try clear hfz23_2
         try clear hfz29_0
         try clear hfz29_1
         try clear hfz29_2
         try clear hfz34_0
         try clear hfz34_1
         try clear hfz34_2
         try clear hfz35_0
         try clear hfz35_1
         try clear hfz35_2
         try clear hfz38_0
         try clear hfz38_1
         try clear hfz38_2
         try clear hfz39_0
         try clear hfz39_1
         try clear hfz39_2
         try clear hfz41_0
         try clear hfz41_1
         try clear hfz41_2
         try clear hfz42_0
         try clear hfz42_1
         try clear hfz42_2
         try clear hfz44_0
         try clear hfz44_1
         try clear hfz44_2
         try clear hx114_0
         try clear hx124_0
         try clear p114
         try clear p124
         try clear p2
         try clear q114
         try clear q124
         obtain ⟨kq,x88_18,rfl,HA,HJ18,HO_7,HO_12,BK113,BK123,HB⟩:=hcut
         cases kq with
         | zero=>exact absurd HA.out (by simp [contangolaw41_SuspendOnly.j1])
         | succ kj18 =>
          have H:=HA.out
          clear HA
          simp only [contangolaw41_SuspendOnly.j1] at H
          by_cases c45:x88_18 = true
          ·subst c45
           have H1:(none) = some r:=by rw [if_pos rfl] at H;exact H
           clear H
           have H:=H1
           clear H1
           exact absurd H (by simp)
          ·replace c45:=Bool.eq_false_iff.mpr c45
           subst c45
           have H1:(contangolaw41_SuspendOnly.l1 kj18 a1 l2 x7_1 x8_1 x9_1 t115 0) = some r:=by rw [if_neg (show ¬ (false = true) by decide)] at H;exact H
           clear H
           have H:=H1
           clear H1
           have H':=Aside0.mk H
           clear H
           go_wp2
           repeat (go_quiet (fail);try go_wp2)
           go_loopg [16] kj18 (fun kq v16 w'=>∃ (x16_3:Int),v16 = .int .i64 x16_3 ∧ Aside0 (contangolaw41_SuspendOnly.l1 kq a1 l2 x7_1 x8_1 x9_1 t115 x16_3 = some r) ∧ Aside0 (kq ≤ kj18) ∧ Aside0 (Kd.R k37 37 w' w.heap.size (fun k_=>some k_ ≠ ((.slice Ao25 t115.length co25):Value).ownBlock ∧ k_ ≠ gb113 ∧ k_ ≠ gb123) (.slice Ao20 x7_1.length co20) x7_1) ∧ Aside0 (Kd.R k37 37 w' w.heap.size (fun k_=>some k_ ≠ ((.slice Ao20 x7_1.length co20):Value).ownBlock ∧ k_ ≠ gb113 ∧ k_ ≠ gb123) (.slice Ao25 t115.length co25) t115) ∧ Aside0 (w'.heap[gb113]? = some (.cells #[.string t109,.int .i64 t110,.int .i64 t111] 37 (0,0))) ∧ Aside0 (w'.heap[gb123]? = some (.cells #[.string t119,.int .i64 t120,.int .i64 t121] 37 (0,0))) ∧ Aside0 (Below w.heap.size w w'))
           case atStart=>exact ⟨(0),(by first|rfl|(simp;done)|(simp [*];done)),H',⟨Nat.le_refl _⟩,⟨by (with_reducible repeat (first|apply Kd.R_alloc|apply Kd.R_drewN|apply Kd.R_drew));exact HO_7.out⟩,⟨by (with_reducible repeat (first|apply Kd.R_alloc|apply Kd.R_drewN|apply Kd.R_drew));exact HO_12.out⟩,⟨by (with_reducible repeat (first|refine blk_drewN ?_ _|refine blk_drew ?_|refine blk_alloc ?_ _));exact BK113.out⟩,⟨by (with_reducible repeat (first|refine blk_drewN ?_ _|refine blk_drew ?_|refine blk_alloc ?_ _));exact BK123.out⟩,⟨by repeat (first|(with_reducible first|exact HB.out|apply below_alloc|apply pw_below_drewN|apply below_drew1|refine below_set ?_ GE113.out|refine below_set ?_ GE123.out)|exact HB.out)⟩⟩
           case round =>
            clear H'
            try clear c1
            try clear p1
            try clear q1
            try clear hx1
            try clear c2
            try clear p2
            try clear c3
            try clear c4
            try clear c4b0
            try clear c4b1
            try clear c5
            try clear p6
            try clear c9
            try clear c9b0
            try clear c9b1
            try clear p11
            try clear q11
            try clear hx11
            try clear p12
            try clear q12
            try clear hx12
            try clear c13
            try clear c13b0
            try clear c15
            try clear c15b0
            try clear c17
            try clear c17b0
            try clear c17b1
            try clear c28
            try clear c30
            try clear c31
            try clear c31b0
            try clear c31b1
            try clear c32
            try clear c32b0
            try clear c33
            try clear c36
            try clear c36b0
            try clear c36b1
            try clear c37
            try clear c40
            try clear c43
            try clear c45
            try clear hcz23_0
            try clear hcz23_1
            try clear hcz23_2
            try clear hcz29_0
            try clear hcz29_1
            try clear hcz29_2
            try clear hcz34_0
            try clear hcz34_1
            try clear hcz34_2
            try clear hcz35_0
            try clear hcz35_1
            try clear hcz35_2
            try clear hcz38_0
            try clear hcz38_1
            try clear hcz38_2
            try clear hcz39_0
            try clear hcz39_1
            try clear hcz39_2
            try clear hcz41_0
            try clear hcz41_1
            try clear hcz41_2
            try clear hcz42_0
            try clear hcz42_1
            try clear hcz42_2
            try clear hcz44_0
            try clear hcz44_1
            try clear hcz44_2
            try clear hfz23_0
            try clear hfz23_1
            try clear hfz23_2
            try clear hfz29_0
            try clear hfz29_1
            try clear hfz29_2
            try clear hfz34_0
            try clear hfz34_1
            try clear hfz34_2
            try clear hfz35_0
            try clear hfz35_1
            try clear hfz35_2
            try clear hfz38_0
            try clear hfz38_1
            try clear hfz38_2
            try clear hfz39_0
            try clear hfz39_1
            try clear hfz39_2
            try clear hfz41_0
            try clear hfz41_1
            try clear hfz41_2
            try clear hfz42_0
            try clear hfz42_1
            try clear hfz42_2
            try clear hfz44_0
            try clear hfz44_1
            try clear hfz44_2
            try clear hx114_0
            try clear hx124_0
            try clear p1
            try clear p11
            try clear p114
            try clear p12
            try clear p124
            try clear p2
            try clear p6
            try clear q1
            try clear q11
            try clear q114
            try clear q12
            try clear q124
            obtain ⟨x16_3,rfl,HA,HK3,HO_7,HO_12,BK113,BK123,HB⟩:=hrel
            cases gk with
            | zero=>exact absurd HA.out (by simp [contangolaw41_SuspendOnly.l1])
            | succ k3 =>
             have H:=HA.out
             clear HA
             simp only [contangolaw41_SuspendOnly.l1] at H
             by_cases c46:x16_3 < (x7_1.length:Int)
             ·rw [if_pos c46] at H
              have c46b0:decide (x16_3 < (x7_1.length:Int)) = true:=decide_eq_true c46
              clear c46
              by_cases c47:0 ≤ x16_3
              ·rw [if_pos c47] at H
               have c47b0:decide (0 ≤ x16_3) = true:=decide_eq_true c47
               clear c47
               by_cases c48:((rd_T37 x7_1 x16_3).f0).toList = a1.toList
               ·rw [if_pos c48] at H
                have c48b0:(((rd_T37 x7_1 x16_3).f0).toList == a1.toList) = true:=beq_iff_eq.mpr c48
                have c48b1:(((rd_T37 x7_1 x16_3).f0).toList != a1.toList) = false:=bne_eq_false_iff_eq.mpr c48
                clear c48
                have H':=Aside0.mk H
                clear H
                have p125:0 ≤ (x16_3:Int):=of_decide_eq_true (by first|(with_reducible assumption)|assumption)
                have q125:x16_3 < (x7_1.length:Int):=of_decide_eq_true (by first|(with_reducible assumption)|assumption)
                obtain ⟨ad125,e125,hx125_0,hx125_1,hx125_2⟩:=at_T37 (Kd.R_reads' HO_7.out).2.2 x16_3 p125 q125
                cases e125
                replace p125:=eq_true p125
                replace q125:=eq_true q125
                go_wp2
                repeat (go_quiet (fail);try go_wp2)
                go_roundg k3
                case measure=>have:=HK1.out;have:=HJ18.out;have:=HK3.out;omega
                case rel=>exact ⟨(wrap64 (x16_3 + 1)),(by first|rfl|(simp;done)|(simp [*];done)),H',⟨by have:=HK1.out;have:=HJ18.out;have:=HK3.out;omega⟩,⟨by (with_reducible repeat (first|apply Kd.R_alloc|apply Kd.R_drewN|apply Kd.R_drew));exact HO_7.out⟩,⟨by (with_reducible repeat (first|apply Kd.R_alloc|apply Kd.R_drewN|apply Kd.R_drew));exact HO_12.out⟩,⟨by (with_reducible repeat (first|refine blk_drewN ?_ _|refine blk_drew ?_|refine blk_alloc ?_ _));exact BK113.out⟩,⟨by (with_reducible repeat (first|refine blk_drewN ?_ _|refine blk_drew ?_|refine blk_alloc ?_ _));exact BK123.out⟩,⟨by repeat (first|(with_reducible first|exact HB.out|apply below_alloc|apply pw_below_drewN|apply below_drew1|refine below_set ?_ GE113.out|refine below_set ?_ GE123.out)|exact HB.out)⟩⟩
               ·rw [if_neg c48] at H
                have c48b0:(((rd_T37 x7_1 x16_3).f0).toList == a1.toList) = false:=beq_eq_false_iff_ne.mpr c48
                have c48b1:(((rd_T37 x7_1 x16_3).f0).toList != a1.toList) = true:=bne_iff_ne.mpr c48
                by_cases c49:x16_3 < (t115.length:Int)
                ·rw [if_pos c49] at H
                 have c49b0:decide (x16_3 < (t115.length:Int)) = true:=decide_eq_true c49
                 clear c49
                 by_cases c50:(!((((rd_T37 t115 x16_3).f0).toList) == (((rd_T37 x7_1 x16_3).f0).toList)) || (!(((rd_T37 t115 x16_3).f1) == ((rd_T37 x7_1 x16_3).f1)) || (!(((rd_T37 t115 x16_3).f2) == ((rd_T37 x7_1 x16_3).f2))))) = true
                 ·rw [if_pos c50] at H
                  exact absurd H (by simp)
                 ·rw [if_neg c50] at H
                  have c50b0:(!((((rd_T37 t115 x16_3).f0).toList) == (((rd_T37 x7_1 x16_3).f0).toList)) || (!(((rd_T37 t115 x16_3).f1) == ((rd_T37 x7_1 x16_3).f1)) || (!(((rd_T37 t115 x16_3).f2) == ((rd_T37 x7_1 x16_3).f2))))) = false:=by simpa using c50
                  clear c50
                  have H':=Aside0.mk H
                  clear H
                  have p125:0 ≤ (x16_3:Int):=of_decide_eq_true (by first|(with_reducible assumption)|assumption)
                  have q125:x16_3 < (x7_1.length:Int):=of_decide_eq_true (by first|(with_reducible assumption)|assumption)
                  obtain ⟨ad125,e125,hx125_0,hx125_1,hx125_2⟩:=at_T37 (Kd.R_reads' HO_7.out).2.2 x16_3 p125 q125
                  cases e125
                  replace p125:=eq_true p125
                  replace q125:=eq_true q125
                  have p126:0 ≤ (x16_3:Int):=of_decide_eq_true (by first|(with_reducible assumption)|assumption)
                  have q126:x16_3 < (t115.length:Int):=of_decide_eq_true (by first|(with_reducible assumption)|assumption)
                  obtain ⟨ad126,e126,hx126_0,hx126_1,hx126_2⟩:=at_T37 (Kd.R_reads' HO_12.out).2.2 x16_3 p126 q126
                  cases e126
                  replace p126:=eq_true p126
                  replace q126:=eq_true q126
                  have p127:0 ≤ (x16_3:Int):=of_decide_eq_true (by first|(with_reducible assumption)|assumption)
                  have q127:x16_3 < (x7_1.length:Int):=of_decide_eq_true (by first|(with_reducible assumption)|assumption)
                  obtain ⟨ad127,e127,hx127_0,hx127_1,hx127_2⟩:=at_T37 (Kd.R_reads' HO_7.out).2.2 x16_3 p127 q127
                  obtain rfl:ad125 = ad127:=(by injection e127)
                  replace p127:=eq_true p127
                  replace q127:=eq_true q127
                  go_wp2
                  repeat (go_quiet (fail);try go_wp2)
                  go_roundg k3
                  case measure=>have:=HK1.out;have:=HJ18.out;have:=HK3.out;omega
                  case rel=>exact ⟨(wrap64 (x16_3 + 1)),(by first|rfl|(simp;done)|(simp [*];done)),H',⟨by have:=HK1.out;have:=HJ18.out;have:=HK3.out;omega⟩,⟨by (with_reducible repeat (first|apply Kd.R_alloc|apply Kd.R_drewN|apply Kd.R_drew));exact HO_7.out⟩,⟨by (with_reducible repeat (first|apply Kd.R_alloc|apply Kd.R_drewN|apply Kd.R_drew));exact HO_12.out⟩,⟨by (with_reducible repeat (first|refine blk_drewN ?_ _|refine blk_drew ?_|refine blk_alloc ?_ _));exact BK113.out⟩,⟨by (with_reducible repeat (first|refine blk_drewN ?_ _|refine blk_drew ?_|refine blk_alloc ?_ _));exact BK123.out⟩,⟨by repeat (first|(with_reducible first|exact HB.out|apply below_alloc|apply pw_below_drewN|apply below_drew1|refine below_set ?_ GE113.out|refine below_set ?_ GE123.out)|exact HB.out)⟩⟩
                ·rw [if_neg c49] at H
                 exact absurd H (by simp)
              ·rw [if_neg c47] at H
               exact absurd H (by simp)
             ·rw [if_neg c46] at H
              have c46b0:decide (x16_3 < (x7_1.length:Int)) = false:=decide_eq_false c46
              clear c46
              have H':=Aside0.mk H
              clear H
              go_wp2
              repeat (go_quiet (fail);try go_wp2)
              go_roundg k3
              case measure=>have:=HK1.out;have:=HJ18.out;have:=HK3.out;omega
              case rel=>exact ⟨(t115),(wrap64 (x8_1 + 1)),(wrap64 (x9_1 + 1)),(by first|rfl|(simp;done)|(simp [*];done)),(by first|rfl|(simp;done)|(simp [*];done)),H',⟨by have:=HK1.out;have:=HJ18.out;have:=HK3.out;omega⟩,⟨by (with_reducible repeat (first|apply Kd.R_alloc|apply Kd.R_drewN|apply Kd.R_drew));exact Kd.R_mono HO_12.out (fun _ hk=>trivial)⟩,⟨by repeat (first|(with_reducible first|exact HB.out|apply below_alloc|apply pw_below_drewN|apply below_drew1|refine below_set ?_ GE113.out|refine below_set ?_ GE123.out)|exact HB.out)⟩⟩
       ·rw [if_neg c17] at H
        have c17b0:(t116 == 0) = false:=beq_eq_false_iff_ne.mpr c17
        have c17b1:(t116 != 0) = true:=bne_iff_ne.mpr c17
        have H':=Aside0.mk H
        clear H
        obtain ⟨Ao51,co51,eo51⟩:=Kd.R_slice HO_7.out
        subst eo51
        go_wp2_with (first|(go_at_call 15;(with_reducible refine (suspend_Of.calls k1 _ _ x7_1 a1 t109 t110 t111 t112 _ ?side1 ?side2 A14.out).mono ?_);(case side1=>repeat (first|exact (Kd.R_reads' HO_7.out).2.2|(with_reducible refine Kd.C_alloc ?_ _)|(with_reducible refine Kd.C_drewN ?_ _)|(with_reducible refine Kd.C_drew ?_)));(case side2=>exact (Kd.R_reads' HO_7.out).2.1);rintro e w52 ⟨rfl,hb⟩;have n0_:=Aside0.mk (Kd.R_below (by (with_reducible repeat (first|apply Kd.R_alloc|apply Kd.R_drewN|apply Kd.R_drew));exact HO_7.out) hb);have n1_:=Aside0.mk (below_step (by repeat (first|(with_reducible first|exact HB.out|apply below_alloc|apply pw_below_drewN|apply below_drew1)|exact HB.out)) hb);clear HO_7;clear HB;have HO_7:=n0_;have HB:=n1_;clear n0_ n1_;(try clear hb);(try clear hb2);(try clear hk);(try clear hi))|((with_reducible refine gate_dst (N:=10) rfl ?_);(try (refine gate_guard (by rfl) ?_;dsimp only));refine box_event ?hg (N:=10) ?hd (cs:=#[.string (⟨#[]⟩:ByteArray),.int .i64 0,.int .i64 0]) (t:=37) ?hr ?_;(case hd=>rfl);(case hg=>rfl);(case hr=>first|(go_simp;done)|(go_simp;rfl));intro gb113 hg w53 hbox hb;have n0_:=Aside0.mk (Kd.R_below (Kd.R_elderB (by (with_reducible repeat (first|apply Kd.R_alloc|apply Kd.R_drewN|apply Kd.R_drew));exact HO_7.out) gb113 (Nat.le_of_eq hg.symm)) hb);have n1_:=Aside0.mk (below_step (by repeat (first|(with_reducible first|exact HB.out|apply below_alloc|apply pw_below_drewN|apply below_drew1)|exact HB.out)) hb);have n2_:=Aside0.mk (hbox);have n3_:=Aside0.mk ((by rw [hg];exact (below_size (by repeat (first|(with_reducible first|exact HB.out|apply below_alloc|apply pw_below_drewN|apply below_drew1)|exact HB.out))):w.heap.size ≤ gb113));have n4_:=Aside0.mk ((by rw [hg];exact (below_size (by repeat (first|(with_reducible first|exact HB.out|apply below_alloc|apply pw_below_drewN|apply below_drew1)|exact HB.out))):w.heap.size ≤ gb113));clear HO_7;clear HB;have HO_7:=n0_;have HB:=n1_;have BK113:=n2_;have GW113:=n3_;have GE113:=n4_;clear n0_ n1_ n2_ n3_ n4_;clear hb hbox hg;have hcz54_0:w53.cell? ⟨gb113,0,none⟩ = some (.string (⟨#[]⟩:ByteArray)):=(blk_cell BK113.out 0).trans rfl;have hcz54_1:w53.cell? ⟨gb113,1,none⟩ = some (.int .i64 0):=(blk_cell BK113.out 1).trans rfl;have hcz54_2:w53.cell? ⟨gb113,2,none⟩ = some (.int .i64 0):=(blk_cell BK113.out 2).trans rfl;have hfz54_0:=blk_frozen BK113.out 0;have hfz54_1:=blk_frozen BK113.out 1;have hfz54_2:=blk_frozen BK113.out 2;have p114:0 ≤ (x9_1:Int):=of_decide_eq_true (by first|(with_reducible assumption)|assumption);have q114:x9_1 < (l2.length:Int):=of_decide_eq_true (by first|(with_reducible assumption)|assumption);obtain ⟨ad114,e114,hx114_0⟩:=Kd.at_int HR2.out x9_1 p114 q114;cases e114;have hn114_0:ad114.block ≠ gb113:=Nat.ne_of_lt (Nat.lt_of_lt_of_le (by have:=World.block_lt_of_cell? _ _ hx114_0;first|rwa [add_block] at this|exact this) GW113.out);have hn114_1:ad114.block ≠ gb113:=Nat.ne_of_lt (Nat.lt_of_lt_of_le (by have:=World.block_lt_of_cell? _ _ hx114_0;first|rwa [add_block] at this|exact this) GW113.out);have hn114_2:ad114.block ≠ gb113:=Nat.ne_of_lt (Nat.lt_of_lt_of_le (by have:=World.block_lt_of_cell? _ _ hx114_0;first|rwa [add_block] at this|exact this) GW113.out);replace hx114_0:=(HB.out.cell (World.block_lt_of_cell? w _ hx114_0)).trans hx114_0;replace hx114_0:=(cell_far (p:=⟨gb113,0,none⟩) (by first|(rw [add_block];exact hn114_0)|(show (Addr.add _ _).block ≠ _;rw [add_block];exact hn114_0)|exact hn114_0) (.string t109)).trans hx114_0;replace hx114_0:=(cell_far (p:=⟨gb113,1,none⟩) (by first|(rw [add_block];exact hn114_1)|(show (Addr.add _ _).block ≠ _;rw [add_block];exact hn114_1)|exact hn114_1) (.int .i64 t110)).trans hx114_0;replace hx114_0:=(cell_far (p:=⟨gb113,2,none⟩) (by first|(rw [add_block];exact hn114_2)|(show (Addr.add _ _).block ≠ _;rw [add_block];exact hn114_2)|exact hn114_2) (.int .i64 t111)).trans hx114_0;(try have hy114_0:=fun (n_:Nat)=>(show (((((w53.drewN n_).setCell ⟨gb113,0,none⟩ (.string t109)).setCell ⟨gb113,1,none⟩ (.int .i64 t110)).setCell ⟨gb113,2,none⟩ (.int .i64 t111))).cell? _ = some _ from hx114_0));clear hn114_0;clear hn114_1;clear hn114_2;replace p114:=eq_true p114;replace q114:=eq_true q114)|(go_at_call 7;(with_reducible refine (suspend_Step.calls k1 _ _ x7_1 a1 (rd l2 x9_1) t115 t116 _ ?side1 ?side2 A16.out).mono ?_);(case side1=>refine (Kd.R_reads' (e:=37) (base:=w.heap.size) (ok:=fun k_=>(True ∧ k_ ≠ gb113)) (n:=x7_1.length) (c:=co51) ?_).2.2;exact (by (with_reducible repeat (first|apply Kd.R_alloc|apply Kd.R_drewN|apply Kd.R_drew));exact (Kd.R_mono (Kd.R_far (p:=⟨gb113,2,none⟩) (Kd.R_far (p:=⟨gb113,1,none⟩) (Kd.R_far (p:=⟨gb113,0,none⟩) (Kd.R_mono HO_7.out (fun k_ hk=>(⟨hk,hk.2⟩:_ ∧ k_ ≠ gb113))) (fun _ hk=>hk.2) (.string t109)) (fun _ hk=>hk.2) (.int .i64 t110)) (fun _ hk=>hk.2) (.int .i64 t111)) (fun _ h_=>h_.1))));(case side2=>exact (Kd.R_reads' HO_7.out).2.1);rintro e w55 ⟨v117,rfl,ho0,hb⟩;have n0_:=Aside0.mk (Kd.R_elder' (by (with_reducible repeat (first|apply Kd.R_alloc|apply Kd.R_drewN|apply Kd.R_drew));exact (Kd.R_mono (Kd.R_far (p:=⟨gb113,2,none⟩) (Kd.R_far (p:=⟨gb113,1,none⟩) (Kd.R_far (p:=⟨gb113,0,none⟩) (Kd.R_mono HO_7.out (fun k_ hk=>(⟨hk,hk.2⟩:_ ∧ k_ ≠ gb113))) (fun _ hk=>hk.2) (.string t109)) (fun _ hk=>hk.2) (.int .i64 t110)) (fun _ hk=>hk.2) (.int .i64 t111)) (fun _ h_=>h_.1))) (Kd.R_base ho0) hb);have n1_:=Aside0.mk (Kd.R_lower (Kd.R_newB (Kd.R_new' ho0 (Kd.R_lt (by (with_reducible repeat (first|apply Kd.R_alloc|apply Kd.R_drewN|apply Kd.R_drew));exact (Kd.R_mono (Kd.R_far (p:=⟨gb113,2,none⟩) (Kd.R_far (p:=⟨gb113,1,none⟩) (Kd.R_far (p:=⟨gb113,0,none⟩) (Kd.R_mono HO_7.out (fun k_ hk=>(⟨hk,hk.2⟩:_ ∧ k_ ≠ gb113))) (fun _ hk=>hk.2) (.string t109)) (fun _ hk=>hk.2) (.int .i64 t110)) (fun _ hk=>hk.2) (.int .i64 t111)) (fun _ h_=>h_.1))))) (g:=gb113) (o:=.cells #[.string t109,.int .i64 t110,.int .i64 t111] 37 (0,0)) (by (with_reducible repeat (first|refine blk_drewN ?_ _|refine blk_drew ?_|refine blk_alloc ?_ _));refine blk_put (cs:=#[.string t109,.int .i64 t110,.int .i64 0]) ?_ 2 _ rfl;(with_reducible repeat (first|refine blk_drewN ?_ _|refine blk_drew ?_|refine blk_alloc ?_ _));refine blk_put (cs:=#[.string t109,.int .i64 0,.int .i64 0]) ?_ 1 _ rfl;(with_reducible repeat (first|refine blk_drewN ?_ _|refine blk_drew ?_|refine blk_alloc ?_ _));refine blk_put (cs:=#[.string (⟨#[]⟩:ByteArray),.int .i64 0,.int .i64 0]) ?_ 0 _ rfl;(with_reducible repeat (first|refine blk_drewN ?_ _|refine blk_drew ?_|refine blk_alloc ?_ _));exact BK113.out)) (below_size (by repeat (first|(with_reducible first|exact HB.out|apply below_alloc|apply pw_below_drewN|apply below_drew1|refine below_set ?_ GE113.out)|exact HB.out))));have n2_:=Aside0.mk (blk_below (g:=gb113) (o:=.cells #[.string t109,.int .i64 t110,.int .i64 t111] 37 (0,0)) (by (with_reducible repeat (first|refine blk_drewN ?_ _|refine blk_drew ?_|refine blk_alloc ?_ _));refine blk_put (cs:=#[.string t109,.int .i64 t110,.int .i64 0]) ?_ 2 _ rfl;(with_reducible repeat (first|refine blk_drewN ?_ _|refine blk_drew ?_|refine blk_alloc ?_ _));refine blk_put (cs:=#[.string t109,.int .i64 0,.int .i64 0]) ?_ 1 _ rfl;(with_reducible repeat (first|refine blk_drewN ?_ _|refine blk_drew ?_|refine blk_alloc ?_ _));refine blk_put (cs:=#[.string (⟨#[]⟩:ByteArray),.int .i64 0,.int .i64 0]) ?_ 0 _ rfl;(with_reducible repeat (first|refine blk_drewN ?_ _|refine blk_drew ?_|refine blk_alloc ?_ _));exact BK113.out) hb);have n3_:=Aside0.mk (below_step (by repeat (first|(with_reducible first|exact HB.out|apply below_alloc|apply pw_below_drewN|apply below_drew1|refine below_set ?_ GE113.out)|exact HB.out)) hb);clear HO_7;clear BK113;clear HB;have HO_7:=n0_;have HO118:=n1_;have BK113:=n2_;have HB:=n3_;clear n0_ n1_ n2_ n3_;(try clear hb);(try clear hb2);(try clear hk);(try clear hi);(try clear ho0)))
        repeat (go_quiet (first|(go_at_call 15;(with_reducible refine (suspend_Of.calls k1 _ _ x7_1 a1 t109 t110 t111 t112 _ ?side1 ?side2 A14.out).mono ?_);(case side1=>repeat (first|exact (Kd.R_reads' HO_7.out).2.2|(with_reducible refine Kd.C_alloc ?_ _)|(with_reducible refine Kd.C_drewN ?_ _)|(with_reducible refine Kd.C_drew ?_)));(case side2=>exact (Kd.R_reads' HO_7.out).2.1);rintro e w52 ⟨rfl,hb⟩;have n0_:=Aside0.mk (Kd.R_below (by (with_reducible repeat (first|apply Kd.R_alloc|apply Kd.R_drewN|apply Kd.R_drew));exact HO_7.out) hb);have n1_:=Aside0.mk (below_step (by repeat (first|(with_reducible first|exact HB.out|apply below_alloc|apply pw_below_drewN|apply below_drew1)|exact HB.out)) hb);clear HO_7;clear HB;have HO_7:=n0_;have HB:=n1_;clear n0_ n1_;(try clear hb);(try clear hb2);(try clear hk);(try clear hi))|((with_reducible refine gate_dst (N:=10) rfl ?_);(try (refine gate_guard (by rfl) ?_;dsimp only));refine box_event ?hg (N:=10) ?hd (cs:=#[.string (⟨#[]⟩:ByteArray),.int .i64 0,.int .i64 0]) (t:=37) ?hr ?_;(case hd=>rfl);(case hg=>rfl);(case hr=>first|(go_simp;done)|(go_simp;rfl));intro gb113 hg w53 hbox hb;have n0_:=Aside0.mk (Kd.R_below (Kd.R_elderB (by (with_reducible repeat (first|apply Kd.R_alloc|apply Kd.R_drewN|apply Kd.R_drew));exact HO_7.out) gb113 (Nat.le_of_eq hg.symm)) hb);have n1_:=Aside0.mk (below_step (by repeat (first|(with_reducible first|exact HB.out|apply below_alloc|apply pw_below_drewN|apply below_drew1)|exact HB.out)) hb);have n2_:=Aside0.mk (hbox);have n3_:=Aside0.mk ((by rw [hg];exact (below_size (by repeat (first|(with_reducible first|exact HB.out|apply below_alloc|apply pw_below_drewN|apply below_drew1)|exact HB.out))):w.heap.size ≤ gb113));have n4_:=Aside0.mk ((by rw [hg];exact (below_size (by repeat (first|(with_reducible first|exact HB.out|apply below_alloc|apply pw_below_drewN|apply below_drew1)|exact HB.out))):w.heap.size ≤ gb113));clear HO_7;clear HB;have HO_7:=n0_;have HB:=n1_;have BK113:=n2_;have GW113:=n3_;have GE113:=n4_;clear n0_ n1_ n2_ n3_ n4_;clear hb hbox hg;have hcz54_0:w53.cell? ⟨gb113,0,none⟩ = some (.string (⟨#[]⟩:ByteArray)):=(blk_cell BK113.out 0).trans rfl;have hcz54_1:w53.cell? ⟨gb113,1,none⟩ = some (.int .i64 0):=(blk_cell BK113.out 1).trans rfl;have hcz54_2:w53.cell? ⟨gb113,2,none⟩ = some (.int .i64 0):=(blk_cell BK113.out 2).trans rfl;have hfz54_0:=blk_frozen BK113.out 0;have hfz54_1:=blk_frozen BK113.out 1;have hfz54_2:=blk_frozen BK113.out 2;have p114:0 ≤ (x9_1:Int):=of_decide_eq_true (by first|(with_reducible assumption)|assumption);have q114:x9_1 < (l2.length:Int):=of_decide_eq_true (by first|(with_reducible assumption)|assumption);obtain ⟨ad114,e114,hx114_0⟩:=Kd.at_int HR2.out x9_1 p114 q114;cases e114;have hn114_0:ad114.block ≠ gb113:=Nat.ne_of_lt (Nat.lt_of_lt_of_le (by have:=World.block_lt_of_cell? _ _ hx114_0;first|rwa [add_block] at this|exact this) GW113.out);have hn114_1:ad114.block ≠ gb113:=Nat.ne_of_lt (Nat.lt_of_lt_of_le (by have:=World.block_lt_of_cell? _ _ hx114_0;first|rwa [add_block] at this|exact this) GW113.out);have hn114_2:ad114.block ≠ gb113:=Nat.ne_of_lt (Nat.lt_of_lt_of_le (by have:=World.block_lt_of_cell? _ _ hx114_0;first|rwa [add_block] at this|exact this) GW113.out);replace hx114_0:=(HB.out.cell (World.block_lt_of_cell? w _ hx114_0)).trans hx114_0;replace hx114_0:=(cell_far (p:=⟨gb113,0,none⟩) (by first|(rw [add_block];exact hn114_0)|(show (Addr.add _ _).block ≠ _;rw [add_block];exact hn114_0)|exact hn114_0) (.string t109)).trans hx114_0;replace hx114_0:=(cell_far (p:=⟨gb113,1,none⟩) (by first|(rw [add_block];exact hn114_1)|(show (Addr.add _ _).block ≠ _;rw [add_block];exact hn114_1)|exact hn114_1) (.int .i64 t110)).trans hx114_0;replace hx114_0:=(cell_far (p:=⟨gb113,2,none⟩) (by first|(rw [add_block];exact hn114_2)|(show (Addr.add _ _).block ≠ _;rw [add_block];exact hn114_2)|exact hn114_2) (.int .i64 t111)).trans hx114_0;(try have hy114_0:=fun (n_:Nat)=>(show (((((w53.drewN n_).setCell ⟨gb113,0,none⟩ (.string t109)).setCell ⟨gb113,1,none⟩ (.int .i64 t110)).setCell ⟨gb113,2,none⟩ (.int .i64 t111))).cell? _ = some _ from hx114_0));clear hn114_0;clear hn114_1;clear hn114_2;replace p114:=eq_true p114;replace q114:=eq_true q114)|(go_at_call 7;(with_reducible refine (suspend_Step.calls k1 _ _ x7_1 a1 (rd l2 x9_1) t115 t116 _ ?side1 ?side2 A16.out).mono ?_);(case side1=>refine (Kd.R_reads' (e:=37) (base:=w.heap.size) (ok:=fun k_=>(True ∧ k_ ≠ gb113)) (n:=x7_1.length) (c:=co51) ?_).2.2;exact (by (with_reducible repeat (first|apply Kd.R_alloc|apply Kd.R_drewN|apply Kd.R_drew));exact (Kd.R_mono (Kd.R_far (p:=⟨gb113,2,none⟩) (Kd.R_far (p:=⟨gb113,1,none⟩) (Kd.R_far (p:=⟨gb113,0,none⟩) (Kd.R_mono HO_7.out (fun k_ hk=>(⟨hk,hk.2⟩:_ ∧ k_ ≠ gb113))) (fun _ hk=>hk.2) (.string t109)) (fun _ hk=>hk.2) (.int .i64 t110)) (fun _ hk=>hk.2) (.int .i64 t111)) (fun _ h_=>h_.1))));(case side2=>exact (Kd.R_reads' HO_7.out).2.1);rintro e w55 ⟨v117,rfl,ho0,hb⟩;have n0_:=Aside0.mk (Kd.R_elder' (by (with_reducible repeat (first|apply Kd.R_alloc|apply Kd.R_drewN|apply Kd.R_drew));exact (Kd.R_mono (Kd.R_far (p:=⟨gb113,2,none⟩) (Kd.R_far (p:=⟨gb113,1,none⟩) (Kd.R_far (p:=⟨gb113,0,none⟩) (Kd.R_mono HO_7.out (fun k_ hk=>(⟨hk,hk.2⟩:_ ∧ k_ ≠ gb113))) (fun _ hk=>hk.2) (.string t109)) (fun _ hk=>hk.2) (.int .i64 t110)) (fun _ hk=>hk.2) (.int .i64 t111)) (fun _ h_=>h_.1))) (Kd.R_base ho0) hb);have n1_:=Aside0.mk (Kd.R_lower (Kd.R_newB (Kd.R_new' ho0 (Kd.R_lt (by (with_reducible repeat (first|apply Kd.R_alloc|apply Kd.R_drewN|apply Kd.R_drew));exact (Kd.R_mono (Kd.R_far (p:=⟨gb113,2,none⟩) (Kd.R_far (p:=⟨gb113,1,none⟩) (Kd.R_far (p:=⟨gb113,0,none⟩) (Kd.R_mono HO_7.out (fun k_ hk=>(⟨hk,hk.2⟩:_ ∧ k_ ≠ gb113))) (fun _ hk=>hk.2) (.string t109)) (fun _ hk=>hk.2) (.int .i64 t110)) (fun _ hk=>hk.2) (.int .i64 t111)) (fun _ h_=>h_.1))))) (g:=gb113) (o:=.cells #[.string t109,.int .i64 t110,.int .i64 t111] 37 (0,0)) (by (with_reducible repeat (first|refine blk_drewN ?_ _|refine blk_drew ?_|refine blk_alloc ?_ _));refine blk_put (cs:=#[.string t109,.int .i64 t110,.int .i64 0]) ?_ 2 _ rfl;(with_reducible repeat (first|refine blk_drewN ?_ _|refine blk_drew ?_|refine blk_alloc ?_ _));refine blk_put (cs:=#[.string t109,.int .i64 0,.int .i64 0]) ?_ 1 _ rfl;(with_reducible repeat (first|refine blk_drewN ?_ _|refine blk_drew ?_|refine blk_alloc ?_ _));refine blk_put (cs:=#[.string (⟨#[]⟩:ByteArray),.int .i64 0,.int .i64 0]) ?_ 0 _ rfl;(with_reducible repeat (first|refine blk_drewN ?_ _|refine blk_drew ?_|refine blk_alloc ?_ _));exact BK113.out)) (below_size (by repeat (first|(with_reducible first|exact HB.out|apply below_alloc|apply pw_below_drewN|apply below_drew1|refine below_set ?_ GE113.out)|exact HB.out))));have n2_:=Aside0.mk (blk_below (g:=gb113) (o:=.cells #[.string t109,.int .i64 t110,.int .i64 t111] 37 (0,0)) (by (with_reducible repeat (first|refine blk_drewN ?_ _|refine blk_drew ?_|refine blk_alloc ?_ _));refine blk_put (cs:=#[.string t109,.int .i64 t110,.int .i64 0]) ?_ 2 _ rfl;(with_reducible repeat (first|refine blk_drewN ?_ _|refine blk_drew ?_|refine blk_alloc ?_ _));refine blk_put (cs:=#[.string t109,.int .i64 0,.int .i64 0]) ?_ 1 _ rfl;(with_reducible repeat (first|refine blk_drewN ?_ _|refine blk_drew ?_|refine blk_alloc ?_ _));refine blk_put (cs:=#[.string (⟨#[]⟩:ByteArray),.int .i64 0,.int .i64 0]) ?_ 0 _ rfl;(with_reducible repeat (first|refine blk_drewN ?_ _|refine blk_drew ?_|refine blk_alloc ?_ _));exact BK113.out) hb);have n3_:=Aside0.mk (below_step (by repeat (first|(with_reducible first|exact HB.out|apply below_alloc|apply pw_below_drewN|apply below_drew1|refine below_set ?_ GE113.out)|exact HB.out)) hb);clear HO_7;clear BK113;clear HB;have HO_7:=n0_;have HO118:=n1_;have BK113:=n2_;have HB:=n3_;clear n0_ n1_ n2_ n3_;(try clear hb);(try clear hb2);(try clear hk);(try clear hi);(try clear ho0)));try go_wp2_with (first|(go_at_call 15;(with_reducible refine (suspend_Of.calls k1 _ _ x7_1 a1 t109 t110 t111 t112 _ ?side1 ?side2 A14.out).mono ?_);(case side1=>repeat (first|exact (Kd.R_reads' HO_7.out).2.2|(with_reducible refine Kd.C_alloc ?_ _)|(with_reducible refine Kd.C_drewN ?_ _)|(with_reducible refine Kd.C_drew ?_)));(case side2=>exact (Kd.R_reads' HO_7.out).2.1);rintro e w52 ⟨rfl,hb⟩;have n0_:=Aside0.mk (Kd.R_below (by (with_reducible repeat (first|apply Kd.R_alloc|apply Kd.R_drewN|apply Kd.R_drew));exact HO_7.out) hb);have n1_:=Aside0.mk (below_step (by repeat (first|(with_reducible first|exact HB.out|apply below_alloc|apply pw_below_drewN|apply below_drew1)|exact HB.out)) hb);clear HO_7;clear HB;have HO_7:=n0_;have HB:=n1_;clear n0_ n1_;(try clear hb);(try clear hb2);(try clear hk);(try clear hi))|((with_reducible refine gate_dst (N:=10) rfl ?_);(try (refine gate_guard (by rfl) ?_;dsimp only));refine box_event ?hg (N:=10) ?hd (cs:=#[.string (⟨#[]⟩:ByteArray),.int .i64 0,.int .i64 0]) (t:=37) ?hr ?_;(case hd=>rfl);(case hg=>rfl);(case hr=>first|(go_simp;done)|(go_simp;rfl));intro gb113 hg w53 hbox hb;have n0_:=Aside0.mk (Kd.R_below (Kd.R_elderB (by (with_reducible repeat (first|apply Kd.R_alloc|apply Kd.R_drewN|apply Kd.R_drew));exact HO_7.out) gb113 (Nat.le_of_eq hg.symm)) hb);have n1_:=Aside0.mk (below_step (by repeat (first|(with_reducible first|exact HB.out|apply below_alloc|apply pw_below_drewN|apply below_drew1)|exact HB.out)) hb);have n2_:=Aside0.mk (hbox);have n3_:=Aside0.mk ((by rw [hg];exact (below_size (by repeat (first|(with_reducible first|exact HB.out|apply below_alloc|apply pw_below_drewN|apply below_drew1)|exact HB.out))):w.heap.size ≤ gb113));have n4_:=Aside0.mk ((by rw [hg];exact (below_size (by repeat (first|(with_reducible first|exact HB.out|apply below_alloc|apply pw_below_drewN|apply below_drew1)|exact HB.out))):w.heap.size ≤ gb113));clear HO_7;clear HB;have HO_7:=n0_;have HB:=n1_;have BK113:=n2_;have GW113:=n3_;have GE113:=n4_;clear n0_ n1_ n2_ n3_ n4_;clear hb hbox hg;have hcz54_0:w53.cell? ⟨gb113,0,none⟩ = some (.string (⟨#[]⟩:ByteArray)):=(blk_cell BK113.out 0).trans rfl;have hcz54_1:w53.cell? ⟨gb113,1,none⟩ = some (.int .i64 0):=(blk_cell BK113.out 1).trans rfl;have hcz54_2:w53.cell? ⟨gb113,2,none⟩ = some (.int .i64 0):=(blk_cell BK113.out 2).trans rfl;have hfz54_0:=blk_frozen BK113.out 0;have hfz54_1:=blk_frozen BK113.out 1;have hfz54_2:=blk_frozen BK113.out 2;have p114:0 ≤ (x9_1:Int):=of_decide_eq_true (by first|(with_reducible assumption)|assumption);have q114:x9_1 < (l2.length:Int):=of_decide_eq_true (by first|(with_reducible assumption)|assumption);obtain ⟨ad114,e114,hx114_0⟩:=Kd.at_int HR2.out x9_1 p114 q114;cases e114;have hn114_0:ad114.block ≠ gb113:=Nat.ne_of_lt (Nat.lt_of_lt_of_le (by have:=World.block_lt_of_cell? _ _ hx114_0;first|rwa [add_block] at this|exact this) GW113.out);have hn114_1:ad114.block ≠ gb113:=Nat.ne_of_lt (Nat.lt_of_lt_of_le (by have:=World.block_lt_of_cell? _ _ hx114_0;first|rwa [add_block] at this|exact this) GW113.out);have hn114_2:ad114.block ≠ gb113:=Nat.ne_of_lt (Nat.lt_of_lt_of_le (by have:=World.block_lt_of_cell? _ _ hx114_0;first|rwa [add_block] at this|exact this) GW113.out);replace hx114_0:=(HB.out.cell (World.block_lt_of_cell? w _ hx114_0)).trans hx114_0;replace hx114_0:=(cell_far (p:=⟨gb113,0,none⟩) (by first|(rw [add_block];exact hn114_0)|(show (Addr.add _ _).block ≠ _;rw [add_block];exact hn114_0)|exact hn114_0) (.string t109)).trans hx114_0;replace hx114_0:=(cell_far (p:=⟨gb113,1,none⟩) (by first|(rw [add_block];exact hn114_1)|(show (Addr.add _ _).block ≠ _;rw [add_block];exact hn114_1)|exact hn114_1) (.int .i64 t110)).trans hx114_0;replace hx114_0:=(cell_far (p:=⟨gb113,2,none⟩) (by first|(rw [add_block];exact hn114_2)|(show (Addr.add _ _).block ≠ _;rw [add_block];exact hn114_2)|exact hn114_2) (.int .i64 t111)).trans hx114_0;(try have hy114_0:=fun (n_:Nat)=>(show (((((w53.drewN n_).setCell ⟨gb113,0,none⟩ (.string t109)).setCell ⟨gb113,1,none⟩ (.int .i64 t110)).setCell ⟨gb113,2,none⟩ (.int .i64 t111))).cell? _ = some _ from hx114_0));clear hn114_0;clear hn114_1;clear hn114_2;replace p114:=eq_true p114;replace q114:=eq_true q114)|(go_at_call 7;(with_reducible refine (suspend_Step.calls k1 _ _ x7_1 a1 (rd l2 x9_1) t115 t116 _ ?side1 ?side2 A16.out).mono ?_);(case side1=>refine (Kd.R_reads' (e:=37) (base:=w.heap.size) (ok:=fun k_=>(True ∧ k_ ≠ gb113)) (n:=x7_1.length) (c:=co51) ?_).2.2;exact (by (with_reducible repeat (first|apply Kd.R_alloc|apply Kd.R_drewN|apply Kd.R_drew));exact (Kd.R_mono (Kd.R_far (p:=⟨gb113,2,none⟩) (Kd.R_far (p:=⟨gb113,1,none⟩) (Kd.R_far (p:=⟨gb113,0,none⟩) (Kd.R_mono HO_7.out (fun k_ hk=>(⟨hk,hk.2⟩:_ ∧ k_ ≠ gb113))) (fun _ hk=>hk.2) (.string t109)) (fun _ hk=>hk.2) (.int .i64 t110)) (fun _ hk=>hk.2) (.int .i64 t111)) (fun _ h_=>h_.1))));(case side2=>exact (Kd.R_reads' HO_7.out).2.1);rintro e w55 ⟨v117,rfl,ho0,hb⟩;have n0_:=Aside0.mk (Kd.R_elder' (by (with_reducible repeat (first|apply Kd.R_alloc|apply Kd.R_drewN|apply Kd.R_drew));exact (Kd.R_mono (Kd.R_far (p:=⟨gb113,2,none⟩) (Kd.R_far (p:=⟨gb113,1,none⟩) (Kd.R_far (p:=⟨gb113,0,none⟩) (Kd.R_mono HO_7.out (fun k_ hk=>(⟨hk,hk.2⟩:_ ∧ k_ ≠ gb113))) (fun _ hk=>hk.2) (.string t109)) (fun _ hk=>hk.2) (.int .i64 t110)) (fun _ hk=>hk.2) (.int .i64 t111)) (fun _ h_=>h_.1))) (Kd.R_base ho0) hb);have n1_:=Aside0.mk (Kd.R_lower (Kd.R_newB (Kd.R_new' ho0 (Kd.R_lt (by (with_reducible repeat (first|apply Kd.R_alloc|apply Kd.R_drewN|apply Kd.R_drew));exact (Kd.R_mono (Kd.R_far (p:=⟨gb113,2,none⟩) (Kd.R_far (p:=⟨gb113,1,none⟩) (Kd.R_far (p:=⟨gb113,0,none⟩) (Kd.R_mono HO_7.out (fun k_ hk=>(⟨hk,hk.2⟩:_ ∧ k_ ≠ gb113))) (fun _ hk=>hk.2) (.string t109)) (fun _ hk=>hk.2) (.int .i64 t110)) (fun _ hk=>hk.2) (.int .i64 t111)) (fun _ h_=>h_.1))))) (g:=gb113) (o:=.cells #[.string t109,.int .i64 t110,.int .i64 t111] 37 (0,0)) (by (with_reducible repeat (first|refine blk_drewN ?_ _|refine blk_drew ?_|refine blk_alloc ?_ _));refine blk_put (cs:=#[.string t109,.int .i64 t110,.int .i64 0]) ?_ 2 _ rfl;(with_reducible repeat (first|refine blk_drewN ?_ _|refine blk_drew ?_|refine blk_alloc ?_ _));refine blk_put (cs:=#[.string t109,.int .i64 0,.int .i64 0]) ?_ 1 _ rfl;(with_reducible repeat (first|refine blk_drewN ?_ _|refine blk_drew ?_|refine blk_alloc ?_ _));refine blk_put (cs:=#[.string (⟨#[]⟩:ByteArray),.int .i64 0,.int .i64 0]) ?_ 0 _ rfl;(with_reducible repeat (first|refine blk_drewN ?_ _|refine blk_drew ?_|refine blk_alloc ?_ _));exact BK113.out)) (below_size (by repeat (first|(with_reducible first|exact HB.out|apply below_alloc|apply pw_below_drewN|apply below_drew1|refine below_set ?_ GE113.out)|exact HB.out))));have n2_:=Aside0.mk (blk_below (g:=gb113) (o:=.cells #[.string t109,.int .i64 t110,.int .i64 t111] 37 (0,0)) (by (with_reducible repeat (first|refine blk_drewN ?_ _|refine blk_drew ?_|refine blk_alloc ?_ _));refine blk_put (cs:=#[.string t109,.int .i64 t110,.int .i64 0]) ?_ 2 _ rfl;(with_reducible repeat (first|refine blk_drewN ?_ _|refine blk_drew ?_|refine blk_alloc ?_ _));refine blk_put (cs:=#[.string t109,.int .i64 0,.int .i64 0]) ?_ 1 _ rfl;(with_reducible repeat (first|refine blk_drewN ?_ _|refine blk_drew ?_|refine blk_alloc ?_ _));refine blk_put (cs:=#[.string (⟨#[]⟩:ByteArray),.int .i64 0,.int .i64 0]) ?_ 0 _ rfl;(with_reducible repeat (first|refine blk_drewN ?_ _|refine blk_drew ?_|refine blk_alloc ?_ _));exact BK113.out) hb);have n3_:=Aside0.mk (below_step (by repeat (first|(with_reducible first|exact HB.out|apply below_alloc|apply pw_below_drewN|apply below_drew1|refine below_set ?_ GE113.out)|exact HB.out)) hb);clear HO_7;clear BK113;clear HB;have HO_7:=n0_;have HO118:=n1_;have BK113:=n2_;have HB:=n3_;clear n0_ n1_ n2_ n3_;(try clear hb);(try clear hb2);(try clear hk);(try clear hi);(try clear ho0))))
        go_roundg k1
        case measure=>have:=HK1.out;omega
        case rel=>exact ⟨(x7_1),(x8_1),(wrap64 (x9_1 + 1)),(by first|rfl|(simp;done)|(simp [*];done)),(by first|rfl|(simp;done)|(simp [*];done)),H',⟨by have:=HK1.out;omega⟩,⟨by (with_reducible repeat (first|apply Kd.R_alloc|apply Kd.R_drewN|apply Kd.R_drew));exact Kd.R_mono HO_7.out (fun _ hk=>trivial)⟩,⟨by repeat (first|(with_reducible first|exact HB.out|apply below_alloc|apply pw_below_drewN|apply below_drew1|refine below_set ?_ GE113.out)|exact HB.out)⟩⟩
      ·rw [if_neg c15] at H
       exact absurd H (by simp)
     ·rw [if_neg c13] at H
      have c13b0:decide (x9_1 < (l2.length:Int)) = false:=decide_eq_false c13
      clear c13
      by_cases c56:x8_1 ≤ 6
      ·rw [if_pos c56] at H
       have c56b0:decide (x8_1 ≤ 6) = true:=decide_eq_true c56
       clear c56
       replace H:=Option.bind_eq_some_iff.mp H
       obtain ⟨t107,A570,H⟩:=H
       replace H:(if t107 = 0 then ((contangolaw41_goes.f k1).bind fun t108=>(some t108)) else (none)) = some r:=H
       have A57:=Aside0.mk A570
       clear A570
       by_cases c58:t107 = 0
       ·rw [if_pos c58] at H
        have c58b0:(t107 == 0) = true:=beq_iff_eq.mpr c58
        have c58b1:(t107 != 0) = false:=bne_eq_false_iff_eq.mpr c58
        clear c58
        replace H:=Option.bind_eq_some_iff.mp H
        obtain ⟨t108,A590,H⟩:=H
        replace H:(some t108) = some r:=H
        have A59:=Aside0.mk A590
        clear A590
        obtain rfl:=Option.some.inj H
        obtain ⟨Ao60,co60,eo60⟩:=Kd.R_slice HO_7.out
        subst eo60
        go_wp2_with (first|(go_at_call 14;(with_reducible refine (suspend_Check.calls k1 _ _ x7_1 t107 _ ?side1 ?side2 A57.out).mono ?_);(case side1=>repeat (first|exact (Kd.R_reads' HO_7.out).2.2|(with_reducible refine Kd.C_alloc ?_ _)|(with_reducible refine Kd.C_drewN ?_ _)|(with_reducible refine Kd.C_drew ?_)));(case side2=>exact (Kd.R_reads' HO_7.out).2.1);rintro e w61 ⟨rfl,hb⟩;have n0_:=Aside0.mk (Kd.R_below (by (with_reducible repeat (first|apply Kd.R_alloc|apply Kd.R_drewN|apply Kd.R_drew));exact HO_7.out) hb);have n1_:=Aside0.mk (below_step (by repeat (first|(with_reducible first|exact HB.out|apply below_alloc|apply pw_below_drewN|apply below_drew1)|exact HB.out)) hb);clear HO_7;clear HB;have HO_7:=n0_;have HB:=n1_;clear n0_ n1_;(try clear hb);(try clear hb2);(try clear hk);(try clear hi))|(go_at_call 11;(with_reducible refine (contangolaw41_goes.calls k1  t108 _ A59.out).mono ?_);rintro e w62 ⟨rfl,hb⟩;have n0_:=Aside0.mk (Kd.R_below (by (with_reducible repeat (first|apply Kd.R_alloc|apply Kd.R_drewN|apply Kd.R_drew));exact HO_7.out) hb);have n1_:=Aside0.mk (below_step (by repeat (first|(with_reducible first|exact HB.out|apply below_alloc|apply pw_below_drewN|apply below_drew1)|exact HB.out)) hb);clear HO_7;clear HB;have HO_7:=n0_;have HB:=n1_;clear n0_ n1_;(try clear hb);(try clear hb2);(try clear hk);(try clear hi)))
        repeat (go_quiet (first|(go_at_call 14;(with_reducible refine (suspend_Check.calls k1 _ _ x7_1 t107 _ ?side1 ?side2 A57.out).mono ?_);(case side1=>repeat (first|exact (Kd.R_reads' HO_7.out).2.2|(with_reducible refine Kd.C_alloc ?_ _)|(with_reducible refine Kd.C_drewN ?_ _)|(with_reducible refine Kd.C_drew ?_)));(case side2=>exact (Kd.R_reads' HO_7.out).2.1);rintro e w61 ⟨rfl,hb⟩;have n0_:=Aside0.mk (Kd.R_below (by (with_reducible repeat (first|apply Kd.R_alloc|apply Kd.R_drewN|apply Kd.R_drew));exact HO_7.out) hb);have n1_:=Aside0.mk (below_step (by repeat (first|(with_reducible first|exact HB.out|apply below_alloc|apply pw_below_drewN|apply below_drew1)|exact HB.out)) hb);clear HO_7;clear HB;have HO_7:=n0_;have HB:=n1_;clear n0_ n1_;(try clear hb);(try clear hb2);(try clear hk);(try clear hi))|(go_at_call 11;(with_reducible refine (contangolaw41_goes.calls k1  t108 _ A59.out).mono ?_);rintro e w62 ⟨rfl,hb⟩;have n0_:=Aside0.mk (Kd.R_below (by (with_reducible repeat (first|apply Kd.R_alloc|apply Kd.R_drewN|apply Kd.R_drew));exact HO_7.out) hb);have n1_:=Aside0.mk (below_step (by repeat (first|(with_reducible first|exact HB.out|apply below_alloc|apply pw_below_drewN|apply below_drew1)|exact HB.out)) hb);clear HO_7;clear HB;have HO_7:=n0_;have HB:=n1_;clear n0_ n1_;(try clear hb);(try clear hb2);(try clear hk);(try clear hi)));try go_wp2_with (first|(go_at_call 14;(with_reducible refine (suspend_Check.calls k1 _ _ x7_1 t107 _ ?side1 ?side2 A57.out).mono ?_);(case side1=>repeat (first|exact (Kd.R_reads' HO_7.out).2.2|(with_reducible refine Kd.C_alloc ?_ _)|(with_reducible refine Kd.C_drewN ?_ _)|(with_reducible refine Kd.C_drew ?_)));(case side2=>exact (Kd.R_reads' HO_7.out).2.1);rintro e w61 ⟨rfl,hb⟩;have n0_:=Aside0.mk (Kd.R_below (by (with_reducible repeat (first|apply Kd.R_alloc|apply Kd.R_drewN|apply Kd.R_drew));exact HO_7.out) hb);have n1_:=Aside0.mk (below_step (by repeat (first|(with_reducible first|exact HB.out|apply below_alloc|apply pw_below_drewN|apply below_drew1)|exact HB.out)) hb);clear HO_7;clear HB;have HO_7:=n0_;have HB:=n1_;clear n0_ n1_;(try clear hb);(try clear hb2);(try clear hk);(try clear hi))|(go_at_call 11;(with_reducible refine (contangolaw41_goes.calls k1  t108 _ A59.out).mono ?_);rintro e w62 ⟨rfl,hb⟩;have n0_:=Aside0.mk (Kd.R_below (by (with_reducible repeat (first|apply Kd.R_alloc|apply Kd.R_drewN|apply Kd.R_drew));exact HO_7.out) hb);have n1_:=Aside0.mk (below_step (by repeat (first|(with_reducible first|exact HB.out|apply below_alloc|apply pw_below_drewN|apply below_drew1)|exact HB.out)) hb);clear HO_7;clear HB;have HO_7:=n0_;have HB:=n1_;clear n0_ n1_;(try clear hb);(try clear hb2);(try clear hk);(try clear hi))))
        go_ret
        exact ⟨by first|rfl|(simp [errW_none,errW_some] <;> rfl)|(simp [*,errW_none,errW_some] <;> rfl),by repeat (first|(with_reducible first|exact HB.out|apply below_alloc|apply pw_below_drewN|apply below_drew1)|exact HB.out)⟩
       ·rw [if_neg c58] at H
        exact absurd H (by simp)
      ·rw [if_neg c56] at H
       exact absurd H (by simp)
  ·rw [if_neg c9] at H
   have c9b0:(t105 == 0) = false:=beq_eq_false_iff_ne.mpr c9
   have c9b1:(t105 != 0) = true:=bne_iff_ne.mpr c9
   replace H:=Option.bind_eq_some_iff.mp H
   obtain ⟨t106,A630,H⟩:=H
   replace H:(some t106) = some r:=H
   have A63:=Aside0.mk A630
   clear A630
   obtain rfl:=Option.some.inj H
   go_enter Try.func5,Try.ntmps5
   go_wp2_with (first|(go_at_call 8;(with_reducible refine (contangolaw41_Cases.calls k _ _ l0 t102 _ ?side1 ?side2 A7.out).mono ?_);(case side1=>repeat (first|exact HR0.out|(with_reducible refine Kd.C_alloc ?_ _)|(with_reducible refine Kd.C_drewN ?_ _)|(with_reducible refine Kd.C_drew ?_)));(case side2=>exact HC0.out);rintro e w64 ⟨v103,rfl,ho0,hb⟩;have n0_:=Aside0.mk (Kd.R_lower ho0 (below_size (by repeat (first|(with_reducible first|exact HB.out|apply below_alloc|apply pw_below_drewN|apply below_drew1)|exact HB.out))));have n1_:=Aside0.mk (below_step (by repeat (first|(with_reducible first|exact HB.out|apply below_alloc|apply pw_below_drewN|apply below_drew1)|exact HB.out)) hb);clear HB;have HO104:=n0_;have HB:=n1_;clear n0_ n1_;(try clear hb);(try clear hb2);(try clear hk);(try clear hi);(try clear ho0);obtain ⟨Ao65,co65,eo65⟩:=Kd.R_slice HO104.out;subst eo65)|(go_at_call 14;(with_reducible refine (suspend_Check.calls k _ _ t102 t105 _ ?side1 ?side2 A8.out).mono ?_);(case side1=>repeat (first|exact (Kd.R_reads' HO104.out).2.2|(with_reducible refine Kd.C_alloc ?_ _)|(with_reducible refine Kd.C_drewN ?_ _)|(with_reducible refine Kd.C_drew ?_)));(case side2=>exact (Kd.R_reads' HO104.out).2.1);rintro e w66 ⟨rfl,hb⟩;have n0_:=Aside0.mk (Kd.R_below (by (with_reducible repeat (first|apply Kd.R_alloc|apply Kd.R_drewN|apply Kd.R_drew));exact HO104.out) hb);have n1_:=Aside0.mk (below_step (by repeat (first|(with_reducible first|exact HB.out|apply below_alloc|apply pw_below_drewN|apply below_drew1)|exact HB.out)) hb);clear HO104;clear HB;have HO104:=n0_;have HB:=n1_;clear n0_ n1_;(try clear hb);(try clear hb2);(try clear hk);(try clear hi))|(go_at_call 11;(with_reducible refine (contangolaw41_goes.calls k  t106 _ A63.out).mono ?_);rintro e w67 ⟨rfl,hb⟩;have n0_:=Aside0.mk (Kd.R_below (by (with_reducible repeat (first|apply Kd.R_alloc|apply Kd.R_drewN|apply Kd.R_drew));exact HO104.out) hb);have n1_:=Aside0.mk (below_step (by repeat (first|(with_reducible first|exact HB.out|apply below_alloc|apply pw_below_drewN|apply below_drew1)|exact HB.out)) hb);clear HO104;clear HB;have HO104:=n0_;have HB:=n1_;clear n0_ n1_;(try clear hb);(try clear hb2);(try clear hk);(try clear hi)))
   repeat (go_quiet (first|(go_at_call 8;(with_reducible refine (contangolaw41_Cases.calls k _ _ l0 t102 _ ?side1 ?side2 A7.out).mono ?_);(case side1=>repeat (first|exact HR0.out|(with_reducible refine Kd.C_alloc ?_ _)|(with_reducible refine Kd.C_drewN ?_ _)|(with_reducible refine Kd.C_drew ?_)));(case side2=>exact HC0.out);rintro e w64 ⟨v103,rfl,ho0,hb⟩;have n0_:=Aside0.mk (Kd.R_lower ho0 (below_size (by repeat (first|(with_reducible first|exact HB.out|apply below_alloc|apply pw_below_drewN|apply below_drew1)|exact HB.out))));have n1_:=Aside0.mk (below_step (by repeat (first|(with_reducible first|exact HB.out|apply below_alloc|apply pw_below_drewN|apply below_drew1)|exact HB.out)) hb);clear HB;have HO104:=n0_;have HB:=n1_;clear n0_ n1_;(try clear hb);(try clear hb2);(try clear hk);(try clear hi);(try clear ho0);obtain ⟨Ao65,co65,eo65⟩:=Kd.R_slice HO104.out;subst eo65)|(go_at_call 14;(with_reducible refine (suspend_Check.calls k _ _ t102 t105 _ ?side1 ?side2 A8.out).mono ?_);(case side1=>repeat (first|exact (Kd.R_reads' HO104.out).2.2|(with_reducible refine Kd.C_alloc ?_ _)|(with_reducible refine Kd.C_drewN ?_ _)|(with_reducible refine Kd.C_drew ?_)));(case side2=>exact (Kd.R_reads' HO104.out).2.1);rintro e w66 ⟨rfl,hb⟩;have n0_:=Aside0.mk (Kd.R_below (by (with_reducible repeat (first|apply Kd.R_alloc|apply Kd.R_drewN|apply Kd.R_drew));exact HO104.out) hb);have n1_:=Aside0.mk (below_step (by repeat (first|(with_reducible first|exact HB.out|apply below_alloc|apply pw_below_drewN|apply below_drew1)|exact HB.out)) hb);clear HO104;clear HB;have HO104:=n0_;have HB:=n1_;clear n0_ n1_;(try clear hb);(try clear hb2);(try clear hk);(try clear hi))|(go_at_call 11;(with_reducible refine (contangolaw41_goes.calls k  t106 _ A63.out).mono ?_);rintro e w67 ⟨rfl,hb⟩;have n0_:=Aside0.mk (Kd.R_below (by (with_reducible repeat (first|apply Kd.R_alloc|apply Kd.R_drewN|apply Kd.R_drew));exact HO104.out) hb);have n1_:=Aside0.mk (below_step (by repeat (first|(with_reducible first|exact HB.out|apply below_alloc|apply pw_below_drewN|apply below_drew1)|exact HB.out)) hb);clear HO104;clear HB;have HO104:=n0_;have HB:=n1_;clear n0_ n1_;(try clear hb);(try clear hb2);(try clear hk);(try clear hi)));try go_wp2_with (first|(go_at_call 8;(with_reducible refine (contangolaw41_Cases.calls k _ _ l0 t102 _ ?side1 ?side2 A7.out).mono ?_);(case side1=>repeat (first|exact HR0.out|(with_reducible refine Kd.C_alloc ?_ _)|(with_reducible refine Kd.C_drewN ?_ _)|(with_reducible refine Kd.C_drew ?_)));(case side2=>exact HC0.out);rintro e w64 ⟨v103,rfl,ho0,hb⟩;have n0_:=Aside0.mk (Kd.R_lower ho0 (below_size (by repeat (first|(with_reducible first|exact HB.out|apply below_alloc|apply pw_below_drewN|apply below_drew1)|exact HB.out))));have n1_:=Aside0.mk (below_step (by repeat (first|(with_reducible first|exact HB.out|apply below_alloc|apply pw_below_drewN|apply below_drew1)|exact HB.out)) hb);clear HB;have HO104:=n0_;have HB:=n1_;clear n0_ n1_;(try clear hb);(try clear hb2);(try clear hk);(try clear hi);(try clear ho0);obtain ⟨Ao65,co65,eo65⟩:=Kd.R_slice HO104.out;subst eo65)|(go_at_call 14;(with_reducible refine (suspend_Check.calls k _ _ t102 t105 _ ?side1 ?side2 A8.out).mono ?_);(case side1=>repeat (first|exact (Kd.R_reads' HO104.out).2.2|(with_reducible refine Kd.C_alloc ?_ _)|(with_reducible refine Kd.C_drewN ?_ _)|(with_reducible refine Kd.C_drew ?_)));(case side2=>exact (Kd.R_reads' HO104.out).2.1);rintro e w66 ⟨rfl,hb⟩;have n0_:=Aside0.mk (Kd.R_below (by (with_reducible repeat (first|apply Kd.R_alloc|apply Kd.R_drewN|apply Kd.R_drew));exact HO104.out) hb);have n1_:=Aside0.mk (below_step (by repeat (first|(with_reducible first|exact HB.out|apply below_alloc|apply pw_below_drewN|apply below_drew1)|exact HB.out)) hb);clear HO104;clear HB;have HO104:=n0_;have HB:=n1_;clear n0_ n1_;(try clear hb);(try clear hb2);(try clear hk);(try clear hi))|(go_at_call 11;(with_reducible refine (contangolaw41_goes.calls k  t106 _ A63.out).mono ?_);rintro e w67 ⟨rfl,hb⟩;have n0_:=Aside0.mk (Kd.R_below (by (with_reducible repeat (first|apply Kd.R_alloc|apply Kd.R_drewN|apply Kd.R_drew));exact HO104.out) hb);have n1_:=Aside0.mk (below_step (by repeat (first|(with_reducible first|exact HB.out|apply below_alloc|apply pw_below_drewN|apply below_drew1)|exact HB.out)) hb);clear HO104;clear HB;have HO104:=n0_;have HB:=n1_;clear n0_ n1_;(try clear hb);(try clear hb2);(try clear hk);(try clear hi))))
   go_ret
   exact ⟨by first|rfl|(simp [errW_none,errW_some] <;> rfl)|(simp [*,errW_none,errW_some] <;> rfl),by repeat (first|(with_reducible first|exact HB.out|apply below_alloc|apply pw_below_drewN|apply below_drew1)|exact HB.out)⟩
end Go.Proofs.Ytgmelgkcoejknaa.X
end
section
namespace Go.Proofs.Ytgmelgkcoejknaa.Opn
open Go.ChangeShapes Go.WideShapes Go.Proofs.YtgmelgkcoejknaaW.PrintWords
set_option linter.unusedVariables false
set_option linter.unusedSimpArgs false
structure Opens (P:Program) (t:TypeId) {α:Type} (d:Kd α) (Ok:α → Prop):Prop where
  sz:d.sz = P.cellsOf t
  opens:∀ {H:Type} {enc:TypeId × Value → H} {w:World} {base:Nat} {spare:Nat → Bool} {held:Bool} {fuel:Nat} {cs:List Value} {x:DataW H × List MemPlace},
    DataW.trod enc P w base spare held fuel t cs = some x → (∀ n ∈ x.1.weights P t,n ≤ reachBytes) → ∃ v,d.K w v cs ∧ Ok v
theorem opens_int {P:Program} {t:TypeId} {k:IntKind} (ht:P.underlying t = some (.int k)) (hc:P.cellsOf t = 1):Opens P t (Kd.int k) (fun n=>(Lit.int k n).wf = true):=by
  refine ⟨hc.symm,fun h _=>?_⟩
  obtain ⟨n,rfl,_,hw⟩:=DataW.trod_int ht h
  exact ⟨n,rfl,hw⟩
theorem opens_string {P:Program} {t:TypeId} (ht:P.underlying t = some .string) (hc:P.cellsOf t = 1):Opens P t Kd.string (fun s=>s.size ≤ 140737488351232):=by
  refine ⟨hc.symm,fun h hw=>?_⟩
  obtain ⟨s,rfl,rfl,hs⟩:=DataW.trod_string ht h
  refine ⟨s,rfl,?_⟩
  have:=hw s.data.toList.length (by simp [DataW.weights])
  rw [Array.length_toList] at this
  exact this
theorem weights_all {H:Type} {P:Program} {e:TypeId}:∀ {ds:List (DataW H)} {j:Nat} {d:DataW H},ds[j]? = some d → ∀ n ∈ d.weights P e,n ∈ DataW.weightsAll P e ds
  | d0 :: ds,0,d,hd,n,hn=>by
    simp only [List.getElem?_cons_zero,Option.some.injEq] at hd
    subst hd
    simp only [DataW.weightsAll,List.mem_append]
    exact Or.inl hn
  | d0 :: ds,j + 1,d,hd,n,hn=>by
    simp only [List.getElem?_cons_succ] at hd
    simp only [DataW.weightsAll,List.mem_append]
    exact Or.inr (weights_all hd n hn)
  | [],_,_,hd,_,_=>by simp at hd
theorem list_of {α:Type} {n:Nat} {p:Nat → α → Prop} (h:∀ i,i < n → ∃ x,p i x):∃ l:List α,l.length = n ∧ ∀ i x,l[i]? = some x → p i x:=by
  induction n with
  | zero=>exact ⟨[],rfl,fun i x hx=>by simp at hx⟩
  | succ n ih =>
    obtain ⟨l,hl,hp⟩:=ih (fun i hi=>h i (by omega))
    obtain ⟨x,hx⟩:=h n (by omega)
    refine ⟨l ++ [x],by simp [hl],fun i y hy=>?_⟩
    by_cases hi:i < l.length
    · rw [List.getElem?_append_left hi] at hy
      exact hp i y hy
    · rw [List.getElem?_append_right (by omega)] at hy
      have:i - l.length = 0:=by
        cases hk:i - l.length with
        | zero=>rfl
        | succ m=>rw [hk] at hy;simp at hy
      rw [this] at hy
      simp at hy
      subst hy
      have:i = n:=by omega
      subst this
      exact hx
theorem opens_slice {P:Program} {t e:TypeId} {α:Type} {d:Kd α} {Ok:α → Prop} (h:Opens P e d Ok) (ht:P.underlying t = some (.slice e)) (hc:P.cellsOf t = 1) {B:Nat} (hB:P.bytesOf e = B) :
    Opens P t (Kd.slice e d) (fun l=>l.length ≤ maxLen ∧ l.length * B ≤ 140737488351232 ∧ ∀ x ∈ l,Ok x):=by
  subst hB
  refine ⟨hc.symm,fun {H enc w base spare held fuel cs x} hx hw=>?_⟩
  rcases DataW.trod_slice ht hx with ⟨rfl,rfl⟩|⟨a,len,cap,elems,rest,n,_,rfl,rfl,hb,hl,hm,hlen,hel,hsp,hns⟩
  · exact ⟨[],⟨none,0,rfl,Nat.le_refl _,Kd.C_nil _ _⟩,by simp⟩
  simp only [DataW.weights,ht] at hw
  have hw1:(elems.length + rest.length) * P.bytesOf e ≤ reachBytes:=by
    have:=hw ((elems.length + rest.length) * P.bytesOf e) (by simp)
    exact this
  have hone:∀ i,i < len → ∃ v:α,∃ c,w.cells? base (a.add (i * P.cellsOf e)) (P.cellsOf e) = some c ∧ d.K w v c ∧ Ok v:=by
    intro i hi
    have h1:=hel i hi
    rw [List.getElem?_eq_getElem (by omega)] at h1
    obtain ⟨c,hc1,hc2⟩:=Option.bind_eq_some_iff.1 h1
    obtain ⟨v,hv,hok⟩:=h.opens hc2 (fun n hn=>hw n (by
      simp only [List.mem_cons,List.mem_append]
      right;left
      refine weights_all (j:=i) ?_ n hn
      rw [List.getElem?_map,List.getElem?_eq_getElem (by omega)]
      rfl))
    exact ⟨v,c,hc1,hv,hok⟩
  obtain ⟨l,hl1,hl2⟩:=list_of hone
  subst hl1
  refine ⟨l,⟨some a,cap,rfl,hl,rfl,?_,fun _=>⟨a,rfl,fun j p hj=>?_⟩⟩,?_,?_,?_⟩
  · unfold maxLen at hm;omega
  · obtain ⟨c,hc1,hc2,_⟩:=hl2 j p hj
    obtain ⟨_,hlen2,hcell⟩:=World.cells?_some hc1
    refine ⟨c,by rw [h.sz];exact hlen2,hc2,fun i u hu=>?_⟩
    have hi:i < P.cellsOf e:=by
      have:=(List.getElem?_eq_some_iff.1 hu).1
      omega
    have:=hcell i hi
    rw [hu,← Deep.add_add,h.sz] at *
    exact this
  · exact Nat.le_trans hl hm
  · have h2:l.length * P.bytesOf e ≤ (elems.length + rest.length) * P.bytesOf e:=Nat.mul_le_mul_right _ (by omega)
    exact Nat.le_trans h2 hw1
  · intro x hx
    obtain ⟨j,hj⟩:=List.getElem?_of_mem hx
    obtain ⟨c,_,_,ho⟩:=hl2 j x hj
    exact ho
structure OpensF (P:Program) (fs:List Field) (off:Nat) {α:Type} (d:Kd α) (Ok:α → Prop):Prop where
  opens:∀ {H:Type} {enc:TypeId × Value → H} {w:World} {base:Nat} {spare:Nat → Bool} {held:Bool} {n:Nat} {cs:List Value} {xs:List (DataW H × List MemPlace)},
    xs.length = fs.length → (∀ (i:Nat) (f:Field),fs[i]? = some f → DataW.trod enc P w base spare held n f.type ((cs.drop f.offset).take (P.cellsOf f.type)) = xs[i]?) →
    (∀ m ∈ DataW.weightsEach P (fs.map (·.type)) (xs.map (·.1)),m ≤ reachBytes) → ∃ v,d.K w v ((cs.drop off).take d.sz) ∧ Ok v
theorem opensF_one {P:Program} {f:Field} {off:Nat} {α:Type} {d:Kd α} {Ok:α → Prop} (h:Opens P f.type d Ok) (ho:f.offset = off):OpensF P [f] off d Ok:=by
  refine ⟨fun {H enc w base spare held n cs xs} hl hx hw=>?_⟩
  match xs,hl with
  | [x],_ =>
    have h1:=hx 0 f rfl
    obtain ⟨v,hv,hok⟩:=h.opens h1 (fun n hn=>hw n (by simpa [DataW.weightsEach] using hn))
    refine ⟨v,?_,hok⟩
    rw [h.sz,← ho]
    exact hv
theorem opensF_cons {P:Program} {f:Field} {fs:List Field} {off:Nat} {α β:Type} {d:Kd α} {d':Kd β} {Ok:α → Prop} {Ok':β → Prop} (h:Opens P f.type d Ok) (ho:f.offset = off) (h':OpensF P fs (off + d.sz) d' Ok') :
    OpensF P (f :: fs) off (Kd.pair d d') (fun p=>Ok p.1 ∧ Ok' p.2):=by
  refine ⟨fun {H enc w base spare held n cs xs} hl hx hw=>?_⟩
  match xs,hl with
  | x :: xs,hl =>
    have h1:=hx 0 f rfl
    obtain ⟨v,hv,hok⟩:=h.opens h1 (fun n hn=>hw n (by
      simp only [List.map_cons,DataW.weightsEach,List.mem_append];exact Or.inl hn))
    obtain ⟨v',hv',hok'⟩:=h'.opens (cs:=cs) (xs:=xs) (by simpa using hl) (fun i g hg=>by
      have:=hx (i + 1) g (by simpa using hg)
      simpa using this) (fun m hm=>hw m (by simp only [List.map_cons,DataW.weightsEach,List.mem_append];exact Or.inr hm))
    refine ⟨(v,v'),⟨(cs.drop off).take d.sz,(cs.drop (off + d.sz)).take d'.sz,?_,?_,hv'⟩,hok,hok'⟩
    · show (cs.drop off).take (d.sz + d'.sz) = _
      rw [List.take_add,List.drop_drop]
    · rw [h.sz,← ho];exact hv
theorem opens_struct {P:Program} {t:TypeId} {fs:Array Field} {α β:Type} {d:Kd α} {Ok:α → Prop} (h:OpensF P fs.toList 0 d Ok) (ht:P.underlying t = some (.struct fs)) (hc:d.sz = P.cellsOf t) (f:β → α) (mk:α → β) (hf:∀ a,f (mk a) = a) :
    Opens P t (Kd.iso d f) (fun b=>Ok (f b)):=by
  refine ⟨hc,fun {H enc w base spare held fuel cs x} hx hw=>?_⟩
  obtain ⟨xs,n,_,rfl,hlen,hsz,hall⟩:=DataW.trod_struct ht hx
  simp only [DataW.weights,ht] at hw
  obtain ⟨v,hv,hok⟩:=h.opens (cs:=cs) (xs:=xs) (by simpa using hsz) (fun i f hf=>hall i f (by simpa using hf)) hw
  refine ⟨mk v,?_,by rw [hf];exact hok⟩
  show d.K w (f (mk v)) cs
  rw [hf]
  rw [List.drop_zero,hc,← hlen,List.take_length] at hv
  exact hv
theorem opens_imp {P:Program} {t:TypeId} {α:Type} {d:Kd α} {Ok Ok':α → Prop} (h:Opens P t d Ok) (hi:∀ v,Ok v → Ok' v):Opens P t d Ok' :=
  ⟨h.sz,fun hx hw=>let ⟨v,hv,ho⟩:=h.opens hx hw;⟨v,hv,hi v ho⟩⟩
end Go.Proofs.Ytgmelgkcoejknaa.Opn
end
section
namespace Go.Proofs.Ytgmelgkcoejknaa.X
open Go.RowKit Go.Proofs.YtgmelgkcoejknaaW.PrintWords Go.Proofs.YtgmelgkcoejknaaW.PrintLast Go.Proofs.YtgmelgkcoejknaaW.PrintMore
attribute [local go_sem] max2_int min2_int max_two min_two max_three min_three max_four min_four
set_option linter.unusedVariables false
set_option linter.unusedSimpArgs false
def ok41 (v:S41):Prop:=v.f0.size ≤ 140737488351232 ∧ ((Lit.int .i64 v.f1).wf = true ∧ ((Lit.int .i64 v.f2).wf = true))
theorem opens41:Opn.Opens Try.prog 41 k41 ok41:=by
 have hu:=Try.underlying41
 refine Opn.opens_imp (Opn.opens_struct (Ok:=fun (p:ByteArray × (Int × (Int)))=>p.1.size ≤ 140737488351232 ∧ ((Lit.int .i64 p.2.1).wf = true ∧ ((Lit.int .i64 p.2.2).wf = true))) ?hF hu (by kernel_rfl) (fun x:S41=>(x.f0,x.f1,x.f2)) (fun a=>⟨a.1,a.2.1,a.2.2⟩) (fun _=>rfl)) ?hI
 case hF =>
  refine Opn.opensF_cons (Ok:=fun (p:ByteArray)=>p.size ≤ 140737488351232) (Ok':=fun (p:Int × (Int))=>(Lit.int .i64 p.1).wf = true ∧ ((Lit.int .i64 p.2).wf = true)) (h:=?_) (ho:=?_) (h':=?_)
  ·exact Opn.opens_string Try.underlying9 (by kernel_rfl)
  ·rfl
  ·skip
   refine Opn.opensF_cons (Ok:=fun (p:Int)=>(Lit.int .i64 p).wf = true) (Ok':=fun (p:Int)=>(Lit.int .i64 p).wf = true) (h:=?_) (ho:=?_) (h':=?_)
   ·exact Opn.opens_int Try.underlying3 (by kernel_rfl)
   ·rfl
   ·skip
    refine Opn.opensF_one (Ok:=fun (p:Int)=>(Lit.int .i64 p).wf = true) (h:=?_) (ho:=?_)
    ·exact Opn.opens_int Try.underlying3 (by kernel_rfl)
    ·rfl
 case hI=>exact fun v h=>h
end Go.Proofs.Ytgmelgkcoejknaa.X
end
section
namespace Go.Proofs.Ytgmelgkcoejknaa.P
open Go.RowKit Go.Proofs.YtgmelgkcoejknaaW.PrintWords Go.Proofs.YtgmelgkcoejknaaW.PrintMore Go.Proofs.Ytgmelgkcoejknaa.X
theorem Ev_succ {α:Type} {g:Nat → Option α} {r:α} (h:Ev (fun k=>g (k + 1)) r):Ev g r:=Ev.step (fun _=>rfl) h
theorem Ev_bind {α β:Type} {g:Nat → Option α} {f:Nat → α → Option β} {a:α} {r:β} (h:Ev g a) (k:Ev (fun n=>f n a) r):Ev (fun n=>(g n).bind (f n)) r:=Ev.bind h k
theorem Ev_id {α:Type} {g:Nat → Option α} {r:α} (h:Ev g r):Ev (fun n=>(g n).bind fun x=>some x) r:=Ev.bind h (Ev.now _)
theorem w_id {x:Int} (h1:-9223372036854775808 ≤ x) (h2:x ≤ 9223372036854775807):wrap64 x = x:=by unfold wrap64;omega
theorem w_succ {i n:Nat} (h:i < n) (hn:n ≤ 9223372036854775807):wrap64 ((i:Int) + 1) = ((i + 1:Nat):Int):=by rw [w_id (by omega) (by omega)];omega
theorem w_pred {i:Nat} (h:0 < i) (hn:i ≤ 9223372036854775807):wrap64 ((i:Int) - 1) = ((i - 1:Nat):Int):=by rw [w_id (by omega) (by omega)];omega
theorem drop_cons {α:Type} (l:List α) (i:Nat) (h:i < l.length):l.drop i = l[i] :: l.drop (i + 1):=(List.getElem_cons_drop h).symm
end Go.Proofs.Ytgmelgkcoejknaa.P
end
section
namespace Go.Proofs.Ytgmelgkcoejknaa.P
set_option linter.unusedVariables false
set_option linter.unusedSimpArgs false
open Go.RowKit Go.Proofs.YtgmelgkcoejknaaW.PrintWords Go.Proofs.YtgmelgkcoejknaaW.PrintMore Go.Proofs.Ytgmelgkcoejknaa.X
theorem bl_self:∀ a:List UInt8,Op.bytesLess a a = false
 | []=>rfl
 | x :: a=>by simp [Op.bytesLess,bl_self a]
theorem bl_trans:∀ a b c:List UInt8,Op.bytesLess a b = true → Op.bytesLess b c = true → Op.bytesLess a c = true
 | a,b,[],_,h=>by cases b <;> simp [Op.bytesLess] at h
 | a,[],z :: c,h,_=>by cases a <;> simp [Op.bytesLess] at h
 | [],y :: b,z :: c,_,_=>by simp [Op.bytesLess]
 | x :: a,y :: b,z :: c,h,k=>by
  simp only [Op.bytesLess,Bool.or_eq_true,Bool.and_eq_true,decide_eq_true_eq,beq_iff_eq] at h k ⊢
  rcases h with h|⟨h,h'⟩ <;> rcases k with k|⟨k,k'⟩
  ·exact Or.inl (UInt8.lt_trans h k)
  ·subst k;exact Or.inl h
  ·subst h;exact Or.inl k
  ·subst h k;exact Or.inr ⟨rfl,bl_trans a b c h' k'⟩
theorem cb_facts:∀ a b:List UInt8,(Lib.compareBytes a b < 0 ↔ Op.bytesLess a b = true) ∧ (Lib.compareBytes a b = 0 ↔ a = b)
 | [],[]=>by simp [Lib.compareBytes,Op.bytesLess]
 | [],y :: b=>by simp [Lib.compareBytes,Op.bytesLess]
 | x :: a,[]=>by simp [Lib.compareBytes,Op.bytesLess]
 | x :: a,y :: b=>by
  have ih:=cb_facts a b
  simp only [Lib.compareBytes,Op.bytesLess]
  by_cases h:x < y
  ·have hne:x ≠ y:=fun e=>by subst e;exact UInt8.lt_irrefl _ h
   simp [h,hne]
  ·by_cases h2:y < x
   ·have hne:x ≠ y:=fun e=>by subst e;exact UInt8.lt_irrefl _ h2
    simp [h,h2,hne]
   ·have e:x = y:=by
     rw [UInt8.lt_iff_toNat_lt] at h h2
     exact UInt8.toNat_inj.1 (by omega)
    subst e
    simp [ih.1,ih.2]
theorem cb_lt (a b:ByteArray):Lib.compareBytes a.data.toList b.data.toList < 0 ↔ Op.bytesLess a.toList b.toList = true:=by
 rw [ByteArray.toList_eq,ByteArray.toList_eq];exact (cb_facts _ _).1
theorem cb_eq (a b:ByteArray):Lib.compareBytes a.data.toList b.data.toList = 0 ↔ a.toList = b.toList:=by
 rw [ByteArray.toList_eq,ByteArray.toList_eq];exact (cb_facts _ _).2
end Go.Proofs.Ytgmelgkcoejknaa.P
end
section
namespace Go.Proofs.Ytgmelgkcoejknaa.X
open Go.RowKit Go.Proofs.YtgmelgkcoejknaaW.PrintWords Go.Proofs.YtgmelgkcoejknaaW.PrintLast Go.Proofs.YtgmelgkcoejknaaW.PrintMore
attribute [local go_sem] max2_int min2_int max_two min_two max_three min_three max_four min_four
set_option linter.unusedVariables false
set_option linter.unusedSimpArgs false
def contangoref03_Name.l0:Nat → ByteArray → Int → Option (Bool)
 | 0,_,_=>none
 | k + 1,x0,x3=>if x3 < (x0.size:Int) then (if 0 ≤ x3 then (if (bt x0 x3) ≥ 97 then (if ((bt x0 x3) ≤ 122) then (contangoref03_Name.l0 k x0 (wrap64 (x3 + 1))) else (if x3 = 0 then (some false) else (if (bt x0 x3) < 48 then (some false) else (if (bt x0 x3) > 57 then (some false) else (contangoref03_Name.l0 k x0 (wrap64 (x3 + 1))))))) else (if x3 = 0 then (some false) else (if (bt x0 x3) < 48 then (some false) else (if (bt x0 x3) > 57 then (some false) else (contangoref03_Name.l0 k x0 (wrap64 (x3 + 1))))))) else (none)) else (if (x0.size:Int) > 0 then (some (decide ((x0.size:Int) ≤ 12))) else (some false))
def contangoref03_Name.f (k:Nat) (a0:ByteArray):Option (Bool):=contangoref03_Name.l0 k a0 0
theorem contangoref03_Name.mono_l:∀ k,(∀ y0 y1,LeO (contangoref03_Name.l0 k y0 y1) (contangoref03_Name.l0 (k + 1) y0 y1))
 | 0=>fun _ _ r h=>by simp [contangoref03_Name.l0] at h
 | k + 1=>by
  have ih0:=contangoref03_Name.mono_l k
  ·intro y0 y1
   unfold contangoref03_Name.l0
   repeat' first
   | (with_reducible exact ih0 _ _)
   | (with_reducible exact LeO.refl _)
   | (with_reducible exact LeO.none _)
   | (with_reducible refine LeO.ite ?_ ?_)
   | (with_reducible refine LeO.bind ?_ (fun _=>?_))
   | exact ih0 _ _
   | exact LeO.none _
   | refine LeO.ite ?_ ?_
   | refine LeO.bind ?_ (fun _=>?_)
theorem contangoref03_Name.mono:∀ a0 k,LeO (contangoref03_Name.f k a0) (contangoref03_Name.f (k + 1) a0):=by
 intro a0 k
 have ih0:=contangoref03_Name.mono_l k
 unfold contangoref03_Name.f
 repeat' first
   | (with_reducible exact ih0 _ _)
   | (with_reducible exact LeO.refl _)
   | (with_reducible exact LeO.none _)
   | (with_reducible refine LeO.ite ?_ ?_)
   | (with_reducible refine LeO.bind ?_ (fun _=>?_))
   | exact ih0 _ _
   | exact LeO.none _
   | refine LeO.ite ?_ ?_
   | refine LeO.bind ?_ (fun _=>?_)
set_option maxHeartbeats 8000000 in
set_option maxRecDepth 100000 in
theorem contangoref03_Name.calls (k:Nat) (a0:ByteArray) (r:Bool) (w:World) (h:contangoref03_Name.f k a0 = some r) :
  Calls Try.prog 29 #[.string a0] w fun e w'=>e = .returned (.bool r) ∧ Drawn0 w w':=by
 have H:(contangoref03_Name.l0 k a0 0) = some r:=h
 clear h
 have H':=Aside0.mk H
 clear H
 go_enter Try.func29,Try.ntmps29
 go_wp2
 go_loopg [3] k (fun kq v3 w'=>∃ (x3_1:Int),v3 = .int .i64 x3_1 ∧ Aside0 (contangoref03_Name.l0 kq a0 x3_1 = some r) ∧ Aside0 (kq ≤ k) ∧ Drawn0 w w')
 case atStart=>exact ⟨(0),(by first|rfl|(simp;done)|(simp [*];done)),H',⟨Nat.le_refl _⟩,by repeat (first|exact Drawn0.refl _|apply Drawn0.step)⟩
 case round =>
  clear H'
  obtain ⟨x3_1,rfl,HA,HK1,⟨m1,rfl⟩⟩:=hrel
  cases gk with
  | zero=>exact absurd HA.out (by simp [contangoref03_Name.l0])
  | succ k1 =>
   have H:=HA.out
   clear HA
   simp only [contangoref03_Name.l0] at H
   by_cases c2:x3_1 < (a0.size:Int)
   ·rw [if_pos c2] at H
    have c2b0:decide (x3_1 < (a0.size:Int)) = true:=decide_eq_true c2
    clear c2
    by_cases c3:0 ≤ x3_1
    ·rw [if_pos c3] at H
     have c3b0:decide (0 ≤ x3_1) = true:=decide_eq_true c3
     clear c3
     by_cases c5:(bt a0 x3_1) ≥ 97
     ·rw [if_pos c5] at H
      have c5b0:decide (97 ≤ (bt a0 x3_1)) = true:=decide_eq_true c5
      clear c5
      by_cases c7:((bt a0 x3_1) ≤ 122)
      ·rw [if_pos c7] at H
       have c7b0:decide ((bt a0 x3_1) ≤ 122) = true:=decide_eq_true c7
       clear c7
       have H':=Aside0.mk H
       clear H
       have p4:0 ≤ (x3_1:Int):=of_decide_eq_true (by first|(with_reducible assumption)|assumption)
       have q4:x3_1 < (a0.size:Int):=of_decide_eq_true (by first|(with_reducible assumption)|assumption)
       have hx4:=bt_at a0 x3_1
       replace p4:=eq_true p4
       replace q4:=eq_true q4
       have p6:0 ≤ (x3_1:Int):=of_decide_eq_true (by first|(with_reducible assumption)|assumption)
       have q6:x3_1 < (a0.size:Int):=of_decide_eq_true (by first|(with_reducible assumption)|assumption)
       have hx6:=bt_at a0 x3_1
       replace p6:=eq_true p6
       replace q6:=eq_true q6
       go_wp2
       go_roundg k1
       case measure=>have:=HK1.out;omega
       case rel=>exact ⟨(wrap64 (x3_1 + 1)),(by first|rfl|(simp;done)|(simp [*];done)),H',⟨by have:=HK1.out;omega⟩,by repeat (first|exact Drawn0.refl _|apply Drawn0.step)⟩
      ·rw [if_neg c7] at H
       have c7b0:decide ((bt a0 x3_1) ≤ 122) = false:=decide_eq_false c7
       clear c7
       by_cases c8:x3_1 = 0
       ·rw [if_pos c8] at H
        have c8b0:(x3_1 == 0) = true:=beq_iff_eq.mpr c8
        have c8b1:(x3_1 != 0) = false:=bne_eq_false_iff_eq.mpr c8
        clear c8
        obtain rfl:=Option.some.inj H
        have p4:0 ≤ (x3_1:Int):=of_decide_eq_true (by first|(with_reducible assumption)|assumption)
        have q4:x3_1 < (a0.size:Int):=of_decide_eq_true (by first|(with_reducible assumption)|assumption)
        have hx4:=bt_at a0 x3_1
        replace p4:=eq_true p4
        replace q4:=eq_true q4
        have p6:0 ≤ (x3_1:Int):=of_decide_eq_true (by first|(with_reducible assumption)|assumption)
        have q6:x3_1 < (a0.size:Int):=of_decide_eq_true (by first|(with_reducible assumption)|assumption)
        have hx6:=bt_at a0 x3_1
        replace p6:=eq_true p6
        replace q6:=eq_true q6
        go_wp2
        go_ret
        exact ⟨by first|rfl|(simp;done)|(simp [*];done),by repeat (first|exact Drawn0.refl _|apply Drawn0.step)⟩
       ·rw [if_neg c8] at H
        have c8b0:(x3_1 == 0) = false:=beq_eq_false_iff_ne.mpr c8
        have c8b1:(x3_1 != 0) = true:=bne_iff_ne.mpr c8
        by_cases c10:(bt a0 x3_1) < 48
        ·rw [if_pos c10] at H
         have c10b0:decide ((bt a0 x3_1) < 48) = true:=decide_eq_true c10
         clear c10
         obtain rfl:=Option.some.inj H
         have p4:0 ≤ (x3_1:Int):=of_decide_eq_true (by first|(with_reducible assumption)|assumption)
         have q4:x3_1 < (a0.size:Int):=of_decide_eq_true (by first|(with_reducible assumption)|assumption)
         have hx4:=bt_at a0 x3_1
         replace p4:=eq_true p4
         replace q4:=eq_true q4
         have p6:0 ≤ (x3_1:Int):=of_decide_eq_true (by first|(with_reducible assumption)|assumption)
         have q6:x3_1 < (a0.size:Int):=of_decide_eq_true (by first|(with_reducible assumption)|assumption)
         have hx6:=bt_at a0 x3_1
         replace p6:=eq_true p6
         replace q6:=eq_true q6
         have p9:0 ≤ (x3_1:Int):=of_decide_eq_true (by first|(with_reducible assumption)|assumption)
         have q9:x3_1 < (a0.size:Int):=of_decide_eq_true (by first|(with_reducible assumption)|assumption)
         have hx9:=bt_at a0 x3_1
         replace p9:=eq_true p9
         replace q9:=eq_true q9
         go_wp2
         go_ret
         exact ⟨by first|rfl|(simp;done)|(simp [*];done),by repeat (first|exact Drawn0.refl _|apply Drawn0.step)⟩
        ·rw [if_neg c10] at H
         have c10b0:decide ((bt a0 x3_1) < 48) = false:=decide_eq_false c10
         clear c10
         by_cases c12:(bt a0 x3_1) > 57
         ·rw [if_pos c12] at H
          have c12b0:decide (57 < (bt a0 x3_1)) = true:=decide_eq_true c12
          clear c12
          obtain rfl:=Option.some.inj H
          have p4:0 ≤ (x3_1:Int):=of_decide_eq_true (by first|(with_reducible assumption)|assumption)
          have q4:x3_1 < (a0.size:Int):=of_decide_eq_true (by first|(with_reducible assumption)|assumption)
          have hx4:=bt_at a0 x3_1
          replace p4:=eq_true p4
          replace q4:=eq_true q4
          have p6:0 ≤ (x3_1:Int):=of_decide_eq_true (by first|(with_reducible assumption)|assumption)
          have q6:x3_1 < (a0.size:Int):=of_decide_eq_true (by first|(with_reducible assumption)|assumption)
          have hx6:=bt_at a0 x3_1
          replace p6:=eq_true p6
          replace q6:=eq_true q6
          have p9:0 ≤ (x3_1:Int):=of_decide_eq_true (by first|(with_reducible assumption)|assumption)
          have q9:x3_1 < (a0.size:Int):=of_decide_eq_true (by first|(with_reducible assumption)|assumption)
          have hx9:=bt_at a0 x3_1
          replace p9:=eq_true p9
          replace q9:=eq_true q9
          have p11:0 ≤ (x3_1:Int):=of_decide_eq_true (by first|(with_reducible assumption)|assumption)
          have q11:x3_1 < (a0.size:Int):=of_decide_eq_true (by first|(with_reducible assumption)|assumption)
          have hx11:=bt_at a0 x3_1
          replace p11:=eq_true p11
          replace q11:=eq_true q11
          go_wp2
          go_ret
          exact ⟨by first|rfl|(simp;done)|(simp [*];done),by repeat (first|exact Drawn0.refl _|apply Drawn0.step)⟩
         ·rw [if_neg c12] at H
          have c12b0:decide (57 < (bt a0 x3_1)) = false:=decide_eq_false c12
          clear c12
          have H':=Aside0.mk H
          clear H
          have p4:0 ≤ (x3_1:Int):=of_decide_eq_true (by first|(with_reducible assumption)|assumption)
          have q4:x3_1 < (a0.size:Int):=of_decide_eq_true (by first|(with_reducible assumption)|assumption)
          have hx4:=bt_at a0 x3_1
          replace p4:=eq_true p4
          replace q4:=eq_true q4
          have p6:0 ≤ (x3_1:Int):=of_decide_eq_true (by first|(with_reducible assumption)|assumption)
          have q6:x3_1 < (a0.size:Int):=of_decide_eq_true (by first|(with_reducible assumption)|assumption)
          have hx6:=bt_at a0 x3_1
          replace p6:=eq_true p6
          replace q6:=eq_true q6
          have p9:0 ≤ (x3_1:Int):=of_decide_eq_true (by first|(with_reducible assumption)|assumption)
          have q9:x3_1 < (a0.size:Int):=of_decide_eq_true (by first|(with_reducible assumption)|assumption)
          have hx9:=bt_at a0 x3_1
          replace p9:=eq_true p9
          replace q9:=eq_true q9
          have p11:0 ≤ (x3_1:Int):=of_decide_eq_true (by first|(with_reducible assumption)|assumption)
          have q11:x3_1 < (a0.size:Int):=of_decide_eq_true (by first|(with_reducible assumption)|assumption)
          have hx11:=bt_at a0 x3_1
          replace p11:=eq_true p11
          replace q11:=eq_true q11
          go_wp2
          go_roundg k1
          case measure=>have:=HK1.out;omega
          case rel=>exact ⟨(wrap64 (x3_1 + 1)),(by first|rfl|(simp;done)|(simp [*];done)),H',⟨by have:=HK1.out;omega⟩,by repeat (first|exact Drawn0.refl _|apply Drawn0.step)⟩
     ·rw [if_neg c5] at H
      have c5b0:decide (97 ≤ (bt a0 x3_1)) = false:=decide_eq_false c5
      clear c5
      by_cases c13:x3_1 = 0
      ·rw [if_pos c13] at H
       have c13b0:(x3_1 == 0) = true:=beq_iff_eq.mpr c13
       have c13b1:(x3_1 != 0) = false:=bne_eq_false_iff_eq.mpr c13
       clear c13
       obtain rfl:=Option.some.inj H
       have p4:0 ≤ (x3_1:Int):=of_decide_eq_true (by first|(with_reducible assumption)|assumption)
       have q4:x3_1 < (a0.size:Int):=of_decide_eq_true (by first|(with_reducible assumption)|assumption)
       have hx4:=bt_at a0 x3_1
       replace p4:=eq_true p4
       replace q4:=eq_true q4
       go_wp2
       go_ret
       exact ⟨by first|rfl|(simp;done)|(simp [*];done),by repeat (first|exact Drawn0.refl _|apply Drawn0.step)⟩
      ·rw [if_neg c13] at H
       have c13b0:(x3_1 == 0) = false:=beq_eq_false_iff_ne.mpr c13
       have c13b1:(x3_1 != 0) = true:=bne_iff_ne.mpr c13
       by_cases c15:(bt a0 x3_1) < 48
       ·rw [if_pos c15] at H
        have c15b0:decide ((bt a0 x3_1) < 48) = true:=decide_eq_true c15
        clear c15
        obtain rfl:=Option.some.inj H
        have p4:0 ≤ (x3_1:Int):=of_decide_eq_true (by first|(with_reducible assumption)|assumption)
        have q4:x3_1 < (a0.size:Int):=of_decide_eq_true (by first|(with_reducible assumption)|assumption)
        have hx4:=bt_at a0 x3_1
        replace p4:=eq_true p4
        replace q4:=eq_true q4
        have p14:0 ≤ (x3_1:Int):=of_decide_eq_true (by first|(with_reducible assumption)|assumption)
        have q14:x3_1 < (a0.size:Int):=of_decide_eq_true (by first|(with_reducible assumption)|assumption)
        have hx14:=bt_at a0 x3_1
        replace p14:=eq_true p14
        replace q14:=eq_true q14
        go_wp2
        go_ret
        exact ⟨by first|rfl|(simp;done)|(simp [*];done),by repeat (first|exact Drawn0.refl _|apply Drawn0.step)⟩
       ·rw [if_neg c15] at H
        have c15b0:decide ((bt a0 x3_1) < 48) = false:=decide_eq_false c15
        clear c15
        by_cases c17:(bt a0 x3_1) > 57
        ·rw [if_pos c17] at H
         have c17b0:decide (57 < (bt a0 x3_1)) = true:=decide_eq_true c17
         clear c17
         obtain rfl:=Option.some.inj H
         have p4:0 ≤ (x3_1:Int):=of_decide_eq_true (by first|(with_reducible assumption)|assumption)
         have q4:x3_1 < (a0.size:Int):=of_decide_eq_true (by first|(with_reducible assumption)|assumption)
         have hx4:=bt_at a0 x3_1
         replace p4:=eq_true p4
         replace q4:=eq_true q4
         have p14:0 ≤ (x3_1:Int):=of_decide_eq_true (by first|(with_reducible assumption)|assumption)
         have q14:x3_1 < (a0.size:Int):=of_decide_eq_true (by first|(with_reducible assumption)|assumption)
         have hx14:=bt_at a0 x3_1
         replace p14:=eq_true p14
         replace q14:=eq_true q14
         have p16:0 ≤ (x3_1:Int):=of_decide_eq_true (by first|(with_reducible assumption)|assumption)
         have q16:x3_1 < (a0.size:Int):=of_decide_eq_true (by first|(with_reducible assumption)|assumption)
         have hx16:=bt_at a0 x3_1
         replace p16:=eq_true p16
         replace q16:=eq_true q16
         go_wp2
         go_ret
         exact ⟨by first|rfl|(simp;done)|(simp [*];done),by repeat (first|exact Drawn0.refl _|apply Drawn0.step)⟩
        ·rw [if_neg c17] at H
         have c17b0:decide (57 < (bt a0 x3_1)) = false:=decide_eq_false c17
         clear c17
         have H':=Aside0.mk H
         clear H
         have p4:0 ≤ (x3_1:Int):=of_decide_eq_true (by first|(with_reducible assumption)|assumption)
         have q4:x3_1 < (a0.size:Int):=of_decide_eq_true (by first|(with_reducible assumption)|assumption)
         have hx4:=bt_at a0 x3_1
         replace p4:=eq_true p4
         replace q4:=eq_true q4
         have p14:0 ≤ (x3_1:Int):=of_decide_eq_true (by first|(with_reducible assumption)|assumption)
         have q14:x3_1 < (a0.size:Int):=of_decide_eq_true (by first|(with_reducible assumption)|assumption)
         have hx14:=bt_at a0 x3_1
         replace p14:=eq_true p14
         replace q14:=eq_true q14
         have p16:0 ≤ (x3_1:Int):=of_decide_eq_true (by first|(with_reducible assumption)|assumption)
         have q16:x3_1 < (a0.size:Int):=of_decide_eq_true (by first|(with_reducible assumption)|assumption)
         have hx16:=bt_at a0 x3_1
         replace p16:=eq_true p16
         replace q16:=eq_true q16
         go_wp2
         go_roundg k1
         case measure=>have:=HK1.out;omega
         case rel=>exact ⟨(wrap64 (x3_1 + 1)),(by first|rfl|(simp;done)|(simp [*];done)),H',⟨by have:=HK1.out;omega⟩,by repeat (first|exact Drawn0.refl _|apply Drawn0.step)⟩
    ·rw [if_neg c3] at H
     exact absurd H (by simp)
   ·rw [if_neg c2] at H
    have c2b0:decide (x3_1 < (a0.size:Int)) = false:=decide_eq_false c2
    clear c2
    by_cases c18:(a0.size:Int) > 0
    ·rw [if_pos c18] at H
     have c18b0:decide (0 < (a0.size:Int)) = true:=decide_eq_true c18
     have c18b1:decide (0 < a0.size) = true:=decide_eq_true (by omega)
     clear c18
     obtain rfl:=Option.some.inj H
     go_wp2
     go_ret
     exact ⟨by first|rfl|(simp;done)|(simp [*];done),by repeat (first|exact Drawn0.refl _|apply Drawn0.step)⟩
    ·rw [if_neg c18] at H
     have c18b0:decide (0 < (a0.size:Int)) = false:=decide_eq_false c18
     have c18b1:decide (0 < a0.size) = false:=decide_eq_false (by omega)
     clear c18
     obtain rfl:=Option.some.inj H
     go_wp2
     go_ret
     exact ⟨by first|rfl|(simp;done)|(simp [*];done),by repeat (first|exact Drawn0.refl _|apply Drawn0.step)⟩
end Go.Proofs.Ytgmelgkcoejknaa.X
end
section
namespace Go.Proofs.Ytgmelgkcoejknaa.P
set_option linter.unusedVariables false
set_option linter.unusedSimpArgs false
open Go.RowKit Go.Proofs.YtgmelgkcoejknaaW.PrintWords Go.Proofs.YtgmelgkcoejknaaW.PrintMore Go.Proofs.Ytgmelgkcoejknaa.X
def letterB (n:Int):Bool:=decide (97 ≤ n) && decide (n ≤ 122)
def digitB (n:Int):Bool:=decide (48 ≤ n) && decide (n ≤ 57)
theorem letter_f (n:Int):words_letter.f n = some (letterB n):=by
 unfold words_letter.f letterB
 by_cases h:97 ≤ n
 ·rw [if_pos h,decide_eq_true h,Bool.true_and]
 ·rw [if_neg h,decide_eq_false h,Bool.false_and]
theorem digit_f (n:Int):words_digit.f n = some (digitB n):=by
 unfold words_digit.f digitB
 by_cases h:48 ≤ n
 ·rw [if_pos h,decide_eq_true h,Bool.true_and]
 ·rw [if_neg h,decide_eq_false h,Bool.false_and]
def chB (s:ByteArray) (i:Nat):Bool:=letterB (bt s (i:Int)) || (!(i == 0) && digitB (bt s (i:Int)))
def nameFrom (s:ByteArray):Nat → Nat → Bool
 | 0,_=>true
 | d + 1,i=>chB s i && nameFrom s d (i + 1)
def nameB (s:ByteArray):Bool:=decide (0 < s.size) && decide (s.size ≤ 12) && nameFrom s s.size 0
theorem nameLoop (s:ByteArray) (hs:s.size ≤ 12) (h0:letterB (bt s 0) = true):∀ (d i:Nat),i + d = s.size → Ev (fun k=>words_Name.l0 k s s.size i) (nameFrom s d i)
 | 0,i,hd=>by
  refine Ev_succ ?_
  simp only [words_Name.l0,if_neg (show ¬ ((i:Int) < (s.size:Int)) by omega)]
  exact Ev.now _
 | d + 1,i,hd=>by
  have hi:i < s.size:=by omega
  have ih:=nameLoop s hs h0 d (i + 1) (by omega)
  refine Ev_succ ?_
  simp only [words_Name.l0,if_pos (show (i:Int) < (s.size:Int) by omega),if_pos (show 0 ≤ (i:Int) by omega),letter_f,digit_f,Option.bind_some,w_succ hi (by omega),nameFrom,chB]
  cases h1:letterB (bt s (i:Int)) with
  | true=>simp only [if_true,Bool.true_or,Bool.true_and];exact ih
  | false =>
   simp only [Bool.false_eq_true,if_false,Bool.false_or]
   have hi0:(i == 0) = false:=by
    rw [← Bool.not_eq_true,beq_iff_eq]
    rintro rfl
    rw [show ((0:Nat):Int) = 0 from rfl,h0] at h1
    cases h1
   simp only [hi0,Bool.not_false,Bool.true_and]
   cases h2:digitB (bt s (i:Int)) with
   | true=>simp only [if_true,Bool.true_and];exact ih
   | false=>simp only [Bool.false_eq_true,if_false,Bool.false_and];exact Ev.now _
theorem name_f (s:ByteArray):Ev (fun k=>words_Name.f k s) (nameB s):=by
 have hj:nameB s = false → Ev (fun k=>words_Name.j0 k s true) (nameB s):=by
  intro h
  rw [h]
  refine Ev_succ ?_
  simp only [words_Name.j0,if_true]
  exact Ev.now _
 unfold words_Name.f
 by_cases c0:s.toList = []
 ·simp only [if_pos c0]
  refine hj ?_
  have:s.size = 0:=by
   have e:s.toList = s.data.toList:=ByteArray.toList_eq s
   rw [e] at c0
   have:=congrArg List.length c0
   simpa using this
  simp [nameB,this]
 ·simp only [if_neg c0]
  by_cases c1:(s.size:Int) > 12
  ·simp only [if_pos c1]
   exact hj (by simp [nameB];omega)
  ·have hp:0 < s.size:=by
    rcases Nat.eq_zero_or_pos s.size with h|h
    ·exfalso
     apply c0
     have e:s.toList = s.data.toList:=ByteArray.toList_eq s
     rw [e]
     exact List.length_eq_zero_iff.1 (by simpa using h)
    ·exact h
   simp only [if_neg c1,if_pos (show 0 < (s.size:Int) by omega),letter_f,Option.bind_some]
   have hn:nameB s = nameFrom s s.size 0:=by
    unfold nameB
    rw [decide_eq_true hp,decide_eq_true (show s.size ≤ 12 by omega)]
    simp
   cases h1:letterB (bt s 0) with
   | false =>
    refine hj ?_
    rw [hn]
    obtain ⟨d,hd⟩:∃ d,s.size = d + 1:=⟨s.size - 1,by omega⟩
    rw [hd]
    simp [nameFrom,chB,h1]
   | true =>
    refine Ev_succ ?_
    simp only [words_Name.j0,Bool.not_true,Bool.false_eq_true,if_false]
    rw [hn]
    exact nameLoop s (by omega) h1 s.size 0 (by omega)
end Go.Proofs.Ytgmelgkcoejknaa.P
end
section
namespace Go.Proofs.Ytgmelgkcoejknaa.X
open Go.RowKit Go.Proofs.YtgmelgkcoejknaaW.PrintWords Go.Proofs.YtgmelgkcoejknaaW.PrintLast Go.Proofs.YtgmelgkcoejknaaW.PrintMore
attribute [local go_sem] max2_int min2_int max_two min_two max_three min_three max_four min_four
set_option linter.unusedVariables false
set_option linter.unusedSimpArgs false
mutual
def contangoref41_Check.l0:Nat → List (S41) → Int → Option (Int)
 | 0,_,_=>none
 | k + 1,x0,x3=>if x3 < (x0.length:Int) then (if 0 ≤ x3 then ((contangoref03_Name.f k ((rd_T41 x0 x3).f0)).bind fun t102=>(if t102 = true then (if x3 > 0 then (if 0 ≤ (wrap64 (x3 - 1)) then (if (wrap64 (x3 - 1)) < (x0.length:Int) then (contangoref41_Check.j1 k x0 x3 (!(Op.bytesLess (((rd_T41 x0 (wrap64 (x3 - 1))).f0).toList) (((rd_T41 x0 x3).f0).toList)))) else (none)) else (none)) else (contangoref41_Check.j1 k x0 x3 false)) else (some 10))) else (none)) else (some 0)
def contangoref41_Check.j1:Nat → List (S41) → Int → Bool → Option (Int)
 | 0,_,_,_=>none
 | k + 1,x0,x3,x21=>if x21 = true then (some 12) else (if 0 ≤ x3 then (if x3 < (x0.length:Int) then (if ((rd_T41 x0 x3).f1) < 1 then (contangoref41_Check.j2 k x0 x3 true) else (contangoref41_Check.j2 k x0 x3 (decide (((rd_T41 x0 x3).f1) > 7)))) else (none)) else (none))
def contangoref41_Check.j2:Nat → List (S41) → Int → Bool → Option (Int)
 | 0,_,_,_=>none
 | k + 1,x0,x3,x38=>if x38 = true then (some 13) else (if 0 ≤ x3 then (if x3 < (x0.length:Int) then (if ((rd_T41 x0 x3).f2) < 0 then (some 15) else (if ((rd_T41 x0 x3).f2) > 73048 then (some 15) else (contangoref41_Check.l0 k x0 (wrap64 (x3 + 1))))) else (none)) else (none))
end
def contangoref41_Check.f (k:Nat) (l0:List (S41)):Option (Int):=if (l0.length:Int) > 32 then (some 8) else (contangoref41_Check.l0 k l0 0)
theorem contangoref41_Check.mono_l:∀ k,(∀ y0 y1,LeO (contangoref41_Check.l0 k y0 y1) (contangoref41_Check.l0 (k + 1) y0 y1)) ∧ (∀ y0 y1 y2,LeO (contangoref41_Check.j1 k y0 y1 y2) (contangoref41_Check.j1 (k + 1) y0 y1 y2)) ∧ (∀ y0 y1 y2,LeO (contangoref41_Check.j2 k y0 y1 y2) (contangoref41_Check.j2 (k + 1) y0 y1 y2))
 | 0=>⟨fun _ _ r h=>by simp [contangoref41_Check.l0] at h,fun _ _ _ r h=>by simp [contangoref41_Check.j1] at h,fun _ _ _ r h=>by simp [contangoref41_Check.j2] at h⟩
 | k + 1=>by
  obtain ⟨ih0,ih1,ih2⟩:=contangoref41_Check.mono_l k
  refine ⟨?_,?_,?_⟩
  ·intro y0 y1
   unfold contangoref41_Check.l0
   repeat' first
   | (with_reducible exact ih0 _ _)
   | (with_reducible exact ih1 _ _ _)
   | (with_reducible exact ih2 _ _ _)
   | (with_reducible exact contangoref03_Name.mono _ _)
   | (with_reducible exact LeO.refl _)
   | (with_reducible exact LeO.none _)
   | (with_reducible refine LeO.ite ?_ ?_)
   | (with_reducible refine LeO.bind ?_ (fun _=>?_))
   | exact ih0 _ _
   | exact ih1 _ _ _
   | exact ih2 _ _ _
   | exact contangoref03_Name.mono _ _
   | exact LeO.none _
   | refine LeO.ite ?_ ?_
   | refine LeO.bind ?_ (fun _=>?_)
  ·intro y0 y1 y2
   unfold contangoref41_Check.j1
   repeat' first
   | (with_reducible exact ih0 _ _)
   | (with_reducible exact ih1 _ _ _)
   | (with_reducible exact ih2 _ _ _)
   | (with_reducible exact contangoref03_Name.mono _ _)
   | (with_reducible exact LeO.refl _)
   | (with_reducible exact LeO.none _)
   | (with_reducible refine LeO.ite ?_ ?_)
   | (with_reducible refine LeO.bind ?_ (fun _=>?_))
   | exact ih0 _ _
   | exact ih1 _ _ _
   | exact ih2 _ _ _
   | exact contangoref03_Name.mono _ _
   | exact LeO.none _
   | refine LeO.ite ?_ ?_
   | refine LeO.bind ?_ (fun _=>?_)
  ·intro y0 y1 y2
   unfold contangoref41_Check.j2
   repeat' first
   | (with_reducible exact ih0 _ _)
   | (with_reducible exact ih1 _ _ _)
   | (with_reducible exact ih2 _ _ _)
   | (with_reducible exact contangoref03_Name.mono _ _)
   | (with_reducible exact LeO.refl _)
   | (with_reducible exact LeO.none _)
   | (with_reducible refine LeO.ite ?_ ?_)
   | (with_reducible refine LeO.bind ?_ (fun _=>?_))
   | exact ih0 _ _
   | exact ih1 _ _ _
   | exact ih2 _ _ _
   | exact contangoref03_Name.mono _ _
   | exact LeO.none _
   | refine LeO.ite ?_ ?_
   | refine LeO.bind ?_ (fun _=>?_)
theorem contangoref41_Check.mono:∀ a0 k,LeO (contangoref41_Check.f k a0) (contangoref41_Check.f (k + 1) a0):=by
 intro a0 k
 obtain ⟨ih0,ih1,ih2⟩:=contangoref41_Check.mono_l k
 unfold contangoref41_Check.f
 repeat' first
   | (with_reducible exact ih0 _ _)
   | (with_reducible exact ih1 _ _ _)
   | (with_reducible exact ih2 _ _ _)
   | (with_reducible exact contangoref03_Name.mono _ _)
   | (with_reducible exact LeO.refl _)
   | (with_reducible exact LeO.none _)
   | (with_reducible refine LeO.ite ?_ ?_)
   | (with_reducible refine LeO.bind ?_ (fun _=>?_))
   | exact ih0 _ _
   | exact ih1 _ _ _
   | exact ih2 _ _ _
   | exact contangoref03_Name.mono _ _
   | exact LeO.none _
   | refine LeO.ite ?_ ?_
   | refine LeO.bind ?_ (fun _=>?_)
set_option maxHeartbeats 8000000 in
set_option maxRecDepth 100000 in
theorem contangoref41_Check.calls (k:Nat) (A0:Option Addr) (c0:Nat) (l0:List (S41)) (r:Int) (w:World) (hr0:Kd.C k41 w A0 l0.length l0) (hc0:l0.length ≤ c0) (h:contangoref41_Check.f k l0 = some r) :
  Calls Try.prog 19 #[.slice A0 l0.length c0] w fun e w'=>e = .returned (.int .i64 r) ∧ Drawn0 w w':=by
 have HR0:=Aside0.mk hr0
 have HC0:=Aside0.mk hc0
 clear hr0 hc0
 have H:(if (l0.length:Int) > 32 then (some 8) else (contangoref41_Check.l0 k l0 0)) = some r:=h
 clear h
 by_cases c2:(l0.length:Int) > 32
 ·rw [if_pos c2] at H
  have c2b0:decide (32 < (l0.length:Int)) = true:=decide_eq_true c2
  have c2b1:decide (32 < l0.length) = true:=decide_eq_true (by omega)
  clear c2
  obtain rfl:=Option.some.inj H
  go_enter Try.func19,Try.ntmps19
  go_wp2
  repeat (go_quiet (fail);try go_wp2)
  go_ret
  exact ⟨by first|rfl|(simp;done)|(simp [*];done),by repeat (first|exact Drawn0.refl _|apply Drawn0.step)⟩
 ·rw [if_neg c2] at H
  have c2b0:decide (32 < (l0.length:Int)) = false:=decide_eq_false c2
  have c2b1:decide (32 < l0.length) = false:=decide_eq_false (by omega)
  clear c2
  have H':=Aside0.mk H
  clear H
  go_enter Try.func19,Try.ntmps19
  go_wp2
  repeat (go_quiet (fail);try go_wp2)
  go_loopg [3] k (fun kq v3 w'=>∃ (x3_1:Int),v3 = .int .i64 x3_1 ∧ Aside0 (contangoref41_Check.l0 kq l0 x3_1 = some r) ∧ Aside0 (kq ≤ k) ∧ Drawn0 w w')
  case atStart=>exact ⟨(0),(by first|rfl|(simp;done)|(simp [*];done)),H',⟨Nat.le_refl _⟩,by repeat (first|exact Drawn0.refl _|apply Drawn0.step)⟩
  case round =>
   clear H'
   try clear c1
   try clear c2
   try clear c2b0
   try clear c2b1
   try clear p2
   obtain ⟨x3_1,rfl,HA,HK1,⟨m1,rfl⟩⟩:=hrel
   cases gk with
   | zero=>exact absurd HA.out (by simp [contangoref41_Check.l0])
   | succ k1 =>
    have H:=HA.out
    clear HA
    simp only [contangoref41_Check.l0] at H
    by_cases c3:x3_1 < (l0.length:Int)
    ·rw [if_pos c3] at H
     have c3b0:decide (x3_1 < (l0.length:Int)) = true:=decide_eq_true c3
     clear c3
     by_cases c4:0 ≤ x3_1
     ·rw [if_pos c4] at H
      have c4b0:decide (0 ≤ x3_1) = true:=decide_eq_true c4
      clear c4
      replace H:=Option.bind_eq_some_iff.mp H
      obtain ⟨t102,A50,H⟩:=H
      replace H:(if t102 = true then (if x3_1 > 0 then (if 0 ≤ (wrap64 (x3_1 - 1)) then (if (wrap64 (x3_1 - 1)) < (l0.length:Int) then (contangoref41_Check.j1 k1 l0 x3_1 (!(Op.bytesLess (((rd_T41 l0 (wrap64 (x3_1 - 1))).f0).toList) (((rd_T41 l0 x3_1).f0).toList)))) else (none)) else (none)) else (contangoref41_Check.j1 k1 l0 x3_1 false)) else (some 10)) = some r:=H
      have A5:=Aside0.mk A50
      clear A50
      by_cases c6:t102 = true
      ·subst c6
       have H1:(if x3_1 > 0 then (if 0 ≤ (wrap64 (x3_1 - 1)) then (if (wrap64 (x3_1 - 1)) < (l0.length:Int) then (contangoref41_Check.j1 k1 l0 x3_1 (!(Op.bytesLess (((rd_T41 l0 (wrap64 (x3_1 - 1))).f0).toList) (((rd_T41 l0 x3_1).f0).toList)))) else (none)) else (none)) else (contangoref41_Check.j1 k1 l0 x3_1 false)) = some r:=by rw [if_pos rfl] at H;exact H
       clear H
       have H:=H1
       clear H1
       have HC7:=Aside0.mk H
       clear H
       have p101:0 ≤ (x3_1:Int):=of_decide_eq_true (by first|(with_reducible assumption)|assumption)
       have q101:x3_1 < (l0.length:Int):=of_decide_eq_true (by first|(with_reducible assumption)|assumption)
       obtain ⟨ad101,e101,hx101_0,hx101_1,hx101_2⟩:=at_T41 HR0.out x3_1 p101 q101
       cases e101
       replace p101:=eq_true p101
       replace q101:=eq_true q101
       go_upto_region 8 with (first|(go_at_call 29;(with_reducible refine (contangoref03_Name.calls k1 ((rd_T41 l0 x3_1).f0) true _ A5.out).mono ?_);rintro e w' ⟨rfl,⟨nd,rfl⟩⟩;(try first|exact ⟨rfl,_,World.drewN_drewN _ _ _⟩|exact ⟨rfl,_,Eq.trans (World.drewN_drewN _ _ _) (congrArg (World.drewN _) (Nat.add_assoc _ _ _))⟩)))
       repeat (go_quiet (first|(go_at_call 29;(with_reducible refine (contangoref03_Name.calls k1 ((rd_T41 l0 x3_1).f0) true _ A5.out).mono ?_);rintro e w' ⟨rfl,⟨nd,rfl⟩⟩;(try first|exact ⟨rfl,_,World.drewN_drewN _ _ _⟩|exact ⟨rfl,_,Eq.trans (World.drewN_drewN _ _ _) (congrArg (World.drewN _) (Nat.add_assoc _ _ _))⟩)));go_upto_region 8 with (first|(go_at_call 29;(with_reducible refine (contangoref03_Name.calls k1 ((rd_T41 l0 x3_1).f0) true _ A5.out).mono ?_);rintro e w' ⟨rfl,⟨nd,rfl⟩⟩;(try first|exact ⟨rfl,_,World.drewN_drewN _ _ _⟩|exact ⟨rfl,_,Eq.trans (World.drewN_drewN _ _ _) (congrArg (World.drewN _) (Nat.add_assoc _ _ _))⟩))))
       (try simp only [Act.put,List.setIfInBounds_toArray,List.set_cons_zero,List.set_cons_succ])
       go_cut [21] (fun v21 wc=>∃ (kq:Nat) (x21_6:Bool),v21 = .bool x21_6 ∧ Aside0 (contangoref41_Check.j1 kq l0 x3_1 x21_6 = some r) ∧ Aside0 (kq ≤ k1) ∧ Drawn0 w wc)
       case first =>
        have H:=HC7.out
        clear HC7
        by_cases c8:x3_1 > 0
        ·rw [if_pos c8] at H
         have c8b0:decide (0 < x3_1) = true:=decide_eq_true c8
         clear c8
         (first|rw [c8b0]|(simp only [i64_w,i32_w];rw [c8b0])|skip)
         obtain ⟨ji9,hji9⟩:∃ j_:Int,(wrap64 (x3_1 - 1)) = j_:=⟨_,rfl⟩
         replace H:(if 0 ≤ (ji9) then (if (ji9) < (l0.length:Int) then (contangoref41_Check.j1 k1 l0 x3_1 (!(Op.bytesLess (((rd_T41 l0 (ji9)).f0).toList) (((rd_T41 l0 x3_1).f0).toList)))) else (none)) else (none)) = some r:=by first|(rw [hji9] at H;exact H)|(simp only [hji9] at H ⊢;exact H)
         have hji9w:(IntKind.i64.wrap (x3_1 - 1)) = ji9:=(i64_w _).trans hji9
         by_cases c10:0 ≤ (ji9)
         ·rw [if_pos c10] at H
          have c10b0:decide (0 ≤ (ji9)) = true:=decide_eq_true c10
          clear c10
          by_cases c11:(ji9) < (l0.length:Int)
          ·rw [if_pos c11] at H
           have c11b0:decide ((ji9) < (l0.length:Int)) = true:=decide_eq_true c11
           clear c11
           have H':=Aside0.mk H
           clear H
           have p103:0 ≤ (x3_1:Int):=of_decide_eq_true (by first|(with_reducible assumption)|assumption)
           have q103:x3_1 < (l0.length:Int):=of_decide_eq_true (by first|(with_reducible assumption)|assumption)
           obtain ⟨ad103,e103,hx103_0,hx103_1,hx103_2⟩:=at_T41 HR0.out x3_1 p103 q103
           obtain rfl:ad101 = ad103:=(by injection e103)
           replace p103:=eq_true p103
           replace q103:=eq_true q103
           have p104:0 ≤ ((ji9):Int):=of_decide_eq_true (by first|(with_reducible assumption)|assumption)
           have q104:(ji9) < (l0.length:Int):=of_decide_eq_true (by first|(with_reducible assumption)|assumption)
           obtain ⟨ad104,e104,hx104_0,hx104_1,hx104_2⟩:=at_T41 HR0.out (ji9) p104 q104
           obtain rfl:ad101 = ad104:=(by injection e104)
           replace p104:=eq_true p104
           replace q104:=eq_true q104
           go_wp2
           repeat (go_quiet (fail);try go_wp2)
           go_meet
           case rel=>exact ⟨_,(!(Op.bytesLess (((rd_T41 l0 (ji9)).f0).toList) (((rd_T41 l0 x3_1).f0).toList))),(by first|rfl|(simp;done)|(simp only [← hji9] <;> (first|rfl|simp))|(simp [*];done)),H',⟨by have:=HK1.out;first|omega|exact Nat.le_refl _⟩,by repeat (first|exact Drawn0.refl _|apply Drawn0.step)⟩
          ·rw [if_neg c11] at H
           exact absurd H (by simp)
         ·rw [if_neg c10] at H
          exact absurd H (by simp)
        ·rw [if_neg c8] at H
         have c8b0:decide (0 < x3_1) = false:=decide_eq_false c8
         clear c8
         (first|rw [c8b0]|(simp only [i64_w,i32_w];rw [c8b0])|skip)
         have H':=Aside0.mk H
         clear H
         go_wp2
         repeat (go_quiet (fail);try go_wp2)
         go_meet
         case rel=>exact ⟨_,(false),(by first|rfl|(simp;done)|(simp [*];done)),H',⟨by have:=HK1.out;first|omega|exact Nat.le_refl _⟩,by repeat (first|exact Drawn0.refl _|apply Drawn0.step)⟩
       case rest =>
        clear HC7
        try clear c1
        try clear p1
        try clear q1
        try clear hx1
        try clear c2
        try clear c2b0
        try clear c2b1
        try clear p2
        try clear c3
        try clear c3b0
        try clear c4
        try clear c4b0
        try clear c6
        try clear p6
        try clear c8
        try clear c8b0
        try clear c10
        try clear c10b0
        try clear p10
        try clear q10
        try clear hx10
        try clear c11
        try clear c11b0
        try clear hx101_0
        try clear hx101_1
        try clear hx101_2
        try clear hx103_0
        try clear hx103_1
        try clear hx103_2
        try clear hx104_0
        try clear hx104_1
        try clear hx104_2
        try clear p101
        try clear p103
        try clear p104
        try clear p2
        try clear q101
        try clear q103
        try clear q104
        obtain ⟨kq,x21_6,rfl,HA,HJ6,⟨mc6,rfl⟩⟩:=hcut
        cases kq with
        | zero=>exact absurd HA.out (by simp [contangoref41_Check.j1])
        | succ kj6 =>
         have H:=HA.out
         clear HA
         simp only [contangoref41_Check.j1] at H
         by_cases c12:x21_6 = true
         ·subst c12
          have H1:(some 12) = some r:=by rw [if_pos rfl] at H;exact H
          clear H
          have H:=H1
          clear H1
          obtain rfl:=Option.some.inj H
          go_wp2
          repeat (go_quiet (fail);try go_wp2)
          go_ret
          exact ⟨by first|rfl|(simp;done)|(simp [*];done),by repeat (first|exact Drawn0.refl _|apply Drawn0.step)⟩
         ·replace c12:=Bool.eq_false_iff.mpr c12
          subst c12
          have H1:(if 0 ≤ x3_1 then (if x3_1 < (l0.length:Int) then (if ((rd_T41 l0 x3_1).f1) < 1 then (contangoref41_Check.j2 kj6 l0 x3_1 true) else (contangoref41_Check.j2 kj6 l0 x3_1 (decide (((rd_T41 l0 x3_1).f1) > 7)))) else (none)) else (none)) = some r:=by rw [if_neg (show ¬ (false = true) by decide)] at H;exact H
          clear H
          have H:=H1
          clear H1
          have HC13:=Aside0.mk H
          clear H
          go_upto_region 10 with (fail)
          repeat (go_quiet (fail);go_upto_region 10 with (fail))
          go_cut [38] (fun v38 wc=>∃ (kq:Nat) (x38_12:Bool),v38 = .bool x38_12 ∧ Aside0 (contangoref41_Check.j2 kq l0 x3_1 x38_12 = some r) ∧ Aside0 (kq ≤ kj6) ∧ Drawn0 w wc)
          case first =>
           have H:=HC13.out
           clear HC13
           by_cases c14:0 ≤ x3_1
           ·rw [if_pos c14] at H
            have c14b0:decide (0 ≤ x3_1) = true:=decide_eq_true c14
            clear c14
            (first|rw [c14b0]|(simp only [i64_w,i32_w];rw [c14b0])|skip)
            by_cases c15:x3_1 < (l0.length:Int)
            ·rw [if_pos c15] at H
             have c15b0:decide (x3_1 < (l0.length:Int)) = true:=decide_eq_true c15
             clear c15
             by_cases c16:((rd_T41 l0 x3_1).f1) < 1
             ·rw [if_pos c16] at H
              have c16b0:decide (((rd_T41 l0 x3_1).f1) < 1) = true:=decide_eq_true c16
              clear c16
              have H':=Aside0.mk H
              clear H
              have p105:0 ≤ (x3_1:Int):=of_decide_eq_true (by first|(with_reducible assumption)|assumption)
              have q105:x3_1 < (l0.length:Int):=of_decide_eq_true (by first|(with_reducible assumption)|assumption)
              obtain ⟨ad105,e105,hx105_0,hx105_1,hx105_2⟩:=at_T41 HR0.out x3_1 p105 q105
              obtain rfl:ad101 = ad105:=(by injection e105)
              replace p105:=eq_true p105
              replace q105:=eq_true q105
              go_wp2
              repeat (go_quiet (fail);try go_wp2)
              go_meet
              case rel=>exact ⟨_,(true),(by first|rfl|(simp;done)|(simp [*];done)),H',⟨by have:=HK1.out;have:=HJ6.out;first|omega|exact Nat.le_refl _⟩,by repeat (first|exact Drawn0.refl _|apply Drawn0.step)⟩
             ·rw [if_neg c16] at H
              have c16b0:decide (((rd_T41 l0 x3_1).f1) < 1) = false:=decide_eq_false c16
              clear c16
              have H':=Aside0.mk H
              clear H
              have p105:0 ≤ (x3_1:Int):=of_decide_eq_true (by first|(with_reducible assumption)|assumption)
              have q105:x3_1 < (l0.length:Int):=of_decide_eq_true (by first|(with_reducible assumption)|assumption)
              obtain ⟨ad105,e105,hx105_0,hx105_1,hx105_2⟩:=at_T41 HR0.out x3_1 p105 q105
              obtain rfl:ad101 = ad105:=(by injection e105)
              replace p105:=eq_true p105
              replace q105:=eq_true q105
              have p106:0 ≤ (x3_1:Int):=of_decide_eq_true (by first|(with_reducible assumption)|assumption)
              have q106:x3_1 < (l0.length:Int):=of_decide_eq_true (by first|(with_reducible assumption)|assumption)
              obtain ⟨ad106,e106,hx106_0,hx106_1,hx106_2⟩:=at_T41 HR0.out x3_1 p106 q106
              obtain rfl:ad101 = ad106:=(by injection e106)
              replace p106:=eq_true p106
              replace q106:=eq_true q106
              go_wp2
              repeat (go_quiet (fail);try go_wp2)
              go_meet
              case rel=>exact ⟨_,(decide (((rd_T41 l0 x3_1).f1) > 7)),(by first|rfl|(simp;done)|(simp [*];done)),H',⟨by have:=HK1.out;have:=HJ6.out;first|omega|exact Nat.le_refl _⟩,by repeat (first|exact Drawn0.refl _|apply Drawn0.step)⟩
            ·rw [if_neg c15] at H
             exact absurd H (by simp)
           ·rw [if_neg c14] at H
            exact absurd H (by simp)
          case rest =>
           clear HC13
           try clear c1
           try clear p1
           try clear q1
           try clear hx1
           try clear c2
           try clear c2b0
           try clear c2b1
           try clear p2
           try clear c3
           try clear c3b0
           try clear c4
           try clear c4b0
           try clear c6
           try clear p6
           try clear c8
           try clear c8b0
           try clear c10
           try clear c10b0
           try clear p10
           try clear q10
           try clear hx10
           try clear c11
           try clear c11b0
           try clear c12
           try clear c14
           try clear c14b0
           try clear c15
           try clear c15b0
           try clear c16
           try clear c16b0
           try clear hx101_0
           try clear hx101_1
           try clear hx101_2
           try clear hx103_0
           try clear hx103_1
           try clear hx103_2
           try clear hx104_0
           try clear hx104_1
           try clear hx104_2
           try clear hx105_0
           try clear hx105_1
           try clear hx105_2
           try clear hx106_0
           try clear hx106_1
           try clear hx106_2
           try clear p1
           try clear p10
           try clear p101
           try clear p103
           try clear p104
           try clear p105
           try clear p106
           try clear p2
           try clear p6
           try clear q1
           try clear q10
           try clear q101
           try clear q103
           try clear q104
           try clear q105
           try clear q106
           obtain ⟨kq,x38_12,rfl,HA,HJ12,⟨mc12,rfl⟩⟩:=hcut
           cases kq with
           | zero=>exact absurd HA.out (by simp [contangoref41_Check.j2])
           | succ kj12 =>
            have H:=HA.out
            clear HA
            simp only [contangoref41_Check.j2] at H
            by_cases c17:x38_12 = true
            ·subst c17
             have H1:(some 13) = some r:=by rw [if_pos rfl] at H;exact H
             clear H
             have H:=H1
             clear H1
             obtain rfl:=Option.some.inj H
             go_wp2
             repeat (go_quiet (fail);try go_wp2)
             go_ret
             exact ⟨by first|rfl|(simp;done)|(simp [*];done),by repeat (first|exact Drawn0.refl _|apply Drawn0.step)⟩
            ·replace c17:=Bool.eq_false_iff.mpr c17
             subst c17
             have H1:(if 0 ≤ x3_1 then (if x3_1 < (l0.length:Int) then (if ((rd_T41 l0 x3_1).f2) < 0 then (some 15) else (if ((rd_T41 l0 x3_1).f2) > 73048 then (some 15) else (contangoref41_Check.l0 kj12 l0 (wrap64 (x3_1 + 1))))) else (none)) else (none)) = some r:=by rw [if_neg (show ¬ (false = true) by decide)] at H;exact H
             clear H
             have H:=H1
             clear H1
             by_cases c18:0 ≤ x3_1
             ·rw [if_pos c18] at H
              have c18b0:decide (0 ≤ x3_1) = true:=decide_eq_true c18
              clear c18
              by_cases c19:x3_1 < (l0.length:Int)
              ·rw [if_pos c19] at H
               have c19b0:decide (x3_1 < (l0.length:Int)) = true:=decide_eq_true c19
               clear c19
               by_cases c20:((rd_T41 l0 x3_1).f2) < 0
               ·rw [if_pos c20] at H
                have c20b0:decide (((rd_T41 l0 x3_1).f2) < 0) = true:=decide_eq_true c20
                clear c20
                obtain rfl:=Option.some.inj H
                have p107:0 ≤ (x3_1:Int):=of_decide_eq_true (by first|(with_reducible assumption)|assumption)
                have q107:x3_1 < (l0.length:Int):=of_decide_eq_true (by first|(with_reducible assumption)|assumption)
                obtain ⟨ad107,e107,hx107_0,hx107_1,hx107_2⟩:=at_T41 HR0.out x3_1 p107 q107
                obtain rfl:ad101 = ad107:=(by injection e107)
                replace p107:=eq_true p107
                replace q107:=eq_true q107
                go_wp2
                repeat (go_quiet (fail);try go_wp2)
                go_ret
                exact ⟨by first|rfl|(simp;done)|(simp [*];done),by repeat (first|exact Drawn0.refl _|apply Drawn0.step)⟩
               ·rw [if_neg c20] at H
                have c20b0:decide (((rd_T41 l0 x3_1).f2) < 0) = false:=decide_eq_false c20
                clear c20
                by_cases c21:((rd_T41 l0 x3_1).f2) > 73048
                ·rw [if_pos c21] at H
                 have c21b0:decide (73048 < ((rd_T41 l0 x3_1).f2)) = true:=decide_eq_true c21
                 clear c21
                 obtain rfl:=Option.some.inj H
                 have p107:0 ≤ (x3_1:Int):=of_decide_eq_true (by first|(with_reducible assumption)|assumption)
                 have q107:x3_1 < (l0.length:Int):=of_decide_eq_true (by first|(with_reducible assumption)|assumption)
                 obtain ⟨ad107,e107,hx107_0,hx107_1,hx107_2⟩:=at_T41 HR0.out x3_1 p107 q107
                 obtain rfl:ad101 = ad107:=(by injection e107)
                 replace p107:=eq_true p107
                 replace q107:=eq_true q107
                 have p108:0 ≤ (x3_1:Int):=of_decide_eq_true (by first|(with_reducible assumption)|assumption)
                 have q108:x3_1 < (l0.length:Int):=of_decide_eq_true (by first|(with_reducible assumption)|assumption)
                 obtain ⟨ad108,e108,hx108_0,hx108_1,hx108_2⟩:=at_T41 HR0.out x3_1 p108 q108
                 obtain rfl:ad101 = ad108:=(by injection e108)
                 replace p108:=eq_true p108
                 replace q108:=eq_true q108
                 go_wp2
                 repeat (go_quiet (fail);try go_wp2)
                 go_ret
                 exact ⟨by first|rfl|(simp;done)|(simp [*];done),by repeat (first|exact Drawn0.refl _|apply Drawn0.step)⟩
                ·rw [if_neg c21] at H
                 have c21b0:decide (73048 < ((rd_T41 l0 x3_1).f2)) = false:=decide_eq_false c21
                 clear c21
                 have H':=Aside0.mk H
                 clear H
                 have p107:0 ≤ (x3_1:Int):=of_decide_eq_true (by first|(with_reducible assumption)|assumption)
                 have q107:x3_1 < (l0.length:Int):=of_decide_eq_true (by first|(with_reducible assumption)|assumption)
                 obtain ⟨ad107,e107,hx107_0,hx107_1,hx107_2⟩:=at_T41 HR0.out x3_1 p107 q107
                 obtain rfl:ad101 = ad107:=(by injection e107)
                 replace p107:=eq_true p107
                 replace q107:=eq_true q107
                 have p108:0 ≤ (x3_1:Int):=of_decide_eq_true (by first|(with_reducible assumption)|assumption)
                 have q108:x3_1 < (l0.length:Int):=of_decide_eq_true (by first|(with_reducible assumption)|assumption)
                 obtain ⟨ad108,e108,hx108_0,hx108_1,hx108_2⟩:=at_T41 HR0.out x3_1 p108 q108
                 obtain rfl:ad101 = ad108:=(by injection e108)
                 replace p108:=eq_true p108
                 replace q108:=eq_true q108
                 go_wp2
                 repeat (go_quiet (fail);try go_wp2)
                 go_roundg kj12
                 case measure=>have:=HK1.out;have:=HJ6.out;have:=HJ12.out;omega
                 case rel=>exact ⟨(wrap64 (x3_1 + 1)),(by first|rfl|(simp;done)|(simp [*];done)),H',⟨by have:=HK1.out;have:=HJ6.out;have:=HJ12.out;omega⟩,by repeat (first|exact Drawn0.refl _|apply Drawn0.step)⟩
              ·rw [if_neg c19] at H
               exact absurd H (by simp)
             ·rw [if_neg c18] at H
              exact absurd H (by simp)
      ·replace c6:=Bool.eq_false_iff.mpr c6
       subst c6
       have H1:(some 10) = some r:=by rw [if_neg (show ¬ (false = true) by decide)] at H;exact H
       clear H
       have H:=H1
       clear H1
       obtain rfl:=Option.some.inj H
       have p101:0 ≤ (x3_1:Int):=of_decide_eq_true (by first|(with_reducible assumption)|assumption)
       have q101:x3_1 < (l0.length:Int):=of_decide_eq_true (by first|(with_reducible assumption)|assumption)
       obtain ⟨ad101,e101,hx101_0,hx101_1,hx101_2⟩:=at_T41 HR0.out x3_1 p101 q101
       cases e101
       replace p101:=eq_true p101
       replace q101:=eq_true q101
       go_wp2_with (first|(go_at_call 29;(with_reducible refine (contangoref03_Name.calls k1 ((rd_T41 l0 x3_1).f0) false _ A5.out).mono ?_);rintro e w' ⟨rfl,⟨nd,rfl⟩⟩;(try first|exact ⟨rfl,_,World.drewN_drewN _ _ _⟩|exact ⟨rfl,_,Eq.trans (World.drewN_drewN _ _ _) (congrArg (World.drewN _) (Nat.add_assoc _ _ _))⟩)))
       repeat (go_quiet (first|(go_at_call 29;(with_reducible refine (contangoref03_Name.calls k1 ((rd_T41 l0 x3_1).f0) false _ A5.out).mono ?_);rintro e w' ⟨rfl,⟨nd,rfl⟩⟩;(try first|exact ⟨rfl,_,World.drewN_drewN _ _ _⟩|exact ⟨rfl,_,Eq.trans (World.drewN_drewN _ _ _) (congrArg (World.drewN _) (Nat.add_assoc _ _ _))⟩)));try go_wp2_with (first|(go_at_call 29;(with_reducible refine (contangoref03_Name.calls k1 ((rd_T41 l0 x3_1).f0) false _ A5.out).mono ?_);rintro e w' ⟨rfl,⟨nd,rfl⟩⟩;(try first|exact ⟨rfl,_,World.drewN_drewN _ _ _⟩|exact ⟨rfl,_,Eq.trans (World.drewN_drewN _ _ _) (congrArg (World.drewN _) (Nat.add_assoc _ _ _))⟩))))
       go_ret
       exact ⟨by first|rfl|(simp;done)|(simp [*];done),by repeat (first|exact Drawn0.refl _|apply Drawn0.step)⟩
     ·rw [if_neg c4] at H
      exact absurd H (by simp)
    ·rw [if_neg c3] at H
     have c3b0:decide (x3_1 < (l0.length:Int)) = false:=decide_eq_false c3
     clear c3
     obtain rfl:=Option.some.inj H
     go_wp2
     repeat (go_quiet (fail);try go_wp2)
     go_ret
     exact ⟨by first|rfl|(simp;done)|(simp [*];done),by repeat (first|exact Drawn0.refl _|apply Drawn0.step)⟩
end Go.Proofs.Ytgmelgkcoejknaa.X
end
section
namespace Go.Proofs.Ytgmelgkcoejknaa.X
open Go.RowKit Go.Proofs.YtgmelgkcoejknaaW.PrintWords Go.Proofs.YtgmelgkcoejknaaW.PrintLast Go.Proofs.YtgmelgkcoejknaaW.PrintMore
attribute [local go_sem] max2_int min2_int max_two min_two max_three min_three max_four min_four
set_option linter.unusedVariables false
set_option linter.unusedSimpArgs false
mutual
def contangolaw41_same.l0:Nat → List (S37) → List (S41) → Int → Option (Bool)
 | 0,_,_,_=>none
 | k + 1,x0,x1,x5=>if x5 < (x0.length:Int) then (contangolaw41_same.j1 k x0 x1 x5 (decide (x5 < (x1.length:Int)))) else (contangolaw41_same.j1 k x0 x1 x5 false)
def contangolaw41_same.j1:Nat → List (S37) → List (S41) → Int → Bool → Option (Bool)
 | 0,_,_,_,_=>none
 | k + 1,x0,x1,x5,x15=>if x15 = true then (if 0 ≤ x5 then (if x5 < (x0.length:Int) then (if x5 < (x1.length:Int) then (if ((rd_T37 x0 x5).f0).toList = ((rd_T41 x1 x5).f0).toList then (if ((rd_T37 x0 x5).f1) = ((rd_T41 x1 x5).f1) then (if ((rd_T37 x0 x5).f2) = ((rd_T41 x1 x5).f2) then (contangolaw41_same.l0 k x0 x1 (wrap64 (x5 + 1))) else (some false)) else (some false)) else (some false)) else (none)) else (none)) else (none)) else (some ((x0.length:Int) == (x1.length:Int)))
end
def contangolaw41_same.f (k:Nat) (l0:List (S37)) (l1:List (S41)):Option (Bool):=contangolaw41_same.l0 k l0 l1 0
theorem contangolaw41_same.mono_l:∀ k,(∀ y0 y1 y2,LeO (contangolaw41_same.l0 k y0 y1 y2) (contangolaw41_same.l0 (k + 1) y0 y1 y2)) ∧ (∀ y0 y1 y2 y3,LeO (contangolaw41_same.j1 k y0 y1 y2 y3) (contangolaw41_same.j1 (k + 1) y0 y1 y2 y3))
 | 0=>⟨fun _ _ _ r h=>by simp [contangolaw41_same.l0] at h,fun _ _ _ _ r h=>by simp [contangolaw41_same.j1] at h⟩
 | k + 1=>by
  obtain ⟨ih0,ih1⟩:=contangolaw41_same.mono_l k
  refine ⟨?_,?_⟩
  ·intro y0 y1 y2
   unfold contangolaw41_same.l0
   repeat' first
   | (with_reducible exact ih0 _ _ _)
   | (with_reducible exact ih1 _ _ _ _)
   | (with_reducible exact LeO.refl _)
   | (with_reducible exact LeO.none _)
   | (with_reducible refine LeO.ite ?_ ?_)
   | (with_reducible refine LeO.bind ?_ (fun _=>?_))
   | exact ih0 _ _ _
   | exact ih1 _ _ _ _
   | exact LeO.none _
   | refine LeO.ite ?_ ?_
   | refine LeO.bind ?_ (fun _=>?_)
  ·intro y0 y1 y2 y3
   unfold contangolaw41_same.j1
   repeat' first
   | (with_reducible exact ih0 _ _ _)
   | (with_reducible exact ih1 _ _ _ _)
   | (with_reducible exact LeO.refl _)
   | (with_reducible exact LeO.none _)
   | (with_reducible refine LeO.ite ?_ ?_)
   | (with_reducible refine LeO.bind ?_ (fun _=>?_))
   | exact ih0 _ _ _
   | exact ih1 _ _ _ _
   | exact LeO.none _
   | refine LeO.ite ?_ ?_
   | refine LeO.bind ?_ (fun _=>?_)
theorem contangolaw41_same.mono:∀ a0 a1 k,LeO (contangolaw41_same.f k a0 a1) (contangolaw41_same.f (k + 1) a0 a1):=by
 intro a0 a1 k
 obtain ⟨ih0,ih1⟩:=contangolaw41_same.mono_l k
 unfold contangolaw41_same.f
 repeat' first
   | (with_reducible exact ih0 _ _ _)
   | (with_reducible exact ih1 _ _ _ _)
   | (with_reducible exact LeO.refl _)
   | (with_reducible exact LeO.none _)
   | (with_reducible refine LeO.ite ?_ ?_)
   | (with_reducible refine LeO.bind ?_ (fun _=>?_))
   | exact ih0 _ _ _
   | exact ih1 _ _ _ _
   | exact LeO.none _
   | refine LeO.ite ?_ ?_
   | refine LeO.bind ?_ (fun _=>?_)
set_option maxHeartbeats 8000000 in
set_option maxRecDepth 100000 in
theorem contangolaw41_same.calls (k:Nat) (A0:Option Addr) (c0:Nat) (l0:List (S37)) (A1:Option Addr) (c1:Nat) (l1:List (S41)) (r:Bool) (w:World) (hr0:Kd.C k37 w A0 l0.length l0) (hc0:l0.length ≤ c0) (hr1:Kd.C k41 w A1 l1.length l1) (hc1:l1.length ≤ c1) (h:contangolaw41_same.f k l0 l1 = some r) :
  Calls Try.prog 10 #[.slice A0 l0.length c0,.slice A1 l1.length c1] w fun e w'=>e = .returned (.bool r) ∧ Drawn0 w w':=by
 have HR0:=Aside0.mk hr0
 have HC0:=Aside0.mk hc0
 clear hr0 hc0
 have HR1:=Aside0.mk hr1
 have HC1:=Aside0.mk hc1
 clear hr1 hc1
 have H:(contangolaw41_same.l0 k l0 l1 0) = some r:=h
 clear h
 have H':=Aside0.mk H
 clear H
 go_enter Try.func10,Try.ntmps10
 go_wp2
 repeat (go_quiet (fail);try go_wp2)
 go_loopg [5] k (fun kq v5 w'=>∃ (x5_1:Int),v5 = .int .i64 x5_1 ∧ Aside0 (contangolaw41_same.l0 kq l0 l1 x5_1 = some r) ∧ Aside0 (kq ≤ k) ∧ Drawn0 w w')
 case atStart=>exact ⟨(0),(by first|rfl|(simp;done)|(simp [*];done)),H',⟨Nat.le_refl _⟩,by repeat (first|exact Drawn0.refl _|apply Drawn0.step)⟩
 case round =>
  clear H'
  try clear c1
  try clear p2
  obtain ⟨x5_1,rfl,HA,HK1,⟨m1,rfl⟩⟩:=hrel
  cases gk with
  | zero=>exact absurd HA.out (by simp [contangolaw41_same.l0])
  | succ k1 =>
   have H:=HA.out
   clear HA
   simp only [contangolaw41_same.l0] at H
   have HC3:=Aside0.mk H
   clear H
   go_upto_region 2 with (fail)
   repeat (go_quiet (fail);go_upto_region 2 with (fail))
   go_cut [15] (fun v15 wc=>∃ (kq:Nat) (x15_2:Bool),v15 = .bool x15_2 ∧ Aside0 (contangolaw41_same.j1 kq l0 l1 x5_1 x15_2 = some r) ∧ Aside0 (kq ≤ k1) ∧ Drawn0 w wc)
   case first =>
    have H:=HC3.out
    clear HC3
    by_cases c4:x5_1 < (l0.length:Int)
    ·rw [if_pos c4] at H
     have c4b0:decide (x5_1 < (l0.length:Int)) = true:=decide_eq_true c4
     clear c4
     (first|rw [c4b0]|(simp only [i64_w,i32_w];rw [c4b0])|skip)
     have H':=Aside0.mk H
     clear H
     go_wp2
     repeat (go_quiet (fail);try go_wp2)
     go_meet
     case rel=>exact ⟨_,(decide (x5_1 < (l1.length:Int))),(by first|rfl|(simp;done)|(simp [*];done)),H',⟨by have:=HK1.out;first|omega|exact Nat.le_refl _⟩,by repeat (first|exact Drawn0.refl _|apply Drawn0.step)⟩
    ·rw [if_neg c4] at H
     have c4b0:decide (x5_1 < (l0.length:Int)) = false:=decide_eq_false c4
     clear c4
     (first|rw [c4b0]|(simp only [i64_w,i32_w];rw [c4b0])|skip)
     have H':=Aside0.mk H
     clear H
     go_wp2
     repeat (go_quiet (fail);try go_wp2)
     go_meet
     case rel=>exact ⟨_,(false),(by first|rfl|(simp;done)|(simp [*];done)),H',⟨by have:=HK1.out;first|omega|exact Nat.le_refl _⟩,by repeat (first|exact Drawn0.refl _|apply Drawn0.step)⟩
   case rest =>
    clear HC3
    try clear c1
    try clear p2
    try clear c4
    try clear c4b0
    try clear p2
    obtain ⟨kq,x15_2,rfl,HA,HJ2,⟨mc2,rfl⟩⟩:=hcut
    cases kq with
    | zero=>exact absurd HA.out (by simp [contangolaw41_same.j1])
    | succ kj2 =>
     have H:=HA.out
     clear HA
     simp only [contangolaw41_same.j1] at H
     by_cases c5:x15_2 = true
     ·subst c5
      have H1:(if 0 ≤ x5_1 then (if x5_1 < (l0.length:Int) then (if x5_1 < (l1.length:Int) then (if ((rd_T37 l0 x5_1).f0).toList = ((rd_T41 l1 x5_1).f0).toList then (if ((rd_T37 l0 x5_1).f1) = ((rd_T41 l1 x5_1).f1) then (if ((rd_T37 l0 x5_1).f2) = ((rd_T41 l1 x5_1).f2) then (contangolaw41_same.l0 kj2 l0 l1 (wrap64 (x5_1 + 1))) else (some false)) else (some false)) else (some false)) else (none)) else (none)) else (none)) = some r:=by rw [if_pos rfl] at H;exact H
      clear H
      have H:=H1
      clear H1
      by_cases c6:0 ≤ x5_1
      ·rw [if_pos c6] at H
       have c6b0:decide (0 ≤ x5_1) = true:=decide_eq_true c6
       clear c6
       by_cases c7:x5_1 < (l0.length:Int)
       ·rw [if_pos c7] at H
        have c7b0:decide (x5_1 < (l0.length:Int)) = true:=decide_eq_true c7
        clear c7
        by_cases c8:x5_1 < (l1.length:Int)
        ·rw [if_pos c8] at H
         have c8b0:decide (x5_1 < (l1.length:Int)) = true:=decide_eq_true c8
         clear c8
         by_cases c9:((rd_T37 l0 x5_1).f0).toList = ((rd_T41 l1 x5_1).f0).toList
         ·rw [if_pos c9] at H
          have c9b0:(((rd_T37 l0 x5_1).f0).toList == ((rd_T41 l1 x5_1).f0).toList) = true:=beq_iff_eq.mpr c9
          have c9b1:(((rd_T37 l0 x5_1).f0).toList != ((rd_T41 l1 x5_1).f0).toList) = false:=bne_eq_false_iff_eq.mpr c9
          clear c9
          by_cases c10:((rd_T37 l0 x5_1).f1) = ((rd_T41 l1 x5_1).f1)
          ·rw [if_pos c10] at H
           have c10b0:(((rd_T37 l0 x5_1).f1) == ((rd_T41 l1 x5_1).f1)) = true:=beq_iff_eq.mpr c10
           have c10b1:(((rd_T37 l0 x5_1).f1) != ((rd_T41 l1 x5_1).f1)) = false:=bne_eq_false_iff_eq.mpr c10
           clear c10
           by_cases c11:((rd_T37 l0 x5_1).f2) = ((rd_T41 l1 x5_1).f2)
           ·rw [if_pos c11] at H
            have c11b0:(((rd_T37 l0 x5_1).f2) == ((rd_T41 l1 x5_1).f2)) = true:=beq_iff_eq.mpr c11
            have c11b1:(((rd_T37 l0 x5_1).f2) != ((rd_T41 l1 x5_1).f2)) = false:=bne_eq_false_iff_eq.mpr c11
            clear c11
            have H':=Aside0.mk H
            clear H
            have p101:0 ≤ (x5_1:Int):=of_decide_eq_true (by first|(with_reducible assumption)|assumption)
            have q101:x5_1 < (l0.length:Int):=of_decide_eq_true (by first|(with_reducible assumption)|assumption)
            obtain ⟨ad101,e101,hx101_0,hx101_1,hx101_2⟩:=at_T37 HR0.out x5_1 p101 q101
            cases e101
            replace p101:=eq_true p101
            replace q101:=eq_true q101
            have p102:0 ≤ (x5_1:Int):=of_decide_eq_true (by first|(with_reducible assumption)|assumption)
            have q102:x5_1 < (l1.length:Int):=of_decide_eq_true (by first|(with_reducible assumption)|assumption)
            obtain ⟨ad102,e102,hx102_0,hx102_1,hx102_2⟩:=at_T41 HR1.out x5_1 p102 q102
            cases e102
            replace p102:=eq_true p102
            replace q102:=eq_true q102
            have p103:0 ≤ (x5_1:Int):=of_decide_eq_true (by first|(with_reducible assumption)|assumption)
            have q103:x5_1 < (l0.length:Int):=of_decide_eq_true (by first|(with_reducible assumption)|assumption)
            obtain ⟨ad103,e103,hx103_0,hx103_1,hx103_2⟩:=at_T37 HR0.out x5_1 p103 q103
            obtain rfl:ad101 = ad103:=(by injection e103)
            replace p103:=eq_true p103
            replace q103:=eq_true q103
            have p104:0 ≤ (x5_1:Int):=of_decide_eq_true (by first|(with_reducible assumption)|assumption)
            have q104:x5_1 < (l1.length:Int):=of_decide_eq_true (by first|(with_reducible assumption)|assumption)
            obtain ⟨ad104,e104,hx104_0,hx104_1,hx104_2⟩:=at_T41 HR1.out x5_1 p104 q104
            obtain rfl:ad102 = ad104:=(by injection e104)
            replace p104:=eq_true p104
            replace q104:=eq_true q104
            have p105:0 ≤ (x5_1:Int):=of_decide_eq_true (by first|(with_reducible assumption)|assumption)
            have q105:x5_1 < (l0.length:Int):=of_decide_eq_true (by first|(with_reducible assumption)|assumption)
            obtain ⟨ad105,e105,hx105_0,hx105_1,hx105_2⟩:=at_T37 HR0.out x5_1 p105 q105
            obtain rfl:ad101 = ad105:=(by injection e105)
            replace p105:=eq_true p105
            replace q105:=eq_true q105
            have p106:0 ≤ (x5_1:Int):=of_decide_eq_true (by first|(with_reducible assumption)|assumption)
            have q106:x5_1 < (l1.length:Int):=of_decide_eq_true (by first|(with_reducible assumption)|assumption)
            obtain ⟨ad106,e106,hx106_0,hx106_1,hx106_2⟩:=at_T41 HR1.out x5_1 p106 q106
            obtain rfl:ad102 = ad106:=(by injection e106)
            replace p106:=eq_true p106
            replace q106:=eq_true q106
            go_wp2
            repeat (go_quiet (fail);try go_wp2)
            go_roundg kj2
            case measure=>have:=HK1.out;have:=HJ2.out;omega
            case rel=>exact ⟨(wrap64 (x5_1 + 1)),(by first|rfl|(simp;done)|(simp [*];done)),H',⟨by have:=HK1.out;have:=HJ2.out;omega⟩,by repeat (first|exact Drawn0.refl _|apply Drawn0.step)⟩
           ·rw [if_neg c11] at H
            have c11b0:(((rd_T37 l0 x5_1).f2) == ((rd_T41 l1 x5_1).f2)) = false:=beq_eq_false_iff_ne.mpr c11
            have c11b1:(((rd_T37 l0 x5_1).f2) != ((rd_T41 l1 x5_1).f2)) = true:=bne_iff_ne.mpr c11
            obtain rfl:=Option.some.inj H
            have p101:0 ≤ (x5_1:Int):=of_decide_eq_true (by first|(with_reducible assumption)|assumption)
            have q101:x5_1 < (l0.length:Int):=of_decide_eq_true (by first|(with_reducible assumption)|assumption)
            obtain ⟨ad101,e101,hx101_0,hx101_1,hx101_2⟩:=at_T37 HR0.out x5_1 p101 q101
            cases e101
            replace p101:=eq_true p101
            replace q101:=eq_true q101
            have p102:0 ≤ (x5_1:Int):=of_decide_eq_true (by first|(with_reducible assumption)|assumption)
            have q102:x5_1 < (l1.length:Int):=of_decide_eq_true (by first|(with_reducible assumption)|assumption)
            obtain ⟨ad102,e102,hx102_0,hx102_1,hx102_2⟩:=at_T41 HR1.out x5_1 p102 q102
            cases e102
            replace p102:=eq_true p102
            replace q102:=eq_true q102
            have p103:0 ≤ (x5_1:Int):=of_decide_eq_true (by first|(with_reducible assumption)|assumption)
            have q103:x5_1 < (l0.length:Int):=of_decide_eq_true (by first|(with_reducible assumption)|assumption)
            obtain ⟨ad103,e103,hx103_0,hx103_1,hx103_2⟩:=at_T37 HR0.out x5_1 p103 q103
            obtain rfl:ad101 = ad103:=(by injection e103)
            replace p103:=eq_true p103
            replace q103:=eq_true q103
            have p104:0 ≤ (x5_1:Int):=of_decide_eq_true (by first|(with_reducible assumption)|assumption)
            have q104:x5_1 < (l1.length:Int):=of_decide_eq_true (by first|(with_reducible assumption)|assumption)
            obtain ⟨ad104,e104,hx104_0,hx104_1,hx104_2⟩:=at_T41 HR1.out x5_1 p104 q104
            obtain rfl:ad102 = ad104:=(by injection e104)
            replace p104:=eq_true p104
            replace q104:=eq_true q104
            have p105:0 ≤ (x5_1:Int):=of_decide_eq_true (by first|(with_reducible assumption)|assumption)
            have q105:x5_1 < (l0.length:Int):=of_decide_eq_true (by first|(with_reducible assumption)|assumption)
            obtain ⟨ad105,e105,hx105_0,hx105_1,hx105_2⟩:=at_T37 HR0.out x5_1 p105 q105
            obtain rfl:ad101 = ad105:=(by injection e105)
            replace p105:=eq_true p105
            replace q105:=eq_true q105
            have p106:0 ≤ (x5_1:Int):=of_decide_eq_true (by first|(with_reducible assumption)|assumption)
            have q106:x5_1 < (l1.length:Int):=of_decide_eq_true (by first|(with_reducible assumption)|assumption)
            obtain ⟨ad106,e106,hx106_0,hx106_1,hx106_2⟩:=at_T41 HR1.out x5_1 p106 q106
            obtain rfl:ad102 = ad106:=(by injection e106)
            replace p106:=eq_true p106
            replace q106:=eq_true q106
            go_wp2
            repeat (go_quiet (fail);try go_wp2)
            go_ret
            exact ⟨by first|rfl|(simp;done)|(simp [*];done),by repeat (first|exact Drawn0.refl _|apply Drawn0.step)⟩
          ·rw [if_neg c10] at H
           have c10b0:(((rd_T37 l0 x5_1).f1) == ((rd_T41 l1 x5_1).f1)) = false:=beq_eq_false_iff_ne.mpr c10
           have c10b1:(((rd_T37 l0 x5_1).f1) != ((rd_T41 l1 x5_1).f1)) = true:=bne_iff_ne.mpr c10
           obtain rfl:=Option.some.inj H
           have p101:0 ≤ (x5_1:Int):=of_decide_eq_true (by first|(with_reducible assumption)|assumption)
           have q101:x5_1 < (l0.length:Int):=of_decide_eq_true (by first|(with_reducible assumption)|assumption)
           obtain ⟨ad101,e101,hx101_0,hx101_1,hx101_2⟩:=at_T37 HR0.out x5_1 p101 q101
           cases e101
           replace p101:=eq_true p101
           replace q101:=eq_true q101
           have p102:0 ≤ (x5_1:Int):=of_decide_eq_true (by first|(with_reducible assumption)|assumption)
           have q102:x5_1 < (l1.length:Int):=of_decide_eq_true (by first|(with_reducible assumption)|assumption)
           obtain ⟨ad102,e102,hx102_0,hx102_1,hx102_2⟩:=at_T41 HR1.out x5_1 p102 q102
           cases e102
           replace p102:=eq_true p102
           replace q102:=eq_true q102
           have p103:0 ≤ (x5_1:Int):=of_decide_eq_true (by first|(with_reducible assumption)|assumption)
           have q103:x5_1 < (l0.length:Int):=of_decide_eq_true (by first|(with_reducible assumption)|assumption)
           obtain ⟨ad103,e103,hx103_0,hx103_1,hx103_2⟩:=at_T37 HR0.out x5_1 p103 q103
           obtain rfl:ad101 = ad103:=(by injection e103)
           replace p103:=eq_true p103
           replace q103:=eq_true q103
           have p104:0 ≤ (x5_1:Int):=of_decide_eq_true (by first|(with_reducible assumption)|assumption)
           have q104:x5_1 < (l1.length:Int):=of_decide_eq_true (by first|(with_reducible assumption)|assumption)
           obtain ⟨ad104,e104,hx104_0,hx104_1,hx104_2⟩:=at_T41 HR1.out x5_1 p104 q104
           obtain rfl:ad102 = ad104:=(by injection e104)
           replace p104:=eq_true p104
           replace q104:=eq_true q104
           go_wp2
           repeat (go_quiet (fail);try go_wp2)
           go_ret
           exact ⟨by first|rfl|(simp;done)|(simp [*];done),by repeat (first|exact Drawn0.refl _|apply Drawn0.step)⟩
         ·rw [if_neg c9] at H
          have c9b0:(((rd_T37 l0 x5_1).f0).toList == ((rd_T41 l1 x5_1).f0).toList) = false:=beq_eq_false_iff_ne.mpr c9
          have c9b1:(((rd_T37 l0 x5_1).f0).toList != ((rd_T41 l1 x5_1).f0).toList) = true:=bne_iff_ne.mpr c9
          obtain rfl:=Option.some.inj H
          have p101:0 ≤ (x5_1:Int):=of_decide_eq_true (by first|(with_reducible assumption)|assumption)
          have q101:x5_1 < (l0.length:Int):=of_decide_eq_true (by first|(with_reducible assumption)|assumption)
          obtain ⟨ad101,e101,hx101_0,hx101_1,hx101_2⟩:=at_T37 HR0.out x5_1 p101 q101
          cases e101
          replace p101:=eq_true p101
          replace q101:=eq_true q101
          have p102:0 ≤ (x5_1:Int):=of_decide_eq_true (by first|(with_reducible assumption)|assumption)
          have q102:x5_1 < (l1.length:Int):=of_decide_eq_true (by first|(with_reducible assumption)|assumption)
          obtain ⟨ad102,e102,hx102_0,hx102_1,hx102_2⟩:=at_T41 HR1.out x5_1 p102 q102
          cases e102
          replace p102:=eq_true p102
          replace q102:=eq_true q102
          go_wp2
          repeat (go_quiet (fail);try go_wp2)
          go_ret
          exact ⟨by first|rfl|(simp;done)|(simp [*];done),by repeat (first|exact Drawn0.refl _|apply Drawn0.step)⟩
        ·rw [if_neg c8] at H
         exact absurd H (by simp)
       ·rw [if_neg c7] at H
        exact absurd H (by simp)
      ·rw [if_neg c6] at H
       exact absurd H (by simp)
     ·replace c5:=Bool.eq_false_iff.mpr c5
      subst c5
      have H1:(some ((l0.length:Int) == (l1.length:Int))) = some r:=by rw [if_neg (show ¬ (false = true) by decide)] at H;exact H
      clear H
      have H:=H1
      clear H1
      obtain rfl:=Option.some.inj H
      go_wp2
      repeat (go_quiet (fail);try go_wp2)
      go_ret
      exact ⟨by first|rfl|(simp;done)|(simp [*];done),by repeat (first|exact Drawn0.refl _|apply Drawn0.step)⟩
end Go.Proofs.Ytgmelgkcoejknaa.X
end
section
namespace Go.Proofs.Ytgmelgkcoejknaa.P
set_option linter.unusedVariables false
set_option linter.unusedSimpArgs false
open Go.RowKit Go.Proofs.YtgmelgkcoejknaaW.PrintWords Go.Proofs.YtgmelgkcoejknaaW.PrintMore Go.Proofs.Ytgmelgkcoejknaa.X
abbrev RC:=S41
abbrev PC:=S37
def toC (c:RC):PC:=⟨c.f0,c.f1,c.f2⟩
theorem rdRC (l:List RC) (i:Nat) (h:i < l.length):rd_T41 l (i:Int) = l[i]:=by simp [rd_T41,h]
theorem rdPC (l:List PC) (i:Nat) (h:i < l.length):rd_T37 l (i:Int) = l[i]:=by simp [rd_T37,h]
theorem casesLoop (l:List RC) (hl:l.length ≤ 4398046511103):∀ (d i:Nat),i + d = l.length → Ev (fun k=>contangolaw41_Cases.l0 k l ((l.take i).map toC) i) (l.map toC)
 | 0,i,hd=>by
  refine Ev_succ ?_
  simp only [contangolaw41_Cases.l0,if_neg (show ¬ ((i:Int) < (l.length:Int)) by omega)]
  rw [List.take_of_length_le (by omega)]
  exact Ev.now _
 | d + 1,i,hd=>by
  have hi:i < l.length:=by omega
  have ih:=casesLoop l hl d (i + 1) (by omega)
  rw [List.take_succ_eq_append_getElem hi,List.map_append,List.map_cons,List.map_nil] at ih
  have hlen:((l.take i).map toC).length < 4398046511104:=by rw [List.length_map,List.length_take];omega
  refine Ev_succ ?_
  simp only [contangolaw41_Cases.l0,if_pos (show (i:Int) < (l.length:Int) by omega),if_pos (show 0 ≤ (i:Int) by omega),if_pos hlen,rdRC l i hi,w_succ hi (by omega)]
  exact ih
theorem cases_f (l:List RC) (hl:l.length ≤ 4398046511103):Ev (fun k=>contangolaw41_Cases.f k l) (l.map toC):=casesLoop l hl l.length 0 (by omega)
end Go.Proofs.Ytgmelgkcoejknaa.P
end
