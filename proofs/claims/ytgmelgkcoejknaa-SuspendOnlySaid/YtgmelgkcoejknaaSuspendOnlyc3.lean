/- For SuspendOnly: contracts, and facts on lists and numbers, that it uses (part 3). -/
import Derived.Test.YtgmelgkcoejknaaSuspendOnlyc2
section
namespace Go.Proofs.Ytgmelgkcoejknaa.P
set_option linter.unusedVariables false
set_option linter.unusedSimpArgs false
open Go.RowKit Go.Proofs.YtgmelgkcoejknaaW.PrintWords Go.Proofs.YtgmelgkcoejknaaW.PrintMore Go.Proofs.Ytgmelgkcoejknaa.X
def dayB (n:Int):Bool:=decide (0 ≤ n) && decide (n ≤ 73048)
theorem day_f (n:Int):suspend_day.f n = some (dayB n):=by
 unfold suspend_day.f dayB
 by_cases h:n ≥ 0
 ·rw [if_pos h,decide_eq_true (show 0 ≤ n from h),Bool.true_and]
 ·rw [if_neg h,decide_eq_false (show ¬ 0 ≤ n from h),Bool.false_and]
def behindN (prev:Option ByteArray) (n:ByteArray):Bool:=match prev with|some q=>!(Op.bytesLess q.toList n.toList)|none=>false
def restErr (c:PC):Int:=if c.f1 < 1 ∨ 7 < c.f1 then 13 else if dayB c.f2 = true then 0 else 15
def caseGo:Option ByteArray → List PC → Int
 | _,[]=>0
 | p,c :: t=>if nameB c.f0 = true then (if behindN p c.f0 = true then 12 else if restErr c = 0 then caseGo (some c.f0) t else restErr c) else 10
def caseCheck (l:List PC):Int:=if l.length > 32 then 8 else caseGo none l
def prevC (l:List PC) (i:Nat):Option ByteArray:=if i = 0 then none else (l[i - 1]?).map (·.f0)
theorem caseJ (l:List PC) (i:Nat) (b:Bool) (c:PC) (r:Int) (h:b = false → restErr c = 0 → Ev (fun k=>suspend_Check.l0 k l l l.length (wrap64 ((i:Int) + 1))) r) :
  Ev (fun k=>suspend_Check.j1 k l l l.length i b c.f0 c.f1 c.f2) (if b = true then 12 else if restErr c = 0 then r else restErr c):=by
 refine Ev_succ ?_
 cases b with
 | true=>simp only [suspend_Check.j1,if_true];exact Ev.now _
 | false =>
  simp only [suspend_Check.j1,Bool.false_eq_true,if_false]
  by_cases c1:c.f1 < 1
  ·have e:restErr c = 13:=by unfold restErr;rw [if_pos (Or.inl c1)]
   simp only [if_pos c1,e]
   refine Ev_succ ?_
   simp only [suspend_Check.j2,if_true]
   exact Ev.now _
  ·simp only [if_neg c1]
   refine Ev_succ ?_
   by_cases c2:c.f1 > 7
   ·have e:restErr c = 13:=by unfold restErr;rw [if_pos (Or.inr c2)]
    simp only [suspend_Check.j2,decide_eq_true c2,if_true,e]
    exact Ev.now _
   ·have e:restErr c = if dayB c.f2 = true then 0 else 15:=by unfold restErr;rw [if_neg (by omega)]
    simp only [suspend_Check.j2,decide_eq_false c2,Bool.false_eq_true,if_false,day_f,Option.bind_some,e]
    by_cases c3:dayB c.f2 = true
    ·simp only [if_pos c3,if_true]
     exact h rfl (by rw [e,if_pos c3])
    ·simp only [if_neg c3]
     exact Ev.now _
theorem caseLoop (l:List PC) (hl:l.length ≤ 4611686018427387904):∀ (d i:Nat),i + d = l.length → Ev (fun k=>suspend_Check.l0 k l l l.length i) (caseGo (prevC l i) (l.drop i))
 | 0,i,hd=>by
  refine Ev_succ ?_
  simp only [suspend_Check.l0,if_neg (show ¬ ((i:Int) < (l.length:Int)) by omega)]
  rw [List.drop_of_length_le (by omega)]
  exact Ev.now _
 | d + 1,i,hd=>by
  have hi:i < l.length:=by omega
  have ih:=caseLoop l hl d (i + 1) (by omega)
  rw [← w_succ hi (by omega)] at ih
  have hprev:prevC l (i + 1) = some l[i].f0:=by simp [prevC,hi]
  rw [hprev] at ih
  rw [drop_cons l i hi]
  refine Ev_succ ?_
  simp only [suspend_Check.l0,if_pos (show (i:Int) < (l.length:Int) by omega),if_pos (show 0 ≤ (i:Int) by omega),rdPC l i hi]
  refine Ev_bind (name_f _) ?_
  simp only [caseGo]
  by_cases hn:nameB l[i].f0 = true
  ·simp only [if_pos hn]
   by_cases h0:i = 0
   ·subst h0
    simp only [if_neg (show ¬ (((0:Nat):Int) > 0) by omega)]
    exact caseJ l 0 false l[0] _ (fun _ _=>ih)
   ·have hp:=w_pred (show 0 < i by omega) (by omega)
    simp only [if_pos (show ((i:Int) > 0) by omega),hp,if_pos (show 0 ≤ ((i - 1:Nat):Int) by omega),if_pos (show ((i - 1:Nat):Int) < (l.length:Int) by omega),rdPC l (i - 1) (by omega)]
    have hb:behindN (prevC l i) l[i].f0 = !(Op.bytesLess l[i - 1].f0.toList l[i].f0.toList):=by
     simp [behindN,prevC,h0,show i - 1 < l.length by omega]
    rw [hb]
    exact caseJ l i _ l[i] _ (fun _ _=>ih)
  ·simp only [if_neg hn]
   exact Ev.now _
theorem caseCheck_f (l:List PC) (hl:l.length ≤ 4611686018427387904):Ev (fun k=>suspend_Check.f k l) (caseCheck l):=by
 unfold suspend_Check.f caseCheck
 by_cases h:l.length > 32
 ·simp only [if_pos (show (l.length:Int) > 32 by omega),if_pos h]
  exact Ev.now _
 ·simp only [if_neg (show ¬ ((l.length:Int) > 32) by omega),if_neg h]
  exact caseLoop l hl l.length 0 (by omega)
end Go.Proofs.Ytgmelgkcoejknaa.P
end
section
namespace Go.Proofs.Ytgmelgkcoejknaa.X
open Go.RowKit Go.Proofs.YtgmelgkcoejknaaW.PrintWords Go.Proofs.YtgmelgkcoejknaaW.PrintLast Go.Proofs.YtgmelgkcoejknaaW.PrintMore
attribute [local go_sem] max2_int min2_int max_two min_two max_three min_three max_four min_four
set_option linter.unusedVariables false
set_option linter.unusedSimpArgs false
def contangoref41_Of.l0:Nat → List (S41) → ByteArray → Int → Option (ByteArray × Int × Int × Bool)
 | 0,_,_,_=>none
 | k + 1,x0,x1,x6=>if x6 < (x0.length:Int) then (if 0 ≤ x6 then (if ((rd_T41 x0 x6).f0).toList = x1.toList then (some ((rd_T41 x0 x6).f0,(rd_T41 x0 x6).f1,(rd_T41 x0 x6).f2,true)) else (contangoref41_Of.l0 k x0 x1 (wrap64 (x6 + 1)))) else (none)) else (some ((⟨#[]⟩:ByteArray),0,0,false))
def contangoref41_Of.f (k:Nat) (l0:List (S41)) (a1:ByteArray):Option (ByteArray × Int × Int × Bool):=contangoref41_Of.l0 k l0 a1 0
theorem contangoref41_Of.mono_l:∀ k,(∀ y0 y1 y2,LeO (contangoref41_Of.l0 k y0 y1 y2) (contangoref41_Of.l0 (k + 1) y0 y1 y2))
 | 0=>fun _ _ _ r h=>by simp [contangoref41_Of.l0] at h
 | k + 1=>by
  have ih0:=contangoref41_Of.mono_l k
  ·intro y0 y1 y2
   unfold contangoref41_Of.l0
   repeat' first
   | (with_reducible exact ih0 _ _ _)
   | (with_reducible exact LeO.refl _)
   | (with_reducible exact LeO.none _)
   | (with_reducible refine LeO.ite ?_ ?_)
   | (with_reducible refine LeO.bind ?_ (fun _=>?_))
   | exact ih0 _ _ _
   | exact LeO.none _
   | refine LeO.ite ?_ ?_
   | refine LeO.bind ?_ (fun _=>?_)
theorem contangoref41_Of.mono:∀ a0 a1 k,LeO (contangoref41_Of.f k a0 a1) (contangoref41_Of.f (k + 1) a0 a1):=by
 intro a0 a1 k
 have ih0:=contangoref41_Of.mono_l k
 unfold contangoref41_Of.f
 repeat' first
   | (with_reducible exact ih0 _ _ _)
   | (with_reducible exact LeO.refl _)
   | (with_reducible exact LeO.none _)
   | (with_reducible refine LeO.ite ?_ ?_)
   | (with_reducible refine LeO.bind ?_ (fun _=>?_))
   | exact ih0 _ _ _
   | exact LeO.none _
   | refine LeO.ite ?_ ?_
   | refine LeO.bind ?_ (fun _=>?_)
set_option maxHeartbeats 8000000 in
set_option maxRecDepth 100000 in
theorem contangoref41_Of.calls (k:Nat) (A0:Option Addr) (c0:Nat) (l0:List (S41)) (a1:ByteArray) (r1:ByteArray) (r2:Int) (r3:Int) (r4:Bool) (w:World) (hr0:Kd.C k41 w A0 l0.length l0) (hc0:l0.length ≤ c0) (h:contangoref41_Of.f k l0 a1 = some (r1,r2,r3,r4)) :
  Calls Try.prog 18 #[.slice A0 l0.length c0,.string a1] w fun e w'=>e = .returned (.tuple #[.agg #[.string r1,.int .i64 r2,.int .i64 r3],.bool r4]) ∧ Below w.heap.size w w':=by
 have hu41:=Try.underlying41
 have HR0:=Aside0.mk hr0
 have HC0:=Aside0.mk hc0
 clear hr0 hc0
 have HB:=Aside0.mk (Below.refl w.heap.size w)
 have H:(contangoref41_Of.l0 k l0 a1 0) = some (r1,r2,r3,r4):=h
 clear h
 have H':=Aside0.mk H
 clear H
 go_enter Try.func18,Try.ntmps18
 go_wp2_with (first|((with_reducible refine gate_dst (N:=4) rfl ?_);refine box_event ?hg (N:=4) ?hd (cs:=#[.string (⟨#[]⟩:ByteArray),.int .i64 0,.int .i64 0]) (t:=41) ?hr ?_;(case hd=>rfl);(case hg=>rfl);(case hr=>first|(go_simp;done)|(go_simp;rfl));intro gb101 hg w3 hbox hb;have n0_:=Aside0.mk (below_step (by repeat (first|(with_reducible first|exact HB.out|apply below_alloc|apply pw_below_drewN|apply below_drew1)|exact HB.out)) hb);have n1_:=Aside0.mk (hbox);have n2_:=Aside0.mk ((by rw [hg];exact (below_size (by repeat (first|(with_reducible first|exact HB.out|apply below_alloc|apply pw_below_drewN|apply below_drew1)|exact HB.out))):w.heap.size ≤ gb101));have n3_:=Aside0.mk ((by rw [hg];exact (below_size (by repeat (first|(with_reducible first|exact HB.out|apply below_alloc|apply pw_below_drewN|apply below_drew1)|exact HB.out))):w.heap.size ≤ gb101));clear HB;have HB:=n0_;have BK101:=n1_;have GW101:=n2_;have GE101:=n3_;clear n0_ n1_ n2_ n3_;clear hb hbox hg))
 go_loopg [6] k (fun kq v6 w'=>∃ (x6_1:Int) (x102000_1:ByteArray) (x102001_1:Int) (x102002_1:Int),v6 = .int .i64 x6_1 ∧ Aside0 (contangoref41_Of.l0 kq l0 a1 x6_1 = some (r1,r2,r3,r4)) ∧ Aside0 (kq ≤ k) ∧ Aside0 (w'.heap[gb101]? = some (.cells #[.string x102000_1,.int .i64 x102001_1,.int .i64 x102002_1] 41 (0,0))) ∧ Aside0 (Below w.heap.size w w'))
 case atStart=>exact ⟨(0),((⟨#[]⟩:ByteArray)),(0),(0),(by first|rfl|(simp;done)|(simp [*];done)),H',⟨Nat.le_refl _⟩,⟨by (with_reducible repeat (first|refine blk_drewN ?_ _|refine blk_drew ?_|refine blk_alloc ?_ _));exact BK101.out⟩,⟨by repeat (first|(with_reducible first|exact HB.out|apply below_alloc|apply pw_below_drewN|apply below_drew1|refine below_set ?_ GE101.out)|exact HB.out)⟩⟩
 case round =>
  clear H'
  try clear c1
  try clear p2
  obtain ⟨x6_1,x102000_1,x102001_1,x102002_1,rfl,HA,HK1,BK101,HB⟩:=hrel
  cases gk with
  | zero=>exact absurd HA.out (by simp [contangoref41_Of.l0])
  | succ k1 =>
   have H:=HA.out
   clear HA
   simp only [contangoref41_Of.l0] at H
   by_cases c4:x6_1 < (l0.length:Int)
   ·rw [if_pos c4] at H
    have c4b0:decide (x6_1 < (l0.length:Int)) = true:=decide_eq_true c4
    clear c4
    by_cases c5:0 ≤ x6_1
    ·rw [if_pos c5] at H
     have c5b0:decide (0 ≤ x6_1) = true:=decide_eq_true c5
     clear c5
     by_cases c6:((rd_T41 l0 x6_1).f0).toList = a1.toList
     ·rw [if_pos c6] at H
      have c6b0:(((rd_T41 l0 x6_1).f0).toList == a1.toList) = true:=beq_iff_eq.mpr c6
      have c6b1:(((rd_T41 l0 x6_1).f0).toList != a1.toList) = false:=bne_eq_false_iff_eq.mpr c6
      clear c6
      simp only [Option.some.injEq,Prod.mk.injEq] at H
      obtain ⟨rfl,rfl,rfl,rfl⟩:=H
      have p102:0 ≤ (x6_1:Int):=of_decide_eq_true (by first|(with_reducible assumption)|assumption)
      have q102:x6_1 < (l0.length:Int):=of_decide_eq_true (by first|(with_reducible assumption)|assumption)
      obtain ⟨ad102,e102,hx102_0,hx102_1,hx102_2⟩:=at_T41 HR0.out x6_1 p102 q102
      cases e102
      replace hx102_0:=(HB.out.cell (World.block_lt_of_cell? w _ hx102_0)).trans hx102_0
      replace hx102_1:=(HB.out.cell (World.block_lt_of_cell? w _ hx102_1)).trans hx102_1
      replace hx102_2:=(HB.out.cell (World.block_lt_of_cell? w _ hx102_2)).trans hx102_2
      replace p102:=eq_true p102
      replace q102:=eq_true q102
      have p103:0 ≤ (x6_1:Int):=of_decide_eq_true (by first|(with_reducible assumption)|assumption)
      have q103:x6_1 < (l0.length:Int):=of_decide_eq_true (by first|(with_reducible assumption)|assumption)
      obtain ⟨ad103,e103,hx103_0,hx103_1,hx103_2⟩:=at_T41 HR0.out x6_1 p103 q103
      obtain rfl:ad102 = ad103:=(by injection e103)
      replace hx103_0:=(HB.out.cell (World.block_lt_of_cell? w _ hx103_0)).trans hx103_0
      replace hx103_1:=(HB.out.cell (World.block_lt_of_cell? w _ hx103_1)).trans hx103_1
      replace hx103_2:=(HB.out.cell (World.block_lt_of_cell? w _ hx103_2)).trans hx103_2
      replace p103:=eq_true p103
      replace q103:=eq_true q103
      have hcz7_0:wr.cell? ⟨gb101,0,none⟩ = some (.string x102000_1):=(blk_cell BK101.out 0).trans rfl
      have hcz7_1:wr.cell? ⟨gb101,1,none⟩ = some (.int .i64 x102001_1):=(blk_cell BK101.out 1).trans rfl
      have hcz7_2:wr.cell? ⟨gb101,2,none⟩ = some (.int .i64 x102002_1):=(blk_cell BK101.out 2).trans rfl
      have hfz7_0:=blk_frozen BK101.out 0
      have hfz7_1:=blk_frozen BK101.out 1
      have hfz7_2:=blk_frozen BK101.out 2
      go_wp2
      refine bodyPost_ret (results_ct rfl _ _ gb101 41 #[.string ((rd_T41 l0 x6_1).f0),.int .i64 ((rd_T41 l0 x6_1).f1),.int .i64 ((rd_T41 l0 x6_1).f2)] (0,0) _ rfl (by (with_reducible repeat (first|refine blk_drewN ?_ _|refine blk_drew ?_|refine blk_alloc ?_ _));refine blk_put (cs:=#[.string ((rd_T41 l0 x6_1).f0),.int .i64 ((rd_T41 l0 x6_1).f1),.int .i64 x102002_1]) ?_ 2 _ rfl;(with_reducible repeat (first|refine blk_drewN ?_ _|refine blk_drew ?_|refine blk_alloc ?_ _));refine blk_put (cs:=#[.string ((rd_T41 l0 x6_1).f0),.int .i64 x102001_1,.int .i64 x102002_1]) ?_ 1 _ rfl;(with_reducible repeat (first|refine blk_drewN ?_ _|refine blk_drew ?_|refine blk_alloc ?_ _));refine blk_put (cs:=#[.string x102000_1,.int .i64 x102001_1,.int .i64 x102002_1]) ?_ 0 _ rfl;(with_reducible repeat (first|refine blk_drewN ?_ _|refine blk_drew ?_|refine blk_alloc ?_ _));exact BK101.out) Try.underlying41 rfl (by kernel_rfl)) rfl ?_
      exact ⟨by first|rfl|(simp [errW_none,errW_some] <;> rfl)|(simp [*,errW_none,errW_some] <;> rfl),by repeat (first|(with_reducible first|exact HB.out|apply below_alloc|apply pw_below_drewN|apply below_drew1|refine below_set ?_ GE101.out)|exact HB.out)⟩
     ·rw [if_neg c6] at H
      have c6b0:(((rd_T41 l0 x6_1).f0).toList == a1.toList) = false:=beq_eq_false_iff_ne.mpr c6
      have c6b1:(((rd_T41 l0 x6_1).f0).toList != a1.toList) = true:=bne_iff_ne.mpr c6
      have H':=Aside0.mk H
      clear H
      have p102:0 ≤ (x6_1:Int):=of_decide_eq_true (by first|(with_reducible assumption)|assumption)
      have q102:x6_1 < (l0.length:Int):=of_decide_eq_true (by first|(with_reducible assumption)|assumption)
      obtain ⟨ad102,e102,hx102_0,hx102_1,hx102_2⟩:=at_T41 HR0.out x6_1 p102 q102
      cases e102
      replace hx102_0:=(HB.out.cell (World.block_lt_of_cell? w _ hx102_0)).trans hx102_0
      replace hx102_1:=(HB.out.cell (World.block_lt_of_cell? w _ hx102_1)).trans hx102_1
      replace hx102_2:=(HB.out.cell (World.block_lt_of_cell? w _ hx102_2)).trans hx102_2
      replace p102:=eq_true p102
      replace q102:=eq_true q102
      go_wp2
      go_roundg k1
      case measure=>have:=HK1.out;omega
      case rel=>exact ⟨(wrap64 (x6_1 + 1)),(x102000_1),(x102001_1),(x102002_1),(by first|rfl|(simp;done)|(simp [*];done)),H',⟨by have:=HK1.out;omega⟩,⟨by (with_reducible repeat (first|refine blk_drewN ?_ _|refine blk_drew ?_|refine blk_alloc ?_ _));exact BK101.out⟩,⟨by repeat (first|(with_reducible first|exact HB.out|apply below_alloc|apply pw_below_drewN|apply below_drew1|refine below_set ?_ GE101.out)|exact HB.out)⟩⟩
    ·rw [if_neg c5] at H
     exact absurd H (by simp)
   ·rw [if_neg c4] at H
    have c4b0:decide (x6_1 < (l0.length:Int)) = false:=decide_eq_false c4
    clear c4
    simp only [Option.some.injEq,Prod.mk.injEq] at H
    obtain ⟨rfl,rfl,rfl,rfl⟩:=H
    have hcz8_0:wr.cell? ⟨gb101,0,none⟩ = some (.string x102000_1):=(blk_cell BK101.out 0).trans rfl
    have hcz8_1:wr.cell? ⟨gb101,1,none⟩ = some (.int .i64 x102001_1):=(blk_cell BK101.out 1).trans rfl
    have hcz8_2:wr.cell? ⟨gb101,2,none⟩ = some (.int .i64 x102002_1):=(blk_cell BK101.out 2).trans rfl
    have hfz8_0:=blk_frozen BK101.out 0
    have hfz8_1:=blk_frozen BK101.out 1
    have hfz8_2:=blk_frozen BK101.out 2
    go_wp2
    refine bodyPost_ret (results_ct rfl _ _ gb101 41 #[.string (⟨#[]⟩:ByteArray),.int .i64 0,.int .i64 0] (0,0) _ rfl (by (with_reducible repeat (first|refine blk_drewN ?_ _|refine blk_drew ?_|refine blk_alloc ?_ _));refine blk_put (cs:=#[.string (⟨#[]⟩:ByteArray),.int .i64 0,.int .i64 x102002_1]) ?_ 2 _ rfl;(with_reducible repeat (first|refine blk_drewN ?_ _|refine blk_drew ?_|refine blk_alloc ?_ _));refine blk_put (cs:=#[.string (⟨#[]⟩:ByteArray),.int .i64 x102001_1,.int .i64 x102002_1]) ?_ 1 _ rfl;(with_reducible repeat (first|refine blk_drewN ?_ _|refine blk_drew ?_|refine blk_alloc ?_ _));refine blk_put (cs:=#[.string x102000_1,.int .i64 x102001_1,.int .i64 x102002_1]) ?_ 0 _ rfl;(with_reducible repeat (first|refine blk_drewN ?_ _|refine blk_drew ?_|refine blk_alloc ?_ _));exact BK101.out) Try.underlying41 rfl (by kernel_rfl)) rfl ?_
    exact ⟨by first|rfl|(simp [errW_none,errW_some] <;> rfl)|(simp [*,errW_none,errW_some] <;> rfl),by repeat (first|(with_reducible first|exact HB.out|apply below_alloc|apply pw_below_drewN|apply below_drew1|refine below_set ?_ GE101.out)|exact HB.out)⟩
end Go.Proofs.Ytgmelgkcoejknaa.X
end
section
namespace Go.Proofs.Ytgmelgkcoejknaa.P
set_option linter.unusedVariables false
set_option linter.unusedSimpArgs false
open Go.RowKit Go.Proofs.YtgmelgkcoejknaaW.PrintWords Go.Proofs.YtgmelgkcoejknaaW.PrintMore Go.Proofs.Ytgmelgkcoejknaa.X
def ofR (m:ByteArray):List RC → ByteArray × Int × Int × Bool
 | []=>(⟨#[]⟩,0,0,false)
 | c :: t=>if c.f0.toList = m.toList then (c.f0,c.f1,c.f2,true) else ofR m t
end Go.Proofs.Ytgmelgkcoejknaa.P
end
section
namespace Go.Proofs.Ytgmelgkcoejknaa.P
set_option linter.unusedVariables false
set_option linter.unusedSimpArgs false
open Go.RowKit Go.Proofs.YtgmelgkcoejknaaW.PrintWords Go.Proofs.YtgmelgkcoejknaaW.PrintMore Go.Proofs.Ytgmelgkcoejknaa.X
def LtC (a b:PC):Prop:=Op.bytesLess a.f0.toList b.f0.toList = true
theorem caseGo_cons {p:Option ByteArray} {c:PC} {t:List PC} (h:caseGo p (c :: t) = 0):nameB c.f0 = true ∧ behindN p c.f0 = false ∧ restErr c = 0 ∧ caseGo (some c.f0) t = 0:=by
 unfold caseGo at h
 by_cases h1:nameB c.f0 = true
 ·rw [if_pos h1] at h
  by_cases h2:behindN p c.f0 = true
  ·rw [if_pos h2] at h;exact absurd h (by decide)
  ·rw [if_neg h2] at h
   by_cases h3:restErr c = 0
   ·rw [if_pos h3] at h;exact ⟨h1,by simpa using h2,h3,h⟩
   ·rw [if_neg h3] at h;exact absurd h h3
 ·rw [if_neg h1] at h;exact absurd h (by decide)
theorem caseGo_sorted:∀ (l:List PC) (p:Option ByteArray),caseGo p l = 0 → l.Pairwise LtC ∧ (∀ q,p = some q → ∀ c ∈ l,Op.bytesLess q.toList c.f0.toList = true)
 | [],p,h=>⟨List.Pairwise.nil,fun q _ c hc=>by simp at hc⟩
 | c :: t,p,h=>by
  obtain ⟨_,h2,_,h4⟩:=caseGo_cons h
  obtain ⟨i1,i2⟩:=caseGo_sorted t _ h4
  refine ⟨List.Pairwise.cons (fun d hd=>i2 c.f0 rfl d hd) i1,?_⟩
  rintro q rfl d hd
  have hq:Op.bytesLess q.toList c.f0.toList = true:=by simpa [behindN] using h2
  rcases List.mem_cons.1 hd with rfl|hd
  ·exact hq
  ·exact bl_trans _ _ _ hq (i2 c.f0 rfl d hd)
theorem caseGo_all:∀ (l:List PC) (p:Option ByteArray),caseGo p l = 0 → ∀ c ∈ l,nameB c.f0 = true ∧ restErr c = 0
 | [],p,h,c,hc=>by simp at hc
 | d :: t,p,h,c,hc=>by
  obtain ⟨h1,h2,h3,h4⟩:=caseGo_cons h
  rcases List.mem_cons.1 hc with rfl|hc
  ·exact ⟨h1,h3⟩
  ·exact caseGo_all t _ h4 c hc
theorem caseCheck_len {l:List PC} (h:caseCheck l = 0):l.length ≤ 32 ∧ caseGo none l = 0:=by
 unfold caseCheck at h
 by_cases c:l.length > 32
 ·rw [if_pos c] at h;exact absurd h (by decide)
 ·rw [if_neg c] at h;exact ⟨by omega,h⟩
theorem caseCheck_sorted {l:List PC} (h:caseCheck l = 0):l.Pairwise LtC:=(caseGo_sorted l none (caseCheck_len h).2).1
theorem sorted_lt {l:List PC} (h:l.Pairwise LtC) {i j:Nat} (hi:i < j) (hj:j < l.length):Op.bytesLess (l[i]'(by omega)).f0.toList l[j].f0.toList = true :=
 (List.pairwise_iff_getElem.1 h) i j (by omega) hj hi
theorem cmpN_lt (a b:ByteArray):cmpN a b < 0 ↔ Op.bytesLess a.toList b.toList = true:=cb_lt a b
theorem cmpN_eq (a b:ByteArray):cmpN a b = 0 ↔ a.toList = b.toList:=cb_eq a b
theorem bsAt_spec (l:List PC) (m:ByteArray) (hs:l.Pairwise LtC):∀ (k lo hi:Nat),lo ≤ hi → hi ≤ l.length → hi - lo ≤ k →
  (∀ i (h:i < l.length),i < lo → Op.bytesLess l[i].f0.toList m.toList = true) → (∀ i (h:i < l.length),hi ≤ i → Op.bytesLess l[i].f0.toList m.toList = false) →
  (∀ i (h:i < l.length),i < bsAt l m k lo hi → Op.bytesLess l[i].f0.toList m.toList = true) ∧ (∀ i (h:i < l.length),bsAt l m k lo hi ≤ i → Op.bytesLess l[i].f0.toList m.toList = false)
 | 0,lo,hi,h1,h2,h3,a,b=>by
  unfold bsAt
  exact ⟨a,fun i h hl=>b i h (by omega)⟩
 | k + 1,lo,hi,h1,h2,h3,a,b=>by
  unfold bsAt
  by_cases c:lo < hi
  ·have hm:(lo + hi) / 2 < l.length:=by omega
   rw [if_pos c,rdPC l _ hm]
   by_cases c2:cmpN l[(lo + hi) / 2].f0 m < 0
   ·rw [if_pos c2]
    have h':=(cmpN_lt _ _).1 c2
    refine bsAt_spec l m hs k _ _ (by omega) h2 (by omega) (fun i h hl=>?_) b
    by_cases e:i = (lo + hi) / 2
    ·subst e;exact h'
    ·exact bl_trans _ _ _ (sorted_lt hs (show i < (lo + hi) / 2 by omega) hm) h'
   ·rw [if_neg c2]
    have h':Op.bytesLess l[(lo + hi) / 2].f0.toList m.toList = false:=by
     rw [← Bool.not_eq_true];exact fun e=>c2 ((cmpN_lt _ _).2 e)
    refine bsAt_spec l m hs k _ _ (by omega) (by omega) (by omega) a (fun i h hl=>?_)
    by_cases e:i = (lo + hi) / 2
    ·subst e;exact h'
    ·rw [← Bool.not_eq_true]
     intro e2
     rw [bl_trans _ _ _ (sorted_lt hs (show (lo + hi) / 2 < i by omega) h) e2] at h'
     cases h'
  ·rw [if_neg c]
   exact ⟨a,fun i h hl=>b i h (by omega)⟩
theorem placeAt_spec (l:List PC) (m:ByteArray) (hs:l.Pairwise LtC) :
  (∀ i (h:i < l.length),i < placeAt l m → Op.bytesLess l[i].f0.toList m.toList = true) ∧ (∀ i (h:i < l.length),placeAt l m ≤ i → Op.bytesLess l[i].f0.toList m.toList = false) :=
 bsAt_spec l m hs l.length 0 l.length (Nat.zero_le _) (Nat.le_refl _) (by omega) (fun i h hl=>by omega) (fun i h hl=>by omega)
theorem placeIs_iff (l:List PC) (m:ByteArray):placeIs l m = true ↔ ∃ h:placeAt l m < l.length,l[placeAt l m].f0.toList = m.toList:=by
 unfold placeIs
 constructor
 ·intro h
  rw [Bool.and_eq_true,decide_eq_true_eq,beq_iff_eq] at h
  obtain ⟨h1,h2⟩:=h
  rw [rdPC l _ h1,cmpN_eq] at h2
  exact ⟨h1,h2⟩
 ·rintro ⟨h1,h2⟩
  rw [Bool.and_eq_true,decide_eq_true_eq,beq_iff_eq,rdPC l _ h1,cmpN_eq]
  exact ⟨h1,h2⟩
theorem place_of {l:List PC} {m:ByteArray} (hs:l.Pairwise LtC) {i:Nat} (h:i < l.length) (e:l[i].f0.toList = m.toList):placeAt l m = i:=by
 obtain ⟨s1,s2⟩:=placeAt_spec l m hs
 rcases Nat.lt_trichotomy (placeAt l m) i with c|c|c
 ·exfalso
  have:=s2 (placeAt l m) (by omega) (Nat.le_refl _)
  rw [← e,sorted_lt hs c h] at this
  cases this
 ·exact c
 ·exfalso
  have:=s1 i h c
  rw [e,bl_self] at this
  cases this
theorem ofR_some:∀ (l:List RC) (m:ByteArray) (p:Nat) (hp:p < l.length),(∀ i (h:i < l.length),i < p → l[i].f0.toList ≠ m.toList) → l[p].f0.toList = m.toList → ofR m l = (l[p].f0,l[p].f1,l[p].f2,true)
 | [],m,p,hp,_,_=>by simp at hp
 | c :: t,m,0,hp,_,e=>by
  unfold ofR
  rw [if_pos (show c.f0.toList = m.toList from e)]
  rfl
 | c :: t,m,p + 1,hp,h,e=>by
  unfold ofR
  rw [if_neg (show ¬ c.f0.toList = m.toList from h 0 (by simp) (by omega))]
  exact ofR_some t m p (by simpa using hp) (fun i hi hl=>h (i + 1) (by simpa using hi) (by omega)) e
end Go.Proofs.Ytgmelgkcoejknaa.P
end
section
namespace Go.Proofs.Ytgmelgkcoejknaa.X
open Go.RowKit Go.Proofs.YtgmelgkcoejknaaW.PrintWords Go.Proofs.YtgmelgkcoejknaaW.PrintLast Go.Proofs.YtgmelgkcoejknaaW.PrintMore
attribute [local go_sem] max2_int min2_int max_two min_two max_three min_three max_four min_four
set_option linter.unusedVariables false
set_option linter.unusedSimpArgs false
mutual
def contangoref41_Step.j0:Nat → List (S41) → ByteArray → Int → Bool → ByteArray → Int → Int → Option ((List (S41)) × Int)
 | 0,_,_,_,_,_,_,_=>none
 | k + 1,x0,x1,x2,x35,x107000,x107001,x107002=>if x35 = true then (some (([]:List (S41)),13)) else (contangoref41_Step.l0 k x0 x1 x2 (wrap64 (x107001 + 1)))
def contangoref41_Step.l0:Nat → List (S41) → ByteArray → Int → Int → Option ((List (S41)) × Int)
 | 0,_,_,_,_=>none
 | k + 1,x0,x1,x2,x11=>if x11 < x2 then (if x11 = 2 then (some (([]:List (S41)),13)) else (if x11 = 5 then (some (([]:List (S41)),13)) else (if x11 = 6 then (some (([]:List (S41)),13)) else (contangoref41_Step.l0 k x0 x1 x2 (wrap64 (x11 + 1)))))) else (contangoref41_Step.l1 k x0 x1 x2 ([]:List (S41)) 0)
def contangoref41_Step.l1:Nat → List (S41) → ByteArray → Int → List (S41) → Int → Option ((List (S41)) × Int)
 | 0,_,_,_,_,_=>none
 | k + 1,x0,x1,x2,x12,x13=>if x13 < (x0.length:Int) then (if 0 ≤ x13 then (if ((rd_T41 x0 x13).f0).toList = x1.toList then (if x12.length < 4398046511104 then (contangoref41_Step.l1 k x0 x1 x2 (x12 ++ [(⟨(rd_T41 x0 x13).f0,x2,(rd_T41 x0 x13).f2⟩:S41)]) (wrap64 (x13 + 1))) else (none)) else (if x12.length < 4398046511104 then (contangoref41_Step.l1 k x0 x1 x2 (x12 ++ [(⟨(rd_T41 x0 x13).f0,(rd_T41 x0 x13).f1,(rd_T41 x0 x13).f2⟩:S41)]) (wrap64 (x13 + 1))) else (none))) else (none)) else (some (x12,0))
end
def contangoref41_Step.f (k:Nat) (l0:List (S41)) (a1:ByteArray) (a2:Int):Option ((List (S41)) × Int):=(contangoref41_Check.f k l0).bind fun t101=>(if t101 = 0 then ((contangoref41_Of.f k l0 a1).bind fun bt102=>(if bt102.2.2.2 = true then (if a2 ≤ bt102.2.1 then (contangoref41_Step.j0 k l0 a1 a2 true bt102.1 bt102.2.1 bt102.2.2.1) else (contangoref41_Step.j0 k l0 a1 a2 (decide (a2 > 7)) bt102.1 bt102.2.1 bt102.2.2.1)) else (some (([]:List (S41)),11)))) else (some (([]:List (S41)),t101)))
theorem contangoref41_Step.mono_l:∀ k,(∀ y0 y1 y2 y3 y4 y5 y6,LeO (contangoref41_Step.j0 k y0 y1 y2 y3 y4 y5 y6) (contangoref41_Step.j0 (k + 1) y0 y1 y2 y3 y4 y5 y6)) ∧ (∀ y0 y1 y2 y3,LeO (contangoref41_Step.l0 k y0 y1 y2 y3) (contangoref41_Step.l0 (k + 1) y0 y1 y2 y3)) ∧ (∀ y0 y1 y2 y3 y4,LeO (contangoref41_Step.l1 k y0 y1 y2 y3 y4) (contangoref41_Step.l1 (k + 1) y0 y1 y2 y3 y4))
 | 0=>⟨fun _ _ _ _ _ _ _ r h=>by simp [contangoref41_Step.j0] at h,fun _ _ _ _ r h=>by simp [contangoref41_Step.l0] at h,fun _ _ _ _ _ r h=>by simp [contangoref41_Step.l1] at h⟩
 | k + 1=>by
  obtain ⟨ih0,ih1,ih2⟩:=contangoref41_Step.mono_l k
  refine ⟨?_,?_,?_⟩
  ·intro y0 y1 y2 y3 y4 y5 y6
   unfold contangoref41_Step.j0
   repeat' first
   | (with_reducible exact ih0 _ _ _ _ _ _ _)
   | (with_reducible exact ih1 _ _ _ _)
   | (with_reducible exact ih2 _ _ _ _ _)
   | (with_reducible exact contangoref41_Check.mono _ _)
   | (with_reducible exact contangoref41_Of.mono _ _ _)
   | (with_reducible exact LeO.refl _)
   | (with_reducible exact LeO.none _)
   | (with_reducible refine LeO.ite ?_ ?_)
   | (with_reducible refine LeO.bind ?_ (fun _=>?_))
   | exact ih0 _ _ _ _ _ _ _
   | exact ih1 _ _ _ _
   | exact ih2 _ _ _ _ _
   | exact contangoref41_Check.mono _ _
   | exact contangoref41_Of.mono _ _ _
   | exact LeO.none _
   | refine LeO.ite ?_ ?_
   | refine LeO.bind ?_ (fun _=>?_)
  ·intro y0 y1 y2 y3
   unfold contangoref41_Step.l0
   repeat' first
   | (with_reducible exact ih0 _ _ _ _ _ _ _)
   | (with_reducible exact ih1 _ _ _ _)
   | (with_reducible exact ih2 _ _ _ _ _)
   | (with_reducible exact contangoref41_Check.mono _ _)
   | (with_reducible exact contangoref41_Of.mono _ _ _)
   | (with_reducible exact LeO.refl _)
   | (with_reducible exact LeO.none _)
   | (with_reducible refine LeO.ite ?_ ?_)
   | (with_reducible refine LeO.bind ?_ (fun _=>?_))
   | exact ih0 _ _ _ _ _ _ _
   | exact ih1 _ _ _ _
   | exact ih2 _ _ _ _ _
   | exact contangoref41_Check.mono _ _
   | exact contangoref41_Of.mono _ _ _
   | exact LeO.none _
   | refine LeO.ite ?_ ?_
   | refine LeO.bind ?_ (fun _=>?_)
  ·intro y0 y1 y2 y3 y4
   unfold contangoref41_Step.l1
   repeat' first
   | (with_reducible exact ih0 _ _ _ _ _ _ _)
   | (with_reducible exact ih1 _ _ _ _)
   | (with_reducible exact ih2 _ _ _ _ _)
   | (with_reducible exact contangoref41_Check.mono _ _)
   | (with_reducible exact contangoref41_Of.mono _ _ _)
   | (with_reducible exact LeO.refl _)
   | (with_reducible exact LeO.none _)
   | (with_reducible refine LeO.ite ?_ ?_)
   | (with_reducible refine LeO.bind ?_ (fun _=>?_))
   | exact ih0 _ _ _ _ _ _ _
   | exact ih1 _ _ _ _
   | exact ih2 _ _ _ _ _
   | exact contangoref41_Check.mono _ _
   | exact contangoref41_Of.mono _ _ _
   | exact LeO.none _
   | refine LeO.ite ?_ ?_
   | refine LeO.bind ?_ (fun _=>?_)
theorem contangoref41_Step.mono:∀ a0 a1 a2 k,LeO (contangoref41_Step.f k a0 a1 a2) (contangoref41_Step.f (k + 1) a0 a1 a2):=by
 intro a0 a1 a2 k
 obtain ⟨ih0,ih1,ih2⟩:=contangoref41_Step.mono_l k
 unfold contangoref41_Step.f
 repeat' first
   | (with_reducible exact ih0 _ _ _ _ _ _ _)
   | (with_reducible exact ih1 _ _ _ _)
   | (with_reducible exact ih2 _ _ _ _ _)
   | (with_reducible exact contangoref41_Check.mono _ _)
   | (with_reducible exact contangoref41_Of.mono _ _ _)
   | (with_reducible exact LeO.refl _)
   | (with_reducible exact LeO.none _)
   | (with_reducible refine LeO.ite ?_ ?_)
   | (with_reducible refine LeO.bind ?_ (fun _=>?_))
   | exact ih0 _ _ _ _ _ _ _
   | exact ih1 _ _ _ _
   | exact ih2 _ _ _ _ _
   | exact contangoref41_Check.mono _ _
   | exact contangoref41_Of.mono _ _ _
   | exact LeO.none _
   | refine LeO.ite ?_ ?_
   | refine LeO.bind ?_ (fun _=>?_)
set_option maxHeartbeats 8000000 in
set_option maxRecDepth 100000 in
theorem contangoref41_Step.calls (k:Nat) (A0:Option Addr) (c0:Nat) (l0:List (S41)) (a1:ByteArray) (a2:Int) (r1:List (S41)) (r2:Int) (w:World) (hr0:Kd.C k41 w A0 l0.length l0) (hc0:l0.length ≤ c0) (h:contangoref41_Step.f k l0 a1 a2 = some (r1,r2)) :
  Calls Try.prog 9 #[.slice A0 l0.length c0,.string a1,.int .i64 a2] w fun e w'=>∃ v0_:Value,e = .returned (.tuple #[v0_,.int .i64 r2]) ∧ Kd.R k41 41 w' w.heap.size (fun _=>True) v0_ r1 ∧ Below w.heap.size w w':=by
 have hu41:=Try.underlying41
 have HR0:=Aside0.mk hr0
 have HC0:=Aside0.mk hc0
 clear hr0 hc0
 have HB:=Aside0.mk (Below.refl w.heap.size w)
 have H:((contangoref41_Check.f k l0).bind fun t101=>(if t101 = 0 then ((contangoref41_Of.f k l0 a1).bind fun bt102=>(if bt102.2.2.2 = true then (if a2 ≤ bt102.2.1 then (contangoref41_Step.j0 k l0 a1 a2 true bt102.1 bt102.2.1 bt102.2.2.1) else (contangoref41_Step.j0 k l0 a1 a2 (decide (a2 > 7)) bt102.1 bt102.2.1 bt102.2.2.1)) else (some (([]:List (S41)),11)))) else (some (([]:List (S41)),t101)))) = some (r1,r2):=h
 clear h
 replace H:=Option.bind_eq_some_iff.mp H
 obtain ⟨t101,A40,H⟩:=H
 replace H:(if t101 = 0 then ((contangoref41_Of.f k l0 a1).bind fun bt102=>(if bt102.2.2.2 = true then (if a2 ≤ bt102.2.1 then (contangoref41_Step.j0 k l0 a1 a2 true bt102.1 bt102.2.1 bt102.2.2.1) else (contangoref41_Step.j0 k l0 a1 a2 (decide (a2 > 7)) bt102.1 bt102.2.1 bt102.2.2.1)) else (some (([]:List (S41)),11)))) else (some (([]:List (S41)),t101))) = some (r1,r2):=H
 have A4:=Aside0.mk A40
 clear A40
 by_cases c5:t101 = 0
 ·rw [if_pos c5] at H
  have c5b0:(t101 == 0) = true:=beq_iff_eq.mpr c5
  have c5b1:(t101 != 0) = false:=bne_eq_false_iff_eq.mpr c5
  clear c5
  replace H:=Option.bind_eq_some_iff.mp H
  obtain ⟨⟨t102,t103,t104,t105⟩,A60,H⟩:=H
  replace H:(if t105 = true then (if a2 ≤ t103 then (contangoref41_Step.j0 k l0 a1 a2 true t102 t103 t104) else (contangoref41_Step.j0 k l0 a1 a2 (decide (a2 > 7)) t102 t103 t104)) else (some (([]:List (S41)),11))) = some (r1,r2):=H
  have A6:=Aside0.mk A60
  clear A60
  by_cases c7:t105 = true
  ·subst c7
   have H1:(if a2 ≤ t103 then (contangoref41_Step.j0 k l0 a1 a2 true t102 t103 t104) else (contangoref41_Step.j0 k l0 a1 a2 (decide (a2 > 7)) t102 t103 t104)) = some (r1,r2):=by rw [if_pos rfl] at H;exact H
   clear H
   have H:=H1
   clear H1
   have HC8:=Aside0.mk H
   clear H
   go_enter Try.func9,Try.ntmps9
   go_upto_region 7 with (first|((with_reducible refine gate_callee (f:=19) rfl ?_);refine goesL_ (some 16) rfl rfl Try.func19 (by kernel_rfl) rfl #[.slice A0 l0.length c0] rfl (by (try simp only [List.map_toArray,List.map_cons,List.map_nil]);first|done|rfl|(simp only [List.length_drop,List.length_take];rfl)) ?_;(with_reducible refine (contangoref41_Check.calls k _ _ l0 t101 _ ?side1 ?side2 A4.out).mono ?_);(case side1=>repeat (first|exact HR0.out|(with_reducible refine Kd.C_alloc ?_ _)|(with_reducible refine Kd.C_drewN ?_ _)|(with_reducible refine Kd.C_drew ?_)));(case side2=>exact HC0.out);rintro e w' ⟨rfl,⟨nd,rfl⟩⟩;refine ⟨_,rfl,?_⟩)|((with_reducible refine gate_callee (f:=18) rfl ?_);refine goesL_ (some 23) rfl rfl Try.func18 (by kernel_rfl) rfl #[.slice A0 l0.length c0,.string a1] rfl (by (try simp only [List.map_toArray,List.map_cons,List.map_nil]);first|done|rfl|(simp only [List.length_drop,List.length_take];rfl)) ?_;(with_reducible refine (contangoref41_Of.calls k _ _ l0 a1 t102 t103 t104 true _ ?side1 ?side2 A6.out).mono ?_);(case side1=>repeat (first|exact HR0.out|(with_reducible refine Kd.C_alloc ?_ _)|(with_reducible refine Kd.C_drewN ?_ _)|(with_reducible refine Kd.C_drew ?_)));(case side2=>exact HC0.out);rintro e w9 ⟨rfl,hb⟩;refine ⟨_,rfl,?_⟩;have n0_:=Aside0.mk (below_step (by repeat (first|(with_reducible first|exact HB.out|apply below_alloc|apply pw_below_drewN|apply below_drew1)|exact HB.out)) hb);clear HB;have HB:=n0_;clear n0_;(try clear hb);(try clear hb2);(try clear hk);(try clear hi))|((with_reducible refine gate_dst (N:=9) rfl ?_);refine box_event ?hg (N:=9) ?hd (cs:=#[.string (⟨#[]⟩:ByteArray),.int .i64 0,.int .i64 0]) (t:=41) ?hr ?_;(case hd=>rfl);(case hg=>rfl);(case hr=>first|(go_simp;done)|(go_simp;rfl));intro gb106 hg w10 hbox hb;have n0_:=Aside0.mk (below_step (by repeat (first|(with_reducible first|exact HB.out|apply below_alloc|apply pw_below_drewN|apply below_drew1)|exact HB.out)) hb);have n1_:=Aside0.mk (hbox);have n2_:=Aside0.mk ((by rw [hg];exact (below_size (by repeat (first|(with_reducible first|exact HB.out|apply below_alloc|apply pw_below_drewN|apply below_drew1)|exact HB.out))):w.heap.size ≤ gb106));have n3_:=Aside0.mk ((by rw [hg];exact (below_size (by repeat (first|(with_reducible first|exact HB.out|apply below_alloc|apply pw_below_drewN|apply below_drew1)|exact HB.out))):w.heap.size ≤ gb106));clear HB;have HB:=n0_;have BK106:=n1_;have GW106:=n2_;have GE106:=n3_;clear n0_ n1_ n2_ n3_;clear hb hbox hg;have hcz11_0:w10.cell? ⟨gb106,0,none⟩ = some (.string (⟨#[]⟩:ByteArray)):=(blk_cell BK106.out 0).trans rfl;have hcz11_1:w10.cell? ⟨gb106,1,none⟩ = some (.int .i64 0):=(blk_cell BK106.out 1).trans rfl;have hcz11_2:w10.cell? ⟨gb106,2,none⟩ = some (.int .i64 0):=(blk_cell BK106.out 2).trans rfl;have hfz11_0:=blk_frozen BK106.out 0;have hfz11_1:=blk_frozen BK106.out 1;have hfz11_2:=blk_frozen BK106.out 2;have hq11_0:∀ a b c d:Value,((((w10.setCell ⟨gb106,0,none⟩ a).setCell ⟨gb106,1,none⟩ b).setCell ⟨gb106,2,none⟩ c).setCell ⟨gb106,1,none⟩ d).cell? ⟨gb106,0,none⟩ = some a:=fun a b c d=>(blk_cell (blk_put (cs:=#[a,b,c]) (blk_put (cs:=#[a,b,.int .i64 0]) (blk_put (cs:=#[a,.int .i64 0,.int .i64 0]) (blk_put BK106.out 0 a rfl) 1 b rfl) 2 c rfl) 1 d rfl) 0).trans rfl;have hq11_1:∀ a b c d:Value,((((w10.setCell ⟨gb106,0,none⟩ a).setCell ⟨gb106,1,none⟩ b).setCell ⟨gb106,2,none⟩ c).setCell ⟨gb106,1,none⟩ d).cell? ⟨gb106,1,none⟩ = some d:=fun a b c d=>(blk_cell (blk_put (cs:=#[a,b,c]) (blk_put (cs:=#[a,b,.int .i64 0]) (blk_put (cs:=#[a,.int .i64 0,.int .i64 0]) (blk_put BK106.out 0 a rfl) 1 b rfl) 2 c rfl) 1 d rfl) 1).trans rfl;have hq11_2:∀ a b c d:Value,((((w10.setCell ⟨gb106,0,none⟩ a).setCell ⟨gb106,1,none⟩ b).setCell ⟨gb106,2,none⟩ c).setCell ⟨gb106,1,none⟩ d).cell? ⟨gb106,2,none⟩ = some c:=fun a b c d=>(blk_cell (blk_put (cs:=#[a,b,c]) (blk_put (cs:=#[a,b,.int .i64 0]) (blk_put (cs:=#[a,.int .i64 0,.int .i64 0]) (blk_put BK106.out 0 a rfl) 1 b rfl) 2 c rfl) 1 d rfl) 2).trans rfl))
   (try simp only [Act.put,List.setIfInBounds_toArray,List.set_cons_zero,List.set_cons_succ])
   go_cut [35] (fun v35 wc=>∃ (kq:Nat) (x35_7:Bool),v35 = .bool x35_7 ∧ Aside0 (contangoref41_Step.j0 kq l0 a1 a2 x35_7 t102 t103 t104 = some (r1,r2)) ∧ Aside0 (kq ≤ k) ∧ Aside0 (wc.heap[gb106]? = some (.cells #[.string t102,.int .i64 t103,.int .i64 t104] 41 (0,0))) ∧ Aside0 (Below w.heap.size w wc))
   case first =>
    have H:=HC8.out
    clear HC8
    by_cases c12:a2 ≤ t103
    ·rw [if_pos c12] at H
     have c12b0:decide (a2 ≤ t103) = true:=decide_eq_true c12
     clear c12
     (first|rw [c12b0]|(simp only [i64_w,i32_w];rw [c12b0])|skip)
     have H':=Aside0.mk H
     clear H
     have hcz13_0:w10.cell? ⟨gb106,0,none⟩ = some (.string (⟨#[]⟩:ByteArray)):=(blk_cell BK106.out 0).trans rfl
     have hcz13_1:w10.cell? ⟨gb106,1,none⟩ = some (.int .i64 0):=(blk_cell BK106.out 1).trans rfl
     have hcz13_2:w10.cell? ⟨gb106,2,none⟩ = some (.int .i64 0):=(blk_cell BK106.out 2).trans rfl
     have hfz13_0:=blk_frozen BK106.out 0
     have hfz13_1:=blk_frozen BK106.out 1
     have hfz13_2:=blk_frozen BK106.out 2
     go_wp2
     go_meet
     case rel=>exact ⟨_,(true),(by first|rfl|(simp;done)|(simp [*];done)),H',⟨by first|omega|exact Nat.le_refl _⟩,⟨by (with_reducible repeat (first|refine blk_drewN ?_ _|refine blk_drew ?_|refine blk_alloc ?_ _));refine blk_put (cs:=#[.string t102,.int .i64 t103,.int .i64 0]) ?_ 2 _ rfl;(with_reducible repeat (first|refine blk_drewN ?_ _|refine blk_drew ?_|refine blk_alloc ?_ _));refine blk_put (cs:=#[.string t102,.int .i64 0,.int .i64 0]) ?_ 1 _ rfl;(with_reducible repeat (first|refine blk_drewN ?_ _|refine blk_drew ?_|refine blk_alloc ?_ _));refine blk_put (cs:=#[.string (⟨#[]⟩:ByteArray),.int .i64 0,.int .i64 0]) ?_ 0 _ rfl;(with_reducible repeat (first|refine blk_drewN ?_ _|refine blk_drew ?_|refine blk_alloc ?_ _));exact BK106.out⟩,⟨by repeat (first|(with_reducible first|exact HB.out|apply below_alloc|apply pw_below_drewN|apply below_drew1|refine below_set ?_ GE106.out)|exact HB.out)⟩⟩
    ·rw [if_neg c12] at H
     have c12b0:decide (a2 ≤ t103) = false:=decide_eq_false c12
     clear c12
     (first|rw [c12b0]|(simp only [i64_w,i32_w];rw [c12b0])|skip)
     have H':=Aside0.mk H
     clear H
     have hcz14_0:w10.cell? ⟨gb106,0,none⟩ = some (.string (⟨#[]⟩:ByteArray)):=(blk_cell BK106.out 0).trans rfl
     have hcz14_1:w10.cell? ⟨gb106,1,none⟩ = some (.int .i64 0):=(blk_cell BK106.out 1).trans rfl
     have hcz14_2:w10.cell? ⟨gb106,2,none⟩ = some (.int .i64 0):=(blk_cell BK106.out 2).trans rfl
     have hfz14_0:=blk_frozen BK106.out 0
     have hfz14_1:=blk_frozen BK106.out 1
     have hfz14_2:=blk_frozen BK106.out 2
     go_wp2
     go_meet
     case rel=>exact ⟨_,(decide (a2 > 7)),(by first|rfl|(simp;done)|(simp [*];done)),H',⟨by first|omega|exact Nat.le_refl _⟩,⟨by (with_reducible repeat (first|refine blk_drewN ?_ _|refine blk_drew ?_|refine blk_alloc ?_ _));refine blk_put (cs:=#[.string t102,.int .i64 t103,.int .i64 0]) ?_ 2 _ rfl;(with_reducible repeat (first|refine blk_drewN ?_ _|refine blk_drew ?_|refine blk_alloc ?_ _));refine blk_put (cs:=#[.string t102,.int .i64 0,.int .i64 0]) ?_ 1 _ rfl;(with_reducible repeat (first|refine blk_drewN ?_ _|refine blk_drew ?_|refine blk_alloc ?_ _));refine blk_put (cs:=#[.string (⟨#[]⟩:ByteArray),.int .i64 0,.int .i64 0]) ?_ 0 _ rfl;(with_reducible repeat (first|refine blk_drewN ?_ _|refine blk_drew ?_|refine blk_alloc ?_ _));exact BK106.out⟩,⟨by repeat (first|(with_reducible first|exact HB.out|apply below_alloc|apply pw_below_drewN|apply below_drew1|refine below_set ?_ GE106.out)|exact HB.out)⟩⟩
   case rest =>
    clear HC8
    try clear c1
    try clear p2
    try clear c5
    try clear c5b0
    try clear c5b1
    try clear c7
    try clear c9
    try clear c12
    try clear c12b0
    try clear hcz11_0
    try clear hcz11_1
    try clear hcz11_2
    try clear hcz13_0
    try clear hcz13_1
    try clear hcz13_2
    try clear hcz14_0
    try clear hcz14_1
    try clear hcz14_2
    try clear hfz11_0
    try clear hfz11_1
    try clear hfz11_2
    try clear hfz13_0
    try clear hfz13_1
    try clear hfz13_2
    try clear hfz14_0
    try clear hfz14_1
    try clear hfz14_2
    obtain ⟨kq,x35_7,rfl,HA,HJ7,BK106,HB⟩:=hcut
    cases kq with
    | zero=>exact absurd HA.out (by simp [contangoref41_Step.j0])
    | succ kj7 =>
     have H:=HA.out
     clear HA
     simp only [contangoref41_Step.j0] at H
     by_cases c15:x35_7 = true
     ·subst c15
      have H1:(some (([]:List (S41)),13)) = some (r1,r2):=by rw [if_pos rfl] at H;exact H
      clear H
      have H:=H1
      clear H1
      simp only [Option.some.injEq,Prod.mk.injEq] at H
      obtain ⟨rfl,rfl⟩:=H
      go_wp2
      go_ret2
      exact ⟨_,by first|rfl|(simp [errW_none,errW_some] <;> rfl)|(simp [*,errW_none,errW_some] <;> rfl),by first|exact Kd.R_nil _ _ _ _ _|exact Kd.N_nil _ _ _ _ _|exact Kd.V_nil _ _ _ _ _|exact Kd.Q_nil _ _ _ _ _|exact Kd.S_nil _ _ _ _ _,by repeat (first|(with_reducible first|exact HB.out|apply below_alloc|apply pw_below_drewN|apply below_drew1|refine below_set ?_ GE106.out)|exact HB.out)⟩
     ·replace c15:=Bool.eq_false_iff.mpr c15
      subst c15
      have H1:(contangoref41_Step.l0 kj7 l0 a1 a2 (wrap64 (t103 + 1))) = some (r1,r2):=by rw [if_neg (show ¬ (false = true) by decide)] at H;exact H
      clear H
      have H:=H1
      clear H1
      have H':=Aside0.mk H
      clear H
      have hcz16_0:wc.cell? ⟨gb106,0,none⟩ = some (.string t102):=(blk_cell BK106.out 0).trans rfl
      have hcz16_1:wc.cell? ⟨gb106,1,none⟩ = some (.int .i64 t103):=(blk_cell BK106.out 1).trans rfl
      have hcz16_2:wc.cell? ⟨gb106,2,none⟩ = some (.int .i64 t104):=(blk_cell BK106.out 2).trans rfl
      have hfz16_0:=blk_frozen BK106.out 0
      have hfz16_1:=blk_frozen BK106.out 1
      have hfz16_2:=blk_frozen BK106.out 2
      go_wp2
      go_loopg [11] kj7 (fun kq v11 w'=>∃ (x11_2:Int),v11 = .int .i64 x11_2 ∧ Aside0 (contangoref41_Step.l0 kq l0 a1 a2 x11_2 = some (r1,r2)) ∧ Aside0 (kq ≤ kj7) ∧ Aside0 (w'.heap[gb106]? = some (.cells #[.string t102,.int .i64 t103,.int .i64 t104] 41 (0,0))) ∧ Aside0 (Below w.heap.size w w'))
      case atStart=>exact ⟨(wrap64 (t103 + 1)),(by first|rfl|(simp;done)|(simp [*];done)),H',⟨Nat.le_refl _⟩,⟨by (with_reducible repeat (first|refine blk_drewN ?_ _|refine blk_drew ?_|refine blk_alloc ?_ _));exact BK106.out⟩,⟨by repeat (first|(with_reducible first|exact HB.out|apply below_alloc|apply pw_below_drewN|apply below_drew1|refine below_set ?_ GE106.out)|exact HB.out)⟩⟩
      case round =>
       clear H'
       try clear c1
       try clear p2
       try clear c5
       try clear c5b0
       try clear c5b1
       try clear p6
       try clear c7
       try clear c9
       try clear c12
       try clear c12b0
       try clear c15
       try clear hcz11_0
       try clear hcz11_1
       try clear hcz11_2
       try clear hcz13_0
       try clear hcz13_1
       try clear hcz13_2
       try clear hcz14_0
       try clear hcz14_1
       try clear hcz14_2
       try clear hcz16_0
       try clear hcz16_1
       try clear hcz16_2
       try clear hfz11_0
       try clear hfz11_1
       try clear hfz11_2
       try clear hfz13_0
       try clear hfz13_1
       try clear hfz13_2
       try clear hfz14_0
       try clear hfz14_1
       try clear hfz14_2
       try clear hfz16_0
       try clear hfz16_1
       try clear hfz16_2
       try clear p2
       obtain ⟨x11_2,rfl,HA,HK2,BK106,HB⟩:=hrel
       cases gk with
       | zero=>exact absurd HA.out (by simp [contangoref41_Step.l0])
       | succ k2 =>
        have H:=HA.out
        clear HA
        simp only [contangoref41_Step.l0] at H
        by_cases c17:x11_2 < a2
        ·rw [if_pos c17] at H
         have c17b0:decide (x11_2 < a2) = true:=decide_eq_true c17
         clear c17
         by_cases c18:x11_2 = 2
         ·rw [if_pos c18] at H
          have c18b0:(x11_2 == 2) = true:=beq_iff_eq.mpr c18
          have c18b1:(x11_2 != 2) = false:=bne_eq_false_iff_eq.mpr c18
          clear c18
          simp only [Option.some.injEq,Prod.mk.injEq] at H
          obtain ⟨rfl,rfl⟩:=H
          go_wp2
          go_ret2
          exact ⟨_,by first|rfl|(simp [errW_none,errW_some] <;> rfl)|(simp [*,errW_none,errW_some] <;> rfl),by first|exact Kd.R_nil _ _ _ _ _|exact Kd.N_nil _ _ _ _ _|exact Kd.V_nil _ _ _ _ _|exact Kd.Q_nil _ _ _ _ _|exact Kd.S_nil _ _ _ _ _,by repeat (first|(with_reducible first|exact HB.out|apply below_alloc|apply pw_below_drewN|apply below_drew1|refine below_set ?_ GE106.out)|exact HB.out)⟩
         ·rw [if_neg c18] at H
          have c18b0:(x11_2 == 2) = false:=beq_eq_false_iff_ne.mpr c18
          have c18b1:(x11_2 != 2) = true:=bne_iff_ne.mpr c18
          by_cases c19:x11_2 = 5
          ·rw [if_pos c19] at H
           have c19b0:(x11_2 == 5) = true:=beq_iff_eq.mpr c19
           have c19b1:(x11_2 != 5) = false:=bne_eq_false_iff_eq.mpr c19
           clear c19
           simp only [Option.some.injEq,Prod.mk.injEq] at H
           obtain ⟨rfl,rfl⟩:=H
           go_wp2
           go_ret2
           exact ⟨_,by first|rfl|(simp [errW_none,errW_some] <;> rfl)|(simp [*,errW_none,errW_some] <;> rfl),by first|exact Kd.R_nil _ _ _ _ _|exact Kd.N_nil _ _ _ _ _|exact Kd.V_nil _ _ _ _ _|exact Kd.Q_nil _ _ _ _ _|exact Kd.S_nil _ _ _ _ _,by repeat (first|(with_reducible first|exact HB.out|apply below_alloc|apply pw_below_drewN|apply below_drew1|refine below_set ?_ GE106.out)|exact HB.out)⟩
          ·rw [if_neg c19] at H
           have c19b0:(x11_2 == 5) = false:=beq_eq_false_iff_ne.mpr c19
           have c19b1:(x11_2 != 5) = true:=bne_iff_ne.mpr c19
           by_cases c20:x11_2 = 6
           ·rw [if_pos c20] at H
            have c20b0:(x11_2 == 6) = true:=beq_iff_eq.mpr c20
            have c20b1:(x11_2 != 6) = false:=bne_eq_false_iff_eq.mpr c20
            clear c20
            simp only [Option.some.injEq,Prod.mk.injEq] at H
            obtain ⟨rfl,rfl⟩:=H
            go_wp2
            go_ret2
            exact ⟨_,by first|rfl|(simp [errW_none,errW_some] <;> rfl)|(simp [*,errW_none,errW_some] <;> rfl),by first|exact Kd.R_nil _ _ _ _ _|exact Kd.N_nil _ _ _ _ _|exact Kd.V_nil _ _ _ _ _|exact Kd.Q_nil _ _ _ _ _|exact Kd.S_nil _ _ _ _ _,by repeat (first|(with_reducible first|exact HB.out|apply below_alloc|apply pw_below_drewN|apply below_drew1|refine below_set ?_ GE106.out)|exact HB.out)⟩
           ·rw [if_neg c20] at H
            have c20b0:(x11_2 == 6) = false:=beq_eq_false_iff_ne.mpr c20
            have c20b1:(x11_2 != 6) = true:=bne_iff_ne.mpr c20
            have H':=Aside0.mk H
            clear H
            go_wp2
            go_roundg k2
            case measure=>have:=HJ7.out;have:=HK2.out;omega
            case rel=>exact ⟨(wrap64 (x11_2 + 1)),(by first|rfl|(simp;done)|(simp [*];done)),H',⟨by have:=HJ7.out;have:=HK2.out;omega⟩,⟨by (with_reducible repeat (first|refine blk_drewN ?_ _|refine blk_drew ?_|refine blk_alloc ?_ _));exact BK106.out⟩,⟨by repeat (first|(with_reducible first|exact HB.out|apply below_alloc|apply pw_below_drewN|apply below_drew1|refine below_set ?_ GE106.out)|exact HB.out)⟩⟩
        ·rw [if_neg c17] at H
         have c17b0:decide (x11_2 < a2) = false:=decide_eq_false c17
         clear c17
         have H':=Aside0.mk H
         clear H
         go_wp2
         go_loopg [12,13] k2 (fun kq v12 v13 w'=>∃ (x12_3:List (S41)) (x13_3:Int),v13 = .int .i64 x13_3 ∧ Aside0 (contangoref41_Step.l1 kq l0 a1 a2 x12_3 x13_3 = some (r1,r2)) ∧ Aside0 (kq ≤ k2) ∧ Aside0 (Kd.R k41 41 w' w.heap.size (fun k_=>k_ ≠ gb106) v12 x12_3) ∧ Aside0 (w'.heap[gb106]? = some (.cells #[.string t102,.int .i64 t103,.int .i64 t104] 41 (0,0))) ∧ Aside0 (Below w.heap.size w w'))
         case atStart=>exact ⟨(([]:List (S41))),(0),(by first|rfl|(simp;done)|(simp [*];done)),H',⟨Nat.le_refl _⟩,⟨by first|exact Kd.R_nil _ _ _ _ _|exact Kd.N_nil _ _ _ _ _|exact Kd.V_nil _ _ _ _ _|exact Kd.Q_nil _ _ _ _ _|exact Kd.S_nil _ _ _ _ _⟩,⟨by (with_reducible repeat (first|refine blk_drewN ?_ _|refine blk_drew ?_|refine blk_alloc ?_ _));exact BK106.out⟩,⟨by repeat (first|(with_reducible first|exact HB.out|apply below_alloc|apply pw_below_drewN|apply below_drew1|refine below_set ?_ GE106.out)|exact HB.out)⟩⟩
         case round =>
          clear H'
          try clear c1
          try clear c2
          try clear p2
          try clear c5
          try clear c5b0
          try clear c5b1
          try clear p6
          try clear c7
          try clear c9
          try clear c12
          try clear c12b0
          try clear c15
          try clear c17
          try clear c17b0
          try clear c18
          try clear c18b0
          try clear c18b1
          try clear c19
          try clear c19b0
          try clear c19b1
          try clear c20
          try clear c20b0
          try clear c20b1
          try clear hcz11_0
          try clear hcz11_1
          try clear hcz11_2
          try clear hcz13_0
          try clear hcz13_1
          try clear hcz13_2
          try clear hcz14_0
          try clear hcz14_1
          try clear hcz14_2
          try clear hcz16_0
          try clear hcz16_1
          try clear hcz16_2
          try clear hfz11_0
          try clear hfz11_1
          try clear hfz11_2
          try clear hfz13_0
          try clear hfz13_1
          try clear hfz13_2
          try clear hfz14_0
          try clear hfz14_1
          try clear hfz14_2
          try clear hfz16_0
          try clear hfz16_1
          try clear hfz16_2
          try clear p2
          try clear p6
          obtain ⟨x12_3,x13_3,rfl,HA,HK3,HO_12,BK106,HB⟩:=hrel
          cases gk with
          | zero=>exact absurd HA.out (by simp [contangoref41_Step.l1])
          | succ k3 =>
           have H:=HA.out
           clear HA
           simp only [contangoref41_Step.l1] at H
           by_cases c21:x13_3 < (l0.length:Int)
           ·rw [if_pos c21] at H
            have c21b0:decide (x13_3 < (l0.length:Int)) = true:=decide_eq_true c21
            clear c21
            by_cases c22:0 ≤ x13_3
            ·rw [if_pos c22] at H
             have c22b0:decide (0 ≤ x13_3) = true:=decide_eq_true c22
             clear c22
             by_cases c23:((rd_T41 l0 x13_3).f0).toList = a1.toList
             ·rw [if_pos c23] at H
              have c23b0:(((rd_T41 l0 x13_3).f0).toList == a1.toList) = true:=beq_iff_eq.mpr c23
              have c23b1:(((rd_T41 l0 x13_3).f0).toList != a1.toList) = false:=bne_eq_false_iff_eq.mpr c23
              clear c23
              by_cases c24:x12_3.length < 4398046511104
              ·rw [if_pos c24] at H
               have LMc24:=Aside0.mk c24
               clear c24
               obtain ⟨y109,hy109⟩:∃ y_:List (S41),y_ = (x12_3 ++ [(⟨(rd_T41 l0 x13_3).f0,a2,(rd_T41 l0 x13_3).f2⟩:S41)]):=⟨_,rfl⟩
               replace H:(contangoref41_Step.l1 k3 l0 a1 a2 y109 (wrap64 (x13_3 + 1))) = some (r1,r2):=by first|(rw [hy109];with_reducible exact H)|(have H2_:=(Option.bind_some _ _).symm.trans H;rw [hy109];with_reducible exact H2_)|(have H2_:=(Option.bind_some _ _).symm.trans H;with_reducible exact H2_)|with_reducible exact H|(rw [hy109];exact H)|exact H
               have Ny109:=Aside0.mk hy109
               clear hy109
               have H':=Aside0.mk H
               clear H
               have p107:0 ≤ (x13_3:Int):=of_decide_eq_true (by first|(with_reducible assumption)|assumption)
               have q107:x13_3 < (l0.length:Int):=of_decide_eq_true (by first|(with_reducible assumption)|assumption)
               obtain ⟨ad107,e107,hx107_0,hx107_1,hx107_2⟩:=at_T41 HR0.out x13_3 p107 q107
               cases e107
               replace hx107_0:=(HB.out.cell (World.block_lt_of_cell? w _ hx107_0)).trans hx107_0
               replace hx107_1:=(HB.out.cell (World.block_lt_of_cell? w _ hx107_1)).trans hx107_1
               replace hx107_2:=(HB.out.cell (World.block_lt_of_cell? w _ hx107_2)).trans hx107_2
               replace p107:=eq_true p107
               replace q107:=eq_true q107
               go_wp2_with (first|((with_reducible refine gate_dst (N:=14) rfl ?_);refine box_event ?hg (N:=14) ?hd (cs:=#[.string (⟨#[]⟩:ByteArray),.int .i64 0,.int .i64 0]) (t:=41) ?hr ?_;(case hd=>rfl);(case hg=>rfl);(case hr=>first|(go_simp;done)|(go_simp;rfl));intro gb108 hg w25 hbox hb;have n0_:=Aside0.mk (Kd.R_below (Kd.R_elderB (by (with_reducible repeat (first|apply Kd.R_alloc|apply Kd.R_drewN|apply Kd.R_drew));exact HO_12.out) gb108 (Nat.le_of_eq hg.symm)) hb);have n1_:=Aside0.mk (blk_below (g:=gb106) (o:=.cells #[.string t102,.int .i64 t103,.int .i64 t104] 41 (0,0)) (by (with_reducible repeat (first|refine blk_drewN ?_ _|refine blk_drew ?_|refine blk_alloc ?_ _));exact BK106.out) hb);have n2_:=Aside0.mk (below_step (by repeat (first|(with_reducible first|exact HB.out|apply below_alloc|apply pw_below_drewN|apply below_drew1|refine below_set ?_ GE106.out)|exact HB.out)) hb);have n3_:=Aside0.mk (hbox);have n4_:=Aside0.mk ((by rw [hg];exact (below_size (by repeat (first|(with_reducible first|exact HB.out|apply below_alloc|apply pw_below_drewN|apply below_drew1|refine below_set ?_ GE106.out)|exact HB.out))):w.heap.size ≤ gb108));have n5_:=Aside0.mk ((by rw [hg];exact (below_size (by repeat (first|(with_reducible first|exact HB.out|apply below_alloc|apply pw_below_drewN|apply below_drew1|refine below_set ?_ GE106.out)|exact HB.out))):w.heap.size ≤ gb108));have n6_:=Aside0.mk ((by rw [hg];exact Nat.ne_of_lt (blk_lt (g:=gb106) (o:=.cells #[.string t102,.int .i64 t103,.int .i64 t104] 41 (0,0)) (by (with_reducible repeat (first|refine blk_drewN ?_ _|refine blk_drew ?_|refine blk_alloc ?_ _));exact BK106.out)):gb106 ≠ gb108));have n7_:=Aside0.mk ((by rw [hg];exact Nat.ne_of_gt (blk_lt (g:=gb106) (o:=.cells #[.string t102,.int .i64 t103,.int .i64 t104] 41 (0,0)) (by (with_reducible repeat (first|refine blk_drewN ?_ _|refine blk_drew ?_|refine blk_alloc ?_ _));exact BK106.out)):gb108 ≠ gb106));clear HO_12;clear BK106;clear HB;have HO_12:=n0_;have BK106:=n1_;have HB:=n2_;have BK108:=n3_;have GW108:=n4_;have GE108:=n5_;have NB106_108:=n6_;have NB108_106:=n7_;clear n0_ n1_ n2_ n3_ n4_ n5_ n6_ n7_;clear hb hbox hg;have hnb26:=NB108_106.out;have hnc26:=NB106_108.out;have hcz27_0:w25.cell? ⟨gb108,0,none⟩ = some (.string (⟨#[]⟩:ByteArray)):=(blk_cell BK108.out 0).trans rfl;have hcz27_1:w25.cell? ⟨gb108,1,none⟩ = some (.int .i64 0):=(blk_cell BK108.out 1).trans rfl;have hcz27_2:w25.cell? ⟨gb108,2,none⟩ = some (.int .i64 0):=(blk_cell BK108.out 2).trans rfl;have hfz27_0:=blk_frozen BK108.out 0;have hfz27_1:=blk_frozen BK108.out 1;have hfz27_2:=blk_frozen BK108.out 2;have hq27_0:∀ a b c d:Value,((((w25.setCell ⟨gb108,0,none⟩ a).setCell ⟨gb108,1,none⟩ b).setCell ⟨gb108,2,none⟩ c).setCell ⟨gb108,1,none⟩ d).cell? ⟨gb108,0,none⟩ = some a:=fun a b c d=>(blk_cell (blk_put (cs:=#[a,b,c]) (blk_put (cs:=#[a,b,.int .i64 0]) (blk_put (cs:=#[a,.int .i64 0,.int .i64 0]) (blk_put BK108.out 0 a rfl) 1 b rfl) 2 c rfl) 1 d rfl) 0).trans rfl;have hq27_1:∀ a b c d:Value,((((w25.setCell ⟨gb108,0,none⟩ a).setCell ⟨gb108,1,none⟩ b).setCell ⟨gb108,2,none⟩ c).setCell ⟨gb108,1,none⟩ d).cell? ⟨gb108,1,none⟩ = some d:=fun a b c d=>(blk_cell (blk_put (cs:=#[a,b,c]) (blk_put (cs:=#[a,b,.int .i64 0]) (blk_put (cs:=#[a,.int .i64 0,.int .i64 0]) (blk_put BK108.out 0 a rfl) 1 b rfl) 2 c rfl) 1 d rfl) 1).trans rfl;have hq27_2:∀ a b c d:Value,((((w25.setCell ⟨gb108,0,none⟩ a).setCell ⟨gb108,1,none⟩ b).setCell ⟨gb108,2,none⟩ c).setCell ⟨gb108,1,none⟩ d).cell? ⟨gb108,2,none⟩ = some c:=fun a b c d=>(blk_cell (blk_put (cs:=#[a,b,c]) (blk_put (cs:=#[a,b,.int .i64 0]) (blk_put (cs:=#[a,.int .i64 0,.int .i64 0]) (blk_put BK108.out 0 a rfl) 1 b rfl) 2 c rfl) 1 d rfl) 2).trans rfl)|((with_reducible refine gate_builtin (b:=.append) (xs:=#[.tmp 70,.tmp 72]) rfl ?_);at_builtin;refine Kd.R_append k41 (w0:=w) w.heap.size rfl (.tmp 70) (.tmp 72) 22 41 (.agg #[(.string ⟨#[]⟩),(.int .i64 0),(.int .i64 0)]) 32 rfl Try.underlying22 info41 rfl (by decide) (by omega) u12 x12_3 (⟨(rd_T41 l0 x13_3).f0,a2,(rd_T41 l0 x13_3).f2⟩:S41) [.string ((rd_T41 l0 x13_3).f0),.int .i64 a2,.int .i64 ((rd_T41 l0 x13_3).f2)] (fun k_=>k_ ≠ gb106 ∧ k_ ≠ gb108) (fun _=>False) rfl (by first|(go_simp;done)|(go_simp;rfl)) ?aP (fun _ hk=>hk.elim) ?aF ?aO ?aB ?aS ?aL ?_;(case aP=>exact k41_mkM _ _ _ (⟨(rd_T41 l0 x13_3).f0,a2,(rd_T41 l0 x13_3).f2⟩:S41));(case aB=>exact (by repeat (first|(with_reducible first|exact HB.out|apply below_alloc|apply pw_below_drewN|apply below_drew1|refine below_set ?_ GE106.out|refine below_set ?_ GE108.out)|exact HB.out)));(case aF=>exact (fun k_ hk=>⟨Kd.freshB (g:=gb106) (o:=.cells #[.string t102,.int .i64 t103,.int .i64 t104] 41 (0,0)) (by (with_reducible repeat (first|refine blk_drewN ?_ _|refine blk_drew ?_|refine blk_alloc ?_ _));refine blk_far ?_ NB106_108.out _;(with_reducible repeat (first|refine blk_drewN ?_ _|refine blk_drew ?_|refine blk_alloc ?_ _));refine blk_far ?_ NB106_108.out _;(with_reducible repeat (first|refine blk_drewN ?_ _|refine blk_drew ?_|refine blk_alloc ?_ _));refine blk_far ?_ NB106_108.out _;(with_reducible repeat (first|refine blk_drewN ?_ _|refine blk_drew ?_|refine blk_alloc ?_ _));refine blk_far ?_ NB106_108.out _;(with_reducible repeat (first|refine blk_drewN ?_ _|refine blk_drew ?_|refine blk_alloc ?_ _));exact BK106.out) k_ hk,Kd.freshB (g:=gb108) (o:=.cells #[.string ((rd_T41 l0 x13_3).f0),.int .i64 a2,.int .i64 ((rd_T41 l0 x13_3).f2)] 41 (0,0)) (by (with_reducible repeat (first|refine blk_drewN ?_ _|refine blk_drew ?_|refine blk_alloc ?_ _));refine blk_put (cs:=#[.string ((rd_T41 l0 x13_3).f0),.int .i64 ((rd_T41 l0 x13_3).f1),.int .i64 ((rd_T41 l0 x13_3).f2)]) ?_ 1 _ rfl;(with_reducible repeat (first|refine blk_drewN ?_ _|refine blk_drew ?_|refine blk_alloc ?_ _));refine blk_put (cs:=#[.string ((rd_T41 l0 x13_3).f0),.int .i64 ((rd_T41 l0 x13_3).f1),.int .i64 0]) ?_ 2 _ rfl;(with_reducible repeat (first|refine blk_drewN ?_ _|refine blk_drew ?_|refine blk_alloc ?_ _));refine blk_put (cs:=#[.string ((rd_T41 l0 x13_3).f0),.int .i64 0,.int .i64 0]) ?_ 1 _ rfl;(with_reducible repeat (first|refine blk_drewN ?_ _|refine blk_drew ?_|refine blk_alloc ?_ _));refine blk_put (cs:=#[.string (⟨#[]⟩:ByteArray),.int .i64 0,.int .i64 0]) ?_ 0 _ rfl;(with_reducible repeat (first|refine blk_drewN ?_ _|refine blk_drew ?_|refine blk_alloc ?_ _));exact BK108.out) k_ hk⟩));(case aO=>exact (by (with_reducible repeat (first|apply Kd.R_alloc|apply Kd.R_drewN|apply Kd.R_drew));exact Kd.R_mono (Kd.R_far (p:=⟨gb108,1,none⟩) (Kd.R_far (p:=⟨gb108,2,none⟩) (Kd.R_far (p:=⟨gb108,1,none⟩) (Kd.R_far (p:=⟨gb108,0,none⟩) (Kd.R_mono HO_12.out (fun k_ hk=>(⟨hk,hk.2⟩:_ ∧ k_ ≠ gb108))) (fun _ hk=>hk.2) (.string ((rd_T41 l0 x13_3).f0))) (fun _ hk=>hk.2) (.int .i64 ((rd_T41 l0 x13_3).f1))) (fun _ hk=>hk.2) (.int .i64 ((rd_T41 l0 x13_3).f2))) (fun _ hk=>hk.2) (.int .i64 a2)) (fun _ hk=>⟨hk.1.1,hk.1.2⟩)));(case aS=>exact (below_size (by repeat (first|(with_reducible first|exact HB.out|apply below_alloc|apply pw_below_drewN|apply below_drew1|refine below_set ?_ GE106.out|refine below_set ?_ GE108.out)|exact HB.out))));(case aL=>have:=LMc24.out;omega);intro v110 w28 ho hb hg hat;rw [← Ny109.out] at ho;have n0_:=Aside0.mk (blk_grown (g:=gb106) (o:=.cells #[.string t102,.int .i64 t103,.int .i64 t104] 41 (0,0)) (by (with_reducible repeat (first|refine blk_drewN ?_ _|refine blk_drew ?_|refine blk_alloc ?_ _));refine blk_far ?_ NB106_108.out _;(with_reducible repeat (first|refine blk_drewN ?_ _|refine blk_drew ?_|refine blk_alloc ?_ _));refine blk_far ?_ NB106_108.out _;(with_reducible repeat (first|refine blk_drewN ?_ _|refine blk_drew ?_|refine blk_alloc ?_ _));refine blk_far ?_ NB106_108.out _;(with_reducible repeat (first|refine blk_drewN ?_ _|refine blk_drew ?_|refine blk_alloc ?_ _));refine blk_far ?_ NB106_108.out _;(with_reducible repeat (first|refine blk_drewN ?_ _|refine blk_drew ?_|refine blk_alloc ?_ _));exact BK106.out) hg (Kd.R_away HO_12.out (fun _ hk=>hk.1)));have n1_:=Aside0.mk (blk_grown (g:=gb108) (o:=.cells #[.string ((rd_T41 l0 x13_3).f0),.int .i64 a2,.int .i64 ((rd_T41 l0 x13_3).f2)] 41 (0,0)) (by (with_reducible repeat (first|refine blk_drewN ?_ _|refine blk_drew ?_|refine blk_alloc ?_ _));refine blk_put (cs:=#[.string ((rd_T41 l0 x13_3).f0),.int .i64 ((rd_T41 l0 x13_3).f1),.int .i64 ((rd_T41 l0 x13_3).f2)]) ?_ 1 _ rfl;(with_reducible repeat (first|refine blk_drewN ?_ _|refine blk_drew ?_|refine blk_alloc ?_ _));refine blk_put (cs:=#[.string ((rd_T41 l0 x13_3).f0),.int .i64 ((rd_T41 l0 x13_3).f1),.int .i64 0]) ?_ 2 _ rfl;(with_reducible repeat (first|refine blk_drewN ?_ _|refine blk_drew ?_|refine blk_alloc ?_ _));refine blk_put (cs:=#[.string ((rd_T41 l0 x13_3).f0),.int .i64 0,.int .i64 0]) ?_ 1 _ rfl;(with_reducible repeat (first|refine blk_drewN ?_ _|refine blk_drew ?_|refine blk_alloc ?_ _));refine blk_put (cs:=#[.string (⟨#[]⟩:ByteArray),.int .i64 0,.int .i64 0]) ?_ 0 _ rfl;(with_reducible repeat (first|refine blk_drewN ?_ _|refine blk_drew ?_|refine blk_alloc ?_ _));exact BK108.out) hg (Kd.R_away HO_12.out (fun _ hk=>hk.2)));have n2_:=Aside0.mk (hb);have n3_:=Aside0.mk (ho);clear BK106;clear BK108;clear HB;clear HO_12;have BK106:=n0_;have BK108:=n1_;have HB:=n2_;have HO111:=n3_;clear n0_ n1_ n2_ n3_;clear ho hb hg hat))
               go_roundg k3
               case measure=>have:=HJ7.out;have:=HK2.out;have:=HK3.out;omega
               case rel=>exact ⟨(y109),(wrap64 (x13_3 + 1)),(by first|rfl|(simp;done)|(simp [*];done)),H',⟨by have:=HJ7.out;have:=HK2.out;have:=HK3.out;omega⟩,⟨by (with_reducible repeat (first|apply Kd.R_alloc|apply Kd.R_drewN|apply Kd.R_drew));exact Kd.R_mono HO111.out (fun _ hk=>hk.1)⟩,⟨by (with_reducible repeat (first|refine blk_drewN ?_ _|refine blk_drew ?_|refine blk_alloc ?_ _));exact BK106.out⟩,⟨by repeat (first|(with_reducible first|exact HB.out|apply below_alloc|apply pw_below_drewN|apply below_drew1|refine below_set ?_ GE106.out|refine below_set ?_ GE108.out)|exact HB.out)⟩⟩
              ·rw [if_neg c24] at H
               exact absurd H (by simp)
             ·rw [if_neg c23] at H
              have c23b0:(((rd_T41 l0 x13_3).f0).toList == a1.toList) = false:=beq_eq_false_iff_ne.mpr c23
              have c23b1:(((rd_T41 l0 x13_3).f0).toList != a1.toList) = true:=bne_iff_ne.mpr c23
              by_cases c29:x12_3.length < 4398046511104
              ·rw [if_pos c29] at H
               have LMc29:=Aside0.mk c29
               clear c29
               obtain ⟨y112,hy112⟩:∃ y_:List (S41),y_ = (x12_3 ++ [(⟨(rd_T41 l0 x13_3).f0,(rd_T41 l0 x13_3).f1,(rd_T41 l0 x13_3).f2⟩:S41)]):=⟨_,rfl⟩
               replace H:(contangoref41_Step.l1 k3 l0 a1 a2 y112 (wrap64 (x13_3 + 1))) = some (r1,r2):=by first|(rw [hy112];with_reducible exact H)|(have H2_:=(Option.bind_some _ _).symm.trans H;rw [hy112];with_reducible exact H2_)|(have H2_:=(Option.bind_some _ _).symm.trans H;with_reducible exact H2_)|with_reducible exact H|(rw [hy112];exact H)|exact H
               have Ny112:=Aside0.mk hy112
               clear hy112
               have H':=Aside0.mk H
               clear H
               have p107:0 ≤ (x13_3:Int):=of_decide_eq_true (by first|(with_reducible assumption)|assumption)
               have q107:x13_3 < (l0.length:Int):=of_decide_eq_true (by first|(with_reducible assumption)|assumption)
               obtain ⟨ad107,e107,hx107_0,hx107_1,hx107_2⟩:=at_T41 HR0.out x13_3 p107 q107
               cases e107
               replace hx107_0:=(HB.out.cell (World.block_lt_of_cell? w _ hx107_0)).trans hx107_0
               replace hx107_1:=(HB.out.cell (World.block_lt_of_cell? w _ hx107_1)).trans hx107_1
               replace hx107_2:=(HB.out.cell (World.block_lt_of_cell? w _ hx107_2)).trans hx107_2
               replace p107:=eq_true p107
               replace q107:=eq_true q107
               go_wp2_with (first|((with_reducible refine gate_dst (N:=14) rfl ?_);refine box_event ?hg (N:=14) ?hd (cs:=#[.string (⟨#[]⟩:ByteArray),.int .i64 0,.int .i64 0]) (t:=41) ?hr ?_;(case hd=>rfl);(case hg=>rfl);(case hr=>first|(go_simp;done)|(go_simp;rfl));intro gb108 hg w30 hbox hb;have n0_:=Aside0.mk (Kd.R_below (Kd.R_elderB (by (with_reducible repeat (first|apply Kd.R_alloc|apply Kd.R_drewN|apply Kd.R_drew));exact HO_12.out) gb108 (Nat.le_of_eq hg.symm)) hb);have n1_:=Aside0.mk (blk_below (g:=gb106) (o:=.cells #[.string t102,.int .i64 t103,.int .i64 t104] 41 (0,0)) (by (with_reducible repeat (first|refine blk_drewN ?_ _|refine blk_drew ?_|refine blk_alloc ?_ _));exact BK106.out) hb);have n2_:=Aside0.mk (below_step (by repeat (first|(with_reducible first|exact HB.out|apply below_alloc|apply pw_below_drewN|apply below_drew1|refine below_set ?_ GE106.out)|exact HB.out)) hb);have n3_:=Aside0.mk (hbox);have n4_:=Aside0.mk ((by rw [hg];exact (below_size (by repeat (first|(with_reducible first|exact HB.out|apply below_alloc|apply pw_below_drewN|apply below_drew1|refine below_set ?_ GE106.out)|exact HB.out))):w.heap.size ≤ gb108));have n5_:=Aside0.mk ((by rw [hg];exact (below_size (by repeat (first|(with_reducible first|exact HB.out|apply below_alloc|apply pw_below_drewN|apply below_drew1|refine below_set ?_ GE106.out)|exact HB.out))):w.heap.size ≤ gb108));have n6_:=Aside0.mk ((by rw [hg];exact Nat.ne_of_lt (blk_lt (g:=gb106) (o:=.cells #[.string t102,.int .i64 t103,.int .i64 t104] 41 (0,0)) (by (with_reducible repeat (first|refine blk_drewN ?_ _|refine blk_drew ?_|refine blk_alloc ?_ _));exact BK106.out)):gb106 ≠ gb108));have n7_:=Aside0.mk ((by rw [hg];exact Nat.ne_of_gt (blk_lt (g:=gb106) (o:=.cells #[.string t102,.int .i64 t103,.int .i64 t104] 41 (0,0)) (by (with_reducible repeat (first|refine blk_drewN ?_ _|refine blk_drew ?_|refine blk_alloc ?_ _));exact BK106.out)):gb108 ≠ gb106));clear HO_12;clear BK106;clear HB;have HO_12:=n0_;have BK106:=n1_;have HB:=n2_;have BK108:=n3_;have GW108:=n4_;have GE108:=n5_;have NB106_108:=n6_;have NB108_106:=n7_;clear n0_ n1_ n2_ n3_ n4_ n5_ n6_ n7_;clear hb hbox hg;have hnb31:=NB108_106.out;have hnc31:=NB106_108.out;have hcz32_0:w30.cell? ⟨gb108,0,none⟩ = some (.string (⟨#[]⟩:ByteArray)):=(blk_cell BK108.out 0).trans rfl;have hcz32_1:w30.cell? ⟨gb108,1,none⟩ = some (.int .i64 0):=(blk_cell BK108.out 1).trans rfl;have hcz32_2:w30.cell? ⟨gb108,2,none⟩ = some (.int .i64 0):=(blk_cell BK108.out 2).trans rfl;have hfz32_0:=blk_frozen BK108.out 0;have hfz32_1:=blk_frozen BK108.out 1;have hfz32_2:=blk_frozen BK108.out 2;have hq32_0:∀ a b c d:Value,((((w30.setCell ⟨gb108,0,none⟩ a).setCell ⟨gb108,1,none⟩ b).setCell ⟨gb108,2,none⟩ c).setCell ⟨gb108,1,none⟩ d).cell? ⟨gb108,0,none⟩ = some a:=fun a b c d=>(blk_cell (blk_put (cs:=#[a,b,c]) (blk_put (cs:=#[a,b,.int .i64 0]) (blk_put (cs:=#[a,.int .i64 0,.int .i64 0]) (blk_put BK108.out 0 a rfl) 1 b rfl) 2 c rfl) 1 d rfl) 0).trans rfl;have hq32_1:∀ a b c d:Value,((((w30.setCell ⟨gb108,0,none⟩ a).setCell ⟨gb108,1,none⟩ b).setCell ⟨gb108,2,none⟩ c).setCell ⟨gb108,1,none⟩ d).cell? ⟨gb108,1,none⟩ = some d:=fun a b c d=>(blk_cell (blk_put (cs:=#[a,b,c]) (blk_put (cs:=#[a,b,.int .i64 0]) (blk_put (cs:=#[a,.int .i64 0,.int .i64 0]) (blk_put BK108.out 0 a rfl) 1 b rfl) 2 c rfl) 1 d rfl) 1).trans rfl;have hq32_2:∀ a b c d:Value,((((w30.setCell ⟨gb108,0,none⟩ a).setCell ⟨gb108,1,none⟩ b).setCell ⟨gb108,2,none⟩ c).setCell ⟨gb108,1,none⟩ d).cell? ⟨gb108,2,none⟩ = some c:=fun a b c d=>(blk_cell (blk_put (cs:=#[a,b,c]) (blk_put (cs:=#[a,b,.int .i64 0]) (blk_put (cs:=#[a,.int .i64 0,.int .i64 0]) (blk_put BK108.out 0 a rfl) 1 b rfl) 2 c rfl) 1 d rfl) 2).trans rfl)|((with_reducible refine gate_builtin (b:=.append) (xs:=#[.tmp 70,.tmp 72]) rfl ?_);at_builtin;refine Kd.R_append k41 (w0:=w) w.heap.size rfl (.tmp 70) (.tmp 72) 22 41 (.agg #[(.string ⟨#[]⟩),(.int .i64 0),(.int .i64 0)]) 32 rfl Try.underlying22 info41 rfl (by decide) (by omega) u12 x12_3 (⟨(rd_T41 l0 x13_3).f0,(rd_T41 l0 x13_3).f1,(rd_T41 l0 x13_3).f2⟩:S41) [.string ((rd_T41 l0 x13_3).f0),.int .i64 ((rd_T41 l0 x13_3).f1),.int .i64 ((rd_T41 l0 x13_3).f2)] (fun k_=>k_ ≠ gb106 ∧ k_ ≠ gb108) (fun _=>False) rfl (by first|(go_simp;done)|(go_simp;rfl)) ?aP (fun _ hk=>hk.elim) ?aF ?aO ?aB ?aS ?aL ?_;(case aP=>exact k41_mkM _ _ _ (⟨(rd_T41 l0 x13_3).f0,(rd_T41 l0 x13_3).f1,(rd_T41 l0 x13_3).f2⟩:S41));(case aB=>exact (by repeat (first|(with_reducible first|exact HB.out|apply below_alloc|apply pw_below_drewN|apply below_drew1|refine below_set ?_ GE106.out|refine below_set ?_ GE108.out)|exact HB.out)));(case aF=>exact (fun k_ hk=>⟨Kd.freshB (g:=gb106) (o:=.cells #[.string t102,.int .i64 t103,.int .i64 t104] 41 (0,0)) (by (with_reducible repeat (first|refine blk_drewN ?_ _|refine blk_drew ?_|refine blk_alloc ?_ _));refine blk_far ?_ NB106_108.out _;(with_reducible repeat (first|refine blk_drewN ?_ _|refine blk_drew ?_|refine blk_alloc ?_ _));refine blk_far ?_ NB106_108.out _;(with_reducible repeat (first|refine blk_drewN ?_ _|refine blk_drew ?_|refine blk_alloc ?_ _));refine blk_far ?_ NB106_108.out _;(with_reducible repeat (first|refine blk_drewN ?_ _|refine blk_drew ?_|refine blk_alloc ?_ _));exact BK106.out) k_ hk,Kd.freshB (g:=gb108) (o:=.cells #[.string ((rd_T41 l0 x13_3).f0),.int .i64 ((rd_T41 l0 x13_3).f1),.int .i64 ((rd_T41 l0 x13_3).f2)] 41 (0,0)) (by (with_reducible repeat (first|refine blk_drewN ?_ _|refine blk_drew ?_|refine blk_alloc ?_ _));refine blk_put (cs:=#[.string ((rd_T41 l0 x13_3).f0),.int .i64 ((rd_T41 l0 x13_3).f1),.int .i64 0]) ?_ 2 _ rfl;(with_reducible repeat (first|refine blk_drewN ?_ _|refine blk_drew ?_|refine blk_alloc ?_ _));refine blk_put (cs:=#[.string ((rd_T41 l0 x13_3).f0),.int .i64 0,.int .i64 0]) ?_ 1 _ rfl;(with_reducible repeat (first|refine blk_drewN ?_ _|refine blk_drew ?_|refine blk_alloc ?_ _));refine blk_put (cs:=#[.string (⟨#[]⟩:ByteArray),.int .i64 0,.int .i64 0]) ?_ 0 _ rfl;(with_reducible repeat (first|refine blk_drewN ?_ _|refine blk_drew ?_|refine blk_alloc ?_ _));exact BK108.out) k_ hk⟩));(case aO=>exact (by (with_reducible repeat (first|apply Kd.R_alloc|apply Kd.R_drewN|apply Kd.R_drew));exact Kd.R_mono (Kd.R_far (p:=⟨gb108,2,none⟩) (Kd.R_far (p:=⟨gb108,1,none⟩) (Kd.R_far (p:=⟨gb108,0,none⟩) (Kd.R_mono HO_12.out (fun k_ hk=>(⟨hk,hk.2⟩:_ ∧ k_ ≠ gb108))) (fun _ hk=>hk.2) (.string ((rd_T41 l0 x13_3).f0))) (fun _ hk=>hk.2) (.int .i64 ((rd_T41 l0 x13_3).f1))) (fun _ hk=>hk.2) (.int .i64 ((rd_T41 l0 x13_3).f2))) (fun _ hk=>⟨hk.1.1,hk.1.2⟩)));(case aS=>exact (below_size (by repeat (first|(with_reducible first|exact HB.out|apply below_alloc|apply pw_below_drewN|apply below_drew1|refine below_set ?_ GE106.out|refine below_set ?_ GE108.out)|exact HB.out))));(case aL=>have:=LMc29.out;omega);intro v113 w33 ho hb hg hat;rw [← Ny112.out] at ho;have n0_:=Aside0.mk (blk_grown (g:=gb106) (o:=.cells #[.string t102,.int .i64 t103,.int .i64 t104] 41 (0,0)) (by (with_reducible repeat (first|refine blk_drewN ?_ _|refine blk_drew ?_|refine blk_alloc ?_ _));refine blk_far ?_ NB106_108.out _;(with_reducible repeat (first|refine blk_drewN ?_ _|refine blk_drew ?_|refine blk_alloc ?_ _));refine blk_far ?_ NB106_108.out _;(with_reducible repeat (first|refine blk_drewN ?_ _|refine blk_drew ?_|refine blk_alloc ?_ _));refine blk_far ?_ NB106_108.out _;(with_reducible repeat (first|refine blk_drewN ?_ _|refine blk_drew ?_|refine blk_alloc ?_ _));exact BK106.out) hg (Kd.R_away HO_12.out (fun _ hk=>hk.1)));have n1_:=Aside0.mk (blk_grown (g:=gb108) (o:=.cells #[.string ((rd_T41 l0 x13_3).f0),.int .i64 ((rd_T41 l0 x13_3).f1),.int .i64 ((rd_T41 l0 x13_3).f2)] 41 (0,0)) (by (with_reducible repeat (first|refine blk_drewN ?_ _|refine blk_drew ?_|refine blk_alloc ?_ _));refine blk_put (cs:=#[.string ((rd_T41 l0 x13_3).f0),.int .i64 ((rd_T41 l0 x13_3).f1),.int .i64 0]) ?_ 2 _ rfl;(with_reducible repeat (first|refine blk_drewN ?_ _|refine blk_drew ?_|refine blk_alloc ?_ _));refine blk_put (cs:=#[.string ((rd_T41 l0 x13_3).f0),.int .i64 0,.int .i64 0]) ?_ 1 _ rfl;(with_reducible repeat (first|refine blk_drewN ?_ _|refine blk_drew ?_|refine blk_alloc ?_ _));refine blk_put (cs:=#[.string (⟨#[]⟩:ByteArray),.int .i64 0,.int .i64 0]) ?_ 0 _ rfl;(with_reducible repeat (first|refine blk_drewN ?_ _|refine blk_drew ?_|refine blk_alloc ?_ _));exact BK108.out) hg (Kd.R_away HO_12.out (fun _ hk=>hk.2)));have n2_:=Aside0.mk (hb);have n3_:=Aside0.mk (ho);clear BK106;clear BK108;clear HB;clear HO_12;have BK106:=n0_;have BK108:=n1_;have HB:=n2_;have HO114:=n3_;clear n0_ n1_ n2_ n3_;clear ho hb hg hat))
               go_roundg k3
               case measure=>have:=HJ7.out;have:=HK2.out;have:=HK3.out;omega
               case rel=>exact ⟨(y112),(wrap64 (x13_3 + 1)),(by first|rfl|(simp;done)|(simp [*];done)),H',⟨by have:=HJ7.out;have:=HK2.out;have:=HK3.out;omega⟩,⟨by (with_reducible repeat (first|apply Kd.R_alloc|apply Kd.R_drewN|apply Kd.R_drew));exact Kd.R_mono HO114.out (fun _ hk=>hk.1)⟩,⟨by (with_reducible repeat (first|refine blk_drewN ?_ _|refine blk_drew ?_|refine blk_alloc ?_ _));exact BK106.out⟩,⟨by repeat (first|(with_reducible first|exact HB.out|apply below_alloc|apply pw_below_drewN|apply below_drew1|refine below_set ?_ GE106.out|refine below_set ?_ GE108.out)|exact HB.out)⟩⟩
              ·rw [if_neg c29] at H
               exact absurd H (by simp)
            ·rw [if_neg c22] at H
             exact absurd H (by simp)
           ·rw [if_neg c21] at H
            have c21b0:decide (x13_3 < (l0.length:Int)) = false:=decide_eq_false c21
            clear c21
            simp only [Option.some.injEq,Prod.mk.injEq] at H
            obtain ⟨rfl,rfl⟩:=H
            go_wp2
            go_ret2
            exact ⟨_,by first|rfl|(simp [errW_none,errW_some] <;> rfl)|(simp [*,errW_none,errW_some] <;> rfl),by (with_reducible repeat (first|apply Kd.R_alloc|apply Kd.R_drewN|apply Kd.R_drew));exact Kd.R_mono HO_12.out (fun _ hk=>trivial),by repeat (first|(with_reducible first|exact HB.out|apply below_alloc|apply pw_below_drewN|apply below_drew1|refine below_set ?_ GE106.out)|exact HB.out)⟩
  ·replace c7:=Bool.eq_false_iff.mpr c7
   subst c7
   have H1:(some (([]:List (S41)),11)) = some (r1,r2):=by rw [if_neg (show ¬ (false = true) by decide)] at H;exact H
   clear H
   have H:=H1
   clear H1
   simp only [Option.some.injEq,Prod.mk.injEq] at H
   obtain ⟨rfl,rfl⟩:=H
   go_enter Try.func9,Try.ntmps9
   go_wp2_with (first|((with_reducible refine gate_callee (f:=19) rfl ?_);refine goesL_ (some 16) rfl rfl Try.func19 (by kernel_rfl) rfl #[.slice A0 l0.length c0] rfl (by (try simp only [List.map_toArray,List.map_cons,List.map_nil]);first|done|rfl|(simp only [List.length_drop,List.length_take];rfl)) ?_;(with_reducible refine (contangoref41_Check.calls k _ _ l0 t101 _ ?side1 ?side2 A4.out).mono ?_);(case side1=>repeat (first|exact HR0.out|(with_reducible refine Kd.C_alloc ?_ _)|(with_reducible refine Kd.C_drewN ?_ _)|(with_reducible refine Kd.C_drew ?_)));(case side2=>exact HC0.out);rintro e w' ⟨rfl,⟨nd,rfl⟩⟩;refine ⟨_,rfl,?_⟩)|((with_reducible refine gate_callee (f:=18) rfl ?_);refine goesL_ (some 23) rfl rfl Try.func18 (by kernel_rfl) rfl #[.slice A0 l0.length c0,.string a1] rfl (by (try simp only [List.map_toArray,List.map_cons,List.map_nil]);first|done|rfl|(simp only [List.length_drop,List.length_take];rfl)) ?_;(with_reducible refine (contangoref41_Of.calls k _ _ l0 a1 t102 t103 t104 false _ ?side1 ?side2 A6.out).mono ?_);(case side1=>repeat (first|exact HR0.out|(with_reducible refine Kd.C_alloc ?_ _)|(with_reducible refine Kd.C_drewN ?_ _)|(with_reducible refine Kd.C_drew ?_)));(case side2=>exact HC0.out);rintro e w34 ⟨rfl,hb⟩;refine ⟨_,rfl,?_⟩;have n0_:=Aside0.mk (below_step (by repeat (first|(with_reducible first|exact HB.out|apply below_alloc|apply pw_below_drewN|apply below_drew1)|exact HB.out)) hb);clear HB;have HB:=n0_;clear n0_;(try clear hb);(try clear hb2);(try clear hk);(try clear hi))|((with_reducible refine gate_dst (N:=9) rfl ?_);refine box_event ?hg (N:=9) ?hd (cs:=#[.string (⟨#[]⟩:ByteArray),.int .i64 0,.int .i64 0]) (t:=41) ?hr ?_;(case hd=>rfl);(case hg=>rfl);(case hr=>first|(go_simp;done)|(go_simp;rfl));intro gb106 hg w35 hbox hb;have n0_:=Aside0.mk (below_step (by repeat (first|(with_reducible first|exact HB.out|apply below_alloc|apply pw_below_drewN|apply below_drew1)|exact HB.out)) hb);have n1_:=Aside0.mk (hbox);have n2_:=Aside0.mk ((by rw [hg];exact (below_size (by repeat (first|(with_reducible first|exact HB.out|apply below_alloc|apply pw_below_drewN|apply below_drew1)|exact HB.out))):w.heap.size ≤ gb106));have n3_:=Aside0.mk ((by rw [hg];exact (below_size (by repeat (first|(with_reducible first|exact HB.out|apply below_alloc|apply pw_below_drewN|apply below_drew1)|exact HB.out))):w.heap.size ≤ gb106));clear HB;have HB:=n0_;have BK106:=n1_;have GW106:=n2_;have GE106:=n3_;clear n0_ n1_ n2_ n3_;clear hb hbox hg;have hcz36_0:w35.cell? ⟨gb106,0,none⟩ = some (.string (⟨#[]⟩:ByteArray)):=(blk_cell BK106.out 0).trans rfl;have hcz36_1:w35.cell? ⟨gb106,1,none⟩ = some (.int .i64 0):=(blk_cell BK106.out 1).trans rfl;have hcz36_2:w35.cell? ⟨gb106,2,none⟩ = some (.int .i64 0):=(blk_cell BK106.out 2).trans rfl;have hfz36_0:=blk_frozen BK106.out 0;have hfz36_1:=blk_frozen BK106.out 1;have hfz36_2:=blk_frozen BK106.out 2;have hq36_0:∀ a b c d:Value,((((w35.setCell ⟨gb106,0,none⟩ a).setCell ⟨gb106,1,none⟩ b).setCell ⟨gb106,2,none⟩ c).setCell ⟨gb106,1,none⟩ d).cell? ⟨gb106,0,none⟩ = some a:=fun a b c d=>(blk_cell (blk_put (cs:=#[a,b,c]) (blk_put (cs:=#[a,b,.int .i64 0]) (blk_put (cs:=#[a,.int .i64 0,.int .i64 0]) (blk_put BK106.out 0 a rfl) 1 b rfl) 2 c rfl) 1 d rfl) 0).trans rfl;have hq36_1:∀ a b c d:Value,((((w35.setCell ⟨gb106,0,none⟩ a).setCell ⟨gb106,1,none⟩ b).setCell ⟨gb106,2,none⟩ c).setCell ⟨gb106,1,none⟩ d).cell? ⟨gb106,1,none⟩ = some d:=fun a b c d=>(blk_cell (blk_put (cs:=#[a,b,c]) (blk_put (cs:=#[a,b,.int .i64 0]) (blk_put (cs:=#[a,.int .i64 0,.int .i64 0]) (blk_put BK106.out 0 a rfl) 1 b rfl) 2 c rfl) 1 d rfl) 1).trans rfl;have hq36_2:∀ a b c d:Value,((((w35.setCell ⟨gb106,0,none⟩ a).setCell ⟨gb106,1,none⟩ b).setCell ⟨gb106,2,none⟩ c).setCell ⟨gb106,1,none⟩ d).cell? ⟨gb106,2,none⟩ = some c:=fun a b c d=>(blk_cell (blk_put (cs:=#[a,b,c]) (blk_put (cs:=#[a,b,.int .i64 0]) (blk_put (cs:=#[a,.int .i64 0,.int .i64 0]) (blk_put BK106.out 0 a rfl) 1 b rfl) 2 c rfl) 1 d rfl) 2).trans rfl))
   go_ret2
   exact ⟨_,by first|rfl|(simp [errW_none,errW_some] <;> rfl)|(simp [*,errW_none,errW_some] <;> rfl),by first|exact Kd.R_nil _ _ _ _ _|exact Kd.N_nil _ _ _ _ _|exact Kd.V_nil _ _ _ _ _|exact Kd.Q_nil _ _ _ _ _|exact Kd.S_nil _ _ _ _ _,by repeat (first|(with_reducible first|exact HB.out|apply below_alloc|apply pw_below_drewN|apply below_drew1|refine below_set ?_ GE106.out)|exact HB.out)⟩
 ·rw [if_neg c5] at H
  have c5b0:(t101 == 0) = false:=beq_eq_false_iff_ne.mpr c5
  have c5b1:(t101 != 0) = true:=bne_iff_ne.mpr c5
  simp only [Option.some.injEq,Prod.mk.injEq] at H
  obtain ⟨rfl,rfl⟩:=H
  go_enter Try.func9,Try.ntmps9
  go_wp2_with (first|((with_reducible refine gate_callee (f:=19) rfl ?_);refine goesL_ (some 16) rfl rfl Try.func19 (by kernel_rfl) rfl #[.slice A0 l0.length c0] rfl (by (try simp only [List.map_toArray,List.map_cons,List.map_nil]);first|done|rfl|(simp only [List.length_drop,List.length_take];rfl)) ?_;(with_reducible refine (contangoref41_Check.calls k _ _ l0 t101 _ ?side1 ?side2 A4.out).mono ?_);(case side1=>repeat (first|exact HR0.out|(with_reducible refine Kd.C_alloc ?_ _)|(with_reducible refine Kd.C_drewN ?_ _)|(with_reducible refine Kd.C_drew ?_)));(case side2=>exact HC0.out);rintro e w' ⟨rfl,⟨nd,rfl⟩⟩;refine ⟨_,rfl,?_⟩))
  go_ret2
  exact ⟨_,by first|rfl|(simp [errW_none,errW_some] <;> rfl)|(simp [*,errW_none,errW_some] <;> rfl),by first|exact Kd.R_nil _ _ _ _ _|exact Kd.N_nil _ _ _ _ _|exact Kd.V_nil _ _ _ _ _|exact Kd.Q_nil _ _ _ _ _|exact Kd.S_nil _ _ _ _ _,by repeat (first|(with_reducible first|exact HB.out|apply below_alloc|apply pw_below_drewN|apply below_drew1)|exact HB.out)⟩
end Go.Proofs.Ytgmelgkcoejknaa.X
end
section
namespace Go.Proofs.Ytgmelgkcoejknaa.P
set_option linter.unusedVariables false
set_option linter.unusedSimpArgs false
open Go.RowKit Go.Proofs.YtgmelgkcoejknaaW.PrintWords Go.Proofs.YtgmelgkcoejknaaW.PrintMore Go.Proofs.Ytgmelgkcoejknaa.X
theorem rest_rng {c:PC} (h:restErr c = 0):1 ≤ c.f1 ∧ c.f1 ≤ 7 ∧ dayB c.f2 = true:=by
 unfold restErr at h
 by_cases h1:c.f1 < 1 ∨ 7 < c.f1
 ·rw [if_pos h1] at h;exact absurd h (by decide)
 ·rw [if_neg h1] at h
  by_cases h2:dayB c.f2 = true
  ·exact ⟨by omega,by omega,h2⟩
  ·rw [if_neg h2] at h;exact absurd h (by decide)
def skips (s t:Int):Bool:=decide (s ≤ 2 ∧ 2 < t) || decide (s ≤ 5 ∧ 5 < t) || decide (s ≤ 6 ∧ 6 < t)
def mustB (s:Int):Bool:=s == 2 || s == 5 || s == 6
theorem must_f (s:Int):suspend_must.f s = some (mustB s):=by
 unfold suspend_must.f mustB
 by_cases h2:s = 2
 ·subst h2;rfl
 ·rw [if_neg h2]
  by_cases h5:s = 5
  ·subst h5;rfl
  ·rw [if_neg h5,beq_eq_false_iff_ne.2 h2,beq_eq_false_iff_ne.2 h5,Bool.false_or,Bool.false_or]
theorem skips_must {s t:Int} (h:s < t) (hm:mustB s = true):skips s t = true:=by
 unfold mustB at hm
 simp only [Bool.or_eq_true,beq_iff_eq] at hm
 unfold skips
 simp only [Bool.or_eq_true,decide_eq_true_eq]
 omega
theorem skips_next {s t:Int} (h:s < t) (hm:mustB s = false):skips s t = skips (s + 1) t:=by
 unfold mustB at hm
 simp only [Bool.or_eq_false_iff,beq_eq_false_iff_ne] at hm
 unfold skips
 rw [Bool.eq_iff_iff]
 simp only [Bool.or_eq_true,decide_eq_true_eq]
 omega
theorem skips_end {s t:Int} (h:t ≤ s):skips s t = false:=by
 unfold skips
 rw [← Bool.not_eq_true]
 simp only [Bool.or_eq_true,decide_eq_true_eq]
 omega
theorem clone_f (l:List PC) (hl:l.length < 137438953472):suspend_Case_25.f l = some l:=by
 unfold suspend_Case_25.f
 rw [if_pos hl]
def setC (l:List PC) (p:Nat) (t:Int):List PC:=match l[p]? with|some c=>l.set p ⟨c.f0,t,c.f2⟩|none=>l
theorem stepLoop (l:List PC) (hl:l.length < 137438953472) (t:Int) (ht:t ≤ 7) (p:Nat) (hp:p < l.length):∀ (d:Nat) (s:Int),0 ≤ s → (t - s).toNat = d → Ev (fun k=>suspend_Step.l0 k l t p s) (if skips s t = true then ([],13) else (setC l p t,0))
 | 0,s,h0,hd=>by
  have hge:t ≤ s:=by omega
  rw [skips_end hge,if_neg (by decide)]
  refine Ev_succ ?_
  simp only [suspend_Step.l0,if_neg (show ¬ s < t by omega),clone_f l hl,Option.bind_some,if_pos (show 0 ≤ (p:Int) by omega),if_pos (show (p:Int) < (l.length:Int) by omega),rdPC l p hp]
  have e:setC l p t = l.set (p:Int).toNat ⟨l[p].f0,t,l[p].f2⟩:=by unfold setC;simp [hp]
  rw [e]
  exact Ev.now _
 | d + 1,s,h0,hd=>by
  have hlt:s < t:=by omega
  refine Ev_succ ?_
  simp only [suspend_Step.l0,if_pos hlt,must_f,Option.bind_some]
  by_cases hm:mustB s = true
  ·rw [if_pos (skips_must hlt hm)]
   simp only [if_pos hm]
   exact Ev.now _
  ·simp only [if_neg hm]
   rw [skips_next hlt (by simpa using hm),w_id (by omega) (by omega)]
   exact stepLoop l hl t ht p hp d (s + 1) (by omega) (by omega)
def stepR (l:List PC) (m:ByteArray) (t:Int):List PC × Int :=
 if caseCheck l = 0 then
  (if placeIs l m = true then
   (if t ≤ (rd_T37 l (placeAt l m:Int)).f1 ∨ 7 < t then ([],13) else if skips ((rd_T37 l (placeAt l m:Int)).f1 + 1) t = true then ([],13) else (setC l (placeAt l m) t,0))
  else ([],11))
 else ([],caseCheck l)
theorem stepJ (l:List PC) (hl:l.length < 137438953472) (t:Int) (p:Nat) (hp:p < l.length) (b:Bool) (hb:b = false → t ≤ 7) (h1:1 ≤ l[p].f1) (h7:l[p].f1 ≤ 7) :
  Ev (fun k=>suspend_Step.j0 k l t p b) (if b = true then ([],13) else if skips (l[p].f1 + 1) t = true then ([],13) else (setC l p t,0)):=by
 refine Ev_succ ?_
 cases b with
 | true=>simp only [suspend_Step.j0,if_true];exact Ev.now _
 | false =>
  simp only [suspend_Step.j0,Bool.false_eq_true,if_false,if_pos (show 0 ≤ (p:Int) by omega),if_pos (show (p:Int) < (l.length:Int) by omega),rdPC l p hp]
  rw [w_id (by omega) (by omega)]
  exact stepLoop l hl t (hb rfl) p hp _ _ (by omega) rfl
theorem place_f (l:List PC) (m:ByteArray) (hl:l.length ≤ 4611686018427387903):suspend_place.f l m = some ((placeAt l m:Int),placeIs l m):=by
 unfold suspend_place.f
 rw [if_pos hl]
theorem step_f (l:List PC) (m:ByteArray) (t:Int) (hl:l.length ≤ 4611686018427387904):Ev (fun k=>suspend_Step.f k l m t) (stepR l m t):=by
 unfold suspend_Step.f stepR
 refine Ev_bind (caseCheck_f l hl) ?_
 by_cases hc:caseCheck l = 0
 ·obtain ⟨hlen,_⟩:=caseCheck_len hc
  simp only [if_pos hc,place_f l m (by omega),Option.bind_some]
  by_cases hi:placeIs l m = true
  ·obtain ⟨hp,_⟩:=(placeIs_iff _ _).1 hi
   have hr:=rest_rng (caseGo_all l none (caseCheck_len hc).2 _ (List.getElem_mem hp)).2
   simp only [if_pos hi,if_pos (show 0 ≤ (placeAt l m:Int) by omega),if_pos (show (placeAt l m:Int) < (l.length:Int) by omega),rdPC l _ hp]
   by_cases h1:t ≤ l[placeAt l m].f1
   ·simp only [if_pos h1,if_pos (show t ≤ l[placeAt l m].f1 ∨ 7 < t from .inl h1)]
    exact stepJ l (by omega) t _ hp true (fun h=>by cases h) hr.1 hr.2.1
   ·simp only [if_neg h1]
    have:=stepJ l (by omega) t _ hp (decide (t > 7)) (fun h=>by rw [decide_eq_false_iff_not] at h;omega) hr.1 hr.2.1
    by_cases h7:7 < t
    ·rw [if_pos (Or.inr h7)]
     rw [decide_eq_true (show t > 7 from h7)] at this ⊢
     exact this
    ·rw [if_neg (by omega)]
     rw [decide_eq_false (show ¬ t > 7 from h7)] at this ⊢
     exact this
  ·simp only [if_neg hi]
   exact Ev.now _
 ·simp only [if_neg hc]
  exact Ev.now _
end Go.Proofs.Ytgmelgkcoejknaa.P
end
section
namespace Go.Proofs.Ytgmelgkcoejknaa.P
set_option linter.unusedVariables false
set_option linter.unusedSimpArgs false
open Go.RowKit Go.Proofs.YtgmelgkcoejknaaW.PrintWords Go.Proofs.YtgmelgkcoejknaaW.PrintMore Go.Proofs.Ytgmelgkcoejknaa.X
def toR (c:PC):RC:=⟨c.f0,c.f1,c.f2⟩
theorem ofLoop (l:List PC) (m:ByteArray) (hl:l.length ≤ 4611686018427387904):∀ (d i:Nat),i + d = l.length → Ev (fun k=>suspend_Of.l0 k m l l.length i) (ofR m ((l.map toR).drop i))
 | 0,i,hd=>by
  refine Ev_succ ?_
  simp only [suspend_Of.l0,if_neg (show ¬ ((i:Int) < (l.length:Int)) by omega)]
  rw [List.drop_of_length_le (by rw [List.length_map];omega)]
  exact Ev.now _
 | d + 1,i,hd=>by
  have hi:i < l.length:=by omega
  have ih:=ofLoop l m hl d (i + 1) (by omega)
  have hi':i < (l.map toR).length:=by simpa using hi
  rw [drop_cons (l.map toR) i hi']
  have e:(l.map toR)[i] = toR l[i]:=by simp
  rw [e]
  refine Ev_succ ?_
  by_cases c:l[i].f0.toList = m.toList
  ·have e2:ofR m (toR l[i] :: (l.map toR).drop (i + 1)) = (l[i].f0,l[i].f1,l[i].f2,true):=by
    unfold ofR
    rw [if_pos (show (toR l[i]).f0.toList = m.toList from c)]
    rfl
   rw [e2]
   simp only [suspend_Of.l0,if_pos (show (i:Int) < (l.length:Int) by omega),if_pos (show 0 ≤ (i:Int) by omega),rdPC l i hi,if_pos c]
   exact Ev.now _
  ·have e2:ofR m (toR l[i] :: (l.map toR).drop (i + 1)) = ofR m ((l.map toR).drop (i + 1)):=by
    show (if (toR l[i]).f0.toList = m.toList then _ else _) = _
    rw [if_neg (show ¬ (toR l[i]).f0.toList = m.toList from c)]
   rw [e2]
   simp only [suspend_Of.l0,if_pos (show (i:Int) < (l.length:Int) by omega),if_pos (show 0 ≤ (i:Int) by omega),rdPC l i hi,w_succ hi (by omega),if_neg c]
   exact ih
theorem of_f (l:List PC) (m:ByteArray) (hl:l.length ≤ 4611686018427387904):Ev (fun k=>suspend_Of.f k l m) (ofR m (l.map toR)):=by
 have:=ofLoop l m hl l.length 0 (by omega)
 rw [List.drop_zero] at this
 exact this
theorem of_at (l:List PC) (m:ByteArray) (hs:l.Pairwise LtC) {p:Nat} (hp:p < l.length) (e:l[p].f0.toList = m.toList):ofR m (l.map toR) = (l[p].f0,l[p].f1,l[p].f2,true):=by
 have h:=ofR_some (l.map toR) m p (by simpa using hp) (fun i hi hl he=>by
  have hi':i < l.length:=by simpa using hi
  have he':l[i].f0.toList = m.toList:=by simpa [toR] using he
  have h1:=place_of hs hi' he'
  have h2:=place_of hs hp e
  omega) (by simpa [toR] using e)
 simpa [toR] using h
theorem caseGo_names:∀ (l l':List PC) (p:Option ByteArray),l.map (·.f0) = l'.map (·.f0) → (∀ c ∈ l',restErr c = 0) → caseGo p l = 0 → caseGo p l' = 0
 | [],[],p,_,_,h=>h
 | [],c :: t,p,e,_,_=>by simp at e
 | c :: t,[],p,e,_,_=>by simp at e
 | c :: t,c' :: t',p,e,h',h=>by
  obtain ⟨h1,h2,h3,h4⟩:=caseGo_cons h
  simp only [List.map_cons,List.cons.injEq] at e
  have ih:=caseGo_names t t' (some c.f0) e.2 (fun d hd=>h' d (List.mem_cons_of_mem _ hd)) h4
  unfold caseGo
  rw [← e.1,if_pos h1,h2,if_neg (by decide),if_pos (h' c' List.mem_cons_self)]
  exact ih
theorem setC_at (l:List PC) (p:Nat) (hp:p < l.length) (t:Int):setC l p t = l.set p ⟨l[p].f0,t,l[p].f2⟩:=by unfold setC;simp [hp]
theorem setC_len (l:List PC) (p:Nat) (t:Int):(setC l p t).length = l.length:=by
 unfold setC
 cases l[p]? <;> simp
theorem setC_names (l:List PC) (p:Nat) (hp:p < l.length) (t:Int):l.map (·.f0) = (setC l p t).map (·.f0):=by
 rw [setC_at l p hp t]
 apply List.ext_getElem
 ·simp
 ·intro i h1 h2
  simp only [List.getElem_map,List.getElem_set]
  by_cases e:p = i
  ·subst e;simp
  ·simp [e]
theorem setC_check {l:List PC} (h:caseCheck l = 0) {p:Nat} (hp:p < l.length) {t:Int} (h1:1 ≤ t) (h7:t ≤ 7):caseCheck (setC l p t) = 0:=by
 obtain ⟨hl,hg⟩:=caseCheck_len h
 have hall:=caseGo_all l none hg
 have hg':caseGo none (setC l p t) = 0:=by
  refine caseGo_names l _ none (setC_names l p hp t) (fun c hc=>?_) hg
  rw [setC_at l p hp t] at hc
  rcases List.mem_or_eq_of_mem_set hc with hc|rfl
  ·exact (hall c hc).2
  ·have hd:=(rest_rng (hall _ (List.getElem_mem hp)).2).2.2
   unfold restErr
   rw [if_neg (show ¬ (t < 1 ∨ 7 < t) by omega),if_pos hd]
 unfold caseCheck
 rw [setC_len,if_neg (by omega)]
 exact hg'
theorem stepR_ok {l:List PC} {m:ByteArray} {t:Int} (hc:caseCheck l = 0) (h:(stepR l m t).2 = 0) :
  ∃ hp:placeAt l m < l.length,l[placeAt l m].f0.toList = m.toList ∧ l[placeAt l m].f1 < t ∧ t ≤ 7 ∧ (stepR l m t).1 = setC l (placeAt l m) t:=by
 unfold stepR at h ⊢
 rw [if_pos hc] at h ⊢
 by_cases hi:placeIs l m = true
 ·obtain ⟨hp,he⟩:=(placeIs_iff _ _).1 hi
  rw [if_pos hi,rdPC l _ hp] at h ⊢
  by_cases h1:t ≤ l[placeAt l m].f1 ∨ 7 < t
  ·rw [if_pos h1] at h;exact absurd h (by decide)
  ·rw [if_neg h1] at h ⊢
   by_cases h2:skips (l[placeAt l m].f1 + 1) t = true
   ·rw [if_pos h2] at h;exact absurd h (by decide)
   ·rw [if_neg h2]
    exact ⟨hp,he,by omega,by omega,rfl⟩
 ·rw [if_neg hi] at h;exact absurd h (by decide)
end Go.Proofs.Ytgmelgkcoejknaa.P
end
section
namespace Go.Proofs.Ytgmelgkcoejknaa.P
open Go.RowKit Go.Proofs.YtgmelgkcoejknaaW.PrintWords Go.Proofs.YtgmelgkcoejknaaW.PrintMore Go.Proofs.Ytgmelgkcoejknaa.X
set_option maxRecDepth 100000 in
theorem goes41:Ev (fun k=>contangolaw41_goes.f k) true:=Ev.of (k:=40) (contangolaw41_goes.mono) (by decide +kernel)
end Go.Proofs.Ytgmelgkcoejknaa.P
end
section
namespace Go.Proofs.Ytgmelgkcoejknaa.Pure
set_option linter.unusedVariables false
set_option linter.unusedSimpArgs false
open Go.RowKit Go.Proofs.YtgmelgkcoejknaaW.PrintWords Go.Proofs.YtgmelgkcoejknaaW.PrintMore Go.Proofs.Ytgmelgkcoejknaa.X Go.Proofs.Ytgmelgkcoejknaa.P
theorem onlyRest (m:ByteArray) (x:List Int) (l l':List PC) (n i:Int) (hl:l.length ≤ 32) (he:l'.length = l.length) (hsame:∀ j (h:j < l.length),l[j].f0.toList ≠ m.toList → l'[j]'(by omega) = l[j]) (h:Ev (fun k=>contangolaw41_SuspendOnly.l0 k m x l' (wrap64 (n + 1)) (wrap64 (i + 1))) true) :
    ∀ (d j:Nat),j + d = l.length → Ev (fun k=>contangolaw41_SuspendOnly.l1 k m x l n i l' j) true
  | 0,j,hd=>by
    refine Ev_succ ?_
    simp only [contangolaw41_SuspendOnly.l1,if_neg (show ¬ ((j:Int) < (l.length:Int)) by omega)]
    exact h
  | d + 1,j,hd=>by
    have hj:j < l.length:=by omega
    have ih:=onlyRest m x l l' n i hl he hsame h d (j + 1) (by omega)
    refine Ev_succ ?_
    simp only [contangolaw41_SuspendOnly.l1,if_pos (show (j:Int) < (l.length:Int) by omega),if_pos (show 0 ≤ (j:Int) by omega),rdPC l j hj,w_succ hj (by omega)]
    by_cases c:l[j].f0.toList = m.toList
    · simp only [if_pos c];exact ih
    · have e:=hsame j hj c
      simp only [if_neg c,if_pos (show (j:Int) < (l'.length:Int) by omega),rdPC l' j (by omega),e,beq_self_eq_true,Bool.not_true,Bool.or_self,Bool.false_eq_true,if_false]
      exact ih
theorem onlyLoop (m:ByteArray) (x:List Int) (hx:x.length ≤ 40):∀ (d i:Nat) (l:List PC) (n:Nat),i + d = x.length → caseCheck l = 0 → (n = 0 ∨ ∃ hp:placeAt l m < l.length,l[placeAt l m].f0.toList = m.toList ∧ (n:Int) + 1 ≤ l[placeAt l m].f1) → Ev (fun k=>contangolaw41_SuspendOnly.l0 k m x l n i) true
  | 0,i,l,n,hd,hc,hi=>by
    obtain ⟨hl,hg⟩:=caseCheck_len hc
    have hn:n ≤ 6:=by
      rcases hi with hi|⟨hp,_,hi⟩
      · omega
      · have:=(rest_rng (caseGo_all l none hg _ (List.getElem_mem hp)).2).2.1
        omega
    refine Ev_succ ?_
    simp only [contangolaw41_SuspendOnly.l0,if_neg (show ¬ ((i:Int) < (x.length:Int)) by omega),if_pos (show (n:Int) ≤ 6 by omega)]
    refine Ev_bind (caseCheck_f l (by omega)) ?_
    simp only [if_pos hc]
    exact Ev_id goes41
  | d + 1,i,l,n,hd,hc,hi=>by
    have hlt:i < x.length:=by omega
    obtain ⟨hl,hg⟩:=caseCheck_len hc
    refine Ev_succ ?_
    simp only [contangolaw41_SuspendOnly.l0,if_pos (show (i:Int) < (x.length:Int) by omega),if_pos (show 0 ≤ (i:Int) by omega)]
    refine Ev_bind (of_f l m (by omega)) ?_
    refine Ev_bind (step_f l m (rd x i) (by omega)) ?_
    by_cases h0:(stepR l m (rd x i)).2 = 0
    · obtain ⟨hp,he,h1,h7,hset⟩:=stepR_ok hc h0
      simp only [if_pos h0,hset]
      have hs:=caseCheck_sorted hc
      have hr:=(rest_rng (caseGo_all l none hg _ (List.getElem_mem hp)).2).1
      have hc':=setC_check hc hp (t:=rd x i) (by omega) h7
      have hs':=caseCheck_sorted hc'
      obtain ⟨p,hpe⟩:∃ p,p = placeAt l m:=⟨_,rfl⟩
      have hp':p < (setC l p (rd x i)).length:=by rw [setC_len,hpe];exact hp
      have hpl:p < l.length:=by rw [hpe];exact hp
      have hat:(setC l p (rd x i))[p] = ⟨l[p].f0,rd x i,l[p].f2⟩:=by simp only [setC_at l p hpl];simp
      simp only [← hpe] at he h1 hr hc' hs' hi ⊢
      have ho:=of_at l m hs hpl he
      have ho':=of_at (setC l p (rd x i)) m hs' hp' (by rw [hat];exact he)
      rw [hat] at ho'
      refine Ev_bind (of_f (setC l p (rd x i)) m (by rw [setC_len];omega)) ?_
      simp only [ho,ho',if_true,if_neg (show ¬ rd x i ≤ l[p].f1 by omega),setC_len]
      have hpl':placeAt (setC l p (rd x i)) m = p:=place_of hs' hp' (by rw [hat];exact he)
      have hn:n ≤ 6:=by
        rcases hi with hi|⟨hp,_,hi⟩
        · omega
        · omega
      have hnext:=onlyLoop m x hx d (i + 1) (setC l p (rd x i)) (n + 1) (by omega) hc' (.inr ⟨by rw [hpl'];exact hp',by simp only [hpl',hat];exact he,by
        simp only [hpl',hat]
        rcases hi with hi|⟨_,_,hi⟩
        · subst hi;omega
        · omega⟩)
      refine Ev_succ ?_
      simp only [contangolaw41_SuspendOnly.j1,bne_self_eq_false,Bool.false_eq_true,if_false]
      refine onlyRest m x l (setC l p (rd x i)) n i hl (setC_len _ _ _) (fun j hj hne=>?_) ?_ l.length 0 (by omega)
      · have hjp:p ≠ j:=by
          rintro rfl
          exact hne he
        simp only [setC_at l p hpl]
        simp [List.getElem_set,hjp]
      · rw [w_id (by omega) (by omega),w_id (by omega) (by omega)]
        exact hnext
    · simp only [if_neg h0]
      rw [w_succ hlt (by omega)]
      exact onlyLoop m x hx d (i + 1) l n (by omega) hc hi
theorem SuspendOnly:∀ (l0:List (S41)) (a1:ByteArray) (l2:List (Int)),(l0.length ≤ maxLen ∧ l0.length * 32 ≤ 140737488351232 ∧ ∀ x ∈ l0,ok41 x) → a1.size ≤ 140737488351232 → (l2.length ≤ maxLen ∧ l2.length * 8 ≤ 140737488351232 ∧ ∀ x ∈ l2,(Lit.int .i64 x).wf = true) → ∃ k,X.contangolaw41_SuspendOnly.f k l0 a1 l2 = some true:=by
  intro l m x hl hm hx
  have hlen:l.length ≤ 4398046511103:=by have:=hl.2.1;omega
  apply Ev.rounds
  unfold contangolaw41_SuspendOnly.f
  by_cases h:x.length > 40
  · simp only [if_pos (show (x.length:Int) > 40 by omega)]
    exact Ev_id goes41
  · simp only [if_neg (show ¬ (x.length:Int) > 40 by omega)]
    refine Ev_bind (cases_f l hlen) ?_
    refine Ev_bind (caseCheck_f (l.map toC) (by rw [List.length_map];omega)) ?_
    by_cases hc:caseCheck (l.map toC) = 0
    · simp only [if_pos hc]
      exact onlyLoop m x (by omega) x.length 0 (l.map toC) 0 (by omega) hc (.inl rfl)
    · simp only [if_neg hc]
      exact Ev_id goes41
end Go.Proofs.Ytgmelgkcoejknaa.Pure
end
