/- For ScanParts: contracts, and facts on lists and numbers, that it uses (part 3). -/
import Derived.Test.YtbgeceiddcokmaaScanPartsc2
section
namespace Go.Proofs.Ytbgeceiddcokmaa.X
open Go.RowKit Go.Proofs.YtbgeceiddcokmaaW.PrintWords Go.Proofs.YtbgeceiddcokmaaW.PrintLast Go.Proofs.YtbgeceiddcokmaaW.PrintMore
attribute [local go_sem] max2_int min2_int max_two min_two max_three min_three max_four min_four
set_option linter.unusedVariables false
set_option linter.unusedSimpArgs false
def scan_Delta.l0:Nat → List (S73) → Int → Int → List (S91) → Int → Int → Option (Int × Int)
 | 0,_,_,_,_,_,_=>none
 | k + 1,x0,x4,x5,x15,x16,x17=>if x17 < x16 then (if 0 ≤ x17 then (if x17 < (x15.length:Int) then (if x17 < (x0.length:Int) then (scan_Delta.l0 k x0 (wrap64 (x4 + (wrap64 ((wrap64 (((rd_T73 x0 x17).f1) - ((rd_T73 x0 x17).f2))) * ((rd_T91 x15 x17).f2))))) x5 x15 x16 (wrap64 (x17 + 1))) else (none)) else (none)) else (none)) else (some (x4,x5))
def scan_Delta.f (k:Nat) (l0:List (S73)) (l1:List (S91)):Option (Int × Int):=(scan_found.f k l0 l1).bind fun bt101=>(scan_Delta.l0 k l0 0 bt101.2 bt101.1 (bt101.1.length:Int) 0)
theorem scan_Delta.mono_l:∀ k,(∀ y0 y1 y2 y3 y4 y5,LeO (scan_Delta.l0 k y0 y1 y2 y3 y4 y5) (scan_Delta.l0 (k + 1) y0 y1 y2 y3 y4 y5))
 | 0=>fun _ _ _ _ _ _ r h=>by simp [scan_Delta.l0] at h
 | k + 1=>by
  have ih0:=scan_Delta.mono_l k
  ·intro y0 y1 y2 y3 y4 y5
   unfold scan_Delta.l0
   repeat' first
   | (with_reducible exact ih0 _ _ _ _ _ _)
   | (with_reducible exact scan_found.mono _ _ _)
   | (with_reducible exact LeO.refl _)
   | (with_reducible exact LeO.none _)
   | (with_reducible refine LeO.ite ?_ ?_)
   | (with_reducible refine LeO.bind ?_ (fun _=>?_))
   | exact ih0 _ _ _ _ _ _
   | exact scan_found.mono _ _ _
   | exact LeO.none _
   | refine LeO.ite ?_ ?_
   | refine LeO.bind ?_ (fun _=>?_)
theorem scan_Delta.mono:∀ a0 a1 k,LeO (scan_Delta.f k a0 a1) (scan_Delta.f (k + 1) a0 a1):=by
 intro a0 a1 k
 have ih0:=scan_Delta.mono_l k
 unfold scan_Delta.f
 repeat' first
   | (with_reducible exact ih0 _ _ _ _ _ _)
   | (with_reducible exact scan_found.mono _ _ _)
   | (with_reducible exact LeO.refl _)
   | (with_reducible exact LeO.none _)
   | (with_reducible refine LeO.ite ?_ ?_)
   | (with_reducible refine LeO.bind ?_ (fun _=>?_))
   | exact ih0 _ _ _ _ _ _
   | exact scan_found.mono _ _ _
   | exact LeO.none _
   | refine LeO.ite ?_ ?_
   | refine LeO.bind ?_ (fun _=>?_)
set_option maxHeartbeats 8000000 in
set_option maxRecDepth 100000 in
theorem scan_Delta.calls (k:Nat) (A0:Option Addr) (c0:Nat) (l0:List (S73)) (A1:Option Addr) (c1:Nat) (l1:List (S91)) (r1:Int) (r2:Int) (w:World) (hr0:Kd.C k73 w A0 l0.length l0) (hc0:l0.length ≤ c0) (hr1:Kd.C k91 w A1 l1.length l1) (hc1:l1.length ≤ c1) (h:scan_Delta.f k l0 l1 = some (r1,r2)) :
  Calls Try.prog 36 #[.slice A0 l0.length c0,.slice A1 l1.length c1] w fun e w'=>e = .returned (.tuple #[.int .i64 r1,.int .i64 r2]) ∧ Below w.heap.size w w':=by
 have hu91:=Try.underlying91
 have HR0:=Aside0.mk hr0
 have HC0:=Aside0.mk hc0
 clear hr0 hc0
 have HR1:=Aside0.mk hr1
 have HC1:=Aside0.mk hc1
 clear hr1 hc1
 have HB:=Aside0.mk (Below.refl w.heap.size w)
 have H:((scan_found.f k l0 l1).bind fun bt101=>(scan_Delta.l0 k l0 0 bt101.2 bt101.1 (bt101.1.length:Int) 0)) = some (r1,r2):=h
 clear h
 replace H:=Option.bind_eq_some_iff.mp H
 obtain ⟨⟨t101,t104⟩,A30,H⟩:=H
 replace H:(scan_Delta.l0 k l0 0 t104 t101 (t101.length:Int) 0) = some (r1,r2):=H
 have A3:=Aside0.mk A30
 clear A30
 have H':=Aside0.mk H
 clear H
 go_enter Try.func36,Try.ntmps36
 go_wp2_with (first|(go_at_call 57;(with_reducible refine (scan_found.calls k _ _ l0 (fun k_=>k_ < w.heap.size) _ _ l1 t101 t104 _ ?side1 ?side2 ?side3 A3.out).mono ?_);(case side1=>repeat (first|exact HR0.out|(with_reducible refine Kd.C_alloc ?_ _)|(with_reducible refine Kd.C_drewN ?_ _)|(with_reducible refine Kd.C_drew ?_)));(case side2=>exact HC0.out);(case side3=>exact Kd.V_mk HC1.out (Kd.F_below (Kd.C_F k91_heap HR1.out) (by repeat (first|(with_reducible first|exact HB.out|apply below_alloc|apply pw_below_drewN|apply below_drew1)|exact HB.out))));rintro e w4 ⟨v102,rfl,ho0,hb⟩;have n0_:=Aside0.mk (Kd.N_lower (Kd.N_mono (ok':=fun k_=>True) ho0 (fun k_ hk_=>trivial)) (below_size (by repeat (first|(with_reducible first|exact HB.out|apply below_alloc|apply pw_below_drewN|apply below_drew1)|exact HB.out))));have n1_:=Aside0.mk (below_step (by repeat (first|(with_reducible first|exact HB.out|apply below_alloc|apply pw_below_drewN|apply below_drew1)|exact HB.out)) hb);clear HB;have HO103:=n0_;have HB:=n1_;clear n0_ n1_;(try clear hb);(try clear hb2);(try clear hk);(try clear hi);(try clear ho0);obtain ⟨Ao5,co5,eo5⟩:=Kd.N_slice HO103.out;subst eo5))
 go_loopg [4,17] k (fun kq v4 v17 w'=>∃ (x4_1:Int) (x17_1:Int),v4 = .int .i64 x4_1 ∧ v17 = .int .i64 x17_1 ∧ Aside0 (scan_Delta.l0 kq l0 x4_1 t104 t101 (t101.length:Int) x17_1 = some (r1,r2)) ∧ Aside0 (kq ≤ k) ∧ Aside0 (Kd.N k91 91 w' w.heap.size (fun _=>True) (.slice Ao5 t101.length co5) t101) ∧ Aside0 (Below w.heap.size w w'))
 case atStart=>exact ⟨(0),(0),(by first|rfl|(simp;done)|(simp [*];done)),(by first|rfl|(simp;done)|(simp [*];done)),H',⟨Nat.le_refl _⟩,⟨by (with_reducible repeat (first|apply Kd.N_alloc|apply Kd.N_drewN|apply Kd.N_drew));exact HO103.out⟩,⟨by repeat (first|(with_reducible first|exact HB.out|apply below_alloc|apply pw_below_drewN|apply below_drew1)|exact HB.out)⟩⟩
 case round =>
  clear H'
  try clear c1
  try clear p2
  try clear c3
  obtain ⟨x4_1,x17_1,rfl,rfl,HA,HK1,HO_15,HB⟩:=hrel
  cases gk with
  | zero=>exact absurd HA.out (by simp [scan_Delta.l0])
  | succ k1 =>
   have H:=HA.out
   clear HA
   simp only [scan_Delta.l0] at H
   by_cases c6:x17_1 < (t101.length:Int)
   ·rw [if_pos c6] at H
    have c6b0:decide (x17_1 < (t101.length:Int)) = true:=decide_eq_true c6
    clear c6
    by_cases c7:0 ≤ x17_1
    ·rw [if_pos c7] at H
     have c7b0:decide (0 ≤ x17_1) = true:=decide_eq_true c7
     clear c7
     by_cases c8:x17_1 < (t101.length:Int)
     ·rw [if_pos c8] at H
      have c8b0:decide (x17_1 < (t101.length:Int)) = true:=decide_eq_true c8
      clear c8
      by_cases c9:x17_1 < (l0.length:Int)
      ·rw [if_pos c9] at H
       have c9b0:decide (x17_1 < (l0.length:Int)) = true:=decide_eq_true c9
       clear c9
       have H':=Aside0.mk H
       clear H
       have p105:0 ≤ (x17_1:Int):=of_decide_eq_true (by first|(with_reducible assumption)|assumption)
       have q105:x17_1 < (t101.length:Int):=of_decide_eq_true (by first|(with_reducible assumption)|assumption)
       obtain ⟨ad105,A105_4,c105_4,e105,hx105_0,hx105_1,hx105_2,hx105_3,hx105_4,hx105_5,hl105_4,hi105_4⟩:=at_T91 (Kd.N_reads' HO_15.out).2.2 x17_1 p105 q105
       cases e105
       obtain ⟨ce105,hce105,hMe105,hcc105⟩:=Kd.N_get HO_15.out z91 x17_1 p105 (by first|exact q105|exact of_decide_eq_true (by first|(with_reducible assumption)|assumption)|(have e_:=(Kd.N_reads' HO_15.out).1;omega))
       obtain ⟨ua105_4,uc105_4,rfl,ul105_4,ge105_4⟩:=k91_openF hMe105
       have hv105_4:=hcc105 4 _ rfl
       rw [add_field _ _ 4 (by omega)] at hv105_4
       replace hv105_4:=Option.some.inj (hv105_4.symm.trans hx105_4)
       injection hv105_4 with hva_ hvn_ hvc_
       rw [hva_] at ge105_4
       rw [hvc_] at ul105_4
       have HL105_4:=Aside0.mk (show Kd.V (Kd.int .i64) 3 _ w.heap.size _ _ ((rd_T91 t101 x17_1).f1) from Kd.V_mk ul105_4 ge105_4)
       clear hva_ hvn_ hvc_ ge105_4 ul105_4
       clear hcc105 hce105
       have HR105_4:=Aside0.mk hi105_4
       have HC105_4:=Aside0.mk hl105_4
       clear hi105_4 hl105_4
       replace p105:=eq_true p105
       replace q105:=eq_true q105
       go_wp2_with (first|((with_reducible refine gate_dst (N:=8) rfl ?_);refine box_event ?hg (N:=8) ?hd (cs:=#[.string (⟨#[]⟩:ByteArray),.int .i64 0,.int .i64 0,.int .i64 0,.slice none 0 0,.int .i64 0]) (t:=91) ?hr ?_;(case hd=>rfl);(case hg=>rfl);(case hr=>first|(go_simp;done)|(go_simp;rfl));intro gb106 hg w10 hbox hb;have n0_:=Aside0.mk (Kd.N_below (Kd.N_elderB (by (with_reducible repeat (first|apply Kd.N_alloc|apply Kd.N_drewN|apply Kd.N_drew));exact HO_15.out) gb106 (Nat.le_of_eq hg.symm)) hb);have n1_:=Aside0.mk (Kd.V_below (Kd.V_elderB (by (with_reducible repeat (first|apply Kd.V_alloc|apply Kd.V_drewN|apply Kd.V_drew));exact HL105_4.out) gb106 (Nat.le_of_eq hg.symm)) hb);have n2_:=Aside0.mk (Kd.C_below (by repeat (first|(with_reducible exact HR105_4.out)|(with_reducible refine Kd.C_alloc ?_ _)|(with_reducible refine Kd.C_drewN ?_ _)|(with_reducible refine Kd.C_drew ?_)|exact HR105_4.out)) hb);have n3_:=Aside0.mk (below_step (by repeat (first|(with_reducible first|exact HB.out|apply below_alloc|apply pw_below_drewN|apply below_drew1)|exact HB.out)) hb);have n4_:=Aside0.mk (hbox);have n5_:=Aside0.mk ((by rw [hg];exact (below_size (by repeat (first|(with_reducible first|exact HB.out|apply below_alloc|apply pw_below_drewN|apply below_drew1)|exact HB.out))):w.heap.size ≤ gb106));have n6_:=Aside0.mk ((by rw [hg];exact (below_size (by repeat (first|(with_reducible first|exact HB.out|apply below_alloc|apply pw_below_drewN|apply below_drew1)|exact HB.out))):w.heap.size ≤ gb106));clear HO_15;clear HL105_4;clear HR105_4;clear HB;have HO_15:=n0_;have HL105_4:=n1_;have HR105_4:=n2_;have HB:=n3_;have BK106:=n4_;have GW106:=n5_;have GE106:=n6_;clear n0_ n1_ n2_ n3_ n4_ n5_ n6_;clear hb hbox hg;have hcz11_0:w10.cell? ⟨gb106,0,none⟩ = some (.string (⟨#[]⟩:ByteArray)):=(blk_cell BK106.out 0).trans rfl;have hcz11_1:w10.cell? ⟨gb106,1,none⟩ = some (.int .i64 0):=(blk_cell BK106.out 1).trans rfl;have hcz11_2:w10.cell? ⟨gb106,2,none⟩ = some (.int .i64 0):=(blk_cell BK106.out 2).trans rfl;have hcz11_3:w10.cell? ⟨gb106,3,none⟩ = some (.int .i64 0):=(blk_cell BK106.out 3).trans rfl;have hcz11_4:w10.cell? ⟨gb106,4,none⟩ = some (.slice none 0 0):=(blk_cell BK106.out 4).trans rfl;have hcz11_5:w10.cell? ⟨gb106,5,none⟩ = some (.int .i64 0):=(blk_cell BK106.out 5).trans rfl;have hfz11_0:=blk_frozen BK106.out 0;have hfz11_1:=blk_frozen BK106.out 1;have hfz11_2:=blk_frozen BK106.out 2;have hfz11_3:=blk_frozen BK106.out 3;have hfz11_4:=blk_frozen BK106.out 4;have hfz11_5:=blk_frozen BK106.out 5;have p107:0 ≤ (x17_1:Int):=of_decide_eq_true (by first|(with_reducible assumption)|assumption);have q107:x17_1 < (l0.length:Int):=of_decide_eq_true (by first|(with_reducible assumption)|assumption);obtain ⟨ad107,e107,hx107_0,hx107_1,hx107_2,hx107_3,hx107_4,hx107_5⟩:=at_T73 HR0.out x17_1 p107 q107;cases e107;have hn107_0:ad107.block ≠ gb106:=Nat.ne_of_lt (Nat.lt_of_lt_of_le (by have:=World.block_lt_of_cell? _ _ hx107_0;first|rwa [add_block] at this|exact this) GW106.out);have hn107_1:ad107.block ≠ gb106:=Nat.ne_of_lt (Nat.lt_of_lt_of_le (by have:=World.block_lt_of_cell? _ _ hx107_0;first|rwa [add_block] at this|exact this) GW106.out);have hn107_2:ad107.block ≠ gb106:=Nat.ne_of_lt (Nat.lt_of_lt_of_le (by have:=World.block_lt_of_cell? _ _ hx107_0;first|rwa [add_block] at this|exact this) GW106.out);have hn107_3:ad107.block ≠ gb106:=Nat.ne_of_lt (Nat.lt_of_lt_of_le (by have:=World.block_lt_of_cell? _ _ hx107_0;first|rwa [add_block] at this|exact this) GW106.out);have hn107_4:ad107.block ≠ gb106:=Nat.ne_of_lt (Nat.lt_of_lt_of_le (by have:=World.block_lt_of_cell? _ _ hx107_0;first|rwa [add_block] at this|exact this) GW106.out);have hn107_5:ad107.block ≠ gb106:=Nat.ne_of_lt (Nat.lt_of_lt_of_le (by have:=World.block_lt_of_cell? _ _ hx107_0;first|rwa [add_block] at this|exact this) GW106.out);replace hx107_0:=(HB.out.cell (World.block_lt_of_cell? w _ hx107_0)).trans hx107_0;replace hx107_1:=(HB.out.cell (World.block_lt_of_cell? w _ hx107_1)).trans hx107_1;replace hx107_2:=(HB.out.cell (World.block_lt_of_cell? w _ hx107_2)).trans hx107_2;replace hx107_3:=(HB.out.cell (World.block_lt_of_cell? w _ hx107_3)).trans hx107_3;replace hx107_4:=(HB.out.cell (World.block_lt_of_cell? w _ hx107_4)).trans hx107_4;replace hx107_5:=(HB.out.cell (World.block_lt_of_cell? w _ hx107_5)).trans hx107_5;replace hx107_0:=(cell_far (p:=⟨gb106,0,none⟩) (by first|(rw [add_block];exact hn107_0)|(show (Addr.add _ _).block ≠ _;rw [add_block];exact hn107_0)|exact hn107_0) (.string ((rd_T91 t101 x17_1).f0.f0))).trans hx107_0;replace hx107_1:=(cell_far (p:=⟨gb106,0,none⟩) (by first|(rw [add_block];exact hn107_0)|(show (Addr.add _ _).block ≠ _;rw [add_block];exact hn107_0)|exact hn107_0) (.string ((rd_T91 t101 x17_1).f0.f0))).trans hx107_1;replace hx107_2:=(cell_far (p:=⟨gb106,0,none⟩) (by first|(rw [add_block];exact hn107_0)|(show (Addr.add _ _).block ≠ _;rw [add_block];exact hn107_0)|exact hn107_0) (.string ((rd_T91 t101 x17_1).f0.f0))).trans hx107_2;replace hx107_3:=(cell_far (p:=⟨gb106,0,none⟩) (by first|(rw [add_block];exact hn107_0)|(show (Addr.add _ _).block ≠ _;rw [add_block];exact hn107_0)|exact hn107_0) (.string ((rd_T91 t101 x17_1).f0.f0))).trans hx107_3;replace hx107_4:=(cell_far (p:=⟨gb106,0,none⟩) (by first|(rw [add_block];exact hn107_0)|(show (Addr.add _ _).block ≠ _;rw [add_block];exact hn107_0)|exact hn107_0) (.string ((rd_T91 t101 x17_1).f0.f0))).trans hx107_4;replace hx107_5:=(cell_far (p:=⟨gb106,0,none⟩) (by first|(rw [add_block];exact hn107_0)|(show (Addr.add _ _).block ≠ _;rw [add_block];exact hn107_0)|exact hn107_0) (.string ((rd_T91 t101 x17_1).f0.f0))).trans hx107_5;replace hx107_0:=(cell_far (p:=⟨gb106,1,none⟩) (by first|(rw [add_block];exact hn107_1)|(show (Addr.add _ _).block ≠ _;rw [add_block];exact hn107_1)|exact hn107_1) (.int .i64 ((rd_T91 t101 x17_1).f0.f1))).trans hx107_0;replace hx107_1:=(cell_far (p:=⟨gb106,1,none⟩) (by first|(rw [add_block];exact hn107_1)|(show (Addr.add _ _).block ≠ _;rw [add_block];exact hn107_1)|exact hn107_1) (.int .i64 ((rd_T91 t101 x17_1).f0.f1))).trans hx107_1;replace hx107_2:=(cell_far (p:=⟨gb106,1,none⟩) (by first|(rw [add_block];exact hn107_1)|(show (Addr.add _ _).block ≠ _;rw [add_block];exact hn107_1)|exact hn107_1) (.int .i64 ((rd_T91 t101 x17_1).f0.f1))).trans hx107_2;replace hx107_3:=(cell_far (p:=⟨gb106,1,none⟩) (by first|(rw [add_block];exact hn107_1)|(show (Addr.add _ _).block ≠ _;rw [add_block];exact hn107_1)|exact hn107_1) (.int .i64 ((rd_T91 t101 x17_1).f0.f1))).trans hx107_3;replace hx107_4:=(cell_far (p:=⟨gb106,1,none⟩) (by first|(rw [add_block];exact hn107_1)|(show (Addr.add _ _).block ≠ _;rw [add_block];exact hn107_1)|exact hn107_1) (.int .i64 ((rd_T91 t101 x17_1).f0.f1))).trans hx107_4;replace hx107_5:=(cell_far (p:=⟨gb106,1,none⟩) (by first|(rw [add_block];exact hn107_1)|(show (Addr.add _ _).block ≠ _;rw [add_block];exact hn107_1)|exact hn107_1) (.int .i64 ((rd_T91 t101 x17_1).f0.f1))).trans hx107_5;replace hx107_0:=(cell_far (p:=⟨gb106,2,none⟩) (by first|(rw [add_block];exact hn107_2)|(show (Addr.add _ _).block ≠ _;rw [add_block];exact hn107_2)|exact hn107_2) (.int .i64 ((rd_T91 t101 x17_1).f0.f2))).trans hx107_0;replace hx107_1:=(cell_far (p:=⟨gb106,2,none⟩) (by first|(rw [add_block];exact hn107_2)|(show (Addr.add _ _).block ≠ _;rw [add_block];exact hn107_2)|exact hn107_2) (.int .i64 ((rd_T91 t101 x17_1).f0.f2))).trans hx107_1;replace hx107_2:=(cell_far (p:=⟨gb106,2,none⟩) (by first|(rw [add_block];exact hn107_2)|(show (Addr.add _ _).block ≠ _;rw [add_block];exact hn107_2)|exact hn107_2) (.int .i64 ((rd_T91 t101 x17_1).f0.f2))).trans hx107_2;replace hx107_3:=(cell_far (p:=⟨gb106,2,none⟩) (by first|(rw [add_block];exact hn107_2)|(show (Addr.add _ _).block ≠ _;rw [add_block];exact hn107_2)|exact hn107_2) (.int .i64 ((rd_T91 t101 x17_1).f0.f2))).trans hx107_3;replace hx107_4:=(cell_far (p:=⟨gb106,2,none⟩) (by first|(rw [add_block];exact hn107_2)|(show (Addr.add _ _).block ≠ _;rw [add_block];exact hn107_2)|exact hn107_2) (.int .i64 ((rd_T91 t101 x17_1).f0.f2))).trans hx107_4;replace hx107_5:=(cell_far (p:=⟨gb106,2,none⟩) (by first|(rw [add_block];exact hn107_2)|(show (Addr.add _ _).block ≠ _;rw [add_block];exact hn107_2)|exact hn107_2) (.int .i64 ((rd_T91 t101 x17_1).f0.f2))).trans hx107_5;replace hx107_0:=(cell_far (p:=⟨gb106,3,none⟩) (by first|(rw [add_block];exact hn107_3)|(show (Addr.add _ _).block ≠ _;rw [add_block];exact hn107_3)|exact hn107_3) (.int .i64 ((rd_T91 t101 x17_1).f0.f3))).trans hx107_0;replace hx107_1:=(cell_far (p:=⟨gb106,3,none⟩) (by first|(rw [add_block];exact hn107_3)|(show (Addr.add _ _).block ≠ _;rw [add_block];exact hn107_3)|exact hn107_3) (.int .i64 ((rd_T91 t101 x17_1).f0.f3))).trans hx107_1;replace hx107_2:=(cell_far (p:=⟨gb106,3,none⟩) (by first|(rw [add_block];exact hn107_3)|(show (Addr.add _ _).block ≠ _;rw [add_block];exact hn107_3)|exact hn107_3) (.int .i64 ((rd_T91 t101 x17_1).f0.f3))).trans hx107_2;replace hx107_3:=(cell_far (p:=⟨gb106,3,none⟩) (by first|(rw [add_block];exact hn107_3)|(show (Addr.add _ _).block ≠ _;rw [add_block];exact hn107_3)|exact hn107_3) (.int .i64 ((rd_T91 t101 x17_1).f0.f3))).trans hx107_3;replace hx107_4:=(cell_far (p:=⟨gb106,3,none⟩) (by first|(rw [add_block];exact hn107_3)|(show (Addr.add _ _).block ≠ _;rw [add_block];exact hn107_3)|exact hn107_3) (.int .i64 ((rd_T91 t101 x17_1).f0.f3))).trans hx107_4;replace hx107_5:=(cell_far (p:=⟨gb106,3,none⟩) (by first|(rw [add_block];exact hn107_3)|(show (Addr.add _ _).block ≠ _;rw [add_block];exact hn107_3)|exact hn107_3) (.int .i64 ((rd_T91 t101 x17_1).f0.f3))).trans hx107_5;replace hx107_0:=(cell_far (p:=⟨gb106,4,none⟩) (by first|(rw [add_block];exact hn107_4)|(show (Addr.add _ _).block ≠ _;rw [add_block];exact hn107_4)|exact hn107_4) (.slice A105_4 ((rd_T91 t101 x17_1).f1).length c105_4)).trans hx107_0;replace hx107_1:=(cell_far (p:=⟨gb106,4,none⟩) (by first|(rw [add_block];exact hn107_4)|(show (Addr.add _ _).block ≠ _;rw [add_block];exact hn107_4)|exact hn107_4) (.slice A105_4 ((rd_T91 t101 x17_1).f1).length c105_4)).trans hx107_1;replace hx107_2:=(cell_far (p:=⟨gb106,4,none⟩) (by first|(rw [add_block];exact hn107_4)|(show (Addr.add _ _).block ≠ _;rw [add_block];exact hn107_4)|exact hn107_4) (.slice A105_4 ((rd_T91 t101 x17_1).f1).length c105_4)).trans hx107_2;replace hx107_3:=(cell_far (p:=⟨gb106,4,none⟩) (by first|(rw [add_block];exact hn107_4)|(show (Addr.add _ _).block ≠ _;rw [add_block];exact hn107_4)|exact hn107_4) (.slice A105_4 ((rd_T91 t101 x17_1).f1).length c105_4)).trans hx107_3;replace hx107_4:=(cell_far (p:=⟨gb106,4,none⟩) (by first|(rw [add_block];exact hn107_4)|(show (Addr.add _ _).block ≠ _;rw [add_block];exact hn107_4)|exact hn107_4) (.slice A105_4 ((rd_T91 t101 x17_1).f1).length c105_4)).trans hx107_4;replace hx107_5:=(cell_far (p:=⟨gb106,4,none⟩) (by first|(rw [add_block];exact hn107_4)|(show (Addr.add _ _).block ≠ _;rw [add_block];exact hn107_4)|exact hn107_4) (.slice A105_4 ((rd_T91 t101 x17_1).f1).length c105_4)).trans hx107_5;replace hx107_0:=(cell_far (p:=⟨gb106,5,none⟩) (by first|(rw [add_block];exact hn107_5)|(show (Addr.add _ _).block ≠ _;rw [add_block];exact hn107_5)|exact hn107_5) (.int .i64 ((rd_T91 t101 x17_1).f2))).trans hx107_0;replace hx107_1:=(cell_far (p:=⟨gb106,5,none⟩) (by first|(rw [add_block];exact hn107_5)|(show (Addr.add _ _).block ≠ _;rw [add_block];exact hn107_5)|exact hn107_5) (.int .i64 ((rd_T91 t101 x17_1).f2))).trans hx107_1;replace hx107_2:=(cell_far (p:=⟨gb106,5,none⟩) (by first|(rw [add_block];exact hn107_5)|(show (Addr.add _ _).block ≠ _;rw [add_block];exact hn107_5)|exact hn107_5) (.int .i64 ((rd_T91 t101 x17_1).f2))).trans hx107_2;replace hx107_3:=(cell_far (p:=⟨gb106,5,none⟩) (by first|(rw [add_block];exact hn107_5)|(show (Addr.add _ _).block ≠ _;rw [add_block];exact hn107_5)|exact hn107_5) (.int .i64 ((rd_T91 t101 x17_1).f2))).trans hx107_3;replace hx107_4:=(cell_far (p:=⟨gb106,5,none⟩) (by first|(rw [add_block];exact hn107_5)|(show (Addr.add _ _).block ≠ _;rw [add_block];exact hn107_5)|exact hn107_5) (.int .i64 ((rd_T91 t101 x17_1).f2))).trans hx107_4;replace hx107_5:=(cell_far (p:=⟨gb106,5,none⟩) (by first|(rw [add_block];exact hn107_5)|(show (Addr.add _ _).block ≠ _;rw [add_block];exact hn107_5)|exact hn107_5) (.int .i64 ((rd_T91 t101 x17_1).f2))).trans hx107_5;clear hn107_0;clear hn107_1;clear hn107_2;clear hn107_3;clear hn107_4;clear hn107_5;replace p107:=eq_true p107;replace q107:=eq_true q107;have p108:0 ≤ (x17_1:Int):=of_decide_eq_true (by first|(with_reducible assumption)|assumption);have q108:x17_1 < (l0.length:Int):=of_decide_eq_true (by first|(with_reducible assumption)|assumption);obtain ⟨ad108,e108,hx108_0,hx108_1,hx108_2,hx108_3,hx108_4,hx108_5⟩:=at_T73 HR0.out x17_1 p108 q108;obtain rfl:ad107 = ad108:=(by injection e108);have hn108_0:ad107.block ≠ gb106:=Nat.ne_of_lt (Nat.lt_of_lt_of_le (by have:=World.block_lt_of_cell? _ _ hx108_0;first|rwa [add_block] at this|exact this) GW106.out);have hn108_1:ad107.block ≠ gb106:=Nat.ne_of_lt (Nat.lt_of_lt_of_le (by have:=World.block_lt_of_cell? _ _ hx108_0;first|rwa [add_block] at this|exact this) GW106.out);have hn108_2:ad107.block ≠ gb106:=Nat.ne_of_lt (Nat.lt_of_lt_of_le (by have:=World.block_lt_of_cell? _ _ hx108_0;first|rwa [add_block] at this|exact this) GW106.out);have hn108_3:ad107.block ≠ gb106:=Nat.ne_of_lt (Nat.lt_of_lt_of_le (by have:=World.block_lt_of_cell? _ _ hx108_0;first|rwa [add_block] at this|exact this) GW106.out);have hn108_4:ad107.block ≠ gb106:=Nat.ne_of_lt (Nat.lt_of_lt_of_le (by have:=World.block_lt_of_cell? _ _ hx108_0;first|rwa [add_block] at this|exact this) GW106.out);have hn108_5:ad107.block ≠ gb106:=Nat.ne_of_lt (Nat.lt_of_lt_of_le (by have:=World.block_lt_of_cell? _ _ hx108_0;first|rwa [add_block] at this|exact this) GW106.out);replace hx108_0:=(HB.out.cell (World.block_lt_of_cell? w _ hx108_0)).trans hx108_0;replace hx108_1:=(HB.out.cell (World.block_lt_of_cell? w _ hx108_1)).trans hx108_1;replace hx108_2:=(HB.out.cell (World.block_lt_of_cell? w _ hx108_2)).trans hx108_2;replace hx108_3:=(HB.out.cell (World.block_lt_of_cell? w _ hx108_3)).trans hx108_3;replace hx108_4:=(HB.out.cell (World.block_lt_of_cell? w _ hx108_4)).trans hx108_4;replace hx108_5:=(HB.out.cell (World.block_lt_of_cell? w _ hx108_5)).trans hx108_5;replace hx108_0:=(cell_far (p:=⟨gb106,0,none⟩) (by first|(rw [add_block];exact hn108_0)|(show (Addr.add _ _).block ≠ _;rw [add_block];exact hn108_0)|exact hn108_0) (.string ((rd_T91 t101 x17_1).f0.f0))).trans hx108_0;replace hx108_1:=(cell_far (p:=⟨gb106,0,none⟩) (by first|(rw [add_block];exact hn108_0)|(show (Addr.add _ _).block ≠ _;rw [add_block];exact hn108_0)|exact hn108_0) (.string ((rd_T91 t101 x17_1).f0.f0))).trans hx108_1;replace hx108_2:=(cell_far (p:=⟨gb106,0,none⟩) (by first|(rw [add_block];exact hn108_0)|(show (Addr.add _ _).block ≠ _;rw [add_block];exact hn108_0)|exact hn108_0) (.string ((rd_T91 t101 x17_1).f0.f0))).trans hx108_2;replace hx108_3:=(cell_far (p:=⟨gb106,0,none⟩) (by first|(rw [add_block];exact hn108_0)|(show (Addr.add _ _).block ≠ _;rw [add_block];exact hn108_0)|exact hn108_0) (.string ((rd_T91 t101 x17_1).f0.f0))).trans hx108_3;replace hx108_4:=(cell_far (p:=⟨gb106,0,none⟩) (by first|(rw [add_block];exact hn108_0)|(show (Addr.add _ _).block ≠ _;rw [add_block];exact hn108_0)|exact hn108_0) (.string ((rd_T91 t101 x17_1).f0.f0))).trans hx108_4;replace hx108_5:=(cell_far (p:=⟨gb106,0,none⟩) (by first|(rw [add_block];exact hn108_0)|(show (Addr.add _ _).block ≠ _;rw [add_block];exact hn108_0)|exact hn108_0) (.string ((rd_T91 t101 x17_1).f0.f0))).trans hx108_5;replace hx108_0:=(cell_far (p:=⟨gb106,1,none⟩) (by first|(rw [add_block];exact hn108_1)|(show (Addr.add _ _).block ≠ _;rw [add_block];exact hn108_1)|exact hn108_1) (.int .i64 ((rd_T91 t101 x17_1).f0.f1))).trans hx108_0;replace hx108_1:=(cell_far (p:=⟨gb106,1,none⟩) (by first|(rw [add_block];exact hn108_1)|(show (Addr.add _ _).block ≠ _;rw [add_block];exact hn108_1)|exact hn108_1) (.int .i64 ((rd_T91 t101 x17_1).f0.f1))).trans hx108_1;replace hx108_2:=(cell_far (p:=⟨gb106,1,none⟩) (by first|(rw [add_block];exact hn108_1)|(show (Addr.add _ _).block ≠ _;rw [add_block];exact hn108_1)|exact hn108_1) (.int .i64 ((rd_T91 t101 x17_1).f0.f1))).trans hx108_2;replace hx108_3:=(cell_far (p:=⟨gb106,1,none⟩) (by first|(rw [add_block];exact hn108_1)|(show (Addr.add _ _).block ≠ _;rw [add_block];exact hn108_1)|exact hn108_1) (.int .i64 ((rd_T91 t101 x17_1).f0.f1))).trans hx108_3;replace hx108_4:=(cell_far (p:=⟨gb106,1,none⟩) (by first|(rw [add_block];exact hn108_1)|(show (Addr.add _ _).block ≠ _;rw [add_block];exact hn108_1)|exact hn108_1) (.int .i64 ((rd_T91 t101 x17_1).f0.f1))).trans hx108_4;replace hx108_5:=(cell_far (p:=⟨gb106,1,none⟩) (by first|(rw [add_block];exact hn108_1)|(show (Addr.add _ _).block ≠ _;rw [add_block];exact hn108_1)|exact hn108_1) (.int .i64 ((rd_T91 t101 x17_1).f0.f1))).trans hx108_5;replace hx108_0:=(cell_far (p:=⟨gb106,2,none⟩) (by first|(rw [add_block];exact hn108_2)|(show (Addr.add _ _).block ≠ _;rw [add_block];exact hn108_2)|exact hn108_2) (.int .i64 ((rd_T91 t101 x17_1).f0.f2))).trans hx108_0;replace hx108_1:=(cell_far (p:=⟨gb106,2,none⟩) (by first|(rw [add_block];exact hn108_2)|(show (Addr.add _ _).block ≠ _;rw [add_block];exact hn108_2)|exact hn108_2) (.int .i64 ((rd_T91 t101 x17_1).f0.f2))).trans hx108_1;replace hx108_2:=(cell_far (p:=⟨gb106,2,none⟩) (by first|(rw [add_block];exact hn108_2)|(show (Addr.add _ _).block ≠ _;rw [add_block];exact hn108_2)|exact hn108_2) (.int .i64 ((rd_T91 t101 x17_1).f0.f2))).trans hx108_2;replace hx108_3:=(cell_far (p:=⟨gb106,2,none⟩) (by first|(rw [add_block];exact hn108_2)|(show (Addr.add _ _).block ≠ _;rw [add_block];exact hn108_2)|exact hn108_2) (.int .i64 ((rd_T91 t101 x17_1).f0.f2))).trans hx108_3;replace hx108_4:=(cell_far (p:=⟨gb106,2,none⟩) (by first|(rw [add_block];exact hn108_2)|(show (Addr.add _ _).block ≠ _;rw [add_block];exact hn108_2)|exact hn108_2) (.int .i64 ((rd_T91 t101 x17_1).f0.f2))).trans hx108_4;replace hx108_5:=(cell_far (p:=⟨gb106,2,none⟩) (by first|(rw [add_block];exact hn108_2)|(show (Addr.add _ _).block ≠ _;rw [add_block];exact hn108_2)|exact hn108_2) (.int .i64 ((rd_T91 t101 x17_1).f0.f2))).trans hx108_5;replace hx108_0:=(cell_far (p:=⟨gb106,3,none⟩) (by first|(rw [add_block];exact hn108_3)|(show (Addr.add _ _).block ≠ _;rw [add_block];exact hn108_3)|exact hn108_3) (.int .i64 ((rd_T91 t101 x17_1).f0.f3))).trans hx108_0;replace hx108_1:=(cell_far (p:=⟨gb106,3,none⟩) (by first|(rw [add_block];exact hn108_3)|(show (Addr.add _ _).block ≠ _;rw [add_block];exact hn108_3)|exact hn108_3) (.int .i64 ((rd_T91 t101 x17_1).f0.f3))).trans hx108_1;replace hx108_2:=(cell_far (p:=⟨gb106,3,none⟩) (by first|(rw [add_block];exact hn108_3)|(show (Addr.add _ _).block ≠ _;rw [add_block];exact hn108_3)|exact hn108_3) (.int .i64 ((rd_T91 t101 x17_1).f0.f3))).trans hx108_2;replace hx108_3:=(cell_far (p:=⟨gb106,3,none⟩) (by first|(rw [add_block];exact hn108_3)|(show (Addr.add _ _).block ≠ _;rw [add_block];exact hn108_3)|exact hn108_3) (.int .i64 ((rd_T91 t101 x17_1).f0.f3))).trans hx108_3;replace hx108_4:=(cell_far (p:=⟨gb106,3,none⟩) (by first|(rw [add_block];exact hn108_3)|(show (Addr.add _ _).block ≠ _;rw [add_block];exact hn108_3)|exact hn108_3) (.int .i64 ((rd_T91 t101 x17_1).f0.f3))).trans hx108_4;replace hx108_5:=(cell_far (p:=⟨gb106,3,none⟩) (by first|(rw [add_block];exact hn108_3)|(show (Addr.add _ _).block ≠ _;rw [add_block];exact hn108_3)|exact hn108_3) (.int .i64 ((rd_T91 t101 x17_1).f0.f3))).trans hx108_5;replace hx108_0:=(cell_far (p:=⟨gb106,4,none⟩) (by first|(rw [add_block];exact hn108_4)|(show (Addr.add _ _).block ≠ _;rw [add_block];exact hn108_4)|exact hn108_4) (.slice A105_4 ((rd_T91 t101 x17_1).f1).length c105_4)).trans hx108_0;replace hx108_1:=(cell_far (p:=⟨gb106,4,none⟩) (by first|(rw [add_block];exact hn108_4)|(show (Addr.add _ _).block ≠ _;rw [add_block];exact hn108_4)|exact hn108_4) (.slice A105_4 ((rd_T91 t101 x17_1).f1).length c105_4)).trans hx108_1;replace hx108_2:=(cell_far (p:=⟨gb106,4,none⟩) (by first|(rw [add_block];exact hn108_4)|(show (Addr.add _ _).block ≠ _;rw [add_block];exact hn108_4)|exact hn108_4) (.slice A105_4 ((rd_T91 t101 x17_1).f1).length c105_4)).trans hx108_2;replace hx108_3:=(cell_far (p:=⟨gb106,4,none⟩) (by first|(rw [add_block];exact hn108_4)|(show (Addr.add _ _).block ≠ _;rw [add_block];exact hn108_4)|exact hn108_4) (.slice A105_4 ((rd_T91 t101 x17_1).f1).length c105_4)).trans hx108_3;replace hx108_4:=(cell_far (p:=⟨gb106,4,none⟩) (by first|(rw [add_block];exact hn108_4)|(show (Addr.add _ _).block ≠ _;rw [add_block];exact hn108_4)|exact hn108_4) (.slice A105_4 ((rd_T91 t101 x17_1).f1).length c105_4)).trans hx108_4;replace hx108_5:=(cell_far (p:=⟨gb106,4,none⟩) (by first|(rw [add_block];exact hn108_4)|(show (Addr.add _ _).block ≠ _;rw [add_block];exact hn108_4)|exact hn108_4) (.slice A105_4 ((rd_T91 t101 x17_1).f1).length c105_4)).trans hx108_5;replace hx108_0:=(cell_far (p:=⟨gb106,5,none⟩) (by first|(rw [add_block];exact hn108_5)|(show (Addr.add _ _).block ≠ _;rw [add_block];exact hn108_5)|exact hn108_5) (.int .i64 ((rd_T91 t101 x17_1).f2))).trans hx108_0;replace hx108_1:=(cell_far (p:=⟨gb106,5,none⟩) (by first|(rw [add_block];exact hn108_5)|(show (Addr.add _ _).block ≠ _;rw [add_block];exact hn108_5)|exact hn108_5) (.int .i64 ((rd_T91 t101 x17_1).f2))).trans hx108_1;replace hx108_2:=(cell_far (p:=⟨gb106,5,none⟩) (by first|(rw [add_block];exact hn108_5)|(show (Addr.add _ _).block ≠ _;rw [add_block];exact hn108_5)|exact hn108_5) (.int .i64 ((rd_T91 t101 x17_1).f2))).trans hx108_2;replace hx108_3:=(cell_far (p:=⟨gb106,5,none⟩) (by first|(rw [add_block];exact hn108_5)|(show (Addr.add _ _).block ≠ _;rw [add_block];exact hn108_5)|exact hn108_5) (.int .i64 ((rd_T91 t101 x17_1).f2))).trans hx108_3;replace hx108_4:=(cell_far (p:=⟨gb106,5,none⟩) (by first|(rw [add_block];exact hn108_5)|(show (Addr.add _ _).block ≠ _;rw [add_block];exact hn108_5)|exact hn108_5) (.int .i64 ((rd_T91 t101 x17_1).f2))).trans hx108_4;replace hx108_5:=(cell_far (p:=⟨gb106,5,none⟩) (by first|(rw [add_block];exact hn108_5)|(show (Addr.add _ _).block ≠ _;rw [add_block];exact hn108_5)|exact hn108_5) (.int .i64 ((rd_T91 t101 x17_1).f2))).trans hx108_5;clear hn108_0;clear hn108_1;clear hn108_2;clear hn108_3;clear hn108_4;clear hn108_5;replace p108:=eq_true p108;replace q108:=eq_true q108))
       repeat (go_quiet (first|((with_reducible refine gate_dst (N:=8) rfl ?_);refine box_event ?hg (N:=8) ?hd (cs:=#[.string (⟨#[]⟩:ByteArray),.int .i64 0,.int .i64 0,.int .i64 0,.slice none 0 0,.int .i64 0]) (t:=91) ?hr ?_;(case hd=>rfl);(case hg=>rfl);(case hr=>first|(go_simp;done)|(go_simp;rfl));intro gb106 hg w10 hbox hb;have n0_:=Aside0.mk (Kd.N_below (Kd.N_elderB (by (with_reducible repeat (first|apply Kd.N_alloc|apply Kd.N_drewN|apply Kd.N_drew));exact HO_15.out) gb106 (Nat.le_of_eq hg.symm)) hb);have n1_:=Aside0.mk (Kd.V_below (Kd.V_elderB (by (with_reducible repeat (first|apply Kd.V_alloc|apply Kd.V_drewN|apply Kd.V_drew));exact HL105_4.out) gb106 (Nat.le_of_eq hg.symm)) hb);have n2_:=Aside0.mk (Kd.C_below (by repeat (first|(with_reducible exact HR105_4.out)|(with_reducible refine Kd.C_alloc ?_ _)|(with_reducible refine Kd.C_drewN ?_ _)|(with_reducible refine Kd.C_drew ?_)|exact HR105_4.out)) hb);have n3_:=Aside0.mk (below_step (by repeat (first|(with_reducible first|exact HB.out|apply below_alloc|apply pw_below_drewN|apply below_drew1)|exact HB.out)) hb);have n4_:=Aside0.mk (hbox);have n5_:=Aside0.mk ((by rw [hg];exact (below_size (by repeat (first|(with_reducible first|exact HB.out|apply below_alloc|apply pw_below_drewN|apply below_drew1)|exact HB.out))):w.heap.size ≤ gb106));have n6_:=Aside0.mk ((by rw [hg];exact (below_size (by repeat (first|(with_reducible first|exact HB.out|apply below_alloc|apply pw_below_drewN|apply below_drew1)|exact HB.out))):w.heap.size ≤ gb106));clear HO_15;clear HL105_4;clear HR105_4;clear HB;have HO_15:=n0_;have HL105_4:=n1_;have HR105_4:=n2_;have HB:=n3_;have BK106:=n4_;have GW106:=n5_;have GE106:=n6_;clear n0_ n1_ n2_ n3_ n4_ n5_ n6_;clear hb hbox hg;have hcz11_0:w10.cell? ⟨gb106,0,none⟩ = some (.string (⟨#[]⟩:ByteArray)):=(blk_cell BK106.out 0).trans rfl;have hcz11_1:w10.cell? ⟨gb106,1,none⟩ = some (.int .i64 0):=(blk_cell BK106.out 1).trans rfl;have hcz11_2:w10.cell? ⟨gb106,2,none⟩ = some (.int .i64 0):=(blk_cell BK106.out 2).trans rfl;have hcz11_3:w10.cell? ⟨gb106,3,none⟩ = some (.int .i64 0):=(blk_cell BK106.out 3).trans rfl;have hcz11_4:w10.cell? ⟨gb106,4,none⟩ = some (.slice none 0 0):=(blk_cell BK106.out 4).trans rfl;have hcz11_5:w10.cell? ⟨gb106,5,none⟩ = some (.int .i64 0):=(blk_cell BK106.out 5).trans rfl;have hfz11_0:=blk_frozen BK106.out 0;have hfz11_1:=blk_frozen BK106.out 1;have hfz11_2:=blk_frozen BK106.out 2;have hfz11_3:=blk_frozen BK106.out 3;have hfz11_4:=blk_frozen BK106.out 4;have hfz11_5:=blk_frozen BK106.out 5;have p107:0 ≤ (x17_1:Int):=of_decide_eq_true (by first|(with_reducible assumption)|assumption);have q107:x17_1 < (l0.length:Int):=of_decide_eq_true (by first|(with_reducible assumption)|assumption);obtain ⟨ad107,e107,hx107_0,hx107_1,hx107_2,hx107_3,hx107_4,hx107_5⟩:=at_T73 HR0.out x17_1 p107 q107;cases e107;have hn107_0:ad107.block ≠ gb106:=Nat.ne_of_lt (Nat.lt_of_lt_of_le (by have:=World.block_lt_of_cell? _ _ hx107_0;first|rwa [add_block] at this|exact this) GW106.out);have hn107_1:ad107.block ≠ gb106:=Nat.ne_of_lt (Nat.lt_of_lt_of_le (by have:=World.block_lt_of_cell? _ _ hx107_0;first|rwa [add_block] at this|exact this) GW106.out);have hn107_2:ad107.block ≠ gb106:=Nat.ne_of_lt (Nat.lt_of_lt_of_le (by have:=World.block_lt_of_cell? _ _ hx107_0;first|rwa [add_block] at this|exact this) GW106.out);have hn107_3:ad107.block ≠ gb106:=Nat.ne_of_lt (Nat.lt_of_lt_of_le (by have:=World.block_lt_of_cell? _ _ hx107_0;first|rwa [add_block] at this|exact this) GW106.out);have hn107_4:ad107.block ≠ gb106:=Nat.ne_of_lt (Nat.lt_of_lt_of_le (by have:=World.block_lt_of_cell? _ _ hx107_0;first|rwa [add_block] at this|exact this) GW106.out);have hn107_5:ad107.block ≠ gb106:=Nat.ne_of_lt (Nat.lt_of_lt_of_le (by have:=World.block_lt_of_cell? _ _ hx107_0;first|rwa [add_block] at this|exact this) GW106.out);replace hx107_0:=(HB.out.cell (World.block_lt_of_cell? w _ hx107_0)).trans hx107_0;replace hx107_1:=(HB.out.cell (World.block_lt_of_cell? w _ hx107_1)).trans hx107_1;replace hx107_2:=(HB.out.cell (World.block_lt_of_cell? w _ hx107_2)).trans hx107_2;replace hx107_3:=(HB.out.cell (World.block_lt_of_cell? w _ hx107_3)).trans hx107_3;replace hx107_4:=(HB.out.cell (World.block_lt_of_cell? w _ hx107_4)).trans hx107_4;replace hx107_5:=(HB.out.cell (World.block_lt_of_cell? w _ hx107_5)).trans hx107_5;replace hx107_0:=(cell_far (p:=⟨gb106,0,none⟩) (by first|(rw [add_block];exact hn107_0)|(show (Addr.add _ _).block ≠ _;rw [add_block];exact hn107_0)|exact hn107_0) (.string ((rd_T91 t101 x17_1).f0.f0))).trans hx107_0;replace hx107_1:=(cell_far (p:=⟨gb106,0,none⟩) (by first|(rw [add_block];exact hn107_0)|(show (Addr.add _ _).block ≠ _;rw [add_block];exact hn107_0)|exact hn107_0) (.string ((rd_T91 t101 x17_1).f0.f0))).trans hx107_1;replace hx107_2:=(cell_far (p:=⟨gb106,0,none⟩) (by first|(rw [add_block];exact hn107_0)|(show (Addr.add _ _).block ≠ _;rw [add_block];exact hn107_0)|exact hn107_0) (.string ((rd_T91 t101 x17_1).f0.f0))).trans hx107_2;replace hx107_3:=(cell_far (p:=⟨gb106,0,none⟩) (by first|(rw [add_block];exact hn107_0)|(show (Addr.add _ _).block ≠ _;rw [add_block];exact hn107_0)|exact hn107_0) (.string ((rd_T91 t101 x17_1).f0.f0))).trans hx107_3;replace hx107_4:=(cell_far (p:=⟨gb106,0,none⟩) (by first|(rw [add_block];exact hn107_0)|(show (Addr.add _ _).block ≠ _;rw [add_block];exact hn107_0)|exact hn107_0) (.string ((rd_T91 t101 x17_1).f0.f0))).trans hx107_4;replace hx107_5:=(cell_far (p:=⟨gb106,0,none⟩) (by first|(rw [add_block];exact hn107_0)|(show (Addr.add _ _).block ≠ _;rw [add_block];exact hn107_0)|exact hn107_0) (.string ((rd_T91 t101 x17_1).f0.f0))).trans hx107_5;replace hx107_0:=(cell_far (p:=⟨gb106,1,none⟩) (by first|(rw [add_block];exact hn107_1)|(show (Addr.add _ _).block ≠ _;rw [add_block];exact hn107_1)|exact hn107_1) (.int .i64 ((rd_T91 t101 x17_1).f0.f1))).trans hx107_0;replace hx107_1:=(cell_far (p:=⟨gb106,1,none⟩) (by first|(rw [add_block];exact hn107_1)|(show (Addr.add _ _).block ≠ _;rw [add_block];exact hn107_1)|exact hn107_1) (.int .i64 ((rd_T91 t101 x17_1).f0.f1))).trans hx107_1;replace hx107_2:=(cell_far (p:=⟨gb106,1,none⟩) (by first|(rw [add_block];exact hn107_1)|(show (Addr.add _ _).block ≠ _;rw [add_block];exact hn107_1)|exact hn107_1) (.int .i64 ((rd_T91 t101 x17_1).f0.f1))).trans hx107_2;replace hx107_3:=(cell_far (p:=⟨gb106,1,none⟩) (by first|(rw [add_block];exact hn107_1)|(show (Addr.add _ _).block ≠ _;rw [add_block];exact hn107_1)|exact hn107_1) (.int .i64 ((rd_T91 t101 x17_1).f0.f1))).trans hx107_3;replace hx107_4:=(cell_far (p:=⟨gb106,1,none⟩) (by first|(rw [add_block];exact hn107_1)|(show (Addr.add _ _).block ≠ _;rw [add_block];exact hn107_1)|exact hn107_1) (.int .i64 ((rd_T91 t101 x17_1).f0.f1))).trans hx107_4;replace hx107_5:=(cell_far (p:=⟨gb106,1,none⟩) (by first|(rw [add_block];exact hn107_1)|(show (Addr.add _ _).block ≠ _;rw [add_block];exact hn107_1)|exact hn107_1) (.int .i64 ((rd_T91 t101 x17_1).f0.f1))).trans hx107_5;replace hx107_0:=(cell_far (p:=⟨gb106,2,none⟩) (by first|(rw [add_block];exact hn107_2)|(show (Addr.add _ _).block ≠ _;rw [add_block];exact hn107_2)|exact hn107_2) (.int .i64 ((rd_T91 t101 x17_1).f0.f2))).trans hx107_0;replace hx107_1:=(cell_far (p:=⟨gb106,2,none⟩) (by first|(rw [add_block];exact hn107_2)|(show (Addr.add _ _).block ≠ _;rw [add_block];exact hn107_2)|exact hn107_2) (.int .i64 ((rd_T91 t101 x17_1).f0.f2))).trans hx107_1;replace hx107_2:=(cell_far (p:=⟨gb106,2,none⟩) (by first|(rw [add_block];exact hn107_2)|(show (Addr.add _ _).block ≠ _;rw [add_block];exact hn107_2)|exact hn107_2) (.int .i64 ((rd_T91 t101 x17_1).f0.f2))).trans hx107_2;replace hx107_3:=(cell_far (p:=⟨gb106,2,none⟩) (by first|(rw [add_block];exact hn107_2)|(show (Addr.add _ _).block ≠ _;rw [add_block];exact hn107_2)|exact hn107_2) (.int .i64 ((rd_T91 t101 x17_1).f0.f2))).trans hx107_3;replace hx107_4:=(cell_far (p:=⟨gb106,2,none⟩) (by first|(rw [add_block];exact hn107_2)|(show (Addr.add _ _).block ≠ _;rw [add_block];exact hn107_2)|exact hn107_2) (.int .i64 ((rd_T91 t101 x17_1).f0.f2))).trans hx107_4;replace hx107_5:=(cell_far (p:=⟨gb106,2,none⟩) (by first|(rw [add_block];exact hn107_2)|(show (Addr.add _ _).block ≠ _;rw [add_block];exact hn107_2)|exact hn107_2) (.int .i64 ((rd_T91 t101 x17_1).f0.f2))).trans hx107_5;replace hx107_0:=(cell_far (p:=⟨gb106,3,none⟩) (by first|(rw [add_block];exact hn107_3)|(show (Addr.add _ _).block ≠ _;rw [add_block];exact hn107_3)|exact hn107_3) (.int .i64 ((rd_T91 t101 x17_1).f0.f3))).trans hx107_0;replace hx107_1:=(cell_far (p:=⟨gb106,3,none⟩) (by first|(rw [add_block];exact hn107_3)|(show (Addr.add _ _).block ≠ _;rw [add_block];exact hn107_3)|exact hn107_3) (.int .i64 ((rd_T91 t101 x17_1).f0.f3))).trans hx107_1;replace hx107_2:=(cell_far (p:=⟨gb106,3,none⟩) (by first|(rw [add_block];exact hn107_3)|(show (Addr.add _ _).block ≠ _;rw [add_block];exact hn107_3)|exact hn107_3) (.int .i64 ((rd_T91 t101 x17_1).f0.f3))).trans hx107_2;replace hx107_3:=(cell_far (p:=⟨gb106,3,none⟩) (by first|(rw [add_block];exact hn107_3)|(show (Addr.add _ _).block ≠ _;rw [add_block];exact hn107_3)|exact hn107_3) (.int .i64 ((rd_T91 t101 x17_1).f0.f3))).trans hx107_3;replace hx107_4:=(cell_far (p:=⟨gb106,3,none⟩) (by first|(rw [add_block];exact hn107_3)|(show (Addr.add _ _).block ≠ _;rw [add_block];exact hn107_3)|exact hn107_3) (.int .i64 ((rd_T91 t101 x17_1).f0.f3))).trans hx107_4;replace hx107_5:=(cell_far (p:=⟨gb106,3,none⟩) (by first|(rw [add_block];exact hn107_3)|(show (Addr.add _ _).block ≠ _;rw [add_block];exact hn107_3)|exact hn107_3) (.int .i64 ((rd_T91 t101 x17_1).f0.f3))).trans hx107_5;replace hx107_0:=(cell_far (p:=⟨gb106,4,none⟩) (by first|(rw [add_block];exact hn107_4)|(show (Addr.add _ _).block ≠ _;rw [add_block];exact hn107_4)|exact hn107_4) (.slice A105_4 ((rd_T91 t101 x17_1).f1).length c105_4)).trans hx107_0;replace hx107_1:=(cell_far (p:=⟨gb106,4,none⟩) (by first|(rw [add_block];exact hn107_4)|(show (Addr.add _ _).block ≠ _;rw [add_block];exact hn107_4)|exact hn107_4) (.slice A105_4 ((rd_T91 t101 x17_1).f1).length c105_4)).trans hx107_1;replace hx107_2:=(cell_far (p:=⟨gb106,4,none⟩) (by first|(rw [add_block];exact hn107_4)|(show (Addr.add _ _).block ≠ _;rw [add_block];exact hn107_4)|exact hn107_4) (.slice A105_4 ((rd_T91 t101 x17_1).f1).length c105_4)).trans hx107_2;replace hx107_3:=(cell_far (p:=⟨gb106,4,none⟩) (by first|(rw [add_block];exact hn107_4)|(show (Addr.add _ _).block ≠ _;rw [add_block];exact hn107_4)|exact hn107_4) (.slice A105_4 ((rd_T91 t101 x17_1).f1).length c105_4)).trans hx107_3;replace hx107_4:=(cell_far (p:=⟨gb106,4,none⟩) (by first|(rw [add_block];exact hn107_4)|(show (Addr.add _ _).block ≠ _;rw [add_block];exact hn107_4)|exact hn107_4) (.slice A105_4 ((rd_T91 t101 x17_1).f1).length c105_4)).trans hx107_4;replace hx107_5:=(cell_far (p:=⟨gb106,4,none⟩) (by first|(rw [add_block];exact hn107_4)|(show (Addr.add _ _).block ≠ _;rw [add_block];exact hn107_4)|exact hn107_4) (.slice A105_4 ((rd_T91 t101 x17_1).f1).length c105_4)).trans hx107_5;replace hx107_0:=(cell_far (p:=⟨gb106,5,none⟩) (by first|(rw [add_block];exact hn107_5)|(show (Addr.add _ _).block ≠ _;rw [add_block];exact hn107_5)|exact hn107_5) (.int .i64 ((rd_T91 t101 x17_1).f2))).trans hx107_0;replace hx107_1:=(cell_far (p:=⟨gb106,5,none⟩) (by first|(rw [add_block];exact hn107_5)|(show (Addr.add _ _).block ≠ _;rw [add_block];exact hn107_5)|exact hn107_5) (.int .i64 ((rd_T91 t101 x17_1).f2))).trans hx107_1;replace hx107_2:=(cell_far (p:=⟨gb106,5,none⟩) (by first|(rw [add_block];exact hn107_5)|(show (Addr.add _ _).block ≠ _;rw [add_block];exact hn107_5)|exact hn107_5) (.int .i64 ((rd_T91 t101 x17_1).f2))).trans hx107_2;replace hx107_3:=(cell_far (p:=⟨gb106,5,none⟩) (by first|(rw [add_block];exact hn107_5)|(show (Addr.add _ _).block ≠ _;rw [add_block];exact hn107_5)|exact hn107_5) (.int .i64 ((rd_T91 t101 x17_1).f2))).trans hx107_3;replace hx107_4:=(cell_far (p:=⟨gb106,5,none⟩) (by first|(rw [add_block];exact hn107_5)|(show (Addr.add _ _).block ≠ _;rw [add_block];exact hn107_5)|exact hn107_5) (.int .i64 ((rd_T91 t101 x17_1).f2))).trans hx107_4;replace hx107_5:=(cell_far (p:=⟨gb106,5,none⟩) (by first|(rw [add_block];exact hn107_5)|(show (Addr.add _ _).block ≠ _;rw [add_block];exact hn107_5)|exact hn107_5) (.int .i64 ((rd_T91 t101 x17_1).f2))).trans hx107_5;clear hn107_0;clear hn107_1;clear hn107_2;clear hn107_3;clear hn107_4;clear hn107_5;replace p107:=eq_true p107;replace q107:=eq_true q107;have p108:0 ≤ (x17_1:Int):=of_decide_eq_true (by first|(with_reducible assumption)|assumption);have q108:x17_1 < (l0.length:Int):=of_decide_eq_true (by first|(with_reducible assumption)|assumption);obtain ⟨ad108,e108,hx108_0,hx108_1,hx108_2,hx108_3,hx108_4,hx108_5⟩:=at_T73 HR0.out x17_1 p108 q108;obtain rfl:ad107 = ad108:=(by injection e108);have hn108_0:ad107.block ≠ gb106:=Nat.ne_of_lt (Nat.lt_of_lt_of_le (by have:=World.block_lt_of_cell? _ _ hx108_0;first|rwa [add_block] at this|exact this) GW106.out);have hn108_1:ad107.block ≠ gb106:=Nat.ne_of_lt (Nat.lt_of_lt_of_le (by have:=World.block_lt_of_cell? _ _ hx108_0;first|rwa [add_block] at this|exact this) GW106.out);have hn108_2:ad107.block ≠ gb106:=Nat.ne_of_lt (Nat.lt_of_lt_of_le (by have:=World.block_lt_of_cell? _ _ hx108_0;first|rwa [add_block] at this|exact this) GW106.out);have hn108_3:ad107.block ≠ gb106:=Nat.ne_of_lt (Nat.lt_of_lt_of_le (by have:=World.block_lt_of_cell? _ _ hx108_0;first|rwa [add_block] at this|exact this) GW106.out);have hn108_4:ad107.block ≠ gb106:=Nat.ne_of_lt (Nat.lt_of_lt_of_le (by have:=World.block_lt_of_cell? _ _ hx108_0;first|rwa [add_block] at this|exact this) GW106.out);have hn108_5:ad107.block ≠ gb106:=Nat.ne_of_lt (Nat.lt_of_lt_of_le (by have:=World.block_lt_of_cell? _ _ hx108_0;first|rwa [add_block] at this|exact this) GW106.out);replace hx108_0:=(HB.out.cell (World.block_lt_of_cell? w _ hx108_0)).trans hx108_0;replace hx108_1:=(HB.out.cell (World.block_lt_of_cell? w _ hx108_1)).trans hx108_1;replace hx108_2:=(HB.out.cell (World.block_lt_of_cell? w _ hx108_2)).trans hx108_2;replace hx108_3:=(HB.out.cell (World.block_lt_of_cell? w _ hx108_3)).trans hx108_3;replace hx108_4:=(HB.out.cell (World.block_lt_of_cell? w _ hx108_4)).trans hx108_4;replace hx108_5:=(HB.out.cell (World.block_lt_of_cell? w _ hx108_5)).trans hx108_5;replace hx108_0:=(cell_far (p:=⟨gb106,0,none⟩) (by first|(rw [add_block];exact hn108_0)|(show (Addr.add _ _).block ≠ _;rw [add_block];exact hn108_0)|exact hn108_0) (.string ((rd_T91 t101 x17_1).f0.f0))).trans hx108_0;replace hx108_1:=(cell_far (p:=⟨gb106,0,none⟩) (by first|(rw [add_block];exact hn108_0)|(show (Addr.add _ _).block ≠ _;rw [add_block];exact hn108_0)|exact hn108_0) (.string ((rd_T91 t101 x17_1).f0.f0))).trans hx108_1;replace hx108_2:=(cell_far (p:=⟨gb106,0,none⟩) (by first|(rw [add_block];exact hn108_0)|(show (Addr.add _ _).block ≠ _;rw [add_block];exact hn108_0)|exact hn108_0) (.string ((rd_T91 t101 x17_1).f0.f0))).trans hx108_2;replace hx108_3:=(cell_far (p:=⟨gb106,0,none⟩) (by first|(rw [add_block];exact hn108_0)|(show (Addr.add _ _).block ≠ _;rw [add_block];exact hn108_0)|exact hn108_0) (.string ((rd_T91 t101 x17_1).f0.f0))).trans hx108_3;replace hx108_4:=(cell_far (p:=⟨gb106,0,none⟩) (by first|(rw [add_block];exact hn108_0)|(show (Addr.add _ _).block ≠ _;rw [add_block];exact hn108_0)|exact hn108_0) (.string ((rd_T91 t101 x17_1).f0.f0))).trans hx108_4;replace hx108_5:=(cell_far (p:=⟨gb106,0,none⟩) (by first|(rw [add_block];exact hn108_0)|(show (Addr.add _ _).block ≠ _;rw [add_block];exact hn108_0)|exact hn108_0) (.string ((rd_T91 t101 x17_1).f0.f0))).trans hx108_5;replace hx108_0:=(cell_far (p:=⟨gb106,1,none⟩) (by first|(rw [add_block];exact hn108_1)|(show (Addr.add _ _).block ≠ _;rw [add_block];exact hn108_1)|exact hn108_1) (.int .i64 ((rd_T91 t101 x17_1).f0.f1))).trans hx108_0;replace hx108_1:=(cell_far (p:=⟨gb106,1,none⟩) (by first|(rw [add_block];exact hn108_1)|(show (Addr.add _ _).block ≠ _;rw [add_block];exact hn108_1)|exact hn108_1) (.int .i64 ((rd_T91 t101 x17_1).f0.f1))).trans hx108_1;replace hx108_2:=(cell_far (p:=⟨gb106,1,none⟩) (by first|(rw [add_block];exact hn108_1)|(show (Addr.add _ _).block ≠ _;rw [add_block];exact hn108_1)|exact hn108_1) (.int .i64 ((rd_T91 t101 x17_1).f0.f1))).trans hx108_2;replace hx108_3:=(cell_far (p:=⟨gb106,1,none⟩) (by first|(rw [add_block];exact hn108_1)|(show (Addr.add _ _).block ≠ _;rw [add_block];exact hn108_1)|exact hn108_1) (.int .i64 ((rd_T91 t101 x17_1).f0.f1))).trans hx108_3;replace hx108_4:=(cell_far (p:=⟨gb106,1,none⟩) (by first|(rw [add_block];exact hn108_1)|(show (Addr.add _ _).block ≠ _;rw [add_block];exact hn108_1)|exact hn108_1) (.int .i64 ((rd_T91 t101 x17_1).f0.f1))).trans hx108_4;replace hx108_5:=(cell_far (p:=⟨gb106,1,none⟩) (by first|(rw [add_block];exact hn108_1)|(show (Addr.add _ _).block ≠ _;rw [add_block];exact hn108_1)|exact hn108_1) (.int .i64 ((rd_T91 t101 x17_1).f0.f1))).trans hx108_5;replace hx108_0:=(cell_far (p:=⟨gb106,2,none⟩) (by first|(rw [add_block];exact hn108_2)|(show (Addr.add _ _).block ≠ _;rw [add_block];exact hn108_2)|exact hn108_2) (.int .i64 ((rd_T91 t101 x17_1).f0.f2))).trans hx108_0;replace hx108_1:=(cell_far (p:=⟨gb106,2,none⟩) (by first|(rw [add_block];exact hn108_2)|(show (Addr.add _ _).block ≠ _;rw [add_block];exact hn108_2)|exact hn108_2) (.int .i64 ((rd_T91 t101 x17_1).f0.f2))).trans hx108_1;replace hx108_2:=(cell_far (p:=⟨gb106,2,none⟩) (by first|(rw [add_block];exact hn108_2)|(show (Addr.add _ _).block ≠ _;rw [add_block];exact hn108_2)|exact hn108_2) (.int .i64 ((rd_T91 t101 x17_1).f0.f2))).trans hx108_2;replace hx108_3:=(cell_far (p:=⟨gb106,2,none⟩) (by first|(rw [add_block];exact hn108_2)|(show (Addr.add _ _).block ≠ _;rw [add_block];exact hn108_2)|exact hn108_2) (.int .i64 ((rd_T91 t101 x17_1).f0.f2))).trans hx108_3;replace hx108_4:=(cell_far (p:=⟨gb106,2,none⟩) (by first|(rw [add_block];exact hn108_2)|(show (Addr.add _ _).block ≠ _;rw [add_block];exact hn108_2)|exact hn108_2) (.int .i64 ((rd_T91 t101 x17_1).f0.f2))).trans hx108_4;replace hx108_5:=(cell_far (p:=⟨gb106,2,none⟩) (by first|(rw [add_block];exact hn108_2)|(show (Addr.add _ _).block ≠ _;rw [add_block];exact hn108_2)|exact hn108_2) (.int .i64 ((rd_T91 t101 x17_1).f0.f2))).trans hx108_5;replace hx108_0:=(cell_far (p:=⟨gb106,3,none⟩) (by first|(rw [add_block];exact hn108_3)|(show (Addr.add _ _).block ≠ _;rw [add_block];exact hn108_3)|exact hn108_3) (.int .i64 ((rd_T91 t101 x17_1).f0.f3))).trans hx108_0;replace hx108_1:=(cell_far (p:=⟨gb106,3,none⟩) (by first|(rw [add_block];exact hn108_3)|(show (Addr.add _ _).block ≠ _;rw [add_block];exact hn108_3)|exact hn108_3) (.int .i64 ((rd_T91 t101 x17_1).f0.f3))).trans hx108_1;replace hx108_2:=(cell_far (p:=⟨gb106,3,none⟩) (by first|(rw [add_block];exact hn108_3)|(show (Addr.add _ _).block ≠ _;rw [add_block];exact hn108_3)|exact hn108_3) (.int .i64 ((rd_T91 t101 x17_1).f0.f3))).trans hx108_2;replace hx108_3:=(cell_far (p:=⟨gb106,3,none⟩) (by first|(rw [add_block];exact hn108_3)|(show (Addr.add _ _).block ≠ _;rw [add_block];exact hn108_3)|exact hn108_3) (.int .i64 ((rd_T91 t101 x17_1).f0.f3))).trans hx108_3;replace hx108_4:=(cell_far (p:=⟨gb106,3,none⟩) (by first|(rw [add_block];exact hn108_3)|(show (Addr.add _ _).block ≠ _;rw [add_block];exact hn108_3)|exact hn108_3) (.int .i64 ((rd_T91 t101 x17_1).f0.f3))).trans hx108_4;replace hx108_5:=(cell_far (p:=⟨gb106,3,none⟩) (by first|(rw [add_block];exact hn108_3)|(show (Addr.add _ _).block ≠ _;rw [add_block];exact hn108_3)|exact hn108_3) (.int .i64 ((rd_T91 t101 x17_1).f0.f3))).trans hx108_5;replace hx108_0:=(cell_far (p:=⟨gb106,4,none⟩) (by first|(rw [add_block];exact hn108_4)|(show (Addr.add _ _).block ≠ _;rw [add_block];exact hn108_4)|exact hn108_4) (.slice A105_4 ((rd_T91 t101 x17_1).f1).length c105_4)).trans hx108_0;replace hx108_1:=(cell_far (p:=⟨gb106,4,none⟩) (by first|(rw [add_block];exact hn108_4)|(show (Addr.add _ _).block ≠ _;rw [add_block];exact hn108_4)|exact hn108_4) (.slice A105_4 ((rd_T91 t101 x17_1).f1).length c105_4)).trans hx108_1;replace hx108_2:=(cell_far (p:=⟨gb106,4,none⟩) (by first|(rw [add_block];exact hn108_4)|(show (Addr.add _ _).block ≠ _;rw [add_block];exact hn108_4)|exact hn108_4) (.slice A105_4 ((rd_T91 t101 x17_1).f1).length c105_4)).trans hx108_2;replace hx108_3:=(cell_far (p:=⟨gb106,4,none⟩) (by first|(rw [add_block];exact hn108_4)|(show (Addr.add _ _).block ≠ _;rw [add_block];exact hn108_4)|exact hn108_4) (.slice A105_4 ((rd_T91 t101 x17_1).f1).length c105_4)).trans hx108_3;replace hx108_4:=(cell_far (p:=⟨gb106,4,none⟩) (by first|(rw [add_block];exact hn108_4)|(show (Addr.add _ _).block ≠ _;rw [add_block];exact hn108_4)|exact hn108_4) (.slice A105_4 ((rd_T91 t101 x17_1).f1).length c105_4)).trans hx108_4;replace hx108_5:=(cell_far (p:=⟨gb106,4,none⟩) (by first|(rw [add_block];exact hn108_4)|(show (Addr.add _ _).block ≠ _;rw [add_block];exact hn108_4)|exact hn108_4) (.slice A105_4 ((rd_T91 t101 x17_1).f1).length c105_4)).trans hx108_5;replace hx108_0:=(cell_far (p:=⟨gb106,5,none⟩) (by first|(rw [add_block];exact hn108_5)|(show (Addr.add _ _).block ≠ _;rw [add_block];exact hn108_5)|exact hn108_5) (.int .i64 ((rd_T91 t101 x17_1).f2))).trans hx108_0;replace hx108_1:=(cell_far (p:=⟨gb106,5,none⟩) (by first|(rw [add_block];exact hn108_5)|(show (Addr.add _ _).block ≠ _;rw [add_block];exact hn108_5)|exact hn108_5) (.int .i64 ((rd_T91 t101 x17_1).f2))).trans hx108_1;replace hx108_2:=(cell_far (p:=⟨gb106,5,none⟩) (by first|(rw [add_block];exact hn108_5)|(show (Addr.add _ _).block ≠ _;rw [add_block];exact hn108_5)|exact hn108_5) (.int .i64 ((rd_T91 t101 x17_1).f2))).trans hx108_2;replace hx108_3:=(cell_far (p:=⟨gb106,5,none⟩) (by first|(rw [add_block];exact hn108_5)|(show (Addr.add _ _).block ≠ _;rw [add_block];exact hn108_5)|exact hn108_5) (.int .i64 ((rd_T91 t101 x17_1).f2))).trans hx108_3;replace hx108_4:=(cell_far (p:=⟨gb106,5,none⟩) (by first|(rw [add_block];exact hn108_5)|(show (Addr.add _ _).block ≠ _;rw [add_block];exact hn108_5)|exact hn108_5) (.int .i64 ((rd_T91 t101 x17_1).f2))).trans hx108_4;replace hx108_5:=(cell_far (p:=⟨gb106,5,none⟩) (by first|(rw [add_block];exact hn108_5)|(show (Addr.add _ _).block ≠ _;rw [add_block];exact hn108_5)|exact hn108_5) (.int .i64 ((rd_T91 t101 x17_1).f2))).trans hx108_5;clear hn108_0;clear hn108_1;clear hn108_2;clear hn108_3;clear hn108_4;clear hn108_5;replace p108:=eq_true p108;replace q108:=eq_true q108));try go_wp2_with (first|((with_reducible refine gate_dst (N:=8) rfl ?_);refine box_event ?hg (N:=8) ?hd (cs:=#[.string (⟨#[]⟩:ByteArray),.int .i64 0,.int .i64 0,.int .i64 0,.slice none 0 0,.int .i64 0]) (t:=91) ?hr ?_;(case hd=>rfl);(case hg=>rfl);(case hr=>first|(go_simp;done)|(go_simp;rfl));intro gb106 hg w10 hbox hb;have n0_:=Aside0.mk (Kd.N_below (Kd.N_elderB (by (with_reducible repeat (first|apply Kd.N_alloc|apply Kd.N_drewN|apply Kd.N_drew));exact HO_15.out) gb106 (Nat.le_of_eq hg.symm)) hb);have n1_:=Aside0.mk (Kd.V_below (Kd.V_elderB (by (with_reducible repeat (first|apply Kd.V_alloc|apply Kd.V_drewN|apply Kd.V_drew));exact HL105_4.out) gb106 (Nat.le_of_eq hg.symm)) hb);have n2_:=Aside0.mk (Kd.C_below (by repeat (first|(with_reducible exact HR105_4.out)|(with_reducible refine Kd.C_alloc ?_ _)|(with_reducible refine Kd.C_drewN ?_ _)|(with_reducible refine Kd.C_drew ?_)|exact HR105_4.out)) hb);have n3_:=Aside0.mk (below_step (by repeat (first|(with_reducible first|exact HB.out|apply below_alloc|apply pw_below_drewN|apply below_drew1)|exact HB.out)) hb);have n4_:=Aside0.mk (hbox);have n5_:=Aside0.mk ((by rw [hg];exact (below_size (by repeat (first|(with_reducible first|exact HB.out|apply below_alloc|apply pw_below_drewN|apply below_drew1)|exact HB.out))):w.heap.size ≤ gb106));have n6_:=Aside0.mk ((by rw [hg];exact (below_size (by repeat (first|(with_reducible first|exact HB.out|apply below_alloc|apply pw_below_drewN|apply below_drew1)|exact HB.out))):w.heap.size ≤ gb106));clear HO_15;clear HL105_4;clear HR105_4;clear HB;have HO_15:=n0_;have HL105_4:=n1_;have HR105_4:=n2_;have HB:=n3_;have BK106:=n4_;have GW106:=n5_;have GE106:=n6_;clear n0_ n1_ n2_ n3_ n4_ n5_ n6_;clear hb hbox hg;have hcz11_0:w10.cell? ⟨gb106,0,none⟩ = some (.string (⟨#[]⟩:ByteArray)):=(blk_cell BK106.out 0).trans rfl;have hcz11_1:w10.cell? ⟨gb106,1,none⟩ = some (.int .i64 0):=(blk_cell BK106.out 1).trans rfl;have hcz11_2:w10.cell? ⟨gb106,2,none⟩ = some (.int .i64 0):=(blk_cell BK106.out 2).trans rfl;have hcz11_3:w10.cell? ⟨gb106,3,none⟩ = some (.int .i64 0):=(blk_cell BK106.out 3).trans rfl;have hcz11_4:w10.cell? ⟨gb106,4,none⟩ = some (.slice none 0 0):=(blk_cell BK106.out 4).trans rfl;have hcz11_5:w10.cell? ⟨gb106,5,none⟩ = some (.int .i64 0):=(blk_cell BK106.out 5).trans rfl;have hfz11_0:=blk_frozen BK106.out 0;have hfz11_1:=blk_frozen BK106.out 1;have hfz11_2:=blk_frozen BK106.out 2;have hfz11_3:=blk_frozen BK106.out 3;have hfz11_4:=blk_frozen BK106.out 4;have hfz11_5:=blk_frozen BK106.out 5;have p107:0 ≤ (x17_1:Int):=of_decide_eq_true (by first|(with_reducible assumption)|assumption);have q107:x17_1 < (l0.length:Int):=of_decide_eq_true (by first|(with_reducible assumption)|assumption);obtain ⟨ad107,e107,hx107_0,hx107_1,hx107_2,hx107_3,hx107_4,hx107_5⟩:=at_T73 HR0.out x17_1 p107 q107;cases e107;have hn107_0:ad107.block ≠ gb106:=Nat.ne_of_lt (Nat.lt_of_lt_of_le (by have:=World.block_lt_of_cell? _ _ hx107_0;first|rwa [add_block] at this|exact this) GW106.out);have hn107_1:ad107.block ≠ gb106:=Nat.ne_of_lt (Nat.lt_of_lt_of_le (by have:=World.block_lt_of_cell? _ _ hx107_0;first|rwa [add_block] at this|exact this) GW106.out);have hn107_2:ad107.block ≠ gb106:=Nat.ne_of_lt (Nat.lt_of_lt_of_le (by have:=World.block_lt_of_cell? _ _ hx107_0;first|rwa [add_block] at this|exact this) GW106.out);have hn107_3:ad107.block ≠ gb106:=Nat.ne_of_lt (Nat.lt_of_lt_of_le (by have:=World.block_lt_of_cell? _ _ hx107_0;first|rwa [add_block] at this|exact this) GW106.out);have hn107_4:ad107.block ≠ gb106:=Nat.ne_of_lt (Nat.lt_of_lt_of_le (by have:=World.block_lt_of_cell? _ _ hx107_0;first|rwa [add_block] at this|exact this) GW106.out);have hn107_5:ad107.block ≠ gb106:=Nat.ne_of_lt (Nat.lt_of_lt_of_le (by have:=World.block_lt_of_cell? _ _ hx107_0;first|rwa [add_block] at this|exact this) GW106.out);replace hx107_0:=(HB.out.cell (World.block_lt_of_cell? w _ hx107_0)).trans hx107_0;replace hx107_1:=(HB.out.cell (World.block_lt_of_cell? w _ hx107_1)).trans hx107_1;replace hx107_2:=(HB.out.cell (World.block_lt_of_cell? w _ hx107_2)).trans hx107_2;replace hx107_3:=(HB.out.cell (World.block_lt_of_cell? w _ hx107_3)).trans hx107_3;replace hx107_4:=(HB.out.cell (World.block_lt_of_cell? w _ hx107_4)).trans hx107_4;replace hx107_5:=(HB.out.cell (World.block_lt_of_cell? w _ hx107_5)).trans hx107_5;replace hx107_0:=(cell_far (p:=⟨gb106,0,none⟩) (by first|(rw [add_block];exact hn107_0)|(show (Addr.add _ _).block ≠ _;rw [add_block];exact hn107_0)|exact hn107_0) (.string ((rd_T91 t101 x17_1).f0.f0))).trans hx107_0;replace hx107_1:=(cell_far (p:=⟨gb106,0,none⟩) (by first|(rw [add_block];exact hn107_0)|(show (Addr.add _ _).block ≠ _;rw [add_block];exact hn107_0)|exact hn107_0) (.string ((rd_T91 t101 x17_1).f0.f0))).trans hx107_1;replace hx107_2:=(cell_far (p:=⟨gb106,0,none⟩) (by first|(rw [add_block];exact hn107_0)|(show (Addr.add _ _).block ≠ _;rw [add_block];exact hn107_0)|exact hn107_0) (.string ((rd_T91 t101 x17_1).f0.f0))).trans hx107_2;replace hx107_3:=(cell_far (p:=⟨gb106,0,none⟩) (by first|(rw [add_block];exact hn107_0)|(show (Addr.add _ _).block ≠ _;rw [add_block];exact hn107_0)|exact hn107_0) (.string ((rd_T91 t101 x17_1).f0.f0))).trans hx107_3;replace hx107_4:=(cell_far (p:=⟨gb106,0,none⟩) (by first|(rw [add_block];exact hn107_0)|(show (Addr.add _ _).block ≠ _;rw [add_block];exact hn107_0)|exact hn107_0) (.string ((rd_T91 t101 x17_1).f0.f0))).trans hx107_4;replace hx107_5:=(cell_far (p:=⟨gb106,0,none⟩) (by first|(rw [add_block];exact hn107_0)|(show (Addr.add _ _).block ≠ _;rw [add_block];exact hn107_0)|exact hn107_0) (.string ((rd_T91 t101 x17_1).f0.f0))).trans hx107_5;replace hx107_0:=(cell_far (p:=⟨gb106,1,none⟩) (by first|(rw [add_block];exact hn107_1)|(show (Addr.add _ _).block ≠ _;rw [add_block];exact hn107_1)|exact hn107_1) (.int .i64 ((rd_T91 t101 x17_1).f0.f1))).trans hx107_0;replace hx107_1:=(cell_far (p:=⟨gb106,1,none⟩) (by first|(rw [add_block];exact hn107_1)|(show (Addr.add _ _).block ≠ _;rw [add_block];exact hn107_1)|exact hn107_1) (.int .i64 ((rd_T91 t101 x17_1).f0.f1))).trans hx107_1;replace hx107_2:=(cell_far (p:=⟨gb106,1,none⟩) (by first|(rw [add_block];exact hn107_1)|(show (Addr.add _ _).block ≠ _;rw [add_block];exact hn107_1)|exact hn107_1) (.int .i64 ((rd_T91 t101 x17_1).f0.f1))).trans hx107_2;replace hx107_3:=(cell_far (p:=⟨gb106,1,none⟩) (by first|(rw [add_block];exact hn107_1)|(show (Addr.add _ _).block ≠ _;rw [add_block];exact hn107_1)|exact hn107_1) (.int .i64 ((rd_T91 t101 x17_1).f0.f1))).trans hx107_3;replace hx107_4:=(cell_far (p:=⟨gb106,1,none⟩) (by first|(rw [add_block];exact hn107_1)|(show (Addr.add _ _).block ≠ _;rw [add_block];exact hn107_1)|exact hn107_1) (.int .i64 ((rd_T91 t101 x17_1).f0.f1))).trans hx107_4;replace hx107_5:=(cell_far (p:=⟨gb106,1,none⟩) (by first|(rw [add_block];exact hn107_1)|(show (Addr.add _ _).block ≠ _;rw [add_block];exact hn107_1)|exact hn107_1) (.int .i64 ((rd_T91 t101 x17_1).f0.f1))).trans hx107_5;replace hx107_0:=(cell_far (p:=⟨gb106,2,none⟩) (by first|(rw [add_block];exact hn107_2)|(show (Addr.add _ _).block ≠ _;rw [add_block];exact hn107_2)|exact hn107_2) (.int .i64 ((rd_T91 t101 x17_1).f0.f2))).trans hx107_0;replace hx107_1:=(cell_far (p:=⟨gb106,2,none⟩) (by first|(rw [add_block];exact hn107_2)|(show (Addr.add _ _).block ≠ _;rw [add_block];exact hn107_2)|exact hn107_2) (.int .i64 ((rd_T91 t101 x17_1).f0.f2))).trans hx107_1;replace hx107_2:=(cell_far (p:=⟨gb106,2,none⟩) (by first|(rw [add_block];exact hn107_2)|(show (Addr.add _ _).block ≠ _;rw [add_block];exact hn107_2)|exact hn107_2) (.int .i64 ((rd_T91 t101 x17_1).f0.f2))).trans hx107_2;replace hx107_3:=(cell_far (p:=⟨gb106,2,none⟩) (by first|(rw [add_block];exact hn107_2)|(show (Addr.add _ _).block ≠ _;rw [add_block];exact hn107_2)|exact hn107_2) (.int .i64 ((rd_T91 t101 x17_1).f0.f2))).trans hx107_3;replace hx107_4:=(cell_far (p:=⟨gb106,2,none⟩) (by first|(rw [add_block];exact hn107_2)|(show (Addr.add _ _).block ≠ _;rw [add_block];exact hn107_2)|exact hn107_2) (.int .i64 ((rd_T91 t101 x17_1).f0.f2))).trans hx107_4;replace hx107_5:=(cell_far (p:=⟨gb106,2,none⟩) (by first|(rw [add_block];exact hn107_2)|(show (Addr.add _ _).block ≠ _;rw [add_block];exact hn107_2)|exact hn107_2) (.int .i64 ((rd_T91 t101 x17_1).f0.f2))).trans hx107_5;replace hx107_0:=(cell_far (p:=⟨gb106,3,none⟩) (by first|(rw [add_block];exact hn107_3)|(show (Addr.add _ _).block ≠ _;rw [add_block];exact hn107_3)|exact hn107_3) (.int .i64 ((rd_T91 t101 x17_1).f0.f3))).trans hx107_0;replace hx107_1:=(cell_far (p:=⟨gb106,3,none⟩) (by first|(rw [add_block];exact hn107_3)|(show (Addr.add _ _).block ≠ _;rw [add_block];exact hn107_3)|exact hn107_3) (.int .i64 ((rd_T91 t101 x17_1).f0.f3))).trans hx107_1;replace hx107_2:=(cell_far (p:=⟨gb106,3,none⟩) (by first|(rw [add_block];exact hn107_3)|(show (Addr.add _ _).block ≠ _;rw [add_block];exact hn107_3)|exact hn107_3) (.int .i64 ((rd_T91 t101 x17_1).f0.f3))).trans hx107_2;replace hx107_3:=(cell_far (p:=⟨gb106,3,none⟩) (by first|(rw [add_block];exact hn107_3)|(show (Addr.add _ _).block ≠ _;rw [add_block];exact hn107_3)|exact hn107_3) (.int .i64 ((rd_T91 t101 x17_1).f0.f3))).trans hx107_3;replace hx107_4:=(cell_far (p:=⟨gb106,3,none⟩) (by first|(rw [add_block];exact hn107_3)|(show (Addr.add _ _).block ≠ _;rw [add_block];exact hn107_3)|exact hn107_3) (.int .i64 ((rd_T91 t101 x17_1).f0.f3))).trans hx107_4;replace hx107_5:=(cell_far (p:=⟨gb106,3,none⟩) (by first|(rw [add_block];exact hn107_3)|(show (Addr.add _ _).block ≠ _;rw [add_block];exact hn107_3)|exact hn107_3) (.int .i64 ((rd_T91 t101 x17_1).f0.f3))).trans hx107_5;replace hx107_0:=(cell_far (p:=⟨gb106,4,none⟩) (by first|(rw [add_block];exact hn107_4)|(show (Addr.add _ _).block ≠ _;rw [add_block];exact hn107_4)|exact hn107_4) (.slice A105_4 ((rd_T91 t101 x17_1).f1).length c105_4)).trans hx107_0;replace hx107_1:=(cell_far (p:=⟨gb106,4,none⟩) (by first|(rw [add_block];exact hn107_4)|(show (Addr.add _ _).block ≠ _;rw [add_block];exact hn107_4)|exact hn107_4) (.slice A105_4 ((rd_T91 t101 x17_1).f1).length c105_4)).trans hx107_1;replace hx107_2:=(cell_far (p:=⟨gb106,4,none⟩) (by first|(rw [add_block];exact hn107_4)|(show (Addr.add _ _).block ≠ _;rw [add_block];exact hn107_4)|exact hn107_4) (.slice A105_4 ((rd_T91 t101 x17_1).f1).length c105_4)).trans hx107_2;replace hx107_3:=(cell_far (p:=⟨gb106,4,none⟩) (by first|(rw [add_block];exact hn107_4)|(show (Addr.add _ _).block ≠ _;rw [add_block];exact hn107_4)|exact hn107_4) (.slice A105_4 ((rd_T91 t101 x17_1).f1).length c105_4)).trans hx107_3;replace hx107_4:=(cell_far (p:=⟨gb106,4,none⟩) (by first|(rw [add_block];exact hn107_4)|(show (Addr.add _ _).block ≠ _;rw [add_block];exact hn107_4)|exact hn107_4) (.slice A105_4 ((rd_T91 t101 x17_1).f1).length c105_4)).trans hx107_4;replace hx107_5:=(cell_far (p:=⟨gb106,4,none⟩) (by first|(rw [add_block];exact hn107_4)|(show (Addr.add _ _).block ≠ _;rw [add_block];exact hn107_4)|exact hn107_4) (.slice A105_4 ((rd_T91 t101 x17_1).f1).length c105_4)).trans hx107_5;replace hx107_0:=(cell_far (p:=⟨gb106,5,none⟩) (by first|(rw [add_block];exact hn107_5)|(show (Addr.add _ _).block ≠ _;rw [add_block];exact hn107_5)|exact hn107_5) (.int .i64 ((rd_T91 t101 x17_1).f2))).trans hx107_0;replace hx107_1:=(cell_far (p:=⟨gb106,5,none⟩) (by first|(rw [add_block];exact hn107_5)|(show (Addr.add _ _).block ≠ _;rw [add_block];exact hn107_5)|exact hn107_5) (.int .i64 ((rd_T91 t101 x17_1).f2))).trans hx107_1;replace hx107_2:=(cell_far (p:=⟨gb106,5,none⟩) (by first|(rw [add_block];exact hn107_5)|(show (Addr.add _ _).block ≠ _;rw [add_block];exact hn107_5)|exact hn107_5) (.int .i64 ((rd_T91 t101 x17_1).f2))).trans hx107_2;replace hx107_3:=(cell_far (p:=⟨gb106,5,none⟩) (by first|(rw [add_block];exact hn107_5)|(show (Addr.add _ _).block ≠ _;rw [add_block];exact hn107_5)|exact hn107_5) (.int .i64 ((rd_T91 t101 x17_1).f2))).trans hx107_3;replace hx107_4:=(cell_far (p:=⟨gb106,5,none⟩) (by first|(rw [add_block];exact hn107_5)|(show (Addr.add _ _).block ≠ _;rw [add_block];exact hn107_5)|exact hn107_5) (.int .i64 ((rd_T91 t101 x17_1).f2))).trans hx107_4;replace hx107_5:=(cell_far (p:=⟨gb106,5,none⟩) (by first|(rw [add_block];exact hn107_5)|(show (Addr.add _ _).block ≠ _;rw [add_block];exact hn107_5)|exact hn107_5) (.int .i64 ((rd_T91 t101 x17_1).f2))).trans hx107_5;clear hn107_0;clear hn107_1;clear hn107_2;clear hn107_3;clear hn107_4;clear hn107_5;replace p107:=eq_true p107;replace q107:=eq_true q107;have p108:0 ≤ (x17_1:Int):=of_decide_eq_true (by first|(with_reducible assumption)|assumption);have q108:x17_1 < (l0.length:Int):=of_decide_eq_true (by first|(with_reducible assumption)|assumption);obtain ⟨ad108,e108,hx108_0,hx108_1,hx108_2,hx108_3,hx108_4,hx108_5⟩:=at_T73 HR0.out x17_1 p108 q108;obtain rfl:ad107 = ad108:=(by injection e108);have hn108_0:ad107.block ≠ gb106:=Nat.ne_of_lt (Nat.lt_of_lt_of_le (by have:=World.block_lt_of_cell? _ _ hx108_0;first|rwa [add_block] at this|exact this) GW106.out);have hn108_1:ad107.block ≠ gb106:=Nat.ne_of_lt (Nat.lt_of_lt_of_le (by have:=World.block_lt_of_cell? _ _ hx108_0;first|rwa [add_block] at this|exact this) GW106.out);have hn108_2:ad107.block ≠ gb106:=Nat.ne_of_lt (Nat.lt_of_lt_of_le (by have:=World.block_lt_of_cell? _ _ hx108_0;first|rwa [add_block] at this|exact this) GW106.out);have hn108_3:ad107.block ≠ gb106:=Nat.ne_of_lt (Nat.lt_of_lt_of_le (by have:=World.block_lt_of_cell? _ _ hx108_0;first|rwa [add_block] at this|exact this) GW106.out);have hn108_4:ad107.block ≠ gb106:=Nat.ne_of_lt (Nat.lt_of_lt_of_le (by have:=World.block_lt_of_cell? _ _ hx108_0;first|rwa [add_block] at this|exact this) GW106.out);have hn108_5:ad107.block ≠ gb106:=Nat.ne_of_lt (Nat.lt_of_lt_of_le (by have:=World.block_lt_of_cell? _ _ hx108_0;first|rwa [add_block] at this|exact this) GW106.out);replace hx108_0:=(HB.out.cell (World.block_lt_of_cell? w _ hx108_0)).trans hx108_0;replace hx108_1:=(HB.out.cell (World.block_lt_of_cell? w _ hx108_1)).trans hx108_1;replace hx108_2:=(HB.out.cell (World.block_lt_of_cell? w _ hx108_2)).trans hx108_2;replace hx108_3:=(HB.out.cell (World.block_lt_of_cell? w _ hx108_3)).trans hx108_3;replace hx108_4:=(HB.out.cell (World.block_lt_of_cell? w _ hx108_4)).trans hx108_4;replace hx108_5:=(HB.out.cell (World.block_lt_of_cell? w _ hx108_5)).trans hx108_5;replace hx108_0:=(cell_far (p:=⟨gb106,0,none⟩) (by first|(rw [add_block];exact hn108_0)|(show (Addr.add _ _).block ≠ _;rw [add_block];exact hn108_0)|exact hn108_0) (.string ((rd_T91 t101 x17_1).f0.f0))).trans hx108_0;replace hx108_1:=(cell_far (p:=⟨gb106,0,none⟩) (by first|(rw [add_block];exact hn108_0)|(show (Addr.add _ _).block ≠ _;rw [add_block];exact hn108_0)|exact hn108_0) (.string ((rd_T91 t101 x17_1).f0.f0))).trans hx108_1;replace hx108_2:=(cell_far (p:=⟨gb106,0,none⟩) (by first|(rw [add_block];exact hn108_0)|(show (Addr.add _ _).block ≠ _;rw [add_block];exact hn108_0)|exact hn108_0) (.string ((rd_T91 t101 x17_1).f0.f0))).trans hx108_2;replace hx108_3:=(cell_far (p:=⟨gb106,0,none⟩) (by first|(rw [add_block];exact hn108_0)|(show (Addr.add _ _).block ≠ _;rw [add_block];exact hn108_0)|exact hn108_0) (.string ((rd_T91 t101 x17_1).f0.f0))).trans hx108_3;replace hx108_4:=(cell_far (p:=⟨gb106,0,none⟩) (by first|(rw [add_block];exact hn108_0)|(show (Addr.add _ _).block ≠ _;rw [add_block];exact hn108_0)|exact hn108_0) (.string ((rd_T91 t101 x17_1).f0.f0))).trans hx108_4;replace hx108_5:=(cell_far (p:=⟨gb106,0,none⟩) (by first|(rw [add_block];exact hn108_0)|(show (Addr.add _ _).block ≠ _;rw [add_block];exact hn108_0)|exact hn108_0) (.string ((rd_T91 t101 x17_1).f0.f0))).trans hx108_5;replace hx108_0:=(cell_far (p:=⟨gb106,1,none⟩) (by first|(rw [add_block];exact hn108_1)|(show (Addr.add _ _).block ≠ _;rw [add_block];exact hn108_1)|exact hn108_1) (.int .i64 ((rd_T91 t101 x17_1).f0.f1))).trans hx108_0;replace hx108_1:=(cell_far (p:=⟨gb106,1,none⟩) (by first|(rw [add_block];exact hn108_1)|(show (Addr.add _ _).block ≠ _;rw [add_block];exact hn108_1)|exact hn108_1) (.int .i64 ((rd_T91 t101 x17_1).f0.f1))).trans hx108_1;replace hx108_2:=(cell_far (p:=⟨gb106,1,none⟩) (by first|(rw [add_block];exact hn108_1)|(show (Addr.add _ _).block ≠ _;rw [add_block];exact hn108_1)|exact hn108_1) (.int .i64 ((rd_T91 t101 x17_1).f0.f1))).trans hx108_2;replace hx108_3:=(cell_far (p:=⟨gb106,1,none⟩) (by first|(rw [add_block];exact hn108_1)|(show (Addr.add _ _).block ≠ _;rw [add_block];exact hn108_1)|exact hn108_1) (.int .i64 ((rd_T91 t101 x17_1).f0.f1))).trans hx108_3;replace hx108_4:=(cell_far (p:=⟨gb106,1,none⟩) (by first|(rw [add_block];exact hn108_1)|(show (Addr.add _ _).block ≠ _;rw [add_block];exact hn108_1)|exact hn108_1) (.int .i64 ((rd_T91 t101 x17_1).f0.f1))).trans hx108_4;replace hx108_5:=(cell_far (p:=⟨gb106,1,none⟩) (by first|(rw [add_block];exact hn108_1)|(show (Addr.add _ _).block ≠ _;rw [add_block];exact hn108_1)|exact hn108_1) (.int .i64 ((rd_T91 t101 x17_1).f0.f1))).trans hx108_5;replace hx108_0:=(cell_far (p:=⟨gb106,2,none⟩) (by first|(rw [add_block];exact hn108_2)|(show (Addr.add _ _).block ≠ _;rw [add_block];exact hn108_2)|exact hn108_2) (.int .i64 ((rd_T91 t101 x17_1).f0.f2))).trans hx108_0;replace hx108_1:=(cell_far (p:=⟨gb106,2,none⟩) (by first|(rw [add_block];exact hn108_2)|(show (Addr.add _ _).block ≠ _;rw [add_block];exact hn108_2)|exact hn108_2) (.int .i64 ((rd_T91 t101 x17_1).f0.f2))).trans hx108_1;replace hx108_2:=(cell_far (p:=⟨gb106,2,none⟩) (by first|(rw [add_block];exact hn108_2)|(show (Addr.add _ _).block ≠ _;rw [add_block];exact hn108_2)|exact hn108_2) (.int .i64 ((rd_T91 t101 x17_1).f0.f2))).trans hx108_2;replace hx108_3:=(cell_far (p:=⟨gb106,2,none⟩) (by first|(rw [add_block];exact hn108_2)|(show (Addr.add _ _).block ≠ _;rw [add_block];exact hn108_2)|exact hn108_2) (.int .i64 ((rd_T91 t101 x17_1).f0.f2))).trans hx108_3;replace hx108_4:=(cell_far (p:=⟨gb106,2,none⟩) (by first|(rw [add_block];exact hn108_2)|(show (Addr.add _ _).block ≠ _;rw [add_block];exact hn108_2)|exact hn108_2) (.int .i64 ((rd_T91 t101 x17_1).f0.f2))).trans hx108_4;replace hx108_5:=(cell_far (p:=⟨gb106,2,none⟩) (by first|(rw [add_block];exact hn108_2)|(show (Addr.add _ _).block ≠ _;rw [add_block];exact hn108_2)|exact hn108_2) (.int .i64 ((rd_T91 t101 x17_1).f0.f2))).trans hx108_5;replace hx108_0:=(cell_far (p:=⟨gb106,3,none⟩) (by first|(rw [add_block];exact hn108_3)|(show (Addr.add _ _).block ≠ _;rw [add_block];exact hn108_3)|exact hn108_3) (.int .i64 ((rd_T91 t101 x17_1).f0.f3))).trans hx108_0;replace hx108_1:=(cell_far (p:=⟨gb106,3,none⟩) (by first|(rw [add_block];exact hn108_3)|(show (Addr.add _ _).block ≠ _;rw [add_block];exact hn108_3)|exact hn108_3) (.int .i64 ((rd_T91 t101 x17_1).f0.f3))).trans hx108_1;replace hx108_2:=(cell_far (p:=⟨gb106,3,none⟩) (by first|(rw [add_block];exact hn108_3)|(show (Addr.add _ _).block ≠ _;rw [add_block];exact hn108_3)|exact hn108_3) (.int .i64 ((rd_T91 t101 x17_1).f0.f3))).trans hx108_2;replace hx108_3:=(cell_far (p:=⟨gb106,3,none⟩) (by first|(rw [add_block];exact hn108_3)|(show (Addr.add _ _).block ≠ _;rw [add_block];exact hn108_3)|exact hn108_3) (.int .i64 ((rd_T91 t101 x17_1).f0.f3))).trans hx108_3;replace hx108_4:=(cell_far (p:=⟨gb106,3,none⟩) (by first|(rw [add_block];exact hn108_3)|(show (Addr.add _ _).block ≠ _;rw [add_block];exact hn108_3)|exact hn108_3) (.int .i64 ((rd_T91 t101 x17_1).f0.f3))).trans hx108_4;replace hx108_5:=(cell_far (p:=⟨gb106,3,none⟩) (by first|(rw [add_block];exact hn108_3)|(show (Addr.add _ _).block ≠ _;rw [add_block];exact hn108_3)|exact hn108_3) (.int .i64 ((rd_T91 t101 x17_1).f0.f3))).trans hx108_5;replace hx108_0:=(cell_far (p:=⟨gb106,4,none⟩) (by first|(rw [add_block];exact hn108_4)|(show (Addr.add _ _).block ≠ _;rw [add_block];exact hn108_4)|exact hn108_4) (.slice A105_4 ((rd_T91 t101 x17_1).f1).length c105_4)).trans hx108_0;replace hx108_1:=(cell_far (p:=⟨gb106,4,none⟩) (by first|(rw [add_block];exact hn108_4)|(show (Addr.add _ _).block ≠ _;rw [add_block];exact hn108_4)|exact hn108_4) (.slice A105_4 ((rd_T91 t101 x17_1).f1).length c105_4)).trans hx108_1;replace hx108_2:=(cell_far (p:=⟨gb106,4,none⟩) (by first|(rw [add_block];exact hn108_4)|(show (Addr.add _ _).block ≠ _;rw [add_block];exact hn108_4)|exact hn108_4) (.slice A105_4 ((rd_T91 t101 x17_1).f1).length c105_4)).trans hx108_2;replace hx108_3:=(cell_far (p:=⟨gb106,4,none⟩) (by first|(rw [add_block];exact hn108_4)|(show (Addr.add _ _).block ≠ _;rw [add_block];exact hn108_4)|exact hn108_4) (.slice A105_4 ((rd_T91 t101 x17_1).f1).length c105_4)).trans hx108_3;replace hx108_4:=(cell_far (p:=⟨gb106,4,none⟩) (by first|(rw [add_block];exact hn108_4)|(show (Addr.add _ _).block ≠ _;rw [add_block];exact hn108_4)|exact hn108_4) (.slice A105_4 ((rd_T91 t101 x17_1).f1).length c105_4)).trans hx108_4;replace hx108_5:=(cell_far (p:=⟨gb106,4,none⟩) (by first|(rw [add_block];exact hn108_4)|(show (Addr.add _ _).block ≠ _;rw [add_block];exact hn108_4)|exact hn108_4) (.slice A105_4 ((rd_T91 t101 x17_1).f1).length c105_4)).trans hx108_5;replace hx108_0:=(cell_far (p:=⟨gb106,5,none⟩) (by first|(rw [add_block];exact hn108_5)|(show (Addr.add _ _).block ≠ _;rw [add_block];exact hn108_5)|exact hn108_5) (.int .i64 ((rd_T91 t101 x17_1).f2))).trans hx108_0;replace hx108_1:=(cell_far (p:=⟨gb106,5,none⟩) (by first|(rw [add_block];exact hn108_5)|(show (Addr.add _ _).block ≠ _;rw [add_block];exact hn108_5)|exact hn108_5) (.int .i64 ((rd_T91 t101 x17_1).f2))).trans hx108_1;replace hx108_2:=(cell_far (p:=⟨gb106,5,none⟩) (by first|(rw [add_block];exact hn108_5)|(show (Addr.add _ _).block ≠ _;rw [add_block];exact hn108_5)|exact hn108_5) (.int .i64 ((rd_T91 t101 x17_1).f2))).trans hx108_2;replace hx108_3:=(cell_far (p:=⟨gb106,5,none⟩) (by first|(rw [add_block];exact hn108_5)|(show (Addr.add _ _).block ≠ _;rw [add_block];exact hn108_5)|exact hn108_5) (.int .i64 ((rd_T91 t101 x17_1).f2))).trans hx108_3;replace hx108_4:=(cell_far (p:=⟨gb106,5,none⟩) (by first|(rw [add_block];exact hn108_5)|(show (Addr.add _ _).block ≠ _;rw [add_block];exact hn108_5)|exact hn108_5) (.int .i64 ((rd_T91 t101 x17_1).f2))).trans hx108_4;replace hx108_5:=(cell_far (p:=⟨gb106,5,none⟩) (by first|(rw [add_block];exact hn108_5)|(show (Addr.add _ _).block ≠ _;rw [add_block];exact hn108_5)|exact hn108_5) (.int .i64 ((rd_T91 t101 x17_1).f2))).trans hx108_5;clear hn108_0;clear hn108_1;clear hn108_2;clear hn108_3;clear hn108_4;clear hn108_5;replace p108:=eq_true p108;replace q108:=eq_true q108)))
       go_roundg k1
       case measure=>have:=HK1.out;omega
       case rel=>exact ⟨(wrap64 (x4_1 + (wrap64 ((wrap64 (((rd_T73 l0 x17_1).f1) - ((rd_T73 l0 x17_1).f2))) * ((rd_T91 t101 x17_1).f2))))),(wrap64 (x17_1 + 1)),(by first|rfl|(simp;done)|(simp [*];done)),(by first|rfl|(simp;done)|(simp [*];done)),H',⟨by have:=HK1.out;omega⟩,⟨by (with_reducible repeat (first|apply Kd.N_alloc|apply Kd.N_drewN|apply Kd.N_drew));exact Kd.N_mono (Kd.N_far (p:=⟨gb106,5,none⟩) (Kd.N_far (p:=⟨gb106,4,none⟩) (Kd.N_far (p:=⟨gb106,3,none⟩) (Kd.N_far (p:=⟨gb106,2,none⟩) (Kd.N_far (p:=⟨gb106,1,none⟩) (Kd.N_far (p:=⟨gb106,0,none⟩) (Kd.N_mono HO_15.out (fun k_ hk=>(⟨hk,hk.2⟩:_ ∧ k_ ≠ gb106))) (fun _ hk=>hk.2) (.string ((rd_T91 t101 x17_1).f0.f0))) (fun _ hk=>hk.2) (.int .i64 ((rd_T91 t101 x17_1).f0.f1))) (fun _ hk=>hk.2) (.int .i64 ((rd_T91 t101 x17_1).f0.f2))) (fun _ hk=>hk.2) (.int .i64 ((rd_T91 t101 x17_1).f0.f3))) (fun _ hk=>hk.2) (.slice A105_4 ((rd_T91 t101 x17_1).f1).length c105_4)) (fun _ hk=>hk.2) (.int .i64 ((rd_T91 t101 x17_1).f2))) (fun _ hk=>trivial)⟩,⟨by repeat (first|(with_reducible first|exact HB.out|apply below_alloc|apply pw_below_drewN|apply below_drew1|refine below_set ?_ GE106.out)|exact HB.out)⟩⟩
      ·rw [if_neg c9] at H
       exact absurd H (by simp)
     ·rw [if_neg c8] at H
      exact absurd H (by simp)
    ·rw [if_neg c7] at H
     exact absurd H (by simp)
   ·rw [if_neg c6] at H
    have c6b0:decide (x17_1 < (t101.length:Int)) = false:=decide_eq_false c6
    clear c6
    simp only [Option.some.injEq,Prod.mk.injEq] at H
    obtain ⟨rfl,rfl⟩:=H
    go_wp2
    repeat (go_quiet (fail);try go_wp2)
    go_ret2
    exact ⟨by first|rfl|(simp [errW_none,errW_some] <;> rfl)|(simp [*,errW_none,errW_some] <;> rfl),by repeat (first|(with_reducible first|exact HB.out|apply below_alloc|apply pw_below_drewN|apply below_drew1)|exact HB.out)⟩
end Go.Proofs.Ytbgeceiddcokmaa.X
end
section
namespace Go.Proofs.Ytbgeceiddcokmaa.X
open Go.RowKit Go.Proofs.YtbgeceiddcokmaaW.PrintWords Go.Proofs.YtbgeceiddcokmaaW.PrintLast Go.Proofs.YtbgeceiddcokmaaW.PrintMore
attribute [local go_sem] max2_int min2_int max_two min_two max_three min_three max_four min_four
set_option linter.unusedVariables false
set_option linter.unusedSimpArgs false
def cents_Fits.f (a0:Int):Option (Bool):=if a0 ≥ (-1152921504606846976) then (some (decide (a0 ≤ 1152921504606846976))) else (some false)
set_option maxHeartbeats 8000000 in
set_option maxRecDepth 100000 in
theorem cents_Fits.calls (a0:Int) (r:Bool) (w:World) (h:cents_Fits.f a0 = some r) :
  Calls Try.prog 80 #[.int .i64 a0] w fun e w'=>e = .returned (.bool r) ∧ Drawn0 w w':=by
 have H:(if a0 ≥ (-1152921504606846976) then (some (decide (a0 ≤ 1152921504606846976))) else (some false)) = some r:=h
 clear h
 by_cases c2:a0 ≥ (-1152921504606846976)
 ·rw [if_pos c2] at H
  have c2b0:decide ((-1152921504606846976) ≤ a0) = true:=decide_eq_true c2
  clear c2
  obtain rfl:=Option.some.inj H
  go_enter Try.func80,Try.ntmps80
  go_wp2
  go_ret
  exact ⟨by first|rfl|(simp;done)|(simp [*];done),by repeat (first|exact Drawn0.refl _|apply Drawn0.step)⟩
 ·rw [if_neg c2] at H
  have c2b0:decide ((-1152921504606846976) ≤ a0) = false:=decide_eq_false c2
  clear c2
  obtain rfl:=Option.some.inj H
  go_enter Try.func80,Try.ntmps80
  go_wp2
  go_ret
  exact ⟨by first|rfl|(simp;done)|(simp [*];done),by repeat (first|exact Drawn0.refl _|apply Drawn0.step)⟩
end Go.Proofs.Ytbgeceiddcokmaa.X
end
section
namespace Go.Proofs.Ytbgeceiddcokmaa.X
open Go.RowKit Go.Proofs.YtbgeceiddcokmaaW.PrintWords Go.Proofs.YtbgeceiddcokmaaW.PrintLast Go.Proofs.YtbgeceiddcokmaaW.PrintMore
attribute [local go_sem] max2_int min2_int max_two min_two max_three min_three max_four min_four
set_option linter.unusedVariables false
set_option linter.unusedSimpArgs false
def cents_fitting.f (a0:Int):Option (Int × Int):=(cents_Fits.f a0).bind fun t101=>(if t101 = true then (some (a0,0)) else (some (0,3)))
set_option maxHeartbeats 8000000 in
set_option maxRecDepth 100000 in
theorem cents_fitting.calls (a0:Int) (r1:Int) (r2:Int) (w:World) (h:cents_fitting.f a0 = some (r1,r2)) :
  Calls Try.prog 81 #[.int .i64 a0] w fun e w'=>e = .returned (.tuple #[.int .i64 r1,.int .i64 r2]) ∧ Drawn0 w w':=by
 have H:((cents_Fits.f a0).bind fun t101=>(if t101 = true then (some (a0,0)) else (some (0,3)))) = some (r1,r2):=h
 clear h
 replace H:=Option.bind_eq_some_iff.mp H
 obtain ⟨t101,A20,H⟩:=H
 replace H:(if t101 = true then (some (a0,0)) else (some (0,3))) = some (r1,r2):=H
 have A2:=Aside0.mk A20
 clear A20
 by_cases c3:t101 = true
 ·subst c3
  have H1:(some (a0,0)) = some (r1,r2):=by rw [if_pos rfl] at H;exact H
  clear H
  have H:=H1
  clear H1
  simp only [Option.some.injEq,Prod.mk.injEq] at H
  obtain ⟨rfl,rfl⟩:=H
  go_enter Try.func81,Try.ntmps81
  go_wp2_with (first|((with_reducible refine gate_callee (f:=80) rfl ?_);refine goesL_ (some 5) rfl rfl Try.func80 (by kernel_rfl) rfl #[.int .i64 a0] rfl (by (try simp only [List.map_toArray,List.map_cons,List.map_nil]);first|done|rfl|(simp only [List.length_drop,List.length_take];rfl)) ?_;(with_reducible refine (cents_Fits.calls a0 true _ A2.out).mono ?_);rintro e w' ⟨rfl,⟨nd,rfl⟩⟩;refine ⟨_,rfl,?_⟩))
  go_ret2
  exact ⟨by first|rfl|(simp;done)|(simp [*];done),by repeat (first|exact Drawn0.refl _|apply Drawn0.step)⟩
 ·replace c3:=Bool.eq_false_iff.mpr c3
  subst c3
  have H1:(some (0,3)) = some (r1,r2):=by rw [if_neg (show ¬ (false = true) by decide)] at H;exact H
  clear H
  have H:=H1
  clear H1
  simp only [Option.some.injEq,Prod.mk.injEq] at H
  obtain ⟨rfl,rfl⟩:=H
  go_enter Try.func81,Try.ntmps81
  go_wp2_with (first|((with_reducible refine gate_callee (f:=80) rfl ?_);refine goesL_ (some 5) rfl rfl Try.func80 (by kernel_rfl) rfl #[.int .i64 a0] rfl (by (try simp only [List.map_toArray,List.map_cons,List.map_nil]);first|done|rfl|(simp only [List.length_drop,List.length_take];rfl)) ?_;(with_reducible refine (cents_Fits.calls a0 false _ A2.out).mono ?_);rintro e w' ⟨rfl,⟨nd,rfl⟩⟩;refine ⟨_,rfl,?_⟩))
  go_ret2
  exact ⟨by first|rfl|(simp;done)|(simp [*];done),by repeat (first|exact Drawn0.refl _|apply Drawn0.step)⟩
end Go.Proofs.Ytbgeceiddcokmaa.X
end
section
namespace Go.Proofs.Ytbgeceiddcokmaa.X
open Go.RowKit Go.Proofs.YtbgeceiddcokmaaW.PrintWords Go.Proofs.YtbgeceiddcokmaaW.PrintLast Go.Proofs.YtbgeceiddcokmaaW.PrintMore
attribute [local go_sem] max2_int min2_int max_two min_two max_three min_three max_four min_four
set_option linter.unusedVariables false
set_option linter.unusedSimpArgs false
def cents_Sum.l0:Nat → List Int → Int → Int → Int → Int → Option (Int × Int)
 | 0,_,_,_,_,_=>none
 | k + 1,x0,x4,x5,x9,x10=>if x10 < x9 then (if 0 ≤ x10 then (if x10 < (x0.length:Int) then ((cents_Fits.f (rd x0 x10)).bind fun t102=>(if t102 = true then (cents_Sum.l0 k x0 (wrap64 (x4 + ((rd x0 x10) / 4294967296))) (wrap64 (x5 + (Go.bits .and .i64 (rd x0 x10) 4294967295))) x9 (wrap64 (x10 + 1))) else (some (0,2)))) else (none)) else (none)) else (if (wrap64 (x4 + (x5 / 4294967296))) < (-268435456) then (some (0,3)) else (if (wrap64 (x4 + (x5 / 4294967296))) > 268435456 then (some (0,3)) else ((cents_fitting.f (wrap64 ((wrap64 ((wrap64 (x4 + (x5 / 4294967296))) * 4294967296)) + (Go.bits .and .i64 x5 4294967295)))).bind fun bt105=>(some (bt105.1,bt105.2)))))
def cents_Sum.f (k:Nat) (l0:List Int):Option (Int × Int):=cents_Sum.l0 k l0 0 0 (l0.length:Int) 0
theorem cents_Sum.mono_l:∀ k,(∀ y0 y1 y2 y3 y4,LeO (cents_Sum.l0 k y0 y1 y2 y3 y4) (cents_Sum.l0 (k + 1) y0 y1 y2 y3 y4))
 | 0=>fun _ _ _ _ _ r h=>by simp [cents_Sum.l0] at h
 | k + 1=>by
  have ih0:=cents_Sum.mono_l k
  ·intro y0 y1 y2 y3 y4
   unfold cents_Sum.l0
   repeat' first
   | (with_reducible exact ih0 _ _ _ _ _)
   | (with_reducible exact LeO.refl _)
   | (with_reducible exact LeO.none _)
   | (with_reducible refine LeO.ite ?_ ?_)
   | (with_reducible refine LeO.bind ?_ (fun _=>?_))
   | exact ih0 _ _ _ _ _
   | exact LeO.none _
   | refine LeO.ite ?_ ?_
   | refine LeO.bind ?_ (fun _=>?_)
theorem cents_Sum.mono:∀ a0 k,LeO (cents_Sum.f k a0) (cents_Sum.f (k + 1) a0):=by
 intro a0 k
 have ih0:=cents_Sum.mono_l k
 unfold cents_Sum.f
 repeat' first
   | (with_reducible exact ih0 _ _ _ _ _)
   | (with_reducible exact LeO.refl _)
   | (with_reducible exact LeO.none _)
   | (with_reducible refine LeO.ite ?_ ?_)
   | (with_reducible refine LeO.bind ?_ (fun _=>?_))
   | exact ih0 _ _ _ _ _
   | exact LeO.none _
   | refine LeO.ite ?_ ?_
   | refine LeO.bind ?_ (fun _=>?_)
set_option maxHeartbeats 8000000 in
set_option maxRecDepth 100000 in
theorem cents_Sum.calls (k:Nat) (A0:Option Addr) (c0:Nat) (l0:List Int) (r1:Int) (r2:Int) (w:World) (hr0:Kd.C (Kd.int .i64) w A0 l0.length l0) (hc0:l0.length ≤ c0) (h:cents_Sum.f k l0 = some (r1,r2)) :
  Calls Try.prog 58 #[.slice A0 l0.length c0] w fun e w'=>e = .returned (.tuple #[.int .i64 r1,.int .i64 r2]) ∧ Drawn0 w w':=by
 have HR0:=Aside0.mk hr0
 have HC0:=Aside0.mk hc0
 clear hr0 hc0
 have H:(cents_Sum.l0 k l0 0 0 (l0.length:Int) 0) = some (r1,r2):=h
 clear h
 have H':=Aside0.mk H
 clear H
 go_enter Try.func58,Try.ntmps58
 go_wp2
 go_loopg [4,5,10] k (fun kq v4 v5 v10 w'=>∃ (x4_1:Int) (x5_1:Int) (x10_1:Int),v4 = .int .i64 x4_1 ∧ v5 = .int .i64 x5_1 ∧ v10 = .int .i64 x10_1 ∧ Aside0 (cents_Sum.l0 kq l0 x4_1 x5_1 (l0.length:Int) x10_1 = some (r1,r2)) ∧ Aside0 (kq ≤ k) ∧ Drawn0 w w')
 case atStart=>exact ⟨(0),(0),(0),(by first|rfl|(simp;done)|(simp [*];done)),(by first|rfl|(simp;done)|(simp [*];done)),(by first|rfl|(simp;done)|(simp [*];done)),H',⟨Nat.le_refl _⟩,by repeat (first|exact Drawn0.refl _|apply Drawn0.step)⟩
 case round =>
  clear H'
  obtain ⟨x4_1,x5_1,x10_1,rfl,rfl,rfl,HA,HK1,⟨m1,rfl⟩⟩:=hrel
  cases gk with
  | zero=>exact absurd HA.out (by simp [cents_Sum.l0])
  | succ k1 =>
   have H:=HA.out
   clear HA
   simp only [cents_Sum.l0] at H
   by_cases c2:x10_1 < (l0.length:Int)
   ·rw [if_pos c2] at H
    have c2b0:decide (x10_1 < (l0.length:Int)) = true:=decide_eq_true c2
    clear c2
    by_cases c3:0 ≤ x10_1
    ·rw [if_pos c3] at H
     have c3b0:decide (0 ≤ x10_1) = true:=decide_eq_true c3
     clear c3
     by_cases c4:x10_1 < (l0.length:Int)
     ·rw [if_pos c4] at H
      have c4b0:decide (x10_1 < (l0.length:Int)) = true:=decide_eq_true c4
      clear c4
      replace H:=Option.bind_eq_some_iff.mp H
      obtain ⟨t102,A50,H⟩:=H
      replace H:(if t102 = true then (cents_Sum.l0 k1 l0 (wrap64 (x4_1 + ((rd l0 x10_1) / 4294967296))) (wrap64 (x5_1 + (Go.bits .and .i64 (rd l0 x10_1) 4294967295))) (l0.length:Int) (wrap64 (x10_1 + 1))) else (some (0,2))) = some (r1,r2):=H
      have A5:=Aside0.mk A50
      clear A50
      by_cases c6:t102 = true
      ·subst c6
       have H1:(cents_Sum.l0 k1 l0 (wrap64 (x4_1 + ((rd l0 x10_1) / 4294967296))) (wrap64 (x5_1 + (Go.bits .and .i64 (rd l0 x10_1) 4294967295))) (l0.length:Int) (wrap64 (x10_1 + 1))) = some (r1,r2):=by rw [if_pos rfl] at H;exact H
       clear H
       have H:=H1
       clear H1
       have H':=Aside0.mk H
       clear H
       have p101:0 ≤ (x10_1:Int):=of_decide_eq_true (by first|(with_reducible assumption)|assumption)
       have q101:x10_1 < (l0.length:Int):=of_decide_eq_true (by first|(with_reducible assumption)|assumption)
       obtain ⟨ad101,e101,hx101_0⟩:=Kd.at_int HR0.out x10_1 p101 q101
       cases e101
       replace p101:=eq_true p101
       replace q101:=eq_true q101
       go_wp2_with (first|((with_reducible refine gate_callee (f:=80) rfl ?_);refine goesL_ (some 17) rfl rfl Try.func80 (by kernel_rfl) rfl #[.int .i64 (rd l0 x10_1)] rfl (by (try simp only [List.map_toArray,List.map_cons,List.map_nil]);first|done|rfl|(simp only [List.length_drop,List.length_take];rfl)) ?_;(with_reducible refine (cents_Fits.calls (rd l0 x10_1) true _ A5.out).mono ?_);rintro e w' ⟨rfl,⟨nd,rfl⟩⟩;refine ⟨_,rfl,?_⟩;have p103:0 ≤ (x10_1:Int):=of_decide_eq_true (by first|(with_reducible assumption)|assumption);have q103:x10_1 < (l0.length:Int):=of_decide_eq_true (by first|(with_reducible assumption)|assumption);obtain ⟨ad103,e103,hx103_0⟩:=Kd.at_int HR0.out x10_1 p103 q103;obtain rfl:ad101 = ad103:=(by injection e103);replace p103:=eq_true p103;replace q103:=eq_true q103;have p104:0 ≤ (x10_1:Int):=of_decide_eq_true (by first|(with_reducible assumption)|assumption);have q104:x10_1 < (l0.length:Int):=of_decide_eq_true (by first|(with_reducible assumption)|assumption);obtain ⟨ad104,e104,hx104_0⟩:=Kd.at_int HR0.out x10_1 p104 q104;obtain rfl:ad101 = ad104:=(by injection e104);replace p104:=eq_true p104;replace q104:=eq_true q104))
       go_roundg k1
       case measure=>have:=HK1.out;omega
       case rel=>exact ⟨(wrap64 (x4_1 + ((rd l0 x10_1) / 4294967296))),(wrap64 (x5_1 + (Go.bits .and .i64 (rd l0 x10_1) 4294967295))),(wrap64 (x10_1 + 1)),(by first|rfl|(simp;done)|(simp [*];done)),(by first|rfl|(simp;done)|(simp [*];done)),(by first|rfl|(simp;done)|(simp [*];done)),H',⟨by have:=HK1.out;omega⟩,by repeat (first|exact Drawn0.refl _|apply Drawn0.step)⟩
      ·replace c6:=Bool.eq_false_iff.mpr c6
       subst c6
       have H1:(some (0,2)) = some (r1,r2):=by rw [if_neg (show ¬ (false = true) by decide)] at H;exact H
       clear H
       have H:=H1
       clear H1
       simp only [Option.some.injEq,Prod.mk.injEq] at H
       obtain ⟨rfl,rfl⟩:=H
       have p101:0 ≤ (x10_1:Int):=of_decide_eq_true (by first|(with_reducible assumption)|assumption)
       have q101:x10_1 < (l0.length:Int):=of_decide_eq_true (by first|(with_reducible assumption)|assumption)
       obtain ⟨ad101,e101,hx101_0⟩:=Kd.at_int HR0.out x10_1 p101 q101
       cases e101
       replace p101:=eq_true p101
       replace q101:=eq_true q101
       go_wp2_with (first|((with_reducible refine gate_callee (f:=80) rfl ?_);refine goesL_ (some 17) rfl rfl Try.func80 (by kernel_rfl) rfl #[.int .i64 (rd l0 x10_1)] rfl (by (try simp only [List.map_toArray,List.map_cons,List.map_nil]);first|done|rfl|(simp only [List.length_drop,List.length_take];rfl)) ?_;(with_reducible refine (cents_Fits.calls (rd l0 x10_1) false _ A5.out).mono ?_);rintro e w' ⟨rfl,⟨nd,rfl⟩⟩;refine ⟨_,rfl,?_⟩))
       go_ret2
       exact ⟨by first|rfl|(simp;done)|(simp [*];done),by repeat (first|exact Drawn0.refl _|apply Drawn0.step)⟩
     ·rw [if_neg c4] at H
      exact absurd H (by simp)
    ·rw [if_neg c3] at H
     exact absurd H (by simp)
   ·rw [if_neg c2] at H
    have c2b0:decide (x10_1 < (l0.length:Int)) = false:=decide_eq_false c2
    clear c2
    by_cases c7:(wrap64 (x4_1 + (x5_1 / 4294967296))) < (-268435456)
    ·rw [if_pos c7] at H
     have c7b0:decide ((wrap64 (x4_1 + (x5_1 / 4294967296))) < (-268435456)) = true:=decide_eq_true c7
     clear c7
     simp only [Option.some.injEq,Prod.mk.injEq] at H
     obtain ⟨rfl,rfl⟩:=H
     go_wp2
     go_ret2
     exact ⟨by first|rfl|(simp;done)|(simp [*];done),by repeat (first|exact Drawn0.refl _|apply Drawn0.step)⟩
    ·rw [if_neg c7] at H
     have c7b0:decide ((wrap64 (x4_1 + (x5_1 / 4294967296))) < (-268435456)) = false:=decide_eq_false c7
     clear c7
     by_cases c8:(wrap64 (x4_1 + (x5_1 / 4294967296))) > 268435456
     ·rw [if_pos c8] at H
      have c8b0:decide (268435456 < (wrap64 (x4_1 + (x5_1 / 4294967296)))) = true:=decide_eq_true c8
      clear c8
      simp only [Option.some.injEq,Prod.mk.injEq] at H
      obtain ⟨rfl,rfl⟩:=H
      go_wp2
      go_ret2
      exact ⟨by first|rfl|(simp;done)|(simp [*];done),by repeat (first|exact Drawn0.refl _|apply Drawn0.step)⟩
     ·rw [if_neg c8] at H
      have c8b0:decide (268435456 < (wrap64 (x4_1 + (x5_1 / 4294967296)))) = false:=decide_eq_false c8
      clear c8
      replace H:=Option.bind_eq_some_iff.mp H
      obtain ⟨⟨t105,t106⟩,A90,H⟩:=H
      replace H:(some (t105,t106)) = some (r1,r2):=H
      have A9:=Aside0.mk A90
      clear A90
      simp only [Option.some.injEq,Prod.mk.injEq] at H
      obtain ⟨rfl,rfl⟩:=H
      go_wp2_with (first|((with_reducible refine gate_callee (f:=81) rfl ?_);refine goesL_ (some 52) rfl rfl Try.func81 (by kernel_rfl) rfl #[.int .i64 (wrap64 ((wrap64 ((wrap64 (x4_1 + (x5_1 / 4294967296))) * 4294967296)) + (Go.bits .and .i64 x5_1 4294967295)))] rfl (by (try simp only [List.map_toArray,List.map_cons,List.map_nil]);first|done|rfl|(simp only [List.length_drop,List.length_take];rfl)) ?_;(with_reducible refine (cents_fitting.calls (wrap64 ((wrap64 ((wrap64 (x4_1 + (x5_1 / 4294967296))) * 4294967296)) + (Go.bits .and .i64 x5_1 4294967295))) t105 t106 _ A9.out).mono ?_);rintro e w' ⟨rfl,⟨nd,rfl⟩⟩;refine ⟨_,rfl,?_⟩))
      go_ret2
      exact ⟨by first|rfl|(simp;done)|(simp [*];done),by repeat (first|exact Drawn0.refl _|apply Drawn0.step)⟩
end Go.Proofs.Ytbgeceiddcokmaa.X
end
section
namespace Go.Proofs.Ytbgeceiddcokmaa.X
open Go.RowKit Go.Proofs.YtbgeceiddcokmaaW.PrintWords Go.Proofs.YtbgeceiddcokmaaW.PrintLast Go.Proofs.YtbgeceiddcokmaaW.PrintMore
attribute [local go_sem] max2_int min2_int max_two min_two max_three min_three max_four min_four
set_option linter.unusedVariables false
set_option linter.unusedSimpArgs false
mutual
def scan_Losses.j0:Nat → List (S73) → List (S91) → List Int → Int → List (S91) → Bool → Option (List Int × Int)
 | 0,_,_,_,_,_,_=>none
 | k + 1,x0,x1,x4,x5,x6,x25=>if x25 = true then (some (([]:List Int),x5)) else (if 0 < (x1.length:Int) then (scan_Losses.l0 k x0 x4 x6 (((rd_T91 x1 0).f1).length:Int) 0) else (none))
def scan_Losses.l0:Nat → List (S73) → List Int → List (S91) → Int → Int → Option (List Int × Int)
 | 0,_,_,_,_,_=>none
 | k + 1,x0,x4,x6,x31,x32=>if x32 < x31 then (scan_Losses.l1 k x0 x4 x6 x32 ([]:List Int) x31 x32 x0 (x0.length:Int) 0) else (some (x4,0))
def scan_Losses.l1:Nat → List (S73) → List Int → List (S91) → Int → List Int → Int → Int → List (S73) → Int → Int → Option (List Int × Int)
 | 0,_,_,_,_,_,_,_,_,_,_=>none
 | k + 1,x0,x4,x6,x7,x8,x31,x32,x35,x36,x37=>if x37 < x36 then (if 0 ≤ x37 then (if x37 < (x35.length:Int) then (if x37 < (x6.length:Int) then (if 0 ≤ x7 then (if x7 < (((rd_T91 x6 x37).f1).length:Int) then (if x8.length < 17592186044416 then (scan_Losses.l1 k x0 x4 x6 x7 (x8 ++ [wrap64 ((wrap64 (((rd_T73 x35 x37).f1) - ((rd_T73 x35 x37).f2))) * (rd ((rd_T91 x6 x37).f1) x7))]) x31 x32 x35 x36 (wrap64 (x37 + 1))) else (none)) else (none)) else (none)) else (none)) else (none)) else (none)) else ((cents_Sum.f k x8).bind fun bt113=>(if bt113.2 = 0 then (if x4.length < 17592186044416 then (scan_Losses.l0 k x0 (x4 ++ [bt113.1]) x6 x31 (wrap64 (x32 + 1))) else (none)) else (some (([]:List Int),bt113.2))))
end
def scan_Losses.f (k:Nat) (l0:List (S73)) (l1:List (S91)):Option (List Int × Int):=(scan_found.f k l0 l1).bind fun bt101=>(if bt101.2 = 0 then (scan_Losses.j0 k l0 l1 ([]:List Int) bt101.2 bt101.1 ((l1.length:Int) == 0)) else (scan_Losses.j0 k l0 l1 ([]:List Int) bt101.2 bt101.1 true))
theorem scan_Losses.mono_l:∀ k,(∀ y0 y1 y2 y3 y4 y5,LeO (scan_Losses.j0 k y0 y1 y2 y3 y4 y5) (scan_Losses.j0 (k + 1) y0 y1 y2 y3 y4 y5)) ∧ (∀ y0 y1 y2 y3 y4,LeO (scan_Losses.l0 k y0 y1 y2 y3 y4) (scan_Losses.l0 (k + 1) y0 y1 y2 y3 y4)) ∧ (∀ y0 y1 y2 y3 y4 y5 y6 y7 y8 y9,LeO (scan_Losses.l1 k y0 y1 y2 y3 y4 y5 y6 y7 y8 y9) (scan_Losses.l1 (k + 1) y0 y1 y2 y3 y4 y5 y6 y7 y8 y9))
 | 0=>⟨fun _ _ _ _ _ _ r h=>by simp [scan_Losses.j0] at h,fun _ _ _ _ _ r h=>by simp [scan_Losses.l0] at h,fun _ _ _ _ _ _ _ _ _ _ r h=>by simp [scan_Losses.l1] at h⟩
 | k + 1=>by
  obtain ⟨ih0,ih1,ih2⟩:=scan_Losses.mono_l k
  refine ⟨?_,?_,?_⟩
  ·intro y0 y1 y2 y3 y4 y5
   unfold scan_Losses.j0
   repeat' first
   | (with_reducible exact ih0 _ _ _ _ _ _)
   | (with_reducible exact ih1 _ _ _ _ _)
   | (with_reducible exact ih2 _ _ _ _ _ _ _ _ _ _)
   | (with_reducible exact cents_Sum.mono _ _)
   | (with_reducible exact scan_found.mono _ _ _)
   | (with_reducible exact LeO.refl _)
   | (with_reducible exact LeO.none _)
   | (with_reducible refine LeO.ite ?_ ?_)
   | (with_reducible refine LeO.bind ?_ (fun _=>?_))
   | exact ih0 _ _ _ _ _ _
   | exact ih1 _ _ _ _ _
   | exact ih2 _ _ _ _ _ _ _ _ _ _
   | exact cents_Sum.mono _ _
   | exact scan_found.mono _ _ _
   | exact LeO.none _
   | refine LeO.ite ?_ ?_
   | refine LeO.bind ?_ (fun _=>?_)
  ·intro y0 y1 y2 y3 y4
   unfold scan_Losses.l0
   repeat' first
   | (with_reducible exact ih0 _ _ _ _ _ _)
   | (with_reducible exact ih1 _ _ _ _ _)
   | (with_reducible exact ih2 _ _ _ _ _ _ _ _ _ _)
   | (with_reducible exact cents_Sum.mono _ _)
   | (with_reducible exact scan_found.mono _ _ _)
   | (with_reducible exact LeO.refl _)
   | (with_reducible exact LeO.none _)
   | (with_reducible refine LeO.ite ?_ ?_)
   | (with_reducible refine LeO.bind ?_ (fun _=>?_))
   | exact ih0 _ _ _ _ _ _
   | exact ih1 _ _ _ _ _
   | exact ih2 _ _ _ _ _ _ _ _ _ _
   | exact cents_Sum.mono _ _
   | exact scan_found.mono _ _ _
   | exact LeO.none _
   | refine LeO.ite ?_ ?_
   | refine LeO.bind ?_ (fun _=>?_)
  ·intro y0 y1 y2 y3 y4 y5 y6 y7 y8 y9
   unfold scan_Losses.l1
   repeat' first
   | (with_reducible exact ih0 _ _ _ _ _ _)
   | (with_reducible exact ih1 _ _ _ _ _)
   | (with_reducible exact ih2 _ _ _ _ _ _ _ _ _ _)
   | (with_reducible exact cents_Sum.mono _ _)
   | (with_reducible exact scan_found.mono _ _ _)
   | (with_reducible exact LeO.refl _)
   | (with_reducible exact LeO.none _)
   | (with_reducible refine LeO.ite ?_ ?_)
   | (with_reducible refine LeO.bind ?_ (fun _=>?_))
   | exact ih0 _ _ _ _ _ _
   | exact ih1 _ _ _ _ _
   | exact ih2 _ _ _ _ _ _ _ _ _ _
   | exact cents_Sum.mono _ _
   | exact scan_found.mono _ _ _
   | exact LeO.none _
   | refine LeO.ite ?_ ?_
   | refine LeO.bind ?_ (fun _=>?_)
theorem scan_Losses.mono:∀ a0 a1 k,LeO (scan_Losses.f k a0 a1) (scan_Losses.f (k + 1) a0 a1):=by
 intro a0 a1 k
 obtain ⟨ih0,ih1,ih2⟩:=scan_Losses.mono_l k
 unfold scan_Losses.f
 repeat' first
   | (with_reducible exact ih0 _ _ _ _ _ _)
   | (with_reducible exact ih1 _ _ _ _ _)
   | (with_reducible exact ih2 _ _ _ _ _ _ _ _ _ _)
   | (with_reducible exact cents_Sum.mono _ _)
   | (with_reducible exact scan_found.mono _ _ _)
   | (with_reducible exact LeO.refl _)
   | (with_reducible exact LeO.none _)
   | (with_reducible refine LeO.ite ?_ ?_)
   | (with_reducible refine LeO.bind ?_ (fun _=>?_))
   | exact ih0 _ _ _ _ _ _
   | exact ih1 _ _ _ _ _
   | exact ih2 _ _ _ _ _ _ _ _ _ _
   | exact cents_Sum.mono _ _
   | exact scan_found.mono _ _ _
   | exact LeO.none _
   | refine LeO.ite ?_ ?_
   | refine LeO.bind ?_ (fun _=>?_)
def scan_Losses.T11:Bool × List (List Nat × List Nat):=(true,[([],[]),([],[]),([1],[1]),([],[]),([3],[3]),([2,4],[2,4]),([],[]),([],[]),([6,7],[6,7]),([8],[8]),([9],[9]),([],[]),([10,11],[10,11]),([12],[12]),([5,13],[5,13]),([14],[14]),([0,15],[0,15]),([16,16,0,1,2,3,4,5,6,7,8,9,10,11,12,13,14,15,16],[0,16])])
def scan_Losses.B11:List Nat:=[0,0,2,0,8,30,0,0,192,448,960,0,4032,8128,16382,32766,65535,131071]
theorem scan_Losses.tab11:rtab .any (opsOf Try.f27 11) = scan_Losses.T11:=by kernel_rfl
theorem scan_Losses.bits11:waitsOk scan_Losses.T11.2 scan_Losses.B11 = true:=by kernel_rfl
set_option maxHeartbeats 8000000 in
set_option maxRecDepth 100000 in
theorem scan_Losses.calls (k:Nat) (A0:Option Addr) (c0:Nat) (l0:List (S73)) (A1:Option Addr) (c1:Nat) (l1:List (S91)) (r1:List Int) (r2:Int) (w:World) (hr0:Kd.C k73 w A0 l0.length l0) (hc0:l0.length ≤ c0) (hr1:Kd.C k91 w A1 l1.length l1) (hc1:l1.length ≤ c1) (h:scan_Losses.f k l0 l1 = some (r1,r2)) :
  Calls Try.prog 27 #[.slice A0 l0.length c0,.slice A1 l1.length c1] w fun e w'=>∃ v0_:Value,e = .returned (.tuple #[v0_,.int .i64 r2]) ∧ Kd.R (Kd.int .i64) 3 w' w.heap.size (fun _=>True) v0_ r1 ∧ Below w.heap.size w w':=by
 have hu73:=Try.underlying73
 have HR0:=Aside0.mk hr0
 have HC0:=Aside0.mk hc0
 clear hr0 hc0
 have HR1:=Aside0.mk hr1
 have HC1:=Aside0.mk hc1
 clear hr1 hc1
 have HB:=Aside0.mk (Below.refl w.heap.size w)
 have H:((scan_found.f k l0 l1).bind fun bt101=>(if bt101.2 = 0 then (scan_Losses.j0 k l0 l1 ([]:List Int) bt101.2 bt101.1 ((l1.length:Int) == 0)) else (scan_Losses.j0 k l0 l1 ([]:List Int) bt101.2 bt101.1 true))) = some (r1,r2):=h
 clear h
 replace H:=Option.bind_eq_some_iff.mp H
 obtain ⟨⟨t101,t104⟩,A30,H⟩:=H
 replace H:(if t104 = 0 then (scan_Losses.j0 k l0 l1 ([]:List Int) t104 t101 ((l1.length:Int) == 0)) else (scan_Losses.j0 k l0 l1 ([]:List Int) t104 t101 true)) = some (r1,r2):=H
 have A3:=Aside0.mk A30
 clear A30
 have HC4:=Aside0.mk H
 clear H
 go_enter Try.func27,Try.ntmps27
 go_upto_region 2 with (first|((with_reducible refine gate_callee (f:=57) rfl ?_);refine goesL_ (some 16) rfl rfl Try.func57 (by kernel_rfl) rfl #[.slice A0 l0.length c0,.slice A1 l1.length c1] rfl (by (try simp only [List.map_toArray,List.map_cons,List.map_nil]);first|done|rfl|(simp only [List.length_drop,List.length_take];rfl)) ?_;(with_reducible refine (scan_found.calls k _ _ l0 (fun k_=>k_ < w.heap.size) _ _ l1 t101 t104 _ ?side1 ?side2 ?side3 A3.out).mono ?_);(case side1=>repeat (first|exact HR0.out|(with_reducible refine Kd.C_alloc ?_ _)|(with_reducible refine Kd.C_drewN ?_ _)|(with_reducible refine Kd.C_drew ?_)));(case side2=>exact HC0.out);(case side3=>exact Kd.V_mk HC1.out (Kd.F_below (Kd.C_F k91_heap HR1.out) (by repeat (first|(with_reducible first|exact HB.out|apply below_alloc|apply pw_below_drewN|apply below_drew1)|exact HB.out))));rintro e w5 ⟨v102,rfl,ho0,hb⟩;refine ⟨_,rfl,?_⟩;have n0_:=Aside0.mk (Kd.N_lower (Kd.N_mono (ok':=fun k_=>True) ho0 (fun k_ hk_=>trivial)) (below_size (by repeat (first|(with_reducible first|exact HB.out|apply below_alloc|apply pw_below_drewN|apply below_drew1)|exact HB.out))));have n1_:=Aside0.mk (below_step (by repeat (first|(with_reducible first|exact HB.out|apply below_alloc|apply pw_below_drewN|apply below_drew1)|exact HB.out)) hb);clear HB;have HO103:=n0_;have HB:=n1_;clear n0_ n1_;(try clear hb);(try clear hb2);(try clear hk);(try clear hi);(try clear ho0)))
 (try simp only [Act.put,List.setIfInBounds_toArray,List.set_cons_zero,List.set_cons_succ])
 go_cut [25] (fun v25 wc=>∃ (kq:Nat) (x25_3:Bool),v25 = .bool x25_3 ∧ Aside0 (scan_Losses.j0 kq l0 l1 ([]:List Int) t104 t101 x25_3 = some (r1,r2)) ∧ Aside0 (kq ≤ k) ∧ Aside0 (Kd.R (Kd.int .i64) 3 wc w.heap.size (fun _=>True) (.slice none 0 0) ([]:List Int)) ∧ Aside0 (Kd.N k91 91 wc w.heap.size (fun k_=>some k_ ≠ ((.slice none 0 0):Value).ownBlock) v102 t101) ∧ Aside0 (Below w.heap.size w wc))
 case first =>
  have H:=HC4.out
  clear HC4
  by_cases c6:t104 = 0
  ·rw [if_pos c6] at H
   have c6b0:(t104 == 0) = true:=beq_iff_eq.mpr c6
   have c6b1:(t104 != 0) = false:=bne_eq_false_iff_eq.mpr c6
   clear c6
   (first|rw [c6b0]|(simp only [i64_w,i32_w];rw [c6b0])|skip)
   have H':=Aside0.mk H
   clear H
   go_wp2
   go_meet
   case rel=>exact ⟨_,(((l1.length:Int) == 0)),(by first|rfl|(simp;done)|(simp [*];done)),H',⟨by first|omega|exact Nat.le_refl _⟩,⟨by first|exact Kd.R_nil _ _ _ _ _|exact Kd.N_nil _ _ _ _ _|exact Kd.V_nil _ _ _ _ _|exact Kd.Q_nil _ _ _ _ _|exact Kd.S_nil _ _ _ _ _⟩,⟨by (with_reducible repeat (first|apply Kd.N_alloc|apply Kd.N_drewN|apply Kd.N_drew));exact Kd.N_mono HO103.out (fun _ hk=>(by simp [Value.ownBlock]))⟩,⟨by repeat (first|(with_reducible first|exact HB.out|apply below_alloc|apply pw_below_drewN|apply below_drew1)|exact HB.out)⟩⟩
  ·rw [if_neg c6] at H
   have c6b0:(t104 == 0) = false:=beq_eq_false_iff_ne.mpr c6
   have c6b1:(t104 != 0) = true:=bne_iff_ne.mpr c6
   (first|rw [c6b0]|(simp only [i64_w,i32_w];rw [c6b0])|skip)
   have H':=Aside0.mk H
   clear H
   go_wp2
   go_meet
   case rel=>exact ⟨_,(true),(by first|rfl|(simp;done)|(simp [*];done)),H',⟨by first|omega|exact Nat.le_refl _⟩,⟨by first|exact Kd.R_nil _ _ _ _ _|exact Kd.N_nil _ _ _ _ _|exact Kd.V_nil _ _ _ _ _|exact Kd.Q_nil _ _ _ _ _|exact Kd.S_nil _ _ _ _ _⟩,⟨by (with_reducible repeat (first|apply Kd.N_alloc|apply Kd.N_drewN|apply Kd.N_drew));exact Kd.N_mono HO103.out (fun _ hk=>(by simp [Value.ownBlock]))⟩,⟨by repeat (first|(with_reducible first|exact HB.out|apply below_alloc|apply pw_below_drewN|apply below_drew1)|exact HB.out)⟩⟩
 case rest =>
  clear HC4
  try clear c1
  try clear c2
  try clear p2
  try clear c5
  try clear c6
  try clear c6b0
  try clear c6b1
  obtain ⟨kq,x25_3,rfl,HA,HJ3,HO_4,HO_6,HB⟩:=hcut
  cases kq with
  | zero=>exact absurd HA.out (by simp [scan_Losses.j0])
  | succ kj3 =>
   have H:=HA.out
   clear HA
   simp only [scan_Losses.j0] at H
   by_cases c7:x25_3 = true
   ·subst c7
    have H1:(some (([]:List Int),t104)) = some (r1,r2):=by rw [if_pos rfl] at H;exact H
    clear H
    have H:=H1
    clear H1
    simp only [Option.some.injEq,Prod.mk.injEq] at H
    obtain ⟨rfl,rfl⟩:=H
    go_wp2
    go_ret2
    exact ⟨_,by first|rfl|(simp [errW_none,errW_some] <;> rfl)|(simp [*,errW_none,errW_some] <;> rfl),by first|exact Kd.R_nil _ _ _ _ _|exact Kd.N_nil _ _ _ _ _|exact Kd.V_nil _ _ _ _ _|exact Kd.Q_nil _ _ _ _ _|exact Kd.S_nil _ _ _ _ _,by repeat (first|(with_reducible first|exact HB.out|apply below_alloc|apply pw_below_drewN|apply below_drew1)|exact HB.out)⟩
   ·replace c7:=Bool.eq_false_iff.mpr c7
    subst c7
    have H1:(if 0 < (l1.length:Int) then (scan_Losses.l0 kj3 l0 ([]:List Int) t101 (((rd_T91 l1 0).f1).length:Int) 0) else (none)) = some (r1,r2):=by rw [if_neg (show ¬ (false = true) by decide)] at H;exact H
    clear H
    have H:=H1
    clear H1
    by_cases c8:0 < (l1.length:Int)
    ·rw [if_pos c8] at H
     have c8b0:decide (0 < (l1.length:Int)) = true:=decide_eq_true c8
     have c8b1:decide (0 < l1.length) = true:=decide_eq_true (by omega)
     clear c8
     have H':=Aside0.mk H
     clear H
     have p105:0 ≤ (0:Int):=(by omega)
     have q105:0 < (l1.length:Int):=of_decide_eq_true (by first|(with_reducible assumption)|assumption)
     obtain ⟨ad105,A105_4,c105_4,e105,hx105_0,hx105_1,hx105_2,hx105_3,hx105_4,hx105_5,hl105_4,hi105_4⟩:=at_T91 HR1.out 0 p105 q105
     cases e105
     have qi105:(0 < l1.length) = True:=eq_true (by omega)
     (try rw [show ((0:Int)).toNat = 0 from rfl] at hx105_0)
     (try rw [show 0 * 6 = 0 from rfl] at hx105_0)
     (try rw [Addr.add_zero'] at hx105_0)
     (try rw [show ((0:Int)).toNat = 0 from rfl] at hx105_1)
     (try rw [show 0 * 6 = 0 from rfl] at hx105_1)
     (try rw [Addr.add_zero'] at hx105_1)
     (try rw [show ((0:Int)).toNat = 0 from rfl] at hx105_2)
     (try rw [show 0 * 6 = 0 from rfl] at hx105_2)
     (try rw [Addr.add_zero'] at hx105_2)
     (try rw [show ((0:Int)).toNat = 0 from rfl] at hx105_3)
     (try rw [show 0 * 6 = 0 from rfl] at hx105_3)
     (try rw [Addr.add_zero'] at hx105_3)
     (try rw [show ((0:Int)).toNat = 0 from rfl] at hx105_4)
     (try rw [show 0 * 6 = 0 from rfl] at hx105_4)
     (try rw [Addr.add_zero'] at hx105_4)
     (try rw [show ((0:Int)).toNat = 0 from rfl] at hx105_5)
     (try rw [show 0 * 6 = 0 from rfl] at hx105_5)
     (try rw [Addr.add_zero'] at hx105_5)
     replace hx105_0:=(HB.out.cell (World.block_lt_of_cell? w _ hx105_0)).trans hx105_0
     replace hx105_1:=(HB.out.cell (World.block_lt_of_cell? w _ hx105_1)).trans hx105_1
     replace hx105_2:=(HB.out.cell (World.block_lt_of_cell? w _ hx105_2)).trans hx105_2
     replace hx105_3:=(HB.out.cell (World.block_lt_of_cell? w _ hx105_3)).trans hx105_3
     replace hx105_4:=(HB.out.cell (World.block_lt_of_cell? w _ hx105_4)).trans hx105_4
     replace hx105_5:=(HB.out.cell (World.block_lt_of_cell? w _ hx105_5)).trans hx105_5
     have HR105_4:=Aside0.mk hi105_4
     have HC105_4:=Aside0.mk hl105_4
     clear hi105_4 hl105_4
     replace p105:=eq_true p105
     replace q105:=eq_true q105
     go_wp2
     go_loopg [4,32] kj3 (fun kq v4 v32 w'=>∃ (x4_2:List Int) (x32_2:Int),v32 = .int .i64 x32_2 ∧ Aside0 (scan_Losses.l0 kq l0 x4_2 t101 (((rd_T91 l1 0).f1).length:Int) x32_2 = some (r1,r2)) ∧ Aside0 (kq ≤ kj3) ∧ Aside0 (Kd.R (Kd.int .i64) 3 w' w.heap.size (fun _=>True) v4 x4_2) ∧ Aside0 (Kd.N k91 91 w' w.heap.size (fun k_=>some k_ ≠ (v4:Value).ownBlock) v102 t101) ∧ Aside0 (Below w.heap.size w w'))
     case atStart=>exact ⟨(([]:List Int)),(0),(by first|rfl|(simp;done)|(simp [*];done)),H',⟨Nat.le_refl _⟩,⟨by (with_reducible repeat (first|apply Kd.R_alloc|apply Kd.R_drewN|apply Kd.R_drew));exact HO_4.out⟩,⟨by (with_reducible repeat (first|apply Kd.N_alloc|apply Kd.N_drewN|apply Kd.N_drew));exact HO_6.out⟩,⟨by repeat (first|(with_reducible first|exact HB.out|apply below_alloc|apply pw_below_drewN|apply below_drew1)|exact HB.out)⟩⟩
     case round =>
      clear H'
      try clear c1
      try clear p1
      try clear q1
      try clear hx1
      try clear qi1
      try clear c2
      try clear p2
      try clear c5
      try clear c6
      try clear c6b0
      try clear c6b1
      try clear c7
      try clear c8
      try clear c8b0
      try clear c8b1
      try clear hx105_0
      try clear hx105_1
      try clear hx105_2
      try clear hx105_3
      try clear hx105_4
      try clear hx105_5
      try clear p105
      try clear p2
      try clear q105
      obtain ⟨x4_2,x32_2,rfl,HA,HK2,HO_4,HO_6,HB⟩:=hrel
      cases gk with
      | zero=>exact absurd HA.out (by simp [scan_Losses.l0])
      | succ k2 =>
       have H:=HA.out
       clear HA
       simp only [scan_Losses.l0] at H
       by_cases c9:x32_2 < (((rd_T91 l1 0).f1).length:Int)
       ·rw [if_pos c9] at H
        have c9b0:decide (x32_2 < (((rd_T91 l1 0).f1).length:Int)) = true:=decide_eq_true c9
        clear c9
        have H':=Aside0.mk H
        clear H
        go_wp2
        go_loopg [8,37] k2 (fun kq v8 v37 w'=>∃ (x8_3:List Int) (x37_3:Int),v37 = .int .i64 x37_3 ∧ Aside0 (scan_Losses.l1 kq l0 x4_2 t101 x32_2 x8_3 (((rd_T91 l1 0).f1).length:Int) x32_2 l0 (l0.length:Int) x37_3 = some (r1,r2)) ∧ Aside0 (kq ≤ k2) ∧ Aside0 (Kd.R (Kd.int .i64) 3 w' w.heap.size (fun k_=>some k_ ≠ (v8:Value).ownBlock) u4 x4_2) ∧ Aside0 (Kd.N k91 91 w' w.heap.size (fun k_=>some k_ ≠ (u4:Value).ownBlock ∧ some k_ ≠ (v8:Value).ownBlock) v102 t101) ∧ Aside0 (Kd.R (Kd.int .i64) 3 w' w.heap.size (fun k_=>some k_ ≠ (u4:Value).ownBlock) v8 x8_3) ∧ Aside0 (Below w.heap.size w w'))
        case atStart=>exact ⟨(([]:List Int)),(0),(by first|rfl|(simp;done)|(simp [*];done)),H',⟨Nat.le_refl _⟩,⟨by (with_reducible repeat (first|apply Kd.R_alloc|apply Kd.R_drewN|apply Kd.R_drew));exact Kd.R_mono HO_4.out (fun _ hk=>(by simp [Value.ownBlock]))⟩,⟨by (with_reducible repeat (first|apply Kd.N_alloc|apply Kd.N_drewN|apply Kd.N_drew));exact Kd.N_mono HO_6.out (fun _ hk=>⟨hk,(by simp [Value.ownBlock])⟩)⟩,⟨by first|exact Kd.R_nil _ _ _ _ _|exact Kd.N_nil _ _ _ _ _|exact Kd.V_nil _ _ _ _ _|exact Kd.Q_nil _ _ _ _ _|exact Kd.S_nil _ _ _ _ _⟩,⟨by repeat (first|(with_reducible first|exact HB.out|apply below_alloc|apply pw_below_drewN|apply below_drew1)|exact HB.out)⟩⟩
        case round =>
         clear H'
         try clear c1
         try clear p1
         try clear q1
         try clear hx1
         try clear qi1
         try clear c2
         try clear p2
         try clear c5
         try clear c6
         try clear c6b0
         try clear c6b1
         try clear c7
         try clear c8
         try clear c8b0
         try clear c8b1
         try clear c9
         try clear c9b0
         try clear hx105_0
         try clear hx105_1
         try clear hx105_2
         try clear hx105_3
         try clear hx105_4
         try clear hx105_5
         try clear p1
         try clear p105
         try clear p2
         try clear q1
         try clear q105
         obtain ⟨x8_3,x37_3,rfl,HA,HK3,HO_4,HO_6,HO_8,HB⟩:=hrel
         cases gk with
         | zero=>exact absurd HA.out (by simp [scan_Losses.l1])
         | succ k3 =>
          have H:=HA.out
          clear HA
          simp only [scan_Losses.l1] at H
          by_cases c10:x37_3 < (l0.length:Int)
          ·rw [if_pos c10] at H
           have c10b0:decide (x37_3 < (l0.length:Int)) = true:=decide_eq_true c10
           clear c10
           by_cases c11:0 ≤ x37_3
           ·rw [if_pos c11] at H
            have c11b0:decide (0 ≤ x37_3) = true:=decide_eq_true c11
            clear c11
            by_cases c12:x37_3 < (l0.length:Int)
            ·rw [if_pos c12] at H
             have c12b0:decide (x37_3 < (l0.length:Int)) = true:=decide_eq_true c12
             clear c12
             by_cases c13:x37_3 < (t101.length:Int)
             ·rw [if_pos c13] at H
              have c13b0:decide (x37_3 < (t101.length:Int)) = true:=decide_eq_true c13
              clear c13
              by_cases c14:0 ≤ x32_2
              ·rw [if_pos c14] at H
               have c14b0:decide (0 ≤ x32_2) = true:=decide_eq_true c14
               clear c14
               by_cases c15:x32_2 < (((rd_T91 t101 x37_3).f1).length:Int)
               ·rw [if_pos c15] at H
                have c15b0:decide (x32_2 < (((rd_T91 t101 x37_3).f1).length:Int)) = true:=decide_eq_true c15
                clear c15
                by_cases c16:x8_3.length < 17592186044416
                ·rw [if_pos c16] at H
                 have LMc16:=Aside0.mk c16
                 clear c16
                 obtain ⟨y110,hy110⟩:∃ y_:List Int,y_ = (x8_3 ++ [wrap64 ((wrap64 (((rd_T73 l0 x37_3).f1) - ((rd_T73 l0 x37_3).f2))) * (rd ((rd_T91 t101 x37_3).f1) x32_2))]):=⟨_,rfl⟩
                 replace H:(scan_Losses.l1 k3 l0 x4_2 t101 x32_2 y110 (((rd_T91 l1 0).f1).length:Int) x32_2 l0 (l0.length:Int) (wrap64 (x37_3 + 1))) = some (r1,r2):=by first|(rw [hy110];with_reducible exact H)|(have H2_:=(Option.bind_some _ _).symm.trans H;rw [hy110];with_reducible exact H2_)|(have H2_:=(Option.bind_some _ _).symm.trans H;with_reducible exact H2_)|with_reducible exact H|(rw [hy110];exact H)|exact H
                 have Ny110:=Aside0.mk hy110
                 clear hy110
                 have H':=Aside0.mk H
                 clear H
                 have p106:0 ≤ (x37_3:Int):=of_decide_eq_true (by first|(with_reducible assumption)|assumption)
                 have q106:x37_3 < (l0.length:Int):=of_decide_eq_true (by first|(with_reducible assumption)|assumption)
                 obtain ⟨ad106,e106,hx106_0,hx106_1,hx106_2,hx106_3,hx106_4,hx106_5⟩:=at_T73 HR0.out x37_3 p106 q106
                 cases e106
                 replace hx106_0:=(HB.out.cell (World.block_lt_of_cell? w _ hx106_0)).trans hx106_0
                 replace hx106_1:=(HB.out.cell (World.block_lt_of_cell? w _ hx106_1)).trans hx106_1
                 replace hx106_2:=(HB.out.cell (World.block_lt_of_cell? w _ hx106_2)).trans hx106_2
                 replace hx106_3:=(HB.out.cell (World.block_lt_of_cell? w _ hx106_3)).trans hx106_3
                 replace hx106_4:=(HB.out.cell (World.block_lt_of_cell? w _ hx106_4)).trans hx106_4
                 replace hx106_5:=(HB.out.cell (World.block_lt_of_cell? w _ hx106_5)).trans hx106_5
                 replace p106:=eq_true p106
                 replace q106:=eq_true q106
                 try go_wp2_with (first|((with_reducible refine gate_dst (N:=10) rfl ?_);(try (refine gate_guard (by rfl) ?_;dsimp only));refine box_event ?hg (N:=10) ?hd (cs:=#[.string (⟨#[]⟩:ByteArray),.int .i64 0,.int .i64 0,.int .i64 0,.int .i64 0,.int .i64 0]) (t:=73) ?hr ?_;(case hd=>rfl);(case hg=>rfl);(case hr=>first|(go_simp;done)|(go_simp;rfl));intro gb107 hg w17 hbox hb;have n0_:=Aside0.mk (Kd.R_below (by (with_reducible repeat (first|apply Kd.R_alloc|apply Kd.R_drewN|apply Kd.R_drew));exact HO_4.out) hb);have n1_:=Aside0.mk (Kd.N_below (Kd.N_elderB (by (with_reducible repeat (first|apply Kd.N_alloc|apply Kd.N_drewN|apply Kd.N_drew));exact HO_6.out) gb107 (Nat.le_of_eq hg.symm)) hb);have n2_:=Aside0.mk (Kd.R_below (by (with_reducible repeat (first|apply Kd.R_alloc|apply Kd.R_drewN|apply Kd.R_drew));exact HO_8.out) hb);have n3_:=Aside0.mk (below_step (by repeat (first|(with_reducible first|exact HB.out|apply below_alloc|apply pw_below_drewN|apply below_drew1)|exact HB.out)) hb);have n4_:=Aside0.mk (hbox);have n5_:=Aside0.mk ((by rw [hg];exact (below_size (by repeat (first|(with_reducible first|exact HB.out|apply below_alloc|apply pw_below_drewN|apply below_drew1)|exact HB.out))):w.heap.size ≤ gb107));have n6_:=Aside0.mk ((by rw [hg];exact (below_size (by repeat (first|(with_reducible first|exact HB.out|apply below_alloc|apply pw_below_drewN|apply below_drew1)|exact HB.out))):w.heap.size ≤ gb107));clear HO_4;clear HO_6;clear HO_8;clear HB;have HO_4:=n0_;have HO_6:=n1_;have HO_8:=n2_;have HB:=n3_;have BK107:=n4_;have GW107:=n5_;have GE107:=n6_;clear n0_ n1_ n2_ n3_ n4_ n5_ n6_;clear hb hbox hg;have hcz18_0:w17.cell? ⟨gb107,0,none⟩ = some (.string (⟨#[]⟩:ByteArray)):=(blk_cell BK107.out 0).trans rfl;have hcz18_1:w17.cell? ⟨gb107,1,none⟩ = some (.int .i64 0):=(blk_cell BK107.out 1).trans rfl;have hcz18_2:w17.cell? ⟨gb107,2,none⟩ = some (.int .i64 0):=(blk_cell BK107.out 2).trans rfl;have hcz18_3:w17.cell? ⟨gb107,3,none⟩ = some (.int .i64 0):=(blk_cell BK107.out 3).trans rfl;have hcz18_4:w17.cell? ⟨gb107,4,none⟩ = some (.int .i64 0):=(blk_cell BK107.out 4).trans rfl;have hcz18_5:w17.cell? ⟨gb107,5,none⟩ = some (.int .i64 0):=(blk_cell BK107.out 5).trans rfl;have hfz18_0:=blk_frozen BK107.out 0;have hfz18_1:=blk_frozen BK107.out 1;have hfz18_2:=blk_frozen BK107.out 2;have hfz18_3:=blk_frozen BK107.out 3;have hfz18_4:=blk_frozen BK107.out 4;have hfz18_5:=blk_frozen BK107.out 5))
                 have n0_:Aside0 (Kd.R (Kd.int .i64) 3 ((((((w17.setCell ⟨gb107,0,none⟩ (.string ((rd_T73 l0 x37_3).f0.f0))).setCell ⟨gb107,1,none⟩ (.int .i64 ((rd_T73 l0 x37_3).f0.f1))).setCell ⟨gb107,2,none⟩ (.int .i64 ((rd_T73 l0 x37_3).f0.f2))).setCell ⟨gb107,3,none⟩ (.int .i64 ((rd_T73 l0 x37_3).f0.f3))).setCell ⟨gb107,4,none⟩ (.int .i64 ((rd_T73 l0 x37_3).f1))).setCell ⟨gb107,5,none⟩ (.int .i64 ((rd_T73 l0 x37_3).f2))) w.heap.size (fun k_=>some k_ ≠ (u8:Value).ownBlock) u4 x4_2):=⟨by (with_reducible repeat (first|apply Kd.R_alloc|apply Kd.R_drewN|apply Kd.R_drew));exact Kd.R_mono (Kd.R_far (p:=⟨gb107,5,none⟩) (Kd.R_far (p:=⟨gb107,4,none⟩) (Kd.R_far (p:=⟨gb107,3,none⟩) (Kd.R_far (p:=⟨gb107,2,none⟩) (Kd.R_far (p:=⟨gb107,1,none⟩) (Kd.R_far (p:=⟨gb107,0,none⟩) (Kd.R_types HO_4.out BK107.out (by decide)) (fun _ hk=>hk.2) (.string ((rd_T73 l0 x37_3).f0.f0))) (fun _ hk=>hk.2) (.int .i64 ((rd_T73 l0 x37_3).f0.f1))) (fun _ hk=>hk.2) (.int .i64 ((rd_T73 l0 x37_3).f0.f2))) (fun _ hk=>hk.2) (.int .i64 ((rd_T73 l0 x37_3).f0.f3))) (fun _ hk=>hk.2) (.int .i64 ((rd_T73 l0 x37_3).f1))) (fun _ hk=>hk.2) (.int .i64 ((rd_T73 l0 x37_3).f2))) (fun _ hk=>hk.1)⟩
                 have n1_:Aside0 (Kd.N k91 91 ((((((w17.setCell ⟨gb107,0,none⟩ (.string ((rd_T73 l0 x37_3).f0.f0))).setCell ⟨gb107,1,none⟩ (.int .i64 ((rd_T73 l0 x37_3).f0.f1))).setCell ⟨gb107,2,none⟩ (.int .i64 ((rd_T73 l0 x37_3).f0.f2))).setCell ⟨gb107,3,none⟩ (.int .i64 ((rd_T73 l0 x37_3).f0.f3))).setCell ⟨gb107,4,none⟩ (.int .i64 ((rd_T73 l0 x37_3).f1))).setCell ⟨gb107,5,none⟩ (.int .i64 ((rd_T73 l0 x37_3).f2))) w.heap.size (fun k_=>some k_ ≠ (u4:Value).ownBlock ∧ some k_ ≠ (u8:Value).ownBlock ∧ k_ ≠ gb107) v102 t101):=⟨by (with_reducible repeat (first|apply Kd.N_alloc|apply Kd.N_drewN|apply Kd.N_drew));exact Kd.N_mono (Kd.N_far (p:=⟨gb107,5,none⟩) (Kd.N_far (p:=⟨gb107,4,none⟩) (Kd.N_far (p:=⟨gb107,3,none⟩) (Kd.N_far (p:=⟨gb107,2,none⟩) (Kd.N_far (p:=⟨gb107,1,none⟩) (Kd.N_far (p:=⟨gb107,0,none⟩) (Kd.N_mono HO_6.out (fun k_ hk=>(⟨hk,hk.2⟩:_ ∧ k_ ≠ gb107))) (fun _ hk=>hk.2) (.string ((rd_T73 l0 x37_3).f0.f0))) (fun _ hk=>hk.2) (.int .i64 ((rd_T73 l0 x37_3).f0.f1))) (fun _ hk=>hk.2) (.int .i64 ((rd_T73 l0 x37_3).f0.f2))) (fun _ hk=>hk.2) (.int .i64 ((rd_T73 l0 x37_3).f0.f3))) (fun _ hk=>hk.2) (.int .i64 ((rd_T73 l0 x37_3).f1))) (fun _ hk=>hk.2) (.int .i64 ((rd_T73 l0 x37_3).f2))) (fun _ hk=>⟨hk.1.1.1,⟨hk.1.1.2,hk.1.2⟩⟩)⟩
                 have n2_:Aside0 (Kd.R (Kd.int .i64) 3 ((((((w17.setCell ⟨gb107,0,none⟩ (.string ((rd_T73 l0 x37_3).f0.f0))).setCell ⟨gb107,1,none⟩ (.int .i64 ((rd_T73 l0 x37_3).f0.f1))).setCell ⟨gb107,2,none⟩ (.int .i64 ((rd_T73 l0 x37_3).f0.f2))).setCell ⟨gb107,3,none⟩ (.int .i64 ((rd_T73 l0 x37_3).f0.f3))).setCell ⟨gb107,4,none⟩ (.int .i64 ((rd_T73 l0 x37_3).f1))).setCell ⟨gb107,5,none⟩ (.int .i64 ((rd_T73 l0 x37_3).f2))) w.heap.size (fun k_=>some k_ ≠ (u4:Value).ownBlock) u8 x8_3):=⟨by (with_reducible repeat (first|apply Kd.R_alloc|apply Kd.R_drewN|apply Kd.R_drew));exact Kd.R_mono (Kd.R_far (p:=⟨gb107,5,none⟩) (Kd.R_far (p:=⟨gb107,4,none⟩) (Kd.R_far (p:=⟨gb107,3,none⟩) (Kd.R_far (p:=⟨gb107,2,none⟩) (Kd.R_far (p:=⟨gb107,1,none⟩) (Kd.R_far (p:=⟨gb107,0,none⟩) (Kd.R_types HO_8.out BK107.out (by decide)) (fun _ hk=>hk.2) (.string ((rd_T73 l0 x37_3).f0.f0))) (fun _ hk=>hk.2) (.int .i64 ((rd_T73 l0 x37_3).f0.f1))) (fun _ hk=>hk.2) (.int .i64 ((rd_T73 l0 x37_3).f0.f2))) (fun _ hk=>hk.2) (.int .i64 ((rd_T73 l0 x37_3).f0.f3))) (fun _ hk=>hk.2) (.int .i64 ((rd_T73 l0 x37_3).f1))) (fun _ hk=>hk.2) (.int .i64 ((rd_T73 l0 x37_3).f2))) (fun _ hk=>hk.1)⟩
                 have n3_:Aside0 (((((((w17.setCell ⟨gb107,0,none⟩ (.string ((rd_T73 l0 x37_3).f0.f0))).setCell ⟨gb107,1,none⟩ (.int .i64 ((rd_T73 l0 x37_3).f0.f1))).setCell ⟨gb107,2,none⟩ (.int .i64 ((rd_T73 l0 x37_3).f0.f2))).setCell ⟨gb107,3,none⟩ (.int .i64 ((rd_T73 l0 x37_3).f0.f3))).setCell ⟨gb107,4,none⟩ (.int .i64 ((rd_T73 l0 x37_3).f1))).setCell ⟨gb107,5,none⟩ (.int .i64 ((rd_T73 l0 x37_3).f2))).heap[gb107]? = some (.cells #[.string ((rd_T73 l0 x37_3).f0.f0),.int .i64 ((rd_T73 l0 x37_3).f0.f1),.int .i64 ((rd_T73 l0 x37_3).f0.f2),.int .i64 ((rd_T73 l0 x37_3).f0.f3),.int .i64 ((rd_T73 l0 x37_3).f1),.int .i64 ((rd_T73 l0 x37_3).f2)] 73 (0,0))):=⟨by (with_reducible repeat (first|refine blk_drewN ?_ _|refine blk_drew ?_|refine blk_alloc ?_ _));refine blk_put (cs:=#[.string ((rd_T73 l0 x37_3).f0.f0),.int .i64 ((rd_T73 l0 x37_3).f0.f1),.int .i64 ((rd_T73 l0 x37_3).f0.f2),.int .i64 ((rd_T73 l0 x37_3).f0.f3),.int .i64 ((rd_T73 l0 x37_3).f1),.int .i64 0]) ?_ 5 _ rfl;(with_reducible repeat (first|refine blk_drewN ?_ _|refine blk_drew ?_|refine blk_alloc ?_ _));refine blk_put (cs:=#[.string ((rd_T73 l0 x37_3).f0.f0),.int .i64 ((rd_T73 l0 x37_3).f0.f1),.int .i64 ((rd_T73 l0 x37_3).f0.f2),.int .i64 ((rd_T73 l0 x37_3).f0.f3),.int .i64 0,.int .i64 0]) ?_ 4 _ rfl;(with_reducible repeat (first|refine blk_drewN ?_ _|refine blk_drew ?_|refine blk_alloc ?_ _));refine blk_put (cs:=#[.string ((rd_T73 l0 x37_3).f0.f0),.int .i64 ((rd_T73 l0 x37_3).f0.f1),.int .i64 ((rd_T73 l0 x37_3).f0.f2),.int .i64 0,.int .i64 0,.int .i64 0]) ?_ 3 _ rfl;(with_reducible repeat (first|refine blk_drewN ?_ _|refine blk_drew ?_|refine blk_alloc ?_ _));refine blk_put (cs:=#[.string ((rd_T73 l0 x37_3).f0.f0),.int .i64 ((rd_T73 l0 x37_3).f0.f1),.int .i64 0,.int .i64 0,.int .i64 0,.int .i64 0]) ?_ 2 _ rfl;(with_reducible repeat (first|refine blk_drewN ?_ _|refine blk_drew ?_|refine blk_alloc ?_ _));refine blk_put (cs:=#[.string ((rd_T73 l0 x37_3).f0.f0),.int .i64 0,.int .i64 0,.int .i64 0,.int .i64 0,.int .i64 0]) ?_ 1 _ rfl;(with_reducible repeat (first|refine blk_drewN ?_ _|refine blk_drew ?_|refine blk_alloc ?_ _));refine blk_put (cs:=#[.string (⟨#[]⟩:ByteArray),.int .i64 0,.int .i64 0,.int .i64 0,.int .i64 0,.int .i64 0]) ?_ 0 _ rfl;(with_reducible repeat (first|refine blk_drewN ?_ _|refine blk_drew ?_|refine blk_alloc ?_ _));exact BK107.out⟩
                 have n4_:Aside0 (Below w.heap.size w ((((((w17.setCell ⟨gb107,0,none⟩ (.string ((rd_T73 l0 x37_3).f0.f0))).setCell ⟨gb107,1,none⟩ (.int .i64 ((rd_T73 l0 x37_3).f0.f1))).setCell ⟨gb107,2,none⟩ (.int .i64 ((rd_T73 l0 x37_3).f0.f2))).setCell ⟨gb107,3,none⟩ (.int .i64 ((rd_T73 l0 x37_3).f0.f3))).setCell ⟨gb107,4,none⟩ (.int .i64 ((rd_T73 l0 x37_3).f1))).setCell ⟨gb107,5,none⟩ (.int .i64 ((rd_T73 l0 x37_3).f2)))):=⟨by repeat (first|(with_reducible first|exact HB.out|apply below_alloc|apply pw_below_drewN|apply below_drew1|refine below_set ?_ GE107.out)|exact HB.out)⟩
                 (try clear HO_4)
                 (try clear HO_6)
                 (try clear HO_8)
                 (try clear BK107)
                 (try clear HB)
                 generalize ((((((w17.setCell ⟨gb107,0,none⟩ (.string ((rd_T73 l0 x37_3).f0.f0))).setCell ⟨gb107,1,none⟩ (.int .i64 ((rd_T73 l0 x37_3).f0.f1))).setCell ⟨gb107,2,none⟩ (.int .i64 ((rd_T73 l0 x37_3).f0.f2))).setCell ⟨gb107,3,none⟩ (.int .i64 ((rd_T73 l0 x37_3).f0.f3))).setCell ⟨gb107,4,none⟩ (.int .i64 ((rd_T73 l0 x37_3).f1))).setCell ⟨gb107,5,none⟩ (.int .i64 ((rd_T73 l0 x37_3).f2))) = w19 at n0_ n1_ n2_ n3_ n4_ ⊢
                 have HO_4:=n0_
                 have HO_6:=n1_
                 have HO_8:=n2_
                 have BK107:=n3_
                 have HB:=n4_
                 clear n0_ n1_ n2_ n3_ n4_
                 have n0_:=Aside0.mk (Kd.R_drew HO_4.out)
                 have n1_:=Aside0.mk (Kd.N_drew HO_6.out)
                 have n2_:=Aside0.mk (Kd.R_drew HO_8.out)
                 have n3_:=Aside0.mk (blk_drew BK107.out)
                 have n4_:=Aside0.mk (below_drew1 HB.out)
                 clear HO_4
                 clear HO_6
                 clear HO_8
                 clear BK107
                 clear HB
                 have HO_4:=n0_
                 have HO_6:=n1_
                 have HO_8:=n2_
                 have BK107:=n3_
                 have HB:=n4_
                 clear n0_ n1_ n2_ n3_ n4_
                 obtain ⟨Ao21,co21,eo21⟩:=Kd.N_slice HO_6.out
                 (first|subst eo21|(injection eo21 with f1_ f2_ f3_;have f4_:=f1_.symm;have f5_:=f3_.symm;clear f1_ f2_ f3_;subst f4_;subst f5_))
                 have p108:0 ≤ (x37_3:Int):=of_decide_eq_true (by first|(with_reducible assumption)|assumption)
                 have q108:x37_3 < (t101.length:Int):=of_decide_eq_true (by first|(with_reducible assumption)|assumption)
                 obtain ⟨ad108,A108_4,c108_4,e108,hx108_0,hx108_1,hx108_2,hx108_3,hx108_4,hx108_5,hl108_4,hi108_4⟩:=at_T91 (Kd.N_reads' HO_6.out).2.2 x37_3 p108 q108
                 cases e108
                 obtain ⟨ce108,hce108,hMe108,hcc108⟩:=Kd.N_get HO_6.out z91 x37_3 p108 (by first|exact q108|exact of_decide_eq_true (by first|(with_reducible assumption)|assumption)|(have e_:=(Kd.N_reads' HO_6.out).1;omega))
                 obtain ⟨ua108_4,uc108_4,rfl,ul108_4,ge108_4⟩:=k91_openF hMe108
                 have hv108_4:=hcc108 4 _ rfl
                 rw [add_field _ _ 4 (by omega)] at hv108_4
                 replace hv108_4:=Option.some.inj (hv108_4.symm.trans hx108_4)
                 injection hv108_4 with hva_ hvn_ hvc_
                 rw [hva_] at ge108_4
                 rw [hvc_] at ul108_4
                 have HL108_4:=Aside0.mk (show Kd.V (Kd.int .i64) 3 _ w.heap.size _ _ ((rd_T91 t101 x37_3).f1) from Kd.V_mk ul108_4 ge108_4)
                 clear hva_ hvn_ hvc_ ge108_4 ul108_4
                 clear hcc108 hce108
                 have HR108_4:=Aside0.mk hi108_4
                 have HC108_4:=Aside0.mk hl108_4
                 clear hi108_4 hl108_4
                 replace p108:=eq_true p108
                 replace q108:=eq_true q108
                 have p109:0 ≤ (x32_2:Int):=of_decide_eq_true (by first|(with_reducible assumption)|assumption)
                 have q109:x32_2 < (((rd_T91 t101 x37_3).f1).length:Int):=of_decide_eq_true (by first|(with_reducible assumption)|assumption)
                 obtain ⟨ad109,e109,hx109_0⟩:=Kd.at_int (by repeat (first|(with_reducible exact HR108_4.out)|(with_reducible refine Kd.C_alloc ?_ _)|(with_reducible refine Kd.C_drewN ?_ _)|(with_reducible refine Kd.C_drew ?_)|exact HR108_4.out)) x32_2 p109 q109
                 cases e109
                 replace p109:=eq_true p109
                 replace q109:=eq_true q109
                 refine start_ (n:=18) (S:=fun w'=>w'.cell? ⟨gb107,0,none⟩ = some (.string ((rd_T73 l0 x37_3).f0.f0)) ∧ w'.cell? ⟨gb107,1,none⟩ = some (.int .i64 ((rd_T73 l0 x37_3).f0.f1)) ∧ w'.cell? ⟨gb107,2,none⟩ = some (.int .i64 ((rd_T73 l0 x37_3).f0.f2)) ∧ w'.cell? ⟨gb107,3,none⟩ = some (.int .i64 ((rd_T73 l0 x37_3).f0.f3)) ∧ w'.cell? ⟨gb107,4,none⟩ = some (.int .i64 ((rd_T73 l0 x37_3).f1)) ∧ w'.cell? ⟨gb107,5,none⟩ = some (.int .i64 ((rd_T73 l0 x37_3).f2)) ∧ w'.cell? (ad108.add ((x37_3).toNat * 6)) = some (.string ((rd_T91 t101 x37_3).f0.f0)) ∧ w'.cell? ⟨(ad108.add ((x37_3).toNat * 6)).block,(ad108.add ((x37_3).toNat * 6)).off + 1,none⟩ = some (.int .i64 ((rd_T91 t101 x37_3).f0.f1)) ∧ w'.cell? ⟨(ad108.add ((x37_3).toNat * 6)).block,(ad108.add ((x37_3).toNat * 6)).off + 2,none⟩ = some (.int .i64 ((rd_T91 t101 x37_3).f0.f2)) ∧ w'.cell? ⟨(ad108.add ((x37_3).toNat * 6)).block,(ad108.add ((x37_3).toNat * 6)).off + 3,none⟩ = some (.int .i64 ((rd_T91 t101 x37_3).f0.f3)) ∧ w'.cell? ⟨(ad108.add ((x37_3).toNat * 6)).block,(ad108.add ((x37_3).toNat * 6)).off + 4,none⟩ = some (.slice (some ad109) ((rd_T91 t101 x37_3).f1).length c108_4) ∧ w'.cell? ⟨(ad108.add ((x37_3).toNat * 6)).block,(ad108.add ((x37_3).toNat * 6)).off + 5,none⟩ = some (.int .i64 ((rd_T91 t101 x37_3).f2)) ∧ w'.cell? (ad109.add (x32_2).toNat) = some (.int .i64 (rd ((rd_T91 t101 x37_3).f1) x32_2))) (ds:=[15,16]) #[Z,Z,Z,Z,Z,Z,Z,Z,Z,Z,Z,Z,Z,Z,Z,Z,Z,Z] (by kernel_rfl) rfl rfl ⟨(blk_cell BK107.out 0).trans rfl,(blk_cell BK107.out 1).trans rfl,(blk_cell BK107.out 2).trans rfl,(blk_cell BK107.out 3).trans rfl,(blk_cell BK107.out 4).trans rfl,(blk_cell BK107.out 5).trans rfl,hx108_0,hx108_1,hx108_2,hx108_3,hx108_4,hx108_5,hx109_0⟩ (fun hHeld=>?_);refine with_tabW scan_Losses.tab11 scan_Losses.bits11 (fun HT_ HW_=>?_)
                 generalize w19.drew = w20 at HO_4 HO_6 HO_8 BK107 HB HL108_4 HR108_4 hx108_0 hx108_1 hx108_2 hx108_3 hx108_4 hx108_5 hx109_0 hHeld ⊢
                 refine pure_ (i:=0) (N:=some 42) (v:=?_) (a':=?_) #[Y,Z,Z,Z,Z,Z,Z,Z,Z,Z,Z,Z,Z,Z,Z,Z,Z,Z] rfl rfl (any_of HT_.out (by kernel_rfl)) (fun _ _ _ h=>h) (Or.inl ⟨by rfl,?_⟩) ?_ ?_
                 rotate_left
                 ·intro w'
                  go_simp
                  with_reducible rfl
                 rotate_left
                 ·simp only [Act.put,List.setIfInBounds_toArray,List.set_cons_zero,List.set_cons_succ,i64_w,i32_w]
                  rfl
                 refine pure_ (i:=1) (N:=some 43) (v:=?_) (a':=?_) #[Y,Y,Z,Z,Z,Z,Z,Z,Z,Z,Z,Z,Z,Z,Z,Z,Z,Z] rfl rfl (any_of HT_.out (by kernel_rfl)) (fun _ _ _ h=>h) (Or.inl ⟨by rfl,?_⟩) ?_ ?_
                 rotate_left
                 ·intro w'
                  go_simp
                  with_reducible rfl
                 rotate_left
                 ·simp only [Act.put,List.setIfInBounds_toArray,List.set_cons_zero,List.set_cons_succ,i64_w,i32_w]
                  rfl
                 refine pure_ (i:=3) (N:=some 45) (v:=?_) (a':=?_) #[Y,Y,Z,Y,Z,Z,Z,Z,Z,Z,Z,Z,Z,Z,Z,Z,Z,Z] rfl rfl (any_of HT_.out (by kernel_rfl)) (fun _ _ _ h=>h) (Or.inl ⟨by rfl,?_⟩) ?_ ?_
                 rotate_left
                 ·intro w'
                  go_simp
                  with_reducible rfl
                 rotate_left
                 ·simp only [Act.put,List.setIfInBounds_toArray,List.set_cons_zero,List.set_cons_succ,i64_w,i32_w]
                  rfl
                 refine pure_ (i:=6) (N:=some 48) (v:=?_) (a':=?_) #[Y,Y,Z,Y,Z,Z,Y,Z,Z,Z,Z,Z,Z,Z,Z,Z,Z,Z] rfl rfl (any_of HT_.out (by kernel_rfl)) (fun _ _ _ h=>h) (Or.inl ⟨by rfl,?_⟩) ?_ ?_
                 rotate_left
                 ·intro w'
                  go_simp
                  with_reducible rfl
                 rotate_left
                 ·simp only [Act.put,List.setIfInBounds_toArray,List.set_cons_zero,List.set_cons_succ,i64_w,i32_w]
                  rfl
                 refine pure_ (i:=7) (N:=some 49) (v:=?_) (a':=?_) #[Y,Y,Z,Y,Z,Z,Y,Y,Z,Z,Z,Z,Z,Z,Z,Z,Z,Z] rfl rfl (any_of HT_.out (by kernel_rfl)) (fun _ _ _ h=>h) (Or.inl ⟨by rfl,?_⟩) ?_ ?_
                 rotate_left
                 ·intro w'
                  go_simp
                  with_reducible rfl
                 rotate_left
                 ·simp only [Act.put,List.setIfInBounds_toArray,List.set_cons_zero,List.set_cons_succ,i64_w,i32_w]
                  rfl
                 refine pure_ (i:=8) (N:=some 50) (v:=?_) (a':=?_) #[Y,Y,Z,Y,Z,Z,Y,Y,Y,Z,Z,Z,Z,Z,Z,Z,Z,Z] rfl rfl (any_of HT_.out (by kernel_rfl)) (fun _ _ _ h=>h) (Or.inl ⟨by rfl,?_⟩) ?_ ?_
                 rotate_left
                 ·intro w'
                  go_simp
                  with_reducible rfl
                 rotate_left
                 ·simp only [Act.put,List.setIfInBounds_toArray,List.set_cons_zero,List.set_cons_succ,i64_w,i32_w]
                  rfl
                 refine pure_ (i:=9) (N:=some 51) (v:=?_) (a':=?_) #[Y,Y,Z,Y,Z,Z,Y,Y,Y,Y,Z,Z,Z,Z,Z,Z,Z,Z] rfl rfl (any_of HT_.out (by kernel_rfl)) (fun _ _ _ h=>h) (Or.inl ⟨by rfl,?_⟩) ?_ ?_
                 rotate_left
                 ·intro w'
                  go_simp
                  with_reducible rfl
                 rotate_left
                 ·simp only [Act.put,List.setIfInBounds_toArray,List.set_cons_zero,List.set_cons_succ,i64_w,i32_w]
                  rfl
                 refine pure_ (i:=11) (N:=some 53) (v:=?_) (a':=?_) #[Y,Y,Z,Y,Z,Z,Y,Y,Y,Y,Z,Y,Z,Z,Z,Z,Z,Z] rfl rfl (any_of HT_.out (by kernel_rfl)) (fun _ _ _ h=>h) (Or.inl ⟨by rfl,?_⟩) ?_ ?_
                 rotate_left
                 ·intro w'
                  go_simp
                  with_reducible rfl
                 rotate_left
                 ·simp only [Act.put,List.setIfInBounds_toArray,List.set_cons_zero,List.set_cons_succ,i64_w,i32_w]
                  rfl
                 refine take_ (i:=2) (N:=some 44) (v:=?_) (a':=?_) #[Y,Y,Y,Y,Z,Z,Y,Y,Y,Y,Z,Y,Z,Z,Z,Z,Z,Z] rfl rfl (take_ofW HT_.out HW_.out (by kernel_rfl)) (fun _ _ _ h=>h) (Or.inl ⟨by rfl,?_⟩) hHeld ?_ ?_
                 rotate_left
                 ·rintro w' ⟨s0,s1,s2,s3,s4,s5,s6,s7,s8,s9,s10,s11,s12⟩
                  go_simp
                  with_reducible rfl
                 rotate_left
                 ·simp only [Act.put,List.setIfInBounds_toArray,List.set_cons_zero,List.set_cons_succ,i64_w,i32_w]
                  rfl
                 refine take_ (i:=4) (N:=some 46) (v:=?_) (a':=?_) #[Y,Y,Y,Y,Y,Z,Y,Y,Y,Y,Z,Y,Z,Z,Z,Z,Z,Z] rfl rfl (take_ofW HT_.out HW_.out (by kernel_rfl)) (fun _ _ _ h=>h) (Or.inl ⟨by rfl,?_⟩) hHeld ?_ ?_
                 rotate_left
                 ·rintro w' ⟨s0,s1,s2,s3,s4,s5,s6,s7,s8,s9,s10,s11,s12⟩
                  go_simp
                  with_reducible rfl
                 rotate_left
                 ·simp only [Act.put,List.setIfInBounds_toArray,List.set_cons_zero,List.set_cons_succ,i64_w,i32_w]
                  rfl
                 refine pure_ (i:=5) (N:=some 47) (v:=?_) (a':=?_) #[Y,Y,Y,Y,Y,Y,Y,Y,Y,Y,Z,Y,Z,Z,Z,Z,Z,Z] rfl rfl (any_of HT_.out (by kernel_rfl)) (fun _ _ _ h=>h) (Or.inl ⟨by rfl,?_⟩) ?_ ?_
                 rotate_left
                 ·intro w'
                  go_simp
                  with_reducible rfl
                 rotate_left
                 ·simp only [Act.put,List.setIfInBounds_toArray,List.set_cons_zero,List.set_cons_succ,i64_w,i32_w]
                  rfl
                 refine take_ (i:=10) (N:=some 52) (v:=?_) (a':=?_) #[Y,Y,Y,Y,Y,Y,Y,Y,Y,Y,Y,Y,Z,Z,Z,Z,Z,Z] rfl rfl (take_ofW HT_.out HW_.out (by kernel_rfl)) (fun _ _ _ h=>h) (Or.inl ⟨by rfl,?_⟩) hHeld ?_ ?_
                 rotate_left
                 ·rintro w' ⟨s0,s1,s2,s3,s4,s5,s6,s7,s8,s9,s10,s11,s12⟩
                  go_simp
                  with_reducible rfl
                 rotate_left
                 ·simp only [Act.put,List.setIfInBounds_toArray,List.set_cons_zero,List.set_cons_succ,i64_w,i32_w]
                  rfl
                 refine pure_ (i:=12) (N:=some 54) (v:=?_) (a':=?_) #[Y,Y,Y,Y,Y,Y,Y,Y,Y,Y,Y,Y,Y,Z,Z,Z,Z,Z] rfl rfl (any_of HT_.out (by kernel_rfl)) (fun _ _ _ h=>h) (Or.inl ⟨by rfl,?_⟩) ?_ ?_
                 rotate_left
                 ·intro w'
                  go_simp
                  with_reducible rfl
                 rotate_left
                 ·simp only [Act.put,List.setIfInBounds_toArray,List.set_cons_zero,List.set_cons_succ,i64_w,i32_w]
                  rfl
                 refine take_ (i:=13) (N:=some 55) (v:=?_) (a':=?_) #[Y,Y,Y,Y,Y,Y,Y,Y,Y,Y,Y,Y,Y,Y,Z,Z,Z,Z] rfl rfl (take_ofW HT_.out HW_.out (by kernel_rfl)) (fun _ _ _ h=>h) (Or.inl ⟨by rfl,?_⟩) hHeld ?_ ?_
                 rotate_left
                 ·rintro w' ⟨s0,s1,s2,s3,s4,s5,s6,s7,s8,s9,s10,s11,s12⟩
                  go_simp
                  with_reducible rfl
                 rotate_left
                 ·simp only [Act.put,List.setIfInBounds_toArray,List.set_cons_zero,List.set_cons_succ,i64_w,i32_w]
                  rfl
                 refine pure_ (i:=14) (N:=some 56) (v:=?_) (a':=?_) #[Y,Y,Y,Y,Y,Y,Y,Y,Y,Y,Y,Y,Y,Y,Y,Z,Z,Z] rfl rfl (any_of HT_.out (by kernel_rfl)) (fun _ _ _ h=>h) (Or.inl ⟨by rfl,?_⟩) ?_ ?_
                 rotate_left
                 ·intro w'
                  go_simp
                  with_reducible rfl
                 rotate_left
                 ·simp only [Act.put,List.setIfInBounds_toArray,List.set_cons_zero,List.set_cons_succ,i64_w,i32_w]
                  rfl
                 refine last_ (i:=15) (N:=some 57) #[Y,Y,Y,Y,Y,Y,Y,Y,Y,Y,Y,Y,Y,Y,Y,Y,Z,Z] rfl rfl (one_of HT_.out (by kernel_rfl)) (by decide) (fun K hK=>?_)
                 refine value_ (w1:=?_) (v:=?_) (by rfl) rfl ?_ ?_
                 rotate_left 2
                 ·go_simp
                  constructor
                  ·rfl
                  ·rfl
                 refine hK.out _ _ ?_
                 clear hK K
                 refine norm_ (a':=?_) ?_ ?_
                 rotate_left
                 ·show Act.put _ (some 57) _ = _
                  simp only [Act.put,List.setIfInBounds_toArray,List.set_cons_zero,List.set_cons_succ,i64_w,i32_w]
                  rfl
                 refine last_ (i:=16) (N:=some 58) #[Y,Y,Y,Y,Y,Y,Y,Y,Y,Y,Y,Y,Y,Y,Y,Y,Y,Z] rfl rfl (one_of HT_.out (by kernel_rfl)) (by decide) (fun K hK=>?_)
                 refine Kd.R_append_step (Kd.int .i64) (w0:=w) w.heap.size (by rfl) (.tmp 42) (.tmp 57) 23 3 (.int .i64 0) 8 rfl Try.underlying23 info3 rfl (by decide) (by omega) u8 x8_3 (wrap64 ((wrap64 (((rd_T73 l0 x37_3).f1) - ((rd_T73 l0 x37_3).f2))) * (rd ((rd_T91 t101 x37_3).f1) x32_2))) [.int .i64 (wrap64 ((wrap64 (((rd_T73 l0 x37_3).f1) - ((rd_T73 l0 x37_3).f2))) * (rd ((rd_T91 t101 x37_3).f1) x32_2)))] (fun k_=>some k_ ≠ (u4:Value).ownBlock) (fun _=>False) rfl rfl ?aP (fun _ hk=>hk.elim) ?aF ?aO ?aB ?aS ?aL ?_
                 (case aP=>exact rfl)
                 (case aB=>exact (by repeat (first|(with_reducible first|exact HB.out|apply below_alloc|apply pw_below_drewN|apply below_drew1|refine below_set ?_ GE107.out)|exact HB.out)))
                 (case aF=>exact (fun k_ hk=>Kd.fresh' (Kd.R_lt (by (with_reducible repeat (first|apply Kd.R_alloc|apply Kd.R_drewN|apply Kd.R_drew));exact HO_4.out)) k_ hk))
                 (case aO=>exact (by (with_reducible repeat (first|apply Kd.R_alloc|apply Kd.R_drewN|apply Kd.R_drew));exact HO_8.out))
                 (case aS=>exact (below_size (by repeat (first|(with_reducible first|exact HB.out|apply below_alloc|apply pw_below_drewN|apply below_drew1|refine below_set ?_ GE107.out)|exact HB.out))))
                 (case aL=>have:=LMc16.out;omega)
                 intro v111 w22 ho hb hg hat
                 rw [← Ny110.out] at ho
                 have n0_:=Aside0.mk (Kd.R_after (ok:=(fun _=>True)) (by (with_reducible repeat (first|apply Kd.R_alloc|apply Kd.R_drewN|apply Kd.R_drew));exact Kd.R_mono HO_4.out (fun _ hk=>⟨trivial,hk⟩)) hg hat)
                 have n1_:=Aside0.mk (Kd.N_afterv (ok:=(fun k_=>some k_ ≠ (u4:Value).ownBlock ∧ k_ ≠ gb107)) (by (with_reducible repeat (first|apply Kd.N_alloc|apply Kd.N_drewN|apply Kd.N_drew));exact Kd.N_mono HO_6.out (fun _ hk=>⟨⟨hk.1,hk.2.2⟩,hk.2.1⟩)) hg hat)
                 have n2_:=Aside0.mk (blk_grown (g:=gb107) (o:=.cells #[.string ((rd_T73 l0 x37_3).f0.f0),.int .i64 ((rd_T73 l0 x37_3).f0.f1),.int .i64 ((rd_T73 l0 x37_3).f0.f2),.int .i64 ((rd_T73 l0 x37_3).f0.f3),.int .i64 ((rd_T73 l0 x37_3).f1),.int .i64 ((rd_T73 l0 x37_3).f2)] 73 (0,0)) (by (with_reducible repeat (first|refine blk_drewN ?_ _|refine blk_drew ?_|refine blk_alloc ?_ _));exact BK107.out) hg (Kd.R_ne HO_8.out BK107.out (by decide)))
                 have n3_:=Aside0.mk (Kd.V_afterv (ok:=(fun k_=>some k_ ≠ (u4:Value).ownBlock ∧ some k_ ≠ (.slice (some ad108) t101.length co21:Value).ownBlock ∧ k_ ≠ gb107)) (by (with_reducible repeat (first|apply Kd.V_alloc|apply Kd.V_drewN|apply Kd.V_drew));exact Kd.V_mono HL108_4.out (fun _ hk=>⟨⟨hk.1.1,⟨hk.2,hk.1.2.2⟩⟩,hk.1.2.1⟩)) hg hat)
                 have n4_:=Aside0.mk (hb)
                 have n5_:=Aside0.mk (ho)
                 clear HO_4
                 clear HO_6
                 clear BK107
                 clear HL108_4
                 clear HB
                 clear HO_8
                 have HO_4:=n0_
                 have HO_6:=n1_
                 have BK107:=n2_
                 have HL108_4:=n3_
                 have HB:=n4_
                 have HO112:=n5_
                 clear n0_ n1_ n2_ n3_ n4_ n5_
                 clear ho hb hg hat
                 refine hK.out _ _ ?_
                 clear hK K
                 refine norm_ (a':=?_) ?_ ?_
                 rotate_left
                 ·show Act.put _ (some 58) _ = _
                  simp only [Act.put,List.setIfInBounds_toArray,List.set_cons_zero,List.set_cons_succ,i64_w,i32_w]
                  rfl
                 refine pure_ (i:=17) (N:=some 8) (v:=?_) (a':=?_) #[Y,Y,Y,Y,Y,Y,Y,Y,Y,Y,Y,Y,Y,Y,Y,Y,Y,Y] rfl rfl (any_of HT_.out (by kernel_rfl)) (fun _ _ _ h=>h) (Or.inl ⟨by rfl,?_⟩) ?_ ?_
                 rotate_left
                 ·intro w'
                  go_simp
                  with_reducible rfl
                 rotate_left
                 ·simp only [Act.put,List.setIfInBounds_toArray,List.set_cons_zero,List.set_cons_succ,i64_w,i32_w]
                  rfl
                 refine done_ (done_of HT_.out (by kernel_rfl)) ?_
                 try go_wp2
                 go_roundg k3
                 case measure=>have:=HJ3.out;have:=HK2.out;have:=HK3.out;omega
                 case rel=>exact ⟨(y110),(wrap64 (x37_3 + 1)),(by first|rfl|(simp;done)|(simp [*];done)),H',⟨by have:=HJ3.out;have:=HK2.out;have:=HK3.out;omega⟩,⟨by (with_reducible repeat (first|apply Kd.R_alloc|apply Kd.R_drewN|apply Kd.R_drew));exact Kd.R_mono HO_4.out (fun _ hk=>hk.2)⟩,⟨by (with_reducible repeat (first|apply Kd.N_alloc|apply Kd.N_drewN|apply Kd.N_drew));exact Kd.N_mono HO_6.out (fun _ hk=>⟨hk.1.1,hk.2⟩)⟩,⟨by (with_reducible repeat (first|apply Kd.R_alloc|apply Kd.R_drewN|apply Kd.R_drew));exact HO112.out⟩,⟨by repeat (first|(with_reducible first|exact HB.out|apply below_alloc|apply pw_below_drewN|apply below_drew1|refine below_set ?_ GE107.out)|exact HB.out)⟩⟩
                ·rw [if_neg c16] at H
                 exact absurd H (by simp)
               ·rw [if_neg c15] at H
                exact absurd H (by simp)
              ·rw [if_neg c14] at H
               exact absurd H (by simp)
             ·rw [if_neg c13] at H
              exact absurd H (by simp)
            ·rw [if_neg c12] at H
             exact absurd H (by simp)
           ·rw [if_neg c11] at H
            exact absurd H (by simp)
          ·rw [if_neg c10] at H
           have c10b0:decide (x37_3 < (l0.length:Int)) = false:=decide_eq_false c10
           clear c10
           replace H:=Option.bind_eq_some_iff.mp H
           obtain ⟨⟨t113,t114⟩,A230,H⟩:=H
           replace H:(if t114 = 0 then (if x4_2.length < 17592186044416 then (scan_Losses.l0 k3 l0 (x4_2 ++ [t113]) t101 (((rd_T91 l1 0).f1).length:Int) (wrap64 (x32_2 + 1))) else (none)) else (some (([]:List Int),t114))) = some (r1,r2):=H
           have A23:=Aside0.mk A230
           clear A230
           by_cases c24:t114 = 0
           ·rw [if_pos c24] at H
            have c24b0:(t114 == 0) = true:=beq_iff_eq.mpr c24
            have c24b1:(t114 != 0) = false:=bne_eq_false_iff_eq.mpr c24
            clear c24
            by_cases c25:x4_2.length < 17592186044416
            ·rw [if_pos c25] at H
             have LMc25:=Aside0.mk c25
             clear c25
             obtain ⟨y115,hy115⟩:∃ y_:List Int,y_ = (x4_2 ++ [t113]):=⟨_,rfl⟩
             replace H:(scan_Losses.l0 k3 l0 y115 t101 (((rd_T91 l1 0).f1).length:Int) (wrap64 (x32_2 + 1))) = some (r1,r2):=by first|(rw [hy115];with_reducible exact H)|(have H2_:=(Option.bind_some _ _).symm.trans H;rw [hy115];with_reducible exact H2_)|(have H2_:=(Option.bind_some _ _).symm.trans H;with_reducible exact H2_)|with_reducible exact H|(rw [hy115];exact H)|exact H
             have Ny115:=Aside0.mk hy115
             clear hy115
             have H':=Aside0.mk H
             clear H
             obtain ⟨Ao26,co26,eo26⟩:=Kd.R_slice HO_8.out
             subst eo26
             go_wp2_with (first|((with_reducible refine gate_callee (f:=58) rfl ?_);refine goesL_ (some 62) rfl rfl Try.func58 (by kernel_rfl) rfl #[.slice Ao26 x8_3.length co26] rfl (by (try simp only [List.map_toArray,List.map_cons,List.map_nil]);first|done|rfl|(simp only [List.length_drop,List.length_take];rfl)) ?_;(with_reducible refine (cents_Sum.calls k3 _ _ x8_3 t113 t114 _ ?side1 ?side2 A23.out).mono ?_);(case side1=>repeat (first|exact (Kd.R_reads' HO_8.out).2.2|(with_reducible refine Kd.C_alloc ?_ _)|(with_reducible refine Kd.C_drewN ?_ _)|(with_reducible refine Kd.C_drew ?_)));(case side2=>exact (Kd.R_reads' HO_8.out).2.1);rintro e w' ⟨rfl,⟨nd,rfl⟩⟩;refine ⟨_,rfl,?_⟩)|((with_reducible refine gate_builtin (b:=.append) (xs:=#[.tmp 68,.tmp 70]) rfl ?_);(try (refine gate_guard (by rfl) ?_;dsimp only));at_builtin;refine Kd.R_append (Kd.int .i64) (w0:=w) w.heap.size rfl (.tmp 68) (.tmp 70) 23 3 (.int .i64 0) 8 rfl Try.underlying23 info3 rfl (by decide) (by omega) u4 x4_2 t113 [.int .i64 t113] (fun k_=>some k_ ≠ (.slice Ao26 x8_3.length co26:Value).ownBlock) (fun _=>False) rfl rfl ?aP (fun _ hk=>hk.elim) ?aF ?aO ?aB ?aS ?aL ?_;(case aP=>exact rfl);(case aB=>exact (by repeat (first|(with_reducible first|exact HB.out|apply below_alloc|apply pw_below_drewN|apply below_drew1)|exact HB.out)));(case aF=>exact (fun k_ hk=>Kd.fresh' (Kd.R_lt (by (with_reducible repeat (first|apply Kd.R_alloc|apply Kd.R_drewN|apply Kd.R_drew));exact HO_8.out)) k_ hk));(case aO=>exact (by (with_reducible repeat (first|apply Kd.R_alloc|apply Kd.R_drewN|apply Kd.R_drew));exact HO_4.out));(case aS=>exact (below_size (by repeat (first|(with_reducible first|exact HB.out|apply below_alloc|apply pw_below_drewN|apply below_drew1)|exact HB.out))));(case aL=>have:=LMc25.out;omega);intro v116 w27 ho hb hg hat;rw [← Ny115.out] at ho;have n0_:=Aside0.mk (Kd.N_afterv (ok:=(fun k_=>some k_ ≠ (.slice Ao26 x8_3.length co26:Value).ownBlock)) (by (with_reducible repeat (first|apply Kd.N_alloc|apply Kd.N_drewN|apply Kd.N_drew));exact Kd.N_mono HO_6.out (fun _ hk=>⟨hk.2,hk.1⟩)) hg hat);have n1_:=Aside0.mk (Kd.R_after (ok:=(fun _=>True)) (by (with_reducible repeat (first|apply Kd.R_alloc|apply Kd.R_drewN|apply Kd.R_drew));exact Kd.R_mono HO_8.out (fun _ hk=>⟨trivial,hk⟩)) hg hat);have n2_:=Aside0.mk (hb);have n3_:=Aside0.mk (ho);clear HO_6;clear HO_8;clear HB;clear HO_4;have HO_6:=n0_;have HO_8:=n1_;have HB:=n2_;have HO117:=n3_;clear n0_ n1_ n2_ n3_;clear ho hb hg hat))
             go_roundg k3
             case measure=>have:=HJ3.out;have:=HK2.out;have:=HK3.out;omega
             case rel=>exact ⟨(y115),(wrap64 (x32_2 + 1)),(by first|rfl|(simp;done)|(simp [*];done)),H',⟨by have:=HJ3.out;have:=HK2.out;have:=HK3.out;omega⟩,⟨by (with_reducible repeat (first|apply Kd.R_alloc|apply Kd.R_drewN|apply Kd.R_drew));exact Kd.R_mono HO117.out (fun _ hk=>trivial)⟩,⟨by (with_reducible repeat (first|apply Kd.N_alloc|apply Kd.N_drewN|apply Kd.N_drew));exact Kd.N_mono HO_6.out (fun _ hk=>hk.2)⟩,⟨by repeat (first|(with_reducible first|exact HB.out|apply below_alloc|apply pw_below_drewN|apply below_drew1)|exact HB.out)⟩⟩
            ·rw [if_neg c25] at H
             exact absurd H (by simp)
           ·rw [if_neg c24] at H
            have c24b0:(t114 == 0) = false:=beq_eq_false_iff_ne.mpr c24
            have c24b1:(t114 != 0) = true:=bne_iff_ne.mpr c24
            simp only [Option.some.injEq,Prod.mk.injEq] at H
            obtain ⟨rfl,rfl⟩:=H
            obtain ⟨Ao28,co28,eo28⟩:=Kd.R_slice HO_8.out
            subst eo28
            go_wp2_with (first|((with_reducible refine gate_callee (f:=58) rfl ?_);refine goesL_ (some 62) rfl rfl Try.func58 (by kernel_rfl) rfl #[.slice Ao28 x8_3.length co28] rfl (by (try simp only [List.map_toArray,List.map_cons,List.map_nil]);first|done|rfl|(simp only [List.length_drop,List.length_take];rfl)) ?_;(with_reducible refine (cents_Sum.calls k3 _ _ x8_3 t113 t114 _ ?side1 ?side2 A23.out).mono ?_);(case side1=>repeat (first|exact (Kd.R_reads' HO_8.out).2.2|(with_reducible refine Kd.C_alloc ?_ _)|(with_reducible refine Kd.C_drewN ?_ _)|(with_reducible refine Kd.C_drew ?_)));(case side2=>exact (Kd.R_reads' HO_8.out).2.1);rintro e w' ⟨rfl,⟨nd,rfl⟩⟩;refine ⟨_,rfl,?_⟩))
            go_ret2
            exact ⟨_,by first|rfl|(simp [errW_none,errW_some] <;> rfl)|(simp [*,errW_none,errW_some] <;> rfl),by first|exact Kd.R_nil _ _ _ _ _|exact Kd.N_nil _ _ _ _ _|exact Kd.V_nil _ _ _ _ _|exact Kd.Q_nil _ _ _ _ _|exact Kd.S_nil _ _ _ _ _,by repeat (first|(with_reducible first|exact HB.out|apply below_alloc|apply pw_below_drewN|apply below_drew1)|exact HB.out)⟩
       ·rw [if_neg c9] at H
        have c9b0:decide (x32_2 < (((rd_T91 l1 0).f1).length:Int)) = false:=decide_eq_false c9
        clear c9
        simp only [Option.some.injEq,Prod.mk.injEq] at H
        obtain ⟨rfl,rfl⟩:=H
        go_wp2
        go_ret2
        exact ⟨_,by first|rfl|(simp [errW_none,errW_some] <;> rfl)|(simp [*,errW_none,errW_some] <;> rfl),by (with_reducible repeat (first|apply Kd.R_alloc|apply Kd.R_drewN|apply Kd.R_drew));exact HO_4.out,by repeat (first|(with_reducible first|exact HB.out|apply below_alloc|apply pw_below_drewN|apply below_drew1)|exact HB.out)⟩
    ·rw [if_neg c8] at H
     exact absurd H (by simp)
end Go.Proofs.Ytbgeceiddcokmaa.X
end
section
namespace Go.Proofs.Ytbgeceiddcokmaa.X
open Go.RowKit Go.Proofs.YtbgeceiddcokmaaW.PrintWords Go.Proofs.YtbgeceiddcokmaaW.PrintLast Go.Proofs.YtbgeceiddcokmaaW.PrintMore
attribute [local go_sem] max2_int min2_int max_two min_two max_three min_three max_four min_four
set_option linter.unusedVariables false
set_option linter.unusedSimpArgs false
def scan_Risk.l0:Nat → Int → Int → Int → List Int → Int → Int → Option (Int × Int × Int)
 | 0,_,_,_,_,_,_=>none
 | k + 1,x4,x5,x6,x16,x17,x18=>if x18 < x17 then (if 0 ≤ x18 then (if x18 < (x16.length:Int) then (if (rd x16 x18) > x4 then (scan_Risk.l0 k (rd x16 x18) x18 x6 x16 x17 (wrap64 (x18 + 1))) else (scan_Risk.l0 k x4 x5 x6 x16 x17 (wrap64 (x18 + 1)))) else (none)) else (none)) else (some (x4,x5,x6))
def scan_Risk.f (k:Nat) (l0:List (S73)) (l1:List (S91)):Option (Int × Int × Int):=(scan_Losses.f k l0 l1).bind fun bt101=>(scan_Risk.l0 k 0 0 bt101.2 bt101.1 (bt101.1.length:Int) 0)
theorem scan_Risk.mono_l:∀ k,(∀ y0 y1 y2 y3 y4 y5,LeO (scan_Risk.l0 k y0 y1 y2 y3 y4 y5) (scan_Risk.l0 (k + 1) y0 y1 y2 y3 y4 y5))
 | 0=>fun _ _ _ _ _ _ r h=>by simp [scan_Risk.l0] at h
 | k + 1=>by
  have ih0:=scan_Risk.mono_l k
  ·intro y0 y1 y2 y3 y4 y5
   unfold scan_Risk.l0
   repeat' first
   | (with_reducible exact ih0 _ _ _ _ _ _)
   | (with_reducible exact scan_Losses.mono _ _ _)
   | (with_reducible exact LeO.refl _)
   | (with_reducible exact LeO.none _)
   | (with_reducible refine LeO.ite ?_ ?_)
   | (with_reducible refine LeO.bind ?_ (fun _=>?_))
   | exact ih0 _ _ _ _ _ _
   | exact scan_Losses.mono _ _ _
   | exact LeO.none _
   | refine LeO.ite ?_ ?_
   | refine LeO.bind ?_ (fun _=>?_)
theorem scan_Risk.mono:∀ a0 a1 k,LeO (scan_Risk.f k a0 a1) (scan_Risk.f (k + 1) a0 a1):=by
 intro a0 a1 k
 have ih0:=scan_Risk.mono_l k
 unfold scan_Risk.f
 repeat' first
   | (with_reducible exact ih0 _ _ _ _ _ _)
   | (with_reducible exact scan_Losses.mono _ _ _)
   | (with_reducible exact LeO.refl _)
   | (with_reducible exact LeO.none _)
   | (with_reducible refine LeO.ite ?_ ?_)
   | (with_reducible refine LeO.bind ?_ (fun _=>?_))
   | exact ih0 _ _ _ _ _ _
   | exact scan_Losses.mono _ _ _
   | exact LeO.none _
   | refine LeO.ite ?_ ?_
   | refine LeO.bind ?_ (fun _=>?_)
set_option maxHeartbeats 8000000 in
set_option maxRecDepth 100000 in
theorem scan_Risk.calls (k:Nat) (A0:Option Addr) (c0:Nat) (l0:List (S73)) (A1:Option Addr) (c1:Nat) (l1:List (S91)) (r1:Int) (r2:Int) (r3:Int) (w:World) (hr0:Kd.C k73 w A0 l0.length l0) (hc0:l0.length ≤ c0) (hr1:Kd.C k91 w A1 l1.length l1) (hc1:l1.length ≤ c1) (h:scan_Risk.f k l0 l1 = some (r1,r2,r3)) :
  Calls Try.prog 29 #[.slice A0 l0.length c0,.slice A1 l1.length c1] w fun e w'=>e = .returned (.tuple #[.int .i64 r1,.int .i64 r2,.int .i64 r3]) ∧ Below w.heap.size w w':=by
 have HR0:=Aside0.mk hr0
 have HC0:=Aside0.mk hc0
 clear hr0 hc0
 have HR1:=Aside0.mk hr1
 have HC1:=Aside0.mk hc1
 clear hr1 hc1
 have HB:=Aside0.mk (Below.refl w.heap.size w)
 have H:((scan_Losses.f k l0 l1).bind fun bt101=>(scan_Risk.l0 k 0 0 bt101.2 bt101.1 (bt101.1.length:Int) 0)) = some (r1,r2,r3):=h
 clear h
 replace H:=Option.bind_eq_some_iff.mp H
 obtain ⟨⟨t101,t102⟩,A30,H⟩:=H
 replace H:(scan_Risk.l0 k 0 0 t102 t101 (t101.length:Int) 0) = some (r1,r2,r3):=H
 have A3:=Aside0.mk A30
 clear A30
 have H':=Aside0.mk H
 clear H
 go_enter Try.func29,Try.ntmps29
 go_wp2_with (first|((with_reducible refine gate_callee (f:=27) rfl ?_);refine goesL_ (some 13) rfl rfl Try.func27 (by kernel_rfl) rfl #[.slice A0 l0.length c0,.slice A1 l1.length c1] rfl (by (try simp only [List.map_toArray,List.map_cons,List.map_nil]);first|done|rfl|(simp only [List.length_drop,List.length_take];rfl)) ?_;(with_reducible refine (scan_Losses.calls k _ _ l0 _ _ l1 t101 t102 _ ?side1 ?side2 ?side3 ?side4 A3.out).mono ?_);(case side1=>repeat (first|exact HR0.out|(with_reducible refine Kd.C_alloc ?_ _)|(with_reducible refine Kd.C_drewN ?_ _)|(with_reducible refine Kd.C_drew ?_)));(case side2=>exact HC0.out);(case side3=>repeat (first|exact HR1.out|(with_reducible refine Kd.C_alloc ?_ _)|(with_reducible refine Kd.C_drewN ?_ _)|(with_reducible refine Kd.C_drew ?_)));(case side4=>exact HC1.out);rintro e w4 ⟨v103,rfl,ho0,hb⟩;refine ⟨_,rfl,?_⟩;have n0_:=Aside0.mk (Kd.R_lower ho0 (below_size (by repeat (first|(with_reducible first|exact HB.out|apply below_alloc|apply pw_below_drewN|apply below_drew1)|exact HB.out))));have n1_:=Aside0.mk (below_step (by repeat (first|(with_reducible first|exact HB.out|apply below_alloc|apply pw_below_drewN|apply below_drew1)|exact HB.out)) hb);clear HB;have HO104:=n0_;have HB:=n1_;clear n0_ n1_;(try clear hb);(try clear hb2);(try clear hk);(try clear hi);(try clear ho0);obtain ⟨Ao5,co5,eo5⟩:=Kd.R_slice HO104.out;subst eo5))
 go_loopg [4,5,18] k (fun kq v4 v5 v18 w'=>∃ (x4_1:Int) (x5_1:Int) (x18_1:Int),v4 = .int .i64 x4_1 ∧ v5 = .int .i64 x5_1 ∧ v18 = .int .i64 x18_1 ∧ Aside0 (scan_Risk.l0 kq x4_1 x5_1 t102 t101 (t101.length:Int) x18_1 = some (r1,r2,r3)) ∧ Aside0 (kq ≤ k) ∧ Aside0 (Kd.R (Kd.int .i64) 3 w' w.heap.size (fun _=>True) (.slice Ao5 t101.length co5) t101) ∧ Aside0 (Below w.heap.size w w'))
 case atStart=>exact ⟨(0),(0),(0),(by first|rfl|(simp;done)|(simp [*];done)),(by first|rfl|(simp;done)|(simp [*];done)),(by first|rfl|(simp;done)|(simp [*];done)),H',⟨Nat.le_refl _⟩,⟨by (with_reducible repeat (first|apply Kd.R_alloc|apply Kd.R_drewN|apply Kd.R_drew));exact HO104.out⟩,⟨by repeat (first|(with_reducible first|exact HB.out|apply below_alloc|apply pw_below_drewN|apply below_drew1)|exact HB.out)⟩⟩
 case round =>
  clear H'
  try clear c1
  try clear c2
  try clear p2
  obtain ⟨x4_1,x5_1,x18_1,rfl,rfl,rfl,HA,HK1,HO_16,HB⟩:=hrel
  cases gk with
  | zero=>exact absurd HA.out (by simp [scan_Risk.l0])
  | succ k1 =>
   have H:=HA.out
   clear HA
   simp only [scan_Risk.l0] at H
   by_cases c6:x18_1 < (t101.length:Int)
   ·rw [if_pos c6] at H
    have c6b0:decide (x18_1 < (t101.length:Int)) = true:=decide_eq_true c6
    clear c6
    by_cases c7:0 ≤ x18_1
    ·rw [if_pos c7] at H
     have c7b0:decide (0 ≤ x18_1) = true:=decide_eq_true c7
     clear c7
     by_cases c8:x18_1 < (t101.length:Int)
     ·rw [if_pos c8] at H
      have c8b0:decide (x18_1 < (t101.length:Int)) = true:=decide_eq_true c8
      clear c8
      by_cases c9:(rd t101 x18_1) > x4_1
      ·rw [if_pos c9] at H
       have c9b0:decide (x4_1 < (rd t101 x18_1)) = true:=decide_eq_true c9
       clear c9
       have H':=Aside0.mk H
       clear H
       have p105:0 ≤ (x18_1:Int):=of_decide_eq_true (by first|(with_reducible assumption)|assumption)
       have q105:x18_1 < (t101.length:Int):=of_decide_eq_true (by first|(with_reducible assumption)|assumption)
       obtain ⟨ad105,e105,hx105_0⟩:=Kd.at_int (Kd.R_reads' HO_16.out).2.2 x18_1 p105 q105
       cases e105
       replace p105:=eq_true p105
       replace q105:=eq_true q105
       go_wp2
       go_roundg k1
       case measure=>have:=HK1.out;omega
       case rel=>exact ⟨(rd t101 x18_1),(x18_1),(wrap64 (x18_1 + 1)),(by first|rfl|(simp;done)|(simp [*];done)),(by first|rfl|(simp;done)|(simp [*];done)),(by first|rfl|(simp;done)|(simp [*];done)),H',⟨by have:=HK1.out;omega⟩,⟨by (with_reducible repeat (first|apply Kd.R_alloc|apply Kd.R_drewN|apply Kd.R_drew));exact HO_16.out⟩,⟨by repeat (first|(with_reducible first|exact HB.out|apply below_alloc|apply pw_below_drewN|apply below_drew1)|exact HB.out)⟩⟩
      ·rw [if_neg c9] at H
       have c9b0:decide (x4_1 < (rd t101 x18_1)) = false:=decide_eq_false c9
       clear c9
       have H':=Aside0.mk H
       clear H
       have p105:0 ≤ (x18_1:Int):=of_decide_eq_true (by first|(with_reducible assumption)|assumption)
       have q105:x18_1 < (t101.length:Int):=of_decide_eq_true (by first|(with_reducible assumption)|assumption)
       obtain ⟨ad105,e105,hx105_0⟩:=Kd.at_int (Kd.R_reads' HO_16.out).2.2 x18_1 p105 q105
       cases e105
       replace p105:=eq_true p105
       replace q105:=eq_true q105
       go_wp2
       go_roundg k1
       case measure=>have:=HK1.out;omega
       case rel=>exact ⟨(x4_1),(x5_1),(wrap64 (x18_1 + 1)),(by first|rfl|(simp;done)|(simp [*];done)),(by first|rfl|(simp;done)|(simp [*];done)),(by first|rfl|(simp;done)|(simp [*];done)),H',⟨by have:=HK1.out;omega⟩,⟨by (with_reducible repeat (first|apply Kd.R_alloc|apply Kd.R_drewN|apply Kd.R_drew));exact HO_16.out⟩,⟨by repeat (first|(with_reducible first|exact HB.out|apply below_alloc|apply pw_below_drewN|apply below_drew1)|exact HB.out)⟩⟩
     ·rw [if_neg c8] at H
      exact absurd H (by simp)
    ·rw [if_neg c7] at H
     exact absurd H (by simp)
   ·rw [if_neg c6] at H
    have c6b0:decide (x18_1 < (t101.length:Int)) = false:=decide_eq_false c6
    clear c6
    simp only [Option.some.injEq,Prod.mk.injEq] at H
    obtain ⟨rfl,rfl,rfl⟩:=H
    go_wp2
    go_ret3
    exact ⟨by first|rfl|(simp [errW_none,errW_some] <;> rfl)|(simp [*,errW_none,errW_some] <;> rfl),by repeat (first|(with_reducible first|exact HB.out|apply below_alloc|apply pw_below_drewN|apply below_drew1)|exact HB.out)⟩
end Go.Proofs.Ytbgeceiddcokmaa.X
end
section
namespace Go.Proofs.Ytbgeceiddcokmaa.X
open Go.RowKit Go.Proofs.YtbgeceiddcokmaaW.PrintWords Go.Proofs.YtbgeceiddcokmaaW.PrintLast Go.Proofs.YtbgeceiddcokmaaW.PrintMore
attribute [local go_sem] max2_int min2_int max_two min_two max_three min_three max_four min_four
set_option linter.unusedVariables false
set_option linter.unusedSimpArgs false
def contangolaw23_goes.f (k:Nat)  : Option (Bool):=(some (([(⟨(⟨(⟨#[111,105,108]⟩:ByteArray),1,9576,0⟩:S39),(([(-100),0,100]:List Int)),1000⟩:S91),(⟨(⟨(⟨#[111,105,108]⟩:ByteArray),3,9576,50⟩:S39),(([60,10,(-20)]:List Int)),(-400)⟩:S91)]:List (S91)):List (S91))).bind fun y109=>((some (([(⟨(⟨(⟨#[111,105,108]⟩:ByteArray),1,9576,0⟩:S39),1,0⟩:S73),(⟨(⟨(⟨#[111,105,108]⟩:ByteArray),3,9576,50⟩:S39),2,0⟩:S73)]:List (S73)):List (S73))).bind fun y112=>((scan_Losses.f k y112 y109).bind fun bt115=>((scan_Risk.f k y112 y109).bind fun bt119=>((scan_Delta.f k y112 y109).bind fun bt122=>((contangoref23_Same.f k bt115.1 (([20,20,60]:List Int))).bind fun t127=>(if t127 = true then (if bt119.1 = 60 then (if bt119.2.1 = 2 then (if bt122.1 = 200 then (if bt115.2 = 0 then (if bt119.2.2 = 0 then (some (bt122.2 == 0)) else (none)) else (none)) else (none)) else (none)) else (none)) else (none)))))))
theorem contangolaw23_goes.mono:∀ k,LeO (contangolaw23_goes.f k ) (contangolaw23_goes.f (k + 1) ):=by
 intro  k
 unfold contangolaw23_goes.f
 repeat' first
   | (with_reducible exact contangoref23_Same.mono _ _ _)
   | (with_reducible exact scan_Delta.mono _ _ _)
   | (with_reducible exact scan_Losses.mono _ _ _)
   | (with_reducible exact scan_Risk.mono _ _ _)
   | (with_reducible exact LeO.refl _)
   | (with_reducible exact LeO.none _)
   | (with_reducible refine LeO.ite ?_ ?_)
   | (with_reducible refine LeO.bind ?_ (fun _=>?_))
   | exact contangoref23_Same.mono _ _ _
   | exact scan_Delta.mono _ _ _
   | exact scan_Losses.mono _ _ _
   | exact scan_Risk.mono _ _ _
   | exact LeO.none _
   | refine LeO.ite ?_ ?_
   | refine LeO.bind ?_ (fun _=>?_)
set_option maxHeartbeats 8000000 in
set_option maxRecDepth 100000 in
theorem contangolaw23_goes.calls (k:Nat)  (r:Bool) (w:World) (h:contangolaw23_goes.f k  = some r) :
  Calls Try.prog 25 #[] w fun e w'=>e = .returned (.bool r) ∧ Below w.heap.size w w':=by
 have hu39:=Try.underlying39
 have hu91:=Try.underlying91
 have hu73:=Try.underlying73
 have HB:=Aside0.mk (Below.refl w.heap.size w)
 have H:((some (([(⟨(⟨(⟨#[111,105,108]⟩:ByteArray),1,9576,0⟩:S39),(([(-100),0,100]:List Int)),1000⟩:S91),(⟨(⟨(⟨#[111,105,108]⟩:ByteArray),3,9576,50⟩:S39),(([60,10,(-20)]:List Int)),(-400)⟩:S91)]:List (S91)):List (S91))).bind fun y109=>((some (([(⟨(⟨(⟨#[111,105,108]⟩:ByteArray),1,9576,0⟩:S39),1,0⟩:S73),(⟨(⟨(⟨#[111,105,108]⟩:ByteArray),3,9576,50⟩:S39),2,0⟩:S73)]:List (S73)):List (S73))).bind fun y112=>((scan_Losses.f k y112 y109).bind fun bt115=>((scan_Risk.f k y112 y109).bind fun bt119=>((scan_Delta.f k y112 y109).bind fun bt122=>((contangoref23_Same.f k bt115.1 (([20,20,60]:List Int))).bind fun t127=>(if t127 = true then (if bt119.1 = 60 then (if bt119.2.1 = 2 then (if bt122.1 = 200 then (if bt115.2 = 0 then (if bt119.2.2 = 0 then (some (bt122.2 == 0)) else (none)) else (none)) else (none)) else (none)) else (none)) else (none)))))))) = some r:=h
 clear h
 obtain ⟨y103,hy103⟩:∃ y_:List Int,y_ = (([(-100),0,100]:List Int)):=⟨_,rfl⟩
 replace H:((some (([(⟨(⟨(⟨#[111,105,108]⟩:ByteArray),1,9576,0⟩:S39),y103,1000⟩:S91),(⟨(⟨(⟨#[111,105,108]⟩:ByteArray),3,9576,50⟩:S39),(([60,10,(-20)]:List Int)),(-400)⟩:S91)]:List (S91)):List (S91))).bind fun y109=>((some (([(⟨(⟨(⟨#[111,105,108]⟩:ByteArray),1,9576,0⟩:S39),1,0⟩:S73),(⟨(⟨(⟨#[111,105,108]⟩:ByteArray),3,9576,50⟩:S39),2,0⟩:S73)]:List (S73)):List (S73))).bind fun y112=>((scan_Losses.f k y112 y109).bind fun bt115=>((scan_Risk.f k y112 y109).bind fun bt119=>((scan_Delta.f k y112 y109).bind fun bt122=>((contangoref23_Same.f k bt115.1 (([20,20,60]:List Int))).bind fun t127=>(if t127 = true then (if bt119.1 = 60 then (if bt119.2.1 = 2 then (if bt122.1 = 200 then (if bt115.2 = 0 then (if bt119.2.2 = 0 then (some (bt122.2 == 0)) else (none)) else (none)) else (none)) else (none)) else (none)) else (none)))))))) = some r:=by first|(rw [hy103];with_reducible exact H)|(have H2_:=(Option.bind_some _ _).symm.trans H;rw [hy103];with_reducible exact H2_)|(have H2_:=(Option.bind_some _ _).symm.trans H;with_reducible exact H2_)|with_reducible exact H|(rw [hy103];exact H)|exact H
 have Ny103:=Aside0.mk hy103
 clear hy103
 obtain ⟨y106,hy106⟩:∃ y_:List Int,y_ = (([60,10,(-20)]:List Int)):=⟨_,rfl⟩
 replace H:((some (([(⟨(⟨(⟨#[111,105,108]⟩:ByteArray),1,9576,0⟩:S39),y103,1000⟩:S91),(⟨(⟨(⟨#[111,105,108]⟩:ByteArray),3,9576,50⟩:S39),y106,(-400)⟩:S91)]:List (S91)):List (S91))).bind fun y109=>((some (([(⟨(⟨(⟨#[111,105,108]⟩:ByteArray),1,9576,0⟩:S39),1,0⟩:S73),(⟨(⟨(⟨#[111,105,108]⟩:ByteArray),3,9576,50⟩:S39),2,0⟩:S73)]:List (S73)):List (S73))).bind fun y112=>((scan_Losses.f k y112 y109).bind fun bt115=>((scan_Risk.f k y112 y109).bind fun bt119=>((scan_Delta.f k y112 y109).bind fun bt122=>((contangoref23_Same.f k bt115.1 (([20,20,60]:List Int))).bind fun t127=>(if t127 = true then (if bt119.1 = 60 then (if bt119.2.1 = 2 then (if bt122.1 = 200 then (if bt115.2 = 0 then (if bt119.2.2 = 0 then (some (bt122.2 == 0)) else (none)) else (none)) else (none)) else (none)) else (none)) else (none)))))))) = some r:=by first|(rw [hy106];with_reducible exact H)|(have H2_:=(Option.bind_some _ _).symm.trans H;rw [hy106];with_reducible exact H2_)|(have H2_:=(Option.bind_some _ _).symm.trans H;with_reducible exact H2_)|with_reducible exact H|(rw [hy106];exact H)|exact H
 have Ny106:=Aside0.mk hy106
 clear hy106
 obtain ⟨y109,hy109⟩:∃ y_:List (S91),y_ = (([(⟨(⟨(⟨#[111,105,108]⟩:ByteArray),1,9576,0⟩:S39),y103,1000⟩:S91),(⟨(⟨(⟨#[111,105,108]⟩:ByteArray),3,9576,50⟩:S39),y106,(-400)⟩:S91)]:List (S91))):=⟨_,rfl⟩
 replace H:((some (([(⟨(⟨(⟨#[111,105,108]⟩:ByteArray),1,9576,0⟩:S39),1,0⟩:S73),(⟨(⟨(⟨#[111,105,108]⟩:ByteArray),3,9576,50⟩:S39),2,0⟩:S73)]:List (S73)):List (S73))).bind fun y112=>((scan_Losses.f k y112 y109).bind fun bt115=>((scan_Risk.f k y112 y109).bind fun bt119=>((scan_Delta.f k y112 y109).bind fun bt122=>((contangoref23_Same.f k bt115.1 (([20,20,60]:List Int))).bind fun t127=>(if t127 = true then (if bt119.1 = 60 then (if bt119.2.1 = 2 then (if bt122.1 = 200 then (if bt115.2 = 0 then (if bt119.2.2 = 0 then (some (bt122.2 == 0)) else (none)) else (none)) else (none)) else (none)) else (none)) else (none))))))) = some r:=by first|(rw [hy109];with_reducible exact H)|(have H2_:=(Option.bind_some _ _).symm.trans H;rw [hy109];with_reducible exact H2_)|(have H2_:=(Option.bind_some _ _).symm.trans H;with_reducible exact H2_)|with_reducible exact H|(rw [hy109];exact H)|exact H
 have Ny109:=Aside0.mk hy109
 clear hy109
 obtain ⟨y112,hy112⟩:∃ y_:List (S73),y_ = (([(⟨(⟨(⟨#[111,105,108]⟩:ByteArray),1,9576,0⟩:S39),1,0⟩:S73),(⟨(⟨(⟨#[111,105,108]⟩:ByteArray),3,9576,50⟩:S39),2,0⟩:S73)]:List (S73))):=⟨_,rfl⟩
 replace H:((scan_Losses.f k y112 y109).bind fun bt115=>((scan_Risk.f k y112 y109).bind fun bt119=>((scan_Delta.f k y112 y109).bind fun bt122=>((contangoref23_Same.f k bt115.1 (([20,20,60]:List Int))).bind fun t127=>(if t127 = true then (if bt119.1 = 60 then (if bt119.2.1 = 2 then (if bt122.1 = 200 then (if bt115.2 = 0 then (if bt119.2.2 = 0 then (some (bt122.2 == 0)) else (none)) else (none)) else (none)) else (none)) else (none)) else (none)))))) = some r:=by first|(rw [hy112];with_reducible exact H)|(have H2_:=(Option.bind_some _ _).symm.trans H;rw [hy112];with_reducible exact H2_)|(have H2_:=(Option.bind_some _ _).symm.trans H;with_reducible exact H2_)|with_reducible exact H|(rw [hy112];exact H)|exact H
 have Ny112:=Aside0.mk hy112
 clear hy112
 replace H:=Option.bind_eq_some_iff.mp H
 obtain ⟨⟨t115,t116⟩,A10,H⟩:=H
 replace H:((scan_Risk.f k y112 y109).bind fun bt119=>((scan_Delta.f k y112 y109).bind fun bt122=>((contangoref23_Same.f k t115 (([20,20,60]:List Int))).bind fun t127=>(if t127 = true then (if bt119.1 = 60 then (if bt119.2.1 = 2 then (if bt122.1 = 200 then (if t116 = 0 then (if bt119.2.2 = 0 then (some (bt122.2 == 0)) else (none)) else (none)) else (none)) else (none)) else (none)) else (none))))) = some r:=H
 have A1:=Aside0.mk A10
 clear A10
 replace H:=Option.bind_eq_some_iff.mp H
 obtain ⟨⟨t119,t120,t121⟩,A20,H⟩:=H
 replace H:((scan_Delta.f k y112 y109).bind fun bt122=>((contangoref23_Same.f k t115 (([20,20,60]:List Int))).bind fun t127=>(if t127 = true then (if t119 = 60 then (if t120 = 2 then (if bt122.1 = 200 then (if t116 = 0 then (if t121 = 0 then (some (bt122.2 == 0)) else (none)) else (none)) else (none)) else (none)) else (none)) else (none)))) = some r:=H
 have A2:=Aside0.mk A20
 clear A20
 replace H:=Option.bind_eq_some_iff.mp H
 obtain ⟨⟨t122,t123⟩,A30,H⟩:=H
 replace H:((contangoref23_Same.f k t115 (([20,20,60]:List Int))).bind fun t127=>(if t127 = true then (if t119 = 60 then (if t120 = 2 then (if t122 = 200 then (if t116 = 0 then (if t121 = 0 then (some (t123 == 0)) else (none)) else (none)) else (none)) else (none)) else (none)) else (none))) = some r:=H
 have A3:=Aside0.mk A30
 clear A30
 obtain ⟨y124,hy124⟩:∃ y_:List Int,y_ = (([20,20,60]:List Int)):=⟨_,rfl⟩
 replace H:((contangoref23_Same.f k t115 y124).bind fun t127=>(if t127 = true then (if t119 = 60 then (if t120 = 2 then (if t122 = 200 then (if t116 = 0 then (if t121 = 0 then (some (t123 == 0)) else (none)) else (none)) else (none)) else (none)) else (none)) else (none))) = some r:=by first|(rw [hy124];with_reducible exact H)|(have H2_:=(Option.bind_some _ _).symm.trans H;rw [hy124];with_reducible exact H2_)|(have H2_:=(Option.bind_some _ _).symm.trans H;with_reducible exact H2_)|with_reducible exact H|(rw [hy124];exact H)|exact H
 have Ny124:=Aside0.mk hy124
 clear hy124
 replace H:=Option.bind_eq_some_iff.mp H
 obtain ⟨t127,A40,H⟩:=H
 replace H:(if t127 = true then (if t119 = 60 then (if t120 = 2 then (if t122 = 200 then (if t116 = 0 then (if t121 = 0 then (some (t123 == 0)) else (none)) else (none)) else (none)) else (none)) else (none)) else (none)) = some r:=H
 have A4:=Aside0.mk A40
 clear A40
 by_cases c5:t127 = true
 ·subst c5
  have H1:(if t119 = 60 then (if t120 = 2 then (if t122 = 200 then (if t116 = 0 then (if t121 = 0 then (some (t123 == 0)) else (none)) else (none)) else (none)) else (none)) else (none)) = some r:=by rw [if_pos rfl] at H;exact H
  clear H
  have H:=H1
  clear H1
  by_cases c6:t119 = 60
  ·rw [if_pos c6] at H
   have c6b0:(t119 == 60) = true:=beq_iff_eq.mpr c6
   have c6b1:(t119 != 60) = false:=bne_eq_false_iff_eq.mpr c6
   clear c6
   by_cases c7:t120 = 2
   ·rw [if_pos c7] at H
    have c7b0:(t120 == 2) = true:=beq_iff_eq.mpr c7
    have c7b1:(t120 != 2) = false:=bne_eq_false_iff_eq.mpr c7
    clear c7
    by_cases c8:t122 = 200
    ·rw [if_pos c8] at H
     have c8b0:(t122 == 200) = true:=beq_iff_eq.mpr c8
     have c8b1:(t122 != 200) = false:=bne_eq_false_iff_eq.mpr c8
     clear c8
     by_cases c9:t116 = 0
     ·rw [if_pos c9] at H
      have c9b0:(t116 == 0) = true:=beq_iff_eq.mpr c9
      have c9b1:(t116 != 0) = false:=bne_eq_false_iff_eq.mpr c9
      clear c9
      by_cases c10:t121 = 0
      ·rw [if_pos c10] at H
       have c10b0:(t121 == 0) = true:=beq_iff_eq.mpr c10
       have c10b1:(t121 != 0) = false:=bne_eq_false_iff_eq.mpr c10
       clear c10
       obtain rfl:=Option.some.inj H
       go_enter Try.func25,Try.ntmps25
       go_wp2_with (first|((with_reducible refine gate_dst (N:=1) rfl ?_);refine box_event ?hg (N:=1) ?hd (cs:=#[.string (⟨#[]⟩:ByteArray),.int .i64 0,.int .i64 0,.int .i64 0]) (t:=39) ?hr ?_;(case hd=>rfl);(case hg=>rfl);(case hr=>first|(go_simp;done)|(go_simp;rfl));intro gb101 hg w11 hbox hb;have n0_:=Aside0.mk (below_step (by repeat (first|(with_reducible first|exact HB.out|apply below_alloc|apply pw_below_drewN|apply below_drew1)|exact HB.out)) hb);have n1_:=Aside0.mk (hbox);have n2_:=Aside0.mk ((by rw [hg];exact (below_size (by repeat (first|(with_reducible first|exact HB.out|apply below_alloc|apply pw_below_drewN|apply below_drew1)|exact HB.out))):w.heap.size ≤ gb101));have n3_:=Aside0.mk ((by rw [hg];exact (below_size (by repeat (first|(with_reducible first|exact HB.out|apply below_alloc|apply pw_below_drewN|apply below_drew1)|exact HB.out))):w.heap.size ≤ gb101));clear HB;have HB:=n0_;have BK101:=n1_;have GW101:=n2_;have GE101:=n3_;clear n0_ n1_ n2_ n3_;clear hb hbox hg;have hcz12_0:w11.cell? ⟨gb101,0,none⟩ = some (.string (⟨#[]⟩:ByteArray)):=(blk_cell BK101.out 0).trans rfl;have hcz12_1:w11.cell? ⟨gb101,1,none⟩ = some (.int .i64 0):=(blk_cell BK101.out 1).trans rfl;have hcz12_2:w11.cell? ⟨gb101,2,none⟩ = some (.int .i64 0):=(blk_cell BK101.out 2).trans rfl;have hcz12_3:w11.cell? ⟨gb101,3,none⟩ = some (.int .i64 0):=(blk_cell BK101.out 3).trans rfl;have hfz12_0:=blk_frozen BK101.out 0;have hfz12_1:=blk_frozen BK101.out 1;have hfz12_2:=blk_frozen BK101.out 2;have hfz12_3:=blk_frozen BK101.out 3)|((with_reducible refine gate_dst (N:=2) rfl ?_);refine box_event ?hg (N:=2) ?hd (cs:=#[.string (⟨#[]⟩:ByteArray),.int .i64 0,.int .i64 0,.int .i64 0]) (t:=39) ?hr ?_;(case hd=>rfl);(case hg=>rfl);(case hr=>first|(go_simp;done)|(go_simp;rfl));intro gb102 hg w13 hbox hb;have n0_:=Aside0.mk (blk_below (g:=gb101) (o:=.cells #[.string (⟨#[111,105,108]⟩:ByteArray),.int .i64 1,.int .i64 9576,.int .i64 0] 39 (0,0)) (by (with_reducible repeat (first|refine blk_drewN ?_ _|refine blk_drew ?_|refine blk_alloc ?_ _));refine blk_put (cs:=#[.string (⟨#[111,105,108]⟩:ByteArray),.int .i64 1,.int .i64 9576,.int .i64 0]) ?_ 3 _ rfl;(with_reducible repeat (first|refine blk_drewN ?_ _|refine blk_drew ?_|refine blk_alloc ?_ _));refine blk_put (cs:=#[.string (⟨#[111,105,108]⟩:ByteArray),.int .i64 1,.int .i64 0,.int .i64 0]) ?_ 2 _ rfl;(with_reducible repeat (first|refine blk_drewN ?_ _|refine blk_drew ?_|refine blk_alloc ?_ _));refine blk_put (cs:=#[.string (⟨#[111,105,108]⟩:ByteArray),.int .i64 0,.int .i64 0,.int .i64 0]) ?_ 1 _ rfl;(with_reducible repeat (first|refine blk_drewN ?_ _|refine blk_drew ?_|refine blk_alloc ?_ _));refine blk_put (cs:=#[.string (⟨#[]⟩:ByteArray),.int .i64 0,.int .i64 0,.int .i64 0]) ?_ 0 _ rfl;(with_reducible repeat (first|refine blk_drewN ?_ _|refine blk_drew ?_|refine blk_alloc ?_ _));exact BK101.out) hb);have n1_:=Aside0.mk (below_step (by repeat (first|(with_reducible first|exact HB.out|apply below_alloc|apply pw_below_drewN|apply below_drew1|refine below_set ?_ GE101.out)|exact HB.out)) hb);have n2_:=Aside0.mk (hbox);have n3_:=Aside0.mk ((by rw [hg];exact (below_size (by repeat (first|(with_reducible first|exact HB.out|apply below_alloc|apply pw_below_drewN|apply below_drew1|refine below_set ?_ GE101.out)|exact HB.out))):w.heap.size ≤ gb102));have n4_:=Aside0.mk ((by rw [hg];exact (below_size (by repeat (first|(with_reducible first|exact HB.out|apply below_alloc|apply pw_below_drewN|apply below_drew1|refine below_set ?_ GE101.out)|exact HB.out))):w.heap.size ≤ gb102));have n5_:=Aside0.mk ((by rw [hg];exact Nat.ne_of_lt (blk_lt (g:=gb101) (o:=.cells #[.string (⟨#[111,105,108]⟩:ByteArray),.int .i64 1,.int .i64 9576,.int .i64 0] 39 (0,0)) (by (with_reducible repeat (first|refine blk_drewN ?_ _|refine blk_drew ?_|refine blk_alloc ?_ _));refine blk_put (cs:=#[.string (⟨#[111,105,108]⟩:ByteArray),.int .i64 1,.int .i64 9576,.int .i64 0]) ?_ 3 _ rfl;(with_reducible repeat (first|refine blk_drewN ?_ _|refine blk_drew ?_|refine blk_alloc ?_ _));refine blk_put (cs:=#[.string (⟨#[111,105,108]⟩:ByteArray),.int .i64 1,.int .i64 0,.int .i64 0]) ?_ 2 _ rfl;(with_reducible repeat (first|refine blk_drewN ?_ _|refine blk_drew ?_|refine blk_alloc ?_ _));refine blk_put (cs:=#[.string (⟨#[111,105,108]⟩:ByteArray),.int .i64 0,.int .i64 0,.int .i64 0]) ?_ 1 _ rfl;(with_reducible repeat (first|refine blk_drewN ?_ _|refine blk_drew ?_|refine blk_alloc ?_ _));refine blk_put (cs:=#[.string (⟨#[]⟩:ByteArray),.int .i64 0,.int .i64 0,.int .i64 0]) ?_ 0 _ rfl;(with_reducible repeat (first|refine blk_drewN ?_ _|refine blk_drew ?_|refine blk_alloc ?_ _));exact BK101.out)):gb101 ≠ gb102));have n6_:=Aside0.mk ((by rw [hg];exact Nat.ne_of_gt (blk_lt (g:=gb101) (o:=.cells #[.string (⟨#[111,105,108]⟩:ByteArray),.int .i64 1,.int .i64 9576,.int .i64 0] 39 (0,0)) (by (with_reducible repeat (first|refine blk_drewN ?_ _|refine blk_drew ?_|refine blk_alloc ?_ _));refine blk_put (cs:=#[.string (⟨#[111,105,108]⟩:ByteArray),.int .i64 1,.int .i64 9576,.int .i64 0]) ?_ 3 _ rfl;(with_reducible repeat (first|refine blk_drewN ?_ _|refine blk_drew ?_|refine blk_alloc ?_ _));refine blk_put (cs:=#[.string (⟨#[111,105,108]⟩:ByteArray),.int .i64 1,.int .i64 0,.int .i64 0]) ?_ 2 _ rfl;(with_reducible repeat (first|refine blk_drewN ?_ _|refine blk_drew ?_|refine blk_alloc ?_ _));refine blk_put (cs:=#[.string (⟨#[111,105,108]⟩:ByteArray),.int .i64 0,.int .i64 0,.int .i64 0]) ?_ 1 _ rfl;(with_reducible repeat (first|refine blk_drewN ?_ _|refine blk_drew ?_|refine blk_alloc ?_ _));refine blk_put (cs:=#[.string (⟨#[]⟩:ByteArray),.int .i64 0,.int .i64 0,.int .i64 0]) ?_ 0 _ rfl;(with_reducible repeat (first|refine blk_drewN ?_ _|refine blk_drew ?_|refine blk_alloc ?_ _));exact BK101.out)):gb102 ≠ gb101));clear BK101;clear HB;have BK101:=n0_;have HB:=n1_;have BK102:=n2_;have GW102:=n3_;have GE102:=n4_;have NB101_102:=n5_;have NB102_101:=n6_;clear n0_ n1_ n2_ n3_ n4_ n5_ n6_;clear hb hbox hg;have hnb14:=NB102_101.out;have hnc14:=NB101_102.out;have hcz15_0:w13.cell? ⟨gb102,0,none⟩ = some (.string (⟨#[]⟩:ByteArray)):=(blk_cell BK102.out 0).trans rfl;have hcz15_1:w13.cell? ⟨gb102,1,none⟩ = some (.int .i64 0):=(blk_cell BK102.out 1).trans rfl;have hcz15_2:w13.cell? ⟨gb102,2,none⟩ = some (.int .i64 0):=(blk_cell BK102.out 2).trans rfl;have hcz15_3:w13.cell? ⟨gb102,3,none⟩ = some (.int .i64 0):=(blk_cell BK102.out 3).trans rfl;have hfz15_0:=blk_frozen BK102.out 0;have hfz15_1:=blk_frozen BK102.out 1;have hfz15_2:=blk_frozen BK102.out 2;have hfz15_3:=blk_frozen BK102.out 3;have hcz16_0:w13.cell? ⟨gb101,0,none⟩ = some (.string (⟨#[111,105,108]⟩:ByteArray)):=(blk_cell BK101.out 0).trans rfl;have hcz16_1:w13.cell? ⟨gb101,1,none⟩ = some (.int .i64 1):=(blk_cell BK101.out 1).trans rfl;have hcz16_2:w13.cell? ⟨gb101,2,none⟩ = some (.int .i64 9576):=(blk_cell BK101.out 2).trans rfl;have hcz16_3:w13.cell? ⟨gb101,3,none⟩ = some (.int .i64 0):=(blk_cell BK101.out 3).trans rfl;have hfz16_0:=blk_frozen BK101.out 0;have hfz16_1:=blk_frozen BK101.out 1;have hfz16_2:=blk_frozen BK101.out 2;have hfz16_3:=blk_frozen BK101.out 3)|((with_reducible refine gate_dst (N:=15) rfl ?_);refine Kd.R_lit (Kd.int .i64) _ 3 ?hg (N:=15) ?hd (xs:=([(-100),0,100]:List Int)) (inner:=[.int .i64 (-100),.int .i64 0,.int .i64 100]) (ok:=fun _=>True) (okp:=fun _=>True) ?hr ?hp (fun _ hk=>hk) trivial (Below.refl _ _) (Nat.le_refl _) (by simp) ?_;(case hd=>rfl);(case hg=>rfl);(case hr=>first|(go_simp;done)|(go_simp;rfl));(case hp=>exact (Reps.one (show Kd.M (Kd.int .i64) _ _ _ (-100) [.int .i64 (-100)] from rfl) (Reps.one (show Kd.M (Kd.int .i64) _ _ _ 0 [.int .i64 0] from rfl) (Reps.one (show Kd.M (Kd.int .i64) _ _ _ 100 [.int .i64 100] from rfl) (Reps.none _ _)))));intro v104 w17 ho18 hb hg_ hnew_;clear hg_ hnew_;(first|rw [← Ny103.out] at ho18|(simp only [Int.reduceToNat] at ho18;rw [← Ny103.out] at ho18));have n0_:=Aside0.mk (Kd.R_lower ho18 (below_size (by repeat (first|(with_reducible first|exact HB.out|apply below_alloc|apply pw_below_drewN|apply below_drew1|refine below_set ?_ GE101.out|refine below_set ?_ GE102.out)|exact HB.out))));have n1_:=Aside0.mk (blk_below (g:=gb101) (o:=.cells #[.string (⟨#[111,105,108]⟩:ByteArray),.int .i64 1,.int .i64 9576,.int .i64 0] 39 (0,0)) (by (with_reducible repeat (first|refine blk_drewN ?_ _|refine blk_drew ?_|refine blk_alloc ?_ _));refine blk_far ?_ NB101_102.out _;(with_reducible repeat (first|refine blk_drewN ?_ _|refine blk_drew ?_|refine blk_alloc ?_ _));refine blk_far ?_ NB101_102.out _;(with_reducible repeat (first|refine blk_drewN ?_ _|refine blk_drew ?_|refine blk_alloc ?_ _));refine blk_far ?_ NB101_102.out _;(with_reducible repeat (first|refine blk_drewN ?_ _|refine blk_drew ?_|refine blk_alloc ?_ _));refine blk_far ?_ NB101_102.out _;(with_reducible repeat (first|refine blk_drewN ?_ _|refine blk_drew ?_|refine blk_alloc ?_ _));exact BK101.out) hb);have n2_:=Aside0.mk (blk_below (g:=gb102) (o:=.cells #[.string (⟨#[111,105,108]⟩:ByteArray),.int .i64 3,.int .i64 9576,.int .i64 50] 39 (0,0)) (by (with_reducible repeat (first|refine blk_drewN ?_ _|refine blk_drew ?_|refine blk_alloc ?_ _));refine blk_put (cs:=#[.string (⟨#[111,105,108]⟩:ByteArray),.int .i64 3,.int .i64 9576,.int .i64 0]) ?_ 3 _ rfl;(with_reducible repeat (first|refine blk_drewN ?_ _|refine blk_drew ?_|refine blk_alloc ?_ _));refine blk_put (cs:=#[.string (⟨#[111,105,108]⟩:ByteArray),.int .i64 3,.int .i64 0,.int .i64 0]) ?_ 2 _ rfl;(with_reducible repeat (first|refine blk_drewN ?_ _|refine blk_drew ?_|refine blk_alloc ?_ _));refine blk_put (cs:=#[.string (⟨#[111,105,108]⟩:ByteArray),.int .i64 0,.int .i64 0,.int .i64 0]) ?_ 1 _ rfl;(with_reducible repeat (first|refine blk_drewN ?_ _|refine blk_drew ?_|refine blk_alloc ?_ _));refine blk_put (cs:=#[.string (⟨#[]⟩:ByteArray),.int .i64 0,.int .i64 0,.int .i64 0]) ?_ 0 _ rfl;(with_reducible repeat (first|refine blk_drewN ?_ _|refine blk_drew ?_|refine blk_alloc ?_ _));exact BK102.out) hb);have n3_:=Aside0.mk (below_step (by repeat (first|(with_reducible first|exact HB.out|apply below_alloc|apply pw_below_drewN|apply below_drew1|refine below_set ?_ GE101.out|refine below_set ?_ GE102.out)|exact HB.out)) hb);clear BK101;clear BK102;clear HB;have HO105:=n0_;have BK101:=n1_;have BK102:=n2_;have HB:=n3_;clear n0_ n1_ n2_ n3_;clear hb ho18;obtain ⟨Ao19,co19,eo19⟩:=Kd.R_slice HO105.out;subst eo19;have hcz20_0:w17.cell? ⟨gb102,0,none⟩ = some (.string (⟨#[111,105,108]⟩:ByteArray)):=(blk_cell BK102.out 0).trans rfl;have hcz20_1:w17.cell? ⟨gb102,1,none⟩ = some (.int .i64 3):=(blk_cell BK102.out 1).trans rfl;have hcz20_2:w17.cell? ⟨gb102,2,none⟩ = some (.int .i64 9576):=(blk_cell BK102.out 2).trans rfl;have hcz20_3:w17.cell? ⟨gb102,3,none⟩ = some (.int .i64 50):=(blk_cell BK102.out 3).trans rfl;have hfz20_0:=blk_frozen BK102.out 0;have hfz20_1:=blk_frozen BK102.out 1;have hfz20_2:=blk_frozen BK102.out 2;have hfz20_3:=blk_frozen BK102.out 3)|((with_reducible refine gate_dst (N:=18) rfl ?_);refine Kd.R_lit (Kd.int .i64) _ 3 ?hg (N:=18) ?hd (xs:=([60,10,(-20)]:List Int)) (inner:=[.int .i64 60,.int .i64 10,.int .i64 (-20)]) (ok:=fun _=>True) (okp:=fun _=>True) ?hr ?hp (fun _ hk=>hk) trivial (Below.refl _ _) (Nat.le_refl _) (by simp) ?_;(case hd=>rfl);(case hg=>rfl);(case hr=>first|(go_simp;done)|(go_simp;rfl));(case hp=>exact (Reps.one (show Kd.M (Kd.int .i64) _ _ _ 60 [.int .i64 60] from rfl) (Reps.one (show Kd.M (Kd.int .i64) _ _ _ 10 [.int .i64 10] from rfl) (Reps.one (show Kd.M (Kd.int .i64) _ _ _ (-20) [.int .i64 (-20)] from rfl) (Reps.none _ _)))));intro v107 w21 ho22 hb hg_ hnew_;clear hg_ hnew_;(first|rw [← Ny106.out] at ho22|(simp only [Int.reduceToNat] at ho22;rw [← Ny106.out] at ho22));have n0_:=Aside0.mk (Kd.R_elder' (by (with_reducible repeat (first|apply Kd.R_alloc|apply Kd.R_drewN|apply Kd.R_drew));exact HO105.out) (Kd.R_base ho22) hb);have n1_:=Aside0.mk (Kd.R_lower (Kd.R_new' ho22 (Kd.R_lt (by (with_reducible repeat (first|apply Kd.R_alloc|apply Kd.R_drewN|apply Kd.R_drew));exact HO105.out))) (below_size (by repeat (first|(with_reducible first|exact HB.out|apply below_alloc|apply pw_below_drewN|apply below_drew1|refine below_set ?_ GE101.out|refine below_set ?_ GE102.out)|exact HB.out))));have n2_:=Aside0.mk (blk_below (g:=gb101) (o:=.cells #[.string (⟨#[111,105,108]⟩:ByteArray),.int .i64 1,.int .i64 9576,.int .i64 0] 39 (0,0)) (by (with_reducible repeat (first|refine blk_drewN ?_ _|refine blk_drew ?_|refine blk_alloc ?_ _));exact BK101.out) hb);have n3_:=Aside0.mk (blk_below (g:=gb102) (o:=.cells #[.string (⟨#[111,105,108]⟩:ByteArray),.int .i64 3,.int .i64 9576,.int .i64 50] 39 (0,0)) (by (with_reducible repeat (first|refine blk_drewN ?_ _|refine blk_drew ?_|refine blk_alloc ?_ _));exact BK102.out) hb);have n4_:=Aside0.mk (below_step (by repeat (first|(with_reducible first|exact HB.out|apply below_alloc|apply pw_below_drewN|apply below_drew1|refine below_set ?_ GE101.out|refine below_set ?_ GE102.out)|exact HB.out)) hb);clear HO105;clear BK101;clear BK102;clear HB;have HO105:=n0_;have HO108:=n1_;have BK101:=n2_;have BK102:=n3_;have HB:=n4_;clear n0_ n1_ n2_ n3_ n4_;clear hb ho22;obtain ⟨Ao23,co23,eo23⟩:=Kd.R_slice HO108.out;subst eo23)|((with_reducible refine gate_dst (N:=20) rfl ?_);refine Kd.N_lit k91 _ 91 ?hg (N':=20) ?hd (xs:=([(⟨(⟨(⟨#[111,105,108]⟩:ByteArray),1,9576,0⟩:S39),y103,1000⟩:S91),(⟨(⟨(⟨#[111,105,108]⟩:ByteArray),3,9576,50⟩:S39),y106,(-400)⟩:S91)]:List (S91))) (inner:=[.string (⟨#[111,105,108]⟩:ByteArray),.int .i64 1,.int .i64 9576,.int .i64 0,.slice Ao19 y103.length co19,.int .i64 1000,.string (⟨#[111,105,108]⟩:ByteArray),.int .i64 3,.int .i64 9576,.int .i64 50,.slice Ao23 y106.length co23,.int .i64 (-400)]) (ok:=(fun k_=>k_ ≠ gb101 ∧ k_ ≠ gb102)) (okp:=(fun k_=>k_ ≠ gb101 ∧ k_ ≠ gb102)) ?hr ?hp (fun _ hk=>hk) ((show ∀ k_,w21.heap.size ≤ k_ → (fun k_=>k_ ≠ gb101 ∧ k_ ≠ gb102) k_ from fun k_ hk=>⟨Kd.freshB (g:=gb101) (o:=.cells #[.string (⟨#[111,105,108]⟩:ByteArray),.int .i64 1,.int .i64 9576,.int .i64 0] 39 (0,0)) (by (with_reducible repeat (first|refine blk_drewN ?_ _|refine blk_drew ?_|refine blk_alloc ?_ _));exact BK101.out) k_ hk,Kd.freshB (g:=gb102) (o:=.cells #[.string (⟨#[111,105,108]⟩:ByteArray),.int .i64 3,.int .i64 9576,.int .i64 50] 39 (0,0)) (by (with_reducible repeat (first|refine blk_drewN ?_ _|refine blk_drew ?_|refine blk_alloc ?_ _));exact BK102.out) k_ hk⟩) _ (Nat.le_refl _)) (Below.refl _ _) (Nat.le_refl _) (by simp) ?_;(case hd=>rfl);(case hg=>rfl);(case hr=>first|(go_simp;done)|(go_simp;rfl));(case hp=>exact (Reps.c6 (show Kd.FK k91 _ _ (⟨(⟨(⟨#[111,105,108]⟩:ByteArray),1,9576,0⟩:S39),y103,1000⟩:S91) [.string (⟨#[111,105,108]⟩:ByteArray),.int .i64 1,.int .i64 9576,.int .i64 0,.slice Ao19 y103.length co19,.int .i64 1000] from (k91_mkF _ _ (⟨(⟨(⟨#[111,105,108]⟩:ByteArray),1,9576,0⟩:S39),y103,1000⟩:S91) (Kd.R_reads' (Kd.R_mono (ok':=(fun k_=>k_ ≠ gb101 ∧ k_ ≠ gb102)) (Kd.R_types (Kd.R_types (HO105.out) BK101.out (by decide)) BK102.out (by decide)) (fun k_ hk=>⟨hk.1.2,hk.2⟩))).2.1 (Kd.R_F (Kd.R_mono (ok':=(fun k_=>k_ ≠ gb101 ∧ k_ ≠ gb102)) (Kd.R_types (Kd.R_types (HO105.out) BK101.out (by decide)) BK102.out (by decide)) (fun k_ hk=>⟨hk.1.2,hk.2⟩))))) (Reps.c6 (show Kd.FK k91 _ _ (⟨(⟨(⟨#[111,105,108]⟩:ByteArray),3,9576,50⟩:S39),y106,(-400)⟩:S91) [.string (⟨#[111,105,108]⟩:ByteArray),.int .i64 3,.int .i64 9576,.int .i64 50,.slice Ao23 y106.length co23,.int .i64 (-400)] from (k91_mkF _ _ (⟨(⟨(⟨#[111,105,108]⟩:ByteArray),3,9576,50⟩:S39),y106,(-400)⟩:S91) (Kd.R_reads' (Kd.R_mono (ok':=(fun k_=>k_ ≠ gb101 ∧ k_ ≠ gb102)) (Kd.R_types (Kd.R_types (HO108.out) BK101.out (by decide)) BK102.out (by decide)) (fun k_ hk=>⟨hk.1.2,hk.2⟩))).2.1 (Kd.R_F (Kd.R_mono (ok':=(fun k_=>k_ ≠ gb101 ∧ k_ ≠ gb102)) (Kd.R_types (Kd.R_types (HO108.out) BK101.out (by decide)) BK102.out (by decide)) (fun k_ hk=>⟨hk.1.2,hk.2⟩))))) (Reps.none _ _))));intro v110 w24 ho25 hb hg_ hnew_;clear hg_ hnew_;(first|rw [← Ny109.out] at ho25|(simp only [Int.reduceToNat] at ho25;rw [← Ny109.out] at ho25));have n0_:=Aside0.mk (Kd.N_lower ho25 (below_size (by repeat (first|(with_reducible first|exact HB.out|apply below_alloc|apply pw_below_drewN|apply below_drew1|refine below_set ?_ GE101.out|refine below_set ?_ GE102.out)|exact HB.out))));have n1_:=Aside0.mk (blk_below (g:=gb101) (o:=.cells #[.string (⟨#[111,105,108]⟩:ByteArray),.int .i64 1,.int .i64 9576,.int .i64 0] 39 (0,0)) (by (with_reducible repeat (first|refine blk_drewN ?_ _|refine blk_drew ?_|refine blk_alloc ?_ _));exact BK101.out) hb);have n2_:=Aside0.mk (blk_below (g:=gb102) (o:=.cells #[.string (⟨#[111,105,108]⟩:ByteArray),.int .i64 3,.int .i64 9576,.int .i64 50] 39 (0,0)) (by (with_reducible repeat (first|refine blk_drewN ?_ _|refine blk_drew ?_|refine blk_alloc ?_ _));exact BK102.out) hb);have n3_:=Aside0.mk (below_step (by repeat (first|(with_reducible first|exact HB.out|apply below_alloc|apply pw_below_drewN|apply below_drew1|refine below_set ?_ GE101.out|refine below_set ?_ GE102.out)|exact HB.out)) hb);clear BK101;clear BK102;clear HB;clear HO105;clear HO108;have HO111:=n0_;have BK101:=n1_;have BK102:=n2_;have HB:=n3_;clear n0_ n1_ n2_ n3_;clear hb ho25;have hcz26_0:w24.cell? ⟨gb101,0,none⟩ = some (.string (⟨#[111,105,108]⟩:ByteArray)):=(blk_cell BK101.out 0).trans rfl;have hcz26_1:w24.cell? ⟨gb101,1,none⟩ = some (.int .i64 1):=(blk_cell BK101.out 1).trans rfl;have hcz26_2:w24.cell? ⟨gb101,2,none⟩ = some (.int .i64 9576):=(blk_cell BK101.out 2).trans rfl;have hcz26_3:w24.cell? ⟨gb101,3,none⟩ = some (.int .i64 0):=(blk_cell BK101.out 3).trans rfl;have hfz26_0:=blk_frozen BK101.out 0;have hfz26_1:=blk_frozen BK101.out 1;have hfz26_2:=blk_frozen BK101.out 2;have hfz26_3:=blk_frozen BK101.out 3;have hcz27_0:w24.cell? ⟨gb102,0,none⟩ = some (.string (⟨#[111,105,108]⟩:ByteArray)):=(blk_cell BK102.out 0).trans rfl;have hcz27_1:w24.cell? ⟨gb102,1,none⟩ = some (.int .i64 3):=(blk_cell BK102.out 1).trans rfl;have hcz27_2:w24.cell? ⟨gb102,2,none⟩ = some (.int .i64 9576):=(blk_cell BK102.out 2).trans rfl;have hcz27_3:w24.cell? ⟨gb102,3,none⟩ = some (.int .i64 50):=(blk_cell BK102.out 3).trans rfl;have hfz27_0:=blk_frozen BK102.out 0;have hfz27_1:=blk_frozen BK102.out 1;have hfz27_2:=blk_frozen BK102.out 2;have hfz27_3:=blk_frozen BK102.out 3)|((with_reducible refine gate_dst (N:=25) rfl ?_);refine Kd.R_lit k73 _ 73 ?hg (N:=25) ?hd (xs:=([(⟨(⟨(⟨#[111,105,108]⟩:ByteArray),1,9576,0⟩:S39),1,0⟩:S73),(⟨(⟨(⟨#[111,105,108]⟩:ByteArray),3,9576,50⟩:S39),2,0⟩:S73)]:List (S73))) (inner:=[.string (⟨#[111,105,108]⟩:ByteArray),.int .i64 1,.int .i64 9576,.int .i64 0,.int .i64 1,.int .i64 0,.string (⟨#[111,105,108]⟩:ByteArray),.int .i64 3,.int .i64 9576,.int .i64 50,.int .i64 2,.int .i64 0]) (ok:=fun _=>True) (okp:=fun _=>True) ?hr ?hp (fun _ hk=>hk) trivial (Below.refl _ _) (Nat.le_refl _) (by simp) ?_;(case hd=>rfl);(case hg=>rfl);(case hr=>first|(go_simp;done)|(go_simp;rfl));(case hp=>exact (Reps.c6 (show Kd.M k73 _ _ _ (⟨(⟨(⟨#[111,105,108]⟩:ByteArray),1,9576,0⟩:S39),1,0⟩:S73) [.string (⟨#[111,105,108]⟩:ByteArray),.int .i64 1,.int .i64 9576,.int .i64 0,.int .i64 1,.int .i64 0] from (k73_mkM _ _ _ (⟨(⟨(⟨#[111,105,108]⟩:ByteArray),1,9576,0⟩:S39),1,0⟩:S73) )) (Reps.c6 (show Kd.M k73 _ _ _ (⟨(⟨(⟨#[111,105,108]⟩:ByteArray),3,9576,50⟩:S39),2,0⟩:S73) [.string (⟨#[111,105,108]⟩:ByteArray),.int .i64 3,.int .i64 9576,.int .i64 50,.int .i64 2,.int .i64 0] from (k73_mkM _ _ _ (⟨(⟨(⟨#[111,105,108]⟩:ByteArray),3,9576,50⟩:S39),2,0⟩:S73) )) (Reps.none _ _))));intro v113 w28 ho29 hb hg_ hnew_;clear hg_ hnew_;(first|rw [← Ny112.out] at ho29|(simp only [Int.reduceToNat] at ho29;rw [← Ny112.out] at ho29));have n0_:=Aside0.mk (Kd.N_elder' (by (with_reducible repeat (first|apply Kd.N_alloc|apply Kd.N_drewN|apply Kd.N_drew));exact HO111.out) (Kd.R_base ho29) hb);have n1_:=Aside0.mk (Kd.R_lower ho29 (below_size (by repeat (first|(with_reducible first|exact HB.out|apply below_alloc|apply pw_below_drewN|apply below_drew1|refine below_set ?_ GE101.out|refine below_set ?_ GE102.out)|exact HB.out))));have n2_:=Aside0.mk (blk_below (g:=gb101) (o:=.cells #[.string (⟨#[111,105,108]⟩:ByteArray),.int .i64 1,.int .i64 9576,.int .i64 0] 39 (0,0)) (by (with_reducible repeat (first|refine blk_drewN ?_ _|refine blk_drew ?_|refine blk_alloc ?_ _));exact BK101.out) hb);have n3_:=Aside0.mk (blk_below (g:=gb102) (o:=.cells #[.string (⟨#[111,105,108]⟩:ByteArray),.int .i64 3,.int .i64 9576,.int .i64 50] 39 (0,0)) (by (with_reducible repeat (first|refine blk_drewN ?_ _|refine blk_drew ?_|refine blk_alloc ?_ _));exact BK102.out) hb);have n4_:=Aside0.mk (below_step (by repeat (first|(with_reducible first|exact HB.out|apply below_alloc|apply pw_below_drewN|apply below_drew1|refine below_set ?_ GE101.out|refine below_set ?_ GE102.out)|exact HB.out)) hb);clear HO111;clear BK101;clear BK102;clear HB;have HO111:=n0_;have HO114:=n1_;have BK101:=n2_;have BK102:=n3_;have HB:=n4_;clear n0_ n1_ n2_ n3_ n4_;clear hb ho29;obtain ⟨Ao30,co30,eo30⟩:=Kd.R_slice HO114.out;subst eo30;obtain ⟨Ao31,co31,eo31⟩:=Kd.N_slice HO111.out;subst eo31)|((with_reducible refine gate_callee (f:=27) rfl ?_);refine goesL_ (some 29) rfl rfl Try.func27 (by kernel_rfl) rfl #[.slice Ao30 y112.length co30,.slice Ao31 y109.length co31] rfl (by (try simp only [List.map_toArray,List.map_cons,List.map_nil]);first|done|rfl|(simp only [List.length_drop,List.length_take];rfl)) ?_;(with_reducible refine (scan_Losses.calls k _ _ y112 _ _ y109 t115 t116 _ ?side1 ?side2 ?side3 ?side4 A1.out).mono ?_);(case side1=>repeat (first|exact (Kd.R_reads' HO114.out).2.2|(with_reducible refine Kd.C_alloc ?_ _)|(with_reducible refine Kd.C_drewN ?_ _)|(with_reducible refine Kd.C_drew ?_)));(case side2=>exact (Kd.R_reads' HO114.out).2.1);(case side3=>repeat (first|exact (Kd.N_reads' HO111.out).2.2|(with_reducible refine Kd.C_alloc ?_ _)|(with_reducible refine Kd.C_drewN ?_ _)|(with_reducible refine Kd.C_drew ?_)));(case side4=>exact (Kd.N_reads' HO111.out).2.1);rintro e w32 ⟨v117,rfl,ho0,hb⟩;refine ⟨_,rfl,?_⟩;have n0_:=Aside0.mk (Kd.N_elder' (by (with_reducible repeat (first|apply Kd.N_alloc|apply Kd.N_drewN|apply Kd.N_drew));exact HO111.out) (Kd.R_base ho0) hb);have n1_:=Aside0.mk (Kd.R_below (by (with_reducible repeat (first|apply Kd.R_alloc|apply Kd.R_drewN|apply Kd.R_drew));exact HO114.out) hb);have n2_:=Aside0.mk (Kd.R_lower ho0 (below_size (by repeat (first|(with_reducible first|exact HB.out|apply below_alloc|apply pw_below_drewN|apply below_drew1|refine below_set ?_ GE101.out|refine below_set ?_ GE102.out)|exact HB.out))));have n3_:=Aside0.mk (blk_below (g:=gb101) (o:=.cells #[.string (⟨#[111,105,108]⟩:ByteArray),.int .i64 1,.int .i64 9576,.int .i64 0] 39 (0,0)) (by (with_reducible repeat (first|refine blk_drewN ?_ _|refine blk_drew ?_|refine blk_alloc ?_ _));exact BK101.out) hb);have n4_:=Aside0.mk (blk_below (g:=gb102) (o:=.cells #[.string (⟨#[111,105,108]⟩:ByteArray),.int .i64 3,.int .i64 9576,.int .i64 50] 39 (0,0)) (by (with_reducible repeat (first|refine blk_drewN ?_ _|refine blk_drew ?_|refine blk_alloc ?_ _));exact BK102.out) hb);have n5_:=Aside0.mk (below_step (by repeat (first|(with_reducible first|exact HB.out|apply below_alloc|apply pw_below_drewN|apply below_drew1|refine below_set ?_ GE101.out|refine below_set ?_ GE102.out)|exact HB.out)) hb);clear HO111;clear HO114;clear BK101;clear BK102;clear HB;have HO111:=n0_;have HO114:=n1_;have HO118:=n2_;have BK101:=n3_;have BK102:=n4_;have HB:=n5_;clear n0_ n1_ n2_ n3_ n4_ n5_;(try clear hb);(try clear hb2);(try clear hk);(try clear hi);(try clear ho0))|((with_reducible refine gate_callee (f:=29) rfl ?_);refine goesL_ (some 35) rfl rfl Try.func29 (by kernel_rfl) rfl #[.slice Ao30 y112.length co30,.slice Ao31 y109.length co31] rfl (by (try simp only [List.map_toArray,List.map_cons,List.map_nil]);first|done|rfl|(simp only [List.length_drop,List.length_take];rfl)) ?_;(with_reducible refine (scan_Risk.calls k _ _ y112 _ _ y109 t119 t120 t121 _ ?side1 ?side2 ?side3 ?side4 A2.out).mono ?_);(case side1=>repeat (first|exact (Kd.R_reads' HO114.out).2.2|(with_reducible refine Kd.C_alloc ?_ _)|(with_reducible refine Kd.C_drewN ?_ _)|(with_reducible refine Kd.C_drew ?_)));(case side2=>exact (Kd.R_reads' HO114.out).2.1);(case side3=>repeat (first|exact (Kd.N_reads' HO111.out).2.2|(with_reducible refine Kd.C_alloc ?_ _)|(with_reducible refine Kd.C_drewN ?_ _)|(with_reducible refine Kd.C_drew ?_)));(case side4=>exact (Kd.N_reads' HO111.out).2.1);rintro e w33 ⟨rfl,hb⟩;refine ⟨_,rfl,?_⟩;have n0_:=Aside0.mk (Kd.N_below (by (with_reducible repeat (first|apply Kd.N_alloc|apply Kd.N_drewN|apply Kd.N_drew));exact HO111.out) hb);have n1_:=Aside0.mk (Kd.R_below (by (with_reducible repeat (first|apply Kd.R_alloc|apply Kd.R_drewN|apply Kd.R_drew));exact HO114.out) hb);have n2_:=Aside0.mk (Kd.R_below (by (with_reducible repeat (first|apply Kd.R_alloc|apply Kd.R_drewN|apply Kd.R_drew));exact HO118.out) hb);have n3_:=Aside0.mk (blk_below (g:=gb101) (o:=.cells #[.string (⟨#[111,105,108]⟩:ByteArray),.int .i64 1,.int .i64 9576,.int .i64 0] 39 (0,0)) (by (with_reducible repeat (first|refine blk_drewN ?_ _|refine blk_drew ?_|refine blk_alloc ?_ _));exact BK101.out) hb);have n4_:=Aside0.mk (blk_below (g:=gb102) (o:=.cells #[.string (⟨#[111,105,108]⟩:ByteArray),.int .i64 3,.int .i64 9576,.int .i64 50] 39 (0,0)) (by (with_reducible repeat (first|refine blk_drewN ?_ _|refine blk_drew ?_|refine blk_alloc ?_ _));exact BK102.out) hb);have n5_:=Aside0.mk (below_step (by repeat (first|(with_reducible first|exact HB.out|apply below_alloc|apply pw_below_drewN|apply below_drew1|refine below_set ?_ GE101.out|refine below_set ?_ GE102.out)|exact HB.out)) hb);clear HO111;clear HO114;clear HO118;clear BK101;clear BK102;clear HB;have HO111:=n0_;have HO114:=n1_;have HO118:=n2_;have BK101:=n3_;have BK102:=n4_;have HB:=n5_;clear n0_ n1_ n2_ n3_ n4_ n5_;(try clear hb);(try clear hb2);(try clear hk);(try clear hi))|((with_reducible refine gate_callee (f:=36) rfl ?_);refine goesL_ (some 42) rfl rfl Try.func36 (by kernel_rfl) rfl #[.slice Ao30 y112.length co30,.slice Ao31 y109.length co31] rfl (by (try simp only [List.map_toArray,List.map_cons,List.map_nil]);first|done|rfl|(simp only [List.length_drop,List.length_take];rfl)) ?_;(with_reducible refine (scan_Delta.calls k _ _ y112 _ _ y109 t122 t123 _ ?side1 ?side2 ?side3 ?side4 A3.out).mono ?_);(case side1=>repeat (first|exact (Kd.R_reads' HO114.out).2.2|(with_reducible refine Kd.C_alloc ?_ _)|(with_reducible refine Kd.C_drewN ?_ _)|(with_reducible refine Kd.C_drew ?_)));(case side2=>exact (Kd.R_reads' HO114.out).2.1);(case side3=>repeat (first|exact (Kd.N_reads' HO111.out).2.2|(with_reducible refine Kd.C_alloc ?_ _)|(with_reducible refine Kd.C_drewN ?_ _)|(with_reducible refine Kd.C_drew ?_)));(case side4=>exact (Kd.N_reads' HO111.out).2.1);rintro e w34 ⟨rfl,hb⟩;refine ⟨_,rfl,?_⟩;have n0_:=Aside0.mk (Kd.N_below (by (with_reducible repeat (first|apply Kd.N_alloc|apply Kd.N_drewN|apply Kd.N_drew));exact HO111.out) hb);have n1_:=Aside0.mk (Kd.R_below (by (with_reducible repeat (first|apply Kd.R_alloc|apply Kd.R_drewN|apply Kd.R_drew));exact HO114.out) hb);have n2_:=Aside0.mk (Kd.R_below (by (with_reducible repeat (first|apply Kd.R_alloc|apply Kd.R_drewN|apply Kd.R_drew));exact HO118.out) hb);have n3_:=Aside0.mk (blk_below (g:=gb101) (o:=.cells #[.string (⟨#[111,105,108]⟩:ByteArray),.int .i64 1,.int .i64 9576,.int .i64 0] 39 (0,0)) (by (with_reducible repeat (first|refine blk_drewN ?_ _|refine blk_drew ?_|refine blk_alloc ?_ _));exact BK101.out) hb);have n4_:=Aside0.mk (blk_below (g:=gb102) (o:=.cells #[.string (⟨#[111,105,108]⟩:ByteArray),.int .i64 3,.int .i64 9576,.int .i64 50] 39 (0,0)) (by (with_reducible repeat (first|refine blk_drewN ?_ _|refine blk_drew ?_|refine blk_alloc ?_ _));exact BK102.out) hb);have n5_:=Aside0.mk (below_step (by repeat (first|(with_reducible first|exact HB.out|apply below_alloc|apply pw_below_drewN|apply below_drew1|refine below_set ?_ GE101.out|refine below_set ?_ GE102.out)|exact HB.out)) hb);clear HO111;clear HO114;clear HO118;clear BK101;clear BK102;clear HB;have HO111:=n0_;have HO114:=n1_;have HO118:=n2_;have BK101:=n3_;have BK102:=n4_;have HB:=n5_;clear n0_ n1_ n2_ n3_ n4_ n5_;(try clear hb);(try clear hb2);(try clear hk);(try clear hi))|((with_reducible refine gate_dst (N:=46) rfl ?_);refine Kd.R_lit (Kd.int .i64) _ 3 ?hg (N:=46) ?hd (xs:=([20,20,60]:List Int)) (inner:=[.int .i64 20,.int .i64 20,.int .i64 60]) (ok:=fun _=>True) (okp:=fun _=>True) ?hr ?hp (fun _ hk=>hk) trivial (Below.refl _ _) (Nat.le_refl _) (by simp) ?_;(case hd=>rfl);(case hg=>rfl);(case hr=>first|(go_simp;done)|(go_simp;rfl));(case hp=>exact (Reps.one (show Kd.M (Kd.int .i64) _ _ _ 20 [.int .i64 20] from rfl) (Reps.one (show Kd.M (Kd.int .i64) _ _ _ 20 [.int .i64 20] from rfl) (Reps.one (show Kd.M (Kd.int .i64) _ _ _ 60 [.int .i64 60] from rfl) (Reps.none _ _)))));intro v125 w35 ho36 hb hg_ hnew_;clear hg_ hnew_;(first|rw [← Ny124.out] at ho36|(simp only [Int.reduceToNat] at ho36;rw [← Ny124.out] at ho36));have n0_:=Aside0.mk (Kd.N_elder' (by (with_reducible repeat (first|apply Kd.N_alloc|apply Kd.N_drewN|apply Kd.N_drew));exact HO111.out) (Kd.R_base ho36) hb);have n1_:=Aside0.mk (Kd.R_below (by (with_reducible repeat (first|apply Kd.R_alloc|apply Kd.R_drewN|apply Kd.R_drew));exact HO114.out) hb);have n2_:=Aside0.mk (Kd.R_elder' (by (with_reducible repeat (first|apply Kd.R_alloc|apply Kd.R_drewN|apply Kd.R_drew));exact HO118.out) (Kd.R_base ho36) hb);have n3_:=Aside0.mk (Kd.R_lower (Kd.R_new' ho36 (Kd.R_lt (by (with_reducible repeat (first|apply Kd.R_alloc|apply Kd.R_drewN|apply Kd.R_drew));exact HO118.out))) (below_size (by repeat (first|(with_reducible first|exact HB.out|apply below_alloc|apply pw_below_drewN|apply below_drew1|refine below_set ?_ GE101.out|refine below_set ?_ GE102.out)|exact HB.out))));have n4_:=Aside0.mk (blk_below (g:=gb101) (o:=.cells #[.string (⟨#[111,105,108]⟩:ByteArray),.int .i64 1,.int .i64 9576,.int .i64 0] 39 (0,0)) (by (with_reducible repeat (first|refine blk_drewN ?_ _|refine blk_drew ?_|refine blk_alloc ?_ _));exact BK101.out) hb);have n5_:=Aside0.mk (blk_below (g:=gb102) (o:=.cells #[.string (⟨#[111,105,108]⟩:ByteArray),.int .i64 3,.int .i64 9576,.int .i64 50] 39 (0,0)) (by (with_reducible repeat (first|refine blk_drewN ?_ _|refine blk_drew ?_|refine blk_alloc ?_ _));exact BK102.out) hb);have n6_:=Aside0.mk (below_step (by repeat (first|(with_reducible first|exact HB.out|apply below_alloc|apply pw_below_drewN|apply below_drew1|refine below_set ?_ GE101.out|refine below_set ?_ GE102.out)|exact HB.out)) hb);clear HO111;clear HO114;clear HO118;clear BK101;clear BK102;clear HB;have HO111:=n0_;have HO114:=n1_;have HO118:=n2_;have HO126:=n3_;have BK101:=n4_;have BK102:=n5_;have HB:=n6_;clear n0_ n1_ n2_ n3_ n4_ n5_ n6_;clear hb ho36;obtain ⟨Ao37,co37,eo37⟩:=Kd.R_slice HO118.out;subst eo37;obtain ⟨Ao38,co38,eo38⟩:=Kd.R_slice HO126.out;subst eo38)|((with_reducible refine gate_callee (f:=33) rfl ?_);refine goesL_ (some 47) rfl rfl Try.func33 (by kernel_rfl) rfl #[.slice Ao37 t115.length co37,.slice Ao38 y124.length co38] rfl (by (try simp only [List.map_toArray,List.map_cons,List.map_nil]);first|done|rfl|(simp only [List.length_drop,List.length_take];rfl)) ?_;(with_reducible refine (contangoref23_Same.calls k _ _ t115 _ _ y124 true _ ?side1 ?side2 ?side3 ?side4 A4.out).mono ?_);(case side1=>repeat (first|exact (Kd.R_reads' HO118.out).2.2|(with_reducible refine Kd.C_alloc ?_ _)|(with_reducible refine Kd.C_drewN ?_ _)|(with_reducible refine Kd.C_drew ?_)));(case side2=>exact (Kd.R_reads' HO118.out).2.1);(case side3=>repeat (first|exact (Kd.R_reads' HO126.out).2.2|(with_reducible refine Kd.C_alloc ?_ _)|(with_reducible refine Kd.C_drewN ?_ _)|(with_reducible refine Kd.C_drew ?_)));(case side4=>exact (Kd.R_reads' HO126.out).2.1);rintro e w' ⟨rfl,⟨nd,rfl⟩⟩;refine ⟨_,rfl,?_⟩))
       go_ret
       exact ⟨by first|rfl|(simp [errW_none,errW_some] <;> rfl)|(simp [*,errW_none,errW_some] <;> rfl),by repeat (first|(with_reducible first|exact HB.out|apply below_alloc|apply pw_below_drewN|apply below_drew1|refine below_set ?_ GE101.out|refine below_set ?_ GE102.out)|exact HB.out)⟩
      ·rw [if_neg c10] at H
       exact absurd H (by simp)
     ·rw [if_neg c9] at H
      exact absurd H (by simp)
    ·rw [if_neg c8] at H
     exact absurd H (by simp)
   ·rw [if_neg c7] at H
    exact absurd H (by simp)
  ·rw [if_neg c6] at H
   exact absurd H (by simp)
 ·replace c5:=Bool.eq_false_iff.mpr c5
  subst c5
  have H1:(none) = some r:=by rw [if_neg (show ¬ (false = true) by decide)] at H;exact H
  clear H
  have H:=H1
  clear H1
  exact absurd H (by simp)
end Go.Proofs.Ytbgeceiddcokmaa.X
end
section
namespace Go.Proofs.Ytbgeceiddcokmaa.X
open Go.RowKit Go.Proofs.YtbgeceiddcokmaaW.PrintWords Go.Proofs.YtbgeceiddcokmaaW.PrintLast Go.Proofs.YtbgeceiddcokmaaW.PrintMore
attribute [local go_sem] max2_int min2_int max_two min_two max_three min_three max_four min_four
set_option linter.unusedVariables false
set_option linter.unusedSimpArgs false
def cmp_Less_int.f (a0:Int) (a1:Int):Option (Bool):=(cmp_isNaN_int.f a0).bind fun t101=>(if t101 = true then ((cmp_isNaN_int.f a1).bind fun t102=>(if t102 = true then (some (decide (a0 < a1))) else (some true))) else (some (decide (a0 < a1))))
set_option maxHeartbeats 8000000 in
set_option maxRecDepth 100000 in
theorem cmp_Less_int.calls (a0:Int) (a1:Int) (r:Bool) (w:World) (h:cmp_Less_int.f a0 a1 = some r) :
  Calls Try.prog 88 #[.int .i64 a0,.int .i64 a1] w fun e w'=>e = .returned (.bool r) ∧ Drawn0 w w':=by
 have H:((cmp_isNaN_int.f a0).bind fun t101=>(if t101 = true then ((cmp_isNaN_int.f a1).bind fun t102=>(if t102 = true then (some (decide (a0 < a1))) else (some true))) else (some (decide (a0 < a1))))) = some r:=h
 clear h
 replace H:=Option.bind_eq_some_iff.mp H
 obtain ⟨t101,A30,H⟩:=H
 replace H:(if t101 = true then ((cmp_isNaN_int.f a1).bind fun t102=>(if t102 = true then (some (decide (a0 < a1))) else (some true))) else (some (decide (a0 < a1)))) = some r:=H
 have A3:=Aside0.mk A30
 clear A30
 by_cases c4:t101 = true
 ·subst c4
  have H1:((cmp_isNaN_int.f a1).bind fun t102=>(if t102 = true then (some (decide (a0 < a1))) else (some true))) = some r:=by rw [if_pos rfl] at H;exact H
  clear H
  have H:=H1
  clear H1
  replace H:=Option.bind_eq_some_iff.mp H
  obtain ⟨t102,A50,H⟩:=H
  replace H:(if t102 = true then (some (decide (a0 < a1))) else (some true)) = some r:=H
  have A5:=Aside0.mk A50
  clear A50
  by_cases c6:t102 = true
  ·subst c6
   have H1:(some (decide (a0 < a1))) = some r:=by rw [if_pos rfl] at H;exact H
   clear H
   have H:=H1
   clear H1
   obtain rfl:=Option.some.inj H
   go_enter Try.func88,Try.ntmps88
   go_wp2_with (first|((with_reducible refine gate_callee (f:=102) rfl ?_);refine goesL_ (some 6) rfl rfl Try.func102 (by kernel_rfl) rfl #[.int .i64 a0] rfl (by (try simp only [List.map_toArray,List.map_cons,List.map_nil]);first|done|rfl|(simp only [List.length_drop,List.length_take];rfl)) ?_;(with_reducible refine (cmp_isNaN_int.calls a0 true _ A3.out).mono ?_);rintro e w' ⟨rfl,⟨nd,rfl⟩⟩;refine ⟨_,rfl,?_⟩)|(go_at_call 102;(with_reducible refine (cmp_isNaN_int.calls a1 true _ A5.out).mono ?_);rintro e w' ⟨rfl,⟨nd,rfl⟩⟩))
   go_ret
   exact ⟨by first|rfl|(simp;done)|(simp [*];done),by repeat (first|exact Drawn0.refl _|apply Drawn0.step)⟩
  ·replace c6:=Bool.eq_false_iff.mpr c6
   subst c6
   have H1:(some true) = some r:=by rw [if_neg (show ¬ (false = true) by decide)] at H;exact H
   clear H
   have H:=H1
   clear H1
   obtain rfl:=Option.some.inj H
   go_enter Try.func88,Try.ntmps88
   go_wp2_with (first|((with_reducible refine gate_callee (f:=102) rfl ?_);refine goesL_ (some 6) rfl rfl Try.func102 (by kernel_rfl) rfl #[.int .i64 a0] rfl (by (try simp only [List.map_toArray,List.map_cons,List.map_nil]);first|done|rfl|(simp only [List.length_drop,List.length_take];rfl)) ?_;(with_reducible refine (cmp_isNaN_int.calls a0 true _ A3.out).mono ?_);rintro e w' ⟨rfl,⟨nd,rfl⟩⟩;refine ⟨_,rfl,?_⟩)|(go_at_call 102;(with_reducible refine (cmp_isNaN_int.calls a1 false _ A5.out).mono ?_);rintro e w' ⟨rfl,⟨nd,rfl⟩⟩))
   go_ret
   exact ⟨by first|rfl|(simp;done)|(simp [*];done),by repeat (first|exact Drawn0.refl _|apply Drawn0.step)⟩
 ·replace c4:=Bool.eq_false_iff.mpr c4
  subst c4
  have H1:(some (decide (a0 < a1))) = some r:=by rw [if_neg (show ¬ (false = true) by decide)] at H;exact H
  clear H
  have H:=H1
  clear H1
  obtain rfl:=Option.some.inj H
  go_enter Try.func88,Try.ntmps88
  go_wp2_with (first|((with_reducible refine gate_callee (f:=102) rfl ?_);refine goesL_ (some 6) rfl rfl Try.func102 (by kernel_rfl) rfl #[.int .i64 a0] rfl (by (try simp only [List.map_toArray,List.map_cons,List.map_nil]);first|done|rfl|(simp only [List.length_drop,List.length_take];rfl)) ?_;(with_reducible refine (cmp_isNaN_int.calls a0 false _ A3.out).mono ?_);rintro e w' ⟨rfl,⟨nd,rfl⟩⟩;refine ⟨_,rfl,?_⟩))
  go_ret
  exact ⟨by first|rfl|(simp;done)|(simp [*];done),by repeat (first|exact Drawn0.refl _|apply Drawn0.step)⟩
end Go.Proofs.Ytbgeceiddcokmaa.X
end
section
namespace Go.Proofs.Ytbgeceiddcokmaa.X
open Go.RowKit Go.Proofs.YtbgeceiddcokmaaW.PrintWords Go.Proofs.YtbgeceiddcokmaaW.PrintLast Go.Proofs.YtbgeceiddcokmaaW.PrintMore
attribute [local go_sem] max2_int min2_int max_two min_two max_three min_three max_four min_four
set_option linter.unusedVariables false
set_option linter.unusedSimpArgs false
def slices_isNaN_int.f (a0:Int):Option (Bool):=some (a0 != a0)
set_option maxHeartbeats 8000000 in
set_option maxRecDepth 100000 in
theorem slices_isNaN_int.calls (a0:Int) (r:Bool) (w:World) (h:slices_isNaN_int.f a0 = some r) :
  Calls Try.prog 89 #[.int .i64 a0] w fun e w'=>e = .returned (.bool r) ∧ Drawn0 w w':=by
 have H:(some (a0 != a0)) = some r:=h
 clear h
 obtain rfl:=Option.some.inj H
 go_enter Try.func89,Try.ntmps89
 go_wp2
 go_ret
 exact ⟨by first|rfl|(simp;done)|(simp [*];done),by repeat (first|exact Drawn0.refl _|apply Drawn0.step)⟩
end Go.Proofs.Ytbgeceiddcokmaa.X
end
section
namespace Go.Proofs.Ytbgeceiddcokmaa.X
open Go.RowKit Go.Proofs.YtbgeceiddcokmaaW.PrintWords Go.Proofs.YtbgeceiddcokmaaW.PrintLast Go.Proofs.YtbgeceiddcokmaaW.PrintMore
attribute [local go_sem] max2_int min2_int max_two min_two max_three min_three max_four min_four
set_option linter.unusedVariables false
set_option linter.unusedSimpArgs false
def slices_BinarySearch_int_int.l0:Nat → List Int → Int → Int → Int → Int → Option (Int × Bool)
 | 0,_,_,_,_,_=>none
 | k + 1,x0,x1,x6,x7,x8=>if x7 < x8 then (if 0 ≤ (wrap64 ((IntKind.u64.wrap (wrap64 (x7 + x8))) / 2)) then (if (wrap64 ((IntKind.u64.wrap (wrap64 (x7 + x8))) / 2)) < (x0.length:Int) then ((cmp_Less_int.f (rd x0 (wrap64 ((IntKind.u64.wrap (wrap64 (x7 + x8))) / 2))) x1).bind fun t102=>(if t102 = true then (slices_BinarySearch_int_int.l0 k x0 x1 x6 (wrap64 ((wrap64 ((IntKind.u64.wrap (wrap64 (x7 + x8))) / 2)) + 1)) x8) else (slices_BinarySearch_int_int.l0 k x0 x1 x6 x7 (wrap64 ((IntKind.u64.wrap (wrap64 (x7 + x8))) / 2))))) else (none)) else (none)) else (if x7 < x6 then (if 0 ≤ x7 then (if x7 < (x0.length:Int) then (if (rd x0 x7) = x1 then (some (x7,true)) else ((slices_isNaN_int.f (rd x0 x7)).bind fun t105=>(if t105 = true then ((slices_isNaN_int.f x1).bind fun t106=>(some (x7,t106))) else (some (x7,false))))) else (none)) else (none)) else (some (x7,false)))
def slices_BinarySearch_int_int.f (k:Nat) (l0:List Int) (a1:Int):Option (Int × Bool):=slices_BinarySearch_int_int.l0 k l0 a1 (l0.length:Int) 0 (l0.length:Int)
set_option maxHeartbeats 8000000 in
set_option maxRecDepth 100000 in
theorem slices_BinarySearch_int_int.calls (k:Nat) (A0:Option Addr) (c0:Nat) (l0:List Int) (a1:Int) (r1:Int) (r2:Bool) (w:World) (hr0:Kd.C (Kd.int .i64) w A0 l0.length l0) (hc0:l0.length ≤ c0) (h:slices_BinarySearch_int_int.f k l0 a1 = some (r1,r2)) :
  Calls Try.prog 67 #[.slice A0 l0.length c0,.int .i64 a1] w fun e w'=>e = .returned (.tuple #[.int .i64 r1,.bool r2]) ∧ Drawn0 w w':=by
 have HR0:=Aside0.mk hr0
 have HC0:=Aside0.mk hc0
 clear hr0 hc0
 have H:(slices_BinarySearch_int_int.l0 k l0 a1 (l0.length:Int) 0 (l0.length:Int)) = some (r1,r2):=h
 clear h
 have H':=Aside0.mk H
 clear H
 go_enter Try.func67,Try.ntmps67
 go_wp2
 go_loopg [7,8] k (fun kq v7 v8 w'=>∃ (x7_1:Int) (x8_1:Int),v7 = .int .i64 x7_1 ∧ v8 = .int .i64 x8_1 ∧ Aside0 (slices_BinarySearch_int_int.l0 kq l0 a1 (l0.length:Int) x7_1 x8_1 = some (r1,r2)) ∧ Aside0 (kq ≤ k) ∧ Drawn0 w w')
 case atStart=>exact ⟨(0),((l0.length:Int)),(by first|rfl|(simp;done)|(simp [*];done)),(by first|rfl|(simp;done)|(simp [*];done)),H',⟨Nat.le_refl _⟩,by repeat (first|exact Drawn0.refl _|apply Drawn0.step)⟩
 case round =>
  clear H'
  try clear p2
  obtain ⟨x7_1,x8_1,rfl,rfl,HA,HK1,⟨m1,rfl⟩⟩:=hrel
  cases gk with
  | zero=>exact absurd HA.out (by simp [slices_BinarySearch_int_int.l0])
  | succ k1 =>
   have H:=HA.out
   clear HA
   simp only [slices_BinarySearch_int_int.l0] at H
   by_cases c3:x7_1 < x8_1
   ·rw [if_pos c3] at H
    have c3b0:decide (x7_1 < x8_1) = true:=decide_eq_true c3
    clear c3
    obtain ⟨ji4,hji4⟩:∃ j_:Int,(wrap64 ((IntKind.u64.wrap (wrap64 (x7_1 + x8_1))) / 2)) = j_:=⟨_,rfl⟩
    replace H:(if 0 ≤ (ji4) then (if (ji4) < (l0.length:Int) then ((cmp_Less_int.f (rd l0 (ji4)) a1).bind fun t102=>(if t102 = true then (slices_BinarySearch_int_int.l0 k1 l0 a1 (l0.length:Int) (wrap64 ((ji4) + 1)) x8_1) else (slices_BinarySearch_int_int.l0 k1 l0 a1 (l0.length:Int) x7_1 ji4))) else (none)) else (none)) = some (r1,r2):=by first|(rw [hji4] at H;exact H)|(simp only [hji4] at H ⊢;exact H)
    have hji4w:(IntKind.i64.wrap ((IntKind.u64.wrap (wrap64 (x7_1 + x8_1))) / 2)) = ji4:=(i64_w _).trans hji4
    by_cases c5:0 ≤ (ji4)
    ·rw [if_pos c5] at H
     have c5b0:decide (0 ≤ (ji4)) = true:=decide_eq_true c5
     clear c5
     by_cases c6:(ji4) < (l0.length:Int)
     ·rw [if_pos c6] at H
      have c6b0:decide ((ji4) < (l0.length:Int)) = true:=decide_eq_true c6
      clear c6
      replace H:=Option.bind_eq_some_iff.mp H
      obtain ⟨t102,A70,H⟩:=H
      replace H:(if t102 = true then (slices_BinarySearch_int_int.l0 k1 l0 a1 (l0.length:Int) (wrap64 ((ji4) + 1)) x8_1) else (slices_BinarySearch_int_int.l0 k1 l0 a1 (l0.length:Int) x7_1 ji4)) = some (r1,r2):=H
      have A7:=Aside0.mk A70
      clear A70
      by_cases c8:t102 = true
      ·subst c8
       have H1:(slices_BinarySearch_int_int.l0 k1 l0 a1 (l0.length:Int) (wrap64 ((ji4) + 1)) x8_1) = some (r1,r2):=by rw [if_pos rfl] at H;exact H
       clear H
       have H:=H1
       clear H1
       have H':=Aside0.mk H
       clear H
       have p101:0 ≤ ((ji4):Int):=of_decide_eq_true (by first|(with_reducible assumption)|assumption)
       have q101:(ji4) < (l0.length:Int):=of_decide_eq_true (by first|(with_reducible assumption)|assumption)
       obtain ⟨ad101,e101,hx101_0⟩:=Kd.at_int HR0.out (ji4) p101 q101
       cases e101
       replace p101:=eq_true p101
       replace q101:=eq_true q101
       go_wp2_with (first|((with_reducible refine gate_callee (f:=88) rfl ?_);refine goesL_ (some 27) rfl rfl Try.func88 (by kernel_rfl) rfl #[.int .i64 (rd l0 (ji4)),.int .i64 a1] rfl (by (try simp only [List.map_toArray,List.map_cons,List.map_nil]);first|done|(simp only [hji4];rfl)|rfl|(simp only [List.length_drop,List.length_take];rfl)) ?_;(with_reducible refine (cmp_Less_int.calls (rd l0 (ji4)) a1 true _ A7.out).mono ?_);rintro e w' ⟨rfl,⟨nd,rfl⟩⟩;refine ⟨_,rfl,?_⟩))
       go_roundg k1
       case measure=>have:=HK1.out;omega
       case rel=>exact ⟨(wrap64 ((ji4) + 1)),(x8_1),(by first|rfl|(simp;done)|(simp only [← hji4] <;> (first|rfl|simp))|(simp [*];done)),(by first|rfl|(simp;done)|(simp [*];done)),H',⟨by have:=HK1.out;omega⟩,by repeat (first|exact Drawn0.refl _|apply Drawn0.step)⟩
      ·replace c8:=Bool.eq_false_iff.mpr c8
       subst c8
       have H1:(slices_BinarySearch_int_int.l0 k1 l0 a1 (l0.length:Int) x7_1 ji4) = some (r1,r2):=by rw [if_neg (show ¬ (false = true) by decide)] at H;exact H
       clear H
       have H:=H1
       clear H1
       have H':=Aside0.mk H
       clear H
       have p101:0 ≤ ((ji4):Int):=of_decide_eq_true (by first|(with_reducible assumption)|assumption)
       have q101:(ji4) < (l0.length:Int):=of_decide_eq_true (by first|(with_reducible assumption)|assumption)
       obtain ⟨ad101,e101,hx101_0⟩:=Kd.at_int HR0.out (ji4) p101 q101
       cases e101
       replace p101:=eq_true p101
       replace q101:=eq_true q101
       go_wp2_with (first|((with_reducible refine gate_callee (f:=88) rfl ?_);refine goesL_ (some 27) rfl rfl Try.func88 (by kernel_rfl) rfl #[.int .i64 (rd l0 (ji4)),.int .i64 a1] rfl (by (try simp only [List.map_toArray,List.map_cons,List.map_nil]);first|done|(simp only [hji4];rfl)|rfl|(simp only [List.length_drop,List.length_take];rfl)) ?_;(with_reducible refine (cmp_Less_int.calls (rd l0 (ji4)) a1 false _ A7.out).mono ?_);rintro e w' ⟨rfl,⟨nd,rfl⟩⟩;refine ⟨_,rfl,?_⟩))
       go_roundg k1
       case measure=>have:=HK1.out;omega
       case rel=>exact ⟨(x7_1),(ji4),(by first|rfl|(simp;done)|(simp [*];done)),(by first|rfl|(simp;done)|(simp only [← hji4] <;> (first|rfl|simp))|(simp [*];done)),H',⟨by have:=HK1.out;omega⟩,by repeat (first|exact Drawn0.refl _|apply Drawn0.step)⟩
     ·rw [if_neg c6] at H
      exact absurd H (by simp)
    ·rw [if_neg c5] at H
     exact absurd H (by simp)
   ·rw [if_neg c3] at H
    have c3b0:decide (x7_1 < x8_1) = false:=decide_eq_false c3
    clear c3
    by_cases c9:x7_1 < (l0.length:Int)
    ·rw [if_pos c9] at H
     have c9b0:decide (x7_1 < (l0.length:Int)) = true:=decide_eq_true c9
     clear c9
     by_cases c10:0 ≤ x7_1
     ·rw [if_pos c10] at H
      have c10b0:decide (0 ≤ x7_1) = true:=decide_eq_true c10
      clear c10
      by_cases c11:x7_1 < (l0.length:Int)
      ·rw [if_pos c11] at H
       have c11b0:decide (x7_1 < (l0.length:Int)) = true:=decide_eq_true c11
       clear c11
       by_cases c12:(rd l0 x7_1) = a1
       ·rw [if_pos c12] at H
        have c12b0:((rd l0 x7_1) == a1) = true:=beq_iff_eq.mpr c12
        have c12b1:((rd l0 x7_1) != a1) = false:=bne_eq_false_iff_eq.mpr c12
        clear c12
        simp only [Option.some.injEq,Prod.mk.injEq] at H
        obtain ⟨rfl,rfl⟩:=H
        have p103:0 ≤ (x7_1:Int):=of_decide_eq_true (by first|(with_reducible assumption)|assumption)
        have q103:x7_1 < (l0.length:Int):=of_decide_eq_true (by first|(with_reducible assumption)|assumption)
        obtain ⟨ad103,e103,hx103_0⟩:=Kd.at_int HR0.out x7_1 p103 q103
        cases e103
        replace p103:=eq_true p103
        replace q103:=eq_true q103
        go_wp2
        go_ret2
        exact ⟨by first|rfl|(simp;done)|(simp [*];done),by repeat (first|exact Drawn0.refl _|apply Drawn0.step)⟩
       ·rw [if_neg c12] at H
        have c12b0:((rd l0 x7_1) == a1) = false:=beq_eq_false_iff_ne.mpr c12
        have c12b1:((rd l0 x7_1) != a1) = true:=bne_iff_ne.mpr c12
        replace H:=Option.bind_eq_some_iff.mp H
        obtain ⟨t105,A130,H⟩:=H
        replace H:(if t105 = true then ((slices_isNaN_int.f a1).bind fun t106=>(some (x7_1,t106))) else (some (x7_1,false))) = some (r1,r2):=H
        have A13:=Aside0.mk A130
        clear A130
        by_cases c14:t105 = true
        ·subst c14
         have H1:((slices_isNaN_int.f a1).bind fun t106=>(some (x7_1,t106))) = some (r1,r2):=by rw [if_pos rfl] at H;exact H
         clear H
         have H:=H1
         clear H1
         replace H:=Option.bind_eq_some_iff.mp H
         obtain ⟨t106,A150,H⟩:=H
         replace H:(some (x7_1,t106)) = some (r1,r2):=H
         have A15:=Aside0.mk A150
         clear A150
         simp only [Option.some.injEq,Prod.mk.injEq] at H
         obtain ⟨rfl,rfl⟩:=H
         have p103:0 ≤ (x7_1:Int):=of_decide_eq_true (by first|(with_reducible assumption)|assumption)
         have q103:x7_1 < (l0.length:Int):=of_decide_eq_true (by first|(with_reducible assumption)|assumption)
         obtain ⟨ad103,e103,hx103_0⟩:=Kd.at_int HR0.out x7_1 p103 q103
         cases e103
         replace p103:=eq_true p103
         replace q103:=eq_true q103
         have p104:0 ≤ (x7_1:Int):=of_decide_eq_true (by first|(with_reducible assumption)|assumption)
         have q104:x7_1 < (l0.length:Int):=of_decide_eq_true (by first|(with_reducible assumption)|assumption)
         obtain ⟨ad104,e104,hx104_0⟩:=Kd.at_int HR0.out x7_1 p104 q104
         obtain rfl:ad103 = ad104:=(by injection e104)
         replace p104:=eq_true p104
         replace q104:=eq_true q104
         go_wp2_with (first|(go_at_call 89;(with_reducible refine (slices_isNaN_int.calls (rd l0 x7_1) true _ A13.out).mono ?_);rintro e w' ⟨rfl,⟨nd,rfl⟩⟩)|(go_at_call 89;(with_reducible refine (slices_isNaN_int.calls a1 t106 _ A15.out).mono ?_);rintro e w' ⟨rfl,⟨nd,rfl⟩⟩))
         go_ret2
         exact ⟨by first|rfl|(simp;done)|(simp [*];done),by repeat (first|exact Drawn0.refl _|apply Drawn0.step)⟩
        ·replace c14:=Bool.eq_false_iff.mpr c14
         subst c14
         have H1:(some (x7_1,false)) = some (r1,r2):=by rw [if_neg (show ¬ (false = true) by decide)] at H;exact H
         clear H
         have H:=H1
         clear H1
         simp only [Option.some.injEq,Prod.mk.injEq] at H
         obtain ⟨rfl,rfl⟩:=H
         have p103:0 ≤ (x7_1:Int):=of_decide_eq_true (by first|(with_reducible assumption)|assumption)
         have q103:x7_1 < (l0.length:Int):=of_decide_eq_true (by first|(with_reducible assumption)|assumption)
         obtain ⟨ad103,e103,hx103_0⟩:=Kd.at_int HR0.out x7_1 p103 q103
         cases e103
         replace p103:=eq_true p103
         replace q103:=eq_true q103
         have p104:0 ≤ (x7_1:Int):=of_decide_eq_true (by first|(with_reducible assumption)|assumption)
         have q104:x7_1 < (l0.length:Int):=of_decide_eq_true (by first|(with_reducible assumption)|assumption)
         obtain ⟨ad104,e104,hx104_0⟩:=Kd.at_int HR0.out x7_1 p104 q104
         obtain rfl:ad103 = ad104:=(by injection e104)
         replace p104:=eq_true p104
         replace q104:=eq_true q104
         go_wp2_with (first|(go_at_call 89;(with_reducible refine (slices_isNaN_int.calls (rd l0 x7_1) false _ A13.out).mono ?_);rintro e w' ⟨rfl,⟨nd,rfl⟩⟩))
         go_ret2
         exact ⟨by first|rfl|(simp;done)|(simp [*];done),by repeat (first|exact Drawn0.refl _|apply Drawn0.step)⟩
      ·rw [if_neg c11] at H
       exact absurd H (by simp)
     ·rw [if_neg c10] at H
      exact absurd H (by simp)
    ·rw [if_neg c9] at H
     have c9b0:decide (x7_1 < (l0.length:Int)) = false:=decide_eq_false c9
     clear c9
     simp only [Option.some.injEq,Prod.mk.injEq] at H
     obtain ⟨rfl,rfl⟩:=H
     go_wp2
     go_ret2
     exact ⟨by first|rfl|(simp;done)|(simp [*];done),by repeat (first|exact Drawn0.refl _|apply Drawn0.step)⟩
end Go.Proofs.Ytbgeceiddcokmaa.X
end
section
namespace Go.Proofs.Ytbgeceiddcokmaa.X
open Go.RowKit Go.Proofs.YtbgeceiddcokmaaW.PrintWords
def KT (T:TypeId) (W W':World):Prop:=∀ (g:Nat) (cs:Array Value),W.heap[g]? = some (.cells cs T (0,0)) → W'.heap[g]? = some (.cells cs T (0,0))
theorem KT.refl (T:TypeId) (W:World):KT T W W:=fun _ _ h=>h
theorem KT.trans {T:TypeId} {a b c:World} (h:KT T a b) (k:KT T b c):KT T a c:=fun g cs hg=>k g cs (h g cs hg)
theorem KT.alloc {T:TypeId} {a b:World} (h:KT T a b) (o:Obj):KT T a (b.alloc o):=fun g cs hg=>blk_alloc (h g cs hg) o
theorem KT.drew {T:TypeId} {a b:World} (h:KT T a b):KT T a b.drew:=h
theorem KT.drewN {T:TypeId} {a b:World} (h:KT T a b) (n:Nat):KT T a (b.drewN n):=h
theorem KT.setCell {T T':TypeId} {a b:World} (h:KT T a b) {p:Addr} {cs':Array Value} (hb:b.heap[p.block]? = some (.cells cs' T' (0,0))) (hne:T' ≠ T) (u:Value):KT T a (b.setCell p u):=fun g cs hg=>by
  have h1:=h g cs hg
  refine blk_far h1 (fun e=>?_) u
  rw [e,hb] at h1
  injection h1 with h2
  injection h2 with _ h3 _
  exact hne h3
theorem KT.below {T:TypeId} {a b c:World} (h:KT T a b) (hb:Below b.heap.size b c):KT T a c:=fun g cs hg=>blk_below (h g cs hg) hb
theorem KT.grown {T T':TypeId} {a b c:World} (h:KT T a b) {row:Option Nat} (hg:b.grownBy c row) (hr:∀ k,row = some k → ∃ cs',b.heap[k]? = some (.cells cs' T' (0,0))) (hne:T' ≠ T):KT T a c:=fun g cs hh=>by
  have h1:=h g cs hh
  refine blk_grown h1 hg (fun e=>?_)
  obtain ⟨cs',h2⟩:=hr g e.symm
  rw [h2] at h1
  injection h1 with h3
  injection h3 with _ h4 _
  exact hne h4
end Go.Proofs.Ytbgeceiddcokmaa.X
end
