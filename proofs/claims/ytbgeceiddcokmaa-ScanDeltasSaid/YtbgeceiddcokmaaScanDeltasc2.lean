/- For ScanDeltas: contracts, and facts on lists and numbers, that it uses (part 2). -/
import Derived.Test.YtbgeceiddcokmaaScanDeltasc1
section
namespace Go.Proofs.Ytbgeceiddcokmaa.X
open Go.RowKit Go.Proofs.YtbgeceiddcokmaaW.PrintWords Go.Proofs.YtbgeceiddcokmaaW.PrintLast Go.Proofs.YtbgeceiddcokmaaW.PrintMore
attribute [local go_sem] max2_int min2_int max_two min_two max_three min_three max_four min_four
set_option linter.unusedVariables false
set_option linter.unusedSimpArgs false
def scan_both.f (k:Nat) (l0:List (S73)) (l1:List (S91)):Option (Int):=(scan_Check.f k l1).bind fun t101=>(if t101 = 0 then ((position_Check.f k l0).bind fun t102=>(some t102)) else (some t101))
theorem scan_both.mono:∀ a0 a1 k,LeO (scan_both.f k a0 a1) (scan_both.f (k + 1) a0 a1):=by
 intro a0 a1 k
 unfold scan_both.f
 repeat' first
   | (with_reducible exact position_Check.mono _ _)
   | (with_reducible exact scan_Check.mono _ _)
   | (with_reducible exact LeO.refl _)
   | (with_reducible exact LeO.none _)
   | (with_reducible refine LeO.ite ?_ ?_)
   | (with_reducible refine LeO.bind ?_ (fun _=>?_))
   | exact position_Check.mono _ _
   | exact scan_Check.mono _ _
   | exact LeO.none _
   | refine LeO.ite ?_ ?_
   | refine LeO.bind ?_ (fun _=>?_)
set_option maxHeartbeats 8000000 in
set_option maxRecDepth 100000 in
theorem scan_both.calls (k:Nat) (A0:Option Addr) (c0:Nat) (l0:List (S73)) (A1:Option Addr) (c1:Nat) (l1:List (S91)) (r:Int) (w:World) (hr0:Kd.C k73 w A0 l0.length l0) (hc0:l0.length ≤ c0) (hr1:Kd.C k91 w A1 l1.length l1) (hc1:l1.length ≤ c1) (h:scan_both.f k l0 l1 = some r) :
  Calls Try.prog 79 #[.slice A0 l0.length c0,.slice A1 l1.length c1] w fun e w'=>e = .returned (.int .i64 r) ∧ Below w.heap.size w w':=by
 have HR0:=Aside0.mk hr0
 have HC0:=Aside0.mk hc0
 clear hr0 hc0
 have HR1:=Aside0.mk hr1
 have HC1:=Aside0.mk hc1
 clear hr1 hc1
 have HB:=Aside0.mk (Below.refl w.heap.size w)
 have H:((scan_Check.f k l1).bind fun t101=>(if t101 = 0 then ((position_Check.f k l0).bind fun t102=>(some t102)) else (some t101))) = some r:=h
 clear h
 replace H:=Option.bind_eq_some_iff.mp H
 obtain ⟨t101,A30,H⟩:=H
 replace H:(if t101 = 0 then ((position_Check.f k l0).bind fun t102=>(some t102)) else (some t101)) = some r:=H
 have A3:=Aside0.mk A30
 clear A30
 by_cases c4:t101 = 0
 ·rw [if_pos c4] at H
  have c4b0:(t101 == 0) = true:=beq_iff_eq.mpr c4
  have c4b1:(t101 != 0) = false:=bne_eq_false_iff_eq.mpr c4
  clear c4
  replace H:=Option.bind_eq_some_iff.mp H
  obtain ⟨t102,A50,H⟩:=H
  replace H:(some t102) = some r:=H
  have A5:=Aside0.mk A50
  clear A50
  obtain rfl:=Option.some.inj H
  go_enter Try.func79,Try.ntmps79
  go_wp2_with (first|((with_reducible refine gate_callee (f:=31) rfl ?_);refine goesL_ (some 7) rfl rfl Try.func31 (by kernel_rfl) rfl #[.slice A1 l1.length c1] rfl (by (try simp only [List.map_toArray,List.map_cons,List.map_nil]);first|done|rfl|(simp only [List.length_drop,List.length_take];rfl)) ?_;(with_reducible refine (scan_Check.calls k _ _ l1 t101 _ ?side1 ?side2 A3.out).mono ?_);(case side1=>repeat (first|exact HR1.out|(with_reducible refine Kd.C_alloc ?_ _)|(with_reducible refine Kd.C_drewN ?_ _)|(with_reducible refine Kd.C_drew ?_)));(case side2=>exact HC1.out);rintro e w6 ⟨rfl,hb⟩;refine ⟨_,rfl,?_⟩;have n0_:=Aside0.mk (below_step (by repeat (first|(with_reducible first|exact HB.out|apply below_alloc|apply pw_below_drewN|apply below_drew1)|exact HB.out)) hb);clear HB;have HB:=n0_;clear n0_;(try clear hb);(try clear hb2);(try clear hk);(try clear hi))|((with_reducible refine gate_callee (f:=65) rfl ?_);refine goesL_ (some 12) rfl rfl Try.func65 (by kernel_rfl) rfl #[.slice A0 l0.length c0] rfl (by (try simp only [List.map_toArray,List.map_cons,List.map_nil]);first|done|rfl|(simp only [List.length_drop,List.length_take];rfl)) ?_;(with_reducible refine (position_Check.calls k _ _ l0 t102 _ ?side1 ?side2 A5.out).mono ?_);(case side1=>repeat (first|exact (Kd.C_below HR0.out HB.out)|(with_reducible refine Kd.C_alloc ?_ _)|(with_reducible refine Kd.C_drewN ?_ _)|(with_reducible refine Kd.C_drew ?_)));(case side2=>exact HC0.out);rintro e w7 ⟨rfl,hb⟩;refine ⟨_,rfl,?_⟩;have n0_:=Aside0.mk (below_step (by repeat (first|(with_reducible first|exact HB.out|apply below_alloc|apply pw_below_drewN|apply below_drew1)|exact HB.out)) hb);clear HB;have HB:=n0_;clear n0_;(try clear hb);(try clear hb2);(try clear hk);(try clear hi)))
  go_ret
  exact ⟨by first|rfl|(simp [errW_none,errW_some] <;> rfl)|(simp [*,errW_none,errW_some] <;> rfl),by repeat (first|(with_reducible first|exact HB.out|apply below_alloc|apply pw_below_drewN|apply below_drew1)|exact HB.out)⟩
 ·rw [if_neg c4] at H
  have c4b0:(t101 == 0) = false:=beq_eq_false_iff_ne.mpr c4
  have c4b1:(t101 != 0) = true:=bne_iff_ne.mpr c4
  obtain rfl:=Option.some.inj H
  go_enter Try.func79,Try.ntmps79
  go_wp2_with (first|((with_reducible refine gate_callee (f:=31) rfl ?_);refine goesL_ (some 7) rfl rfl Try.func31 (by kernel_rfl) rfl #[.slice A1 l1.length c1] rfl (by (try simp only [List.map_toArray,List.map_cons,List.map_nil]);first|done|rfl|(simp only [List.length_drop,List.length_take];rfl)) ?_;(with_reducible refine (scan_Check.calls k _ _ l1 t101 _ ?side1 ?side2 A3.out).mono ?_);(case side1=>repeat (first|exact HR1.out|(with_reducible refine Kd.C_alloc ?_ _)|(with_reducible refine Kd.C_drewN ?_ _)|(with_reducible refine Kd.C_drew ?_)));(case side2=>exact HC1.out);rintro e w8 ⟨rfl,hb⟩;refine ⟨_,rfl,?_⟩;have n0_:=Aside0.mk (below_step (by repeat (first|(with_reducible first|exact HB.out|apply below_alloc|apply pw_below_drewN|apply below_drew1)|exact HB.out)) hb);clear HB;have HB:=n0_;clear n0_;(try clear hb);(try clear hb2);(try clear hk);(try clear hi)))
  go_ret
  exact ⟨by first|rfl|(simp [errW_none,errW_some] <;> rfl)|(simp [*,errW_none,errW_some] <;> rfl),by repeat (first|(with_reducible first|exact HB.out|apply below_alloc|apply pw_below_drewN|apply below_drew1)|exact HB.out)⟩
end Go.Proofs.Ytbgeceiddcokmaa.X
end
section
namespace Go.Proofs.Ytbgeceiddcokmaa.X
open Go.RowKit Go.Proofs.YtbgeceiddcokmaaW.PrintWords Go.Proofs.YtbgeceiddcokmaaW.PrintLast Go.Proofs.YtbgeceiddcokmaaW.PrintMore
attribute [local go_sem] max2_int min2_int max_two min_two max_three min_three max_four min_four
set_option linter.unusedVariables false
set_option linter.unusedSimpArgs false
attribute [local go_sem high] eqA39
mutual
def scan_found.l0:Nat → List (S91) → List (S91) → List (S73) → Int → Int → Option ((List (S91)) × Int)
 | 0,_,_,_,_,_=>none
 | k + 1,x1,x4,x16,x17,x18=>if x18 < x17 then (if 0 ≤ x18 then (if x18 < (x16.length:Int) then (scan_found.l1 k x1 x4 x16 x17 x18 x1 (x1.length:Int) 0 ((rd_T73 x16 x18).f0.f0) ((rd_T73 x16 x18).f0.f1) ((rd_T73 x16 x18).f0.f2) ((rd_T73 x16 x18).f0.f3) ((rd_T73 x16 x18).f1) ((rd_T73 x16 x18).f2)) else (none)) else (none)) else (some (x4,0))
def scan_found.l1:Nat → List (S91) → List (S91) → List (S73) → Int → Int → List (S91) → Int → Int → ByteArray → Int → Int → Int → Int → Int → Option ((List (S91)) × Int)
 | 0,_,_,_,_,_,_,_,_,_,_,_,_,_,_=>none
 | k + 1,x1,x4,x16,x17,x18,x22,x23,x24,x104000,x104001,x104002,x104003,x104004,x104005=>if x24 < x23 then (if 0 ≤ x24 then (if x24 < (x22.length:Int) then (if ((((rd_T91 x22 x24).f0.f0).toList) == x104000.toList && (((rd_T91 x22 x24).f0.f1) == x104001 && (((rd_T91 x22 x24).f0.f2) == x104002 && (((rd_T91 x22 x24).f0.f3) == x104003)))) = true then (if x4.length < 1954687338268 then (scan_found.l0 k x1 (x4 ++ [(⟨(⟨(rd_T91 x22 x24).f0.f0,(rd_T91 x22 x24).f0.f1,(rd_T91 x22 x24).f0.f2,(rd_T91 x22 x24).f0.f3⟩:S39),(rd_T91 x22 x24).f1,(rd_T91 x22 x24).f2⟩:S91)]) x16 x17 (wrap64 (x18 + 1))) else (none)) else (scan_found.l1 k x1 x4 x16 x17 x18 x22 x23 (wrap64 (x24 + 1)) x104000 x104001 x104002 x104003 x104004 x104005)) else (none)) else (none)) else (some (([]:List (S91)),11))
end
def scan_found.f (k:Nat) (l0:List (S73)) (l1:List (S91)):Option ((List (S91)) × Int):=(scan_both.f k l0 l1).bind fun t101=>(if t101 = 0 then (scan_found.l0 k l1 ([]:List (S91)) l0 (l0.length:Int) 0) else (some (([]:List (S91)),t101)))
theorem scan_found.mono_l:∀ k,(∀ y0 y1 y2 y3 y4,LeO (scan_found.l0 k y0 y1 y2 y3 y4) (scan_found.l0 (k + 1) y0 y1 y2 y3 y4)) ∧ (∀ y0 y1 y2 y3 y4 y5 y6 y7 y8 y9 y10 y11 y12 y13,LeO (scan_found.l1 k y0 y1 y2 y3 y4 y5 y6 y7 y8 y9 y10 y11 y12 y13) (scan_found.l1 (k + 1) y0 y1 y2 y3 y4 y5 y6 y7 y8 y9 y10 y11 y12 y13))
 | 0=>⟨fun _ _ _ _ _ r h=>by simp [scan_found.l0] at h,fun _ _ _ _ _ _ _ _ _ _ _ _ _ _ r h=>by simp [scan_found.l1] at h⟩
 | k + 1=>by
  obtain ⟨ih0,ih1⟩:=scan_found.mono_l k
  refine ⟨?_,?_⟩
  ·intro y0 y1 y2 y3 y4
   unfold scan_found.l0
   repeat' first
   | (with_reducible exact ih0 _ _ _ _ _)
   | (with_reducible exact ih1 _ _ _ _ _ _ _ _ _ _ _ _ _ _)
   | (with_reducible exact scan_both.mono _ _ _)
   | (with_reducible exact LeO.refl _)
   | (with_reducible exact LeO.none _)
   | (with_reducible refine LeO.ite ?_ ?_)
   | (with_reducible refine LeO.bind ?_ (fun _=>?_))
   | exact ih0 _ _ _ _ _
   | exact ih1 _ _ _ _ _ _ _ _ _ _ _ _ _ _
   | exact scan_both.mono _ _ _
   | exact LeO.none _
   | refine LeO.ite ?_ ?_
   | refine LeO.bind ?_ (fun _=>?_)
  ·intro y0 y1 y2 y3 y4 y5 y6 y7 y8 y9 y10 y11 y12 y13
   unfold scan_found.l1
   repeat' first
   | (with_reducible exact ih0 _ _ _ _ _)
   | (with_reducible exact ih1 _ _ _ _ _ _ _ _ _ _ _ _ _ _)
   | (with_reducible exact scan_both.mono _ _ _)
   | (with_reducible exact LeO.refl _)
   | (with_reducible exact LeO.none _)
   | (with_reducible refine LeO.ite ?_ ?_)
   | (with_reducible refine LeO.bind ?_ (fun _=>?_))
   | exact ih0 _ _ _ _ _
   | exact ih1 _ _ _ _ _ _ _ _ _ _ _ _ _ _
   | exact scan_both.mono _ _ _
   | exact LeO.none _
   | refine LeO.ite ?_ ?_
   | refine LeO.bind ?_ (fun _=>?_)
theorem scan_found.mono:∀ a0 a1 k,LeO (scan_found.f k a0 a1) (scan_found.f (k + 1) a0 a1):=by
 intro a0 a1 k
 obtain ⟨ih0,ih1⟩:=scan_found.mono_l k
 unfold scan_found.f
 repeat' first
   | (with_reducible exact ih0 _ _ _ _ _)
   | (with_reducible exact ih1 _ _ _ _ _ _ _ _ _ _ _ _ _ _)
   | (with_reducible exact scan_both.mono _ _ _)
   | (with_reducible exact LeO.refl _)
   | (with_reducible exact LeO.none _)
   | (with_reducible refine LeO.ite ?_ ?_)
   | (with_reducible refine LeO.bind ?_ (fun _=>?_))
   | exact ih0 _ _ _ _ _
   | exact ih1 _ _ _ _ _ _ _ _ _ _ _ _ _ _
   | exact scan_both.mono _ _ _
   | exact LeO.none _
   | refine LeO.ite ?_ ?_
   | refine LeO.bind ?_ (fun _=>?_)
set_option maxHeartbeats 8000000 in
set_option maxRecDepth 100000 in
theorem scan_found.calls (k:Nat) (A0:Option Addr) (c0:Nat) (l0:List (S73)) (P1_:Nat → Prop) (A1:Option Addr) (c1:Nat) (l1:List (S91)) (r1:List (S91)) (r2:Int) (w:World) (hr0:Kd.C k73 w A0 l0.length l0) (hc0:l0.length ≤ c0) (hs1:Kd.V k91 91 w w.heap.size (fun k_=>P1_ k_) (.slice A1 l1.length c1) l1) (h:scan_found.f k l0 l1 = some (r1,r2)) :
  Calls Try.prog 57 #[.slice A0 l0.length c0,.slice A1 l1.length c1] w fun e w'=>∃ v0_:Value,e = .returned (.tuple #[v0_,.int .i64 r2]) ∧ Kd.N k91 91 w' w.heap.size (fun k_=>(P1_ k_ ∨ w.heap.size ≤ k_)) v0_ r1 ∧ Below w.heap.size w w':=by
 have hu73:=Try.underlying73
 have hu91:=Try.underlying91
 have hu39:=Try.underlying39
 have HR0:=Aside0.mk hr0
 have HC0:=Aside0.mk hc0
 clear hr0 hc0
 have HO1:=Aside0.mk (show Kd.V k91 91 w w.heap.size (fun k_=>(P1_ k_ ∨ w.heap.size ≤ k_)) (.slice A1 l1.length c1) l1 from Kd.V_mono hs1 (fun k_ hk=>.inl hk))
 have HB:=Aside0.mk (Below.refl w.heap.size w)
 have H:((scan_both.f k l0 l1).bind fun t101=>(if t101 = 0 then (scan_found.l0 k l1 ([]:List (S91)) l0 (l0.length:Int) 0) else (some (([]:List (S91)),t101)))) = some (r1,r2):=h
 clear h
 replace H:=Option.bind_eq_some_iff.mp H
 obtain ⟨t101,A30,H⟩:=H
 replace H:(if t101 = 0 then (scan_found.l0 k l1 ([]:List (S91)) l0 (l0.length:Int) 0) else (some (([]:List (S91)),t101))) = some (r1,r2):=H
 have A3:=Aside0.mk A30
 clear A30
 by_cases c4:t101 = 0
 ·rw [if_pos c4] at H
  have c4b0:(t101 == 0) = true:=beq_iff_eq.mpr c4
  have c4b1:(t101 != 0) = false:=bne_eq_false_iff_eq.mpr c4
  clear c4
  have H':=Aside0.mk H
  clear H
  go_enter Try.func57,Try.ntmps57
  go_wp2_with (first|((with_reducible refine gate_callee (f:=79) rfl ?_);refine goesL_ (some 12) rfl rfl Try.func79 (by kernel_rfl) rfl #[.slice A0 l0.length c0,.slice A1 l1.length c1] rfl (by (try simp only [List.map_toArray,List.map_cons,List.map_nil]);first|done|rfl|(simp only [List.length_drop,List.length_take];rfl)) ?_;(with_reducible refine (scan_both.calls k _ _ l0 _ _ l1 t101 _ ?side1 ?side2 ?side3 ?side4 A3.out).mono ?_);(case side1=>repeat (first|exact HR0.out|(with_reducible refine Kd.C_alloc ?_ _)|(with_reducible refine Kd.C_drewN ?_ _)|(with_reducible refine Kd.C_drew ?_)));(case side2=>exact HC0.out);(case side3=>repeat (first|exact (Kd.V_reads' HO1.out).2.2|(with_reducible refine Kd.C_alloc ?_ _)|(with_reducible refine Kd.C_drewN ?_ _)|(with_reducible refine Kd.C_drew ?_)));(case side4=>exact (Kd.V_reads' HO1.out).2.1);rintro e w5 ⟨rfl,hb⟩;refine ⟨_,rfl,?_⟩;have n0_:=Aside0.mk (Kd.V_below (by (with_reducible repeat (first|apply Kd.V_alloc|apply Kd.V_drewN|apply Kd.V_drew));exact HO1.out) hb);have n1_:=Aside0.mk (below_step (by repeat (first|(with_reducible first|exact HB.out|apply below_alloc|apply pw_below_drewN|apply below_drew1)|exact HB.out)) hb);clear HO1;clear HB;have HO1:=n0_;have HB:=n1_;clear n0_ n1_;(try clear hb);(try clear hb2);(try clear hk);(try clear hi)))
  try (go_step3;go_wp2_with (first|((with_reducible refine gate_callee (f:=79) rfl ?_);refine goesL_ (some 12) rfl rfl Try.func79 (by kernel_rfl) rfl #[.slice A0 l0.length c0,.slice A1 l1.length c1] rfl (by (try simp only [List.map_toArray,List.map_cons,List.map_nil]);first|done|rfl|(simp only [List.length_drop,List.length_take];rfl)) ?_;(with_reducible refine (scan_both.calls k _ _ l0 _ _ l1 t101 _ ?side1 ?side2 ?side3 ?side4 A3.out).mono ?_);(case side1=>repeat (first|exact HR0.out|(with_reducible refine Kd.C_alloc ?_ _)|(with_reducible refine Kd.C_drewN ?_ _)|(with_reducible refine Kd.C_drew ?_)));(case side2=>exact HC0.out);(case side3=>repeat (first|exact (Kd.V_reads' HO1.out).2.2|(with_reducible refine Kd.C_alloc ?_ _)|(with_reducible refine Kd.C_drewN ?_ _)|(with_reducible refine Kd.C_drew ?_)));(case side4=>exact (Kd.V_reads' HO1.out).2.1);rintro e w5 ⟨rfl,hb⟩;refine ⟨_,rfl,?_⟩;have n0_:=Aside0.mk (Kd.V_below (by (with_reducible repeat (first|apply Kd.V_alloc|apply Kd.V_drewN|apply Kd.V_drew));exact HO1.out) hb);have n1_:=Aside0.mk (below_step (by repeat (first|(with_reducible first|exact HB.out|apply below_alloc|apply pw_below_drewN|apply below_drew1)|exact HB.out)) hb);clear HO1;clear HB;have HO1:=n0_;have HB:=n1_;clear n0_ n1_;(try clear hb);(try clear hb2);(try clear hk);(try clear hi))))
  try (go_step3;go_wp2_with (first|((with_reducible refine gate_callee (f:=79) rfl ?_);refine goesL_ (some 12) rfl rfl Try.func79 (by kernel_rfl) rfl #[.slice A0 l0.length c0,.slice A1 l1.length c1] rfl (by (try simp only [List.map_toArray,List.map_cons,List.map_nil]);first|done|rfl|(simp only [List.length_drop,List.length_take];rfl)) ?_;(with_reducible refine (scan_both.calls k _ _ l0 _ _ l1 t101 _ ?side1 ?side2 ?side3 ?side4 A3.out).mono ?_);(case side1=>repeat (first|exact HR0.out|(with_reducible refine Kd.C_alloc ?_ _)|(with_reducible refine Kd.C_drewN ?_ _)|(with_reducible refine Kd.C_drew ?_)));(case side2=>exact HC0.out);(case side3=>repeat (first|exact (Kd.V_reads' HO1.out).2.2|(with_reducible refine Kd.C_alloc ?_ _)|(with_reducible refine Kd.C_drewN ?_ _)|(with_reducible refine Kd.C_drew ?_)));(case side4=>exact (Kd.V_reads' HO1.out).2.1);rintro e w5 ⟨rfl,hb⟩;refine ⟨_,rfl,?_⟩;have n0_:=Aside0.mk (Kd.V_below (by (with_reducible repeat (first|apply Kd.V_alloc|apply Kd.V_drewN|apply Kd.V_drew));exact HO1.out) hb);have n1_:=Aside0.mk (below_step (by repeat (first|(with_reducible first|exact HB.out|apply below_alloc|apply pw_below_drewN|apply below_drew1)|exact HB.out)) hb);clear HO1;clear HB;have HO1:=n0_;have HB:=n1_;clear n0_ n1_;(try clear hb);(try clear hb2);(try clear hk);(try clear hi))))
  go_loopg [4,18] k (fun kq v4 v18 w'=>∃ (x4_1:List (S91)) (x18_1:Int),v18 = .int .i64 x18_1 ∧ Aside0 (scan_found.l0 kq l1 x4_1 l0 (l0.length:Int) x18_1 = some (r1,r2)) ∧ Aside0 (kq ≤ k) ∧ Aside0 (Kd.V k91 91 w' w.heap.size (fun k_=>(P1_ k_ ∨ w.heap.size ≤ k_) ∧ some k_ ≠ (v4:Value).ownBlock) (.slice A1 l1.length c1) l1) ∧ Aside0 (Kd.N k91 91 w' w.heap.size (fun k_=>(P1_ k_ ∨ w.heap.size ≤ k_)) v4 x4_1) ∧ Aside0 (Below w.heap.size w w'))
  case atStart=>exact ⟨(([]:List (S91))),(0),(by first|rfl|(simp;done)|(simp [*];done)),H',⟨Nat.le_refl _⟩,⟨by (with_reducible repeat (first|apply Kd.V_alloc|apply Kd.V_drewN|apply Kd.V_drew));exact Kd.V_mono HO1.out (fun _ hk=>⟨hk,(by simp [Value.ownBlock])⟩)⟩,⟨by first|exact Kd.S_nil _ _ _ _ _|exact Kd.N_nil _ _ _ _ _|exact Kd.V_nil _ _ _ _ _|exact Kd.Q_nil _ _ _ _ _|exact Kd.R_nil _ _ _ _ _⟩,⟨by repeat (first|(with_reducible first|exact HB.out|apply below_alloc|apply pw_below_drewN|apply below_drew1)|exact HB.out)⟩⟩
  case round =>
   clear H'
   try clear c1
   try clear p2
   try clear c4
   try clear c4b0
   try clear c4b1
   try clear c5
   obtain ⟨x4_1,x18_1,rfl,HA,HK1,HO_1,HO_4,HB⟩:=hrel
   cases gk with
   | zero=>exact absurd HA.out (by simp [scan_found.l0])
   | succ k1 =>
    have H:=HA.out
    clear HA
    simp only [scan_found.l0] at H
    by_cases c6:x18_1 < (l0.length:Int)
    ·rw [if_pos c6] at H
     have c6b0:decide (x18_1 < (l0.length:Int)) = true:=decide_eq_true c6
     clear c6
     by_cases c7:0 ≤ x18_1
     ·rw [if_pos c7] at H
      have c7b0:decide (0 ≤ x18_1) = true:=decide_eq_true c7
      clear c7
      by_cases c8:x18_1 < (l0.length:Int)
      ·rw [if_pos c8] at H
       have c8b0:decide (x18_1 < (l0.length:Int)) = true:=decide_eq_true c8
       clear c8
       have H':=Aside0.mk H
       clear H
       have p102:0 ≤ (x18_1:Int):=of_decide_eq_true (by first|(with_reducible assumption)|assumption)
       have q102:x18_1 < (l0.length:Int):=of_decide_eq_true (by first|(with_reducible assumption)|assumption)
       obtain ⟨ad102,e102,hx102_0,hx102_1,hx102_2,hx102_3,hx102_4,hx102_5⟩:=at_T73 HR0.out x18_1 p102 q102
       cases e102
       replace hx102_0:=(HB.out.cell (World.block_lt_of_cell? w _ hx102_0)).trans hx102_0
       replace hx102_1:=(HB.out.cell (World.block_lt_of_cell? w _ hx102_1)).trans hx102_1
       replace hx102_2:=(HB.out.cell (World.block_lt_of_cell? w _ hx102_2)).trans hx102_2
       replace hx102_3:=(HB.out.cell (World.block_lt_of_cell? w _ hx102_3)).trans hx102_3
       replace hx102_4:=(HB.out.cell (World.block_lt_of_cell? w _ hx102_4)).trans hx102_4
       replace hx102_5:=(HB.out.cell (World.block_lt_of_cell? w _ hx102_5)).trans hx102_5
       replace p102:=eq_true p102
       replace q102:=eq_true q102
       go_wp2_with (first|((with_reducible refine gate_dst (N:=7) rfl ?_);refine box_event ?hg (N:=7) ?hd (cs:=#[.string (⟨#[]⟩:ByteArray),.int .i64 0,.int .i64 0,.int .i64 0,.int .i64 0,.int .i64 0]) (t:=73) ?hr ?_;(case hd=>rfl);(case hg=>rfl);(case hr=>first|(go_simp;done)|(go_simp;rfl));intro gb103 hg w9 hbox hb;have n0_:=Aside0.mk (Kd.V_below (Kd.V_elderB (by (with_reducible repeat (first|apply Kd.V_alloc|apply Kd.V_drewN|apply Kd.V_drew));exact HO_1.out) gb103 (Nat.le_of_eq hg.symm)) hb);have n1_:=Aside0.mk (Kd.N_below (Kd.N_elderB (by (with_reducible repeat (first|apply Kd.N_alloc|apply Kd.N_drewN|apply Kd.N_drew));exact HO_4.out) gb103 (Nat.le_of_eq hg.symm)) hb);have n2_:=Aside0.mk (below_step (by repeat (first|(with_reducible first|exact HB.out|apply below_alloc|apply pw_below_drewN|apply below_drew1)|exact HB.out)) hb);have n3_:=Aside0.mk (hbox);have n4_:=Aside0.mk ((by rw [hg];exact (below_size (by repeat (first|(with_reducible first|exact HB.out|apply below_alloc|apply pw_below_drewN|apply below_drew1)|exact HB.out))):w.heap.size ≤ gb103));have n5_:=Aside0.mk ((by rw [hg];exact (below_size (by repeat (first|(with_reducible first|exact HB.out|apply below_alloc|apply pw_below_drewN|apply below_drew1)|exact HB.out))):w.heap.size ≤ gb103));clear HO_1;clear HO_4;clear HB;have HO_1:=n0_;have HO_4:=n1_;have HB:=n2_;have BK103:=n3_;have GW103:=n4_;have GE103:=n5_;clear n0_ n1_ n2_ n3_ n4_ n5_;clear hb hbox hg;have hcz10_0:w9.cell? ⟨gb103,0,none⟩ = some (.string (⟨#[]⟩:ByteArray)):=(blk_cell BK103.out 0).trans rfl;have hcz10_1:w9.cell? ⟨gb103,1,none⟩ = some (.int .i64 0):=(blk_cell BK103.out 1).trans rfl;have hcz10_2:w9.cell? ⟨gb103,2,none⟩ = some (.int .i64 0):=(blk_cell BK103.out 2).trans rfl;have hcz10_3:w9.cell? ⟨gb103,3,none⟩ = some (.int .i64 0):=(blk_cell BK103.out 3).trans rfl;have hcz10_4:w9.cell? ⟨gb103,4,none⟩ = some (.int .i64 0):=(blk_cell BK103.out 4).trans rfl;have hcz10_5:w9.cell? ⟨gb103,5,none⟩ = some (.int .i64 0):=(blk_cell BK103.out 5).trans rfl;have hfz10_0:=blk_frozen BK103.out 0;have hfz10_1:=blk_frozen BK103.out 1;have hfz10_2:=blk_frozen BK103.out 2;have hfz10_3:=blk_frozen BK103.out 3;have hfz10_4:=blk_frozen BK103.out 4;have hfz10_5:=blk_frozen BK103.out 5))
       go_loopg [4,24] k1 (fun kq v4 v24 w'=>∃ (x4_2:List (S91)) (x24_2:Int),v24 = .int .i64 x24_2 ∧ Aside0 (scan_found.l1 kq l1 x4_2 l0 (l0.length:Int) x18_1 l1 (l1.length:Int) x24_2 ((rd_T73 l0 x18_1).f0.f0) ((rd_T73 l0 x18_1).f0.f1) ((rd_T73 l0 x18_1).f0.f2) ((rd_T73 l0 x18_1).f0.f3) ((rd_T73 l0 x18_1).f1) ((rd_T73 l0 x18_1).f2) = some (r1,r2)) ∧ Aside0 (kq ≤ k1) ∧ Aside0 (Kd.V k91 91 w' w.heap.size (fun k_=>(P1_ k_ ∨ w.heap.size ≤ k_) ∧ some k_ ≠ (v4:Value).ownBlock ∧ k_ ≠ gb103) (.slice A1 l1.length c1) l1) ∧ Aside0 (Kd.N k91 91 w' w.heap.size (fun k_=>(P1_ k_ ∨ w.heap.size ≤ k_) ∧ k_ ≠ gb103) v4 x4_2) ∧ Aside0 (Kd.V k91 91 w' w.heap.size (fun k_=>(P1_ k_ ∨ w.heap.size ≤ k_) ∧ some k_ ≠ (v4:Value).ownBlock ∧ k_ ≠ gb103) (.slice A1 l1.length c1) l1) ∧ Aside0 (w'.heap[gb103]? = some (.cells #[.string ((rd_T73 l0 x18_1).f0.f0),.int .i64 ((rd_T73 l0 x18_1).f0.f1),.int .i64 ((rd_T73 l0 x18_1).f0.f2),.int .i64 ((rd_T73 l0 x18_1).f0.f3),.int .i64 ((rd_T73 l0 x18_1).f1),.int .i64 ((rd_T73 l0 x18_1).f2)] 73 (0,0))) ∧ Aside0 (Below w.heap.size w w'))
       case atStart=>exact ⟨(x4_1),(0),(by first|rfl|(simp;done)|(simp [*];done)),H',⟨Nat.le_refl _⟩,⟨by (with_reducible repeat (first|apply Kd.V_alloc|apply Kd.V_drewN|apply Kd.V_drew));exact Kd.V_mono (Kd.V_far (p:=⟨gb103,5,none⟩) (Kd.V_far (p:=⟨gb103,4,none⟩) (Kd.V_far (p:=⟨gb103,3,none⟩) (Kd.V_far (p:=⟨gb103,2,none⟩) (Kd.V_far (p:=⟨gb103,1,none⟩) (Kd.V_far (p:=⟨gb103,0,none⟩) (Kd.V_mono HO_1.out (fun k_ hk=>(⟨hk,hk.2⟩:_ ∧ k_ ≠ gb103))) (fun _ hk=>hk.2) (.string ((rd_T73 l0 x18_1).f0.f0))) (fun _ hk=>hk.2) (.int .i64 ((rd_T73 l0 x18_1).f0.f1))) (fun _ hk=>hk.2) (.int .i64 ((rd_T73 l0 x18_1).f0.f2))) (fun _ hk=>hk.2) (.int .i64 ((rd_T73 l0 x18_1).f0.f3))) (fun _ hk=>hk.2) (.int .i64 ((rd_T73 l0 x18_1).f1))) (fun _ hk=>hk.2) (.int .i64 ((rd_T73 l0 x18_1).f2))) (fun _ hk=>⟨hk.1.1.1,⟨hk.1.1.2,hk.1.2⟩⟩)⟩,⟨by (with_reducible repeat (first|apply Kd.N_alloc|apply Kd.N_drewN|apply Kd.N_drew));exact Kd.N_mono (Kd.N_far (p:=⟨gb103,5,none⟩) (Kd.N_far (p:=⟨gb103,4,none⟩) (Kd.N_far (p:=⟨gb103,3,none⟩) (Kd.N_far (p:=⟨gb103,2,none⟩) (Kd.N_far (p:=⟨gb103,1,none⟩) (Kd.N_far (p:=⟨gb103,0,none⟩) (Kd.N_mono HO_4.out (fun k_ hk=>(⟨hk,hk.2⟩:_ ∧ k_ ≠ gb103))) (fun _ hk=>hk.2) (.string ((rd_T73 l0 x18_1).f0.f0))) (fun _ hk=>hk.2) (.int .i64 ((rd_T73 l0 x18_1).f0.f1))) (fun _ hk=>hk.2) (.int .i64 ((rd_T73 l0 x18_1).f0.f2))) (fun _ hk=>hk.2) (.int .i64 ((rd_T73 l0 x18_1).f0.f3))) (fun _ hk=>hk.2) (.int .i64 ((rd_T73 l0 x18_1).f1))) (fun _ hk=>hk.2) (.int .i64 ((rd_T73 l0 x18_1).f2))) (fun _ hk=>⟨hk.1.1,hk.1.2⟩)⟩,⟨by (with_reducible repeat (first|apply Kd.V_alloc|apply Kd.V_drewN|apply Kd.V_drew));exact Kd.V_mono (Kd.V_far (p:=⟨gb103,5,none⟩) (Kd.V_far (p:=⟨gb103,4,none⟩) (Kd.V_far (p:=⟨gb103,3,none⟩) (Kd.V_far (p:=⟨gb103,2,none⟩) (Kd.V_far (p:=⟨gb103,1,none⟩) (Kd.V_far (p:=⟨gb103,0,none⟩) (Kd.V_mono HO_1.out (fun k_ hk=>(⟨hk,hk.2⟩:_ ∧ k_ ≠ gb103))) (fun _ hk=>hk.2) (.string ((rd_T73 l0 x18_1).f0.f0))) (fun _ hk=>hk.2) (.int .i64 ((rd_T73 l0 x18_1).f0.f1))) (fun _ hk=>hk.2) (.int .i64 ((rd_T73 l0 x18_1).f0.f2))) (fun _ hk=>hk.2) (.int .i64 ((rd_T73 l0 x18_1).f0.f3))) (fun _ hk=>hk.2) (.int .i64 ((rd_T73 l0 x18_1).f1))) (fun _ hk=>hk.2) (.int .i64 ((rd_T73 l0 x18_1).f2))) (fun _ hk=>⟨hk.1.1.1,⟨hk.1.1.2,hk.1.2⟩⟩)⟩,⟨by (with_reducible repeat (first|refine blk_drewN ?_ _|refine blk_drew ?_|refine blk_alloc ?_ _));refine blk_put (cs:=#[.string ((rd_T73 l0 x18_1).f0.f0),.int .i64 ((rd_T73 l0 x18_1).f0.f1),.int .i64 ((rd_T73 l0 x18_1).f0.f2),.int .i64 ((rd_T73 l0 x18_1).f0.f3),.int .i64 ((rd_T73 l0 x18_1).f1),.int .i64 0]) ?_ 5 _ rfl;(with_reducible repeat (first|refine blk_drewN ?_ _|refine blk_drew ?_|refine blk_alloc ?_ _));refine blk_put (cs:=#[.string ((rd_T73 l0 x18_1).f0.f0),.int .i64 ((rd_T73 l0 x18_1).f0.f1),.int .i64 ((rd_T73 l0 x18_1).f0.f2),.int .i64 ((rd_T73 l0 x18_1).f0.f3),.int .i64 0,.int .i64 0]) ?_ 4 _ rfl;(with_reducible repeat (first|refine blk_drewN ?_ _|refine blk_drew ?_|refine blk_alloc ?_ _));refine blk_put (cs:=#[.string ((rd_T73 l0 x18_1).f0.f0),.int .i64 ((rd_T73 l0 x18_1).f0.f1),.int .i64 ((rd_T73 l0 x18_1).f0.f2),.int .i64 0,.int .i64 0,.int .i64 0]) ?_ 3 _ rfl;(with_reducible repeat (first|refine blk_drewN ?_ _|refine blk_drew ?_|refine blk_alloc ?_ _));refine blk_put (cs:=#[.string ((rd_T73 l0 x18_1).f0.f0),.int .i64 ((rd_T73 l0 x18_1).f0.f1),.int .i64 0,.int .i64 0,.int .i64 0,.int .i64 0]) ?_ 2 _ rfl;(with_reducible repeat (first|refine blk_drewN ?_ _|refine blk_drew ?_|refine blk_alloc ?_ _));refine blk_put (cs:=#[.string ((rd_T73 l0 x18_1).f0.f0),.int .i64 0,.int .i64 0,.int .i64 0,.int .i64 0,.int .i64 0]) ?_ 1 _ rfl;(with_reducible repeat (first|refine blk_drewN ?_ _|refine blk_drew ?_|refine blk_alloc ?_ _));refine blk_put (cs:=#[.string (⟨#[]⟩:ByteArray),.int .i64 0,.int .i64 0,.int .i64 0,.int .i64 0,.int .i64 0]) ?_ 0 _ rfl;(with_reducible repeat (first|refine blk_drewN ?_ _|refine blk_drew ?_|refine blk_alloc ?_ _));exact BK103.out⟩,⟨by repeat (first|(with_reducible first|exact HB.out|apply below_alloc|apply pw_below_drewN|apply below_drew1|refine below_set ?_ GE103.out)|exact HB.out)⟩⟩
       case round =>
        clear H'
        try clear c1
        try clear p1
        try clear q1
        try clear hx1
        try clear p2
        try clear c4
        try clear c4b0
        try clear c4b1
        try clear c5
        try clear c6
        try clear c6b0
        try clear c7
        try clear c7b0
        try clear c8
        try clear c8b0
        try clear p10
        try clear q10
        try clear hx10
        try clear hcz10_0
        try clear hcz10_1
        try clear hcz10_2
        try clear hcz10_3
        try clear hcz10_4
        try clear hcz10_5
        try clear hfz10_0
        try clear hfz10_1
        try clear hfz10_2
        try clear hfz10_3
        try clear hfz10_4
        try clear hfz10_5
        try clear hx102_0
        try clear hx102_1
        try clear hx102_2
        try clear hx102_3
        try clear hx102_4
        try clear hx102_5
        try clear p102
        try clear p2
        try clear q102
        obtain ⟨x4_2,x24_2,rfl,HA,HK2,HO_1,HO_4,HO_22,BK103,HB⟩:=hrel
        cases gk with
        | zero=>exact absurd HA.out (by simp [scan_found.l1])
        | succ k2 =>
         have H:=HA.out
         clear HA
         simp only [scan_found.l1] at H
         by_cases c11:x24_2 < (l1.length:Int)
         ·rw [if_pos c11] at H
          have c11b0:decide (x24_2 < (l1.length:Int)) = true:=decide_eq_true c11
          clear c11
          by_cases c12:0 ≤ x24_2
          ·rw [if_pos c12] at H
           have c12b0:decide (0 ≤ x24_2) = true:=decide_eq_true c12
           clear c12
           by_cases c13:x24_2 < (l1.length:Int)
           ·rw [if_pos c13] at H
            have c13b0:decide (x24_2 < (l1.length:Int)) = true:=decide_eq_true c13
            clear c13
            by_cases c14:((((rd_T91 l1 x24_2).f0.f0).toList) == ((rd_T73 l0 x18_1).f0.f0).toList && (((rd_T91 l1 x24_2).f0.f1) == ((rd_T73 l0 x18_1).f0.f1) && (((rd_T91 l1 x24_2).f0.f2) == ((rd_T73 l0 x18_1).f0.f2) && (((rd_T91 l1 x24_2).f0.f3) == ((rd_T73 l0 x18_1).f0.f3))))) = true
            ·rw [if_pos c14] at H
             have c14b0:((((rd_T91 l1 x24_2).f0.f0).toList) == ((rd_T73 l0 x18_1).f0.f0).toList && (((rd_T91 l1 x24_2).f0.f1) == ((rd_T73 l0 x18_1).f0.f1) && (((rd_T91 l1 x24_2).f0.f2) == ((rd_T73 l0 x18_1).f0.f2) && (((rd_T91 l1 x24_2).f0.f3) == ((rd_T73 l0 x18_1).f0.f3))))) = true:=c14
             (try (have c14b1:decide ((((rd_T91 l1 x24_2).f0.f0).toList) = ((rd_T73 l0 x18_1).f0.f0).toList && (((rd_T91 l1 x24_2).f0.f1) == ((rd_T73 l0 x18_1).f0.f1) && (((rd_T91 l1 x24_2).f0.f2) == ((rd_T73 l0 x18_1).f0.f2) && (((rd_T91 l1 x24_2).f0.f3) == ((rd_T73 l0 x18_1).f0.f3))))) = true:=by simpa using c14))
             (try (have c14b2:((((rd_T91 l1 x24_2).f0.f0).toList) == ((rd_T73 l0 x18_1).f0.f0).toList && (((rd_T91 l1 x24_2).f0.f1) == ((rd_T73 l0 x18_1).f0.f1) && (((rd_T91 l1 x24_2).f0.f2) == ((rd_T73 l0 x18_1).f0.f2) && (((rd_T91 l1 x24_2).f0.f3) == ((rd_T73 l0 x18_1).f0.f3))))) = true:=by simpa using c14))
             clear c14
             by_cases c15:x4_2.length < 1954687338268
             ·rw [if_pos c15] at H
              have LMc15:=Aside0.mk c15
              clear c15
              obtain ⟨y106,hy106⟩:∃ y_:List (S91),y_ = (x4_2 ++ [(⟨(⟨(rd_T91 l1 x24_2).f0.f0,(rd_T91 l1 x24_2).f0.f1,(rd_T91 l1 x24_2).f0.f2,(rd_T91 l1 x24_2).f0.f3⟩:S39),(rd_T91 l1 x24_2).f1,(rd_T91 l1 x24_2).f2⟩:S91)]):=⟨_,rfl⟩
              replace H:(scan_found.l0 k2 l1 y106 l0 (l0.length:Int) (wrap64 (x18_1 + 1))) = some (r1,r2):=by first|(rw [hy106];with_reducible exact H)|(have H2_:=(Option.bind_some _ _).symm.trans H;rw [hy106];with_reducible exact H2_)|(have H2_:=(Option.bind_some _ _).symm.trans H;with_reducible exact H2_)|with_reducible exact H|(rw [hy106];exact H)|exact H
              have Ny106:=Aside0.mk hy106
              clear hy106
              have H':=Aside0.mk H
              clear H
              have p104:0 ≤ (x24_2:Int):=of_decide_eq_true (by first|(with_reducible assumption)|assumption)
              have q104:x24_2 < (l1.length:Int):=of_decide_eq_true (by first|(with_reducible assumption)|assumption)
              obtain ⟨ad104,A104_4,c104_4,e104,hx104_0,hx104_1,hx104_2,hx104_3,hx104_4,hx104_5,hl104_4,hi104_4⟩:=at_T91 (Kd.V_reads' HO_22.out).2.2 x24_2 p104 q104
              cases e104
              obtain ⟨ce104,hce104,hMe104,hcc104⟩:=Kd.V_get HO_22.out z91 x24_2 p104 (by first|exact q104|exact of_decide_eq_true (by first|(with_reducible assumption)|assumption)|(have e_:=(Kd.V_reads' HO_22.out).1;omega))
              obtain ⟨ua104_4,uc104_4,rfl,ul104_4,ge104_4⟩:=k91_openF hMe104
              have hv104_4:=hcc104 4 _ rfl
              rw [add_field _ _ 4 (by omega)] at hv104_4
              replace hv104_4:=Option.some.inj (hv104_4.symm.trans hx104_4)
              injection hv104_4 with hva_ hvn_ hvc_
              rw [hva_] at ge104_4
              rw [hvc_] at ul104_4
              have HL104_4:=Aside0.mk (show Kd.V (Kd.int .i64) 3 _ w.heap.size _ _ ((rd_T91 l1 x24_2).f1) from Kd.V_mk ul104_4 ge104_4)
              clear hva_ hvn_ hvc_ ge104_4 ul104_4
              clear hcc104 hce104
              have HR104_4:=Aside0.mk hi104_4
              have HC104_4:=Aside0.mk hl104_4
              clear hi104_4 hl104_4
              replace p104:=eq_true p104
              replace q104:=eq_true q104
              go_wp2_with (first|((with_reducible refine gate_dst (N:=9) rfl ?_);refine box_event ?hg (N:=9) ?hd (cs:=#[.string (⟨#[]⟩:ByteArray),.int .i64 0,.int .i64 0,.int .i64 0,.slice none 0 0,.int .i64 0]) (t:=91) ?hr ?_;(case hd=>rfl);(case hg=>rfl);(case hr=>first|(go_simp;done)|(go_simp;rfl));intro gb105 hg w16 hbox hb;have n0_:=Aside0.mk (Kd.V_below (Kd.V_elderB (by (with_reducible repeat (first|apply Kd.V_alloc|apply Kd.V_drewN|apply Kd.V_drew));exact HO_1.out) gb105 (Nat.le_of_eq hg.symm)) hb);have n1_:=Aside0.mk (Kd.N_below (Kd.N_elderB (by (with_reducible repeat (first|apply Kd.N_alloc|apply Kd.N_drewN|apply Kd.N_drew));exact HO_4.out) gb105 (Nat.le_of_eq hg.symm)) hb);have n2_:=Aside0.mk (Kd.V_below (Kd.V_elderB (by (with_reducible repeat (first|apply Kd.V_alloc|apply Kd.V_drewN|apply Kd.V_drew));exact HO_22.out) gb105 (Nat.le_of_eq hg.symm)) hb);have n3_:=Aside0.mk (Kd.V_below (Kd.V_elderB (by (with_reducible repeat (first|apply Kd.V_alloc|apply Kd.V_drewN|apply Kd.V_drew));exact HL104_4.out) gb105 (Nat.le_of_eq hg.symm)) hb);have n4_:=Aside0.mk (blk_below (g:=gb103) (o:=.cells #[.string ((rd_T73 l0 x18_1).f0.f0),.int .i64 ((rd_T73 l0 x18_1).f0.f1),.int .i64 ((rd_T73 l0 x18_1).f0.f2),.int .i64 ((rd_T73 l0 x18_1).f0.f3),.int .i64 ((rd_T73 l0 x18_1).f1),.int .i64 ((rd_T73 l0 x18_1).f2)] 73 (0,0)) (by (with_reducible repeat (first|refine blk_drewN ?_ _|refine blk_drew ?_|refine blk_alloc ?_ _));exact BK103.out) hb);have n5_:=Aside0.mk (Kd.C_below (by repeat (first|(with_reducible exact HR104_4.out)|(with_reducible refine Kd.C_alloc ?_ _)|(with_reducible refine Kd.C_drewN ?_ _)|(with_reducible refine Kd.C_drew ?_)|exact HR104_4.out)) hb);have n6_:=Aside0.mk (below_step (by repeat (first|(with_reducible first|exact HB.out|apply below_alloc|apply pw_below_drewN|apply below_drew1|refine below_set ?_ GE103.out)|exact HB.out)) hb);have n7_:=Aside0.mk (hbox);have n8_:=Aside0.mk ((by rw [hg];exact (below_size (by repeat (first|(with_reducible first|exact HB.out|apply below_alloc|apply pw_below_drewN|apply below_drew1|refine below_set ?_ GE103.out)|exact HB.out))):w.heap.size ≤ gb105));have n9_:=Aside0.mk ((by rw [hg];exact (below_size (by repeat (first|(with_reducible first|exact HB.out|apply below_alloc|apply pw_below_drewN|apply below_drew1|refine below_set ?_ GE103.out)|exact HB.out))):w.heap.size ≤ gb105));have n10_:=Aside0.mk ((by rw [hg];exact Nat.ne_of_lt (blk_lt (g:=gb103) (o:=.cells #[.string ((rd_T73 l0 x18_1).f0.f0),.int .i64 ((rd_T73 l0 x18_1).f0.f1),.int .i64 ((rd_T73 l0 x18_1).f0.f2),.int .i64 ((rd_T73 l0 x18_1).f0.f3),.int .i64 ((rd_T73 l0 x18_1).f1),.int .i64 ((rd_T73 l0 x18_1).f2)] 73 (0,0)) (by (with_reducible repeat (first|refine blk_drewN ?_ _|refine blk_drew ?_|refine blk_alloc ?_ _));exact BK103.out)):gb103 ≠ gb105));have n11_:=Aside0.mk ((by rw [hg];exact Nat.ne_of_gt (blk_lt (g:=gb103) (o:=.cells #[.string ((rd_T73 l0 x18_1).f0.f0),.int .i64 ((rd_T73 l0 x18_1).f0.f1),.int .i64 ((rd_T73 l0 x18_1).f0.f2),.int .i64 ((rd_T73 l0 x18_1).f0.f3),.int .i64 ((rd_T73 l0 x18_1).f1),.int .i64 ((rd_T73 l0 x18_1).f2)] 73 (0,0)) (by (with_reducible repeat (first|refine blk_drewN ?_ _|refine blk_drew ?_|refine blk_alloc ?_ _));exact BK103.out)):gb105 ≠ gb103));clear HO_1;clear HO_4;clear HO_22;clear HL104_4;clear BK103;clear HR104_4;clear HB;have HO_1:=n0_;have HO_4:=n1_;have HO_22:=n2_;have HL104_4:=n3_;have BK103:=n4_;have HR104_4:=n5_;have HB:=n6_;have BK105:=n7_;have GW105:=n8_;have GE105:=n9_;have NB103_105:=n10_;have NB105_103:=n11_;clear n0_ n1_ n2_ n3_ n4_ n5_ n6_ n7_ n8_ n9_ n10_ n11_;clear hb hbox hg;have hnb17:=NB105_103.out;have hnc17:=NB103_105.out;have hcz18_0:w16.cell? ⟨gb105,0,none⟩ = some (.string (⟨#[]⟩:ByteArray)):=(blk_cell BK105.out 0).trans rfl;have hcz18_1:w16.cell? ⟨gb105,1,none⟩ = some (.int .i64 0):=(blk_cell BK105.out 1).trans rfl;have hcz18_2:w16.cell? ⟨gb105,2,none⟩ = some (.int .i64 0):=(blk_cell BK105.out 2).trans rfl;have hcz18_3:w16.cell? ⟨gb105,3,none⟩ = some (.int .i64 0):=(blk_cell BK105.out 3).trans rfl;have hcz18_4:w16.cell? ⟨gb105,4,none⟩ = some (.slice none 0 0):=(blk_cell BK105.out 4).trans rfl;have hcz18_5:w16.cell? ⟨gb105,5,none⟩ = some (.int .i64 0):=(blk_cell BK105.out 5).trans rfl;have hfz18_0:=blk_frozen BK105.out 0;have hfz18_1:=blk_frozen BK105.out 1;have hfz18_2:=blk_frozen BK105.out 2;have hfz18_3:=blk_frozen BK105.out 3;have hfz18_4:=blk_frozen BK105.out 4;have hfz18_5:=blk_frozen BK105.out 5)|((with_reducible refine gate_store (t:=91) (p:=9) rfl ?_);refine store_event (t:=91) (p:=9) (v:=?vo_w19) (w1:=((((((w16.setCell ⟨gb105,0,none⟩ (.string ((rd_T91 l1 x24_2).f0.f0))).setCell ⟨gb105,1,none⟩ (.int .i64 ((rd_T91 l1 x24_2).f0.f1))).setCell ⟨gb105,2,none⟩ (.int .i64 ((rd_T91 l1 x24_2).f0.f2))).setCell ⟨gb105,3,none⟩ (.int .i64 ((rd_T91 l1 x24_2).f0.f3))).setCell ⟨gb105,4,none⟩ (.slice A104_4 ((rd_T91 l1 x24_2).f1).length c104_4)).setCell ⟨gb105,5,none⟩ (.int .i64 ((rd_T91 l1 x24_2).f2)))) ?hg ?ho ?hn ?hr ?_;(case ho=>rfl);(case hg=>rfl);(case hn=>rfl);(case hr=>first|(go_simp;done)|(go_simp;rfl));intro w19 hw;have n0_:Aside0 (Kd.V k91 91 w19 w.heap.size (fun k_=>(P1_ k_ ∨ w.heap.size ≤ k_) ∧ some k_ ≠ (u4:Value).ownBlock ∧ k_ ≠ gb103 ∧ k_ ≠ gb105) (.slice (some ad104) l1.length c1) l1):=⟨(by rw [hw];exact (by (with_reducible repeat (first|apply Kd.V_alloc|apply Kd.V_drewN|apply Kd.V_drew));exact Kd.V_mono (Kd.V_far (p:=⟨gb105,5,none⟩) (Kd.V_far (p:=⟨gb105,4,none⟩) (Kd.V_far (p:=⟨gb105,3,none⟩) (Kd.V_far (p:=⟨gb105,2,none⟩) (Kd.V_far (p:=⟨gb105,1,none⟩) (Kd.V_far (p:=⟨gb105,0,none⟩) (Kd.V_mono HO_1.out (fun k_ hk=>(⟨hk,hk.2⟩:_ ∧ k_ ≠ gb105))) (fun _ hk=>hk.2) (.string ((rd_T91 l1 x24_2).f0.f0))) (fun _ hk=>hk.2) (.int .i64 ((rd_T91 l1 x24_2).f0.f1))) (fun _ hk=>hk.2) (.int .i64 ((rd_T91 l1 x24_2).f0.f2))) (fun _ hk=>hk.2) (.int .i64 ((rd_T91 l1 x24_2).f0.f3))) (fun _ hk=>hk.2) (.slice A104_4 ((rd_T91 l1 x24_2).f1).length c104_4)) (fun _ hk=>hk.2) (.int .i64 ((rd_T91 l1 x24_2).f2))) (fun _ hk=>⟨hk.1.1.1,⟨hk.1.1.2.1,⟨hk.1.1.2.2,hk.1.2⟩⟩⟩)))⟩;have n1_:Aside0 (Kd.N k91 91 w19 w.heap.size (fun k_=>(P1_ k_ ∨ w.heap.size ≤ k_) ∧ k_ ≠ gb103 ∧ k_ ≠ gb105) u4 x4_2):=⟨(by rw [hw];exact (by (with_reducible repeat (first|apply Kd.N_alloc|apply Kd.N_drewN|apply Kd.N_drew));exact Kd.N_mono (Kd.N_far (p:=⟨gb105,5,none⟩) (Kd.N_far (p:=⟨gb105,4,none⟩) (Kd.N_far (p:=⟨gb105,3,none⟩) (Kd.N_far (p:=⟨gb105,2,none⟩) (Kd.N_far (p:=⟨gb105,1,none⟩) (Kd.N_far (p:=⟨gb105,0,none⟩) (Kd.N_mono HO_4.out (fun k_ hk=>(⟨hk,hk.2⟩:_ ∧ k_ ≠ gb105))) (fun _ hk=>hk.2) (.string ((rd_T91 l1 x24_2).f0.f0))) (fun _ hk=>hk.2) (.int .i64 ((rd_T91 l1 x24_2).f0.f1))) (fun _ hk=>hk.2) (.int .i64 ((rd_T91 l1 x24_2).f0.f2))) (fun _ hk=>hk.2) (.int .i64 ((rd_T91 l1 x24_2).f0.f3))) (fun _ hk=>hk.2) (.slice A104_4 ((rd_T91 l1 x24_2).f1).length c104_4)) (fun _ hk=>hk.2) (.int .i64 ((rd_T91 l1 x24_2).f2))) (fun _ hk=>⟨hk.1.1.1,⟨hk.1.1.2,hk.1.2⟩⟩)))⟩;have n2_:Aside0 (Kd.V k91 91 w19 w.heap.size (fun k_=>(P1_ k_ ∨ w.heap.size ≤ k_) ∧ some k_ ≠ (u4:Value).ownBlock ∧ k_ ≠ gb103 ∧ k_ ≠ gb105) (.slice (some ad104) l1.length c1) l1):=⟨(by rw [hw];exact (by (with_reducible repeat (first|apply Kd.V_alloc|apply Kd.V_drewN|apply Kd.V_drew));exact Kd.V_mono (Kd.V_far (p:=⟨gb105,5,none⟩) (Kd.V_far (p:=⟨gb105,4,none⟩) (Kd.V_far (p:=⟨gb105,3,none⟩) (Kd.V_far (p:=⟨gb105,2,none⟩) (Kd.V_far (p:=⟨gb105,1,none⟩) (Kd.V_far (p:=⟨gb105,0,none⟩) (Kd.V_mono HO_22.out (fun k_ hk=>(⟨hk,hk.2⟩:_ ∧ k_ ≠ gb105))) (fun _ hk=>hk.2) (.string ((rd_T91 l1 x24_2).f0.f0))) (fun _ hk=>hk.2) (.int .i64 ((rd_T91 l1 x24_2).f0.f1))) (fun _ hk=>hk.2) (.int .i64 ((rd_T91 l1 x24_2).f0.f2))) (fun _ hk=>hk.2) (.int .i64 ((rd_T91 l1 x24_2).f0.f3))) (fun _ hk=>hk.2) (.slice A104_4 ((rd_T91 l1 x24_2).f1).length c104_4)) (fun _ hk=>hk.2) (.int .i64 ((rd_T91 l1 x24_2).f2))) (fun _ hk=>⟨hk.1.1.1,⟨hk.1.1.2.1,⟨hk.1.1.2.2,hk.1.2⟩⟩⟩)))⟩;have n3_:Aside0 (Kd.V (Kd.int .i64) 3 w19 w.heap.size (fun k_=>(P1_ k_ ∨ w.heap.size ≤ k_) ∧ some k_ ≠ (u4:Value).ownBlock ∧ k_ ≠ gb103 ∧ k_ ≠ gb105) (.slice A104_4 ((rd_T91 l1 x24_2).f1).length c104_4) ((rd_T91 l1 x24_2).f1)):=⟨(by rw [hw];exact (by (with_reducible repeat (first|apply Kd.V_alloc|apply Kd.V_drewN|apply Kd.V_drew));exact Kd.V_mono (Kd.V_far (p:=⟨gb105,5,none⟩) (Kd.V_far (p:=⟨gb105,4,none⟩) (Kd.V_far (p:=⟨gb105,3,none⟩) (Kd.V_far (p:=⟨gb105,2,none⟩) (Kd.V_far (p:=⟨gb105,1,none⟩) (Kd.V_far (p:=⟨gb105,0,none⟩) (Kd.V_mono HL104_4.out (fun k_ hk=>(⟨hk,hk.2⟩:_ ∧ k_ ≠ gb105))) (fun _ hk=>hk.2) (.string ((rd_T91 l1 x24_2).f0.f0))) (fun _ hk=>hk.2) (.int .i64 ((rd_T91 l1 x24_2).f0.f1))) (fun _ hk=>hk.2) (.int .i64 ((rd_T91 l1 x24_2).f0.f2))) (fun _ hk=>hk.2) (.int .i64 ((rd_T91 l1 x24_2).f0.f3))) (fun _ hk=>hk.2) (.slice A104_4 ((rd_T91 l1 x24_2).f1).length c104_4)) (fun _ hk=>hk.2) (.int .i64 ((rd_T91 l1 x24_2).f2))) (fun _ hk=>⟨hk.1.1.1,⟨hk.1.1.2.1,⟨hk.1.1.2.2,hk.1.2⟩⟩⟩)))⟩;have n4_:Aside0 (w19.heap[gb103]? = some (.cells #[.string ((rd_T73 l0 x18_1).f0.f0),.int .i64 ((rd_T73 l0 x18_1).f0.f1),.int .i64 ((rd_T73 l0 x18_1).f0.f2),.int .i64 ((rd_T73 l0 x18_1).f0.f3),.int .i64 ((rd_T73 l0 x18_1).f1),.int .i64 ((rd_T73 l0 x18_1).f2)] 73 (0,0))):=⟨(by rw [hw];exact (by (with_reducible repeat (first|refine blk_drewN ?_ _|refine blk_drew ?_|refine blk_alloc ?_ _));refine blk_far ?_ NB103_105.out _;(with_reducible repeat (first|refine blk_drewN ?_ _|refine blk_drew ?_|refine blk_alloc ?_ _));refine blk_far ?_ NB103_105.out _;(with_reducible repeat (first|refine blk_drewN ?_ _|refine blk_drew ?_|refine blk_alloc ?_ _));refine blk_far ?_ NB103_105.out _;(with_reducible repeat (first|refine blk_drewN ?_ _|refine blk_drew ?_|refine blk_alloc ?_ _));refine blk_far ?_ NB103_105.out _;(with_reducible repeat (first|refine blk_drewN ?_ _|refine blk_drew ?_|refine blk_alloc ?_ _));refine blk_far ?_ NB103_105.out _;(with_reducible repeat (first|refine blk_drewN ?_ _|refine blk_drew ?_|refine blk_alloc ?_ _));refine blk_far ?_ NB103_105.out _;(with_reducible repeat (first|refine blk_drewN ?_ _|refine blk_drew ?_|refine blk_alloc ?_ _));exact BK103.out))⟩;have n5_:Aside0 (w19.heap[gb105]? = some (.cells #[.string ((rd_T91 l1 x24_2).f0.f0),.int .i64 ((rd_T91 l1 x24_2).f0.f1),.int .i64 ((rd_T91 l1 x24_2).f0.f2),.int .i64 ((rd_T91 l1 x24_2).f0.f3),.slice A104_4 ((rd_T91 l1 x24_2).f1).length c104_4,.int .i64 ((rd_T91 l1 x24_2).f2)] 91 (0,0))):=⟨(by rw [hw];exact (by (with_reducible repeat (first|refine blk_drewN ?_ _|refine blk_drew ?_|refine blk_alloc ?_ _));refine blk_put (cs:=#[.string ((rd_T91 l1 x24_2).f0.f0),.int .i64 ((rd_T91 l1 x24_2).f0.f1),.int .i64 ((rd_T91 l1 x24_2).f0.f2),.int .i64 ((rd_T91 l1 x24_2).f0.f3),.slice A104_4 ((rd_T91 l1 x24_2).f1).length c104_4,.int .i64 0]) ?_ 5 _ rfl;(with_reducible repeat (first|refine blk_drewN ?_ _|refine blk_drew ?_|refine blk_alloc ?_ _));refine blk_put (cs:=#[.string ((rd_T91 l1 x24_2).f0.f0),.int .i64 ((rd_T91 l1 x24_2).f0.f1),.int .i64 ((rd_T91 l1 x24_2).f0.f2),.int .i64 ((rd_T91 l1 x24_2).f0.f3),.slice none 0 0,.int .i64 0]) ?_ 4 _ rfl;(with_reducible repeat (first|refine blk_drewN ?_ _|refine blk_drew ?_|refine blk_alloc ?_ _));refine blk_put (cs:=#[.string ((rd_T91 l1 x24_2).f0.f0),.int .i64 ((rd_T91 l1 x24_2).f0.f1),.int .i64 ((rd_T91 l1 x24_2).f0.f2),.int .i64 0,.slice none 0 0,.int .i64 0]) ?_ 3 _ rfl;(with_reducible repeat (first|refine blk_drewN ?_ _|refine blk_drew ?_|refine blk_alloc ?_ _));refine blk_put (cs:=#[.string ((rd_T91 l1 x24_2).f0.f0),.int .i64 ((rd_T91 l1 x24_2).f0.f1),.int .i64 0,.int .i64 0,.slice none 0 0,.int .i64 0]) ?_ 2 _ rfl;(with_reducible repeat (first|refine blk_drewN ?_ _|refine blk_drew ?_|refine blk_alloc ?_ _));refine blk_put (cs:=#[.string ((rd_T91 l1 x24_2).f0.f0),.int .i64 0,.int .i64 0,.int .i64 0,.slice none 0 0,.int .i64 0]) ?_ 1 _ rfl;(with_reducible repeat (first|refine blk_drewN ?_ _|refine blk_drew ?_|refine blk_alloc ?_ _));refine blk_put (cs:=#[.string (⟨#[]⟩:ByteArray),.int .i64 0,.int .i64 0,.int .i64 0,.slice none 0 0,.int .i64 0]) ?_ 0 _ rfl;(with_reducible repeat (first|refine blk_drewN ?_ _|refine blk_drew ?_|refine blk_alloc ?_ _));exact BK105.out))⟩;have n6_:Aside0 (Below w.heap.size w w19):=⟨(by rw [hw];exact (by repeat (first|(with_reducible first|exact HB.out|apply below_alloc|apply pw_below_drewN|apply below_drew1|refine below_set ?_ GE103.out|refine below_set ?_ GE105.out)|exact HB.out)))⟩;clear hw;clear HO_1;clear HO_4;clear HO_22;clear HL104_4;clear BK103;clear BK105;clear HB;have HO_1:=n0_;have HO_4:=n1_;have HO_22:=n2_;have HL104_4:=n3_;have BK103:=n4_;have BK105:=n5_;have HB:=n6_;clear n0_ n1_ n2_ n3_ n4_ n5_ n6_;have hcz20_0:w19.cell? ⟨gb105,0,none⟩ = some (.string ((rd_T91 l1 x24_2).f0.f0)):=(blk_cell BK105.out 0).trans rfl;have hcz20_1:w19.cell? ⟨gb105,1,none⟩ = some (.int .i64 ((rd_T91 l1 x24_2).f0.f1)):=(blk_cell BK105.out 1).trans rfl;have hcz20_2:w19.cell? ⟨gb105,2,none⟩ = some (.int .i64 ((rd_T91 l1 x24_2).f0.f2)):=(blk_cell BK105.out 2).trans rfl;have hcz20_3:w19.cell? ⟨gb105,3,none⟩ = some (.int .i64 ((rd_T91 l1 x24_2).f0.f3)):=(blk_cell BK105.out 3).trans rfl;have hcz20_4:w19.cell? ⟨gb105,4,none⟩ = some (.slice A104_4 ((rd_T91 l1 x24_2).f1).length c104_4):=(blk_cell BK105.out 4).trans rfl;have hcz20_5:w19.cell? ⟨gb105,5,none⟩ = some (.int .i64 ((rd_T91 l1 x24_2).f2)):=(blk_cell BK105.out 5).trans rfl;have hfz20_0:=blk_frozen BK105.out 0;have hfz20_1:=blk_frozen BK105.out 1;have hfz20_2:=blk_frozen BK105.out 2;have hfz20_3:=blk_frozen BK105.out 3;have hfz20_4:=blk_frozen BK105.out 4;have hfz20_5:=blk_frozen BK105.out 5;have hcz21_0:w19.cell? ⟨gb103,0,none⟩ = some (.string ((rd_T73 l0 x18_1).f0.f0)):=(blk_cell BK103.out 0).trans rfl;have hcz21_1:w19.cell? ⟨gb103,1,none⟩ = some (.int .i64 ((rd_T73 l0 x18_1).f0.f1)):=(blk_cell BK103.out 1).trans rfl;have hcz21_2:w19.cell? ⟨gb103,2,none⟩ = some (.int .i64 ((rd_T73 l0 x18_1).f0.f2)):=(blk_cell BK103.out 2).trans rfl;have hcz21_3:w19.cell? ⟨gb103,3,none⟩ = some (.int .i64 ((rd_T73 l0 x18_1).f0.f3)):=(blk_cell BK103.out 3).trans rfl;have hcz21_4:w19.cell? ⟨gb103,4,none⟩ = some (.int .i64 ((rd_T73 l0 x18_1).f1)):=(blk_cell BK103.out 4).trans rfl;have hcz21_5:w19.cell? ⟨gb103,5,none⟩ = some (.int .i64 ((rd_T73 l0 x18_1).f2)):=(blk_cell BK103.out 5).trans rfl;have hfz21_0:=blk_frozen BK103.out 0;have hfz21_1:=blk_frozen BK103.out 1;have hfz21_2:=blk_frozen BK103.out 2;have hfz21_3:=blk_frozen BK103.out 3;have hfz21_4:=blk_frozen BK103.out 4;have hfz21_5:=blk_frozen BK103.out 5)|((with_reducible refine gate_builtin (b:=.append) (xs:=#[.tmp 33,.tmp 35]) rfl ?_);at_builtin;refine Kd.N_append k91 (w0:=w) w.heap.size rfl (.tmp 33) (.tmp 35) 56 91 (.agg #[(.string ⟨#[]⟩),(.int .i64 0),(.int .i64 0),(.int .i64 0),(.slice none 0 0),(.int .i64 0)]) 72 rfl Try.underlying56 info91 rfl (by decide) (by omega) u4 x4_2 (⟨(⟨(rd_T91 l1 x24_2).f0.f0,(rd_T91 l1 x24_2).f0.f1,(rd_T91 l1 x24_2).f0.f2,(rd_T91 l1 x24_2).f0.f3⟩:S39),(rd_T91 l1 x24_2).f1,(rd_T91 l1 x24_2).f2⟩:S91) [.string ((rd_T91 l1 x24_2).f0.f0),.int .i64 ((rd_T91 l1 x24_2).f0.f1),.int .i64 ((rd_T91 l1 x24_2).f0.f2),.int .i64 ((rd_T91 l1 x24_2).f0.f3),.slice A104_4 ((rd_T91 l1 x24_2).f1).length c104_4,.int .i64 ((rd_T91 l1 x24_2).f2)] (fun k_=>(P1_ k_ ∨ w.heap.size ≤ k_) ∧ k_ ≠ gb103 ∧ k_ ≠ gb105) (fun k_=>((fun k_=>(P1_ k_ ∨ w.heap.size ≤ k_) ∧ k_ ≠ gb103 ∧ k_ ≠ gb105)) k_ ∧ some k_ ≠ (u4:Value).ownBlock) rfl rfl ?aP (fun _ hk=>hk) ?aF ?aO ?aB ?aS ?aL ?_;(case aP=>exact (k91_mkF _ _ (⟨(⟨(rd_T91 l1 x24_2).f0.f0,(rd_T91 l1 x24_2).f0.f1,(rd_T91 l1 x24_2).f0.f2,(rd_T91 l1 x24_2).f0.f3⟩:S39),(rd_T91 l1 x24_2).f1,(rd_T91 l1 x24_2).f2⟩:S91) (Kd.V_reads' (Kd.V_mono (ok':=(fun k_=>((fun k_=>(P1_ k_ ∨ w.heap.size ≤ k_) ∧ k_ ≠ gb103 ∧ k_ ≠ gb105)) k_ ∧ some k_ ≠ (u4:Value).ownBlock)) (HL104_4.out) (fun k_ hk=>⟨⟨hk.1,⟨hk.2.2.1,hk.2.2.2⟩⟩,hk.2.1⟩))).2.1 (Kd.V_F (Kd.V_mono (ok':=(fun k_=>((fun k_=>(P1_ k_ ∨ w.heap.size ≤ k_) ∧ k_ ≠ gb103 ∧ k_ ≠ gb105)) k_ ∧ some k_ ≠ (u4:Value).ownBlock)) (HL104_4.out) (fun k_ hk=>⟨⟨hk.1,⟨hk.2.2.1,hk.2.2.2⟩⟩,hk.2.1⟩)))));(case aB=>exact (by repeat (first|(with_reducible first|exact HB.out|apply below_alloc|apply pw_below_drewN|apply below_drew1|refine below_set ?_ GE103.out|refine below_set ?_ GE105.out)|exact HB.out)));(case aF=>exact (fun k_ hk=>⟨(.inr (Nat.le_trans (below_size (by repeat (first|(with_reducible first|exact HB.out|apply below_alloc|apply pw_below_drewN|apply below_drew1|refine below_set ?_ GE103.out|refine below_set ?_ GE105.out)|exact HB.out))) hk)),Kd.freshB (g:=gb103) (o:=.cells #[.string ((rd_T73 l0 x18_1).f0.f0),.int .i64 ((rd_T73 l0 x18_1).f0.f1),.int .i64 ((rd_T73 l0 x18_1).f0.f2),.int .i64 ((rd_T73 l0 x18_1).f0.f3),.int .i64 ((rd_T73 l0 x18_1).f1),.int .i64 ((rd_T73 l0 x18_1).f2)] 73 (0,0)) (by (with_reducible repeat (first|refine blk_drewN ?_ _|refine blk_drew ?_|refine blk_alloc ?_ _));exact BK103.out) k_ hk,Kd.freshB (g:=gb105) (o:=.cells #[.string ((rd_T91 l1 x24_2).f0.f0),.int .i64 ((rd_T91 l1 x24_2).f0.f1),.int .i64 ((rd_T91 l1 x24_2).f0.f2),.int .i64 ((rd_T91 l1 x24_2).f0.f3),.slice A104_4 ((rd_T91 l1 x24_2).f1).length c104_4,.int .i64 ((rd_T91 l1 x24_2).f2)] 91 (0,0)) (by (with_reducible repeat (first|refine blk_drewN ?_ _|refine blk_drew ?_|refine blk_alloc ?_ _));exact BK105.out) k_ hk⟩));(case aO=>exact (by (with_reducible repeat (first|apply Kd.N_alloc|apply Kd.N_drewN|apply Kd.N_drew));exact HO_4.out));(case aS=>exact (below_size (by repeat (first|(with_reducible first|exact HB.out|apply below_alloc|apply pw_below_drewN|apply below_drew1|refine below_set ?_ GE103.out|refine below_set ?_ GE105.out)|exact HB.out))));(case aL=>have:=LMc15.out;omega);intro v107 w22 ho hb hg hat;rw [← Ny106.out] at ho;have n0_:=Aside0.mk (Kd.V_afterv (ok:=(fun k_=>(P1_ k_ ∨ w.heap.size ≤ k_) ∧ k_ ≠ gb103 ∧ k_ ≠ gb105)) (by (with_reducible repeat (first|apply Kd.V_alloc|apply Kd.V_drewN|apply Kd.V_drew));exact Kd.V_mono HO_1.out (fun _ hk=>⟨⟨hk.1,⟨hk.2.2.1,hk.2.2.2⟩⟩,hk.2.1⟩)) hg hat);have n1_:=Aside0.mk (Kd.V_afterv (ok:=(fun k_=>(P1_ k_ ∨ w.heap.size ≤ k_) ∧ k_ ≠ gb103 ∧ k_ ≠ gb105)) (by (with_reducible repeat (first|apply Kd.V_alloc|apply Kd.V_drewN|apply Kd.V_drew));exact Kd.V_mono HO_22.out (fun _ hk=>⟨⟨hk.1,⟨hk.2.2.1,hk.2.2.2⟩⟩,hk.2.1⟩)) hg hat);have n2_:=Aside0.mk (blk_grown (g:=gb103) (o:=.cells #[.string ((rd_T73 l0 x18_1).f0.f0),.int .i64 ((rd_T73 l0 x18_1).f0.f1),.int .i64 ((rd_T73 l0 x18_1).f0.f2),.int .i64 ((rd_T73 l0 x18_1).f0.f3),.int .i64 ((rd_T73 l0 x18_1).f1),.int .i64 ((rd_T73 l0 x18_1).f2)] 73 (0,0)) (by (with_reducible repeat (first|refine blk_drewN ?_ _|refine blk_drew ?_|refine blk_alloc ?_ _));exact BK103.out) hg (Kd.N_ne HO_4.out BK103.out (by decide)));have n3_:=Aside0.mk (Kd.V_afterv (ok:=(fun k_=>(P1_ k_ ∨ w.heap.size ≤ k_) ∧ k_ ≠ gb103 ∧ k_ ≠ gb105)) (by (with_reducible repeat (first|apply Kd.V_alloc|apply Kd.V_drewN|apply Kd.V_drew));exact Kd.V_mono HL104_4.out (fun _ hk=>⟨⟨hk.1,⟨hk.2.2.1,hk.2.2.2⟩⟩,hk.2.1⟩)) hg hat);have n4_:=Aside0.mk (blk_grown (g:=gb105) (o:=.cells #[.string ((rd_T91 l1 x24_2).f0.f0),.int .i64 ((rd_T91 l1 x24_2).f0.f1),.int .i64 ((rd_T91 l1 x24_2).f0.f2),.int .i64 ((rd_T91 l1 x24_2).f0.f3),.slice A104_4 ((rd_T91 l1 x24_2).f1).length c104_4,.int .i64 ((rd_T91 l1 x24_2).f2)] 91 (0,0)) (by (with_reducible repeat (first|refine blk_drewN ?_ _|refine blk_drew ?_|refine blk_alloc ?_ _));exact BK105.out) hg (Kd.N_away HO_4.out (fun _ hk=>hk.2.2)));have n5_:=Aside0.mk (hb);have n6_:=Aside0.mk (ho);clear HO_1;clear HO_22;clear BK103;clear HL104_4;clear BK105;clear HB;clear HO_4;have HO_1:=n0_;have HO_22:=n1_;have BK103:=n2_;have HL104_4:=n3_;have BK105:=n4_;have HB:=n5_;have HO108:=n6_;clear n0_ n1_ n2_ n3_ n4_ n5_ n6_;clear ho hb hg hat))
              go_roundg k2
              case measure=>have:=HK1.out;have:=HK2.out;omega
              case rel=>exact ⟨(y106),(wrap64 (x18_1 + 1)),(by first|rfl|(simp;done)|(simp [*];done)),H',⟨by have:=HK1.out;have:=HK2.out;omega⟩,⟨by (with_reducible repeat (first|apply Kd.V_alloc|apply Kd.V_drewN|apply Kd.V_drew));exact Kd.V_mono HO_1.out (fun _ hk=>⟨hk.1.1,hk.2⟩)⟩,⟨by (with_reducible repeat (first|apply Kd.N_alloc|apply Kd.N_drewN|apply Kd.N_drew));exact Kd.N_mono HO108.out (fun _ hk=>hk.1)⟩,⟨by repeat (first|(with_reducible first|exact HB.out|apply below_alloc|apply pw_below_drewN|apply below_drew1|refine below_set ?_ GE103.out|refine below_set ?_ GE105.out)|exact HB.out)⟩⟩
             ·rw [if_neg c15] at H
              exact absurd H (by simp)
            ·rw [if_neg c14] at H
             have c14b0:((((rd_T91 l1 x24_2).f0.f0).toList) == ((rd_T73 l0 x18_1).f0.f0).toList && (((rd_T91 l1 x24_2).f0.f1) == ((rd_T73 l0 x18_1).f0.f1) && (((rd_T91 l1 x24_2).f0.f2) == ((rd_T73 l0 x18_1).f0.f2) && (((rd_T91 l1 x24_2).f0.f3) == ((rd_T73 l0 x18_1).f0.f3))))) = false:=by simpa using c14
             (try (have c14b1:decide ((((rd_T91 l1 x24_2).f0.f0).toList) = ((rd_T73 l0 x18_1).f0.f0).toList && (((rd_T91 l1 x24_2).f0.f1) == ((rd_T73 l0 x18_1).f0.f1) && (((rd_T91 l1 x24_2).f0.f2) == ((rd_T73 l0 x18_1).f0.f2) && (((rd_T91 l1 x24_2).f0.f3) == ((rd_T73 l0 x18_1).f0.f3))))) = false:=by simpa using c14))
             (try (have c14b2:((((rd_T91 l1 x24_2).f0.f0).toList) == ((rd_T73 l0 x18_1).f0.f0).toList && (((rd_T91 l1 x24_2).f0.f1) == ((rd_T73 l0 x18_1).f0.f1) && (((rd_T91 l1 x24_2).f0.f2) == ((rd_T73 l0 x18_1).f0.f2) && (((rd_T91 l1 x24_2).f0.f3) == ((rd_T73 l0 x18_1).f0.f3))))) = false:=by simpa using c14))
             (try (have c14b3:¬ ((((rd_T91 l1 x24_2).f0.f0).toList) = ((rd_T73 l0 x18_1).f0.f0).toList && (((rd_T91 l1 x24_2).f0.f1) == ((rd_T73 l0 x18_1).f0.f1) && (((rd_T91 l1 x24_2).f0.f2) == ((rd_T73 l0 x18_1).f0.f2) && (((rd_T91 l1 x24_2).f0.f3) == ((rd_T73 l0 x18_1).f0.f3))))):=by simpa using c14))
             clear c14
             have H':=Aside0.mk H
             clear H
             have p104:0 ≤ (x24_2:Int):=of_decide_eq_true (by first|(with_reducible assumption)|assumption)
             have q104:x24_2 < (l1.length:Int):=of_decide_eq_true (by first|(with_reducible assumption)|assumption)
             obtain ⟨ad104,A104_4,c104_4,e104,hx104_0,hx104_1,hx104_2,hx104_3,hx104_4,hx104_5,hl104_4,hi104_4⟩:=at_T91 (Kd.V_reads' HO_22.out).2.2 x24_2 p104 q104
             cases e104
             obtain ⟨ce104,hce104,hMe104,hcc104⟩:=Kd.V_get HO_22.out z91 x24_2 p104 (by first|exact q104|exact of_decide_eq_true (by first|(with_reducible assumption)|assumption)|(have e_:=(Kd.V_reads' HO_22.out).1;omega))
             obtain ⟨ua104_4,uc104_4,rfl,ul104_4,ge104_4⟩:=k91_openF hMe104
             have hv104_4:=hcc104 4 _ rfl
             rw [add_field _ _ 4 (by omega)] at hv104_4
             replace hv104_4:=Option.some.inj (hv104_4.symm.trans hx104_4)
             injection hv104_4 with hva_ hvn_ hvc_
             rw [hva_] at ge104_4
             rw [hvc_] at ul104_4
             have HL104_4:=Aside0.mk (show Kd.V (Kd.int .i64) 3 _ w.heap.size _ _ ((rd_T91 l1 x24_2).f1) from Kd.V_mk ul104_4 ge104_4)
             clear hva_ hvn_ hvc_ ge104_4 ul104_4
             clear hcc104 hce104
             have HR104_4:=Aside0.mk hi104_4
             have HC104_4:=Aside0.mk hl104_4
             clear hi104_4 hl104_4
             replace p104:=eq_true p104
             replace q104:=eq_true q104
             go_wp2_with (first|((with_reducible refine gate_dst (N:=9) rfl ?_);refine box_event ?hg (N:=9) ?hd (cs:=#[.string (⟨#[]⟩:ByteArray),.int .i64 0,.int .i64 0,.int .i64 0,.slice none 0 0,.int .i64 0]) (t:=91) ?hr ?_;(case hd=>rfl);(case hg=>rfl);(case hr=>first|(go_simp;done)|(go_simp;rfl));intro gb105 hg w23 hbox hb;have n0_:=Aside0.mk (Kd.V_below (Kd.V_elderB (by (with_reducible repeat (first|apply Kd.V_alloc|apply Kd.V_drewN|apply Kd.V_drew));exact HO_1.out) gb105 (Nat.le_of_eq hg.symm)) hb);have n1_:=Aside0.mk (Kd.N_below (Kd.N_elderB (by (with_reducible repeat (first|apply Kd.N_alloc|apply Kd.N_drewN|apply Kd.N_drew));exact HO_4.out) gb105 (Nat.le_of_eq hg.symm)) hb);have n2_:=Aside0.mk (Kd.V_below (Kd.V_elderB (by (with_reducible repeat (first|apply Kd.V_alloc|apply Kd.V_drewN|apply Kd.V_drew));exact HO_22.out) gb105 (Nat.le_of_eq hg.symm)) hb);have n3_:=Aside0.mk (Kd.V_below (Kd.V_elderB (by (with_reducible repeat (first|apply Kd.V_alloc|apply Kd.V_drewN|apply Kd.V_drew));exact HL104_4.out) gb105 (Nat.le_of_eq hg.symm)) hb);have n4_:=Aside0.mk (blk_below (g:=gb103) (o:=.cells #[.string ((rd_T73 l0 x18_1).f0.f0),.int .i64 ((rd_T73 l0 x18_1).f0.f1),.int .i64 ((rd_T73 l0 x18_1).f0.f2),.int .i64 ((rd_T73 l0 x18_1).f0.f3),.int .i64 ((rd_T73 l0 x18_1).f1),.int .i64 ((rd_T73 l0 x18_1).f2)] 73 (0,0)) (by (with_reducible repeat (first|refine blk_drewN ?_ _|refine blk_drew ?_|refine blk_alloc ?_ _));exact BK103.out) hb);have n5_:=Aside0.mk (Kd.C_below (by repeat (first|(with_reducible exact HR104_4.out)|(with_reducible refine Kd.C_alloc ?_ _)|(with_reducible refine Kd.C_drewN ?_ _)|(with_reducible refine Kd.C_drew ?_)|exact HR104_4.out)) hb);have n6_:=Aside0.mk (below_step (by repeat (first|(with_reducible first|exact HB.out|apply below_alloc|apply pw_below_drewN|apply below_drew1|refine below_set ?_ GE103.out)|exact HB.out)) hb);have n7_:=Aside0.mk (hbox);have n8_:=Aside0.mk ((by rw [hg];exact (below_size (by repeat (first|(with_reducible first|exact HB.out|apply below_alloc|apply pw_below_drewN|apply below_drew1|refine below_set ?_ GE103.out)|exact HB.out))):w.heap.size ≤ gb105));have n9_:=Aside0.mk ((by rw [hg];exact (below_size (by repeat (first|(with_reducible first|exact HB.out|apply below_alloc|apply pw_below_drewN|apply below_drew1|refine below_set ?_ GE103.out)|exact HB.out))):w.heap.size ≤ gb105));have n10_:=Aside0.mk ((by rw [hg];exact Nat.ne_of_lt (blk_lt (g:=gb103) (o:=.cells #[.string ((rd_T73 l0 x18_1).f0.f0),.int .i64 ((rd_T73 l0 x18_1).f0.f1),.int .i64 ((rd_T73 l0 x18_1).f0.f2),.int .i64 ((rd_T73 l0 x18_1).f0.f3),.int .i64 ((rd_T73 l0 x18_1).f1),.int .i64 ((rd_T73 l0 x18_1).f2)] 73 (0,0)) (by (with_reducible repeat (first|refine blk_drewN ?_ _|refine blk_drew ?_|refine blk_alloc ?_ _));exact BK103.out)):gb103 ≠ gb105));have n11_:=Aside0.mk ((by rw [hg];exact Nat.ne_of_gt (blk_lt (g:=gb103) (o:=.cells #[.string ((rd_T73 l0 x18_1).f0.f0),.int .i64 ((rd_T73 l0 x18_1).f0.f1),.int .i64 ((rd_T73 l0 x18_1).f0.f2),.int .i64 ((rd_T73 l0 x18_1).f0.f3),.int .i64 ((rd_T73 l0 x18_1).f1),.int .i64 ((rd_T73 l0 x18_1).f2)] 73 (0,0)) (by (with_reducible repeat (first|refine blk_drewN ?_ _|refine blk_drew ?_|refine blk_alloc ?_ _));exact BK103.out)):gb105 ≠ gb103));clear HO_1;clear HO_4;clear HO_22;clear HL104_4;clear BK103;clear HR104_4;clear HB;have HO_1:=n0_;have HO_4:=n1_;have HO_22:=n2_;have HL104_4:=n3_;have BK103:=n4_;have HR104_4:=n5_;have HB:=n6_;have BK105:=n7_;have GW105:=n8_;have GE105:=n9_;have NB103_105:=n10_;have NB105_103:=n11_;clear n0_ n1_ n2_ n3_ n4_ n5_ n6_ n7_ n8_ n9_ n10_ n11_;clear hb hbox hg;have hnb24:=NB105_103.out;have hnc24:=NB103_105.out;have hcz25_0:w23.cell? ⟨gb105,0,none⟩ = some (.string (⟨#[]⟩:ByteArray)):=(blk_cell BK105.out 0).trans rfl;have hcz25_1:w23.cell? ⟨gb105,1,none⟩ = some (.int .i64 0):=(blk_cell BK105.out 1).trans rfl;have hcz25_2:w23.cell? ⟨gb105,2,none⟩ = some (.int .i64 0):=(blk_cell BK105.out 2).trans rfl;have hcz25_3:w23.cell? ⟨gb105,3,none⟩ = some (.int .i64 0):=(blk_cell BK105.out 3).trans rfl;have hcz25_4:w23.cell? ⟨gb105,4,none⟩ = some (.slice none 0 0):=(blk_cell BK105.out 4).trans rfl;have hcz25_5:w23.cell? ⟨gb105,5,none⟩ = some (.int .i64 0):=(blk_cell BK105.out 5).trans rfl;have hfz25_0:=blk_frozen BK105.out 0;have hfz25_1:=blk_frozen BK105.out 1;have hfz25_2:=blk_frozen BK105.out 2;have hfz25_3:=blk_frozen BK105.out 3;have hfz25_4:=blk_frozen BK105.out 4;have hfz25_5:=blk_frozen BK105.out 5;have hcz26_0:w23.cell? ⟨gb103,0,none⟩ = some (.string ((rd_T73 l0 x18_1).f0.f0)):=(blk_cell BK103.out 0).trans rfl;have hcz26_1:w23.cell? ⟨gb103,1,none⟩ = some (.int .i64 ((rd_T73 l0 x18_1).f0.f1)):=(blk_cell BK103.out 1).trans rfl;have hcz26_2:w23.cell? ⟨gb103,2,none⟩ = some (.int .i64 ((rd_T73 l0 x18_1).f0.f2)):=(blk_cell BK103.out 2).trans rfl;have hcz26_3:w23.cell? ⟨gb103,3,none⟩ = some (.int .i64 ((rd_T73 l0 x18_1).f0.f3)):=(blk_cell BK103.out 3).trans rfl;have hcz26_4:w23.cell? ⟨gb103,4,none⟩ = some (.int .i64 ((rd_T73 l0 x18_1).f1)):=(blk_cell BK103.out 4).trans rfl;have hcz26_5:w23.cell? ⟨gb103,5,none⟩ = some (.int .i64 ((rd_T73 l0 x18_1).f2)):=(blk_cell BK103.out 5).trans rfl;have hfz26_0:=blk_frozen BK103.out 0;have hfz26_1:=blk_frozen BK103.out 1;have hfz26_2:=blk_frozen BK103.out 2;have hfz26_3:=blk_frozen BK103.out 3;have hfz26_4:=blk_frozen BK103.out 4;have hfz26_5:=blk_frozen BK103.out 5))
             go_roundg k2
             case measure=>have:=HK1.out;have:=HK2.out;omega
             case rel=>exact ⟨(x4_2),(wrap64 (x24_2 + 1)),(by first|rfl|(simp;done)|(simp [*];done)),H',⟨by have:=HK1.out;have:=HK2.out;omega⟩,⟨by (with_reducible repeat (first|apply Kd.V_alloc|apply Kd.V_drewN|apply Kd.V_drew));exact Kd.V_mono (Kd.V_far (p:=⟨gb105,5,none⟩) (Kd.V_far (p:=⟨gb105,4,none⟩) (Kd.V_far (p:=⟨gb105,3,none⟩) (Kd.V_far (p:=⟨gb105,2,none⟩) (Kd.V_far (p:=⟨gb105,1,none⟩) (Kd.V_far (p:=⟨gb105,0,none⟩) (Kd.V_mono HO_1.out (fun k_ hk=>(⟨hk,hk.2⟩:_ ∧ k_ ≠ gb105))) (fun _ hk=>hk.2) (.string ((rd_T91 l1 x24_2).f0.f0))) (fun _ hk=>hk.2) (.int .i64 ((rd_T91 l1 x24_2).f0.f1))) (fun _ hk=>hk.2) (.int .i64 ((rd_T91 l1 x24_2).f0.f2))) (fun _ hk=>hk.2) (.int .i64 ((rd_T91 l1 x24_2).f0.f3))) (fun _ hk=>hk.2) (.slice A104_4 ((rd_T91 l1 x24_2).f1).length c104_4)) (fun _ hk=>hk.2) (.int .i64 ((rd_T91 l1 x24_2).f2))) (fun _ hk=>⟨hk.1.1.1,⟨hk.1.1.2.1,hk.1.1.2.2⟩⟩)⟩,⟨by (with_reducible repeat (first|apply Kd.N_alloc|apply Kd.N_drewN|apply Kd.N_drew));exact Kd.N_mono (Kd.N_far (p:=⟨gb105,5,none⟩) (Kd.N_far (p:=⟨gb105,4,none⟩) (Kd.N_far (p:=⟨gb105,3,none⟩) (Kd.N_far (p:=⟨gb105,2,none⟩) (Kd.N_far (p:=⟨gb105,1,none⟩) (Kd.N_far (p:=⟨gb105,0,none⟩) (Kd.N_mono HO_4.out (fun k_ hk=>(⟨hk,hk.2⟩:_ ∧ k_ ≠ gb105))) (fun _ hk=>hk.2) (.string ((rd_T91 l1 x24_2).f0.f0))) (fun _ hk=>hk.2) (.int .i64 ((rd_T91 l1 x24_2).f0.f1))) (fun _ hk=>hk.2) (.int .i64 ((rd_T91 l1 x24_2).f0.f2))) (fun _ hk=>hk.2) (.int .i64 ((rd_T91 l1 x24_2).f0.f3))) (fun _ hk=>hk.2) (.slice A104_4 ((rd_T91 l1 x24_2).f1).length c104_4)) (fun _ hk=>hk.2) (.int .i64 ((rd_T91 l1 x24_2).f2))) (fun _ hk=>⟨hk.1.1.1,hk.1.1.2⟩)⟩,⟨by (with_reducible repeat (first|apply Kd.V_alloc|apply Kd.V_drewN|apply Kd.V_drew));exact Kd.V_mono (Kd.V_far (p:=⟨gb105,5,none⟩) (Kd.V_far (p:=⟨gb105,4,none⟩) (Kd.V_far (p:=⟨gb105,3,none⟩) (Kd.V_far (p:=⟨gb105,2,none⟩) (Kd.V_far (p:=⟨gb105,1,none⟩) (Kd.V_far (p:=⟨gb105,0,none⟩) (Kd.V_mono HO_22.out (fun k_ hk=>(⟨hk,hk.2⟩:_ ∧ k_ ≠ gb105))) (fun _ hk=>hk.2) (.string ((rd_T91 l1 x24_2).f0.f0))) (fun _ hk=>hk.2) (.int .i64 ((rd_T91 l1 x24_2).f0.f1))) (fun _ hk=>hk.2) (.int .i64 ((rd_T91 l1 x24_2).f0.f2))) (fun _ hk=>hk.2) (.int .i64 ((rd_T91 l1 x24_2).f0.f3))) (fun _ hk=>hk.2) (.slice A104_4 ((rd_T91 l1 x24_2).f1).length c104_4)) (fun _ hk=>hk.2) (.int .i64 ((rd_T91 l1 x24_2).f2))) (fun _ hk=>⟨hk.1.1.1,⟨hk.1.1.2.1,hk.1.1.2.2⟩⟩)⟩,⟨by (with_reducible repeat (first|refine blk_drewN ?_ _|refine blk_drew ?_|refine blk_alloc ?_ _));refine blk_far ?_ NB103_105.out _;(with_reducible repeat (first|refine blk_drewN ?_ _|refine blk_drew ?_|refine blk_alloc ?_ _));refine blk_far ?_ NB103_105.out _;(with_reducible repeat (first|refine blk_drewN ?_ _|refine blk_drew ?_|refine blk_alloc ?_ _));refine blk_far ?_ NB103_105.out _;(with_reducible repeat (first|refine blk_drewN ?_ _|refine blk_drew ?_|refine blk_alloc ?_ _));refine blk_far ?_ NB103_105.out _;(with_reducible repeat (first|refine blk_drewN ?_ _|refine blk_drew ?_|refine blk_alloc ?_ _));refine blk_far ?_ NB103_105.out _;(with_reducible repeat (first|refine blk_drewN ?_ _|refine blk_drew ?_|refine blk_alloc ?_ _));refine blk_far ?_ NB103_105.out _;(with_reducible repeat (first|refine blk_drewN ?_ _|refine blk_drew ?_|refine blk_alloc ?_ _));exact BK103.out⟩,⟨by repeat (first|(with_reducible first|exact HB.out|apply below_alloc|apply pw_below_drewN|apply below_drew1|refine below_set ?_ GE103.out|refine below_set ?_ GE105.out)|exact HB.out)⟩⟩
           ·rw [if_neg c13] at H
            exact absurd H (by simp)
          ·rw [if_neg c12] at H
           exact absurd H (by simp)
         ·rw [if_neg c11] at H
          have c11b0:decide (x24_2 < (l1.length:Int)) = false:=decide_eq_false c11
          clear c11
          simp only [Option.some.injEq,Prod.mk.injEq] at H
          obtain ⟨rfl,rfl⟩:=H
          go_wp2
          try (go_step3;go_wp2)
          try (go_step3;go_wp2)
          try rw [Exit.noGoto_ret]
          go_ret2
          exact ⟨_,by first|rfl|(simp [errW_none,errW_some] <;> rfl)|(simp [*,errW_none,errW_some] <;> rfl),by first|exact Kd.S_nil _ _ _ _ _|exact Kd.N_nil _ _ _ _ _|exact Kd.V_nil _ _ _ _ _|exact Kd.Q_nil _ _ _ _ _|exact Kd.R_nil _ _ _ _ _,by repeat (first|(with_reducible first|exact HB.out|apply below_alloc|apply pw_below_drewN|apply below_drew1|refine below_set ?_ GE103.out)|exact HB.out)⟩
      ·rw [if_neg c8] at H
       exact absurd H (by simp)
     ·rw [if_neg c7] at H
      exact absurd H (by simp)
    ·rw [if_neg c6] at H
     have c6b0:decide (x18_1 < (l0.length:Int)) = false:=decide_eq_false c6
     clear c6
     simp only [Option.some.injEq,Prod.mk.injEq] at H
     obtain ⟨rfl,rfl⟩:=H
     go_wp2
     try (go_step3;go_wp2)
     try (go_step3;go_wp2)
     try rw [Exit.noGoto_ret]
     go_ret2
     exact ⟨_,by first|rfl|(simp [errW_none,errW_some] <;> rfl)|(simp [*,errW_none,errW_some] <;> rfl),by (with_reducible repeat (first|apply Kd.N_alloc|apply Kd.N_drewN|apply Kd.N_drew));exact HO_4.out,by repeat (first|(with_reducible first|exact HB.out|apply below_alloc|apply pw_below_drewN|apply below_drew1)|exact HB.out)⟩
 ·rw [if_neg c4] at H
  have c4b0:(t101 == 0) = false:=beq_eq_false_iff_ne.mpr c4
  have c4b1:(t101 != 0) = true:=bne_iff_ne.mpr c4
  simp only [Option.some.injEq,Prod.mk.injEq] at H
  obtain ⟨rfl,rfl⟩:=H
  go_enter Try.func57,Try.ntmps57
  go_wp2_with (first|((with_reducible refine gate_callee (f:=79) rfl ?_);refine goesL_ (some 12) rfl rfl Try.func79 (by kernel_rfl) rfl #[.slice A0 l0.length c0,.slice A1 l1.length c1] rfl (by (try simp only [List.map_toArray,List.map_cons,List.map_nil]);first|done|rfl|(simp only [List.length_drop,List.length_take];rfl)) ?_;(with_reducible refine (scan_both.calls k _ _ l0 _ _ l1 t101 _ ?side1 ?side2 ?side3 ?side4 A3.out).mono ?_);(case side1=>repeat (first|exact HR0.out|(with_reducible refine Kd.C_alloc ?_ _)|(with_reducible refine Kd.C_drewN ?_ _)|(with_reducible refine Kd.C_drew ?_)));(case side2=>exact HC0.out);(case side3=>repeat (first|exact (Kd.V_reads' HO1.out).2.2|(with_reducible refine Kd.C_alloc ?_ _)|(with_reducible refine Kd.C_drewN ?_ _)|(with_reducible refine Kd.C_drew ?_)));(case side4=>exact (Kd.V_reads' HO1.out).2.1);rintro e w27 ⟨rfl,hb⟩;refine ⟨_,rfl,?_⟩;have n0_:=Aside0.mk (Kd.V_below (by (with_reducible repeat (first|apply Kd.V_alloc|apply Kd.V_drewN|apply Kd.V_drew));exact HO1.out) hb);have n1_:=Aside0.mk (below_step (by repeat (first|(with_reducible first|exact HB.out|apply below_alloc|apply pw_below_drewN|apply below_drew1)|exact HB.out)) hb);clear HO1;clear HB;have HO1:=n0_;have HB:=n1_;clear n0_ n1_;(try clear hb);(try clear hb2);(try clear hk);(try clear hi)))
  try (go_step3;go_wp2_with (first|((with_reducible refine gate_callee (f:=79) rfl ?_);refine goesL_ (some 12) rfl rfl Try.func79 (by kernel_rfl) rfl #[.slice A0 l0.length c0,.slice A1 l1.length c1] rfl (by (try simp only [List.map_toArray,List.map_cons,List.map_nil]);first|done|rfl|(simp only [List.length_drop,List.length_take];rfl)) ?_;(with_reducible refine (scan_both.calls k _ _ l0 _ _ l1 t101 _ ?side1 ?side2 ?side3 ?side4 A3.out).mono ?_);(case side1=>repeat (first|exact HR0.out|(with_reducible refine Kd.C_alloc ?_ _)|(with_reducible refine Kd.C_drewN ?_ _)|(with_reducible refine Kd.C_drew ?_)));(case side2=>exact HC0.out);(case side3=>repeat (first|exact (Kd.V_reads' HO1.out).2.2|(with_reducible refine Kd.C_alloc ?_ _)|(with_reducible refine Kd.C_drewN ?_ _)|(with_reducible refine Kd.C_drew ?_)));(case side4=>exact (Kd.V_reads' HO1.out).2.1);rintro e w27 ⟨rfl,hb⟩;refine ⟨_,rfl,?_⟩;have n0_:=Aside0.mk (Kd.V_below (by (with_reducible repeat (first|apply Kd.V_alloc|apply Kd.V_drewN|apply Kd.V_drew));exact HO1.out) hb);have n1_:=Aside0.mk (below_step (by repeat (first|(with_reducible first|exact HB.out|apply below_alloc|apply pw_below_drewN|apply below_drew1)|exact HB.out)) hb);clear HO1;clear HB;have HO1:=n0_;have HB:=n1_;clear n0_ n1_;(try clear hb);(try clear hb2);(try clear hk);(try clear hi))))
  try (go_step3;go_wp2_with (first|((with_reducible refine gate_callee (f:=79) rfl ?_);refine goesL_ (some 12) rfl rfl Try.func79 (by kernel_rfl) rfl #[.slice A0 l0.length c0,.slice A1 l1.length c1] rfl (by (try simp only [List.map_toArray,List.map_cons,List.map_nil]);first|done|rfl|(simp only [List.length_drop,List.length_take];rfl)) ?_;(with_reducible refine (scan_both.calls k _ _ l0 _ _ l1 t101 _ ?side1 ?side2 ?side3 ?side4 A3.out).mono ?_);(case side1=>repeat (first|exact HR0.out|(with_reducible refine Kd.C_alloc ?_ _)|(with_reducible refine Kd.C_drewN ?_ _)|(with_reducible refine Kd.C_drew ?_)));(case side2=>exact HC0.out);(case side3=>repeat (first|exact (Kd.V_reads' HO1.out).2.2|(with_reducible refine Kd.C_alloc ?_ _)|(with_reducible refine Kd.C_drewN ?_ _)|(with_reducible refine Kd.C_drew ?_)));(case side4=>exact (Kd.V_reads' HO1.out).2.1);rintro e w27 ⟨rfl,hb⟩;refine ⟨_,rfl,?_⟩;have n0_:=Aside0.mk (Kd.V_below (by (with_reducible repeat (first|apply Kd.V_alloc|apply Kd.V_drewN|apply Kd.V_drew));exact HO1.out) hb);have n1_:=Aside0.mk (below_step (by repeat (first|(with_reducible first|exact HB.out|apply below_alloc|apply pw_below_drewN|apply below_drew1)|exact HB.out)) hb);clear HO1;clear HB;have HO1:=n0_;have HB:=n1_;clear n0_ n1_;(try clear hb);(try clear hb2);(try clear hk);(try clear hi))))
  try rw [Exit.noGoto_ret]
  go_ret2
  exact ⟨_,by first|rfl|(simp [errW_none,errW_some] <;> rfl)|(simp [*,errW_none,errW_some] <;> rfl),by first|exact Kd.S_nil _ _ _ _ _|exact Kd.N_nil _ _ _ _ _|exact Kd.V_nil _ _ _ _ _|exact Kd.Q_nil _ _ _ _ _|exact Kd.R_nil _ _ _ _ _,by repeat (first|(with_reducible first|exact HB.out|apply below_alloc|apply pw_below_drewN|apply below_drew1)|exact HB.out)⟩
end Go.Proofs.Ytbgeceiddcokmaa.X
end
section
namespace Go.Proofs.Ytbgeceiddcokmaa.X
open Go.RowKit Go.Proofs.YtbgeceiddcokmaaW.PrintWords Go.Proofs.YtbgeceiddcokmaaW.PrintLast Go.Proofs.YtbgeceiddcokmaaW.PrintMore
attribute [local go_sem] max2_int min2_int max_two min_two max_three min_three max_four min_four
set_option linter.unusedVariables false
set_option linter.unusedSimpArgs false
def scan_Delta.l0:Nat → List (S73) → Int → Int → List (S91) → Int → Int → Option (Int × Int)
 | 0,_,_,_,_,_,_=>none
 | k + 1,x0,x4,x5,x15,x16,x17=>if x17 < x16 then (if 0 ≤ x17 then (if x17 < (x15.length:Int) then (if x17 < (x0.length:Int) then (scan_Delta.l0 k x0 (wrap64 (x4 + (wrap64 ((wrap64 (((rd_T73 x0 x17).f1) - ((rd_T73 x0 x17).f2))) * ((rd_T91 x15 x17).f2))))) x5 x15 x16 (wrap64 (x17 + 1))) else (none)) else (none)) else (none)) else (some (x4,x5))
def scan_Delta.f (k:Nat) (l0:List (S73)) (l1:List (S91)):Option (Int × Int):=(scan_found.f k l0 l1).bind fun bt101=>(scan_Delta.l0 k l0 0 bt101.2 bt101.1 (bt101.1.length:Int) 0)
theorem scan_Delta.mono_l:∀ k,(∀ y0 y1 y2 y3 y4 y5,LeO (scan_Delta.l0 k y0 y1 y2 y3 y4 y5) (scan_Delta.l0 (k + 1) y0 y1 y2 y3 y4 y5))
 | 0=>fun _ _ _ _ _ _ r h=>by simp [scan_Delta.l0] at h
 | k + 1=>by
  have ih0:=scan_Delta.mono_l k
  ·intro y0 y1 y2 y3 y4 y5
   unfold scan_Delta.l0
   repeat' first
   | (with_reducible exact ih0 _ _ _ _ _ _)
   | (with_reducible exact scan_found.mono _ _ _)
   | (with_reducible exact LeO.refl _)
   | (with_reducible exact LeO.none _)
   | (with_reducible refine LeO.ite ?_ ?_)
   | (with_reducible refine LeO.bind ?_ (fun _=>?_))
   | exact ih0 _ _ _ _ _ _
   | exact scan_found.mono _ _ _
   | exact LeO.none _
   | refine LeO.ite ?_ ?_
   | refine LeO.bind ?_ (fun _=>?_)
theorem scan_Delta.mono:∀ a0 a1 k,LeO (scan_Delta.f k a0 a1) (scan_Delta.f (k + 1) a0 a1):=by
 intro a0 a1 k
 have ih0:=scan_Delta.mono_l k
 unfold scan_Delta.f
 repeat' first
   | (with_reducible exact ih0 _ _ _ _ _ _)
   | (with_reducible exact scan_found.mono _ _ _)
   | (with_reducible exact LeO.refl _)
   | (with_reducible exact LeO.none _)
   | (with_reducible refine LeO.ite ?_ ?_)
   | (with_reducible refine LeO.bind ?_ (fun _=>?_))
   | exact ih0 _ _ _ _ _ _
   | exact scan_found.mono _ _ _
   | exact LeO.none _
   | refine LeO.ite ?_ ?_
   | refine LeO.bind ?_ (fun _=>?_)
set_option maxHeartbeats 8000000 in
set_option maxRecDepth 100000 in
theorem scan_Delta.calls (k:Nat) (A0:Option Addr) (c0:Nat) (l0:List (S73)) (A1:Option Addr) (c1:Nat) (l1:List (S91)) (r1:Int) (r2:Int) (w:World) (hr0:Kd.C k73 w A0 l0.length l0) (hc0:l0.length ≤ c0) (hr1:Kd.C k91 w A1 l1.length l1) (hc1:l1.length ≤ c1) (h:scan_Delta.f k l0 l1 = some (r1,r2)) :
  Calls Try.prog 36 #[.slice A0 l0.length c0,.slice A1 l1.length c1] w fun e w'=>e = .returned (.tuple #[.int .i64 r1,.int .i64 r2]) ∧ Below w.heap.size w w':=by
 have hu91:=Try.underlying91
 have HR0:=Aside0.mk hr0
 have HC0:=Aside0.mk hc0
 clear hr0 hc0
 have HR1:=Aside0.mk hr1
 have HC1:=Aside0.mk hc1
 clear hr1 hc1
 have HB:=Aside0.mk (Below.refl w.heap.size w)
 have H:((scan_found.f k l0 l1).bind fun bt101=>(scan_Delta.l0 k l0 0 bt101.2 bt101.1 (bt101.1.length:Int) 0)) = some (r1,r2):=h
 clear h
 replace H:=Option.bind_eq_some_iff.mp H
 obtain ⟨⟨t101,t104⟩,A30,H⟩:=H
 replace H:(scan_Delta.l0 k l0 0 t104 t101 (t101.length:Int) 0) = some (r1,r2):=H
 have A3:=Aside0.mk A30
 clear A30
 have H':=Aside0.mk H
 clear H
 go_enter Try.func36,Try.ntmps36
 go_wp2_with (first|(go_at_call 57;(with_reducible refine (scan_found.calls k _ _ l0 (fun k_=>k_ < w.heap.size) _ _ l1 t101 t104 _ ?side1 ?side2 ?side3 A3.out).mono ?_);(case side1=>repeat (first|exact HR0.out|(with_reducible refine Kd.C_alloc ?_ _)|(with_reducible refine Kd.C_drewN ?_ _)|(with_reducible refine Kd.C_drew ?_)));(case side2=>exact HC0.out);(case side3=>exact Kd.V_mk HC1.out (Kd.F_below (Kd.C_F k91_heap HR1.out) (by repeat (first|(with_reducible first|exact HB.out|apply below_alloc|apply pw_below_drewN|apply below_drew1)|exact HB.out))));rintro e w4 ⟨v102,rfl,ho0,hb⟩;have n0_:=Aside0.mk (Kd.N_lower (Kd.N_mono (ok':=fun k_=>True) ho0 (fun k_ hk_=>trivial)) (below_size (by repeat (first|(with_reducible first|exact HB.out|apply below_alloc|apply pw_below_drewN|apply below_drew1)|exact HB.out))));have n1_:=Aside0.mk (below_step (by repeat (first|(with_reducible first|exact HB.out|apply below_alloc|apply pw_below_drewN|apply below_drew1)|exact HB.out)) hb);clear HB;have HO103:=n0_;have HB:=n1_;clear n0_ n1_;(try clear hb);(try clear hb2);(try clear hk);(try clear hi);(try clear ho0);obtain ⟨Ao5,co5,eo5⟩:=Kd.N_slice HO103.out;subst eo5))
 go_loopg [4,17] k (fun kq v4 v17 w'=>∃ (x4_1:Int) (x17_1:Int),v4 = .int .i64 x4_1 ∧ v17 = .int .i64 x17_1 ∧ Aside0 (scan_Delta.l0 kq l0 x4_1 t104 t101 (t101.length:Int) x17_1 = some (r1,r2)) ∧ Aside0 (kq ≤ k) ∧ Aside0 (Kd.N k91 91 w' w.heap.size (fun _=>True) (.slice Ao5 t101.length co5) t101) ∧ Aside0 (Below w.heap.size w w'))
 case atStart=>exact ⟨(0),(0),(by first|rfl|(simp;done)|(simp [*];done)),(by first|rfl|(simp;done)|(simp [*];done)),H',⟨Nat.le_refl _⟩,⟨by (with_reducible repeat (first|apply Kd.N_alloc|apply Kd.N_drewN|apply Kd.N_drew));exact HO103.out⟩,⟨by repeat (first|(with_reducible first|exact HB.out|apply below_alloc|apply pw_below_drewN|apply below_drew1)|exact HB.out)⟩⟩
 case round =>
  clear H'
  try clear c1
  try clear p2
  try clear c3
  obtain ⟨x4_1,x17_1,rfl,rfl,HA,HK1,HO_15,HB⟩:=hrel
  cases gk with
  | zero=>exact absurd HA.out (by simp [scan_Delta.l0])
  | succ k1 =>
   have H:=HA.out
   clear HA
   simp only [scan_Delta.l0] at H
   by_cases c6:x17_1 < (t101.length:Int)
   ·rw [if_pos c6] at H
    have c6b0:decide (x17_1 < (t101.length:Int)) = true:=decide_eq_true c6
    clear c6
    by_cases c7:0 ≤ x17_1
    ·rw [if_pos c7] at H
     have c7b0:decide (0 ≤ x17_1) = true:=decide_eq_true c7
     clear c7
     by_cases c8:x17_1 < (t101.length:Int)
     ·rw [if_pos c8] at H
      have c8b0:decide (x17_1 < (t101.length:Int)) = true:=decide_eq_true c8
      clear c8
      by_cases c9:x17_1 < (l0.length:Int)
      ·rw [if_pos c9] at H
       have c9b0:decide (x17_1 < (l0.length:Int)) = true:=decide_eq_true c9
       clear c9
       have H':=Aside0.mk H
       clear H
       have p105:0 ≤ (x17_1:Int):=of_decide_eq_true (by first|(with_reducible assumption)|assumption)
       have q105:x17_1 < (t101.length:Int):=of_decide_eq_true (by first|(with_reducible assumption)|assumption)
       obtain ⟨ad105,A105_4,c105_4,e105,hx105_0,hx105_1,hx105_2,hx105_3,hx105_4,hx105_5,hl105_4,hi105_4⟩:=at_T91 (Kd.N_reads' HO_15.out).2.2 x17_1 p105 q105
       cases e105
       obtain ⟨ce105,hce105,hMe105,hcc105⟩:=Kd.N_get HO_15.out z91 x17_1 p105 (by first|exact q105|exact of_decide_eq_true (by first|(with_reducible assumption)|assumption)|(have e_:=(Kd.N_reads' HO_15.out).1;omega))
       obtain ⟨ua105_4,uc105_4,rfl,ul105_4,ge105_4⟩:=k91_openF hMe105
       have hv105_4:=hcc105 4 _ rfl
       rw [add_field _ _ 4 (by omega)] at hv105_4
       replace hv105_4:=Option.some.inj (hv105_4.symm.trans hx105_4)
       injection hv105_4 with hva_ hvn_ hvc_
       rw [hva_] at ge105_4
       rw [hvc_] at ul105_4
       have HL105_4:=Aside0.mk (show Kd.V (Kd.int .i64) 3 _ w.heap.size _ _ ((rd_T91 t101 x17_1).f1) from Kd.V_mk ul105_4 ge105_4)
       clear hva_ hvn_ hvc_ ge105_4 ul105_4
       clear hcc105 hce105
       have HR105_4:=Aside0.mk hi105_4
       have HC105_4:=Aside0.mk hl105_4
       clear hi105_4 hl105_4
       replace p105:=eq_true p105
       replace q105:=eq_true q105
       go_wp2_with (first|((with_reducible refine gate_dst (N:=8) rfl ?_);refine box_event ?hg (N:=8) ?hd (cs:=#[.string (⟨#[]⟩:ByteArray),.int .i64 0,.int .i64 0,.int .i64 0,.slice none 0 0,.int .i64 0]) (t:=91) ?hr ?_;(case hd=>rfl);(case hg=>rfl);(case hr=>first|(go_simp;done)|(go_simp;rfl));intro gb106 hg w10 hbox hb;have n0_:=Aside0.mk (Kd.N_below (Kd.N_elderB (by (with_reducible repeat (first|apply Kd.N_alloc|apply Kd.N_drewN|apply Kd.N_drew));exact HO_15.out) gb106 (Nat.le_of_eq hg.symm)) hb);have n1_:=Aside0.mk (Kd.V_below (Kd.V_elderB (by (with_reducible repeat (first|apply Kd.V_alloc|apply Kd.V_drewN|apply Kd.V_drew));exact HL105_4.out) gb106 (Nat.le_of_eq hg.symm)) hb);have n2_:=Aside0.mk (Kd.C_below (by repeat (first|(with_reducible exact HR105_4.out)|(with_reducible refine Kd.C_alloc ?_ _)|(with_reducible refine Kd.C_drewN ?_ _)|(with_reducible refine Kd.C_drew ?_)|exact HR105_4.out)) hb);have n3_:=Aside0.mk (below_step (by repeat (first|(with_reducible first|exact HB.out|apply below_alloc|apply pw_below_drewN|apply below_drew1)|exact HB.out)) hb);have n4_:=Aside0.mk (hbox);have n5_:=Aside0.mk ((by rw [hg];exact (below_size (by repeat (first|(with_reducible first|exact HB.out|apply below_alloc|apply pw_below_drewN|apply below_drew1)|exact HB.out))):w.heap.size ≤ gb106));have n6_:=Aside0.mk ((by rw [hg];exact (below_size (by repeat (first|(with_reducible first|exact HB.out|apply below_alloc|apply pw_below_drewN|apply below_drew1)|exact HB.out))):w.heap.size ≤ gb106));clear HO_15;clear HL105_4;clear HR105_4;clear HB;have HO_15:=n0_;have HL105_4:=n1_;have HR105_4:=n2_;have HB:=n3_;have BK106:=n4_;have GW106:=n5_;have GE106:=n6_;clear n0_ n1_ n2_ n3_ n4_ n5_ n6_;clear hb hbox hg;have hcz11_0:w10.cell? ⟨gb106,0,none⟩ = some (.string (⟨#[]⟩:ByteArray)):=(blk_cell BK106.out 0).trans rfl;have hcz11_1:w10.cell? ⟨gb106,1,none⟩ = some (.int .i64 0):=(blk_cell BK106.out 1).trans rfl;have hcz11_2:w10.cell? ⟨gb106,2,none⟩ = some (.int .i64 0):=(blk_cell BK106.out 2).trans rfl;have hcz11_3:w10.cell? ⟨gb106,3,none⟩ = some (.int .i64 0):=(blk_cell BK106.out 3).trans rfl;have hcz11_4:w10.cell? ⟨gb106,4,none⟩ = some (.slice none 0 0):=(blk_cell BK106.out 4).trans rfl;have hcz11_5:w10.cell? ⟨gb106,5,none⟩ = some (.int .i64 0):=(blk_cell BK106.out 5).trans rfl;have hfz11_0:=blk_frozen BK106.out 0;have hfz11_1:=blk_frozen BK106.out 1;have hfz11_2:=blk_frozen BK106.out 2;have hfz11_3:=blk_frozen BK106.out 3;have hfz11_4:=blk_frozen BK106.out 4;have hfz11_5:=blk_frozen BK106.out 5;have p107:0 ≤ (x17_1:Int):=of_decide_eq_true (by first|(with_reducible assumption)|assumption);have q107:x17_1 < (l0.length:Int):=of_decide_eq_true (by first|(with_reducible assumption)|assumption);obtain ⟨ad107,e107,hx107_0,hx107_1,hx107_2,hx107_3,hx107_4,hx107_5⟩:=at_T73 HR0.out x17_1 p107 q107;cases e107;have hn107_0:ad107.block ≠ gb106:=Nat.ne_of_lt (Nat.lt_of_lt_of_le (by have:=World.block_lt_of_cell? _ _ hx107_0;first|rwa [add_block] at this|exact this) GW106.out);have hn107_1:ad107.block ≠ gb106:=Nat.ne_of_lt (Nat.lt_of_lt_of_le (by have:=World.block_lt_of_cell? _ _ hx107_0;first|rwa [add_block] at this|exact this) GW106.out);have hn107_2:ad107.block ≠ gb106:=Nat.ne_of_lt (Nat.lt_of_lt_of_le (by have:=World.block_lt_of_cell? _ _ hx107_0;first|rwa [add_block] at this|exact this) GW106.out);have hn107_3:ad107.block ≠ gb106:=Nat.ne_of_lt (Nat.lt_of_lt_of_le (by have:=World.block_lt_of_cell? _ _ hx107_0;first|rwa [add_block] at this|exact this) GW106.out);have hn107_4:ad107.block ≠ gb106:=Nat.ne_of_lt (Nat.lt_of_lt_of_le (by have:=World.block_lt_of_cell? _ _ hx107_0;first|rwa [add_block] at this|exact this) GW106.out);have hn107_5:ad107.block ≠ gb106:=Nat.ne_of_lt (Nat.lt_of_lt_of_le (by have:=World.block_lt_of_cell? _ _ hx107_0;first|rwa [add_block] at this|exact this) GW106.out);replace hx107_0:=(HB.out.cell (World.block_lt_of_cell? w _ hx107_0)).trans hx107_0;replace hx107_1:=(HB.out.cell (World.block_lt_of_cell? w _ hx107_1)).trans hx107_1;replace hx107_2:=(HB.out.cell (World.block_lt_of_cell? w _ hx107_2)).trans hx107_2;replace hx107_3:=(HB.out.cell (World.block_lt_of_cell? w _ hx107_3)).trans hx107_3;replace hx107_4:=(HB.out.cell (World.block_lt_of_cell? w _ hx107_4)).trans hx107_4;replace hx107_5:=(HB.out.cell (World.block_lt_of_cell? w _ hx107_5)).trans hx107_5;replace hx107_0:=(cell_far (p:=⟨gb106,0,none⟩) (by first|(rw [add_block];exact hn107_0)|(show (Addr.add _ _).block ≠ _;rw [add_block];exact hn107_0)|exact hn107_0) (.string ((rd_T91 t101 x17_1).f0.f0))).trans hx107_0;replace hx107_1:=(cell_far (p:=⟨gb106,0,none⟩) (by first|(rw [add_block];exact hn107_0)|(show (Addr.add _ _).block ≠ _;rw [add_block];exact hn107_0)|exact hn107_0) (.string ((rd_T91 t101 x17_1).f0.f0))).trans hx107_1;replace hx107_2:=(cell_far (p:=⟨gb106,0,none⟩) (by first|(rw [add_block];exact hn107_0)|(show (Addr.add _ _).block ≠ _;rw [add_block];exact hn107_0)|exact hn107_0) (.string ((rd_T91 t101 x17_1).f0.f0))).trans hx107_2;replace hx107_3:=(cell_far (p:=⟨gb106,0,none⟩) (by first|(rw [add_block];exact hn107_0)|(show (Addr.add _ _).block ≠ _;rw [add_block];exact hn107_0)|exact hn107_0) (.string ((rd_T91 t101 x17_1).f0.f0))).trans hx107_3;replace hx107_4:=(cell_far (p:=⟨gb106,0,none⟩) (by first|(rw [add_block];exact hn107_0)|(show (Addr.add _ _).block ≠ _;rw [add_block];exact hn107_0)|exact hn107_0) (.string ((rd_T91 t101 x17_1).f0.f0))).trans hx107_4;replace hx107_5:=(cell_far (p:=⟨gb106,0,none⟩) (by first|(rw [add_block];exact hn107_0)|(show (Addr.add _ _).block ≠ _;rw [add_block];exact hn107_0)|exact hn107_0) (.string ((rd_T91 t101 x17_1).f0.f0))).trans hx107_5;replace hx107_0:=(cell_far (p:=⟨gb106,1,none⟩) (by first|(rw [add_block];exact hn107_1)|(show (Addr.add _ _).block ≠ _;rw [add_block];exact hn107_1)|exact hn107_1) (.int .i64 ((rd_T91 t101 x17_1).f0.f1))).trans hx107_0;replace hx107_1:=(cell_far (p:=⟨gb106,1,none⟩) (by first|(rw [add_block];exact hn107_1)|(show (Addr.add _ _).block ≠ _;rw [add_block];exact hn107_1)|exact hn107_1) (.int .i64 ((rd_T91 t101 x17_1).f0.f1))).trans hx107_1;replace hx107_2:=(cell_far (p:=⟨gb106,1,none⟩) (by first|(rw [add_block];exact hn107_1)|(show (Addr.add _ _).block ≠ _;rw [add_block];exact hn107_1)|exact hn107_1) (.int .i64 ((rd_T91 t101 x17_1).f0.f1))).trans hx107_2;replace hx107_3:=(cell_far (p:=⟨gb106,1,none⟩) (by first|(rw [add_block];exact hn107_1)|(show (Addr.add _ _).block ≠ _;rw [add_block];exact hn107_1)|exact hn107_1) (.int .i64 ((rd_T91 t101 x17_1).f0.f1))).trans hx107_3;replace hx107_4:=(cell_far (p:=⟨gb106,1,none⟩) (by first|(rw [add_block];exact hn107_1)|(show (Addr.add _ _).block ≠ _;rw [add_block];exact hn107_1)|exact hn107_1) (.int .i64 ((rd_T91 t101 x17_1).f0.f1))).trans hx107_4;replace hx107_5:=(cell_far (p:=⟨gb106,1,none⟩) (by first|(rw [add_block];exact hn107_1)|(show (Addr.add _ _).block ≠ _;rw [add_block];exact hn107_1)|exact hn107_1) (.int .i64 ((rd_T91 t101 x17_1).f0.f1))).trans hx107_5;replace hx107_0:=(cell_far (p:=⟨gb106,2,none⟩) (by first|(rw [add_block];exact hn107_2)|(show (Addr.add _ _).block ≠ _;rw [add_block];exact hn107_2)|exact hn107_2) (.int .i64 ((rd_T91 t101 x17_1).f0.f2))).trans hx107_0;replace hx107_1:=(cell_far (p:=⟨gb106,2,none⟩) (by first|(rw [add_block];exact hn107_2)|(show (Addr.add _ _).block ≠ _;rw [add_block];exact hn107_2)|exact hn107_2) (.int .i64 ((rd_T91 t101 x17_1).f0.f2))).trans hx107_1;replace hx107_2:=(cell_far (p:=⟨gb106,2,none⟩) (by first|(rw [add_block];exact hn107_2)|(show (Addr.add _ _).block ≠ _;rw [add_block];exact hn107_2)|exact hn107_2) (.int .i64 ((rd_T91 t101 x17_1).f0.f2))).trans hx107_2;replace hx107_3:=(cell_far (p:=⟨gb106,2,none⟩) (by first|(rw [add_block];exact hn107_2)|(show (Addr.add _ _).block ≠ _;rw [add_block];exact hn107_2)|exact hn107_2) (.int .i64 ((rd_T91 t101 x17_1).f0.f2))).trans hx107_3;replace hx107_4:=(cell_far (p:=⟨gb106,2,none⟩) (by first|(rw [add_block];exact hn107_2)|(show (Addr.add _ _).block ≠ _;rw [add_block];exact hn107_2)|exact hn107_2) (.int .i64 ((rd_T91 t101 x17_1).f0.f2))).trans hx107_4;replace hx107_5:=(cell_far (p:=⟨gb106,2,none⟩) (by first|(rw [add_block];exact hn107_2)|(show (Addr.add _ _).block ≠ _;rw [add_block];exact hn107_2)|exact hn107_2) (.int .i64 ((rd_T91 t101 x17_1).f0.f2))).trans hx107_5;replace hx107_0:=(cell_far (p:=⟨gb106,3,none⟩) (by first|(rw [add_block];exact hn107_3)|(show (Addr.add _ _).block ≠ _;rw [add_block];exact hn107_3)|exact hn107_3) (.int .i64 ((rd_T91 t101 x17_1).f0.f3))).trans hx107_0;replace hx107_1:=(cell_far (p:=⟨gb106,3,none⟩) (by first|(rw [add_block];exact hn107_3)|(show (Addr.add _ _).block ≠ _;rw [add_block];exact hn107_3)|exact hn107_3) (.int .i64 ((rd_T91 t101 x17_1).f0.f3))).trans hx107_1;replace hx107_2:=(cell_far (p:=⟨gb106,3,none⟩) (by first|(rw [add_block];exact hn107_3)|(show (Addr.add _ _).block ≠ _;rw [add_block];exact hn107_3)|exact hn107_3) (.int .i64 ((rd_T91 t101 x17_1).f0.f3))).trans hx107_2;replace hx107_3:=(cell_far (p:=⟨gb106,3,none⟩) (by first|(rw [add_block];exact hn107_3)|(show (Addr.add _ _).block ≠ _;rw [add_block];exact hn107_3)|exact hn107_3) (.int .i64 ((rd_T91 t101 x17_1).f0.f3))).trans hx107_3;replace hx107_4:=(cell_far (p:=⟨gb106,3,none⟩) (by first|(rw [add_block];exact hn107_3)|(show (Addr.add _ _).block ≠ _;rw [add_block];exact hn107_3)|exact hn107_3) (.int .i64 ((rd_T91 t101 x17_1).f0.f3))).trans hx107_4;replace hx107_5:=(cell_far (p:=⟨gb106,3,none⟩) (by first|(rw [add_block];exact hn107_3)|(show (Addr.add _ _).block ≠ _;rw [add_block];exact hn107_3)|exact hn107_3) (.int .i64 ((rd_T91 t101 x17_1).f0.f3))).trans hx107_5;replace hx107_0:=(cell_far (p:=⟨gb106,4,none⟩) (by first|(rw [add_block];exact hn107_4)|(show (Addr.add _ _).block ≠ _;rw [add_block];exact hn107_4)|exact hn107_4) (.slice A105_4 ((rd_T91 t101 x17_1).f1).length c105_4)).trans hx107_0;replace hx107_1:=(cell_far (p:=⟨gb106,4,none⟩) (by first|(rw [add_block];exact hn107_4)|(show (Addr.add _ _).block ≠ _;rw [add_block];exact hn107_4)|exact hn107_4) (.slice A105_4 ((rd_T91 t101 x17_1).f1).length c105_4)).trans hx107_1;replace hx107_2:=(cell_far (p:=⟨gb106,4,none⟩) (by first|(rw [add_block];exact hn107_4)|(show (Addr.add _ _).block ≠ _;rw [add_block];exact hn107_4)|exact hn107_4) (.slice A105_4 ((rd_T91 t101 x17_1).f1).length c105_4)).trans hx107_2;replace hx107_3:=(cell_far (p:=⟨gb106,4,none⟩) (by first|(rw [add_block];exact hn107_4)|(show (Addr.add _ _).block ≠ _;rw [add_block];exact hn107_4)|exact hn107_4) (.slice A105_4 ((rd_T91 t101 x17_1).f1).length c105_4)).trans hx107_3;replace hx107_4:=(cell_far (p:=⟨gb106,4,none⟩) (by first|(rw [add_block];exact hn107_4)|(show (Addr.add _ _).block ≠ _;rw [add_block];exact hn107_4)|exact hn107_4) (.slice A105_4 ((rd_T91 t101 x17_1).f1).length c105_4)).trans hx107_4;replace hx107_5:=(cell_far (p:=⟨gb106,4,none⟩) (by first|(rw [add_block];exact hn107_4)|(show (Addr.add _ _).block ≠ _;rw [add_block];exact hn107_4)|exact hn107_4) (.slice A105_4 ((rd_T91 t101 x17_1).f1).length c105_4)).trans hx107_5;replace hx107_0:=(cell_far (p:=⟨gb106,5,none⟩) (by first|(rw [add_block];exact hn107_5)|(show (Addr.add _ _).block ≠ _;rw [add_block];exact hn107_5)|exact hn107_5) (.int .i64 ((rd_T91 t101 x17_1).f2))).trans hx107_0;replace hx107_1:=(cell_far (p:=⟨gb106,5,none⟩) (by first|(rw [add_block];exact hn107_5)|(show (Addr.add _ _).block ≠ _;rw [add_block];exact hn107_5)|exact hn107_5) (.int .i64 ((rd_T91 t101 x17_1).f2))).trans hx107_1;replace hx107_2:=(cell_far (p:=⟨gb106,5,none⟩) (by first|(rw [add_block];exact hn107_5)|(show (Addr.add _ _).block ≠ _;rw [add_block];exact hn107_5)|exact hn107_5) (.int .i64 ((rd_T91 t101 x17_1).f2))).trans hx107_2;replace hx107_3:=(cell_far (p:=⟨gb106,5,none⟩) (by first|(rw [add_block];exact hn107_5)|(show (Addr.add _ _).block ≠ _;rw [add_block];exact hn107_5)|exact hn107_5) (.int .i64 ((rd_T91 t101 x17_1).f2))).trans hx107_3;replace hx107_4:=(cell_far (p:=⟨gb106,5,none⟩) (by first|(rw [add_block];exact hn107_5)|(show (Addr.add _ _).block ≠ _;rw [add_block];exact hn107_5)|exact hn107_5) (.int .i64 ((rd_T91 t101 x17_1).f2))).trans hx107_4;replace hx107_5:=(cell_far (p:=⟨gb106,5,none⟩) (by first|(rw [add_block];exact hn107_5)|(show (Addr.add _ _).block ≠ _;rw [add_block];exact hn107_5)|exact hn107_5) (.int .i64 ((rd_T91 t101 x17_1).f2))).trans hx107_5;clear hn107_0;clear hn107_1;clear hn107_2;clear hn107_3;clear hn107_4;clear hn107_5;replace p107:=eq_true p107;replace q107:=eq_true q107;have p108:0 ≤ (x17_1:Int):=of_decide_eq_true (by first|(with_reducible assumption)|assumption);have q108:x17_1 < (l0.length:Int):=of_decide_eq_true (by first|(with_reducible assumption)|assumption);obtain ⟨ad108,e108,hx108_0,hx108_1,hx108_2,hx108_3,hx108_4,hx108_5⟩:=at_T73 HR0.out x17_1 p108 q108;obtain rfl:ad107 = ad108:=(by injection e108);have hn108_0:ad107.block ≠ gb106:=Nat.ne_of_lt (Nat.lt_of_lt_of_le (by have:=World.block_lt_of_cell? _ _ hx108_0;first|rwa [add_block] at this|exact this) GW106.out);have hn108_1:ad107.block ≠ gb106:=Nat.ne_of_lt (Nat.lt_of_lt_of_le (by have:=World.block_lt_of_cell? _ _ hx108_0;first|rwa [add_block] at this|exact this) GW106.out);have hn108_2:ad107.block ≠ gb106:=Nat.ne_of_lt (Nat.lt_of_lt_of_le (by have:=World.block_lt_of_cell? _ _ hx108_0;first|rwa [add_block] at this|exact this) GW106.out);have hn108_3:ad107.block ≠ gb106:=Nat.ne_of_lt (Nat.lt_of_lt_of_le (by have:=World.block_lt_of_cell? _ _ hx108_0;first|rwa [add_block] at this|exact this) GW106.out);have hn108_4:ad107.block ≠ gb106:=Nat.ne_of_lt (Nat.lt_of_lt_of_le (by have:=World.block_lt_of_cell? _ _ hx108_0;first|rwa [add_block] at this|exact this) GW106.out);have hn108_5:ad107.block ≠ gb106:=Nat.ne_of_lt (Nat.lt_of_lt_of_le (by have:=World.block_lt_of_cell? _ _ hx108_0;first|rwa [add_block] at this|exact this) GW106.out);replace hx108_0:=(HB.out.cell (World.block_lt_of_cell? w _ hx108_0)).trans hx108_0;replace hx108_1:=(HB.out.cell (World.block_lt_of_cell? w _ hx108_1)).trans hx108_1;replace hx108_2:=(HB.out.cell (World.block_lt_of_cell? w _ hx108_2)).trans hx108_2;replace hx108_3:=(HB.out.cell (World.block_lt_of_cell? w _ hx108_3)).trans hx108_3;replace hx108_4:=(HB.out.cell (World.block_lt_of_cell? w _ hx108_4)).trans hx108_4;replace hx108_5:=(HB.out.cell (World.block_lt_of_cell? w _ hx108_5)).trans hx108_5;replace hx108_0:=(cell_far (p:=⟨gb106,0,none⟩) (by first|(rw [add_block];exact hn108_0)|(show (Addr.add _ _).block ≠ _;rw [add_block];exact hn108_0)|exact hn108_0) (.string ((rd_T91 t101 x17_1).f0.f0))).trans hx108_0;replace hx108_1:=(cell_far (p:=⟨gb106,0,none⟩) (by first|(rw [add_block];exact hn108_0)|(show (Addr.add _ _).block ≠ _;rw [add_block];exact hn108_0)|exact hn108_0) (.string ((rd_T91 t101 x17_1).f0.f0))).trans hx108_1;replace hx108_2:=(cell_far (p:=⟨gb106,0,none⟩) (by first|(rw [add_block];exact hn108_0)|(show (Addr.add _ _).block ≠ _;rw [add_block];exact hn108_0)|exact hn108_0) (.string ((rd_T91 t101 x17_1).f0.f0))).trans hx108_2;replace hx108_3:=(cell_far (p:=⟨gb106,0,none⟩) (by first|(rw [add_block];exact hn108_0)|(show (Addr.add _ _).block ≠ _;rw [add_block];exact hn108_0)|exact hn108_0) (.string ((rd_T91 t101 x17_1).f0.f0))).trans hx108_3;replace hx108_4:=(cell_far (p:=⟨gb106,0,none⟩) (by first|(rw [add_block];exact hn108_0)|(show (Addr.add _ _).block ≠ _;rw [add_block];exact hn108_0)|exact hn108_0) (.string ((rd_T91 t101 x17_1).f0.f0))).trans hx108_4;replace hx108_5:=(cell_far (p:=⟨gb106,0,none⟩) (by first|(rw [add_block];exact hn108_0)|(show (Addr.add _ _).block ≠ _;rw [add_block];exact hn108_0)|exact hn108_0) (.string ((rd_T91 t101 x17_1).f0.f0))).trans hx108_5;replace hx108_0:=(cell_far (p:=⟨gb106,1,none⟩) (by first|(rw [add_block];exact hn108_1)|(show (Addr.add _ _).block ≠ _;rw [add_block];exact hn108_1)|exact hn108_1) (.int .i64 ((rd_T91 t101 x17_1).f0.f1))).trans hx108_0;replace hx108_1:=(cell_far (p:=⟨gb106,1,none⟩) (by first|(rw [add_block];exact hn108_1)|(show (Addr.add _ _).block ≠ _;rw [add_block];exact hn108_1)|exact hn108_1) (.int .i64 ((rd_T91 t101 x17_1).f0.f1))).trans hx108_1;replace hx108_2:=(cell_far (p:=⟨gb106,1,none⟩) (by first|(rw [add_block];exact hn108_1)|(show (Addr.add _ _).block ≠ _;rw [add_block];exact hn108_1)|exact hn108_1) (.int .i64 ((rd_T91 t101 x17_1).f0.f1))).trans hx108_2;replace hx108_3:=(cell_far (p:=⟨gb106,1,none⟩) (by first|(rw [add_block];exact hn108_1)|(show (Addr.add _ _).block ≠ _;rw [add_block];exact hn108_1)|exact hn108_1) (.int .i64 ((rd_T91 t101 x17_1).f0.f1))).trans hx108_3;replace hx108_4:=(cell_far (p:=⟨gb106,1,none⟩) (by first|(rw [add_block];exact hn108_1)|(show (Addr.add _ _).block ≠ _;rw [add_block];exact hn108_1)|exact hn108_1) (.int .i64 ((rd_T91 t101 x17_1).f0.f1))).trans hx108_4;replace hx108_5:=(cell_far (p:=⟨gb106,1,none⟩) (by first|(rw [add_block];exact hn108_1)|(show (Addr.add _ _).block ≠ _;rw [add_block];exact hn108_1)|exact hn108_1) (.int .i64 ((rd_T91 t101 x17_1).f0.f1))).trans hx108_5;replace hx108_0:=(cell_far (p:=⟨gb106,2,none⟩) (by first|(rw [add_block];exact hn108_2)|(show (Addr.add _ _).block ≠ _;rw [add_block];exact hn108_2)|exact hn108_2) (.int .i64 ((rd_T91 t101 x17_1).f0.f2))).trans hx108_0;replace hx108_1:=(cell_far (p:=⟨gb106,2,none⟩) (by first|(rw [add_block];exact hn108_2)|(show (Addr.add _ _).block ≠ _;rw [add_block];exact hn108_2)|exact hn108_2) (.int .i64 ((rd_T91 t101 x17_1).f0.f2))).trans hx108_1;replace hx108_2:=(cell_far (p:=⟨gb106,2,none⟩) (by first|(rw [add_block];exact hn108_2)|(show (Addr.add _ _).block ≠ _;rw [add_block];exact hn108_2)|exact hn108_2) (.int .i64 ((rd_T91 t101 x17_1).f0.f2))).trans hx108_2;replace hx108_3:=(cell_far (p:=⟨gb106,2,none⟩) (by first|(rw [add_block];exact hn108_2)|(show (Addr.add _ _).block ≠ _;rw [add_block];exact hn108_2)|exact hn108_2) (.int .i64 ((rd_T91 t101 x17_1).f0.f2))).trans hx108_3;replace hx108_4:=(cell_far (p:=⟨gb106,2,none⟩) (by first|(rw [add_block];exact hn108_2)|(show (Addr.add _ _).block ≠ _;rw [add_block];exact hn108_2)|exact hn108_2) (.int .i64 ((rd_T91 t101 x17_1).f0.f2))).trans hx108_4;replace hx108_5:=(cell_far (p:=⟨gb106,2,none⟩) (by first|(rw [add_block];exact hn108_2)|(show (Addr.add _ _).block ≠ _;rw [add_block];exact hn108_2)|exact hn108_2) (.int .i64 ((rd_T91 t101 x17_1).f0.f2))).trans hx108_5;replace hx108_0:=(cell_far (p:=⟨gb106,3,none⟩) (by first|(rw [add_block];exact hn108_3)|(show (Addr.add _ _).block ≠ _;rw [add_block];exact hn108_3)|exact hn108_3) (.int .i64 ((rd_T91 t101 x17_1).f0.f3))).trans hx108_0;replace hx108_1:=(cell_far (p:=⟨gb106,3,none⟩) (by first|(rw [add_block];exact hn108_3)|(show (Addr.add _ _).block ≠ _;rw [add_block];exact hn108_3)|exact hn108_3) (.int .i64 ((rd_T91 t101 x17_1).f0.f3))).trans hx108_1;replace hx108_2:=(cell_far (p:=⟨gb106,3,none⟩) (by first|(rw [add_block];exact hn108_3)|(show (Addr.add _ _).block ≠ _;rw [add_block];exact hn108_3)|exact hn108_3) (.int .i64 ((rd_T91 t101 x17_1).f0.f3))).trans hx108_2;replace hx108_3:=(cell_far (p:=⟨gb106,3,none⟩) (by first|(rw [add_block];exact hn108_3)|(show (Addr.add _ _).block ≠ _;rw [add_block];exact hn108_3)|exact hn108_3) (.int .i64 ((rd_T91 t101 x17_1).f0.f3))).trans hx108_3;replace hx108_4:=(cell_far (p:=⟨gb106,3,none⟩) (by first|(rw [add_block];exact hn108_3)|(show (Addr.add _ _).block ≠ _;rw [add_block];exact hn108_3)|exact hn108_3) (.int .i64 ((rd_T91 t101 x17_1).f0.f3))).trans hx108_4;replace hx108_5:=(cell_far (p:=⟨gb106,3,none⟩) (by first|(rw [add_block];exact hn108_3)|(show (Addr.add _ _).block ≠ _;rw [add_block];exact hn108_3)|exact hn108_3) (.int .i64 ((rd_T91 t101 x17_1).f0.f3))).trans hx108_5;replace hx108_0:=(cell_far (p:=⟨gb106,4,none⟩) (by first|(rw [add_block];exact hn108_4)|(show (Addr.add _ _).block ≠ _;rw [add_block];exact hn108_4)|exact hn108_4) (.slice A105_4 ((rd_T91 t101 x17_1).f1).length c105_4)).trans hx108_0;replace hx108_1:=(cell_far (p:=⟨gb106,4,none⟩) (by first|(rw [add_block];exact hn108_4)|(show (Addr.add _ _).block ≠ _;rw [add_block];exact hn108_4)|exact hn108_4) (.slice A105_4 ((rd_T91 t101 x17_1).f1).length c105_4)).trans hx108_1;replace hx108_2:=(cell_far (p:=⟨gb106,4,none⟩) (by first|(rw [add_block];exact hn108_4)|(show (Addr.add _ _).block ≠ _;rw [add_block];exact hn108_4)|exact hn108_4) (.slice A105_4 ((rd_T91 t101 x17_1).f1).length c105_4)).trans hx108_2;replace hx108_3:=(cell_far (p:=⟨gb106,4,none⟩) (by first|(rw [add_block];exact hn108_4)|(show (Addr.add _ _).block ≠ _;rw [add_block];exact hn108_4)|exact hn108_4) (.slice A105_4 ((rd_T91 t101 x17_1).f1).length c105_4)).trans hx108_3;replace hx108_4:=(cell_far (p:=⟨gb106,4,none⟩) (by first|(rw [add_block];exact hn108_4)|(show (Addr.add _ _).block ≠ _;rw [add_block];exact hn108_4)|exact hn108_4) (.slice A105_4 ((rd_T91 t101 x17_1).f1).length c105_4)).trans hx108_4;replace hx108_5:=(cell_far (p:=⟨gb106,4,none⟩) (by first|(rw [add_block];exact hn108_4)|(show (Addr.add _ _).block ≠ _;rw [add_block];exact hn108_4)|exact hn108_4) (.slice A105_4 ((rd_T91 t101 x17_1).f1).length c105_4)).trans hx108_5;replace hx108_0:=(cell_far (p:=⟨gb106,5,none⟩) (by first|(rw [add_block];exact hn108_5)|(show (Addr.add _ _).block ≠ _;rw [add_block];exact hn108_5)|exact hn108_5) (.int .i64 ((rd_T91 t101 x17_1).f2))).trans hx108_0;replace hx108_1:=(cell_far (p:=⟨gb106,5,none⟩) (by first|(rw [add_block];exact hn108_5)|(show (Addr.add _ _).block ≠ _;rw [add_block];exact hn108_5)|exact hn108_5) (.int .i64 ((rd_T91 t101 x17_1).f2))).trans hx108_1;replace hx108_2:=(cell_far (p:=⟨gb106,5,none⟩) (by first|(rw [add_block];exact hn108_5)|(show (Addr.add _ _).block ≠ _;rw [add_block];exact hn108_5)|exact hn108_5) (.int .i64 ((rd_T91 t101 x17_1).f2))).trans hx108_2;replace hx108_3:=(cell_far (p:=⟨gb106,5,none⟩) (by first|(rw [add_block];exact hn108_5)|(show (Addr.add _ _).block ≠ _;rw [add_block];exact hn108_5)|exact hn108_5) (.int .i64 ((rd_T91 t101 x17_1).f2))).trans hx108_3;replace hx108_4:=(cell_far (p:=⟨gb106,5,none⟩) (by first|(rw [add_block];exact hn108_5)|(show (Addr.add _ _).block ≠ _;rw [add_block];exact hn108_5)|exact hn108_5) (.int .i64 ((rd_T91 t101 x17_1).f2))).trans hx108_4;replace hx108_5:=(cell_far (p:=⟨gb106,5,none⟩) (by first|(rw [add_block];exact hn108_5)|(show (Addr.add _ _).block ≠ _;rw [add_block];exact hn108_5)|exact hn108_5) (.int .i64 ((rd_T91 t101 x17_1).f2))).trans hx108_5;clear hn108_0;clear hn108_1;clear hn108_2;clear hn108_3;clear hn108_4;clear hn108_5;replace p108:=eq_true p108;replace q108:=eq_true q108))
       repeat (go_quiet (first|((with_reducible refine gate_dst (N:=8) rfl ?_);refine box_event ?hg (N:=8) ?hd (cs:=#[.string (⟨#[]⟩:ByteArray),.int .i64 0,.int .i64 0,.int .i64 0,.slice none 0 0,.int .i64 0]) (t:=91) ?hr ?_;(case hd=>rfl);(case hg=>rfl);(case hr=>first|(go_simp;done)|(go_simp;rfl));intro gb106 hg w10 hbox hb;have n0_:=Aside0.mk (Kd.N_below (Kd.N_elderB (by (with_reducible repeat (first|apply Kd.N_alloc|apply Kd.N_drewN|apply Kd.N_drew));exact HO_15.out) gb106 (Nat.le_of_eq hg.symm)) hb);have n1_:=Aside0.mk (Kd.V_below (Kd.V_elderB (by (with_reducible repeat (first|apply Kd.V_alloc|apply Kd.V_drewN|apply Kd.V_drew));exact HL105_4.out) gb106 (Nat.le_of_eq hg.symm)) hb);have n2_:=Aside0.mk (Kd.C_below (by repeat (first|(with_reducible exact HR105_4.out)|(with_reducible refine Kd.C_alloc ?_ _)|(with_reducible refine Kd.C_drewN ?_ _)|(with_reducible refine Kd.C_drew ?_)|exact HR105_4.out)) hb);have n3_:=Aside0.mk (below_step (by repeat (first|(with_reducible first|exact HB.out|apply below_alloc|apply pw_below_drewN|apply below_drew1)|exact HB.out)) hb);have n4_:=Aside0.mk (hbox);have n5_:=Aside0.mk ((by rw [hg];exact (below_size (by repeat (first|(with_reducible first|exact HB.out|apply below_alloc|apply pw_below_drewN|apply below_drew1)|exact HB.out))):w.heap.size ≤ gb106));have n6_:=Aside0.mk ((by rw [hg];exact (below_size (by repeat (first|(with_reducible first|exact HB.out|apply below_alloc|apply pw_below_drewN|apply below_drew1)|exact HB.out))):w.heap.size ≤ gb106));clear HO_15;clear HL105_4;clear HR105_4;clear HB;have HO_15:=n0_;have HL105_4:=n1_;have HR105_4:=n2_;have HB:=n3_;have BK106:=n4_;have GW106:=n5_;have GE106:=n6_;clear n0_ n1_ n2_ n3_ n4_ n5_ n6_;clear hb hbox hg;have hcz11_0:w10.cell? ⟨gb106,0,none⟩ = some (.string (⟨#[]⟩:ByteArray)):=(blk_cell BK106.out 0).trans rfl;have hcz11_1:w10.cell? ⟨gb106,1,none⟩ = some (.int .i64 0):=(blk_cell BK106.out 1).trans rfl;have hcz11_2:w10.cell? ⟨gb106,2,none⟩ = some (.int .i64 0):=(blk_cell BK106.out 2).trans rfl;have hcz11_3:w10.cell? ⟨gb106,3,none⟩ = some (.int .i64 0):=(blk_cell BK106.out 3).trans rfl;have hcz11_4:w10.cell? ⟨gb106,4,none⟩ = some (.slice none 0 0):=(blk_cell BK106.out 4).trans rfl;have hcz11_5:w10.cell? ⟨gb106,5,none⟩ = some (.int .i64 0):=(blk_cell BK106.out 5).trans rfl;have hfz11_0:=blk_frozen BK106.out 0;have hfz11_1:=blk_frozen BK106.out 1;have hfz11_2:=blk_frozen BK106.out 2;have hfz11_3:=blk_frozen BK106.out 3;have hfz11_4:=blk_frozen BK106.out 4;have hfz11_5:=blk_frozen BK106.out 5;have p107:0 ≤ (x17_1:Int):=of_decide_eq_true (by first|(with_reducible assumption)|assumption);have q107:x17_1 < (l0.length:Int):=of_decide_eq_true (by first|(with_reducible assumption)|assumption);obtain ⟨ad107,e107,hx107_0,hx107_1,hx107_2,hx107_3,hx107_4,hx107_5⟩:=at_T73 HR0.out x17_1 p107 q107;cases e107;have hn107_0:ad107.block ≠ gb106:=Nat.ne_of_lt (Nat.lt_of_lt_of_le (by have:=World.block_lt_of_cell? _ _ hx107_0;first|rwa [add_block] at this|exact this) GW106.out);have hn107_1:ad107.block ≠ gb106:=Nat.ne_of_lt (Nat.lt_of_lt_of_le (by have:=World.block_lt_of_cell? _ _ hx107_0;first|rwa [add_block] at this|exact this) GW106.out);have hn107_2:ad107.block ≠ gb106:=Nat.ne_of_lt (Nat.lt_of_lt_of_le (by have:=World.block_lt_of_cell? _ _ hx107_0;first|rwa [add_block] at this|exact this) GW106.out);have hn107_3:ad107.block ≠ gb106:=Nat.ne_of_lt (Nat.lt_of_lt_of_le (by have:=World.block_lt_of_cell? _ _ hx107_0;first|rwa [add_block] at this|exact this) GW106.out);have hn107_4:ad107.block ≠ gb106:=Nat.ne_of_lt (Nat.lt_of_lt_of_le (by have:=World.block_lt_of_cell? _ _ hx107_0;first|rwa [add_block] at this|exact this) GW106.out);have hn107_5:ad107.block ≠ gb106:=Nat.ne_of_lt (Nat.lt_of_lt_of_le (by have:=World.block_lt_of_cell? _ _ hx107_0;first|rwa [add_block] at this|exact this) GW106.out);replace hx107_0:=(HB.out.cell (World.block_lt_of_cell? w _ hx107_0)).trans hx107_0;replace hx107_1:=(HB.out.cell (World.block_lt_of_cell? w _ hx107_1)).trans hx107_1;replace hx107_2:=(HB.out.cell (World.block_lt_of_cell? w _ hx107_2)).trans hx107_2;replace hx107_3:=(HB.out.cell (World.block_lt_of_cell? w _ hx107_3)).trans hx107_3;replace hx107_4:=(HB.out.cell (World.block_lt_of_cell? w _ hx107_4)).trans hx107_4;replace hx107_5:=(HB.out.cell (World.block_lt_of_cell? w _ hx107_5)).trans hx107_5;replace hx107_0:=(cell_far (p:=⟨gb106,0,none⟩) (by first|(rw [add_block];exact hn107_0)|(show (Addr.add _ _).block ≠ _;rw [add_block];exact hn107_0)|exact hn107_0) (.string ((rd_T91 t101 x17_1).f0.f0))).trans hx107_0;replace hx107_1:=(cell_far (p:=⟨gb106,0,none⟩) (by first|(rw [add_block];exact hn107_0)|(show (Addr.add _ _).block ≠ _;rw [add_block];exact hn107_0)|exact hn107_0) (.string ((rd_T91 t101 x17_1).f0.f0))).trans hx107_1;replace hx107_2:=(cell_far (p:=⟨gb106,0,none⟩) (by first|(rw [add_block];exact hn107_0)|(show (Addr.add _ _).block ≠ _;rw [add_block];exact hn107_0)|exact hn107_0) (.string ((rd_T91 t101 x17_1).f0.f0))).trans hx107_2;replace hx107_3:=(cell_far (p:=⟨gb106,0,none⟩) (by first|(rw [add_block];exact hn107_0)|(show (Addr.add _ _).block ≠ _;rw [add_block];exact hn107_0)|exact hn107_0) (.string ((rd_T91 t101 x17_1).f0.f0))).trans hx107_3;replace hx107_4:=(cell_far (p:=⟨gb106,0,none⟩) (by first|(rw [add_block];exact hn107_0)|(show (Addr.add _ _).block ≠ _;rw [add_block];exact hn107_0)|exact hn107_0) (.string ((rd_T91 t101 x17_1).f0.f0))).trans hx107_4;replace hx107_5:=(cell_far (p:=⟨gb106,0,none⟩) (by first|(rw [add_block];exact hn107_0)|(show (Addr.add _ _).block ≠ _;rw [add_block];exact hn107_0)|exact hn107_0) (.string ((rd_T91 t101 x17_1).f0.f0))).trans hx107_5;replace hx107_0:=(cell_far (p:=⟨gb106,1,none⟩) (by first|(rw [add_block];exact hn107_1)|(show (Addr.add _ _).block ≠ _;rw [add_block];exact hn107_1)|exact hn107_1) (.int .i64 ((rd_T91 t101 x17_1).f0.f1))).trans hx107_0;replace hx107_1:=(cell_far (p:=⟨gb106,1,none⟩) (by first|(rw [add_block];exact hn107_1)|(show (Addr.add _ _).block ≠ _;rw [add_block];exact hn107_1)|exact hn107_1) (.int .i64 ((rd_T91 t101 x17_1).f0.f1))).trans hx107_1;replace hx107_2:=(cell_far (p:=⟨gb106,1,none⟩) (by first|(rw [add_block];exact hn107_1)|(show (Addr.add _ _).block ≠ _;rw [add_block];exact hn107_1)|exact hn107_1) (.int .i64 ((rd_T91 t101 x17_1).f0.f1))).trans hx107_2;replace hx107_3:=(cell_far (p:=⟨gb106,1,none⟩) (by first|(rw [add_block];exact hn107_1)|(show (Addr.add _ _).block ≠ _;rw [add_block];exact hn107_1)|exact hn107_1) (.int .i64 ((rd_T91 t101 x17_1).f0.f1))).trans hx107_3;replace hx107_4:=(cell_far (p:=⟨gb106,1,none⟩) (by first|(rw [add_block];exact hn107_1)|(show (Addr.add _ _).block ≠ _;rw [add_block];exact hn107_1)|exact hn107_1) (.int .i64 ((rd_T91 t101 x17_1).f0.f1))).trans hx107_4;replace hx107_5:=(cell_far (p:=⟨gb106,1,none⟩) (by first|(rw [add_block];exact hn107_1)|(show (Addr.add _ _).block ≠ _;rw [add_block];exact hn107_1)|exact hn107_1) (.int .i64 ((rd_T91 t101 x17_1).f0.f1))).trans hx107_5;replace hx107_0:=(cell_far (p:=⟨gb106,2,none⟩) (by first|(rw [add_block];exact hn107_2)|(show (Addr.add _ _).block ≠ _;rw [add_block];exact hn107_2)|exact hn107_2) (.int .i64 ((rd_T91 t101 x17_1).f0.f2))).trans hx107_0;replace hx107_1:=(cell_far (p:=⟨gb106,2,none⟩) (by first|(rw [add_block];exact hn107_2)|(show (Addr.add _ _).block ≠ _;rw [add_block];exact hn107_2)|exact hn107_2) (.int .i64 ((rd_T91 t101 x17_1).f0.f2))).trans hx107_1;replace hx107_2:=(cell_far (p:=⟨gb106,2,none⟩) (by first|(rw [add_block];exact hn107_2)|(show (Addr.add _ _).block ≠ _;rw [add_block];exact hn107_2)|exact hn107_2) (.int .i64 ((rd_T91 t101 x17_1).f0.f2))).trans hx107_2;replace hx107_3:=(cell_far (p:=⟨gb106,2,none⟩) (by first|(rw [add_block];exact hn107_2)|(show (Addr.add _ _).block ≠ _;rw [add_block];exact hn107_2)|exact hn107_2) (.int .i64 ((rd_T91 t101 x17_1).f0.f2))).trans hx107_3;replace hx107_4:=(cell_far (p:=⟨gb106,2,none⟩) (by first|(rw [add_block];exact hn107_2)|(show (Addr.add _ _).block ≠ _;rw [add_block];exact hn107_2)|exact hn107_2) (.int .i64 ((rd_T91 t101 x17_1).f0.f2))).trans hx107_4;replace hx107_5:=(cell_far (p:=⟨gb106,2,none⟩) (by first|(rw [add_block];exact hn107_2)|(show (Addr.add _ _).block ≠ _;rw [add_block];exact hn107_2)|exact hn107_2) (.int .i64 ((rd_T91 t101 x17_1).f0.f2))).trans hx107_5;replace hx107_0:=(cell_far (p:=⟨gb106,3,none⟩) (by first|(rw [add_block];exact hn107_3)|(show (Addr.add _ _).block ≠ _;rw [add_block];exact hn107_3)|exact hn107_3) (.int .i64 ((rd_T91 t101 x17_1).f0.f3))).trans hx107_0;replace hx107_1:=(cell_far (p:=⟨gb106,3,none⟩) (by first|(rw [add_block];exact hn107_3)|(show (Addr.add _ _).block ≠ _;rw [add_block];exact hn107_3)|exact hn107_3) (.int .i64 ((rd_T91 t101 x17_1).f0.f3))).trans hx107_1;replace hx107_2:=(cell_far (p:=⟨gb106,3,none⟩) (by first|(rw [add_block];exact hn107_3)|(show (Addr.add _ _).block ≠ _;rw [add_block];exact hn107_3)|exact hn107_3) (.int .i64 ((rd_T91 t101 x17_1).f0.f3))).trans hx107_2;replace hx107_3:=(cell_far (p:=⟨gb106,3,none⟩) (by first|(rw [add_block];exact hn107_3)|(show (Addr.add _ _).block ≠ _;rw [add_block];exact hn107_3)|exact hn107_3) (.int .i64 ((rd_T91 t101 x17_1).f0.f3))).trans hx107_3;replace hx107_4:=(cell_far (p:=⟨gb106,3,none⟩) (by first|(rw [add_block];exact hn107_3)|(show (Addr.add _ _).block ≠ _;rw [add_block];exact hn107_3)|exact hn107_3) (.int .i64 ((rd_T91 t101 x17_1).f0.f3))).trans hx107_4;replace hx107_5:=(cell_far (p:=⟨gb106,3,none⟩) (by first|(rw [add_block];exact hn107_3)|(show (Addr.add _ _).block ≠ _;rw [add_block];exact hn107_3)|exact hn107_3) (.int .i64 ((rd_T91 t101 x17_1).f0.f3))).trans hx107_5;replace hx107_0:=(cell_far (p:=⟨gb106,4,none⟩) (by first|(rw [add_block];exact hn107_4)|(show (Addr.add _ _).block ≠ _;rw [add_block];exact hn107_4)|exact hn107_4) (.slice A105_4 ((rd_T91 t101 x17_1).f1).length c105_4)).trans hx107_0;replace hx107_1:=(cell_far (p:=⟨gb106,4,none⟩) (by first|(rw [add_block];exact hn107_4)|(show (Addr.add _ _).block ≠ _;rw [add_block];exact hn107_4)|exact hn107_4) (.slice A105_4 ((rd_T91 t101 x17_1).f1).length c105_4)).trans hx107_1;replace hx107_2:=(cell_far (p:=⟨gb106,4,none⟩) (by first|(rw [add_block];exact hn107_4)|(show (Addr.add _ _).block ≠ _;rw [add_block];exact hn107_4)|exact hn107_4) (.slice A105_4 ((rd_T91 t101 x17_1).f1).length c105_4)).trans hx107_2;replace hx107_3:=(cell_far (p:=⟨gb106,4,none⟩) (by first|(rw [add_block];exact hn107_4)|(show (Addr.add _ _).block ≠ _;rw [add_block];exact hn107_4)|exact hn107_4) (.slice A105_4 ((rd_T91 t101 x17_1).f1).length c105_4)).trans hx107_3;replace hx107_4:=(cell_far (p:=⟨gb106,4,none⟩) (by first|(rw [add_block];exact hn107_4)|(show (Addr.add _ _).block ≠ _;rw [add_block];exact hn107_4)|exact hn107_4) (.slice A105_4 ((rd_T91 t101 x17_1).f1).length c105_4)).trans hx107_4;replace hx107_5:=(cell_far (p:=⟨gb106,4,none⟩) (by first|(rw [add_block];exact hn107_4)|(show (Addr.add _ _).block ≠ _;rw [add_block];exact hn107_4)|exact hn107_4) (.slice A105_4 ((rd_T91 t101 x17_1).f1).length c105_4)).trans hx107_5;replace hx107_0:=(cell_far (p:=⟨gb106,5,none⟩) (by first|(rw [add_block];exact hn107_5)|(show (Addr.add _ _).block ≠ _;rw [add_block];exact hn107_5)|exact hn107_5) (.int .i64 ((rd_T91 t101 x17_1).f2))).trans hx107_0;replace hx107_1:=(cell_far (p:=⟨gb106,5,none⟩) (by first|(rw [add_block];exact hn107_5)|(show (Addr.add _ _).block ≠ _;rw [add_block];exact hn107_5)|exact hn107_5) (.int .i64 ((rd_T91 t101 x17_1).f2))).trans hx107_1;replace hx107_2:=(cell_far (p:=⟨gb106,5,none⟩) (by first|(rw [add_block];exact hn107_5)|(show (Addr.add _ _).block ≠ _;rw [add_block];exact hn107_5)|exact hn107_5) (.int .i64 ((rd_T91 t101 x17_1).f2))).trans hx107_2;replace hx107_3:=(cell_far (p:=⟨gb106,5,none⟩) (by first|(rw [add_block];exact hn107_5)|(show (Addr.add _ _).block ≠ _;rw [add_block];exact hn107_5)|exact hn107_5) (.int .i64 ((rd_T91 t101 x17_1).f2))).trans hx107_3;replace hx107_4:=(cell_far (p:=⟨gb106,5,none⟩) (by first|(rw [add_block];exact hn107_5)|(show (Addr.add _ _).block ≠ _;rw [add_block];exact hn107_5)|exact hn107_5) (.int .i64 ((rd_T91 t101 x17_1).f2))).trans hx107_4;replace hx107_5:=(cell_far (p:=⟨gb106,5,none⟩) (by first|(rw [add_block];exact hn107_5)|(show (Addr.add _ _).block ≠ _;rw [add_block];exact hn107_5)|exact hn107_5) (.int .i64 ((rd_T91 t101 x17_1).f2))).trans hx107_5;clear hn107_0;clear hn107_1;clear hn107_2;clear hn107_3;clear hn107_4;clear hn107_5;replace p107:=eq_true p107;replace q107:=eq_true q107;have p108:0 ≤ (x17_1:Int):=of_decide_eq_true (by first|(with_reducible assumption)|assumption);have q108:x17_1 < (l0.length:Int):=of_decide_eq_true (by first|(with_reducible assumption)|assumption);obtain ⟨ad108,e108,hx108_0,hx108_1,hx108_2,hx108_3,hx108_4,hx108_5⟩:=at_T73 HR0.out x17_1 p108 q108;obtain rfl:ad107 = ad108:=(by injection e108);have hn108_0:ad107.block ≠ gb106:=Nat.ne_of_lt (Nat.lt_of_lt_of_le (by have:=World.block_lt_of_cell? _ _ hx108_0;first|rwa [add_block] at this|exact this) GW106.out);have hn108_1:ad107.block ≠ gb106:=Nat.ne_of_lt (Nat.lt_of_lt_of_le (by have:=World.block_lt_of_cell? _ _ hx108_0;first|rwa [add_block] at this|exact this) GW106.out);have hn108_2:ad107.block ≠ gb106:=Nat.ne_of_lt (Nat.lt_of_lt_of_le (by have:=World.block_lt_of_cell? _ _ hx108_0;first|rwa [add_block] at this|exact this) GW106.out);have hn108_3:ad107.block ≠ gb106:=Nat.ne_of_lt (Nat.lt_of_lt_of_le (by have:=World.block_lt_of_cell? _ _ hx108_0;first|rwa [add_block] at this|exact this) GW106.out);have hn108_4:ad107.block ≠ gb106:=Nat.ne_of_lt (Nat.lt_of_lt_of_le (by have:=World.block_lt_of_cell? _ _ hx108_0;first|rwa [add_block] at this|exact this) GW106.out);have hn108_5:ad107.block ≠ gb106:=Nat.ne_of_lt (Nat.lt_of_lt_of_le (by have:=World.block_lt_of_cell? _ _ hx108_0;first|rwa [add_block] at this|exact this) GW106.out);replace hx108_0:=(HB.out.cell (World.block_lt_of_cell? w _ hx108_0)).trans hx108_0;replace hx108_1:=(HB.out.cell (World.block_lt_of_cell? w _ hx108_1)).trans hx108_1;replace hx108_2:=(HB.out.cell (World.block_lt_of_cell? w _ hx108_2)).trans hx108_2;replace hx108_3:=(HB.out.cell (World.block_lt_of_cell? w _ hx108_3)).trans hx108_3;replace hx108_4:=(HB.out.cell (World.block_lt_of_cell? w _ hx108_4)).trans hx108_4;replace hx108_5:=(HB.out.cell (World.block_lt_of_cell? w _ hx108_5)).trans hx108_5;replace hx108_0:=(cell_far (p:=⟨gb106,0,none⟩) (by first|(rw [add_block];exact hn108_0)|(show (Addr.add _ _).block ≠ _;rw [add_block];exact hn108_0)|exact hn108_0) (.string ((rd_T91 t101 x17_1).f0.f0))).trans hx108_0;replace hx108_1:=(cell_far (p:=⟨gb106,0,none⟩) (by first|(rw [add_block];exact hn108_0)|(show (Addr.add _ _).block ≠ _;rw [add_block];exact hn108_0)|exact hn108_0) (.string ((rd_T91 t101 x17_1).f0.f0))).trans hx108_1;replace hx108_2:=(cell_far (p:=⟨gb106,0,none⟩) (by first|(rw [add_block];exact hn108_0)|(show (Addr.add _ _).block ≠ _;rw [add_block];exact hn108_0)|exact hn108_0) (.string ((rd_T91 t101 x17_1).f0.f0))).trans hx108_2;replace hx108_3:=(cell_far (p:=⟨gb106,0,none⟩) (by first|(rw [add_block];exact hn108_0)|(show (Addr.add _ _).block ≠ _;rw [add_block];exact hn108_0)|exact hn108_0) (.string ((rd_T91 t101 x17_1).f0.f0))).trans hx108_3;replace hx108_4:=(cell_far (p:=⟨gb106,0,none⟩) (by first|(rw [add_block];exact hn108_0)|(show (Addr.add _ _).block ≠ _;rw [add_block];exact hn108_0)|exact hn108_0) (.string ((rd_T91 t101 x17_1).f0.f0))).trans hx108_4;replace hx108_5:=(cell_far (p:=⟨gb106,0,none⟩) (by first|(rw [add_block];exact hn108_0)|(show (Addr.add _ _).block ≠ _;rw [add_block];exact hn108_0)|exact hn108_0) (.string ((rd_T91 t101 x17_1).f0.f0))).trans hx108_5;replace hx108_0:=(cell_far (p:=⟨gb106,1,none⟩) (by first|(rw [add_block];exact hn108_1)|(show (Addr.add _ _).block ≠ _;rw [add_block];exact hn108_1)|exact hn108_1) (.int .i64 ((rd_T91 t101 x17_1).f0.f1))).trans hx108_0;replace hx108_1:=(cell_far (p:=⟨gb106,1,none⟩) (by first|(rw [add_block];exact hn108_1)|(show (Addr.add _ _).block ≠ _;rw [add_block];exact hn108_1)|exact hn108_1) (.int .i64 ((rd_T91 t101 x17_1).f0.f1))).trans hx108_1;replace hx108_2:=(cell_far (p:=⟨gb106,1,none⟩) (by first|(rw [add_block];exact hn108_1)|(show (Addr.add _ _).block ≠ _;rw [add_block];exact hn108_1)|exact hn108_1) (.int .i64 ((rd_T91 t101 x17_1).f0.f1))).trans hx108_2;replace hx108_3:=(cell_far (p:=⟨gb106,1,none⟩) (by first|(rw [add_block];exact hn108_1)|(show (Addr.add _ _).block ≠ _;rw [add_block];exact hn108_1)|exact hn108_1) (.int .i64 ((rd_T91 t101 x17_1).f0.f1))).trans hx108_3;replace hx108_4:=(cell_far (p:=⟨gb106,1,none⟩) (by first|(rw [add_block];exact hn108_1)|(show (Addr.add _ _).block ≠ _;rw [add_block];exact hn108_1)|exact hn108_1) (.int .i64 ((rd_T91 t101 x17_1).f0.f1))).trans hx108_4;replace hx108_5:=(cell_far (p:=⟨gb106,1,none⟩) (by first|(rw [add_block];exact hn108_1)|(show (Addr.add _ _).block ≠ _;rw [add_block];exact hn108_1)|exact hn108_1) (.int .i64 ((rd_T91 t101 x17_1).f0.f1))).trans hx108_5;replace hx108_0:=(cell_far (p:=⟨gb106,2,none⟩) (by first|(rw [add_block];exact hn108_2)|(show (Addr.add _ _).block ≠ _;rw [add_block];exact hn108_2)|exact hn108_2) (.int .i64 ((rd_T91 t101 x17_1).f0.f2))).trans hx108_0;replace hx108_1:=(cell_far (p:=⟨gb106,2,none⟩) (by first|(rw [add_block];exact hn108_2)|(show (Addr.add _ _).block ≠ _;rw [add_block];exact hn108_2)|exact hn108_2) (.int .i64 ((rd_T91 t101 x17_1).f0.f2))).trans hx108_1;replace hx108_2:=(cell_far (p:=⟨gb106,2,none⟩) (by first|(rw [add_block];exact hn108_2)|(show (Addr.add _ _).block ≠ _;rw [add_block];exact hn108_2)|exact hn108_2) (.int .i64 ((rd_T91 t101 x17_1).f0.f2))).trans hx108_2;replace hx108_3:=(cell_far (p:=⟨gb106,2,none⟩) (by first|(rw [add_block];exact hn108_2)|(show (Addr.add _ _).block ≠ _;rw [add_block];exact hn108_2)|exact hn108_2) (.int .i64 ((rd_T91 t101 x17_1).f0.f2))).trans hx108_3;replace hx108_4:=(cell_far (p:=⟨gb106,2,none⟩) (by first|(rw [add_block];exact hn108_2)|(show (Addr.add _ _).block ≠ _;rw [add_block];exact hn108_2)|exact hn108_2) (.int .i64 ((rd_T91 t101 x17_1).f0.f2))).trans hx108_4;replace hx108_5:=(cell_far (p:=⟨gb106,2,none⟩) (by first|(rw [add_block];exact hn108_2)|(show (Addr.add _ _).block ≠ _;rw [add_block];exact hn108_2)|exact hn108_2) (.int .i64 ((rd_T91 t101 x17_1).f0.f2))).trans hx108_5;replace hx108_0:=(cell_far (p:=⟨gb106,3,none⟩) (by first|(rw [add_block];exact hn108_3)|(show (Addr.add _ _).block ≠ _;rw [add_block];exact hn108_3)|exact hn108_3) (.int .i64 ((rd_T91 t101 x17_1).f0.f3))).trans hx108_0;replace hx108_1:=(cell_far (p:=⟨gb106,3,none⟩) (by first|(rw [add_block];exact hn108_3)|(show (Addr.add _ _).block ≠ _;rw [add_block];exact hn108_3)|exact hn108_3) (.int .i64 ((rd_T91 t101 x17_1).f0.f3))).trans hx108_1;replace hx108_2:=(cell_far (p:=⟨gb106,3,none⟩) (by first|(rw [add_block];exact hn108_3)|(show (Addr.add _ _).block ≠ _;rw [add_block];exact hn108_3)|exact hn108_3) (.int .i64 ((rd_T91 t101 x17_1).f0.f3))).trans hx108_2;replace hx108_3:=(cell_far (p:=⟨gb106,3,none⟩) (by first|(rw [add_block];exact hn108_3)|(show (Addr.add _ _).block ≠ _;rw [add_block];exact hn108_3)|exact hn108_3) (.int .i64 ((rd_T91 t101 x17_1).f0.f3))).trans hx108_3;replace hx108_4:=(cell_far (p:=⟨gb106,3,none⟩) (by first|(rw [add_block];exact hn108_3)|(show (Addr.add _ _).block ≠ _;rw [add_block];exact hn108_3)|exact hn108_3) (.int .i64 ((rd_T91 t101 x17_1).f0.f3))).trans hx108_4;replace hx108_5:=(cell_far (p:=⟨gb106,3,none⟩) (by first|(rw [add_block];exact hn108_3)|(show (Addr.add _ _).block ≠ _;rw [add_block];exact hn108_3)|exact hn108_3) (.int .i64 ((rd_T91 t101 x17_1).f0.f3))).trans hx108_5;replace hx108_0:=(cell_far (p:=⟨gb106,4,none⟩) (by first|(rw [add_block];exact hn108_4)|(show (Addr.add _ _).block ≠ _;rw [add_block];exact hn108_4)|exact hn108_4) (.slice A105_4 ((rd_T91 t101 x17_1).f1).length c105_4)).trans hx108_0;replace hx108_1:=(cell_far (p:=⟨gb106,4,none⟩) (by first|(rw [add_block];exact hn108_4)|(show (Addr.add _ _).block ≠ _;rw [add_block];exact hn108_4)|exact hn108_4) (.slice A105_4 ((rd_T91 t101 x17_1).f1).length c105_4)).trans hx108_1;replace hx108_2:=(cell_far (p:=⟨gb106,4,none⟩) (by first|(rw [add_block];exact hn108_4)|(show (Addr.add _ _).block ≠ _;rw [add_block];exact hn108_4)|exact hn108_4) (.slice A105_4 ((rd_T91 t101 x17_1).f1).length c105_4)).trans hx108_2;replace hx108_3:=(cell_far (p:=⟨gb106,4,none⟩) (by first|(rw [add_block];exact hn108_4)|(show (Addr.add _ _).block ≠ _;rw [add_block];exact hn108_4)|exact hn108_4) (.slice A105_4 ((rd_T91 t101 x17_1).f1).length c105_4)).trans hx108_3;replace hx108_4:=(cell_far (p:=⟨gb106,4,none⟩) (by first|(rw [add_block];exact hn108_4)|(show (Addr.add _ _).block ≠ _;rw [add_block];exact hn108_4)|exact hn108_4) (.slice A105_4 ((rd_T91 t101 x17_1).f1).length c105_4)).trans hx108_4;replace hx108_5:=(cell_far (p:=⟨gb106,4,none⟩) (by first|(rw [add_block];exact hn108_4)|(show (Addr.add _ _).block ≠ _;rw [add_block];exact hn108_4)|exact hn108_4) (.slice A105_4 ((rd_T91 t101 x17_1).f1).length c105_4)).trans hx108_5;replace hx108_0:=(cell_far (p:=⟨gb106,5,none⟩) (by first|(rw [add_block];exact hn108_5)|(show (Addr.add _ _).block ≠ _;rw [add_block];exact hn108_5)|exact hn108_5) (.int .i64 ((rd_T91 t101 x17_1).f2))).trans hx108_0;replace hx108_1:=(cell_far (p:=⟨gb106,5,none⟩) (by first|(rw [add_block];exact hn108_5)|(show (Addr.add _ _).block ≠ _;rw [add_block];exact hn108_5)|exact hn108_5) (.int .i64 ((rd_T91 t101 x17_1).f2))).trans hx108_1;replace hx108_2:=(cell_far (p:=⟨gb106,5,none⟩) (by first|(rw [add_block];exact hn108_5)|(show (Addr.add _ _).block ≠ _;rw [add_block];exact hn108_5)|exact hn108_5) (.int .i64 ((rd_T91 t101 x17_1).f2))).trans hx108_2;replace hx108_3:=(cell_far (p:=⟨gb106,5,none⟩) (by first|(rw [add_block];exact hn108_5)|(show (Addr.add _ _).block ≠ _;rw [add_block];exact hn108_5)|exact hn108_5) (.int .i64 ((rd_T91 t101 x17_1).f2))).trans hx108_3;replace hx108_4:=(cell_far (p:=⟨gb106,5,none⟩) (by first|(rw [add_block];exact hn108_5)|(show (Addr.add _ _).block ≠ _;rw [add_block];exact hn108_5)|exact hn108_5) (.int .i64 ((rd_T91 t101 x17_1).f2))).trans hx108_4;replace hx108_5:=(cell_far (p:=⟨gb106,5,none⟩) (by first|(rw [add_block];exact hn108_5)|(show (Addr.add _ _).block ≠ _;rw [add_block];exact hn108_5)|exact hn108_5) (.int .i64 ((rd_T91 t101 x17_1).f2))).trans hx108_5;clear hn108_0;clear hn108_1;clear hn108_2;clear hn108_3;clear hn108_4;clear hn108_5;replace p108:=eq_true p108;replace q108:=eq_true q108));try go_wp2_with (first|((with_reducible refine gate_dst (N:=8) rfl ?_);refine box_event ?hg (N:=8) ?hd (cs:=#[.string (⟨#[]⟩:ByteArray),.int .i64 0,.int .i64 0,.int .i64 0,.slice none 0 0,.int .i64 0]) (t:=91) ?hr ?_;(case hd=>rfl);(case hg=>rfl);(case hr=>first|(go_simp;done)|(go_simp;rfl));intro gb106 hg w10 hbox hb;have n0_:=Aside0.mk (Kd.N_below (Kd.N_elderB (by (with_reducible repeat (first|apply Kd.N_alloc|apply Kd.N_drewN|apply Kd.N_drew));exact HO_15.out) gb106 (Nat.le_of_eq hg.symm)) hb);have n1_:=Aside0.mk (Kd.V_below (Kd.V_elderB (by (with_reducible repeat (first|apply Kd.V_alloc|apply Kd.V_drewN|apply Kd.V_drew));exact HL105_4.out) gb106 (Nat.le_of_eq hg.symm)) hb);have n2_:=Aside0.mk (Kd.C_below (by repeat (first|(with_reducible exact HR105_4.out)|(with_reducible refine Kd.C_alloc ?_ _)|(with_reducible refine Kd.C_drewN ?_ _)|(with_reducible refine Kd.C_drew ?_)|exact HR105_4.out)) hb);have n3_:=Aside0.mk (below_step (by repeat (first|(with_reducible first|exact HB.out|apply below_alloc|apply pw_below_drewN|apply below_drew1)|exact HB.out)) hb);have n4_:=Aside0.mk (hbox);have n5_:=Aside0.mk ((by rw [hg];exact (below_size (by repeat (first|(with_reducible first|exact HB.out|apply below_alloc|apply pw_below_drewN|apply below_drew1)|exact HB.out))):w.heap.size ≤ gb106));have n6_:=Aside0.mk ((by rw [hg];exact (below_size (by repeat (first|(with_reducible first|exact HB.out|apply below_alloc|apply pw_below_drewN|apply below_drew1)|exact HB.out))):w.heap.size ≤ gb106));clear HO_15;clear HL105_4;clear HR105_4;clear HB;have HO_15:=n0_;have HL105_4:=n1_;have HR105_4:=n2_;have HB:=n3_;have BK106:=n4_;have GW106:=n5_;have GE106:=n6_;clear n0_ n1_ n2_ n3_ n4_ n5_ n6_;clear hb hbox hg;have hcz11_0:w10.cell? ⟨gb106,0,none⟩ = some (.string (⟨#[]⟩:ByteArray)):=(blk_cell BK106.out 0).trans rfl;have hcz11_1:w10.cell? ⟨gb106,1,none⟩ = some (.int .i64 0):=(blk_cell BK106.out 1).trans rfl;have hcz11_2:w10.cell? ⟨gb106,2,none⟩ = some (.int .i64 0):=(blk_cell BK106.out 2).trans rfl;have hcz11_3:w10.cell? ⟨gb106,3,none⟩ = some (.int .i64 0):=(blk_cell BK106.out 3).trans rfl;have hcz11_4:w10.cell? ⟨gb106,4,none⟩ = some (.slice none 0 0):=(blk_cell BK106.out 4).trans rfl;have hcz11_5:w10.cell? ⟨gb106,5,none⟩ = some (.int .i64 0):=(blk_cell BK106.out 5).trans rfl;have hfz11_0:=blk_frozen BK106.out 0;have hfz11_1:=blk_frozen BK106.out 1;have hfz11_2:=blk_frozen BK106.out 2;have hfz11_3:=blk_frozen BK106.out 3;have hfz11_4:=blk_frozen BK106.out 4;have hfz11_5:=blk_frozen BK106.out 5;have p107:0 ≤ (x17_1:Int):=of_decide_eq_true (by first|(with_reducible assumption)|assumption);have q107:x17_1 < (l0.length:Int):=of_decide_eq_true (by first|(with_reducible assumption)|assumption);obtain ⟨ad107,e107,hx107_0,hx107_1,hx107_2,hx107_3,hx107_4,hx107_5⟩:=at_T73 HR0.out x17_1 p107 q107;cases e107;have hn107_0:ad107.block ≠ gb106:=Nat.ne_of_lt (Nat.lt_of_lt_of_le (by have:=World.block_lt_of_cell? _ _ hx107_0;first|rwa [add_block] at this|exact this) GW106.out);have hn107_1:ad107.block ≠ gb106:=Nat.ne_of_lt (Nat.lt_of_lt_of_le (by have:=World.block_lt_of_cell? _ _ hx107_0;first|rwa [add_block] at this|exact this) GW106.out);have hn107_2:ad107.block ≠ gb106:=Nat.ne_of_lt (Nat.lt_of_lt_of_le (by have:=World.block_lt_of_cell? _ _ hx107_0;first|rwa [add_block] at this|exact this) GW106.out);have hn107_3:ad107.block ≠ gb106:=Nat.ne_of_lt (Nat.lt_of_lt_of_le (by have:=World.block_lt_of_cell? _ _ hx107_0;first|rwa [add_block] at this|exact this) GW106.out);have hn107_4:ad107.block ≠ gb106:=Nat.ne_of_lt (Nat.lt_of_lt_of_le (by have:=World.block_lt_of_cell? _ _ hx107_0;first|rwa [add_block] at this|exact this) GW106.out);have hn107_5:ad107.block ≠ gb106:=Nat.ne_of_lt (Nat.lt_of_lt_of_le (by have:=World.block_lt_of_cell? _ _ hx107_0;first|rwa [add_block] at this|exact this) GW106.out);replace hx107_0:=(HB.out.cell (World.block_lt_of_cell? w _ hx107_0)).trans hx107_0;replace hx107_1:=(HB.out.cell (World.block_lt_of_cell? w _ hx107_1)).trans hx107_1;replace hx107_2:=(HB.out.cell (World.block_lt_of_cell? w _ hx107_2)).trans hx107_2;replace hx107_3:=(HB.out.cell (World.block_lt_of_cell? w _ hx107_3)).trans hx107_3;replace hx107_4:=(HB.out.cell (World.block_lt_of_cell? w _ hx107_4)).trans hx107_4;replace hx107_5:=(HB.out.cell (World.block_lt_of_cell? w _ hx107_5)).trans hx107_5;replace hx107_0:=(cell_far (p:=⟨gb106,0,none⟩) (by first|(rw [add_block];exact hn107_0)|(show (Addr.add _ _).block ≠ _;rw [add_block];exact hn107_0)|exact hn107_0) (.string ((rd_T91 t101 x17_1).f0.f0))).trans hx107_0;replace hx107_1:=(cell_far (p:=⟨gb106,0,none⟩) (by first|(rw [add_block];exact hn107_0)|(show (Addr.add _ _).block ≠ _;rw [add_block];exact hn107_0)|exact hn107_0) (.string ((rd_T91 t101 x17_1).f0.f0))).trans hx107_1;replace hx107_2:=(cell_far (p:=⟨gb106,0,none⟩) (by first|(rw [add_block];exact hn107_0)|(show (Addr.add _ _).block ≠ _;rw [add_block];exact hn107_0)|exact hn107_0) (.string ((rd_T91 t101 x17_1).f0.f0))).trans hx107_2;replace hx107_3:=(cell_far (p:=⟨gb106,0,none⟩) (by first|(rw [add_block];exact hn107_0)|(show (Addr.add _ _).block ≠ _;rw [add_block];exact hn107_0)|exact hn107_0) (.string ((rd_T91 t101 x17_1).f0.f0))).trans hx107_3;replace hx107_4:=(cell_far (p:=⟨gb106,0,none⟩) (by first|(rw [add_block];exact hn107_0)|(show (Addr.add _ _).block ≠ _;rw [add_block];exact hn107_0)|exact hn107_0) (.string ((rd_T91 t101 x17_1).f0.f0))).trans hx107_4;replace hx107_5:=(cell_far (p:=⟨gb106,0,none⟩) (by first|(rw [add_block];exact hn107_0)|(show (Addr.add _ _).block ≠ _;rw [add_block];exact hn107_0)|exact hn107_0) (.string ((rd_T91 t101 x17_1).f0.f0))).trans hx107_5;replace hx107_0:=(cell_far (p:=⟨gb106,1,none⟩) (by first|(rw [add_block];exact hn107_1)|(show (Addr.add _ _).block ≠ _;rw [add_block];exact hn107_1)|exact hn107_1) (.int .i64 ((rd_T91 t101 x17_1).f0.f1))).trans hx107_0;replace hx107_1:=(cell_far (p:=⟨gb106,1,none⟩) (by first|(rw [add_block];exact hn107_1)|(show (Addr.add _ _).block ≠ _;rw [add_block];exact hn107_1)|exact hn107_1) (.int .i64 ((rd_T91 t101 x17_1).f0.f1))).trans hx107_1;replace hx107_2:=(cell_far (p:=⟨gb106,1,none⟩) (by first|(rw [add_block];exact hn107_1)|(show (Addr.add _ _).block ≠ _;rw [add_block];exact hn107_1)|exact hn107_1) (.int .i64 ((rd_T91 t101 x17_1).f0.f1))).trans hx107_2;replace hx107_3:=(cell_far (p:=⟨gb106,1,none⟩) (by first|(rw [add_block];exact hn107_1)|(show (Addr.add _ _).block ≠ _;rw [add_block];exact hn107_1)|exact hn107_1) (.int .i64 ((rd_T91 t101 x17_1).f0.f1))).trans hx107_3;replace hx107_4:=(cell_far (p:=⟨gb106,1,none⟩) (by first|(rw [add_block];exact hn107_1)|(show (Addr.add _ _).block ≠ _;rw [add_block];exact hn107_1)|exact hn107_1) (.int .i64 ((rd_T91 t101 x17_1).f0.f1))).trans hx107_4;replace hx107_5:=(cell_far (p:=⟨gb106,1,none⟩) (by first|(rw [add_block];exact hn107_1)|(show (Addr.add _ _).block ≠ _;rw [add_block];exact hn107_1)|exact hn107_1) (.int .i64 ((rd_T91 t101 x17_1).f0.f1))).trans hx107_5;replace hx107_0:=(cell_far (p:=⟨gb106,2,none⟩) (by first|(rw [add_block];exact hn107_2)|(show (Addr.add _ _).block ≠ _;rw [add_block];exact hn107_2)|exact hn107_2) (.int .i64 ((rd_T91 t101 x17_1).f0.f2))).trans hx107_0;replace hx107_1:=(cell_far (p:=⟨gb106,2,none⟩) (by first|(rw [add_block];exact hn107_2)|(show (Addr.add _ _).block ≠ _;rw [add_block];exact hn107_2)|exact hn107_2) (.int .i64 ((rd_T91 t101 x17_1).f0.f2))).trans hx107_1;replace hx107_2:=(cell_far (p:=⟨gb106,2,none⟩) (by first|(rw [add_block];exact hn107_2)|(show (Addr.add _ _).block ≠ _;rw [add_block];exact hn107_2)|exact hn107_2) (.int .i64 ((rd_T91 t101 x17_1).f0.f2))).trans hx107_2;replace hx107_3:=(cell_far (p:=⟨gb106,2,none⟩) (by first|(rw [add_block];exact hn107_2)|(show (Addr.add _ _).block ≠ _;rw [add_block];exact hn107_2)|exact hn107_2) (.int .i64 ((rd_T91 t101 x17_1).f0.f2))).trans hx107_3;replace hx107_4:=(cell_far (p:=⟨gb106,2,none⟩) (by first|(rw [add_block];exact hn107_2)|(show (Addr.add _ _).block ≠ _;rw [add_block];exact hn107_2)|exact hn107_2) (.int .i64 ((rd_T91 t101 x17_1).f0.f2))).trans hx107_4;replace hx107_5:=(cell_far (p:=⟨gb106,2,none⟩) (by first|(rw [add_block];exact hn107_2)|(show (Addr.add _ _).block ≠ _;rw [add_block];exact hn107_2)|exact hn107_2) (.int .i64 ((rd_T91 t101 x17_1).f0.f2))).trans hx107_5;replace hx107_0:=(cell_far (p:=⟨gb106,3,none⟩) (by first|(rw [add_block];exact hn107_3)|(show (Addr.add _ _).block ≠ _;rw [add_block];exact hn107_3)|exact hn107_3) (.int .i64 ((rd_T91 t101 x17_1).f0.f3))).trans hx107_0;replace hx107_1:=(cell_far (p:=⟨gb106,3,none⟩) (by first|(rw [add_block];exact hn107_3)|(show (Addr.add _ _).block ≠ _;rw [add_block];exact hn107_3)|exact hn107_3) (.int .i64 ((rd_T91 t101 x17_1).f0.f3))).trans hx107_1;replace hx107_2:=(cell_far (p:=⟨gb106,3,none⟩) (by first|(rw [add_block];exact hn107_3)|(show (Addr.add _ _).block ≠ _;rw [add_block];exact hn107_3)|exact hn107_3) (.int .i64 ((rd_T91 t101 x17_1).f0.f3))).trans hx107_2;replace hx107_3:=(cell_far (p:=⟨gb106,3,none⟩) (by first|(rw [add_block];exact hn107_3)|(show (Addr.add _ _).block ≠ _;rw [add_block];exact hn107_3)|exact hn107_3) (.int .i64 ((rd_T91 t101 x17_1).f0.f3))).trans hx107_3;replace hx107_4:=(cell_far (p:=⟨gb106,3,none⟩) (by first|(rw [add_block];exact hn107_3)|(show (Addr.add _ _).block ≠ _;rw [add_block];exact hn107_3)|exact hn107_3) (.int .i64 ((rd_T91 t101 x17_1).f0.f3))).trans hx107_4;replace hx107_5:=(cell_far (p:=⟨gb106,3,none⟩) (by first|(rw [add_block];exact hn107_3)|(show (Addr.add _ _).block ≠ _;rw [add_block];exact hn107_3)|exact hn107_3) (.int .i64 ((rd_T91 t101 x17_1).f0.f3))).trans hx107_5;replace hx107_0:=(cell_far (p:=⟨gb106,4,none⟩) (by first|(rw [add_block];exact hn107_4)|(show (Addr.add _ _).block ≠ _;rw [add_block];exact hn107_4)|exact hn107_4) (.slice A105_4 ((rd_T91 t101 x17_1).f1).length c105_4)).trans hx107_0;replace hx107_1:=(cell_far (p:=⟨gb106,4,none⟩) (by first|(rw [add_block];exact hn107_4)|(show (Addr.add _ _).block ≠ _;rw [add_block];exact hn107_4)|exact hn107_4) (.slice A105_4 ((rd_T91 t101 x17_1).f1).length c105_4)).trans hx107_1;replace hx107_2:=(cell_far (p:=⟨gb106,4,none⟩) (by first|(rw [add_block];exact hn107_4)|(show (Addr.add _ _).block ≠ _;rw [add_block];exact hn107_4)|exact hn107_4) (.slice A105_4 ((rd_T91 t101 x17_1).f1).length c105_4)).trans hx107_2;replace hx107_3:=(cell_far (p:=⟨gb106,4,none⟩) (by first|(rw [add_block];exact hn107_4)|(show (Addr.add _ _).block ≠ _;rw [add_block];exact hn107_4)|exact hn107_4) (.slice A105_4 ((rd_T91 t101 x17_1).f1).length c105_4)).trans hx107_3;replace hx107_4:=(cell_far (p:=⟨gb106,4,none⟩) (by first|(rw [add_block];exact hn107_4)|(show (Addr.add _ _).block ≠ _;rw [add_block];exact hn107_4)|exact hn107_4) (.slice A105_4 ((rd_T91 t101 x17_1).f1).length c105_4)).trans hx107_4;replace hx107_5:=(cell_far (p:=⟨gb106,4,none⟩) (by first|(rw [add_block];exact hn107_4)|(show (Addr.add _ _).block ≠ _;rw [add_block];exact hn107_4)|exact hn107_4) (.slice A105_4 ((rd_T91 t101 x17_1).f1).length c105_4)).trans hx107_5;replace hx107_0:=(cell_far (p:=⟨gb106,5,none⟩) (by first|(rw [add_block];exact hn107_5)|(show (Addr.add _ _).block ≠ _;rw [add_block];exact hn107_5)|exact hn107_5) (.int .i64 ((rd_T91 t101 x17_1).f2))).trans hx107_0;replace hx107_1:=(cell_far (p:=⟨gb106,5,none⟩) (by first|(rw [add_block];exact hn107_5)|(show (Addr.add _ _).block ≠ _;rw [add_block];exact hn107_5)|exact hn107_5) (.int .i64 ((rd_T91 t101 x17_1).f2))).trans hx107_1;replace hx107_2:=(cell_far (p:=⟨gb106,5,none⟩) (by first|(rw [add_block];exact hn107_5)|(show (Addr.add _ _).block ≠ _;rw [add_block];exact hn107_5)|exact hn107_5) (.int .i64 ((rd_T91 t101 x17_1).f2))).trans hx107_2;replace hx107_3:=(cell_far (p:=⟨gb106,5,none⟩) (by first|(rw [add_block];exact hn107_5)|(show (Addr.add _ _).block ≠ _;rw [add_block];exact hn107_5)|exact hn107_5) (.int .i64 ((rd_T91 t101 x17_1).f2))).trans hx107_3;replace hx107_4:=(cell_far (p:=⟨gb106,5,none⟩) (by first|(rw [add_block];exact hn107_5)|(show (Addr.add _ _).block ≠ _;rw [add_block];exact hn107_5)|exact hn107_5) (.int .i64 ((rd_T91 t101 x17_1).f2))).trans hx107_4;replace hx107_5:=(cell_far (p:=⟨gb106,5,none⟩) (by first|(rw [add_block];exact hn107_5)|(show (Addr.add _ _).block ≠ _;rw [add_block];exact hn107_5)|exact hn107_5) (.int .i64 ((rd_T91 t101 x17_1).f2))).trans hx107_5;clear hn107_0;clear hn107_1;clear hn107_2;clear hn107_3;clear hn107_4;clear hn107_5;replace p107:=eq_true p107;replace q107:=eq_true q107;have p108:0 ≤ (x17_1:Int):=of_decide_eq_true (by first|(with_reducible assumption)|assumption);have q108:x17_1 < (l0.length:Int):=of_decide_eq_true (by first|(with_reducible assumption)|assumption);obtain ⟨ad108,e108,hx108_0,hx108_1,hx108_2,hx108_3,hx108_4,hx108_5⟩:=at_T73 HR0.out x17_1 p108 q108;obtain rfl:ad107 = ad108:=(by injection e108);have hn108_0:ad107.block ≠ gb106:=Nat.ne_of_lt (Nat.lt_of_lt_of_le (by have:=World.block_lt_of_cell? _ _ hx108_0;first|rwa [add_block] at this|exact this) GW106.out);have hn108_1:ad107.block ≠ gb106:=Nat.ne_of_lt (Nat.lt_of_lt_of_le (by have:=World.block_lt_of_cell? _ _ hx108_0;first|rwa [add_block] at this|exact this) GW106.out);have hn108_2:ad107.block ≠ gb106:=Nat.ne_of_lt (Nat.lt_of_lt_of_le (by have:=World.block_lt_of_cell? _ _ hx108_0;first|rwa [add_block] at this|exact this) GW106.out);have hn108_3:ad107.block ≠ gb106:=Nat.ne_of_lt (Nat.lt_of_lt_of_le (by have:=World.block_lt_of_cell? _ _ hx108_0;first|rwa [add_block] at this|exact this) GW106.out);have hn108_4:ad107.block ≠ gb106:=Nat.ne_of_lt (Nat.lt_of_lt_of_le (by have:=World.block_lt_of_cell? _ _ hx108_0;first|rwa [add_block] at this|exact this) GW106.out);have hn108_5:ad107.block ≠ gb106:=Nat.ne_of_lt (Nat.lt_of_lt_of_le (by have:=World.block_lt_of_cell? _ _ hx108_0;first|rwa [add_block] at this|exact this) GW106.out);replace hx108_0:=(HB.out.cell (World.block_lt_of_cell? w _ hx108_0)).trans hx108_0;replace hx108_1:=(HB.out.cell (World.block_lt_of_cell? w _ hx108_1)).trans hx108_1;replace hx108_2:=(HB.out.cell (World.block_lt_of_cell? w _ hx108_2)).trans hx108_2;replace hx108_3:=(HB.out.cell (World.block_lt_of_cell? w _ hx108_3)).trans hx108_3;replace hx108_4:=(HB.out.cell (World.block_lt_of_cell? w _ hx108_4)).trans hx108_4;replace hx108_5:=(HB.out.cell (World.block_lt_of_cell? w _ hx108_5)).trans hx108_5;replace hx108_0:=(cell_far (p:=⟨gb106,0,none⟩) (by first|(rw [add_block];exact hn108_0)|(show (Addr.add _ _).block ≠ _;rw [add_block];exact hn108_0)|exact hn108_0) (.string ((rd_T91 t101 x17_1).f0.f0))).trans hx108_0;replace hx108_1:=(cell_far (p:=⟨gb106,0,none⟩) (by first|(rw [add_block];exact hn108_0)|(show (Addr.add _ _).block ≠ _;rw [add_block];exact hn108_0)|exact hn108_0) (.string ((rd_T91 t101 x17_1).f0.f0))).trans hx108_1;replace hx108_2:=(cell_far (p:=⟨gb106,0,none⟩) (by first|(rw [add_block];exact hn108_0)|(show (Addr.add _ _).block ≠ _;rw [add_block];exact hn108_0)|exact hn108_0) (.string ((rd_T91 t101 x17_1).f0.f0))).trans hx108_2;replace hx108_3:=(cell_far (p:=⟨gb106,0,none⟩) (by first|(rw [add_block];exact hn108_0)|(show (Addr.add _ _).block ≠ _;rw [add_block];exact hn108_0)|exact hn108_0) (.string ((rd_T91 t101 x17_1).f0.f0))).trans hx108_3;replace hx108_4:=(cell_far (p:=⟨gb106,0,none⟩) (by first|(rw [add_block];exact hn108_0)|(show (Addr.add _ _).block ≠ _;rw [add_block];exact hn108_0)|exact hn108_0) (.string ((rd_T91 t101 x17_1).f0.f0))).trans hx108_4;replace hx108_5:=(cell_far (p:=⟨gb106,0,none⟩) (by first|(rw [add_block];exact hn108_0)|(show (Addr.add _ _).block ≠ _;rw [add_block];exact hn108_0)|exact hn108_0) (.string ((rd_T91 t101 x17_1).f0.f0))).trans hx108_5;replace hx108_0:=(cell_far (p:=⟨gb106,1,none⟩) (by first|(rw [add_block];exact hn108_1)|(show (Addr.add _ _).block ≠ _;rw [add_block];exact hn108_1)|exact hn108_1) (.int .i64 ((rd_T91 t101 x17_1).f0.f1))).trans hx108_0;replace hx108_1:=(cell_far (p:=⟨gb106,1,none⟩) (by first|(rw [add_block];exact hn108_1)|(show (Addr.add _ _).block ≠ _;rw [add_block];exact hn108_1)|exact hn108_1) (.int .i64 ((rd_T91 t101 x17_1).f0.f1))).trans hx108_1;replace hx108_2:=(cell_far (p:=⟨gb106,1,none⟩) (by first|(rw [add_block];exact hn108_1)|(show (Addr.add _ _).block ≠ _;rw [add_block];exact hn108_1)|exact hn108_1) (.int .i64 ((rd_T91 t101 x17_1).f0.f1))).trans hx108_2;replace hx108_3:=(cell_far (p:=⟨gb106,1,none⟩) (by first|(rw [add_block];exact hn108_1)|(show (Addr.add _ _).block ≠ _;rw [add_block];exact hn108_1)|exact hn108_1) (.int .i64 ((rd_T91 t101 x17_1).f0.f1))).trans hx108_3;replace hx108_4:=(cell_far (p:=⟨gb106,1,none⟩) (by first|(rw [add_block];exact hn108_1)|(show (Addr.add _ _).block ≠ _;rw [add_block];exact hn108_1)|exact hn108_1) (.int .i64 ((rd_T91 t101 x17_1).f0.f1))).trans hx108_4;replace hx108_5:=(cell_far (p:=⟨gb106,1,none⟩) (by first|(rw [add_block];exact hn108_1)|(show (Addr.add _ _).block ≠ _;rw [add_block];exact hn108_1)|exact hn108_1) (.int .i64 ((rd_T91 t101 x17_1).f0.f1))).trans hx108_5;replace hx108_0:=(cell_far (p:=⟨gb106,2,none⟩) (by first|(rw [add_block];exact hn108_2)|(show (Addr.add _ _).block ≠ _;rw [add_block];exact hn108_2)|exact hn108_2) (.int .i64 ((rd_T91 t101 x17_1).f0.f2))).trans hx108_0;replace hx108_1:=(cell_far (p:=⟨gb106,2,none⟩) (by first|(rw [add_block];exact hn108_2)|(show (Addr.add _ _).block ≠ _;rw [add_block];exact hn108_2)|exact hn108_2) (.int .i64 ((rd_T91 t101 x17_1).f0.f2))).trans hx108_1;replace hx108_2:=(cell_far (p:=⟨gb106,2,none⟩) (by first|(rw [add_block];exact hn108_2)|(show (Addr.add _ _).block ≠ _;rw [add_block];exact hn108_2)|exact hn108_2) (.int .i64 ((rd_T91 t101 x17_1).f0.f2))).trans hx108_2;replace hx108_3:=(cell_far (p:=⟨gb106,2,none⟩) (by first|(rw [add_block];exact hn108_2)|(show (Addr.add _ _).block ≠ _;rw [add_block];exact hn108_2)|exact hn108_2) (.int .i64 ((rd_T91 t101 x17_1).f0.f2))).trans hx108_3;replace hx108_4:=(cell_far (p:=⟨gb106,2,none⟩) (by first|(rw [add_block];exact hn108_2)|(show (Addr.add _ _).block ≠ _;rw [add_block];exact hn108_2)|exact hn108_2) (.int .i64 ((rd_T91 t101 x17_1).f0.f2))).trans hx108_4;replace hx108_5:=(cell_far (p:=⟨gb106,2,none⟩) (by first|(rw [add_block];exact hn108_2)|(show (Addr.add _ _).block ≠ _;rw [add_block];exact hn108_2)|exact hn108_2) (.int .i64 ((rd_T91 t101 x17_1).f0.f2))).trans hx108_5;replace hx108_0:=(cell_far (p:=⟨gb106,3,none⟩) (by first|(rw [add_block];exact hn108_3)|(show (Addr.add _ _).block ≠ _;rw [add_block];exact hn108_3)|exact hn108_3) (.int .i64 ((rd_T91 t101 x17_1).f0.f3))).trans hx108_0;replace hx108_1:=(cell_far (p:=⟨gb106,3,none⟩) (by first|(rw [add_block];exact hn108_3)|(show (Addr.add _ _).block ≠ _;rw [add_block];exact hn108_3)|exact hn108_3) (.int .i64 ((rd_T91 t101 x17_1).f0.f3))).trans hx108_1;replace hx108_2:=(cell_far (p:=⟨gb106,3,none⟩) (by first|(rw [add_block];exact hn108_3)|(show (Addr.add _ _).block ≠ _;rw [add_block];exact hn108_3)|exact hn108_3) (.int .i64 ((rd_T91 t101 x17_1).f0.f3))).trans hx108_2;replace hx108_3:=(cell_far (p:=⟨gb106,3,none⟩) (by first|(rw [add_block];exact hn108_3)|(show (Addr.add _ _).block ≠ _;rw [add_block];exact hn108_3)|exact hn108_3) (.int .i64 ((rd_T91 t101 x17_1).f0.f3))).trans hx108_3;replace hx108_4:=(cell_far (p:=⟨gb106,3,none⟩) (by first|(rw [add_block];exact hn108_3)|(show (Addr.add _ _).block ≠ _;rw [add_block];exact hn108_3)|exact hn108_3) (.int .i64 ((rd_T91 t101 x17_1).f0.f3))).trans hx108_4;replace hx108_5:=(cell_far (p:=⟨gb106,3,none⟩) (by first|(rw [add_block];exact hn108_3)|(show (Addr.add _ _).block ≠ _;rw [add_block];exact hn108_3)|exact hn108_3) (.int .i64 ((rd_T91 t101 x17_1).f0.f3))).trans hx108_5;replace hx108_0:=(cell_far (p:=⟨gb106,4,none⟩) (by first|(rw [add_block];exact hn108_4)|(show (Addr.add _ _).block ≠ _;rw [add_block];exact hn108_4)|exact hn108_4) (.slice A105_4 ((rd_T91 t101 x17_1).f1).length c105_4)).trans hx108_0;replace hx108_1:=(cell_far (p:=⟨gb106,4,none⟩) (by first|(rw [add_block];exact hn108_4)|(show (Addr.add _ _).block ≠ _;rw [add_block];exact hn108_4)|exact hn108_4) (.slice A105_4 ((rd_T91 t101 x17_1).f1).length c105_4)).trans hx108_1;replace hx108_2:=(cell_far (p:=⟨gb106,4,none⟩) (by first|(rw [add_block];exact hn108_4)|(show (Addr.add _ _).block ≠ _;rw [add_block];exact hn108_4)|exact hn108_4) (.slice A105_4 ((rd_T91 t101 x17_1).f1).length c105_4)).trans hx108_2;replace hx108_3:=(cell_far (p:=⟨gb106,4,none⟩) (by first|(rw [add_block];exact hn108_4)|(show (Addr.add _ _).block ≠ _;rw [add_block];exact hn108_4)|exact hn108_4) (.slice A105_4 ((rd_T91 t101 x17_1).f1).length c105_4)).trans hx108_3;replace hx108_4:=(cell_far (p:=⟨gb106,4,none⟩) (by first|(rw [add_block];exact hn108_4)|(show (Addr.add _ _).block ≠ _;rw [add_block];exact hn108_4)|exact hn108_4) (.slice A105_4 ((rd_T91 t101 x17_1).f1).length c105_4)).trans hx108_4;replace hx108_5:=(cell_far (p:=⟨gb106,4,none⟩) (by first|(rw [add_block];exact hn108_4)|(show (Addr.add _ _).block ≠ _;rw [add_block];exact hn108_4)|exact hn108_4) (.slice A105_4 ((rd_T91 t101 x17_1).f1).length c105_4)).trans hx108_5;replace hx108_0:=(cell_far (p:=⟨gb106,5,none⟩) (by first|(rw [add_block];exact hn108_5)|(show (Addr.add _ _).block ≠ _;rw [add_block];exact hn108_5)|exact hn108_5) (.int .i64 ((rd_T91 t101 x17_1).f2))).trans hx108_0;replace hx108_1:=(cell_far (p:=⟨gb106,5,none⟩) (by first|(rw [add_block];exact hn108_5)|(show (Addr.add _ _).block ≠ _;rw [add_block];exact hn108_5)|exact hn108_5) (.int .i64 ((rd_T91 t101 x17_1).f2))).trans hx108_1;replace hx108_2:=(cell_far (p:=⟨gb106,5,none⟩) (by first|(rw [add_block];exact hn108_5)|(show (Addr.add _ _).block ≠ _;rw [add_block];exact hn108_5)|exact hn108_5) (.int .i64 ((rd_T91 t101 x17_1).f2))).trans hx108_2;replace hx108_3:=(cell_far (p:=⟨gb106,5,none⟩) (by first|(rw [add_block];exact hn108_5)|(show (Addr.add _ _).block ≠ _;rw [add_block];exact hn108_5)|exact hn108_5) (.int .i64 ((rd_T91 t101 x17_1).f2))).trans hx108_3;replace hx108_4:=(cell_far (p:=⟨gb106,5,none⟩) (by first|(rw [add_block];exact hn108_5)|(show (Addr.add _ _).block ≠ _;rw [add_block];exact hn108_5)|exact hn108_5) (.int .i64 ((rd_T91 t101 x17_1).f2))).trans hx108_4;replace hx108_5:=(cell_far (p:=⟨gb106,5,none⟩) (by first|(rw [add_block];exact hn108_5)|(show (Addr.add _ _).block ≠ _;rw [add_block];exact hn108_5)|exact hn108_5) (.int .i64 ((rd_T91 t101 x17_1).f2))).trans hx108_5;clear hn108_0;clear hn108_1;clear hn108_2;clear hn108_3;clear hn108_4;clear hn108_5;replace p108:=eq_true p108;replace q108:=eq_true q108)))
       go_roundg k1
       case measure=>have:=HK1.out;omega
       case rel=>exact ⟨(wrap64 (x4_1 + (wrap64 ((wrap64 (((rd_T73 l0 x17_1).f1) - ((rd_T73 l0 x17_1).f2))) * ((rd_T91 t101 x17_1).f2))))),(wrap64 (x17_1 + 1)),(by first|rfl|(simp;done)|(simp [*];done)),(by first|rfl|(simp;done)|(simp [*];done)),H',⟨by have:=HK1.out;omega⟩,⟨by (with_reducible repeat (first|apply Kd.N_alloc|apply Kd.N_drewN|apply Kd.N_drew));exact Kd.N_mono (Kd.N_far (p:=⟨gb106,5,none⟩) (Kd.N_far (p:=⟨gb106,4,none⟩) (Kd.N_far (p:=⟨gb106,3,none⟩) (Kd.N_far (p:=⟨gb106,2,none⟩) (Kd.N_far (p:=⟨gb106,1,none⟩) (Kd.N_far (p:=⟨gb106,0,none⟩) (Kd.N_mono HO_15.out (fun k_ hk=>(⟨hk,hk.2⟩:_ ∧ k_ ≠ gb106))) (fun _ hk=>hk.2) (.string ((rd_T91 t101 x17_1).f0.f0))) (fun _ hk=>hk.2) (.int .i64 ((rd_T91 t101 x17_1).f0.f1))) (fun _ hk=>hk.2) (.int .i64 ((rd_T91 t101 x17_1).f0.f2))) (fun _ hk=>hk.2) (.int .i64 ((rd_T91 t101 x17_1).f0.f3))) (fun _ hk=>hk.2) (.slice A105_4 ((rd_T91 t101 x17_1).f1).length c105_4)) (fun _ hk=>hk.2) (.int .i64 ((rd_T91 t101 x17_1).f2))) (fun _ hk=>trivial)⟩,⟨by repeat (first|(with_reducible first|exact HB.out|apply below_alloc|apply pw_below_drewN|apply below_drew1|refine below_set ?_ GE106.out)|exact HB.out)⟩⟩
      ·rw [if_neg c9] at H
       exact absurd H (by simp)
     ·rw [if_neg c8] at H
      exact absurd H (by simp)
    ·rw [if_neg c7] at H
     exact absurd H (by simp)
   ·rw [if_neg c6] at H
    have c6b0:decide (x17_1 < (t101.length:Int)) = false:=decide_eq_false c6
    clear c6
    simp only [Option.some.injEq,Prod.mk.injEq] at H
    obtain ⟨rfl,rfl⟩:=H
    go_wp2
    repeat (go_quiet (fail);try go_wp2)
    go_ret2
    exact ⟨by first|rfl|(simp [errW_none,errW_some] <;> rfl)|(simp [*,errW_none,errW_some] <;> rfl),by repeat (first|(with_reducible first|exact HB.out|apply below_alloc|apply pw_below_drewN|apply below_drew1)|exact HB.out)⟩
end Go.Proofs.Ytbgeceiddcokmaa.X
end
section
namespace Go.Proofs.Ytbgeceiddcokmaa.X
open Go.RowKit Go.Proofs.YtbgeceiddcokmaaW.PrintWords Go.Proofs.YtbgeceiddcokmaaW.PrintLast Go.Proofs.YtbgeceiddcokmaaW.PrintMore
attribute [local go_sem] max2_int min2_int max_two min_two max_three min_three max_four min_four
set_option linter.unusedVariables false
set_option linter.unusedSimpArgs false
def cents_Fits.f (a0:Int):Option (Bool):=if a0 ≥ (-1152921504606846976) then (some (decide (a0 ≤ 1152921504606846976))) else (some false)
set_option maxHeartbeats 8000000 in
set_option maxRecDepth 100000 in
theorem cents_Fits.calls (a0:Int) (r:Bool) (w:World) (h:cents_Fits.f a0 = some r) :
  Calls Try.prog 80 #[.int .i64 a0] w fun e w'=>e = .returned (.bool r) ∧ Drawn0 w w':=by
 have H:(if a0 ≥ (-1152921504606846976) then (some (decide (a0 ≤ 1152921504606846976))) else (some false)) = some r:=h
 clear h
 by_cases c2:a0 ≥ (-1152921504606846976)
 ·rw [if_pos c2] at H
  have c2b0:decide ((-1152921504606846976) ≤ a0) = true:=decide_eq_true c2
  clear c2
  obtain rfl:=Option.some.inj H
  go_enter Try.func80,Try.ntmps80
  go_wp2
  go_ret
  exact ⟨by first|rfl|(simp;done)|(simp [*];done),by repeat (first|exact Drawn0.refl _|apply Drawn0.step)⟩
 ·rw [if_neg c2] at H
  have c2b0:decide ((-1152921504606846976) ≤ a0) = false:=decide_eq_false c2
  clear c2
  obtain rfl:=Option.some.inj H
  go_enter Try.func80,Try.ntmps80
  go_wp2
  go_ret
  exact ⟨by first|rfl|(simp;done)|(simp [*];done),by repeat (first|exact Drawn0.refl _|apply Drawn0.step)⟩
end Go.Proofs.Ytbgeceiddcokmaa.X
end
section
namespace Go.Proofs.Ytbgeceiddcokmaa.X
open Go.RowKit Go.Proofs.YtbgeceiddcokmaaW.PrintWords Go.Proofs.YtbgeceiddcokmaaW.PrintLast Go.Proofs.YtbgeceiddcokmaaW.PrintMore
attribute [local go_sem] max2_int min2_int max_two min_two max_three min_three max_four min_four
set_option linter.unusedVariables false
set_option linter.unusedSimpArgs false
def cents_fitting.f (a0:Int):Option (Int × Int):=(cents_Fits.f a0).bind fun t101=>(if t101 = true then (some (a0,0)) else (some (0,3)))
set_option maxHeartbeats 8000000 in
set_option maxRecDepth 100000 in
theorem cents_fitting.calls (a0:Int) (r1:Int) (r2:Int) (w:World) (h:cents_fitting.f a0 = some (r1,r2)) :
  Calls Try.prog 81 #[.int .i64 a0] w fun e w'=>e = .returned (.tuple #[.int .i64 r1,.int .i64 r2]) ∧ Drawn0 w w':=by
 have H:((cents_Fits.f a0).bind fun t101=>(if t101 = true then (some (a0,0)) else (some (0,3)))) = some (r1,r2):=h
 clear h
 replace H:=Option.bind_eq_some_iff.mp H
 obtain ⟨t101,A20,H⟩:=H
 replace H:(if t101 = true then (some (a0,0)) else (some (0,3))) = some (r1,r2):=H
 have A2:=Aside0.mk A20
 clear A20
 by_cases c3:t101 = true
 ·subst c3
  have H1:(some (a0,0)) = some (r1,r2):=by rw [if_pos rfl] at H;exact H
  clear H
  have H:=H1
  clear H1
  simp only [Option.some.injEq,Prod.mk.injEq] at H
  obtain ⟨rfl,rfl⟩:=H
  go_enter Try.func81,Try.ntmps81
  go_wp2_with (first|((with_reducible refine gate_callee (f:=80) rfl ?_);refine goesL_ (some 5) rfl rfl Try.func80 (by kernel_rfl) rfl #[.int .i64 a0] rfl (by (try simp only [List.map_toArray,List.map_cons,List.map_nil]);first|done|rfl|(simp only [List.length_drop,List.length_take];rfl)) ?_;(with_reducible refine (cents_Fits.calls a0 true _ A2.out).mono ?_);rintro e w' ⟨rfl,⟨nd,rfl⟩⟩;refine ⟨_,rfl,?_⟩))
  go_ret2
  exact ⟨by first|rfl|(simp;done)|(simp [*];done),by repeat (first|exact Drawn0.refl _|apply Drawn0.step)⟩
 ·replace c3:=Bool.eq_false_iff.mpr c3
  subst c3
  have H1:(some (0,3)) = some (r1,r2):=by rw [if_neg (show ¬ (false = true) by decide)] at H;exact H
  clear H
  have H:=H1
  clear H1
  simp only [Option.some.injEq,Prod.mk.injEq] at H
  obtain ⟨rfl,rfl⟩:=H
  go_enter Try.func81,Try.ntmps81
  go_wp2_with (first|((with_reducible refine gate_callee (f:=80) rfl ?_);refine goesL_ (some 5) rfl rfl Try.func80 (by kernel_rfl) rfl #[.int .i64 a0] rfl (by (try simp only [List.map_toArray,List.map_cons,List.map_nil]);first|done|rfl|(simp only [List.length_drop,List.length_take];rfl)) ?_;(with_reducible refine (cents_Fits.calls a0 false _ A2.out).mono ?_);rintro e w' ⟨rfl,⟨nd,rfl⟩⟩;refine ⟨_,rfl,?_⟩))
  go_ret2
  exact ⟨by first|rfl|(simp;done)|(simp [*];done),by repeat (first|exact Drawn0.refl _|apply Drawn0.step)⟩
end Go.Proofs.Ytbgeceiddcokmaa.X
end
section
namespace Go.Proofs.Ytbgeceiddcokmaa.X
open Go.RowKit Go.Proofs.YtbgeceiddcokmaaW.PrintWords Go.Proofs.YtbgeceiddcokmaaW.PrintLast Go.Proofs.YtbgeceiddcokmaaW.PrintMore
attribute [local go_sem] max2_int min2_int max_two min_two max_three min_three max_four min_four
set_option linter.unusedVariables false
set_option linter.unusedSimpArgs false
def cents_Sum.l0:Nat → List Int → Int → Int → Int → Int → Option (Int × Int)
 | 0,_,_,_,_,_=>none
 | k + 1,x0,x4,x5,x9,x10=>if x10 < x9 then (if 0 ≤ x10 then (if x10 < (x0.length:Int) then ((cents_Fits.f (rd x0 x10)).bind fun t102=>(if t102 = true then (cents_Sum.l0 k x0 (wrap64 (x4 + ((rd x0 x10) / 4294967296))) (wrap64 (x5 + (Go.bits .and .i64 (rd x0 x10) 4294967295))) x9 (wrap64 (x10 + 1))) else (some (0,2)))) else (none)) else (none)) else (if (wrap64 (x4 + (x5 / 4294967296))) < (-268435456) then (some (0,3)) else (if (wrap64 (x4 + (x5 / 4294967296))) > 268435456 then (some (0,3)) else ((cents_fitting.f (wrap64 ((wrap64 ((wrap64 (x4 + (x5 / 4294967296))) * 4294967296)) + (Go.bits .and .i64 x5 4294967295)))).bind fun bt105=>(some (bt105.1,bt105.2)))))
def cents_Sum.f (k:Nat) (l0:List Int):Option (Int × Int):=cents_Sum.l0 k l0 0 0 (l0.length:Int) 0
theorem cents_Sum.mono_l:∀ k,(∀ y0 y1 y2 y3 y4,LeO (cents_Sum.l0 k y0 y1 y2 y3 y4) (cents_Sum.l0 (k + 1) y0 y1 y2 y3 y4))
 | 0=>fun _ _ _ _ _ r h=>by simp [cents_Sum.l0] at h
 | k + 1=>by
  have ih0:=cents_Sum.mono_l k
  ·intro y0 y1 y2 y3 y4
   unfold cents_Sum.l0
   repeat' first
   | (with_reducible exact ih0 _ _ _ _ _)
   | (with_reducible exact LeO.refl _)
   | (with_reducible exact LeO.none _)
   | (with_reducible refine LeO.ite ?_ ?_)
   | (with_reducible refine LeO.bind ?_ (fun _=>?_))
   | exact ih0 _ _ _ _ _
   | exact LeO.none _
   | refine LeO.ite ?_ ?_
   | refine LeO.bind ?_ (fun _=>?_)
theorem cents_Sum.mono:∀ a0 k,LeO (cents_Sum.f k a0) (cents_Sum.f (k + 1) a0):=by
 intro a0 k
 have ih0:=cents_Sum.mono_l k
 unfold cents_Sum.f
 repeat' first
   | (with_reducible exact ih0 _ _ _ _ _)
   | (with_reducible exact LeO.refl _)
   | (with_reducible exact LeO.none _)
   | (with_reducible refine LeO.ite ?_ ?_)
   | (with_reducible refine LeO.bind ?_ (fun _=>?_))
   | exact ih0 _ _ _ _ _
   | exact LeO.none _
   | refine LeO.ite ?_ ?_
   | refine LeO.bind ?_ (fun _=>?_)
set_option maxHeartbeats 8000000 in
set_option maxRecDepth 100000 in
theorem cents_Sum.calls (k:Nat) (A0:Option Addr) (c0:Nat) (l0:List Int) (r1:Int) (r2:Int) (w:World) (hr0:Kd.C (Kd.int .i64) w A0 l0.length l0) (hc0:l0.length ≤ c0) (h:cents_Sum.f k l0 = some (r1,r2)) :
  Calls Try.prog 58 #[.slice A0 l0.length c0] w fun e w'=>e = .returned (.tuple #[.int .i64 r1,.int .i64 r2]) ∧ Drawn0 w w':=by
 have HR0:=Aside0.mk hr0
 have HC0:=Aside0.mk hc0
 clear hr0 hc0
 have H:(cents_Sum.l0 k l0 0 0 (l0.length:Int) 0) = some (r1,r2):=h
 clear h
 have H':=Aside0.mk H
 clear H
 go_enter Try.func58,Try.ntmps58
 go_wp2
 go_loopg [4,5,10] k (fun kq v4 v5 v10 w'=>∃ (x4_1:Int) (x5_1:Int) (x10_1:Int),v4 = .int .i64 x4_1 ∧ v5 = .int .i64 x5_1 ∧ v10 = .int .i64 x10_1 ∧ Aside0 (cents_Sum.l0 kq l0 x4_1 x5_1 (l0.length:Int) x10_1 = some (r1,r2)) ∧ Aside0 (kq ≤ k) ∧ Drawn0 w w')
 case atStart=>exact ⟨(0),(0),(0),(by first|rfl|(simp;done)|(simp [*];done)),(by first|rfl|(simp;done)|(simp [*];done)),(by first|rfl|(simp;done)|(simp [*];done)),H',⟨Nat.le_refl _⟩,by repeat (first|exact Drawn0.refl _|apply Drawn0.step)⟩
 case round =>
  clear H'
  obtain ⟨x4_1,x5_1,x10_1,rfl,rfl,rfl,HA,HK1,⟨m1,rfl⟩⟩:=hrel
  cases gk with
  | zero=>exact absurd HA.out (by simp [cents_Sum.l0])
  | succ k1 =>
   have H:=HA.out
   clear HA
   simp only [cents_Sum.l0] at H
   by_cases c2:x10_1 < (l0.length:Int)
   ·rw [if_pos c2] at H
    have c2b0:decide (x10_1 < (l0.length:Int)) = true:=decide_eq_true c2
    clear c2
    by_cases c3:0 ≤ x10_1
    ·rw [if_pos c3] at H
     have c3b0:decide (0 ≤ x10_1) = true:=decide_eq_true c3
     clear c3
     by_cases c4:x10_1 < (l0.length:Int)
     ·rw [if_pos c4] at H
      have c4b0:decide (x10_1 < (l0.length:Int)) = true:=decide_eq_true c4
      clear c4
      replace H:=Option.bind_eq_some_iff.mp H
      obtain ⟨t102,A50,H⟩:=H
      replace H:(if t102 = true then (cents_Sum.l0 k1 l0 (wrap64 (x4_1 + ((rd l0 x10_1) / 4294967296))) (wrap64 (x5_1 + (Go.bits .and .i64 (rd l0 x10_1) 4294967295))) (l0.length:Int) (wrap64 (x10_1 + 1))) else (some (0,2))) = some (r1,r2):=H
      have A5:=Aside0.mk A50
      clear A50
      by_cases c6:t102 = true
      ·subst c6
       have H1:(cents_Sum.l0 k1 l0 (wrap64 (x4_1 + ((rd l0 x10_1) / 4294967296))) (wrap64 (x5_1 + (Go.bits .and .i64 (rd l0 x10_1) 4294967295))) (l0.length:Int) (wrap64 (x10_1 + 1))) = some (r1,r2):=by rw [if_pos rfl] at H;exact H
       clear H
       have H:=H1
       clear H1
       have H':=Aside0.mk H
       clear H
       have p101:0 ≤ (x10_1:Int):=of_decide_eq_true (by first|(with_reducible assumption)|assumption)
       have q101:x10_1 < (l0.length:Int):=of_decide_eq_true (by first|(with_reducible assumption)|assumption)
       obtain ⟨ad101,e101,hx101_0⟩:=Kd.at_int HR0.out x10_1 p101 q101
       cases e101
       replace p101:=eq_true p101
       replace q101:=eq_true q101
       go_wp2_with (first|((with_reducible refine gate_callee (f:=80) rfl ?_);refine goesL_ (some 17) rfl rfl Try.func80 (by kernel_rfl) rfl #[.int .i64 (rd l0 x10_1)] rfl (by (try simp only [List.map_toArray,List.map_cons,List.map_nil]);first|done|rfl|(simp only [List.length_drop,List.length_take];rfl)) ?_;(with_reducible refine (cents_Fits.calls (rd l0 x10_1) true _ A5.out).mono ?_);rintro e w' ⟨rfl,⟨nd,rfl⟩⟩;refine ⟨_,rfl,?_⟩;have p103:0 ≤ (x10_1:Int):=of_decide_eq_true (by first|(with_reducible assumption)|assumption);have q103:x10_1 < (l0.length:Int):=of_decide_eq_true (by first|(with_reducible assumption)|assumption);obtain ⟨ad103,e103,hx103_0⟩:=Kd.at_int HR0.out x10_1 p103 q103;obtain rfl:ad101 = ad103:=(by injection e103);replace p103:=eq_true p103;replace q103:=eq_true q103;have p104:0 ≤ (x10_1:Int):=of_decide_eq_true (by first|(with_reducible assumption)|assumption);have q104:x10_1 < (l0.length:Int):=of_decide_eq_true (by first|(with_reducible assumption)|assumption);obtain ⟨ad104,e104,hx104_0⟩:=Kd.at_int HR0.out x10_1 p104 q104;obtain rfl:ad101 = ad104:=(by injection e104);replace p104:=eq_true p104;replace q104:=eq_true q104))
       go_roundg k1
       case measure=>have:=HK1.out;omega
       case rel=>exact ⟨(wrap64 (x4_1 + ((rd l0 x10_1) / 4294967296))),(wrap64 (x5_1 + (Go.bits .and .i64 (rd l0 x10_1) 4294967295))),(wrap64 (x10_1 + 1)),(by first|rfl|(simp;done)|(simp [*];done)),(by first|rfl|(simp;done)|(simp [*];done)),(by first|rfl|(simp;done)|(simp [*];done)),H',⟨by have:=HK1.out;omega⟩,by repeat (first|exact Drawn0.refl _|apply Drawn0.step)⟩
      ·replace c6:=Bool.eq_false_iff.mpr c6
       subst c6
       have H1:(some (0,2)) = some (r1,r2):=by rw [if_neg (show ¬ (false = true) by decide)] at H;exact H
       clear H
       have H:=H1
       clear H1
       simp only [Option.some.injEq,Prod.mk.injEq] at H
       obtain ⟨rfl,rfl⟩:=H
       have p101:0 ≤ (x10_1:Int):=of_decide_eq_true (by first|(with_reducible assumption)|assumption)
       have q101:x10_1 < (l0.length:Int):=of_decide_eq_true (by first|(with_reducible assumption)|assumption)
       obtain ⟨ad101,e101,hx101_0⟩:=Kd.at_int HR0.out x10_1 p101 q101
       cases e101
       replace p101:=eq_true p101
       replace q101:=eq_true q101
       go_wp2_with (first|((with_reducible refine gate_callee (f:=80) rfl ?_);refine goesL_ (some 17) rfl rfl Try.func80 (by kernel_rfl) rfl #[.int .i64 (rd l0 x10_1)] rfl (by (try simp only [List.map_toArray,List.map_cons,List.map_nil]);first|done|rfl|(simp only [List.length_drop,List.length_take];rfl)) ?_;(with_reducible refine (cents_Fits.calls (rd l0 x10_1) false _ A5.out).mono ?_);rintro e w' ⟨rfl,⟨nd,rfl⟩⟩;refine ⟨_,rfl,?_⟩))
       go_ret2
       exact ⟨by first|rfl|(simp;done)|(simp [*];done),by repeat (first|exact Drawn0.refl _|apply Drawn0.step)⟩
     ·rw [if_neg c4] at H
      exact absurd H (by simp)
    ·rw [if_neg c3] at H
     exact absurd H (by simp)
   ·rw [if_neg c2] at H
    have c2b0:decide (x10_1 < (l0.length:Int)) = false:=decide_eq_false c2
    clear c2
    by_cases c7:(wrap64 (x4_1 + (x5_1 / 4294967296))) < (-268435456)
    ·rw [if_pos c7] at H
     have c7b0:decide ((wrap64 (x4_1 + (x5_1 / 4294967296))) < (-268435456)) = true:=decide_eq_true c7
     clear c7
     simp only [Option.some.injEq,Prod.mk.injEq] at H
     obtain ⟨rfl,rfl⟩:=H
     go_wp2
     go_ret2
     exact ⟨by first|rfl|(simp;done)|(simp [*];done),by repeat (first|exact Drawn0.refl _|apply Drawn0.step)⟩
    ·rw [if_neg c7] at H
     have c7b0:decide ((wrap64 (x4_1 + (x5_1 / 4294967296))) < (-268435456)) = false:=decide_eq_false c7
     clear c7
     by_cases c8:(wrap64 (x4_1 + (x5_1 / 4294967296))) > 268435456
     ·rw [if_pos c8] at H
      have c8b0:decide (268435456 < (wrap64 (x4_1 + (x5_1 / 4294967296)))) = true:=decide_eq_true c8
      clear c8
      simp only [Option.some.injEq,Prod.mk.injEq] at H
      obtain ⟨rfl,rfl⟩:=H
      go_wp2
      go_ret2
      exact ⟨by first|rfl|(simp;done)|(simp [*];done),by repeat (first|exact Drawn0.refl _|apply Drawn0.step)⟩
     ·rw [if_neg c8] at H
      have c8b0:decide (268435456 < (wrap64 (x4_1 + (x5_1 / 4294967296)))) = false:=decide_eq_false c8
      clear c8
      replace H:=Option.bind_eq_some_iff.mp H
      obtain ⟨⟨t105,t106⟩,A90,H⟩:=H
      replace H:(some (t105,t106)) = some (r1,r2):=H
      have A9:=Aside0.mk A90
      clear A90
      simp only [Option.some.injEq,Prod.mk.injEq] at H
      obtain ⟨rfl,rfl⟩:=H
      go_wp2_with (first|((with_reducible refine gate_callee (f:=81) rfl ?_);refine goesL_ (some 52) rfl rfl Try.func81 (by kernel_rfl) rfl #[.int .i64 (wrap64 ((wrap64 ((wrap64 (x4_1 + (x5_1 / 4294967296))) * 4294967296)) + (Go.bits .and .i64 x5_1 4294967295)))] rfl (by (try simp only [List.map_toArray,List.map_cons,List.map_nil]);first|done|rfl|(simp only [List.length_drop,List.length_take];rfl)) ?_;(with_reducible refine (cents_fitting.calls (wrap64 ((wrap64 ((wrap64 (x4_1 + (x5_1 / 4294967296))) * 4294967296)) + (Go.bits .and .i64 x5_1 4294967295))) t105 t106 _ A9.out).mono ?_);rintro e w' ⟨rfl,⟨nd,rfl⟩⟩;refine ⟨_,rfl,?_⟩))
      go_ret2
      exact ⟨by first|rfl|(simp;done)|(simp [*];done),by repeat (first|exact Drawn0.refl _|apply Drawn0.step)⟩
end Go.Proofs.Ytbgeceiddcokmaa.X
end
section
namespace Go.Proofs.Ytbgeceiddcokmaa.X
open Go.RowKit Go.Proofs.YtbgeceiddcokmaaW.PrintWords Go.Proofs.YtbgeceiddcokmaaW.PrintLast Go.Proofs.YtbgeceiddcokmaaW.PrintMore
attribute [local go_sem] max2_int min2_int max_two min_two max_three min_three max_four min_four
set_option linter.unusedVariables false
set_option linter.unusedSimpArgs false
mutual
def scan_Losses.j0:Nat → List (S73) → List (S91) → List Int → Int → List (S91) → Bool → Option (List Int × Int)
 | 0,_,_,_,_,_,_=>none
 | k + 1,x0,x1,x4,x5,x6,x25=>if x25 = true then (some (([]:List Int),x5)) else (if 0 < (x1.length:Int) then (scan_Losses.l0 k x0 x4 x6 (((rd_T91 x1 0).f1).length:Int) 0) else (none))
def scan_Losses.l0:Nat → List (S73) → List Int → List (S91) → Int → Int → Option (List Int × Int)
 | 0,_,_,_,_,_=>none
 | k + 1,x0,x4,x6,x31,x32=>if x32 < x31 then (scan_Losses.l1 k x0 x4 x6 x32 ([]:List Int) x31 x32 x0 (x0.length:Int) 0) else (some (x4,0))
def scan_Losses.l1:Nat → List (S73) → List Int → List (S91) → Int → List Int → Int → Int → List (S73) → Int → Int → Option (List Int × Int)
 | 0,_,_,_,_,_,_,_,_,_,_=>none
 | k + 1,x0,x4,x6,x7,x8,x31,x32,x35,x36,x37=>if x37 < x36 then (if 0 ≤ x37 then (if x37 < (x35.length:Int) then (if x37 < (x6.length:Int) then (if 0 ≤ x7 then (if x7 < (((rd_T91 x6 x37).f1).length:Int) then (if x8.length < 17592186044416 then (scan_Losses.l1 k x0 x4 x6 x7 (x8 ++ [wrap64 ((wrap64 (((rd_T73 x35 x37).f1) - ((rd_T73 x35 x37).f2))) * (rd ((rd_T91 x6 x37).f1) x7))]) x31 x32 x35 x36 (wrap64 (x37 + 1))) else (none)) else (none)) else (none)) else (none)) else (none)) else (none)) else ((cents_Sum.f k x8).bind fun bt113=>(if bt113.2 = 0 then (if x4.length < 17592186044416 then (scan_Losses.l0 k x0 (x4 ++ [bt113.1]) x6 x31 (wrap64 (x32 + 1))) else (none)) else (some (([]:List Int),bt113.2))))
end
def scan_Losses.f (k:Nat) (l0:List (S73)) (l1:List (S91)):Option (List Int × Int):=(scan_found.f k l0 l1).bind fun bt101=>(if bt101.2 = 0 then (scan_Losses.j0 k l0 l1 ([]:List Int) bt101.2 bt101.1 ((l1.length:Int) == 0)) else (scan_Losses.j0 k l0 l1 ([]:List Int) bt101.2 bt101.1 true))
theorem scan_Losses.mono_l:∀ k,(∀ y0 y1 y2 y3 y4 y5,LeO (scan_Losses.j0 k y0 y1 y2 y3 y4 y5) (scan_Losses.j0 (k + 1) y0 y1 y2 y3 y4 y5)) ∧ (∀ y0 y1 y2 y3 y4,LeO (scan_Losses.l0 k y0 y1 y2 y3 y4) (scan_Losses.l0 (k + 1) y0 y1 y2 y3 y4)) ∧ (∀ y0 y1 y2 y3 y4 y5 y6 y7 y8 y9,LeO (scan_Losses.l1 k y0 y1 y2 y3 y4 y5 y6 y7 y8 y9) (scan_Losses.l1 (k + 1) y0 y1 y2 y3 y4 y5 y6 y7 y8 y9))
 | 0=>⟨fun _ _ _ _ _ _ r h=>by simp [scan_Losses.j0] at h,fun _ _ _ _ _ r h=>by simp [scan_Losses.l0] at h,fun _ _ _ _ _ _ _ _ _ _ r h=>by simp [scan_Losses.l1] at h⟩
 | k + 1=>by
  obtain ⟨ih0,ih1,ih2⟩:=scan_Losses.mono_l k
  refine ⟨?_,?_,?_⟩
  ·intro y0 y1 y2 y3 y4 y5
   unfold scan_Losses.j0
   repeat' first
   | (with_reducible exact ih0 _ _ _ _ _ _)
   | (with_reducible exact ih1 _ _ _ _ _)
   | (with_reducible exact ih2 _ _ _ _ _ _ _ _ _ _)
   | (with_reducible exact cents_Sum.mono _ _)
   | (with_reducible exact scan_found.mono _ _ _)
   | (with_reducible exact LeO.refl _)
   | (with_reducible exact LeO.none _)
   | (with_reducible refine LeO.ite ?_ ?_)
   | (with_reducible refine LeO.bind ?_ (fun _=>?_))
   | exact ih0 _ _ _ _ _ _
   | exact ih1 _ _ _ _ _
   | exact ih2 _ _ _ _ _ _ _ _ _ _
   | exact cents_Sum.mono _ _
   | exact scan_found.mono _ _ _
   | exact LeO.none _
   | refine LeO.ite ?_ ?_
   | refine LeO.bind ?_ (fun _=>?_)
  ·intro y0 y1 y2 y3 y4
   unfold scan_Losses.l0
   repeat' first
   | (with_reducible exact ih0 _ _ _ _ _ _)
   | (with_reducible exact ih1 _ _ _ _ _)
   | (with_reducible exact ih2 _ _ _ _ _ _ _ _ _ _)
   | (with_reducible exact cents_Sum.mono _ _)
   | (with_reducible exact scan_found.mono _ _ _)
   | (with_reducible exact LeO.refl _)
   | (with_reducible exact LeO.none _)
   | (with_reducible refine LeO.ite ?_ ?_)
   | (with_reducible refine LeO.bind ?_ (fun _=>?_))
   | exact ih0 _ _ _ _ _ _
   | exact ih1 _ _ _ _ _
   | exact ih2 _ _ _ _ _ _ _ _ _ _
   | exact cents_Sum.mono _ _
   | exact scan_found.mono _ _ _
   | exact LeO.none _
   | refine LeO.ite ?_ ?_
   | refine LeO.bind ?_ (fun _=>?_)
  ·intro y0 y1 y2 y3 y4 y5 y6 y7 y8 y9
   unfold scan_Losses.l1
   repeat' first
   | (with_reducible exact ih0 _ _ _ _ _ _)
   | (with_reducible exact ih1 _ _ _ _ _)
   | (with_reducible exact ih2 _ _ _ _ _ _ _ _ _ _)
   | (with_reducible exact cents_Sum.mono _ _)
   | (with_reducible exact scan_found.mono _ _ _)
   | (with_reducible exact LeO.refl _)
   | (with_reducible exact LeO.none _)
   | (with_reducible refine LeO.ite ?_ ?_)
   | (with_reducible refine LeO.bind ?_ (fun _=>?_))
   | exact ih0 _ _ _ _ _ _
   | exact ih1 _ _ _ _ _
   | exact ih2 _ _ _ _ _ _ _ _ _ _
   | exact cents_Sum.mono _ _
   | exact scan_found.mono _ _ _
   | exact LeO.none _
   | refine LeO.ite ?_ ?_
   | refine LeO.bind ?_ (fun _=>?_)
theorem scan_Losses.mono:∀ a0 a1 k,LeO (scan_Losses.f k a0 a1) (scan_Losses.f (k + 1) a0 a1):=by
 intro a0 a1 k
 obtain ⟨ih0,ih1,ih2⟩:=scan_Losses.mono_l k
 unfold scan_Losses.f
 repeat' first
   | (with_reducible exact ih0 _ _ _ _ _ _)
   | (with_reducible exact ih1 _ _ _ _ _)
   | (with_reducible exact ih2 _ _ _ _ _ _ _ _ _ _)
   | (with_reducible exact cents_Sum.mono _ _)
   | (with_reducible exact scan_found.mono _ _ _)
   | (with_reducible exact LeO.refl _)
   | (with_reducible exact LeO.none _)
   | (with_reducible refine LeO.ite ?_ ?_)
   | (with_reducible refine LeO.bind ?_ (fun _=>?_))
   | exact ih0 _ _ _ _ _ _
   | exact ih1 _ _ _ _ _
   | exact ih2 _ _ _ _ _ _ _ _ _ _
   | exact cents_Sum.mono _ _
   | exact scan_found.mono _ _ _
   | exact LeO.none _
   | refine LeO.ite ?_ ?_
   | refine LeO.bind ?_ (fun _=>?_)
def scan_Losses.T11:Bool × List (List Nat × List Nat):=(true,[([],[]),([],[]),([1],[1]),([],[]),([3],[3]),([2,4],[2,4]),([],[]),([],[]),([6,7],[6,7]),([8],[8]),([9],[9]),([],[]),([10,11],[10,11]),([12],[12]),([5,13],[5,13]),([14],[14]),([0,15],[0,15]),([16,16,0,1,2,3,4,5,6,7,8,9,10,11,12,13,14,15,16],[0,16])])
def scan_Losses.B11:List Nat:=[0,0,2,0,8,30,0,0,192,448,960,0,4032,8128,16382,32766,65535,131071]
theorem scan_Losses.tab11:rtab .any (opsOf Try.f27 11) = scan_Losses.T11:=by kernel_rfl
theorem scan_Losses.bits11:waitsOk scan_Losses.T11.2 scan_Losses.B11 = true:=by kernel_rfl
set_option maxHeartbeats 8000000 in
set_option maxRecDepth 100000 in
theorem scan_Losses.calls (k:Nat) (A0:Option Addr) (c0:Nat) (l0:List (S73)) (A1:Option Addr) (c1:Nat) (l1:List (S91)) (r1:List Int) (r2:Int) (w:World) (hr0:Kd.C k73 w A0 l0.length l0) (hc0:l0.length ≤ c0) (hr1:Kd.C k91 w A1 l1.length l1) (hc1:l1.length ≤ c1) (h:scan_Losses.f k l0 l1 = some (r1,r2)) :
  Calls Try.prog 27 #[.slice A0 l0.length c0,.slice A1 l1.length c1] w fun e w'=>∃ v0_:Value,e = .returned (.tuple #[v0_,.int .i64 r2]) ∧ Kd.R (Kd.int .i64) 3 w' w.heap.size (fun _=>True) v0_ r1 ∧ Below w.heap.size w w':=by
 have hu73:=Try.underlying73
 have HR0:=Aside0.mk hr0
 have HC0:=Aside0.mk hc0
 clear hr0 hc0
 have HR1:=Aside0.mk hr1
 have HC1:=Aside0.mk hc1
 clear hr1 hc1
 have HB:=Aside0.mk (Below.refl w.heap.size w)
 have H:((scan_found.f k l0 l1).bind fun bt101=>(if bt101.2 = 0 then (scan_Losses.j0 k l0 l1 ([]:List Int) bt101.2 bt101.1 ((l1.length:Int) == 0)) else (scan_Losses.j0 k l0 l1 ([]:List Int) bt101.2 bt101.1 true))) = some (r1,r2):=h
 clear h
 replace H:=Option.bind_eq_some_iff.mp H
 obtain ⟨⟨t101,t104⟩,A30,H⟩:=H
 replace H:(if t104 = 0 then (scan_Losses.j0 k l0 l1 ([]:List Int) t104 t101 ((l1.length:Int) == 0)) else (scan_Losses.j0 k l0 l1 ([]:List Int) t104 t101 true)) = some (r1,r2):=H
 have A3:=Aside0.mk A30
 clear A30
 have HC4:=Aside0.mk H
 clear H
 go_enter Try.func27,Try.ntmps27
 go_upto_region 2 with (first|((with_reducible refine gate_callee (f:=57) rfl ?_);refine goesL_ (some 16) rfl rfl Try.func57 (by kernel_rfl) rfl #[.slice A0 l0.length c0,.slice A1 l1.length c1] rfl (by (try simp only [List.map_toArray,List.map_cons,List.map_nil]);first|done|rfl|(simp only [List.length_drop,List.length_take];rfl)) ?_;(with_reducible refine (scan_found.calls k _ _ l0 (fun k_=>k_ < w.heap.size) _ _ l1 t101 t104 _ ?side1 ?side2 ?side3 A3.out).mono ?_);(case side1=>repeat (first|exact HR0.out|(with_reducible refine Kd.C_alloc ?_ _)|(with_reducible refine Kd.C_drewN ?_ _)|(with_reducible refine Kd.C_drew ?_)));(case side2=>exact HC0.out);(case side3=>exact Kd.V_mk HC1.out (Kd.F_below (Kd.C_F k91_heap HR1.out) (by repeat (first|(with_reducible first|exact HB.out|apply below_alloc|apply pw_below_drewN|apply below_drew1)|exact HB.out))));rintro e w5 ⟨v102,rfl,ho0,hb⟩;refine ⟨_,rfl,?_⟩;have n0_:=Aside0.mk (Kd.N_lower (Kd.N_mono (ok':=fun k_=>True) ho0 (fun k_ hk_=>trivial)) (below_size (by repeat (first|(with_reducible first|exact HB.out|apply below_alloc|apply pw_below_drewN|apply below_drew1)|exact HB.out))));have n1_:=Aside0.mk (below_step (by repeat (first|(with_reducible first|exact HB.out|apply below_alloc|apply pw_below_drewN|apply below_drew1)|exact HB.out)) hb);clear HB;have HO103:=n0_;have HB:=n1_;clear n0_ n1_;(try clear hb);(try clear hb2);(try clear hk);(try clear hi);(try clear ho0)))
 (try simp only [Act.put,List.setIfInBounds_toArray,List.set_cons_zero,List.set_cons_succ])
 go_cut [25] (fun v25 wc=>∃ (kq:Nat) (x25_3:Bool),v25 = .bool x25_3 ∧ Aside0 (scan_Losses.j0 kq l0 l1 ([]:List Int) t104 t101 x25_3 = some (r1,r2)) ∧ Aside0 (kq ≤ k) ∧ Aside0 (Kd.R (Kd.int .i64) 3 wc w.heap.size (fun _=>True) (.slice none 0 0) ([]:List Int)) ∧ Aside0 (Kd.N k91 91 wc w.heap.size (fun k_=>some k_ ≠ ((.slice none 0 0):Value).ownBlock) v102 t101) ∧ Aside0 (Below w.heap.size w wc))
 case first =>
  have H:=HC4.out
  clear HC4
  by_cases c6:t104 = 0
  ·rw [if_pos c6] at H
   have c6b0:(t104 == 0) = true:=beq_iff_eq.mpr c6
   have c6b1:(t104 != 0) = false:=bne_eq_false_iff_eq.mpr c6
   clear c6
   (first|rw [c6b0]|(simp only [i64_w,i32_w];rw [c6b0])|skip)
   have H':=Aside0.mk H
   clear H
   go_wp2
   go_meet
   case rel=>exact ⟨_,(((l1.length:Int) == 0)),(by first|rfl|(simp;done)|(simp [*];done)),H',⟨by first|omega|exact Nat.le_refl _⟩,⟨by first|exact Kd.R_nil _ _ _ _ _|exact Kd.N_nil _ _ _ _ _|exact Kd.V_nil _ _ _ _ _|exact Kd.Q_nil _ _ _ _ _|exact Kd.S_nil _ _ _ _ _⟩,⟨by (with_reducible repeat (first|apply Kd.N_alloc|apply Kd.N_drewN|apply Kd.N_drew));exact Kd.N_mono HO103.out (fun _ hk=>(by simp [Value.ownBlock]))⟩,⟨by repeat (first|(with_reducible first|exact HB.out|apply below_alloc|apply pw_below_drewN|apply below_drew1)|exact HB.out)⟩⟩
  ·rw [if_neg c6] at H
   have c6b0:(t104 == 0) = false:=beq_eq_false_iff_ne.mpr c6
   have c6b1:(t104 != 0) = true:=bne_iff_ne.mpr c6
   (first|rw [c6b0]|(simp only [i64_w,i32_w];rw [c6b0])|skip)
   have H':=Aside0.mk H
   clear H
   go_wp2
   go_meet
   case rel=>exact ⟨_,(true),(by first|rfl|(simp;done)|(simp [*];done)),H',⟨by first|omega|exact Nat.le_refl _⟩,⟨by first|exact Kd.R_nil _ _ _ _ _|exact Kd.N_nil _ _ _ _ _|exact Kd.V_nil _ _ _ _ _|exact Kd.Q_nil _ _ _ _ _|exact Kd.S_nil _ _ _ _ _⟩,⟨by (with_reducible repeat (first|apply Kd.N_alloc|apply Kd.N_drewN|apply Kd.N_drew));exact Kd.N_mono HO103.out (fun _ hk=>(by simp [Value.ownBlock]))⟩,⟨by repeat (first|(with_reducible first|exact HB.out|apply below_alloc|apply pw_below_drewN|apply below_drew1)|exact HB.out)⟩⟩
 case rest =>
  clear HC4
  try clear c1
  try clear c2
  try clear p2
  try clear c5
  try clear c6
  try clear c6b0
  try clear c6b1
  obtain ⟨kq,x25_3,rfl,HA,HJ3,HO_4,HO_6,HB⟩:=hcut
  cases kq with
  | zero=>exact absurd HA.out (by simp [scan_Losses.j0])
  | succ kj3 =>
   have H:=HA.out
   clear HA
   simp only [scan_Losses.j0] at H
   by_cases c7:x25_3 = true
   ·subst c7
    have H1:(some (([]:List Int),t104)) = some (r1,r2):=by rw [if_pos rfl] at H;exact H
    clear H
    have H:=H1
    clear H1
    simp only [Option.some.injEq,Prod.mk.injEq] at H
    obtain ⟨rfl,rfl⟩:=H
    go_wp2
    go_ret2
    exact ⟨_,by first|rfl|(simp [errW_none,errW_some] <;> rfl)|(simp [*,errW_none,errW_some] <;> rfl),by first|exact Kd.R_nil _ _ _ _ _|exact Kd.N_nil _ _ _ _ _|exact Kd.V_nil _ _ _ _ _|exact Kd.Q_nil _ _ _ _ _|exact Kd.S_nil _ _ _ _ _,by repeat (first|(with_reducible first|exact HB.out|apply below_alloc|apply pw_below_drewN|apply below_drew1)|exact HB.out)⟩
   ·replace c7:=Bool.eq_false_iff.mpr c7
    subst c7
    have H1:(if 0 < (l1.length:Int) then (scan_Losses.l0 kj3 l0 ([]:List Int) t101 (((rd_T91 l1 0).f1).length:Int) 0) else (none)) = some (r1,r2):=by rw [if_neg (show ¬ (false = true) by decide)] at H;exact H
    clear H
    have H:=H1
    clear H1
    by_cases c8:0 < (l1.length:Int)
    ·rw [if_pos c8] at H
     have c8b0:decide (0 < (l1.length:Int)) = true:=decide_eq_true c8
     have c8b1:decide (0 < l1.length) = true:=decide_eq_true (by omega)
     clear c8
     have H':=Aside0.mk H
     clear H
     have p105:0 ≤ (0:Int):=(by omega)
     have q105:0 < (l1.length:Int):=of_decide_eq_true (by first|(with_reducible assumption)|assumption)
     obtain ⟨ad105,A105_4,c105_4,e105,hx105_0,hx105_1,hx105_2,hx105_3,hx105_4,hx105_5,hl105_4,hi105_4⟩:=at_T91 HR1.out 0 p105 q105
     cases e105
     have qi105:(0 < l1.length) = True:=eq_true (by omega)
     (try rw [show ((0:Int)).toNat = 0 from rfl] at hx105_0)
     (try rw [show 0 * 6 = 0 from rfl] at hx105_0)
     (try rw [Addr.add_zero'] at hx105_0)
     (try rw [show ((0:Int)).toNat = 0 from rfl] at hx105_1)
     (try rw [show 0 * 6 = 0 from rfl] at hx105_1)
     (try rw [Addr.add_zero'] at hx105_1)
     (try rw [show ((0:Int)).toNat = 0 from rfl] at hx105_2)
     (try rw [show 0 * 6 = 0 from rfl] at hx105_2)
     (try rw [Addr.add_zero'] at hx105_2)
     (try rw [show ((0:Int)).toNat = 0 from rfl] at hx105_3)
     (try rw [show 0 * 6 = 0 from rfl] at hx105_3)
     (try rw [Addr.add_zero'] at hx105_3)
     (try rw [show ((0:Int)).toNat = 0 from rfl] at hx105_4)
     (try rw [show 0 * 6 = 0 from rfl] at hx105_4)
     (try rw [Addr.add_zero'] at hx105_4)
     (try rw [show ((0:Int)).toNat = 0 from rfl] at hx105_5)
     (try rw [show 0 * 6 = 0 from rfl] at hx105_5)
     (try rw [Addr.add_zero'] at hx105_5)
     replace hx105_0:=(HB.out.cell (World.block_lt_of_cell? w _ hx105_0)).trans hx105_0
     replace hx105_1:=(HB.out.cell (World.block_lt_of_cell? w _ hx105_1)).trans hx105_1
     replace hx105_2:=(HB.out.cell (World.block_lt_of_cell? w _ hx105_2)).trans hx105_2
     replace hx105_3:=(HB.out.cell (World.block_lt_of_cell? w _ hx105_3)).trans hx105_3
     replace hx105_4:=(HB.out.cell (World.block_lt_of_cell? w _ hx105_4)).trans hx105_4
     replace hx105_5:=(HB.out.cell (World.block_lt_of_cell? w _ hx105_5)).trans hx105_5
     have HR105_4:=Aside0.mk hi105_4
     have HC105_4:=Aside0.mk hl105_4
     clear hi105_4 hl105_4
     replace p105:=eq_true p105
     replace q105:=eq_true q105
     go_wp2
     go_loopg [4,32] kj3 (fun kq v4 v32 w'=>∃ (x4_2:List Int) (x32_2:Int),v32 = .int .i64 x32_2 ∧ Aside0 (scan_Losses.l0 kq l0 x4_2 t101 (((rd_T91 l1 0).f1).length:Int) x32_2 = some (r1,r2)) ∧ Aside0 (kq ≤ kj3) ∧ Aside0 (Kd.R (Kd.int .i64) 3 w' w.heap.size (fun _=>True) v4 x4_2) ∧ Aside0 (Kd.N k91 91 w' w.heap.size (fun k_=>some k_ ≠ (v4:Value).ownBlock) v102 t101) ∧ Aside0 (Below w.heap.size w w'))
     case atStart=>exact ⟨(([]:List Int)),(0),(by first|rfl|(simp;done)|(simp [*];done)),H',⟨Nat.le_refl _⟩,⟨by (with_reducible repeat (first|apply Kd.R_alloc|apply Kd.R_drewN|apply Kd.R_drew));exact HO_4.out⟩,⟨by (with_reducible repeat (first|apply Kd.N_alloc|apply Kd.N_drewN|apply Kd.N_drew));exact HO_6.out⟩,⟨by repeat (first|(with_reducible first|exact HB.out|apply below_alloc|apply pw_below_drewN|apply below_drew1)|exact HB.out)⟩⟩
     case round =>
      clear H'
      try clear c1
      try clear p1
      try clear q1
      try clear hx1
      try clear qi1
      try clear c2
      try clear p2
      try clear c5
      try clear c6
      try clear c6b0
      try clear c6b1
      try clear c7
      try clear c8
      try clear c8b0
      try clear c8b1
      try clear hx105_0
      try clear hx105_1
      try clear hx105_2
      try clear hx105_3
      try clear hx105_4
      try clear hx105_5
      try clear p105
      try clear p2
      try clear q105
      obtain ⟨x4_2,x32_2,rfl,HA,HK2,HO_4,HO_6,HB⟩:=hrel
      cases gk with
      | zero=>exact absurd HA.out (by simp [scan_Losses.l0])
      | succ k2 =>
       have H:=HA.out
       clear HA
       simp only [scan_Losses.l0] at H
       by_cases c9:x32_2 < (((rd_T91 l1 0).f1).length:Int)
       ·rw [if_pos c9] at H
        have c9b0:decide (x32_2 < (((rd_T91 l1 0).f1).length:Int)) = true:=decide_eq_true c9
        clear c9
        have H':=Aside0.mk H
        clear H
        go_wp2
        go_loopg [8,37] k2 (fun kq v8 v37 w'=>∃ (x8_3:List Int) (x37_3:Int),v37 = .int .i64 x37_3 ∧ Aside0 (scan_Losses.l1 kq l0 x4_2 t101 x32_2 x8_3 (((rd_T91 l1 0).f1).length:Int) x32_2 l0 (l0.length:Int) x37_3 = some (r1,r2)) ∧ Aside0 (kq ≤ k2) ∧ Aside0 (Kd.R (Kd.int .i64) 3 w' w.heap.size (fun k_=>some k_ ≠ (v8:Value).ownBlock) u4 x4_2) ∧ Aside0 (Kd.N k91 91 w' w.heap.size (fun k_=>some k_ ≠ (u4:Value).ownBlock ∧ some k_ ≠ (v8:Value).ownBlock) v102 t101) ∧ Aside0 (Kd.R (Kd.int .i64) 3 w' w.heap.size (fun k_=>some k_ ≠ (u4:Value).ownBlock) v8 x8_3) ∧ Aside0 (Below w.heap.size w w'))
        case atStart=>exact ⟨(([]:List Int)),(0),(by first|rfl|(simp;done)|(simp [*];done)),H',⟨Nat.le_refl _⟩,⟨by (with_reducible repeat (first|apply Kd.R_alloc|apply Kd.R_drewN|apply Kd.R_drew));exact Kd.R_mono HO_4.out (fun _ hk=>(by simp [Value.ownBlock]))⟩,⟨by (with_reducible repeat (first|apply Kd.N_alloc|apply Kd.N_drewN|apply Kd.N_drew));exact Kd.N_mono HO_6.out (fun _ hk=>⟨hk,(by simp [Value.ownBlock])⟩)⟩,⟨by first|exact Kd.R_nil _ _ _ _ _|exact Kd.N_nil _ _ _ _ _|exact Kd.V_nil _ _ _ _ _|exact Kd.Q_nil _ _ _ _ _|exact Kd.S_nil _ _ _ _ _⟩,⟨by repeat (first|(with_reducible first|exact HB.out|apply below_alloc|apply pw_below_drewN|apply below_drew1)|exact HB.out)⟩⟩
        case round =>
         clear H'
         try clear c1
         try clear p1
         try clear q1
         try clear hx1
         try clear qi1
         try clear c2
         try clear p2
         try clear c5
         try clear c6
         try clear c6b0
         try clear c6b1
         try clear c7
         try clear c8
         try clear c8b0
         try clear c8b1
         try clear c9
         try clear c9b0
         try clear hx105_0
         try clear hx105_1
         try clear hx105_2
         try clear hx105_3
         try clear hx105_4
         try clear hx105_5
         try clear p1
         try clear p105
         try clear p2
         try clear q1
         try clear q105
         obtain ⟨x8_3,x37_3,rfl,HA,HK3,HO_4,HO_6,HO_8,HB⟩:=hrel
         cases gk with
         | zero=>exact absurd HA.out (by simp [scan_Losses.l1])
         | succ k3 =>
          have H:=HA.out
          clear HA
          simp only [scan_Losses.l1] at H
          by_cases c10:x37_3 < (l0.length:Int)
          ·rw [if_pos c10] at H
           have c10b0:decide (x37_3 < (l0.length:Int)) = true:=decide_eq_true c10
           clear c10
           by_cases c11:0 ≤ x37_3
           ·rw [if_pos c11] at H
            have c11b0:decide (0 ≤ x37_3) = true:=decide_eq_true c11
            clear c11
            by_cases c12:x37_3 < (l0.length:Int)
            ·rw [if_pos c12] at H
             have c12b0:decide (x37_3 < (l0.length:Int)) = true:=decide_eq_true c12
             clear c12
             by_cases c13:x37_3 < (t101.length:Int)
             ·rw [if_pos c13] at H
              have c13b0:decide (x37_3 < (t101.length:Int)) = true:=decide_eq_true c13
              clear c13
              by_cases c14:0 ≤ x32_2
              ·rw [if_pos c14] at H
               have c14b0:decide (0 ≤ x32_2) = true:=decide_eq_true c14
               clear c14
               by_cases c15:x32_2 < (((rd_T91 t101 x37_3).f1).length:Int)
               ·rw [if_pos c15] at H
                have c15b0:decide (x32_2 < (((rd_T91 t101 x37_3).f1).length:Int)) = true:=decide_eq_true c15
                clear c15
                by_cases c16:x8_3.length < 17592186044416
                ·rw [if_pos c16] at H
                 have LMc16:=Aside0.mk c16
                 clear c16
                 obtain ⟨y110,hy110⟩:∃ y_:List Int,y_ = (x8_3 ++ [wrap64 ((wrap64 (((rd_T73 l0 x37_3).f1) - ((rd_T73 l0 x37_3).f2))) * (rd ((rd_T91 t101 x37_3).f1) x32_2))]):=⟨_,rfl⟩
                 replace H:(scan_Losses.l1 k3 l0 x4_2 t101 x32_2 y110 (((rd_T91 l1 0).f1).length:Int) x32_2 l0 (l0.length:Int) (wrap64 (x37_3 + 1))) = some (r1,r2):=by first|(rw [hy110];with_reducible exact H)|(have H2_:=(Option.bind_some _ _).symm.trans H;rw [hy110];with_reducible exact H2_)|(have H2_:=(Option.bind_some _ _).symm.trans H;with_reducible exact H2_)|with_reducible exact H|(rw [hy110];exact H)|exact H
                 have Ny110:=Aside0.mk hy110
                 clear hy110
                 have H':=Aside0.mk H
                 clear H
                 have p106:0 ≤ (x37_3:Int):=of_decide_eq_true (by first|(with_reducible assumption)|assumption)
                 have q106:x37_3 < (l0.length:Int):=of_decide_eq_true (by first|(with_reducible assumption)|assumption)
                 obtain ⟨ad106,e106,hx106_0,hx106_1,hx106_2,hx106_3,hx106_4,hx106_5⟩:=at_T73 HR0.out x37_3 p106 q106
                 cases e106
                 replace hx106_0:=(HB.out.cell (World.block_lt_of_cell? w _ hx106_0)).trans hx106_0
                 replace hx106_1:=(HB.out.cell (World.block_lt_of_cell? w _ hx106_1)).trans hx106_1
                 replace hx106_2:=(HB.out.cell (World.block_lt_of_cell? w _ hx106_2)).trans hx106_2
                 replace hx106_3:=(HB.out.cell (World.block_lt_of_cell? w _ hx106_3)).trans hx106_3
                 replace hx106_4:=(HB.out.cell (World.block_lt_of_cell? w _ hx106_4)).trans hx106_4
                 replace hx106_5:=(HB.out.cell (World.block_lt_of_cell? w _ hx106_5)).trans hx106_5
                 replace p106:=eq_true p106
                 replace q106:=eq_true q106
                 try go_wp2_with (first|((with_reducible refine gate_dst (N:=10) rfl ?_);(try (refine gate_guard (by rfl) ?_;dsimp only));refine box_event ?hg (N:=10) ?hd (cs:=#[.string (⟨#[]⟩:ByteArray),.int .i64 0,.int .i64 0,.int .i64 0,.int .i64 0,.int .i64 0]) (t:=73) ?hr ?_;(case hd=>rfl);(case hg=>rfl);(case hr=>first|(go_simp;done)|(go_simp;rfl));intro gb107 hg w17 hbox hb;have n0_:=Aside0.mk (Kd.R_below (by (with_reducible repeat (first|apply Kd.R_alloc|apply Kd.R_drewN|apply Kd.R_drew));exact HO_4.out) hb);have n1_:=Aside0.mk (Kd.N_below (Kd.N_elderB (by (with_reducible repeat (first|apply Kd.N_alloc|apply Kd.N_drewN|apply Kd.N_drew));exact HO_6.out) gb107 (Nat.le_of_eq hg.symm)) hb);have n2_:=Aside0.mk (Kd.R_below (by (with_reducible repeat (first|apply Kd.R_alloc|apply Kd.R_drewN|apply Kd.R_drew));exact HO_8.out) hb);have n3_:=Aside0.mk (below_step (by repeat (first|(with_reducible first|exact HB.out|apply below_alloc|apply pw_below_drewN|apply below_drew1)|exact HB.out)) hb);have n4_:=Aside0.mk (hbox);have n5_:=Aside0.mk ((by rw [hg];exact (below_size (by repeat (first|(with_reducible first|exact HB.out|apply below_alloc|apply pw_below_drewN|apply below_drew1)|exact HB.out))):w.heap.size ≤ gb107));have n6_:=Aside0.mk ((by rw [hg];exact (below_size (by repeat (first|(with_reducible first|exact HB.out|apply below_alloc|apply pw_below_drewN|apply below_drew1)|exact HB.out))):w.heap.size ≤ gb107));clear HO_4;clear HO_6;clear HO_8;clear HB;have HO_4:=n0_;have HO_6:=n1_;have HO_8:=n2_;have HB:=n3_;have BK107:=n4_;have GW107:=n5_;have GE107:=n6_;clear n0_ n1_ n2_ n3_ n4_ n5_ n6_;clear hb hbox hg;have hcz18_0:w17.cell? ⟨gb107,0,none⟩ = some (.string (⟨#[]⟩:ByteArray)):=(blk_cell BK107.out 0).trans rfl;have hcz18_1:w17.cell? ⟨gb107,1,none⟩ = some (.int .i64 0):=(blk_cell BK107.out 1).trans rfl;have hcz18_2:w17.cell? ⟨gb107,2,none⟩ = some (.int .i64 0):=(blk_cell BK107.out 2).trans rfl;have hcz18_3:w17.cell? ⟨gb107,3,none⟩ = some (.int .i64 0):=(blk_cell BK107.out 3).trans rfl;have hcz18_4:w17.cell? ⟨gb107,4,none⟩ = some (.int .i64 0):=(blk_cell BK107.out 4).trans rfl;have hcz18_5:w17.cell? ⟨gb107,5,none⟩ = some (.int .i64 0):=(blk_cell BK107.out 5).trans rfl;have hfz18_0:=blk_frozen BK107.out 0;have hfz18_1:=blk_frozen BK107.out 1;have hfz18_2:=blk_frozen BK107.out 2;have hfz18_3:=blk_frozen BK107.out 3;have hfz18_4:=blk_frozen BK107.out 4;have hfz18_5:=blk_frozen BK107.out 5))
                 have n0_:Aside0 (Kd.R (Kd.int .i64) 3 ((((((w17.setCell ⟨gb107,0,none⟩ (.string ((rd_T73 l0 x37_3).f0.f0))).setCell ⟨gb107,1,none⟩ (.int .i64 ((rd_T73 l0 x37_3).f0.f1))).setCell ⟨gb107,2,none⟩ (.int .i64 ((rd_T73 l0 x37_3).f0.f2))).setCell ⟨gb107,3,none⟩ (.int .i64 ((rd_T73 l0 x37_3).f0.f3))).setCell ⟨gb107,4,none⟩ (.int .i64 ((rd_T73 l0 x37_3).f1))).setCell ⟨gb107,5,none⟩ (.int .i64 ((rd_T73 l0 x37_3).f2))) w.heap.size (fun k_=>some k_ ≠ (u8:Value).ownBlock) u4 x4_2):=⟨by (with_reducible repeat (first|apply Kd.R_alloc|apply Kd.R_drewN|apply Kd.R_drew));exact Kd.R_mono (Kd.R_far (p:=⟨gb107,5,none⟩) (Kd.R_far (p:=⟨gb107,4,none⟩) (Kd.R_far (p:=⟨gb107,3,none⟩) (Kd.R_far (p:=⟨gb107,2,none⟩) (Kd.R_far (p:=⟨gb107,1,none⟩) (Kd.R_far (p:=⟨gb107,0,none⟩) (Kd.R_types HO_4.out BK107.out (by decide)) (fun _ hk=>hk.2) (.string ((rd_T73 l0 x37_3).f0.f0))) (fun _ hk=>hk.2) (.int .i64 ((rd_T73 l0 x37_3).f0.f1))) (fun _ hk=>hk.2) (.int .i64 ((rd_T73 l0 x37_3).f0.f2))) (fun _ hk=>hk.2) (.int .i64 ((rd_T73 l0 x37_3).f0.f3))) (fun _ hk=>hk.2) (.int .i64 ((rd_T73 l0 x37_3).f1))) (fun _ hk=>hk.2) (.int .i64 ((rd_T73 l0 x37_3).f2))) (fun _ hk=>hk.1)⟩
                 have n1_:Aside0 (Kd.N k91 91 ((((((w17.setCell ⟨gb107,0,none⟩ (.string ((rd_T73 l0 x37_3).f0.f0))).setCell ⟨gb107,1,none⟩ (.int .i64 ((rd_T73 l0 x37_3).f0.f1))).setCell ⟨gb107,2,none⟩ (.int .i64 ((rd_T73 l0 x37_3).f0.f2))).setCell ⟨gb107,3,none⟩ (.int .i64 ((rd_T73 l0 x37_3).f0.f3))).setCell ⟨gb107,4,none⟩ (.int .i64 ((rd_T73 l0 x37_3).f1))).setCell ⟨gb107,5,none⟩ (.int .i64 ((rd_T73 l0 x37_3).f2))) w.heap.size (fun k_=>some k_ ≠ (u4:Value).ownBlock ∧ some k_ ≠ (u8:Value).ownBlock ∧ k_ ≠ gb107) v102 t101):=⟨by (with_reducible repeat (first|apply Kd.N_alloc|apply Kd.N_drewN|apply Kd.N_drew));exact Kd.N_mono (Kd.N_far (p:=⟨gb107,5,none⟩) (Kd.N_far (p:=⟨gb107,4,none⟩) (Kd.N_far (p:=⟨gb107,3,none⟩) (Kd.N_far (p:=⟨gb107,2,none⟩) (Kd.N_far (p:=⟨gb107,1,none⟩) (Kd.N_far (p:=⟨gb107,0,none⟩) (Kd.N_mono HO_6.out (fun k_ hk=>(⟨hk,hk.2⟩:_ ∧ k_ ≠ gb107))) (fun _ hk=>hk.2) (.string ((rd_T73 l0 x37_3).f0.f0))) (fun _ hk=>hk.2) (.int .i64 ((rd_T73 l0 x37_3).f0.f1))) (fun _ hk=>hk.2) (.int .i64 ((rd_T73 l0 x37_3).f0.f2))) (fun _ hk=>hk.2) (.int .i64 ((rd_T73 l0 x37_3).f0.f3))) (fun _ hk=>hk.2) (.int .i64 ((rd_T73 l0 x37_3).f1))) (fun _ hk=>hk.2) (.int .i64 ((rd_T73 l0 x37_3).f2))) (fun _ hk=>⟨hk.1.1.1,⟨hk.1.1.2,hk.1.2⟩⟩)⟩
                 have n2_:Aside0 (Kd.R (Kd.int .i64) 3 ((((((w17.setCell ⟨gb107,0,none⟩ (.string ((rd_T73 l0 x37_3).f0.f0))).setCell ⟨gb107,1,none⟩ (.int .i64 ((rd_T73 l0 x37_3).f0.f1))).setCell ⟨gb107,2,none⟩ (.int .i64 ((rd_T73 l0 x37_3).f0.f2))).setCell ⟨gb107,3,none⟩ (.int .i64 ((rd_T73 l0 x37_3).f0.f3))).setCell ⟨gb107,4,none⟩ (.int .i64 ((rd_T73 l0 x37_3).f1))).setCell ⟨gb107,5,none⟩ (.int .i64 ((rd_T73 l0 x37_3).f2))) w.heap.size (fun k_=>some k_ ≠ (u4:Value).ownBlock) u8 x8_3):=⟨by (with_reducible repeat (first|apply Kd.R_alloc|apply Kd.R_drewN|apply Kd.R_drew));exact Kd.R_mono (Kd.R_far (p:=⟨gb107,5,none⟩) (Kd.R_far (p:=⟨gb107,4,none⟩) (Kd.R_far (p:=⟨gb107,3,none⟩) (Kd.R_far (p:=⟨gb107,2,none⟩) (Kd.R_far (p:=⟨gb107,1,none⟩) (Kd.R_far (p:=⟨gb107,0,none⟩) (Kd.R_types HO_8.out BK107.out (by decide)) (fun _ hk=>hk.2) (.string ((rd_T73 l0 x37_3).f0.f0))) (fun _ hk=>hk.2) (.int .i64 ((rd_T73 l0 x37_3).f0.f1))) (fun _ hk=>hk.2) (.int .i64 ((rd_T73 l0 x37_3).f0.f2))) (fun _ hk=>hk.2) (.int .i64 ((rd_T73 l0 x37_3).f0.f3))) (fun _ hk=>hk.2) (.int .i64 ((rd_T73 l0 x37_3).f1))) (fun _ hk=>hk.2) (.int .i64 ((rd_T73 l0 x37_3).f2))) (fun _ hk=>hk.1)⟩
                 have n3_:Aside0 (((((((w17.setCell ⟨gb107,0,none⟩ (.string ((rd_T73 l0 x37_3).f0.f0))).setCell ⟨gb107,1,none⟩ (.int .i64 ((rd_T73 l0 x37_3).f0.f1))).setCell ⟨gb107,2,none⟩ (.int .i64 ((rd_T73 l0 x37_3).f0.f2))).setCell ⟨gb107,3,none⟩ (.int .i64 ((rd_T73 l0 x37_3).f0.f3))).setCell ⟨gb107,4,none⟩ (.int .i64 ((rd_T73 l0 x37_3).f1))).setCell ⟨gb107,5,none⟩ (.int .i64 ((rd_T73 l0 x37_3).f2))).heap[gb107]? = some (.cells #[.string ((rd_T73 l0 x37_3).f0.f0),.int .i64 ((rd_T73 l0 x37_3).f0.f1),.int .i64 ((rd_T73 l0 x37_3).f0.f2),.int .i64 ((rd_T73 l0 x37_3).f0.f3),.int .i64 ((rd_T73 l0 x37_3).f1),.int .i64 ((rd_T73 l0 x37_3).f2)] 73 (0,0))):=⟨by (with_reducible repeat (first|refine blk_drewN ?_ _|refine blk_drew ?_|refine blk_alloc ?_ _));refine blk_put (cs:=#[.string ((rd_T73 l0 x37_3).f0.f0),.int .i64 ((rd_T73 l0 x37_3).f0.f1),.int .i64 ((rd_T73 l0 x37_3).f0.f2),.int .i64 ((rd_T73 l0 x37_3).f0.f3),.int .i64 ((rd_T73 l0 x37_3).f1),.int .i64 0]) ?_ 5 _ rfl;(with_reducible repeat (first|refine blk_drewN ?_ _|refine blk_drew ?_|refine blk_alloc ?_ _));refine blk_put (cs:=#[.string ((rd_T73 l0 x37_3).f0.f0),.int .i64 ((rd_T73 l0 x37_3).f0.f1),.int .i64 ((rd_T73 l0 x37_3).f0.f2),.int .i64 ((rd_T73 l0 x37_3).f0.f3),.int .i64 0,.int .i64 0]) ?_ 4 _ rfl;(with_reducible repeat (first|refine blk_drewN ?_ _|refine blk_drew ?_|refine blk_alloc ?_ _));refine blk_put (cs:=#[.string ((rd_T73 l0 x37_3).f0.f0),.int .i64 ((rd_T73 l0 x37_3).f0.f1),.int .i64 ((rd_T73 l0 x37_3).f0.f2),.int .i64 0,.int .i64 0,.int .i64 0]) ?_ 3 _ rfl;(with_reducible repeat (first|refine blk_drewN ?_ _|refine blk_drew ?_|refine blk_alloc ?_ _));refine blk_put (cs:=#[.string ((rd_T73 l0 x37_3).f0.f0),.int .i64 ((rd_T73 l0 x37_3).f0.f1),.int .i64 0,.int .i64 0,.int .i64 0,.int .i64 0]) ?_ 2 _ rfl;(with_reducible repeat (first|refine blk_drewN ?_ _|refine blk_drew ?_|refine blk_alloc ?_ _));refine blk_put (cs:=#[.string ((rd_T73 l0 x37_3).f0.f0),.int .i64 0,.int .i64 0,.int .i64 0,.int .i64 0,.int .i64 0]) ?_ 1 _ rfl;(with_reducible repeat (first|refine blk_drewN ?_ _|refine blk_drew ?_|refine blk_alloc ?_ _));refine blk_put (cs:=#[.string (⟨#[]⟩:ByteArray),.int .i64 0,.int .i64 0,.int .i64 0,.int .i64 0,.int .i64 0]) ?_ 0 _ rfl;(with_reducible repeat (first|refine blk_drewN ?_ _|refine blk_drew ?_|refine blk_alloc ?_ _));exact BK107.out⟩
                 have n4_:Aside0 (Below w.heap.size w ((((((w17.setCell ⟨gb107,0,none⟩ (.string ((rd_T73 l0 x37_3).f0.f0))).setCell ⟨gb107,1,none⟩ (.int .i64 ((rd_T73 l0 x37_3).f0.f1))).setCell ⟨gb107,2,none⟩ (.int .i64 ((rd_T73 l0 x37_3).f0.f2))).setCell ⟨gb107,3,none⟩ (.int .i64 ((rd_T73 l0 x37_3).f0.f3))).setCell ⟨gb107,4,none⟩ (.int .i64 ((rd_T73 l0 x37_3).f1))).setCell ⟨gb107,5,none⟩ (.int .i64 ((rd_T73 l0 x37_3).f2)))):=⟨by repeat (first|(with_reducible first|exact HB.out|apply below_alloc|apply pw_below_drewN|apply below_drew1|refine below_set ?_ GE107.out)|exact HB.out)⟩
                 (try clear HO_4)
                 (try clear HO_6)
                 (try clear HO_8)
                 (try clear BK107)
                 (try clear HB)
                 generalize ((((((w17.setCell ⟨gb107,0,none⟩ (.string ((rd_T73 l0 x37_3).f0.f0))).setCell ⟨gb107,1,none⟩ (.int .i64 ((rd_T73 l0 x37_3).f0.f1))).setCell ⟨gb107,2,none⟩ (.int .i64 ((rd_T73 l0 x37_3).f0.f2))).setCell ⟨gb107,3,none⟩ (.int .i64 ((rd_T73 l0 x37_3).f0.f3))).setCell ⟨gb107,4,none⟩ (.int .i64 ((rd_T73 l0 x37_3).f1))).setCell ⟨gb107,5,none⟩ (.int .i64 ((rd_T73 l0 x37_3).f2))) = w19 at n0_ n1_ n2_ n3_ n4_ ⊢
                 have HO_4:=n0_
                 have HO_6:=n1_
                 have HO_8:=n2_
                 have BK107:=n3_
                 have HB:=n4_
                 clear n0_ n1_ n2_ n3_ n4_
                 have n0_:=Aside0.mk (Kd.R_drew HO_4.out)
                 have n1_:=Aside0.mk (Kd.N_drew HO_6.out)
                 have n2_:=Aside0.mk (Kd.R_drew HO_8.out)
                 have n3_:=Aside0.mk (blk_drew BK107.out)
                 have n4_:=Aside0.mk (below_drew1 HB.out)
                 clear HO_4
                 clear HO_6
                 clear HO_8
                 clear BK107
                 clear HB
                 have HO_4:=n0_
                 have HO_6:=n1_
                 have HO_8:=n2_
                 have BK107:=n3_
                 have HB:=n4_
                 clear n0_ n1_ n2_ n3_ n4_
                 obtain ⟨Ao21,co21,eo21⟩:=Kd.N_slice HO_6.out
                 (first|subst eo21|(injection eo21 with f1_ f2_ f3_;have f4_:=f1_.symm;have f5_:=f3_.symm;clear f1_ f2_ f3_;subst f4_;subst f5_))
                 have p108:0 ≤ (x37_3:Int):=of_decide_eq_true (by first|(with_reducible assumption)|assumption)
                 have q108:x37_3 < (t101.length:Int):=of_decide_eq_true (by first|(with_reducible assumption)|assumption)
                 obtain ⟨ad108,A108_4,c108_4,e108,hx108_0,hx108_1,hx108_2,hx108_3,hx108_4,hx108_5,hl108_4,hi108_4⟩:=at_T91 (Kd.N_reads' HO_6.out).2.2 x37_3 p108 q108
                 cases e108
                 obtain ⟨ce108,hce108,hMe108,hcc108⟩:=Kd.N_get HO_6.out z91 x37_3 p108 (by first|exact q108|exact of_decide_eq_true (by first|(with_reducible assumption)|assumption)|(have e_:=(Kd.N_reads' HO_6.out).1;omega))
                 obtain ⟨ua108_4,uc108_4,rfl,ul108_4,ge108_4⟩:=k91_openF hMe108
                 have hv108_4:=hcc108 4 _ rfl
                 rw [add_field _ _ 4 (by omega)] at hv108_4
                 replace hv108_4:=Option.some.inj (hv108_4.symm.trans hx108_4)
                 injection hv108_4 with hva_ hvn_ hvc_
                 rw [hva_] at ge108_4
                 rw [hvc_] at ul108_4
                 have HL108_4:=Aside0.mk (show Kd.V (Kd.int .i64) 3 _ w.heap.size _ _ ((rd_T91 t101 x37_3).f1) from Kd.V_mk ul108_4 ge108_4)
                 clear hva_ hvn_ hvc_ ge108_4 ul108_4
                 clear hcc108 hce108
                 have HR108_4:=Aside0.mk hi108_4
                 have HC108_4:=Aside0.mk hl108_4
                 clear hi108_4 hl108_4
                 replace p108:=eq_true p108
                 replace q108:=eq_true q108
                 have p109:0 ≤ (x32_2:Int):=of_decide_eq_true (by first|(with_reducible assumption)|assumption)
                 have q109:x32_2 < (((rd_T91 t101 x37_3).f1).length:Int):=of_decide_eq_true (by first|(with_reducible assumption)|assumption)
                 obtain ⟨ad109,e109,hx109_0⟩:=Kd.at_int (by repeat (first|(with_reducible exact HR108_4.out)|(with_reducible refine Kd.C_alloc ?_ _)|(with_reducible refine Kd.C_drewN ?_ _)|(with_reducible refine Kd.C_drew ?_)|exact HR108_4.out)) x32_2 p109 q109
                 cases e109
                 replace p109:=eq_true p109
                 replace q109:=eq_true q109
                 refine start_ (n:=18) (S:=fun w'=>w'.cell? ⟨gb107,0,none⟩ = some (.string ((rd_T73 l0 x37_3).f0.f0)) ∧ w'.cell? ⟨gb107,1,none⟩ = some (.int .i64 ((rd_T73 l0 x37_3).f0.f1)) ∧ w'.cell? ⟨gb107,2,none⟩ = some (.int .i64 ((rd_T73 l0 x37_3).f0.f2)) ∧ w'.cell? ⟨gb107,3,none⟩ = some (.int .i64 ((rd_T73 l0 x37_3).f0.f3)) ∧ w'.cell? ⟨gb107,4,none⟩ = some (.int .i64 ((rd_T73 l0 x37_3).f1)) ∧ w'.cell? ⟨gb107,5,none⟩ = some (.int .i64 ((rd_T73 l0 x37_3).f2)) ∧ w'.cell? (ad108.add ((x37_3).toNat * 6)) = some (.string ((rd_T91 t101 x37_3).f0.f0)) ∧ w'.cell? ⟨(ad108.add ((x37_3).toNat * 6)).block,(ad108.add ((x37_3).toNat * 6)).off + 1,none⟩ = some (.int .i64 ((rd_T91 t101 x37_3).f0.f1)) ∧ w'.cell? ⟨(ad108.add ((x37_3).toNat * 6)).block,(ad108.add ((x37_3).toNat * 6)).off + 2,none⟩ = some (.int .i64 ((rd_T91 t101 x37_3).f0.f2)) ∧ w'.cell? ⟨(ad108.add ((x37_3).toNat * 6)).block,(ad108.add ((x37_3).toNat * 6)).off + 3,none⟩ = some (.int .i64 ((rd_T91 t101 x37_3).f0.f3)) ∧ w'.cell? ⟨(ad108.add ((x37_3).toNat * 6)).block,(ad108.add ((x37_3).toNat * 6)).off + 4,none⟩ = some (.slice (some ad109) ((rd_T91 t101 x37_3).f1).length c108_4) ∧ w'.cell? ⟨(ad108.add ((x37_3).toNat * 6)).block,(ad108.add ((x37_3).toNat * 6)).off + 5,none⟩ = some (.int .i64 ((rd_T91 t101 x37_3).f2)) ∧ w'.cell? (ad109.add (x32_2).toNat) = some (.int .i64 (rd ((rd_T91 t101 x37_3).f1) x32_2))) (ds:=[15,16]) #[Z,Z,Z,Z,Z,Z,Z,Z,Z,Z,Z,Z,Z,Z,Z,Z,Z,Z] (by kernel_rfl) rfl rfl ⟨(blk_cell BK107.out 0).trans rfl,(blk_cell BK107.out 1).trans rfl,(blk_cell BK107.out 2).trans rfl,(blk_cell BK107.out 3).trans rfl,(blk_cell BK107.out 4).trans rfl,(blk_cell BK107.out 5).trans rfl,hx108_0,hx108_1,hx108_2,hx108_3,hx108_4,hx108_5,hx109_0⟩ (fun hHeld=>?_);refine with_tabW scan_Losses.tab11 scan_Losses.bits11 (fun HT_ HW_=>?_)
                 generalize w19.drew = w20 at HO_4 HO_6 HO_8 BK107 HB HL108_4 HR108_4 hx108_0 hx108_1 hx108_2 hx108_3 hx108_4 hx108_5 hx109_0 hHeld ⊢
                 refine pure_ (i:=0) (N:=some 42) (v:=?_) (a':=?_) #[Y,Z,Z,Z,Z,Z,Z,Z,Z,Z,Z,Z,Z,Z,Z,Z,Z,Z] rfl rfl (any_of HT_.out (by kernel_rfl)) (fun _ _ _ h=>h) (Or.inl ⟨by rfl,?_⟩) ?_ ?_
                 rotate_left
                 ·intro w'
                  go_simp
                  with_reducible rfl
                 rotate_left
                 ·simp only [Act.put,List.setIfInBounds_toArray,List.set_cons_zero,List.set_cons_succ,i64_w,i32_w]
                  rfl
                 refine pure_ (i:=1) (N:=some 43) (v:=?_) (a':=?_) #[Y,Y,Z,Z,Z,Z,Z,Z,Z,Z,Z,Z,Z,Z,Z,Z,Z,Z] rfl rfl (any_of HT_.out (by kernel_rfl)) (fun _ _ _ h=>h) (Or.inl ⟨by rfl,?_⟩) ?_ ?_
                 rotate_left
                 ·intro w'
                  go_simp
                  with_reducible rfl
                 rotate_left
                 ·simp only [Act.put,List.setIfInBounds_toArray,List.set_cons_zero,List.set_cons_succ,i64_w,i32_w]
                  rfl
                 refine pure_ (i:=3) (N:=some 45) (v:=?_) (a':=?_) #[Y,Y,Z,Y,Z,Z,Z,Z,Z,Z,Z,Z,Z,Z,Z,Z,Z,Z] rfl rfl (any_of HT_.out (by kernel_rfl)) (fun _ _ _ h=>h) (Or.inl ⟨by rfl,?_⟩) ?_ ?_
                 rotate_left
                 ·intro w'
                  go_simp
                  with_reducible rfl
                 rotate_left
                 ·simp only [Act.put,List.setIfInBounds_toArray,List.set_cons_zero,List.set_cons_succ,i64_w,i32_w]
                  rfl
                 refine pure_ (i:=6) (N:=some 48) (v:=?_) (a':=?_) #[Y,Y,Z,Y,Z,Z,Y,Z,Z,Z,Z,Z,Z,Z,Z,Z,Z,Z] rfl rfl (any_of HT_.out (by kernel_rfl)) (fun _ _ _ h=>h) (Or.inl ⟨by rfl,?_⟩) ?_ ?_
                 rotate_left
                 ·intro w'
                  go_simp
                  with_reducible rfl
                 rotate_left
                 ·simp only [Act.put,List.setIfInBounds_toArray,List.set_cons_zero,List.set_cons_succ,i64_w,i32_w]
                  rfl
                 refine pure_ (i:=7) (N:=some 49) (v:=?_) (a':=?_) #[Y,Y,Z,Y,Z,Z,Y,Y,Z,Z,Z,Z,Z,Z,Z,Z,Z,Z] rfl rfl (any_of HT_.out (by kernel_rfl)) (fun _ _ _ h=>h) (Or.inl ⟨by rfl,?_⟩) ?_ ?_
                 rotate_left
                 ·intro w'
                  go_simp
                  with_reducible rfl
                 rotate_left
                 ·simp only [Act.put,List.setIfInBounds_toArray,List.set_cons_zero,List.set_cons_succ,i64_w,i32_w]
                  rfl
                 refine pure_ (i:=8) (N:=some 50) (v:=?_) (a':=?_) #[Y,Y,Z,Y,Z,Z,Y,Y,Y,Z,Z,Z,Z,Z,Z,Z,Z,Z] rfl rfl (any_of HT_.out (by kernel_rfl)) (fun _ _ _ h=>h) (Or.inl ⟨by rfl,?_⟩) ?_ ?_
                 rotate_left
                 ·intro w'
                  go_simp
                  with_reducible rfl
                 rotate_left
                 ·simp only [Act.put,List.setIfInBounds_toArray,List.set_cons_zero,List.set_cons_succ,i64_w,i32_w]
                  rfl
                 refine pure_ (i:=9) (N:=some 51) (v:=?_) (a':=?_) #[Y,Y,Z,Y,Z,Z,Y,Y,Y,Y,Z,Z,Z,Z,Z,Z,Z,Z] rfl rfl (any_of HT_.out (by kernel_rfl)) (fun _ _ _ h=>h) (Or.inl ⟨by rfl,?_⟩) ?_ ?_
                 rotate_left
                 ·intro w'
                  go_simp
                  with_reducible rfl
                 rotate_left
                 ·simp only [Act.put,List.setIfInBounds_toArray,List.set_cons_zero,List.set_cons_succ,i64_w,i32_w]
                  rfl
                 refine pure_ (i:=11) (N:=some 53) (v:=?_) (a':=?_) #[Y,Y,Z,Y,Z,Z,Y,Y,Y,Y,Z,Y,Z,Z,Z,Z,Z,Z] rfl rfl (any_of HT_.out (by kernel_rfl)) (fun _ _ _ h=>h) (Or.inl ⟨by rfl,?_⟩) ?_ ?_
                 rotate_left
                 ·intro w'
                  go_simp
                  with_reducible rfl
                 rotate_left
                 ·simp only [Act.put,List.setIfInBounds_toArray,List.set_cons_zero,List.set_cons_succ,i64_w,i32_w]
                  rfl
                 refine take_ (i:=2) (N:=some 44) (v:=?_) (a':=?_) #[Y,Y,Y,Y,Z,Z,Y,Y,Y,Y,Z,Y,Z,Z,Z,Z,Z,Z] rfl rfl (take_ofW HT_.out HW_.out (by kernel_rfl)) (fun _ _ _ h=>h) (Or.inl ⟨by rfl,?_⟩) hHeld ?_ ?_
                 rotate_left
                 ·rintro w' ⟨s0,s1,s2,s3,s4,s5,s6,s7,s8,s9,s10,s11,s12⟩
                  go_simp
                  with_reducible rfl
                 rotate_left
                 ·simp only [Act.put,List.setIfInBounds_toArray,List.set_cons_zero,List.set_cons_succ,i64_w,i32_w]
                  rfl
                 refine take_ (i:=4) (N:=some 46) (v:=?_) (a':=?_) #[Y,Y,Y,Y,Y,Z,Y,Y,Y,Y,Z,Y,Z,Z,Z,Z,Z,Z] rfl rfl (take_ofW HT_.out HW_.out (by kernel_rfl)) (fun _ _ _ h=>h) (Or.inl ⟨by rfl,?_⟩) hHeld ?_ ?_
                 rotate_left
                 ·rintro w' ⟨s0,s1,s2,s3,s4,s5,s6,s7,s8,s9,s10,s11,s12⟩
                  go_simp
                  with_reducible rfl
                 rotate_left
                 ·simp only [Act.put,List.setIfInBounds_toArray,List.set_cons_zero,List.set_cons_succ,i64_w,i32_w]
                  rfl
                 refine pure_ (i:=5) (N:=some 47) (v:=?_) (a':=?_) #[Y,Y,Y,Y,Y,Y,Y,Y,Y,Y,Z,Y,Z,Z,Z,Z,Z,Z] rfl rfl (any_of HT_.out (by kernel_rfl)) (fun _ _ _ h=>h) (Or.inl ⟨by rfl,?_⟩) ?_ ?_
                 rotate_left
                 ·intro w'
                  go_simp
                  with_reducible rfl
                 rotate_left
                 ·simp only [Act.put,List.setIfInBounds_toArray,List.set_cons_zero,List.set_cons_succ,i64_w,i32_w]
                  rfl
                 refine take_ (i:=10) (N:=some 52) (v:=?_) (a':=?_) #[Y,Y,Y,Y,Y,Y,Y,Y,Y,Y,Y,Y,Z,Z,Z,Z,Z,Z] rfl rfl (take_ofW HT_.out HW_.out (by kernel_rfl)) (fun _ _ _ h=>h) (Or.inl ⟨by rfl,?_⟩) hHeld ?_ ?_
                 rotate_left
                 ·rintro w' ⟨s0,s1,s2,s3,s4,s5,s6,s7,s8,s9,s10,s11,s12⟩
                  go_simp
                  with_reducible rfl
                 rotate_left
                 ·simp only [Act.put,List.setIfInBounds_toArray,List.set_cons_zero,List.set_cons_succ,i64_w,i32_w]
                  rfl
                 refine pure_ (i:=12) (N:=some 54) (v:=?_) (a':=?_) #[Y,Y,Y,Y,Y,Y,Y,Y,Y,Y,Y,Y,Y,Z,Z,Z,Z,Z] rfl rfl (any_of HT_.out (by kernel_rfl)) (fun _ _ _ h=>h) (Or.inl ⟨by rfl,?_⟩) ?_ ?_
                 rotate_left
                 ·intro w'
                  go_simp
                  with_reducible rfl
                 rotate_left
                 ·simp only [Act.put,List.setIfInBounds_toArray,List.set_cons_zero,List.set_cons_succ,i64_w,i32_w]
                  rfl
                 refine take_ (i:=13) (N:=some 55) (v:=?_) (a':=?_) #[Y,Y,Y,Y,Y,Y,Y,Y,Y,Y,Y,Y,Y,Y,Z,Z,Z,Z] rfl rfl (take_ofW HT_.out HW_.out (by kernel_rfl)) (fun _ _ _ h=>h) (Or.inl ⟨by rfl,?_⟩) hHeld ?_ ?_
                 rotate_left
                 ·rintro w' ⟨s0,s1,s2,s3,s4,s5,s6,s7,s8,s9,s10,s11,s12⟩
                  go_simp
                  with_reducible rfl
                 rotate_left
                 ·simp only [Act.put,List.setIfInBounds_toArray,List.set_cons_zero,List.set_cons_succ,i64_w,i32_w]
                  rfl
                 refine pure_ (i:=14) (N:=some 56) (v:=?_) (a':=?_) #[Y,Y,Y,Y,Y,Y,Y,Y,Y,Y,Y,Y,Y,Y,Y,Z,Z,Z] rfl rfl (any_of HT_.out (by kernel_rfl)) (fun _ _ _ h=>h) (Or.inl ⟨by rfl,?_⟩) ?_ ?_
                 rotate_left
                 ·intro w'
                  go_simp
                  with_reducible rfl
                 rotate_left
                 ·simp only [Act.put,List.setIfInBounds_toArray,List.set_cons_zero,List.set_cons_succ,i64_w,i32_w]
                  rfl
                 refine last_ (i:=15) (N:=some 57) #[Y,Y,Y,Y,Y,Y,Y,Y,Y,Y,Y,Y,Y,Y,Y,Y,Z,Z] rfl rfl (one_of HT_.out (by kernel_rfl)) (by decide) (fun K hK=>?_)
                 refine value_ (w1:=?_) (v:=?_) (by rfl) rfl ?_ ?_
                 rotate_left 2
                 ·go_simp
                  constructor
                  ·rfl
                  ·rfl
                 refine hK.out _ _ ?_
                 clear hK K
                 refine norm_ (a':=?_) ?_ ?_
                 rotate_left
                 ·show Act.put _ (some 57) _ = _
                  simp only [Act.put,List.setIfInBounds_toArray,List.set_cons_zero,List.set_cons_succ,i64_w,i32_w]
                  rfl
                 refine last_ (i:=16) (N:=some 58) #[Y,Y,Y,Y,Y,Y,Y,Y,Y,Y,Y,Y,Y,Y,Y,Y,Y,Z] rfl rfl (one_of HT_.out (by kernel_rfl)) (by decide) (fun K hK=>?_)
                 refine Kd.R_append_step (Kd.int .i64) (w0:=w) w.heap.size (by rfl) (.tmp 42) (.tmp 57) 23 3 (.int .i64 0) 8 rfl Try.underlying23 info3 rfl (by decide) (by omega) u8 x8_3 (wrap64 ((wrap64 (((rd_T73 l0 x37_3).f1) - ((rd_T73 l0 x37_3).f2))) * (rd ((rd_T91 t101 x37_3).f1) x32_2))) [.int .i64 (wrap64 ((wrap64 (((rd_T73 l0 x37_3).f1) - ((rd_T73 l0 x37_3).f2))) * (rd ((rd_T91 t101 x37_3).f1) x32_2)))] (fun k_=>some k_ ≠ (u4:Value).ownBlock) (fun _=>False) rfl rfl ?aP (fun _ hk=>hk.elim) ?aF ?aO ?aB ?aS ?aL ?_
                 (case aP=>exact rfl)
                 (case aB=>exact (by repeat (first|(with_reducible first|exact HB.out|apply below_alloc|apply pw_below_drewN|apply below_drew1|refine below_set ?_ GE107.out)|exact HB.out)))
                 (case aF=>exact (fun k_ hk=>Kd.fresh' (Kd.R_lt (by (with_reducible repeat (first|apply Kd.R_alloc|apply Kd.R_drewN|apply Kd.R_drew));exact HO_4.out)) k_ hk))
                 (case aO=>exact (by (with_reducible repeat (first|apply Kd.R_alloc|apply Kd.R_drewN|apply Kd.R_drew));exact HO_8.out))
                 (case aS=>exact (below_size (by repeat (first|(with_reducible first|exact HB.out|apply below_alloc|apply pw_below_drewN|apply below_drew1|refine below_set ?_ GE107.out)|exact HB.out))))
                 (case aL=>have:=LMc16.out;omega)
                 intro v111 w22 ho hb hg hat
                 rw [← Ny110.out] at ho
                 have n0_:=Aside0.mk (Kd.R_after (ok:=(fun _=>True)) (by (with_reducible repeat (first|apply Kd.R_alloc|apply Kd.R_drewN|apply Kd.R_drew));exact Kd.R_mono HO_4.out (fun _ hk=>⟨trivial,hk⟩)) hg hat)
                 have n1_:=Aside0.mk (Kd.N_afterv (ok:=(fun k_=>some k_ ≠ (u4:Value).ownBlock ∧ k_ ≠ gb107)) (by (with_reducible repeat (first|apply Kd.N_alloc|apply Kd.N_drewN|apply Kd.N_drew));exact Kd.N_mono HO_6.out (fun _ hk=>⟨⟨hk.1,hk.2.2⟩,hk.2.1⟩)) hg hat)
                 have n2_:=Aside0.mk (blk_grown (g:=gb107) (o:=.cells #[.string ((rd_T73 l0 x37_3).f0.f0),.int .i64 ((rd_T73 l0 x37_3).f0.f1),.int .i64 ((rd_T73 l0 x37_3).f0.f2),.int .i64 ((rd_T73 l0 x37_3).f0.f3),.int .i64 ((rd_T73 l0 x37_3).f1),.int .i64 ((rd_T73 l0 x37_3).f2)] 73 (0,0)) (by (with_reducible repeat (first|refine blk_drewN ?_ _|refine blk_drew ?_|refine blk_alloc ?_ _));exact BK107.out) hg (Kd.R_ne HO_8.out BK107.out (by decide)))
                 have n3_:=Aside0.mk (Kd.V_afterv (ok:=(fun k_=>some k_ ≠ (u4:Value).ownBlock ∧ some k_ ≠ (.slice (some ad108) t101.length co21:Value).ownBlock ∧ k_ ≠ gb107)) (by (with_reducible repeat (first|apply Kd.V_alloc|apply Kd.V_drewN|apply Kd.V_drew));exact Kd.V_mono HL108_4.out (fun _ hk=>⟨⟨hk.1.1,⟨hk.2,hk.1.2.2⟩⟩,hk.1.2.1⟩)) hg hat)
                 have n4_:=Aside0.mk (hb)
                 have n5_:=Aside0.mk (ho)
                 clear HO_4
                 clear HO_6
                 clear BK107
                 clear HL108_4
                 clear HB
                 clear HO_8
                 have HO_4:=n0_
                 have HO_6:=n1_
                 have BK107:=n2_
                 have HL108_4:=n3_
                 have HB:=n4_
                 have HO112:=n5_
                 clear n0_ n1_ n2_ n3_ n4_ n5_
                 clear ho hb hg hat
                 refine hK.out _ _ ?_
                 clear hK K
                 refine norm_ (a':=?_) ?_ ?_
                 rotate_left
                 ·show Act.put _ (some 58) _ = _
                  simp only [Act.put,List.setIfInBounds_toArray,List.set_cons_zero,List.set_cons_succ,i64_w,i32_w]
                  rfl
                 refine pure_ (i:=17) (N:=some 8) (v:=?_) (a':=?_) #[Y,Y,Y,Y,Y,Y,Y,Y,Y,Y,Y,Y,Y,Y,Y,Y,Y,Y] rfl rfl (any_of HT_.out (by kernel_rfl)) (fun _ _ _ h=>h) (Or.inl ⟨by rfl,?_⟩) ?_ ?_
                 rotate_left
                 ·intro w'
                  go_simp
                  with_reducible rfl
                 rotate_left
                 ·simp only [Act.put,List.setIfInBounds_toArray,List.set_cons_zero,List.set_cons_succ,i64_w,i32_w]
                  rfl
                 refine done_ (done_of HT_.out (by kernel_rfl)) ?_
                 try go_wp2
                 go_roundg k3
                 case measure=>have:=HJ3.out;have:=HK2.out;have:=HK3.out;omega
                 case rel=>exact ⟨(y110),(wrap64 (x37_3 + 1)),(by first|rfl|(simp;done)|(simp [*];done)),H',⟨by have:=HJ3.out;have:=HK2.out;have:=HK3.out;omega⟩,⟨by (with_reducible repeat (first|apply Kd.R_alloc|apply Kd.R_drewN|apply Kd.R_drew));exact Kd.R_mono HO_4.out (fun _ hk=>hk.2)⟩,⟨by (with_reducible repeat (first|apply Kd.N_alloc|apply Kd.N_drewN|apply Kd.N_drew));exact Kd.N_mono HO_6.out (fun _ hk=>⟨hk.1.1,hk.2⟩)⟩,⟨by (with_reducible repeat (first|apply Kd.R_alloc|apply Kd.R_drewN|apply Kd.R_drew));exact HO112.out⟩,⟨by repeat (first|(with_reducible first|exact HB.out|apply below_alloc|apply pw_below_drewN|apply below_drew1|refine below_set ?_ GE107.out)|exact HB.out)⟩⟩
                ·rw [if_neg c16] at H
                 exact absurd H (by simp)
               ·rw [if_neg c15] at H
                exact absurd H (by simp)
              ·rw [if_neg c14] at H
               exact absurd H (by simp)
             ·rw [if_neg c13] at H
              exact absurd H (by simp)
            ·rw [if_neg c12] at H
             exact absurd H (by simp)
           ·rw [if_neg c11] at H
            exact absurd H (by simp)
          ·rw [if_neg c10] at H
           have c10b0:decide (x37_3 < (l0.length:Int)) = false:=decide_eq_false c10
           clear c10
           replace H:=Option.bind_eq_some_iff.mp H
           obtain ⟨⟨t113,t114⟩,A230,H⟩:=H
           replace H:(if t114 = 0 then (if x4_2.length < 17592186044416 then (scan_Losses.l0 k3 l0 (x4_2 ++ [t113]) t101 (((rd_T91 l1 0).f1).length:Int) (wrap64 (x32_2 + 1))) else (none)) else (some (([]:List Int),t114))) = some (r1,r2):=H
           have A23:=Aside0.mk A230
           clear A230
           by_cases c24:t114 = 0
           ·rw [if_pos c24] at H
            have c24b0:(t114 == 0) = true:=beq_iff_eq.mpr c24
            have c24b1:(t114 != 0) = false:=bne_eq_false_iff_eq.mpr c24
            clear c24
            by_cases c25:x4_2.length < 17592186044416
            ·rw [if_pos c25] at H
             have LMc25:=Aside0.mk c25
             clear c25
             obtain ⟨y115,hy115⟩:∃ y_:List Int,y_ = (x4_2 ++ [t113]):=⟨_,rfl⟩
             replace H:(scan_Losses.l0 k3 l0 y115 t101 (((rd_T91 l1 0).f1).length:Int) (wrap64 (x32_2 + 1))) = some (r1,r2):=by first|(rw [hy115];with_reducible exact H)|(have H2_:=(Option.bind_some _ _).symm.trans H;rw [hy115];with_reducible exact H2_)|(have H2_:=(Option.bind_some _ _).symm.trans H;with_reducible exact H2_)|with_reducible exact H|(rw [hy115];exact H)|exact H
             have Ny115:=Aside0.mk hy115
             clear hy115
             have H':=Aside0.mk H
             clear H
             obtain ⟨Ao26,co26,eo26⟩:=Kd.R_slice HO_8.out
             subst eo26
             go_wp2_with (first|((with_reducible refine gate_callee (f:=58) rfl ?_);refine goesL_ (some 62) rfl rfl Try.func58 (by kernel_rfl) rfl #[.slice Ao26 x8_3.length co26] rfl (by (try simp only [List.map_toArray,List.map_cons,List.map_nil]);first|done|rfl|(simp only [List.length_drop,List.length_take];rfl)) ?_;(with_reducible refine (cents_Sum.calls k3 _ _ x8_3 t113 t114 _ ?side1 ?side2 A23.out).mono ?_);(case side1=>repeat (first|exact (Kd.R_reads' HO_8.out).2.2|(with_reducible refine Kd.C_alloc ?_ _)|(with_reducible refine Kd.C_drewN ?_ _)|(with_reducible refine Kd.C_drew ?_)));(case side2=>exact (Kd.R_reads' HO_8.out).2.1);rintro e w' ⟨rfl,⟨nd,rfl⟩⟩;refine ⟨_,rfl,?_⟩)|((with_reducible refine gate_builtin (b:=.append) (xs:=#[.tmp 68,.tmp 70]) rfl ?_);(try (refine gate_guard (by rfl) ?_;dsimp only));at_builtin;refine Kd.R_append (Kd.int .i64) (w0:=w) w.heap.size rfl (.tmp 68) (.tmp 70) 23 3 (.int .i64 0) 8 rfl Try.underlying23 info3 rfl (by decide) (by omega) u4 x4_2 t113 [.int .i64 t113] (fun k_=>some k_ ≠ (.slice Ao26 x8_3.length co26:Value).ownBlock) (fun _=>False) rfl rfl ?aP (fun _ hk=>hk.elim) ?aF ?aO ?aB ?aS ?aL ?_;(case aP=>exact rfl);(case aB=>exact (by repeat (first|(with_reducible first|exact HB.out|apply below_alloc|apply pw_below_drewN|apply below_drew1)|exact HB.out)));(case aF=>exact (fun k_ hk=>Kd.fresh' (Kd.R_lt (by (with_reducible repeat (first|apply Kd.R_alloc|apply Kd.R_drewN|apply Kd.R_drew));exact HO_8.out)) k_ hk));(case aO=>exact (by (with_reducible repeat (first|apply Kd.R_alloc|apply Kd.R_drewN|apply Kd.R_drew));exact HO_4.out));(case aS=>exact (below_size (by repeat (first|(with_reducible first|exact HB.out|apply below_alloc|apply pw_below_drewN|apply below_drew1)|exact HB.out))));(case aL=>have:=LMc25.out;omega);intro v116 w27 ho hb hg hat;rw [← Ny115.out] at ho;have n0_:=Aside0.mk (Kd.N_afterv (ok:=(fun k_=>some k_ ≠ (.slice Ao26 x8_3.length co26:Value).ownBlock)) (by (with_reducible repeat (first|apply Kd.N_alloc|apply Kd.N_drewN|apply Kd.N_drew));exact Kd.N_mono HO_6.out (fun _ hk=>⟨hk.2,hk.1⟩)) hg hat);have n1_:=Aside0.mk (Kd.R_after (ok:=(fun _=>True)) (by (with_reducible repeat (first|apply Kd.R_alloc|apply Kd.R_drewN|apply Kd.R_drew));exact Kd.R_mono HO_8.out (fun _ hk=>⟨trivial,hk⟩)) hg hat);have n2_:=Aside0.mk (hb);have n3_:=Aside0.mk (ho);clear HO_6;clear HO_8;clear HB;clear HO_4;have HO_6:=n0_;have HO_8:=n1_;have HB:=n2_;have HO117:=n3_;clear n0_ n1_ n2_ n3_;clear ho hb hg hat))
             go_roundg k3
             case measure=>have:=HJ3.out;have:=HK2.out;have:=HK3.out;omega
             case rel=>exact ⟨(y115),(wrap64 (x32_2 + 1)),(by first|rfl|(simp;done)|(simp [*];done)),H',⟨by have:=HJ3.out;have:=HK2.out;have:=HK3.out;omega⟩,⟨by (with_reducible repeat (first|apply Kd.R_alloc|apply Kd.R_drewN|apply Kd.R_drew));exact Kd.R_mono HO117.out (fun _ hk=>trivial)⟩,⟨by (with_reducible repeat (first|apply Kd.N_alloc|apply Kd.N_drewN|apply Kd.N_drew));exact Kd.N_mono HO_6.out (fun _ hk=>hk.2)⟩,⟨by repeat (first|(with_reducible first|exact HB.out|apply below_alloc|apply pw_below_drewN|apply below_drew1)|exact HB.out)⟩⟩
            ·rw [if_neg c25] at H
             exact absurd H (by simp)
           ·rw [if_neg c24] at H
            have c24b0:(t114 == 0) = false:=beq_eq_false_iff_ne.mpr c24
            have c24b1:(t114 != 0) = true:=bne_iff_ne.mpr c24
            simp only [Option.some.injEq,Prod.mk.injEq] at H
            obtain ⟨rfl,rfl⟩:=H
            obtain ⟨Ao28,co28,eo28⟩:=Kd.R_slice HO_8.out
            subst eo28
            go_wp2_with (first|((with_reducible refine gate_callee (f:=58) rfl ?_);refine goesL_ (some 62) rfl rfl Try.func58 (by kernel_rfl) rfl #[.slice Ao28 x8_3.length co28] rfl (by (try simp only [List.map_toArray,List.map_cons,List.map_nil]);first|done|rfl|(simp only [List.length_drop,List.length_take];rfl)) ?_;(with_reducible refine (cents_Sum.calls k3 _ _ x8_3 t113 t114 _ ?side1 ?side2 A23.out).mono ?_);(case side1=>repeat (first|exact (Kd.R_reads' HO_8.out).2.2|(with_reducible refine Kd.C_alloc ?_ _)|(with_reducible refine Kd.C_drewN ?_ _)|(with_reducible refine Kd.C_drew ?_)));(case side2=>exact (Kd.R_reads' HO_8.out).2.1);rintro e w' ⟨rfl,⟨nd,rfl⟩⟩;refine ⟨_,rfl,?_⟩))
            go_ret2
            exact ⟨_,by first|rfl|(simp [errW_none,errW_some] <;> rfl)|(simp [*,errW_none,errW_some] <;> rfl),by first|exact Kd.R_nil _ _ _ _ _|exact Kd.N_nil _ _ _ _ _|exact Kd.V_nil _ _ _ _ _|exact Kd.Q_nil _ _ _ _ _|exact Kd.S_nil _ _ _ _ _,by repeat (first|(with_reducible first|exact HB.out|apply below_alloc|apply pw_below_drewN|apply below_drew1)|exact HB.out)⟩
       ·rw [if_neg c9] at H
        have c9b0:decide (x32_2 < (((rd_T91 l1 0).f1).length:Int)) = false:=decide_eq_false c9
        clear c9
        simp only [Option.some.injEq,Prod.mk.injEq] at H
        obtain ⟨rfl,rfl⟩:=H
        go_wp2
        go_ret2
        exact ⟨_,by first|rfl|(simp [errW_none,errW_some] <;> rfl)|(simp [*,errW_none,errW_some] <;> rfl),by (with_reducible repeat (first|apply Kd.R_alloc|apply Kd.R_drewN|apply Kd.R_drew));exact HO_4.out,by repeat (first|(with_reducible first|exact HB.out|apply below_alloc|apply pw_below_drewN|apply below_drew1)|exact HB.out)⟩
    ·rw [if_neg c8] at H
     exact absurd H (by simp)
end Go.Proofs.Ytbgeceiddcokmaa.X
end
section
namespace Go.Proofs.Ytbgeceiddcokmaa.X
open Go.RowKit Go.Proofs.YtbgeceiddcokmaaW.PrintWords Go.Proofs.YtbgeceiddcokmaaW.PrintLast Go.Proofs.YtbgeceiddcokmaaW.PrintMore
attribute [local go_sem] max2_int min2_int max_two min_two max_three min_three max_four min_four
set_option linter.unusedVariables false
set_option linter.unusedSimpArgs false
def scan_Risk.l0:Nat → Int → Int → Int → List Int → Int → Int → Option (Int × Int × Int)
 | 0,_,_,_,_,_,_=>none
 | k + 1,x4,x5,x6,x16,x17,x18=>if x18 < x17 then (if 0 ≤ x18 then (if x18 < (x16.length:Int) then (if (rd x16 x18) > x4 then (scan_Risk.l0 k (rd x16 x18) x18 x6 x16 x17 (wrap64 (x18 + 1))) else (scan_Risk.l0 k x4 x5 x6 x16 x17 (wrap64 (x18 + 1)))) else (none)) else (none)) else (some (x4,x5,x6))
def scan_Risk.f (k:Nat) (l0:List (S73)) (l1:List (S91)):Option (Int × Int × Int):=(scan_Losses.f k l0 l1).bind fun bt101=>(scan_Risk.l0 k 0 0 bt101.2 bt101.1 (bt101.1.length:Int) 0)
theorem scan_Risk.mono_l:∀ k,(∀ y0 y1 y2 y3 y4 y5,LeO (scan_Risk.l0 k y0 y1 y2 y3 y4 y5) (scan_Risk.l0 (k + 1) y0 y1 y2 y3 y4 y5))
 | 0=>fun _ _ _ _ _ _ r h=>by simp [scan_Risk.l0] at h
 | k + 1=>by
  have ih0:=scan_Risk.mono_l k
  ·intro y0 y1 y2 y3 y4 y5
   unfold scan_Risk.l0
   repeat' first
   | (with_reducible exact ih0 _ _ _ _ _ _)
   | (with_reducible exact scan_Losses.mono _ _ _)
   | (with_reducible exact LeO.refl _)
   | (with_reducible exact LeO.none _)
   | (with_reducible refine LeO.ite ?_ ?_)
   | (with_reducible refine LeO.bind ?_ (fun _=>?_))
   | exact ih0 _ _ _ _ _ _
   | exact scan_Losses.mono _ _ _
   | exact LeO.none _
   | refine LeO.ite ?_ ?_
   | refine LeO.bind ?_ (fun _=>?_)
theorem scan_Risk.mono:∀ a0 a1 k,LeO (scan_Risk.f k a0 a1) (scan_Risk.f (k + 1) a0 a1):=by
 intro a0 a1 k
 have ih0:=scan_Risk.mono_l k
 unfold scan_Risk.f
 repeat' first
   | (with_reducible exact ih0 _ _ _ _ _ _)
   | (with_reducible exact scan_Losses.mono _ _ _)
   | (with_reducible exact LeO.refl _)
   | (with_reducible exact LeO.none _)
   | (with_reducible refine LeO.ite ?_ ?_)
   | (with_reducible refine LeO.bind ?_ (fun _=>?_))
   | exact ih0 _ _ _ _ _ _
   | exact scan_Losses.mono _ _ _
   | exact LeO.none _
   | refine LeO.ite ?_ ?_
   | refine LeO.bind ?_ (fun _=>?_)
set_option maxHeartbeats 8000000 in
set_option maxRecDepth 100000 in
theorem scan_Risk.calls (k:Nat) (A0:Option Addr) (c0:Nat) (l0:List (S73)) (A1:Option Addr) (c1:Nat) (l1:List (S91)) (r1:Int) (r2:Int) (r3:Int) (w:World) (hr0:Kd.C k73 w A0 l0.length l0) (hc0:l0.length ≤ c0) (hr1:Kd.C k91 w A1 l1.length l1) (hc1:l1.length ≤ c1) (h:scan_Risk.f k l0 l1 = some (r1,r2,r3)) :
  Calls Try.prog 29 #[.slice A0 l0.length c0,.slice A1 l1.length c1] w fun e w'=>e = .returned (.tuple #[.int .i64 r1,.int .i64 r2,.int .i64 r3]) ∧ Below w.heap.size w w':=by
 have HR0:=Aside0.mk hr0
 have HC0:=Aside0.mk hc0
 clear hr0 hc0
 have HR1:=Aside0.mk hr1
 have HC1:=Aside0.mk hc1
 clear hr1 hc1
 have HB:=Aside0.mk (Below.refl w.heap.size w)
 have H:((scan_Losses.f k l0 l1).bind fun bt101=>(scan_Risk.l0 k 0 0 bt101.2 bt101.1 (bt101.1.length:Int) 0)) = some (r1,r2,r3):=h
 clear h
 replace H:=Option.bind_eq_some_iff.mp H
 obtain ⟨⟨t101,t102⟩,A30,H⟩:=H
 replace H:(scan_Risk.l0 k 0 0 t102 t101 (t101.length:Int) 0) = some (r1,r2,r3):=H
 have A3:=Aside0.mk A30
 clear A30
 have H':=Aside0.mk H
 clear H
 go_enter Try.func29,Try.ntmps29
 go_wp2_with (first|((with_reducible refine gate_callee (f:=27) rfl ?_);refine goesL_ (some 13) rfl rfl Try.func27 (by kernel_rfl) rfl #[.slice A0 l0.length c0,.slice A1 l1.length c1] rfl (by (try simp only [List.map_toArray,List.map_cons,List.map_nil]);first|done|rfl|(simp only [List.length_drop,List.length_take];rfl)) ?_;(with_reducible refine (scan_Losses.calls k _ _ l0 _ _ l1 t101 t102 _ ?side1 ?side2 ?side3 ?side4 A3.out).mono ?_);(case side1=>repeat (first|exact HR0.out|(with_reducible refine Kd.C_alloc ?_ _)|(with_reducible refine Kd.C_drewN ?_ _)|(with_reducible refine Kd.C_drew ?_)));(case side2=>exact HC0.out);(case side3=>repeat (first|exact HR1.out|(with_reducible refine Kd.C_alloc ?_ _)|(with_reducible refine Kd.C_drewN ?_ _)|(with_reducible refine Kd.C_drew ?_)));(case side4=>exact HC1.out);rintro e w4 ⟨v103,rfl,ho0,hb⟩;refine ⟨_,rfl,?_⟩;have n0_:=Aside0.mk (Kd.R_lower ho0 (below_size (by repeat (first|(with_reducible first|exact HB.out|apply below_alloc|apply pw_below_drewN|apply below_drew1)|exact HB.out))));have n1_:=Aside0.mk (below_step (by repeat (first|(with_reducible first|exact HB.out|apply below_alloc|apply pw_below_drewN|apply below_drew1)|exact HB.out)) hb);clear HB;have HO104:=n0_;have HB:=n1_;clear n0_ n1_;(try clear hb);(try clear hb2);(try clear hk);(try clear hi);(try clear ho0);obtain ⟨Ao5,co5,eo5⟩:=Kd.R_slice HO104.out;subst eo5))
 go_loopg [4,5,18] k (fun kq v4 v5 v18 w'=>∃ (x4_1:Int) (x5_1:Int) (x18_1:Int),v4 = .int .i64 x4_1 ∧ v5 = .int .i64 x5_1 ∧ v18 = .int .i64 x18_1 ∧ Aside0 (scan_Risk.l0 kq x4_1 x5_1 t102 t101 (t101.length:Int) x18_1 = some (r1,r2,r3)) ∧ Aside0 (kq ≤ k) ∧ Aside0 (Kd.R (Kd.int .i64) 3 w' w.heap.size (fun _=>True) (.slice Ao5 t101.length co5) t101) ∧ Aside0 (Below w.heap.size w w'))
 case atStart=>exact ⟨(0),(0),(0),(by first|rfl|(simp;done)|(simp [*];done)),(by first|rfl|(simp;done)|(simp [*];done)),(by first|rfl|(simp;done)|(simp [*];done)),H',⟨Nat.le_refl _⟩,⟨by (with_reducible repeat (first|apply Kd.R_alloc|apply Kd.R_drewN|apply Kd.R_drew));exact HO104.out⟩,⟨by repeat (first|(with_reducible first|exact HB.out|apply below_alloc|apply pw_below_drewN|apply below_drew1)|exact HB.out)⟩⟩
 case round =>
  clear H'
  try clear c1
  try clear c2
  try clear p2
  obtain ⟨x4_1,x5_1,x18_1,rfl,rfl,rfl,HA,HK1,HO_16,HB⟩:=hrel
  cases gk with
  | zero=>exact absurd HA.out (by simp [scan_Risk.l0])
  | succ k1 =>
   have H:=HA.out
   clear HA
   simp only [scan_Risk.l0] at H
   by_cases c6:x18_1 < (t101.length:Int)
   ·rw [if_pos c6] at H
    have c6b0:decide (x18_1 < (t101.length:Int)) = true:=decide_eq_true c6
    clear c6
    by_cases c7:0 ≤ x18_1
    ·rw [if_pos c7] at H
     have c7b0:decide (0 ≤ x18_1) = true:=decide_eq_true c7
     clear c7
     by_cases c8:x18_1 < (t101.length:Int)
     ·rw [if_pos c8] at H
      have c8b0:decide (x18_1 < (t101.length:Int)) = true:=decide_eq_true c8
      clear c8
      by_cases c9:(rd t101 x18_1) > x4_1
      ·rw [if_pos c9] at H
       have c9b0:decide (x4_1 < (rd t101 x18_1)) = true:=decide_eq_true c9
       clear c9
       have H':=Aside0.mk H
       clear H
       have p105:0 ≤ (x18_1:Int):=of_decide_eq_true (by first|(with_reducible assumption)|assumption)
       have q105:x18_1 < (t101.length:Int):=of_decide_eq_true (by first|(with_reducible assumption)|assumption)
       obtain ⟨ad105,e105,hx105_0⟩:=Kd.at_int (Kd.R_reads' HO_16.out).2.2 x18_1 p105 q105
       cases e105
       replace p105:=eq_true p105
       replace q105:=eq_true q105
       go_wp2
       go_roundg k1
       case measure=>have:=HK1.out;omega
       case rel=>exact ⟨(rd t101 x18_1),(x18_1),(wrap64 (x18_1 + 1)),(by first|rfl|(simp;done)|(simp [*];done)),(by first|rfl|(simp;done)|(simp [*];done)),(by first|rfl|(simp;done)|(simp [*];done)),H',⟨by have:=HK1.out;omega⟩,⟨by (with_reducible repeat (first|apply Kd.R_alloc|apply Kd.R_drewN|apply Kd.R_drew));exact HO_16.out⟩,⟨by repeat (first|(with_reducible first|exact HB.out|apply below_alloc|apply pw_below_drewN|apply below_drew1)|exact HB.out)⟩⟩
      ·rw [if_neg c9] at H
       have c9b0:decide (x4_1 < (rd t101 x18_1)) = false:=decide_eq_false c9
       clear c9
       have H':=Aside0.mk H
       clear H
       have p105:0 ≤ (x18_1:Int):=of_decide_eq_true (by first|(with_reducible assumption)|assumption)
       have q105:x18_1 < (t101.length:Int):=of_decide_eq_true (by first|(with_reducible assumption)|assumption)
       obtain ⟨ad105,e105,hx105_0⟩:=Kd.at_int (Kd.R_reads' HO_16.out).2.2 x18_1 p105 q105
       cases e105
       replace p105:=eq_true p105
       replace q105:=eq_true q105
       go_wp2
       go_roundg k1
       case measure=>have:=HK1.out;omega
       case rel=>exact ⟨(x4_1),(x5_1),(wrap64 (x18_1 + 1)),(by first|rfl|(simp;done)|(simp [*];done)),(by first|rfl|(simp;done)|(simp [*];done)),(by first|rfl|(simp;done)|(simp [*];done)),H',⟨by have:=HK1.out;omega⟩,⟨by (with_reducible repeat (first|apply Kd.R_alloc|apply Kd.R_drewN|apply Kd.R_drew));exact HO_16.out⟩,⟨by repeat (first|(with_reducible first|exact HB.out|apply below_alloc|apply pw_below_drewN|apply below_drew1)|exact HB.out)⟩⟩
     ·rw [if_neg c8] at H
      exact absurd H (by simp)
    ·rw [if_neg c7] at H
     exact absurd H (by simp)
   ·rw [if_neg c6] at H
    have c6b0:decide (x18_1 < (t101.length:Int)) = false:=decide_eq_false c6
    clear c6
    simp only [Option.some.injEq,Prod.mk.injEq] at H
    obtain ⟨rfl,rfl,rfl⟩:=H
    go_wp2
    go_ret3
    exact ⟨by first|rfl|(simp [errW_none,errW_some] <;> rfl)|(simp [*,errW_none,errW_some] <;> rfl),by repeat (first|(with_reducible first|exact HB.out|apply below_alloc|apply pw_below_drewN|apply below_drew1)|exact HB.out)⟩
end Go.Proofs.Ytbgeceiddcokmaa.X
end
