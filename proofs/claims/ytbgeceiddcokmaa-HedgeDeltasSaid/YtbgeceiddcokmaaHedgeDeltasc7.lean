/- For HedgeDeltas: contracts, and facts on lists and numbers, that it uses (part 7). -/
import Derived.Test.YtbgeceiddcokmaaHedgeDeltasc6
section
namespace Go.Proofs.Ytbgeceiddcokmaa.X
open Go.RowKit Go.Proofs.YtbgeceiddcokmaaW.PrintWords Go.Proofs.YtbgeceiddcokmaaW.PrintLast Go.Proofs.YtbgeceiddcokmaaW.PrintMore
attribute [local go_sem] max2_int min2_int max_two min_two max_three min_three max_four min_four
set_option linter.unusedVariables false
set_option linter.unusedSimpArgs false
def hedge_Deltas.l0:Nat → List (S91) → List ByteArray → List Int → List (List (S73)) → Int → Int → Option (List ByteArray × List Int × Int)
 | 0,_,_,_,_,_,_=>none
 | k + 1,x1,x4,x5,x27,x28,x29=>if x29 < x28 then (if 0 ≤ x29 then (if x29 < (x27.length:Int) then ((scan_Delta.f k (rd_L14 x27 x29) x1).bind fun bt110=>(if bt110.2 = 0 then (if x5.length < 17592186044416 then (hedge_Deltas.l0 k x1 x4 (x5 ++ [bt110.1]) x27 x28 (wrap64 (x29 + 1))) else (none)) else (some (([]:List ByteArray),([]:List Int),bt110.2)))) else (none)) else (none)) else (some (x4,x5,0))
def hedge_Deltas.f (k:Nat) (l0:List (S73)) (l1:List (S91)):Option (List ByteArray × List Int × Int):=(scan_Check.f k l1).bind fun t101=>(if t101 = 0 then ((position_Check.f k l0).bind fun t102=>(if t102 = 0 then ((scan_Products.f k l0).bind fun bt103=>(hedge_Deltas.l0 k l1 bt103.1 ([]:List Int) bt103.2 (bt103.2.length:Int) 0)) else (some (([]:List ByteArray),([]:List Int),t102)))) else (some (([]:List ByteArray),([]:List Int),t101)))
set_option maxHeartbeats 8000000 in
set_option maxRecDepth 100000 in
theorem hedge_Deltas.calls (k:Nat) (A0:Option Addr) (c0:Nat) (l0:List (S73)) (A1:Option Addr) (c1:Nat) (l1:List (S91)) (r1:List ByteArray) (r2:List Int) (r3:Int) (w:World) (hr0:Kd.C k73 w A0 l0.length l0) (hc0:l0.length ≤ c0) (hr1:Kd.C k91 w A1 l1.length l1) (hc1:l1.length ≤ c1) (h:hedge_Deltas.f k l0 l1 = some (r1,r2,r3)) :
  Calls Try.prog 40 #[.slice A0 l0.length c0,.slice A1 l1.length c1] w fun e w'=>∃ v0_ v1_:Value,e = .returned (.tuple #[v0_,v1_,.int .i64 r3]) ∧ Kd.R Kd.string 9 w' w.heap.size (fun _=>True) v0_ r1 ∧ Kd.R (Kd.int .i64) 3 w' w.heap.size (fun _=>True) v1_ r2 ∧ Below w.heap.size w w':=by
 have HR0:=Aside0.mk hr0
 have HC0:=Aside0.mk hc0
 clear hr0 hc0
 have HR1:=Aside0.mk hr1
 have HC1:=Aside0.mk hc1
 clear hr1 hc1
 have HB:=Aside0.mk (Below.refl w.heap.size w)
 have H:((scan_Check.f k l1).bind fun t101=>(if t101 = 0 then ((position_Check.f k l0).bind fun t102=>(if t102 = 0 then ((scan_Products.f k l0).bind fun bt103=>(hedge_Deltas.l0 k l1 bt103.1 ([]:List Int) bt103.2 (bt103.2.length:Int) 0)) else (some (([]:List ByteArray),([]:List Int),t102)))) else (some (([]:List ByteArray),([]:List Int),t101)))) = some (r1,r2,r3):=h
 clear h
 replace H:=Option.bind_eq_some_iff.mp H
 obtain ⟨t101,A30,H⟩:=H
 replace H:(if t101 = 0 then ((position_Check.f k l0).bind fun t102=>(if t102 = 0 then ((scan_Products.f k l0).bind fun bt103=>(hedge_Deltas.l0 k l1 bt103.1 ([]:List Int) bt103.2 (bt103.2.length:Int) 0)) else (some (([]:List ByteArray),([]:List Int),t102)))) else (some (([]:List ByteArray),([]:List Int),t101))) = some (r1,r2,r3):=H
 have A3:=Aside0.mk A30
 clear A30
 by_cases c4:t101 = 0
 ·rw [if_pos c4] at H
  have c4b0:(t101 == 0) = true:=beq_iff_eq.mpr c4
  have c4b1:(t101 != 0) = false:=bne_eq_false_iff_eq.mpr c4
  clear c4
  replace H:=Option.bind_eq_some_iff.mp H
  obtain ⟨t102,A50,H⟩:=H
  replace H:(if t102 = 0 then ((scan_Products.f k l0).bind fun bt103=>(hedge_Deltas.l0 k l1 bt103.1 ([]:List Int) bt103.2 (bt103.2.length:Int) 0)) else (some (([]:List ByteArray),([]:List Int),t102))) = some (r1,r2,r3):=H
  have A5:=Aside0.mk A50
  clear A50
  by_cases c6:t102 = 0
  ·rw [if_pos c6] at H
   have c6b0:(t102 == 0) = true:=beq_iff_eq.mpr c6
   have c6b1:(t102 != 0) = false:=bne_eq_false_iff_eq.mpr c6
   clear c6
   replace H:=Option.bind_eq_some_iff.mp H
   obtain ⟨⟨t103,t104⟩,A70,H⟩:=H
   replace H:(hedge_Deltas.l0 k l1 t103 ([]:List Int) t104 (t104.length:Int) 0) = some (r1,r2,r3):=H
   have A7:=Aside0.mk A70
   clear A70
   have H':=Aside0.mk H
   clear H
   go_enter Try.func40,Try.ntmps40
   go_wp2_with (first|((with_reducible refine gate_callee (f:=31) rfl ?_);refine goesL_ (some 13) rfl rfl Try.func31 (by kernel_rfl) rfl #[.slice A1 l1.length c1] rfl (by (try simp only [List.map_toArray,List.map_cons,List.map_nil]);first|done|rfl|(simp only [List.length_drop,List.length_take];rfl)) ?_;(with_reducible refine (scan_Check.calls k _ _ l1 t101 _ ?side1 ?side2 A3.out).mono ?_);(case side1=>repeat (first|exact HR1.out|(with_reducible refine Kd.C_alloc ?_ _)|(with_reducible refine Kd.C_drewN ?_ _)|(with_reducible refine Kd.C_drew ?_)));(case side2=>exact HC1.out);rintro e w8 ⟨rfl,hb⟩;refine ⟨_,rfl,?_⟩;have n0_:=Aside0.mk (below_step (by repeat (first|(with_reducible first|exact HB.out|apply below_alloc|apply pw_below_drewN|apply below_drew1)|exact HB.out)) hb);clear HB;have HB:=n0_;clear n0_;(try clear hb);(try clear hb2);(try clear hk);(try clear hi))|((with_reducible refine gate_callee (f:=65) rfl ?_);refine goesL_ (some 18) rfl rfl Try.func65 (by kernel_rfl) rfl #[.slice A0 l0.length c0] rfl (by (try simp only [List.map_toArray,List.map_cons,List.map_nil]);first|done|rfl|(simp only [List.length_drop,List.length_take];rfl)) ?_;(with_reducible refine (position_Check.calls k _ _ l0 t102 _ ?side1 ?side2 A5.out).mono ?_);(case side1=>repeat (first|exact (Kd.C_below HR0.out HB.out)|(with_reducible refine Kd.C_alloc ?_ _)|(with_reducible refine Kd.C_drewN ?_ _)|(with_reducible refine Kd.C_drew ?_)));(case side2=>exact HC0.out);rintro e w9 ⟨rfl,hb⟩;refine ⟨_,rfl,?_⟩;have n0_:=Aside0.mk (below_step (by repeat (first|(with_reducible first|exact HB.out|apply below_alloc|apply pw_below_drewN|apply below_drew1)|exact HB.out)) hb);clear HB;have HB:=n0_;clear n0_;(try clear hb);(try clear hb2);(try clear hk);(try clear hi))|((with_reducible refine gate_callee (f:=37) rfl ?_);refine goesL_ (some 24) rfl rfl Try.func37 (by kernel_rfl) rfl #[.slice A0 l0.length c0] rfl (by (try simp only [List.map_toArray,List.map_cons,List.map_nil]);first|done|rfl|(simp only [List.length_drop,List.length_take];rfl)) ?_;(with_reducible refine (scan_Products.calls k _ _ l0 t103 t104 _ ?side1 ?side2 A7.out).mono ?_);(case side1=>repeat (first|exact (Kd.C_below HR0.out HB.out)|(with_reducible refine Kd.C_alloc ?_ _)|(with_reducible refine Kd.C_drewN ?_ _)|(with_reducible refine Kd.C_drew ?_)));(case side2=>exact HC0.out);rintro e w10 ⟨v105,v107,rfl,ho0,ho1,hb⟩;refine ⟨_,rfl,?_⟩;have n0_:=Aside0.mk (Kd.R_lower ho0 (below_size (by repeat (first|(with_reducible first|exact HB.out|apply below_alloc|apply pw_below_drewN|apply below_drew1)|exact HB.out))));have n1_:=Aside0.mk (Kd.S_lower ho1 (below_size (by repeat (first|(with_reducible first|exact HB.out|apply below_alloc|apply pw_below_drewN|apply below_drew1)|exact HB.out))));have n2_:=Aside0.mk (below_step (by repeat (first|(with_reducible first|exact HB.out|apply below_alloc|apply pw_below_drewN|apply below_drew1)|exact HB.out)) hb);clear HB;have HO106:=n0_;have HO108:=n1_;have HB:=n2_;clear n0_ n1_ n2_;(try clear hb);(try clear hb2);(try clear hk);(try clear hi);(try clear ho0);(try clear ho1);obtain ⟨Ao11,co11,eo11⟩:=Kd.S_slice HO108.out;subst eo11))
   go_loopg [4,5,29] k (fun kq v4 v5 v29 w'=>∃ (x4_1:List ByteArray) (x5_1:List Int) (x29_1:Int),v29 = .int .i64 x29_1 ∧ Aside0 (hedge_Deltas.l0 kq l1 x4_1 x5_1 t104 (t104.length:Int) x29_1 = some (r1,r2,r3)) ∧ Aside0 (kq ≤ k) ∧ Aside0 (Kd.R Kd.string 9 w' w.heap.size (fun _=>True) v4 x4_1) ∧ Aside0 (Kd.R (Kd.int .i64) 3 w' w.heap.size (fun _=>True) v5 x5_1) ∧ Aside0 (Kd.S (Kd.slice 73 k73) 55 w' w.heap.size (fun _=>True) (.slice Ao11 t104.length co11) t104) ∧ Aside0 (Below w.heap.size w w'))
   case atStart=>exact ⟨(t103),(([]:List Int)),(0),(by first|rfl|(simp;done)|(simp [*];done)),H',⟨Nat.le_refl _⟩,⟨by (with_reducible repeat (first|apply Kd.R_alloc|apply Kd.R_drewN|apply Kd.R_drew));exact HO106.out⟩,⟨by first|exact Kd.R_nil _ _ _ _ _|exact Kd.N_nil _ _ _ _ _|exact Kd.V_nil _ _ _ _ _|exact Kd.Q_nil _ _ _ _ _|exact Kd.S_nil _ _ _ _ _⟩,⟨by (with_reducible repeat (first|apply Kd.S_alloc|apply Kd.S_drewN|apply Kd.S_drew));exact HO108.out⟩,⟨by repeat (first|(with_reducible first|exact HB.out|apply below_alloc|apply pw_below_drewN|apply below_drew1)|exact HB.out)⟩⟩
   case round =>
    clear H'
    try clear c1
    try clear p2
    try clear c3
    try clear c4
    try clear c4b0
    try clear c4b1
    try clear c6
    try clear c6b0
    try clear c6b1
    obtain ⟨x4_1,x5_1,x29_1,rfl,HA,HK1,HO_4,HO_5,HO_27,HB⟩:=hrel
    cases gk with
    | zero=>exact absurd HA.out (by simp [hedge_Deltas.l0])
    | succ k1 =>
     have H:=HA.out
     clear HA
     simp only [hedge_Deltas.l0] at H
     by_cases c12:x29_1 < (t104.length:Int)
     ·rw [if_pos c12] at H
      have c12b0:decide (x29_1 < (t104.length:Int)) = true:=decide_eq_true c12
      clear c12
      by_cases c13:0 ≤ x29_1
      ·rw [if_pos c13] at H
       have c13b0:decide (0 ≤ x29_1) = true:=decide_eq_true c13
       clear c13
       by_cases c14:x29_1 < (t104.length:Int)
       ·rw [if_pos c14] at H
        have c14b0:decide (x29_1 < (t104.length:Int)) = true:=decide_eq_true c14
        clear c14
        replace H:=Option.bind_eq_some_iff.mp H
        obtain ⟨⟨t110,t111⟩,A150,H⟩:=H
        replace H:(if t111 = 0 then (if x5_1.length < 17592186044416 then (hedge_Deltas.l0 k1 l1 x4_1 (x5_1 ++ [t110]) t104 (t104.length:Int) (wrap64 (x29_1 + 1))) else (none)) else (some (([]:List ByteArray),([]:List Int),t111))) = some (r1,r2,r3):=H
        have A15:=Aside0.mk A150
        clear A150
        by_cases c16:t111 = 0
        ·rw [if_pos c16] at H
         have c16b0:(t111 == 0) = true:=beq_iff_eq.mpr c16
         have c16b1:(t111 != 0) = false:=bne_eq_false_iff_eq.mpr c16
         clear c16
         by_cases c17:x5_1.length < 17592186044416
         ·rw [if_pos c17] at H
          have LMc17:=Aside0.mk c17
          clear c17
          obtain ⟨y112,hy112⟩:∃ y_:List Int,y_ = (x5_1 ++ [t110]):=⟨_,rfl⟩
          replace H:(hedge_Deltas.l0 k1 l1 x4_1 y112 t104 (t104.length:Int) (wrap64 (x29_1 + 1))) = some (r1,r2,r3):=by first|(rw [hy112];with_reducible exact H)|(have H2_:=(Option.bind_some _ _).symm.trans H;rw [hy112];with_reducible exact H2_)|(have H2_:=(Option.bind_some _ _).symm.trans H;with_reducible exact H2_)|with_reducible exact H|(rw [hy112];exact H)|exact H
          have Ny112:=Aside0.mk hy112
          clear hy112
          have H':=Aside0.mk H
          clear H
          have p109:0 ≤ (x29_1:Int):=of_decide_eq_true (by first|(with_reducible assumption)|assumption)
          have q109:x29_1 < (t104.length:Int):=of_decide_eq_true (by first|(with_reducible assumption)|assumption)
          obtain ⟨ad109,A109_0,c109_0,e109,hx109_0,hl109_0,hi109_0⟩:=at_L14 (Kd.S_reads' HO_27.out).2.2 x29_1 p109 q109
          cases e109
          obtain ⟨ce109,hce109,hMe109,hcc109⟩:=Kd.S_get HO_27.out [] x29_1 p109 (by first|exact q109|exact of_decide_eq_true (by first|(with_reducible assumption)|assumption)|(have e_:=(Kd.S_reads' HO_27.out).1;omega))
          obtain ⟨ve109_0,rfl,ge109_0⟩:=hMe109
          have hv109_0:=hcc109 0 _ rfl
          rw [Nat.add_zero,show ((Kd.slice 73 k73)).sz = 1 from rfl,Nat.mul_one] at hv109_0
          replace hv109_0:=Option.some.inj (hv109_0.symm.trans hx109_0)
          rw [hv109_0] at ge109_0
          have HL109_0:=Aside0.mk (show Kd.R k73 73 _ _ _ _ (rd_L14 t104 x29_1) from ge109_0)
          clear hv109_0 ge109_0
          clear hcc109 hce109
          have HR109_0:=Aside0.mk hi109_0
          have HC109_0:=Aside0.mk hl109_0
          clear hi109_0 hl109_0
          replace p109:=eq_true p109
          replace q109:=eq_true q109
          go_wp2_with (first|((with_reducible refine gate_callee (f:=36) rfl ?_);refine goesL_ (some 36) rfl rfl Try.func36 (by kernel_rfl) rfl #[.slice A109_0 (rd_L14 t104 x29_1).length c109_0,.slice A1 l1.length c1] rfl (by (try simp only [List.map_toArray,List.map_cons,List.map_nil]);first|done|rfl|(simp only [List.length_drop,List.length_take];rfl)) ?_;(with_reducible refine (scan_Delta.calls k1 _ _ (rd_L14 t104 x29_1) _ _ l1 t110 t111 _ ?side1 ?side2 ?side3 ?side4 A15.out).mono ?_);(case side1=>repeat (first|exact (by repeat (first|(with_reducible exact HR109_0.out)|(with_reducible refine Kd.C_alloc ?_ _)|(with_reducible refine Kd.C_drewN ?_ _)|(with_reducible refine Kd.C_drew ?_)|exact HR109_0.out))|(with_reducible refine Kd.C_alloc ?_ _)|(with_reducible refine Kd.C_drewN ?_ _)|(with_reducible refine Kd.C_drew ?_)));(case side2=>exact HC109_0.out);(case side3=>repeat (first|exact (Kd.C_below HR1.out HB.out)|(with_reducible refine Kd.C_alloc ?_ _)|(with_reducible refine Kd.C_drewN ?_ _)|(with_reducible refine Kd.C_drew ?_)));(case side4=>exact HC1.out);rintro e w18 ⟨rfl,hb⟩;refine ⟨_,rfl,?_⟩;have n0_:=Aside0.mk (Kd.R_below (by (with_reducible repeat (first|apply Kd.R_alloc|apply Kd.R_drewN|apply Kd.R_drew));exact HO_4.out) hb);have n1_:=Aside0.mk (Kd.R_below (by (with_reducible repeat (first|apply Kd.R_alloc|apply Kd.R_drewN|apply Kd.R_drew));exact HO_5.out) hb);have n2_:=Aside0.mk (Kd.S_below (by (with_reducible repeat (first|apply Kd.S_alloc|apply Kd.S_drewN|apply Kd.S_drew));exact HO_27.out) hb);have n3_:=Aside0.mk (Kd.R_below (by (with_reducible repeat (first|apply Kd.R_alloc|apply Kd.R_drewN|apply Kd.R_drew));exact HL109_0.out) hb);have n4_:=Aside0.mk (Kd.C_below (by repeat (first|(with_reducible exact HR109_0.out)|(with_reducible refine Kd.C_alloc ?_ _)|(with_reducible refine Kd.C_drewN ?_ _)|(with_reducible refine Kd.C_drew ?_)|exact HR109_0.out)) hb);have n5_:=Aside0.mk (below_step (by repeat (first|(with_reducible first|exact HB.out|apply below_alloc|apply pw_below_drewN|apply below_drew1)|exact HB.out)) hb);clear HO_4;clear HO_5;clear HO_27;clear HL109_0;clear HR109_0;clear HB;have HO_4:=n0_;have HO_5:=n1_;have HO_27:=n2_;have HL109_0:=n3_;have HR109_0:=n4_;have HB:=n5_;clear n0_ n1_ n2_ n3_ n4_ n5_;(try clear hb);(try clear hb2);(try clear hk);(try clear hi))|((with_reducible refine gate_builtin (b:=.append) (xs:=#[.tmp 42,.tmp 44]) rfl ?_);at_builtin;refine Kd.R_append (Kd.int .i64) (w0:=w) w.heap.size rfl (.tmp 42) (.tmp 44) 23 3 (.int .i64 0) 8 rfl Try.underlying23 info3 rfl (by decide) (by omega) u5 x5_1 t110 [.int .i64 t110] (fun _=>True) (fun _=>False) rfl rfl ?aP (fun _ hk=>hk.elim) ?aF ?aO ?aB ?aS ?aL ?_;(case aP=>exact rfl);(case aB=>exact (by repeat (first|(with_reducible first|exact HB.out|apply below_alloc|apply pw_below_drewN|apply below_drew1)|exact HB.out)));(case aF=>exact (fun _ _=>trivial));(case aO=>exact (by (with_reducible repeat (first|apply Kd.R_alloc|apply Kd.R_drewN|apply Kd.R_drew));exact HO_5.out));(case aS=>exact (below_size (by repeat (first|(with_reducible first|exact HB.out|apply below_alloc|apply pw_below_drewN|apply below_drew1)|exact HB.out))));(case aL=>have:=LMc17.out;omega);intro v113 w19 ho hb hg hat;rw [← Ny112.out] at ho;have n0_:=Aside0.mk (Kd.R_over' (by (with_reducible repeat (first|apply Kd.R_alloc|apply Kd.R_drewN|apply Kd.R_drew));exact HO_4.out) (Kd.R_typed (by (with_reducible repeat (first|apply Kd.R_alloc|apply Kd.R_drewN|apply Kd.R_drew));exact HO_5.out)) (by decide) hg);have n1_:=Aside0.mk (Kd.S_over' (by (with_reducible repeat (first|apply Kd.S_alloc|apply Kd.S_drewN|apply Kd.S_drew));exact HO_27.out) (Kd.R_typed (by (with_reducible repeat (first|apply Kd.R_alloc|apply Kd.R_drewN|apply Kd.R_drew));exact HO_5.out)) (by decide) hg);have n2_:=Aside0.mk (Kd.R_over' (by (with_reducible repeat (first|apply Kd.R_alloc|apply Kd.R_drewN|apply Kd.R_drew));exact HL109_0.out) (Kd.R_typed (by (with_reducible repeat (first|apply Kd.R_alloc|apply Kd.R_drewN|apply Kd.R_drew));exact HO_5.out)) (by decide) hg);have n3_:=Aside0.mk (hb);have n4_:=Aside0.mk (ho);clear HO_4;clear HO_27;clear HL109_0;clear HB;clear HO_5;have HO_4:=n0_;have HO_27:=n1_;have HL109_0:=n2_;have HB:=n3_;have HO114:=n4_;clear n0_ n1_ n2_ n3_ n4_;clear ho hb hg hat))
          go_roundg k1
          case measure=>have:=HK1.out;omega
          case rel=>exact ⟨(x4_1),(y112),(wrap64 (x29_1 + 1)),(by first|rfl|(simp;done)|(simp [*];done)),H',⟨by have:=HK1.out;omega⟩,⟨by (with_reducible repeat (first|apply Kd.R_alloc|apply Kd.R_drewN|apply Kd.R_drew));exact HO_4.out⟩,⟨by (with_reducible repeat (first|apply Kd.R_alloc|apply Kd.R_drewN|apply Kd.R_drew));exact HO114.out⟩,⟨by (with_reducible repeat (first|apply Kd.S_alloc|apply Kd.S_drewN|apply Kd.S_drew));exact HO_27.out⟩,⟨by repeat (first|(with_reducible first|exact HB.out|apply below_alloc|apply pw_below_drewN|apply below_drew1)|exact HB.out)⟩⟩
         ·rw [if_neg c17] at H
          exact absurd H (by simp)
        ·rw [if_neg c16] at H
         have c16b0:(t111 == 0) = false:=beq_eq_false_iff_ne.mpr c16
         have c16b1:(t111 != 0) = true:=bne_iff_ne.mpr c16
         simp only [Option.some.injEq,Prod.mk.injEq] at H
         obtain ⟨rfl,rfl,rfl⟩:=H
         have p109:0 ≤ (x29_1:Int):=of_decide_eq_true (by first|(with_reducible assumption)|assumption)
         have q109:x29_1 < (t104.length:Int):=of_decide_eq_true (by first|(with_reducible assumption)|assumption)
         obtain ⟨ad109,A109_0,c109_0,e109,hx109_0,hl109_0,hi109_0⟩:=at_L14 (Kd.S_reads' HO_27.out).2.2 x29_1 p109 q109
         cases e109
         obtain ⟨ce109,hce109,hMe109,hcc109⟩:=Kd.S_get HO_27.out [] x29_1 p109 (by first|exact q109|exact of_decide_eq_true (by first|(with_reducible assumption)|assumption)|(have e_:=(Kd.S_reads' HO_27.out).1;omega))
         obtain ⟨ve109_0,rfl,ge109_0⟩:=hMe109
         have hv109_0:=hcc109 0 _ rfl
         rw [Nat.add_zero,show ((Kd.slice 73 k73)).sz = 1 from rfl,Nat.mul_one] at hv109_0
         replace hv109_0:=Option.some.inj (hv109_0.symm.trans hx109_0)
         rw [hv109_0] at ge109_0
         have HL109_0:=Aside0.mk (show Kd.R k73 73 _ _ _ _ (rd_L14 t104 x29_1) from ge109_0)
         clear hv109_0 ge109_0
         clear hcc109 hce109
         have HR109_0:=Aside0.mk hi109_0
         have HC109_0:=Aside0.mk hl109_0
         clear hi109_0 hl109_0
         replace p109:=eq_true p109
         replace q109:=eq_true q109
         go_wp2_with (first|((with_reducible refine gate_callee (f:=36) rfl ?_);refine goesL_ (some 36) rfl rfl Try.func36 (by kernel_rfl) rfl #[.slice A109_0 (rd_L14 t104 x29_1).length c109_0,.slice A1 l1.length c1] rfl (by (try simp only [List.map_toArray,List.map_cons,List.map_nil]);first|done|rfl|(simp only [List.length_drop,List.length_take];rfl)) ?_;(with_reducible refine (scan_Delta.calls k1 _ _ (rd_L14 t104 x29_1) _ _ l1 t110 t111 _ ?side1 ?side2 ?side3 ?side4 A15.out).mono ?_);(case side1=>repeat (first|exact (by repeat (first|(with_reducible exact HR109_0.out)|(with_reducible refine Kd.C_alloc ?_ _)|(with_reducible refine Kd.C_drewN ?_ _)|(with_reducible refine Kd.C_drew ?_)|exact HR109_0.out))|(with_reducible refine Kd.C_alloc ?_ _)|(with_reducible refine Kd.C_drewN ?_ _)|(with_reducible refine Kd.C_drew ?_)));(case side2=>exact HC109_0.out);(case side3=>repeat (first|exact (Kd.C_below HR1.out HB.out)|(with_reducible refine Kd.C_alloc ?_ _)|(with_reducible refine Kd.C_drewN ?_ _)|(with_reducible refine Kd.C_drew ?_)));(case side4=>exact HC1.out);rintro e w20 ⟨rfl,hb⟩;refine ⟨_,rfl,?_⟩;have n0_:=Aside0.mk (Kd.R_below (by (with_reducible repeat (first|apply Kd.R_alloc|apply Kd.R_drewN|apply Kd.R_drew));exact HO_4.out) hb);have n1_:=Aside0.mk (Kd.R_below (by (with_reducible repeat (first|apply Kd.R_alloc|apply Kd.R_drewN|apply Kd.R_drew));exact HO_5.out) hb);have n2_:=Aside0.mk (Kd.S_below (by (with_reducible repeat (first|apply Kd.S_alloc|apply Kd.S_drewN|apply Kd.S_drew));exact HO_27.out) hb);have n3_:=Aside0.mk (Kd.R_below (by (with_reducible repeat (first|apply Kd.R_alloc|apply Kd.R_drewN|apply Kd.R_drew));exact HL109_0.out) hb);have n4_:=Aside0.mk (Kd.C_below (by repeat (first|(with_reducible exact HR109_0.out)|(with_reducible refine Kd.C_alloc ?_ _)|(with_reducible refine Kd.C_drewN ?_ _)|(with_reducible refine Kd.C_drew ?_)|exact HR109_0.out)) hb);have n5_:=Aside0.mk (below_step (by repeat (first|(with_reducible first|exact HB.out|apply below_alloc|apply pw_below_drewN|apply below_drew1)|exact HB.out)) hb);clear HO_4;clear HO_5;clear HO_27;clear HL109_0;clear HR109_0;clear HB;have HO_4:=n0_;have HO_5:=n1_;have HO_27:=n2_;have HL109_0:=n3_;have HR109_0:=n4_;have HB:=n5_;clear n0_ n1_ n2_ n3_ n4_ n5_;(try clear hb);(try clear hb2);(try clear hk);(try clear hi)))
         go_ret3
         exact ⟨_,_,by first|rfl|(simp [errW_none,errW_some] <;> rfl)|(simp [*,errW_none,errW_some] <;> rfl),by first|exact Kd.R_nil _ _ _ _ _|exact Kd.N_nil _ _ _ _ _|exact Kd.V_nil _ _ _ _ _|exact Kd.Q_nil _ _ _ _ _|exact Kd.S_nil _ _ _ _ _,by first|exact Kd.R_nil _ _ _ _ _|exact Kd.N_nil _ _ _ _ _|exact Kd.V_nil _ _ _ _ _|exact Kd.Q_nil _ _ _ _ _|exact Kd.S_nil _ _ _ _ _,by repeat (first|(with_reducible first|exact HB.out|apply below_alloc|apply pw_below_drewN|apply below_drew1)|exact HB.out)⟩
       ·rw [if_neg c14] at H
        exact absurd H (by simp)
      ·rw [if_neg c13] at H
       exact absurd H (by simp)
     ·rw [if_neg c12] at H
      have c12b0:decide (x29_1 < (t104.length:Int)) = false:=decide_eq_false c12
      clear c12
      simp only [Option.some.injEq,Prod.mk.injEq] at H
      obtain ⟨rfl,rfl,rfl⟩:=H
      go_wp2
      go_ret3
      exact ⟨_,_,by first|rfl|(simp [errW_none,errW_some] <;> rfl)|(simp [*,errW_none,errW_some] <;> rfl),by (with_reducible repeat (first|apply Kd.R_alloc|apply Kd.R_drewN|apply Kd.R_drew));exact HO_4.out,by (with_reducible repeat (first|apply Kd.R_alloc|apply Kd.R_drewN|apply Kd.R_drew));exact HO_5.out,by repeat (first|(with_reducible first|exact HB.out|apply below_alloc|apply pw_below_drewN|apply below_drew1)|exact HB.out)⟩
  ·rw [if_neg c6] at H
   have c6b0:(t102 == 0) = false:=beq_eq_false_iff_ne.mpr c6
   have c6b1:(t102 != 0) = true:=bne_iff_ne.mpr c6
   simp only [Option.some.injEq,Prod.mk.injEq] at H
   obtain ⟨rfl,rfl,rfl⟩:=H
   go_enter Try.func40,Try.ntmps40
   go_wp2_with (first|((with_reducible refine gate_callee (f:=31) rfl ?_);refine goesL_ (some 13) rfl rfl Try.func31 (by kernel_rfl) rfl #[.slice A1 l1.length c1] rfl (by (try simp only [List.map_toArray,List.map_cons,List.map_nil]);first|done|rfl|(simp only [List.length_drop,List.length_take];rfl)) ?_;(with_reducible refine (scan_Check.calls k _ _ l1 t101 _ ?side1 ?side2 A3.out).mono ?_);(case side1=>repeat (first|exact HR1.out|(with_reducible refine Kd.C_alloc ?_ _)|(with_reducible refine Kd.C_drewN ?_ _)|(with_reducible refine Kd.C_drew ?_)));(case side2=>exact HC1.out);rintro e w21 ⟨rfl,hb⟩;refine ⟨_,rfl,?_⟩;have n0_:=Aside0.mk (below_step (by repeat (first|(with_reducible first|exact HB.out|apply below_alloc|apply pw_below_drewN|apply below_drew1)|exact HB.out)) hb);clear HB;have HB:=n0_;clear n0_;(try clear hb);(try clear hb2);(try clear hk);(try clear hi))|((with_reducible refine gate_callee (f:=65) rfl ?_);refine goesL_ (some 18) rfl rfl Try.func65 (by kernel_rfl) rfl #[.slice A0 l0.length c0] rfl (by (try simp only [List.map_toArray,List.map_cons,List.map_nil]);first|done|rfl|(simp only [List.length_drop,List.length_take];rfl)) ?_;(with_reducible refine (position_Check.calls k _ _ l0 t102 _ ?side1 ?side2 A5.out).mono ?_);(case side1=>repeat (first|exact (Kd.C_below HR0.out HB.out)|(with_reducible refine Kd.C_alloc ?_ _)|(with_reducible refine Kd.C_drewN ?_ _)|(with_reducible refine Kd.C_drew ?_)));(case side2=>exact HC0.out);rintro e w22 ⟨rfl,hb⟩;refine ⟨_,rfl,?_⟩;have n0_:=Aside0.mk (below_step (by repeat (first|(with_reducible first|exact HB.out|apply below_alloc|apply pw_below_drewN|apply below_drew1)|exact HB.out)) hb);clear HB;have HB:=n0_;clear n0_;(try clear hb);(try clear hb2);(try clear hk);(try clear hi)))
   go_ret3
   exact ⟨_,_,by first|rfl|(simp [errW_none,errW_some] <;> rfl)|(simp [*,errW_none,errW_some] <;> rfl),by first|exact Kd.R_nil _ _ _ _ _|exact Kd.N_nil _ _ _ _ _|exact Kd.V_nil _ _ _ _ _|exact Kd.Q_nil _ _ _ _ _|exact Kd.S_nil _ _ _ _ _,by first|exact Kd.R_nil _ _ _ _ _|exact Kd.N_nil _ _ _ _ _|exact Kd.V_nil _ _ _ _ _|exact Kd.Q_nil _ _ _ _ _|exact Kd.S_nil _ _ _ _ _,by repeat (first|(with_reducible first|exact HB.out|apply below_alloc|apply pw_below_drewN|apply below_drew1)|exact HB.out)⟩
 ·rw [if_neg c4] at H
  have c4b0:(t101 == 0) = false:=beq_eq_false_iff_ne.mpr c4
  have c4b1:(t101 != 0) = true:=bne_iff_ne.mpr c4
  simp only [Option.some.injEq,Prod.mk.injEq] at H
  obtain ⟨rfl,rfl,rfl⟩:=H
  go_enter Try.func40,Try.ntmps40
  go_wp2_with (first|((with_reducible refine gate_callee (f:=31) rfl ?_);refine goesL_ (some 13) rfl rfl Try.func31 (by kernel_rfl) rfl #[.slice A1 l1.length c1] rfl (by (try simp only [List.map_toArray,List.map_cons,List.map_nil]);first|done|rfl|(simp only [List.length_drop,List.length_take];rfl)) ?_;(with_reducible refine (scan_Check.calls k _ _ l1 t101 _ ?side1 ?side2 A3.out).mono ?_);(case side1=>repeat (first|exact HR1.out|(with_reducible refine Kd.C_alloc ?_ _)|(with_reducible refine Kd.C_drewN ?_ _)|(with_reducible refine Kd.C_drew ?_)));(case side2=>exact HC1.out);rintro e w23 ⟨rfl,hb⟩;refine ⟨_,rfl,?_⟩;have n0_:=Aside0.mk (below_step (by repeat (first|(with_reducible first|exact HB.out|apply below_alloc|apply pw_below_drewN|apply below_drew1)|exact HB.out)) hb);clear HB;have HB:=n0_;clear n0_;(try clear hb);(try clear hb2);(try clear hk);(try clear hi)))
  go_ret3
  exact ⟨_,_,by first|rfl|(simp [errW_none,errW_some] <;> rfl)|(simp [*,errW_none,errW_some] <;> rfl),by first|exact Kd.R_nil _ _ _ _ _|exact Kd.N_nil _ _ _ _ _|exact Kd.V_nil _ _ _ _ _|exact Kd.Q_nil _ _ _ _ _|exact Kd.S_nil _ _ _ _ _,by first|exact Kd.R_nil _ _ _ _ _|exact Kd.N_nil _ _ _ _ _|exact Kd.V_nil _ _ _ _ _|exact Kd.Q_nil _ _ _ _ _|exact Kd.S_nil _ _ _ _ _,by repeat (first|(with_reducible first|exact HB.out|apply below_alloc|apply pw_below_drewN|apply below_drew1)|exact HB.out)⟩
end Go.Proofs.Ytbgeceiddcokmaa.X
end
section
namespace Go.Proofs.Ytbgeceiddcokmaa.X
open Go.RowKit Go.Proofs.YtbgeceiddcokmaaW.PrintWords Go.Proofs.YtbgeceiddcokmaaW.PrintLast Go.Proofs.YtbgeceiddcokmaaW.PrintMore
attribute [local go_sem] max2_int min2_int max_two min_two max_three min_three max_four min_four
set_option linter.unusedVariables false
set_option linter.unusedSimpArgs false
def contangolaw43_HedgeDeltas.j0:Nat → List (S73) → List (S91) → Bool → Option (Bool)
 | 0,_,_,_=>none
 | k + 1,x0,x1,x18=>if x18 = true then ((contangolaw43_goes.f k).bind fun t101=>(some t101)) else ((hedge_Deltas.f k x0 x1).bind fun bt102=>((contangoref43_Deltas.f k x0 x1).bind fun bt109=>((contangoref23_Names.f k bt102.1 bt109.1).bind fun t116=>(if t116 = true then ((contangoref43_Ints.f k bt102.2.1 bt109.2.1).bind fun t117=>(if t117 = true then (if bt102.2.2 = bt109.2.2 then ((contangolaw43_goes.f k).bind fun t118=>(some t118)) else (none)) else (none))) else (none)))))
def contangolaw43_HedgeDeltas.f (k:Nat) (l0:List (S73)) (l1:List (S91)):Option (Bool):=if (l0.length:Int) > 200 then (contangolaw43_HedgeDeltas.j0 k l0 l1 true) else (contangolaw43_HedgeDeltas.j0 k l0 l1 (decide ((l1.length:Int) > 200)))
set_option maxHeartbeats 8000000 in
set_option maxRecDepth 100000 in
theorem contangolaw43_HedgeDeltas.calls (k:Nat) (A0:Option Addr) (c0:Nat) (l0:List (S73)) (A1:Option Addr) (c1:Nat) (l1:List (S91)) (r:Bool) (w:World) (hr0:Kd.C k73 w A0 l0.length l0) (hc0:l0.length ≤ c0) (hr1:Kd.C k91 w A1 l1.length l1) (hc1:l1.length ≤ c1) (h:contangolaw43_HedgeDeltas.f k l0 l1 = some r) :
  Calls Try.prog 10 #[.slice A0 l0.length c0,.slice A1 l1.length c1] w fun e w'=>e = .returned (.bool r) ∧ Below w.heap.size w w':=by
 have HR0:=Aside0.mk hr0
 have HC0:=Aside0.mk hc0
 clear hr0 hc0
 have HR1:=Aside0.mk hr1
 have HC1:=Aside0.mk hc1
 clear hr1 hc1
 have HB:=Aside0.mk (Below.refl w.heap.size w)
 have H:(if (l0.length:Int) > 200 then (contangolaw43_HedgeDeltas.j0 k l0 l1 true) else (contangolaw43_HedgeDeltas.j0 k l0 l1 (decide ((l1.length:Int) > 200)))) = some r:=h
 clear h
 have HC3:=Aside0.mk H
 clear H
 go_enter Try.func10,Try.ntmps10
 go_upto_region 1 with (fail)
 go_cut [18] (fun v18 wc=>∃ (kq:Nat) (x18_2:Bool),v18 = .bool x18_2 ∧ Aside0 (contangolaw43_HedgeDeltas.j0 kq l0 l1 x18_2 = some r) ∧ Aside0 (kq ≤ k) ∧ Aside0 (Below w.heap.size w wc))
 case first =>
  have H:=HC3.out
  clear HC3
  by_cases c4:(l0.length:Int) > 200
  ·rw [if_pos c4] at H
   have c4b0:decide (200 < (l0.length:Int)) = true:=decide_eq_true c4
   have c4b1:decide (200 < l0.length) = true:=decide_eq_true (by omega)
   clear c4
   (first|rw [c4b0]|(simp only [i64_w,i32_w];rw [c4b0])|skip)
   have H':=Aside0.mk H
   clear H
   go_wp2
   go_meet
   case rel=>exact ⟨_,(true),(by first|rfl|(simp;done)|(simp [*];done)),H',⟨by first|omega|exact Nat.le_refl _⟩,⟨by repeat (first|(with_reducible first|exact HB.out|apply below_alloc|apply pw_below_drewN|apply below_drew1)|exact HB.out)⟩⟩
  ·rw [if_neg c4] at H
   have c4b0:decide (200 < (l0.length:Int)) = false:=decide_eq_false c4
   have c4b1:decide (200 < l0.length) = false:=decide_eq_false (by omega)
   clear c4
   (first|rw [c4b0]|(simp only [i64_w,i32_w];rw [c4b0])|skip)
   have H':=Aside0.mk H
   clear H
   go_wp2
   go_meet
   case rel=>exact ⟨_,(decide ((l1.length:Int) > 200)),(by first|rfl|(simp;done)|(simp [*];done)),H',⟨by first|omega|exact Nat.le_refl _⟩,⟨by repeat (first|(with_reducible first|exact HB.out|apply below_alloc|apply pw_below_drewN|apply below_drew1)|exact HB.out)⟩⟩
 case rest =>
  clear HC3
  try clear c1
  try clear p2
  try clear c4
  try clear c4b0
  try clear c4b1
  obtain ⟨kq,x18_2,rfl,HA,HJ2,HB⟩:=hcut
  cases kq with
  | zero=>exact absurd HA.out (by simp [contangolaw43_HedgeDeltas.j0])
  | succ kj2 =>
   have H:=HA.out
   clear HA
   simp only [contangolaw43_HedgeDeltas.j0] at H
   by_cases c5:x18_2 = true
   ·subst c5
    have H1:((contangolaw43_goes.f kj2).bind fun t101=>(some t101)) = some r:=by rw [if_pos rfl] at H;exact H
    clear H
    have H:=H1
    clear H1
    replace H:=Option.bind_eq_some_iff.mp H
    obtain ⟨t101,A60,H⟩:=H
    replace H:(some t101) = some r:=H
    have A6:=Aside0.mk A60
    clear A60
    obtain rfl:=Option.some.inj H
    go_wp2_with (first|((with_reducible refine gate_callee (f:=14) rfl ?_);refine goesL_ (some 19) rfl rfl Try.func14 (by kernel_rfl) rfl #[] rfl (by (try simp only [List.map_toArray,List.map_cons,List.map_nil]);first|done|rfl|(simp only [List.length_drop,List.length_take];rfl)) ?_;(with_reducible refine (contangolaw43_goes.calls kj2  t101 _ A6.out).mono ?_);rintro e w7 ⟨rfl,hb⟩;refine ⟨_,rfl,?_⟩;have n0_:=Aside0.mk (below_step (by repeat (first|(with_reducible first|exact HB.out|apply below_alloc|apply pw_below_drewN|apply below_drew1)|exact HB.out)) hb);clear HB;have HB:=n0_;clear n0_;(try clear hb);(try clear hb2);(try clear hk);(try clear hi)))
    go_ret
    exact ⟨by first|rfl|(simp [errW_none,errW_some] <;> rfl)|(simp [*,errW_none,errW_some] <;> rfl),by repeat (first|(with_reducible first|exact HB.out|apply below_alloc|apply pw_below_drewN|apply below_drew1)|exact HB.out)⟩
   ·replace c5:=Bool.eq_false_iff.mpr c5
    subst c5
    have H1:((hedge_Deltas.f kj2 l0 l1).bind fun bt102=>((contangoref43_Deltas.f kj2 l0 l1).bind fun bt109=>((contangoref23_Names.f kj2 bt102.1 bt109.1).bind fun t116=>(if t116 = true then ((contangoref43_Ints.f kj2 bt102.2.1 bt109.2.1).bind fun t117=>(if t117 = true then (if bt102.2.2 = bt109.2.2 then ((contangolaw43_goes.f kj2).bind fun t118=>(some t118)) else (none)) else (none))) else (none))))) = some r:=by rw [if_neg (show ¬ (false = true) by decide)] at H;exact H
    clear H
    have H:=H1
    clear H1
    replace H:=Option.bind_eq_some_iff.mp H
    obtain ⟨⟨t102,t103,t104⟩,A80,H⟩:=H
    replace H:((contangoref43_Deltas.f kj2 l0 l1).bind fun bt109=>((contangoref23_Names.f kj2 t102 bt109.1).bind fun t116=>(if t116 = true then ((contangoref43_Ints.f kj2 t103 bt109.2.1).bind fun t117=>(if t117 = true then (if t104 = bt109.2.2 then ((contangolaw43_goes.f kj2).bind fun t118=>(some t118)) else (none)) else (none))) else (none)))) = some r:=H
    have A8:=Aside0.mk A80
    clear A80
    replace H:=Option.bind_eq_some_iff.mp H
    obtain ⟨⟨t109,t110,t111⟩,A90,H⟩:=H
    replace H:((contangoref23_Names.f kj2 t102 t109).bind fun t116=>(if t116 = true then ((contangoref43_Ints.f kj2 t103 t110).bind fun t117=>(if t117 = true then (if t104 = t111 then ((contangolaw43_goes.f kj2).bind fun t118=>(some t118)) else (none)) else (none))) else (none))) = some r:=H
    have A9:=Aside0.mk A90
    clear A90
    replace H:=Option.bind_eq_some_iff.mp H
    obtain ⟨t116,A100,H⟩:=H
    replace H:(if t116 = true then ((contangoref43_Ints.f kj2 t103 t110).bind fun t117=>(if t117 = true then (if t104 = t111 then ((contangolaw43_goes.f kj2).bind fun t118=>(some t118)) else (none)) else (none))) else (none)) = some r:=H
    have A10:=Aside0.mk A100
    clear A100
    by_cases c11:t116 = true
    ·subst c11
     have H1:((contangoref43_Ints.f kj2 t103 t110).bind fun t117=>(if t117 = true then (if t104 = t111 then ((contangolaw43_goes.f kj2).bind fun t118=>(some t118)) else (none)) else (none))) = some r:=by rw [if_pos rfl] at H;exact H
     clear H
     have H:=H1
     clear H1
     replace H:=Option.bind_eq_some_iff.mp H
     obtain ⟨t117,A120,H⟩:=H
     replace H:(if t117 = true then (if t104 = t111 then ((contangolaw43_goes.f kj2).bind fun t118=>(some t118)) else (none)) else (none)) = some r:=H
     have A12:=Aside0.mk A120
     clear A120
     by_cases c13:t117 = true
     ·subst c13
      have H1:(if t104 = t111 then ((contangolaw43_goes.f kj2).bind fun t118=>(some t118)) else (none)) = some r:=by rw [if_pos rfl] at H;exact H
      clear H
      have H:=H1
      clear H1
      by_cases c14:t104 = t111
      ·rw [if_pos c14] at H
       have c14b0:(t104 == t111) = true:=beq_iff_eq.mpr c14
       have c14b1:(t104 != t111) = false:=bne_eq_false_iff_eq.mpr c14
       clear c14
       replace H:=Option.bind_eq_some_iff.mp H
       obtain ⟨t118,A150,H⟩:=H
       replace H:(some t118) = some r:=H
       have A15:=Aside0.mk A150
       clear A150
       obtain rfl:=Option.some.inj H
       go_wp2_with (first|((with_reducible refine gate_callee (f:=40) rfl ?_);refine goesL_ (some 23) rfl rfl Try.func40 (by kernel_rfl) rfl #[.slice A0 l0.length c0,.slice A1 l1.length c1] rfl (by (try simp only [List.map_toArray,List.map_cons,List.map_nil]);first|done|rfl|(simp only [List.length_drop,List.length_take];rfl)) ?_;(with_reducible refine (hedge_Deltas.calls kj2 _ _ l0 _ _ l1 t102 t103 t104 _ ?side1 ?side2 ?side3 ?side4 A8.out).mono ?_);(case side1=>repeat (first|exact (Kd.C_below HR0.out HB.out)|(with_reducible refine Kd.C_alloc ?_ _)|(with_reducible refine Kd.C_drewN ?_ _)|(with_reducible refine Kd.C_drew ?_)));(case side2=>exact HC0.out);(case side3=>repeat (first|exact (Kd.C_below HR1.out HB.out)|(with_reducible refine Kd.C_alloc ?_ _)|(with_reducible refine Kd.C_drewN ?_ _)|(with_reducible refine Kd.C_drew ?_)));(case side4=>exact HC1.out);rintro e w16 ⟨v105,v107,rfl,ho0,ho1,hb⟩;refine ⟨_,rfl,?_⟩;have n0_:=Aside0.mk (Kd.R_lower ho0 (below_size (by repeat (first|(with_reducible first|exact HB.out|apply below_alloc|apply pw_below_drewN|apply below_drew1)|exact HB.out))));have n1_:=Aside0.mk (Kd.R_lower ho1 (below_size (by repeat (first|(with_reducible first|exact HB.out|apply below_alloc|apply pw_below_drewN|apply below_drew1)|exact HB.out))));have n2_:=Aside0.mk (below_step (by repeat (first|(with_reducible first|exact HB.out|apply below_alloc|apply pw_below_drewN|apply below_drew1)|exact HB.out)) hb);clear HB;have HO106:=n0_;have HO108:=n1_;have HB:=n2_;clear n0_ n1_ n2_;(try clear hb);(try clear hb2);(try clear hk);(try clear hi);(try clear ho0);(try clear ho1))|((with_reducible refine gate_callee (f:=41) rfl ?_);refine goesL_ (some 30) rfl rfl Try.func41 (by kernel_rfl) rfl #[.slice A0 l0.length c0,.slice A1 l1.length c1] rfl (by (try simp only [List.map_toArray,List.map_cons,List.map_nil]);first|done|rfl|(simp only [List.length_drop,List.length_take];rfl)) ?_;(with_reducible refine (contangoref43_Deltas.calls kj2 _ _ l0 _ _ l1 t109 t110 t111 _ ?side1 ?side2 ?side3 ?side4 A9.out).mono ?_);(case side1=>repeat (first|exact (Kd.C_below HR0.out HB.out)|(with_reducible refine Kd.C_alloc ?_ _)|(with_reducible refine Kd.C_drewN ?_ _)|(with_reducible refine Kd.C_drew ?_)));(case side2=>exact HC0.out);(case side3=>repeat (first|exact (Kd.C_below HR1.out HB.out)|(with_reducible refine Kd.C_alloc ?_ _)|(with_reducible refine Kd.C_drewN ?_ _)|(with_reducible refine Kd.C_drew ?_)));(case side4=>exact HC1.out);rintro e w17 ⟨v112,v114,rfl,ho0,ho1,hb⟩;refine ⟨_,rfl,?_⟩;have n0_:=Aside0.mk (Kd.R_elder' (by (with_reducible repeat (first|apply Kd.R_alloc|apply Kd.R_drewN|apply Kd.R_drew));exact HO106.out) (Kd.R_base ho0) hb);have n1_:=Aside0.mk (Kd.R_elder' (by (with_reducible repeat (first|apply Kd.R_alloc|apply Kd.R_drewN|apply Kd.R_drew));exact HO108.out) (Kd.R_base ho1) hb);have n2_:=Aside0.mk (Kd.R_lower (Kd.R_new' ho0 (Kd.R_lt (by (with_reducible repeat (first|apply Kd.R_alloc|apply Kd.R_drewN|apply Kd.R_drew));exact HO106.out))) (below_size (by repeat (first|(with_reducible first|exact HB.out|apply below_alloc|apply pw_below_drewN|apply below_drew1)|exact HB.out))));have n3_:=Aside0.mk (Kd.R_lower (Kd.R_new' ho1 (Kd.R_lt (by (with_reducible repeat (first|apply Kd.R_alloc|apply Kd.R_drewN|apply Kd.R_drew));exact HO108.out))) (below_size (by repeat (first|(with_reducible first|exact HB.out|apply below_alloc|apply pw_below_drewN|apply below_drew1)|exact HB.out))));have n4_:=Aside0.mk (below_step (by repeat (first|(with_reducible first|exact HB.out|apply below_alloc|apply pw_below_drewN|apply below_drew1)|exact HB.out)) hb);clear HO106;clear HO108;clear HB;have HO106:=n0_;have HO108:=n1_;have HO113:=n2_;have HO115:=n3_;have HB:=n4_;clear n0_ n1_ n2_ n3_ n4_;(try clear hb);(try clear hb2);(try clear hk);(try clear hi);(try clear ho0);(try clear ho1);obtain ⟨Ao18,co18,eo18⟩:=Kd.R_slice HO106.out;subst eo18;obtain ⟨Ao19,co19,eo19⟩:=Kd.R_slice HO113.out;subst eo19)|((with_reducible refine gate_callee (f:=39) rfl ?_);refine goesL_ (some 36) rfl rfl Try.func39 (by kernel_rfl) rfl #[.slice Ao18 t102.length co18,.slice Ao19 t109.length co19] rfl (by (try simp only [List.map_toArray,List.map_cons,List.map_nil]);first|done|rfl|(simp only [List.length_drop,List.length_take];rfl)) ?_;(with_reducible refine (contangoref23_Names.calls kj2 _ _ t102 _ _ t109 true _ ?side1 ?side2 ?side3 ?side4 A10.out).mono ?_);(case side1=>repeat (first|exact (Kd.R_reads' HO106.out).2.2|(with_reducible refine Kd.C_alloc ?_ _)|(with_reducible refine Kd.C_drewN ?_ _)|(with_reducible refine Kd.C_drew ?_)));(case side2=>exact (Kd.R_reads' HO106.out).2.1);(case side3=>repeat (first|exact (Kd.R_reads' HO113.out).2.2|(with_reducible refine Kd.C_alloc ?_ _)|(with_reducible refine Kd.C_drewN ?_ _)|(with_reducible refine Kd.C_drew ?_)));(case side4=>exact (Kd.R_reads' HO113.out).2.1);rintro e w' ⟨rfl,⟨nd,rfl⟩⟩;refine ⟨_,rfl,?_⟩;obtain ⟨Ao20,co20,eo20⟩:=Kd.R_slice HO108.out;subst eo20;obtain ⟨Ao21,co21,eo21⟩:=Kd.R_slice HO115.out;subst eo21)|(go_at_call 18;(with_reducible refine (contangoref43_Ints.calls kj2 _ _ t103 _ _ t110 true _ ?side1 ?side2 ?side3 ?side4 A12.out).mono ?_);(case side1=>repeat (first|exact (Kd.R_reads' HO108.out).2.2|(with_reducible refine Kd.C_alloc ?_ _)|(with_reducible refine Kd.C_drewN ?_ _)|(with_reducible refine Kd.C_drew ?_)));(case side2=>exact (Kd.R_reads' HO108.out).2.1);(case side3=>repeat (first|exact (Kd.R_reads' HO115.out).2.2|(with_reducible refine Kd.C_alloc ?_ _)|(with_reducible refine Kd.C_drewN ?_ _)|(with_reducible refine Kd.C_drew ?_)));(case side4=>exact (Kd.R_reads' HO115.out).2.1);rintro e w' ⟨rfl,⟨nd,rfl⟩⟩)|(go_at_call 14;(with_reducible refine (contangolaw43_goes.calls kj2  t118 _ A15.out).mono ?_);rintro e w22 ⟨rfl,hb⟩;have n0_:=Aside0.mk (Kd.R_below (by (with_reducible repeat (first|apply Kd.R_alloc|apply Kd.R_drewN|apply Kd.R_drew));exact HO106.out) hb);have n1_:=Aside0.mk (Kd.R_below (by (with_reducible repeat (first|apply Kd.R_alloc|apply Kd.R_drewN|apply Kd.R_drew));exact HO108.out) hb);have n2_:=Aside0.mk (Kd.R_below (by (with_reducible repeat (first|apply Kd.R_alloc|apply Kd.R_drewN|apply Kd.R_drew));exact HO113.out) hb);have n3_:=Aside0.mk (Kd.R_below (by (with_reducible repeat (first|apply Kd.R_alloc|apply Kd.R_drewN|apply Kd.R_drew));exact HO115.out) hb);have n4_:=Aside0.mk (below_step (by repeat (first|(with_reducible first|exact HB.out|apply below_alloc|apply pw_below_drewN|apply below_drew1)|exact HB.out)) hb);clear HO106;clear HO108;clear HO113;clear HO115;clear HB;have HO106:=n0_;have HO108:=n1_;have HO113:=n2_;have HO115:=n3_;have HB:=n4_;clear n0_ n1_ n2_ n3_ n4_;(try clear hb);(try clear hb2);(try clear hk);(try clear hi)))
       go_ret
       exact ⟨by first|rfl|(simp [errW_none,errW_some] <;> rfl)|(simp [*,errW_none,errW_some] <;> rfl),by repeat (first|(with_reducible first|exact HB.out|apply below_alloc|apply pw_below_drewN|apply below_drew1)|exact HB.out)⟩
      ·rw [if_neg c14] at H
       exact absurd H (by simp)
     ·replace c13:=Bool.eq_false_iff.mpr c13
      subst c13
      have H1:(none) = some r:=by rw [if_neg (show ¬ (false = true) by decide)] at H;exact H
      clear H
      have H:=H1
      clear H1
      exact absurd H (by simp)
    ·replace c11:=Bool.eq_false_iff.mpr c11
     subst c11
     have H1:(none) = some r:=by rw [if_neg (show ¬ (false = true) by decide)] at H;exact H
     clear H
     have H:=H1
     clear H1
     exact absurd H (by simp)
end Go.Proofs.Ytbgeceiddcokmaa.X
end
section
namespace Go.Proofs.Ytbgeceiddcokmaa.P
set_option linter.unusedVariables false
set_option linter.unusedSimpArgs false
open Go.RowKit Go.Proofs.YtbgeceiddcokmaaW.PrintWords Go.Proofs.YtbgeceiddcokmaaW.PrintMore Go.Proofs.Ytbgeceiddcokmaa.X
abbrev Ser:=S39
abbrev Pos:=S73
def cmpI (a b:Int):Int:=if a < b then -1 else if a > b then 1 else 0
def cmpB (a b:ByteArray):Int:=if (Op.bytesLess a.toList b.toList) = true then -1 else if (Op.bytesLess b.toList a.toList) = true then 1 else 0
def cmpS (a b:Ser):Int :=
 if a.f0.toList = b.f0.toList then (if a.f2 = b.f2 then (if a.f1 = b.f1 then cmpI a.f3 b.f3 else cmpI a.f1 b.f1) else cmpI a.f2 b.f2) else cmpB a.f0 b.f0
theorem cmpI_f (a b:Int):cmp_Compare_int.f a b = some (cmpI a b):=by
 unfold cmp_Compare_int.f cmp_isNaN_int.f cmpI
 simp only [bne_self_eq_false,Option.bind_some,Bool.false_eq_true,if_false]
 split
 ·rfl
 ·split <;> rfl
theorem cmpB_f (a b:ByteArray):cmp_Compare_string.f a b = some (cmpB a b):=by
 unfold cmp_Compare_string.f cmp_isNaN_string.f cmpB
 simp only [bne_self_eq_false,Option.bind_some,Bool.false_eq_true,if_false]
 split
 ·rfl
 ·split <;> rfl
theorem cmpS_f (a b:Ser):series_Compare.f a.f0 a.f1 a.f2 a.f3 b.f0 b.f1 b.f2 b.f3 = some (cmpS a b):=by
 unfold series_Compare.f cmpS
 simp only [cmpI_f,cmpB_f,Option.bind_some]
 by_cases h0:a.f0.toList = b.f0.toList
 ·by_cases h2:a.f2 = b.f2
  ·by_cases h1:a.f1 = b.f1
   ·by_cases h3:a.f3 = b.f3
    ·simp [h0,h1,h2,h3,cmpI]
    ·simp [h0,h1,h2,h3]
   ·simp [h0,h1,h2]
  ·simp [h0,h2]
 ·simp [h0]
def eqS (a b:Ser):Bool:=a.f0.toList == b.f0.toList && (a.f1 == b.f1 && (a.f2 == b.f2 && a.f3 == b.f3))
def lots (n:Int):Bool:=decide (0 ≤ n) && decide (n ≤ 1048576)
theorem lots_f (n:Int):position_lots.f n = some (lots n):=by
 unfold position_lots.f lots
 by_cases h:n ≥ 0
 ·rw [if_pos h,decide_eq_true (show 0 ≤ n from h),Bool.true_and]
 ·rw [if_neg h,decide_eq_false (show ¬ 0 ≤ n from h),Bool.false_and]
def posBad (p:Pos):Bool:=!(lots p.f1) || !(lots p.f2) || (decide (p.f1 = 0) && decide (p.f2 = 0))
def behind (prev:Option Ser) (s:Ser):Bool:=match prev with|some q=>decide (cmpS q s ≥ 0)|none=>false
def posGo:Option Ser → List Pos → Int
 | _,[]=>0
 | prev,p :: r=>if behind prev p.f0 = true then 19 else if posBad p = true then 18 else posGo (some p.f0) r
def posCheck (l:List Pos):Int:=if l.length > 128 then 8 else posGo none l
def prevOf (l:List Pos) (i:Nat):Option Ser:=if i = 0 then none else (l[i - 1]?).map (·.f0)
theorem rdPos (l:List Pos) (i:Nat) (h:i < l.length):rd_T73 l (i:Int) = l[i]:=by simp [rd_T73,h]
theorem posJ (l:List Pos) (i:Nat) (b:Bool) (p:Pos) (r:Int)
  (h:b = false → posBad p = false → Ev (fun k=>position_Check.l0 k l l l.length (wrap64 ((i:Int) + 1))) r) :
  Ev (fun k=>position_Check.j1 k l l l.length i b p.f0.f0 p.f0.f1 p.f0.f2 p.f0.f3 p.f1 p.f2) (if b = true then 19 else if posBad p = true then 18 else r):=by
 refine Ev_succ ?_
 simp only [position_Check.j1,lots_f,Option.bind_some]
 cases b with
 | true=>exact Ev.now _
 | false =>
  simp only [Bool.false_eq_true,if_false]
  cases h1:lots p.f1 with
  | false=>simp only [posBad,h1,Bool.not_false,Bool.true_or,if_true,Bool.false_eq_true,if_false];exact Ev.now _
  | true =>
   cases h2:lots p.f2 with
   | false=>simp only [posBad,h1,h2,Bool.not_false,Bool.not_true,Bool.true_or,Bool.or_true,if_true,Bool.false_eq_true,if_false];exact Ev.now _
   | true =>
    simp only [if_true]
    by_cases z1:p.f1 = 0
    ·by_cases z2:p.f2 = 0
     ·have hb:posBad p = true:=by simp [posBad,z1,z2]
      simp only [hb,if_true,if_pos z1,if_pos z2]
      exact Ev.now _
     ·have hb:posBad p = false:=by simp only [posBad,h1,h2];simp [z2]
      simp only [hb,Bool.false_eq_true,if_false,if_neg z2,ite_self]
      exact h rfl hb
    ·have hb:posBad p = false:=by simp only [posBad,h1,h2];simp [z1]
     simp only [hb,Bool.false_eq_true,if_false,if_neg z1]
     exact h rfl hb
theorem posLoop (l:List Pos) (hl:l.length ≤ 4611686018427387904):∀ (d i:Nat),i + d = l.length → Ev (fun k=>position_Check.l0 k l l l.length i) (posGo (prevOf l i) (l.drop i))
 | 0,i,hd=>by
  refine Ev_succ ?_
  simp only [position_Check.l0,if_neg (show ¬ ((i:Int) < (l.length:Int)) by omega)]
  rw [List.drop_of_length_le (by omega)]
  exact Ev.now _
 | d + 1,i,hd=>by
  have hi:i < l.length:=by omega
  have ih:=posLoop l hl d (i + 1) (by omega)
  rw [← w_succ hi (by omega)] at ih
  have hprev:prevOf l (i + 1) = some l[i].f0:=by simp [prevOf,hi]
  rw [hprev] at ih
  rw [drop_cons l i hi]
  refine Ev_succ ?_
  simp only [position_Check.l0,if_pos (show (i:Int) < (l.length:Int) by omega),if_pos (show 0 ≤ (i:Int) by omega),rdPos l i hi]
  by_cases h0:i = 0
  ·subst h0
   simp only [if_neg (show ¬ (((0:Nat):Int) > 0) by omega)]
   exact posJ l 0 false l[0] _ (fun _ _=>ih)
  ·have hp:=w_pred (show 0 < i by omega) (by omega)
   simp only [if_pos (show ((i:Int) > 0) by omega),hp,if_pos (show 0 ≤ ((i - 1:Nat):Int) by omega),if_pos (show ((i - 1:Nat):Int) < (l.length:Int) by omega),rdPos l (i - 1) (by omega),cmpS_f,Option.bind_some]
   have hb:behind (prevOf l i) l[i].f0 = decide (cmpS l[i - 1].f0 l[i].f0 ≥ 0):=by
    simp [behind,prevOf,h0,show i - 1 < l.length by omega]
   simp only [posGo,hb]
   exact posJ l i _ l[i] _ (fun _ _=>ih)
theorem posCheck_f (l:List Pos) (hl:l.length ≤ 4611686018427387904):Ev (fun k=>position_Check.f k l) (posCheck l):=by
 unfold position_Check.f posCheck
 by_cases h:l.length > 128
 ·simp only [if_pos (show (l.length:Int) > 128 by omega),if_pos h]
  exact Ev.now _
 ·simp only [if_neg (show ¬ ((l.length:Int) > 128) by omega),if_neg h]
  exact posLoop l hl l.length 0 (by omega)
end Go.Proofs.Ytbgeceiddcokmaa.P
end
section
namespace Go.Proofs.Ytbgeceiddcokmaa.P
set_option linter.unusedVariables false
set_option linter.unusedSimpArgs false
open Go.RowKit Go.Proofs.YtbgeceiddcokmaaW.PrintWords Go.Proofs.YtbgeceiddcokmaaW.PrintMore Go.Proofs.Ytbgeceiddcokmaa.X
theorem orderR_f (a b:Int):contangoref10_order.f a b = some (cmpI a b):=by
 unfold contangoref10_order.f cmpI
 split
 ·rfl
 ·split <;> rfl
theorem cmpR_f (a b:Ser):contangoref10_Compare.f a.f0 a.f1 a.f2 a.f3 b.f0 b.f1 b.f2 b.f3 = some (cmpS a b):=by
 unfold contangoref10_Compare.f cmpS cmpB
 simp only [orderR_f,Option.bind_some]
 by_cases h0:a.f0.toList = b.f0.toList
 ·rw [if_pos h0,h0]
  simp only [bl_self,Bool.false_eq_true,if_false]
  split
  ·split <;> rfl
  ·rfl
 ·rw [if_neg h0]
  cases h1:Op.bytesLess a.f0.toList b.f0.toList with
  | true=>simp
  | false =>
   cases h2:Op.bytesLess b.f0.toList a.f0.toList with
   | true=>simp
   | false=>exact absurd (bl_eq h1 h2) h0
theorem lotsR_f (n:Int):contangoref15_lots.f n = some (lots n):=by
 unfold contangoref15_lots.f lots
 by_cases h:n ≥ 0
 ·rw [if_pos h,decide_eq_true (show 0 ≤ n from h),Bool.true_and]
 ·rw [if_neg h,decide_eq_false (show ¬ 0 ≤ n from h),Bool.false_and]
theorem refPosJ (l:List Pos) (i:Nat) (hi:i < l.length) (b:Bool) (r:Int)
  (h:b = false → posBad l[i] = false → Ev (fun k=>contangoref15_Check.l0 k l (wrap64 ((i:Int) + 1))) r) :
  Ev (fun k=>contangoref15_Check.j1 k l i b) (if b = true then 19 else if posBad l[i] = true then 18 else r):=by
 refine Ev_succ ?_
 simp only [contangoref15_Check.j1,lotsR_f,Option.bind_some,if_pos (show 0 ≤ (i:Int) by omega),if_pos (show (i:Int) < (l.length:Int) by omega),rdPos l i hi]
 cases b with
 | true=>exact Ev.now _
 | false =>
  simp only [Bool.false_eq_true,if_false]
  cases h1:lots l[i].f1 with
  | false=>simp only [posBad,h1,Bool.not_false,Bool.true_or,if_true,Bool.false_eq_true,if_false];exact Ev.now _
  | true =>
   cases h2:lots l[i].f2 with
   | false=>simp only [posBad,h1,h2,Bool.not_false,Bool.not_true,Bool.true_or,Bool.or_true,if_true,Bool.false_eq_true,if_false];exact Ev.now _
   | true =>
    simp only [if_true]
    simp only [lots,Bool.and_eq_true,decide_eq_true_eq] at h1 h2
    rw [w_id (x:=l[i].f1 + l[i].f2) (by omega) (by omega)]
    by_cases z:l[i].f1 + l[i].f2 = 0
    ·have hb:posBad l[i] = true:=by simp [posBad,show l[i].f1 = 0 by omega,show l[i].f2 = 0 by omega]
     simp only [hb,if_true,if_pos z]
     exact Ev.now _
    ·have hb:posBad l[i] = false:=by simp [posBad,lots];omega
     simp only [hb,Bool.false_eq_true,if_false,if_neg z]
     exact h rfl hb
theorem refPosLoop (l:List Pos) (hl:l.length ≤ 4611686018427387904):∀ (d i:Nat),i + d = l.length → Ev (fun k=>contangoref15_Check.l0 k l i) (posGo (prevOf l i) (l.drop i))
 | 0,i,hd=>by
  refine Ev_succ ?_
  simp only [contangoref15_Check.l0,if_neg (show ¬ ((i:Int) < (l.length:Int)) by omega)]
  rw [List.drop_of_length_le (by omega)]
  exact Ev.now _
 | d + 1,i,hd=>by
  have hi:i < l.length:=by omega
  have ih:=refPosLoop l hl d (i + 1) (by omega)
  rw [← w_succ hi (by omega)] at ih
  have hprev:prevOf l (i + 1) = some l[i].f0:=by simp [prevOf,hi]
  rw [hprev] at ih
  rw [drop_cons l i hi]
  refine Ev_succ ?_
  simp only [contangoref15_Check.l0,if_pos (show (i:Int) < (l.length:Int) by omega),if_pos (show 0 ≤ (i:Int) by omega),rdPos l i hi]
  by_cases h0:i = 0
  ·subst h0
   simp only [if_neg (show ¬ (((0:Nat):Int) > 0) by omega)]
   exact refPosJ l 0 hi false _ (fun _ _=>ih)
  ·have hp:=w_pred (show 0 < i by omega) (by omega)
   simp only [if_pos (show ((i:Int) > 0) by omega),hp,if_pos (show 0 ≤ ((i - 1:Nat):Int) by omega),if_pos (show ((i - 1:Nat):Int) < (l.length:Int) by omega),rdPos l (i - 1) (by omega),cmpR_f,Option.bind_some]
   have hb:behind (prevOf l i) l[i].f0 = decide (cmpS l[i - 1].f0 l[i].f0 ≥ 0):=by
    simp [behind,prevOf,h0,show i - 1 < l.length by omega]
   simp only [posGo,hb]
   exact refPosJ l i hi _ _ (fun _ _=>ih)
theorem refPosCheck_f (l:List Pos) (hl:l.length ≤ 4611686018427387904):Ev (fun k=>contangoref15_Check.f k l) (posCheck l):=by
 unfold contangoref15_Check.f posCheck
 by_cases h:l.length > 128
 ·simp only [if_pos (show (l.length:Int) > 128 by omega),if_pos h]
  exact Ev.now _
 ·simp only [if_neg (show ¬ ((l.length:Int) > 128) by omega),if_neg h]
  exact refPosLoop l hl l.length 0 (by omega)
theorem posGo_order:∀ (l:List Pos) (prev:Option Ser),posGo prev l = 0 → ∀ (i:Nat) (h:i < l.length) (h0:0 < i),cmpS (l[i - 1]'(by omega)).f0 l[i].f0 < 0
 | [],_,_,i,h,_=>by simp at h
 | p :: t,prev,hz,i,h,h0=>by
  unfold posGo at hz
  by_cases h1:behind prev p.f0 = true
  ·rw [if_pos h1] at hz;omega
  ·rw [if_neg h1] at hz
   by_cases h2:posBad p = true
   ·rw [if_pos h2] at hz;omega
   ·rw [if_neg h2] at hz
    obtain ⟨j,rfl⟩:∃ j,i = j + 1:=⟨i - 1,by omega⟩
    cases j with
    | zero =>
     cases t with
     | nil=>simp at h
     | cons q t =>
      unfold posGo at hz
      by_cases h3:behind (some p.f0) q.f0 = true
      ·rw [if_pos h3] at hz;omega
      ·simp only [behind,decide_eq_true_eq] at h3
       simp only [List.getElem_cons_succ,List.getElem_cons_zero,Nat.zero_add,Nat.sub_self]
       omega
    | succ j =>
     have:=posGo_order t _ hz (j + 1) (by simpa using h) (by omega)
     simpa using this
theorem posCheck_order {l:List Pos} (h:posCheck l = 0):∀ (i:Nat) (h:i < l.length) (h0:0 < i),cmpS (l[i - 1]'(by omega)).f0 l[i].f0 < 0:=by
 unfold posCheck at h
 by_cases h2:l.length > 128
 ·rw [if_pos h2] at h;omega
 ·rw [if_neg h2] at h;exact posGo_order l none h
theorem cmpS_names {a b:Ser} (h:cmpS a b < 0):a.f0.toList = b.f0.toList ∨ Op.bytesLess a.f0.toList b.f0.toList = true:=by
 unfold cmpS at h
 by_cases h0:a.f0.toList = b.f0.toList
 ·exact Or.inl h0
 ·rw [if_neg h0] at h
  unfold cmpB at h
  by_cases h1:Op.bytesLess a.f0.toList b.f0.toList = true
  ·exact Or.inr h1
  ·rw [if_neg h1] at h
   by_cases h2:Op.bytesLess b.f0.toList a.f0.toList = true
   ·rw [if_pos h2] at h;omega
   ·rw [if_neg h2] at h;omega
end Go.Proofs.Ytbgeceiddcokmaa.P
end
section
namespace Go.Proofs.Ytbgeceiddcokmaa.P
set_option linter.unusedVariables false
set_option linter.unusedSimpArgs false
open Go.RowKit Go.Proofs.YtbgeceiddcokmaaW.PrintWords Go.Proofs.YtbgeceiddcokmaaW.PrintMore Go.Proofs.Ytbgeceiddcokmaa.X
abbrev Arr:=S91
theorem rdArr (l:List Arr) (i:Nat) (h:i < l.length):rd_T91 l (i:Int) = l[i]:=by simp [rd_T91,h]
def lossBad (x:Int):Bool:=decide (x < -68719476736) || decide (x > 68719476736)
def deltaBad (x:Int):Bool:=decide (x < -1000) || decide (x > 1000)
def lenBad (n m:Nat):Bool:=decide (m < 1) || decide (m > 32) || !(decide (m = n))
def arrErr (n:Nat) (a:Arr):Int:=if lenBad n a.f1.length = true then 27 else if a.f1.any lossBad = true then 3 else if deltaBad a.f2 = true then 2 else 0
def scanGo (n:Nat):Option Ser → List Arr → Int
 | _,[]=>0
 | prev,a :: r=>if behind prev a.f0 = true then 19 else if arrErr n a ≠ 0 then arrErr n a else scanGo n (some a.f0) r
def scanN (l:List Arr):Nat:=match l with|[]=>0|a :: _=>a.f1.length
def scanCheck (l:List Arr):Int:=if l.length > 128 then 8 else scanGo (scanN l) none l
def prevOfA (l:List Arr) (i:Nat):Option Ser:=if i = 0 then none else (l[i - 1]?).map (·.f0)
theorem scanL1 (l:List Arr) (i:Nat) (ls ls':List Int) (b0:ByteArray) (b1 b2 b3 dl:Int) (r:Int) (hl:ls.length ≤ 4611686018427387904)
  (h:ls.any lossBad = false → deltaBad dl = false → Ev (fun k=>scan_Check.l0 k l l l.length (wrap64 ((i:Int) + 1))) r):∀ (d j:Nat),j + d = ls.length → (ls.take j).any lossBad = false →
  Ev (fun k=>scan_Check.l1 k l l l.length i ls ls.length j b0 b1 b2 b3 ls' dl) (if (ls.drop j).any lossBad = true then 3 else if deltaBad dl = true then 2 else r)
 | 0,j,hd,ht=>by
  refine Ev_succ ?_
  rw [List.drop_of_length_le (by omega)]
  simp only [scan_Check.l1,if_neg (show ¬ ((j:Int) < (ls.length:Int)) by omega),List.any_nil,Bool.false_eq_true,if_false]
  have hall:ls.any lossBad = false:=by rw [List.take_of_length_le (by omega)] at ht;exact ht
  by_cases c1:dl < -1000
  ·simp only [if_pos c1,deltaBad,decide_eq_true c1,Bool.true_or,if_true];exact Ev.now _
  ·by_cases c2:dl > 1000
   ·simp only [if_neg c1,if_pos c2,deltaBad,decide_eq_true c2,Bool.or_true,if_true];exact Ev.now _
   ·have hb:deltaBad dl = false:=by simp only [deltaBad,decide_eq_false c1,decide_eq_false c2];rfl
    simp only [if_neg c1,if_neg c2,hb,Bool.false_eq_true,if_false]
    exact h hall hb
 | d + 1,j,hd,ht=>by
  have hj:j < ls.length:=by omega
  rw [drop_cons ls j hj]
  refine Ev_succ ?_
  simp only [scan_Check.l1,if_pos (show (j:Int) < (ls.length:Int) by omega),if_pos (show 0 ≤ (j:Int) by omega),rd_nat ls j hj,List.any_cons]
  by_cases c1:ls[j] < -68719476736
  ·simp only [if_pos c1,lossBad,decide_eq_true c1,Bool.true_or,if_true];exact Ev.now _
  ·by_cases c2:ls[j] > 68719476736
   ·simp only [if_neg c1,if_pos c2,lossBad,decide_eq_true c2,Bool.true_or,Bool.or_true,if_true];exact Ev.now _
   ·have hb:lossBad ls[j] = false:=by simp only [lossBad,decide_eq_false c1,decide_eq_false c2];rfl
    have ih:=scanL1 l i ls ls' b0 b1 b2 b3 dl r hl h d (j + 1) (by omega) (by rw [List.take_succ_eq_append_getElem hj,List.any_append,ht];simp [hb])
    rw [← w_succ hj (by omega)] at ih
    simp only [if_neg c1,if_neg c2,hb,Bool.false_or]
    exact ih
theorem scanJ (l:List Arr) (hl:0 < l.length) (hl2:l.length ≤ 4611686018427387904) (i:Nat) (b:Bool) (a:Arr) (ha:a.f1.length ≤ 4611686018427387904) (r:Int)
  (h:b = false → arrErr (scanN l) a = 0 → Ev (fun k=>scan_Check.l0 k l l l.length (wrap64 ((i:Int) + 1))) r) :
  Ev (fun k=>scan_Check.j1 k l l l.length i b a.f0.f0 a.f0.f1 a.f0.f2 a.f0.f3 a.f1 a.f2) (if b = true then 19 else if arrErr (scanN l) a ≠ 0 then arrErr (scanN l) a else r):=by
 have hn:(((rd_T91 l 0).f1).length:Int) = (scanN l:Int):=by
  cases l with
  | nil=>simp at hl
  | cons x t=>rfl
 have hj2:∀ c:Bool,c = lenBad (scanN l) a.f1.length → b = false → Ev (fun k=>scan_Check.j2 k l l l.length i c a.f0.f0 a.f0.f1 a.f0.f2 a.f0.f3 a.f1 a.f2) (if arrErr (scanN l) a ≠ 0 then arrErr (scanN l) a else r):=by
  intro c hc hb
  refine Ev_succ ?_
  simp only [scan_Check.j2]
  cases hcc:lenBad (scanN l) a.f1.length with
  | true =>
   have:arrErr (scanN l) a = 27:=by simp [arrErr,hcc]
   simp only [hc,hcc,if_true,this]
   exact Ev.now _
  | false =>
   simp only [hc,hcc,Bool.false_eq_true,if_false]
   have key:=scanL1 l i a.f1 a.f1 a.f0.f0 a.f0.f1 a.f0.f2 a.f0.f3 a.f2 r ha (fun h1 h2=>h hb (by simp [arrErr,hcc,h1,h2])) a.f1.length 0 (by omega) (by simp)
   rw [List.drop_zero] at key
   have e:(if a.f1.any lossBad = true then (3:Int) else if deltaBad a.f2 = true then 2 else r) = (if arrErr (scanN l) a ≠ 0 then arrErr (scanN l) a else r):=by
    unfold arrErr
    simp only [hcc,Bool.false_eq_true,if_false]
    by_cases h1:a.f1.any lossBad = true
    ·simp [h1]
    ·by_cases h2:deltaBad a.f2 = true
     ·simp [h1,h2]
     ·simp [h1,h2]
   rw [e] at key
   exact key
 refine Ev_succ ?_
 simp only [scan_Check.j1]
 cases hb:b with
 | true=>exact Ev.now _
 | false =>
  simp only [Bool.false_eq_true,if_false,hn]
  by_cases c1:(a.f1.length:Int) < 1
  ·simp only [if_pos c1]
   exact hj2 true (by have e1:decide (a.f1.length < 1) = true:=decide_eq_true (by omega);simp only [lenBad,e1,Bool.true_or]) hb
  ·by_cases c2:(a.f1.length:Int) > 32
   ·simp only [if_neg c1,if_pos c2]
    exact hj2 true (by have e1:decide (a.f1.length > 32) = true:=decide_eq_true (by omega);simp only [lenBad,e1,Bool.true_or,Bool.or_true]) hb
   ·simp only [if_neg c1,if_neg c2,if_pos (show 0 < (l.length:Int) by omega)]
    refine hj2 _ ?_ hb
    have e1:decide (a.f1.length < 1) = false:=decide_eq_false (by omega)
    have e2:decide (a.f1.length > 32) = false:=decide_eq_false (by omega)
    simp only [lenBad,e1,e2,Bool.false_or]
    by_cases e:a.f1.length = scanN l
    ·simp [e]
    ·have e':¬ ((a.f1.length:Int) = (scanN l:Int)):=by omega
     rw [decide_eq_false e,bne_iff_ne.2 e']
     rfl
theorem scanLoop (l:List Arr) (hl2:l.length ≤ 4611686018427387904) (ha:∀ a ∈ l,a.f1.length ≤ 4611686018427387904):∀ (d i:Nat),i + d = l.length → Ev (fun k=>scan_Check.l0 k l l l.length i) (scanGo (scanN l) (prevOfA l i) (l.drop i))
 | 0,i,hd=>by
  refine Ev_succ ?_
  simp only [scan_Check.l0,if_neg (show ¬ ((i:Int) < (l.length:Int)) by omega)]
  rw [List.drop_of_length_le (by omega)]
  exact Ev.now _
 | d + 1,i,hd=>by
  have hi:i < l.length:=by omega
  have ih:=scanLoop l hl2 ha d (i + 1) (by omega)
  rw [← w_succ hi (by omega)] at ih
  have hprev:prevOfA l (i + 1) = some l[i].f0:=by simp [prevOfA,hi]
  rw [hprev] at ih
  rw [drop_cons l i hi]
  refine Ev_succ ?_
  simp only [scan_Check.l0,if_pos (show (i:Int) < (l.length:Int) by omega),if_pos (show 0 ≤ (i:Int) by omega),rdArr l i hi]
  by_cases h0:i = 0
  ·subst h0
   simp only [if_neg (show ¬ (((0:Nat):Int) > 0) by omega)]
   exact scanJ l hi hl2 0 false l[0] (ha _ (List.getElem_mem hi)) _ (fun _ _=>ih)
  ·have hp:=w_pred (show 0 < i by omega) (by omega)
   simp only [if_pos (show ((i:Int) > 0) by omega),hp,if_pos (show 0 ≤ ((i - 1:Nat):Int) by omega),if_pos (show ((i - 1:Nat):Int) < (l.length:Int) by omega),rdArr l (i - 1) (by omega),cmpS_f,Option.bind_some]
   have hb:behind (prevOfA l i) l[i].f0 = decide (cmpS l[i - 1].f0 l[i].f0 ≥ 0):=by
    simp [behind,prevOfA,h0,show i - 1 < l.length by omega]
   simp only [scanGo,hb]
   exact scanJ l (by omega) hl2 i _ l[i] (ha _ (List.getElem_mem hi)) _ (fun _ _=>ih)
theorem scanCheck_f (l:List Arr) (hl:l.length ≤ 4611686018427387904) (ha:∀ a ∈ l,a.f1.length ≤ 4611686018427387904):Ev (fun k=>scan_Check.f k l) (scanCheck l):=by
 unfold scan_Check.f scanCheck
 by_cases h:l.length > 128
 ·simp only [if_pos (show (l.length:Int) > 128 by omega),if_pos h]
  exact Ev.now _
 ·simp only [if_neg (show ¬ ((l.length:Int) > 128) by omega),if_neg h]
  exact scanLoop l hl ha l.length 0 (by omega)
def both (l:List Pos) (arrays:List Arr):Int:=if scanCheck arrays = 0 then posCheck l else scanCheck arrays
theorem both_f (l:List Pos) (r:List Arr) (hl:l.length ≤ 4611686018427387904) (hr:r.length ≤ 4611686018427387904) (ha:∀ a ∈ r,a.f1.length ≤ 4611686018427387904):Ev (fun k=>scan_both.f k l r) (both l r):=by
 unfold scan_both.f both
 refine Ev_bind (scanCheck_f r hr ha) ?_
 by_cases h:scanCheck r = 0
 ·simp only [if_pos h];exact Ev_id (posCheck_f l hl)
 ·simp only [if_neg h];exact Ev.now _
def findA (r:List Arr) (s:Ser):Option Arr:=r.find? (fun a=>eqS a.f0 s)
def ownA (r:List Arr):List Pos → Option (List Arr)
 | []=>some []
 | p :: t=>(findA r p.f0).bind fun a=>(ownA r t).map fun o=>a :: o
def foundE (acc:List Arr):Option (List Arr) → List Arr × Int
 | some o=>(acc ++ o,0)
 | none=>([],11)
theorem foundL1 (r:List Arr) (hr:r.length ≤ 4611686018427387904) (acc:List Arr) (hacc:acc.length < 1954687338268) (l:List Pos) (i:Nat) (p:Pos) (res:List Arr × Int) (hn:findA r p.f0 = none → res = ([],11))
  (h:∀ a,findA r p.f0 = some a → Ev (fun k=>scan_found.l0 k r (acc ++ [a]) l l.length (wrap64 ((i:Int) + 1))) res):∀ (d j:Nat),j + d = r.length → findA r p.f0 = findA (r.drop j) p.f0 →
  Ev (fun k=>scan_found.l1 k r acc l l.length i r r.length j p.f0.f0 p.f0.f1 p.f0.f2 p.f0.f3 p.f1 p.f2) res
 | 0,j,hd,hf=>by
  refine Ev_succ ?_
  simp only [scan_found.l1,if_neg (show ¬ ((j:Int) < (r.length:Int)) by omega)]
  rw [List.drop_of_length_le (by omega)] at hf
  rw [hn (by rw [hf];rfl)]
  exact Ev.now _
 | d + 1,j,hd,hf=>by
  have hj:j < r.length:=by omega
  refine Ev_succ ?_
  simp only [scan_found.l1,if_pos (show (j:Int) < (r.length:Int) by omega),if_pos (show 0 ≤ (j:Int) by omega),rdArr r j hj]
  rw [drop_cons r j hj] at hf
  cases he:eqS r[j].f0 p.f0 with
  | true =>
   have he2:(r[j].f0.f0.toList == p.f0.f0.toList && (r[j].f0.f1 == p.f0.f1 && (r[j].f0.f2 == p.f0.f2 && (r[j].f0.f3 == p.f0.f3)))) = true:=he
   simp only [he2,if_true,if_pos hacc]
   have hs:findA r p.f0 = some r[j]:=by rw [hf];simp only [findA,List.find?_cons,he]
   exact h _ hs
  | false =>
   have he2:(r[j].f0.f0.toList == p.f0.f0.toList && (r[j].f0.f1 == p.f0.f1 && (r[j].f0.f2 == p.f0.f2 && (r[j].f0.f3 == p.f0.f3)))) = false:=he
   simp only [he2,Bool.false_eq_true,if_false]
   have ih:=foundL1 r hr acc hacc l i p res hn h d (j + 1) (by omega) (by rw [hf];simp only [findA,List.find?_cons,he])
   rw [← w_succ hj (by omega)] at ih
   exact ih
theorem foundLoop (r:List Arr) (hr:r.length ≤ 4611686018427387904) (l:List Pos) (hl:l.length ≤ 1000000000):∀ (d i:Nat) (acc:List Arr),i + d = l.length → acc.length = i → Ev (fun k=>scan_found.l0 k r acc l l.length i) (foundE acc (ownA r (l.drop i)))
 | 0,i,acc,hd,hacc=>by
  refine Ev_succ ?_
  simp only [scan_found.l0,if_neg (show ¬ ((i:Int) < (l.length:Int)) by omega)]
  rw [List.drop_of_length_le (by omega)]
  simp only [ownA,foundE,List.append_nil]
  exact Ev.now _
 | d + 1,i,acc,hd,hacc=>by
  have hi:i < l.length:=by omega
  refine Ev_succ ?_
  simp only [scan_found.l0,if_pos (show (i:Int) < (l.length:Int) by omega),if_pos (show 0 ≤ (i:Int) by omega),rdPos l i hi]
  rw [drop_cons l i hi]
  refine foundL1 r hr acc (by omega) l i l[i] _ ?_ ?_ r.length 0 (by omega) (by simp)
  ·intro hn
   simp only [ownA,hn,Option.bind_none,foundE]
  ·intro a ha
   have ih:=foundLoop r hr l hl d (i + 1) (acc ++ [a]) (by omega) (by simp [hacc])
   rw [← w_succ hi (by omega)] at ih
   simp only [ownA,ha,Option.bind_some]
   cases ho:ownA r (l.drop (i + 1)) with
   | none=>rw [ho] at ih;exact ih
   | some o=>rw [ho] at ih;simpa [foundE] using ih
def found (l:List Pos) (r:List Arr):List Arr × Int:=if both l r = 0 then foundE [] (ownA r l) else ([],both l r)
theorem found_f (l:List Pos) (r:List Arr) (hl:l.length ≤ 4611686018427387904) (hr:r.length ≤ 4611686018427387904) (ha:∀ a ∈ r,a.f1.length ≤ 4611686018427387904):Ev (fun k=>scan_found.f k l r) (found l r):=by
 unfold scan_found.f found
 refine Ev_bind (both_f l r hl hr ha) ?_
 by_cases h:both l r = 0
 ·have h128:l.length ≤ 128:=by
   unfold both at h
   by_cases h1:scanCheck r = 0
   ·rw [if_pos h1] at h
    unfold posCheck at h
    by_cases h2:l.length > 128
    ·rw [if_pos h2] at h;omega
    ·omega
   ·rw [if_neg h1] at h;exact absurd h h1
  simp only [if_pos h]
  exact foundLoop r hr l (by omega) l.length 0 [] (by omega) rfl
 ·simp only [if_neg h];exact Ev.now _
end Go.Proofs.Ytbgeceiddcokmaa.P
end
section
namespace Go.Proofs.Ytbgeceiddcokmaa.P
set_option linter.unusedVariables false
set_option linter.unusedSimpArgs false
open Go.RowKit Go.Proofs.YtbgeceiddcokmaaW.PrintWords Go.Proofs.YtbgeceiddcokmaaW.PrintMore Go.Proofs.Ytbgeceiddcokmaa.X
structure PGood (l:List Pos) (o:List Arr) (n:Nat):Prop where
 len:o.length = l.length
 few:l.length ≤ 128
 lots:∀ p ∈ l,lots p.f1 = true ∧ lots p.f2 = true
 arr:∀ a ∈ o,a.f1.length = n ∧ (∀ x ∈ a.f1,lossBad x = false) ∧ deltaBad a.f2 = false
 scen:n ≤ 32
theorem posGo_zero:∀ (l:List Pos) (prev:Option Ser),posGo prev l = 0 → ∀ p ∈ l,posBad p = false
 | [],_,_,p,hp=>by simp at hp
 | q :: t,prev,h,p,hp=>by
  unfold posGo at h
  by_cases h1:behind prev q.f0 = true
  ·rw [if_pos h1] at h;omega
  ·rw [if_neg h1] at h
   by_cases h2:posBad q = true
   ·rw [if_pos h2] at h;omega
   ·rw [if_neg h2] at h
    rcases List.mem_cons.1 hp with rfl|hp
    ·simpa using h2
    ·exact posGo_zero t _ h p hp
theorem posCheck_zero {l:List Pos} (h:posCheck l = 0):l.length ≤ 128 ∧ ∀ p ∈ l,posBad p = false:=by
 unfold posCheck at h
 by_cases h1:l.length > 128
 ·rw [if_pos h1] at h;omega
 ·rw [if_neg h1] at h;exact ⟨by omega,posGo_zero l none h⟩
theorem posBad_lots {p:Pos} (h:posBad p = false):lots p.f1 = true ∧ lots p.f2 = true:=by
 simp only [posBad,Bool.or_eq_false_iff,Bool.not_eq_false'] at h
 exact ⟨h.1.1,h.1.2⟩
theorem scanGo_zero (n:Nat):∀ (l:List Arr) (prev:Option Ser),scanGo n prev l = 0 → ∀ a ∈ l,arrErr n a = 0
 | [],_,_,p,hp=>by simp at hp
 | q :: t,prev,h,p,hp=>by
  unfold scanGo at h
  by_cases h1:behind prev q.f0 = true
  ·rw [if_pos h1] at h;omega
  ·rw [if_neg h1] at h
   by_cases h2:arrErr n q ≠ 0
   ·rw [if_pos h2] at h;exact absurd h h2
   ·rw [if_neg h2] at h
    rcases List.mem_cons.1 hp with rfl|hp
    ·exact Decidable.not_not.1 h2
    ·exact scanGo_zero n t _ h p hp
theorem scanCheck_zero {l:List Arr} (h:scanCheck l = 0):l.length ≤ 128 ∧ ∀ a ∈ l,arrErr (scanN l) a = 0:=by
 unfold scanCheck at h
 by_cases h1:l.length > 128
 ·rw [if_pos h1] at h;omega
 ·rw [if_neg h1] at h;exact ⟨by omega,scanGo_zero _ l none h⟩
theorem arrErr_zero {n:Nat} {a:Arr} (h:arrErr n a = 0):a.f1.length = n ∧ n ≤ 32 ∧ 1 ≤ n ∧ (∀ x ∈ a.f1,lossBad x = false) ∧ deltaBad a.f2 = false:=by
 unfold arrErr at h
 by_cases h1:lenBad n a.f1.length = true
 ·rw [if_pos h1] at h;omega
 ·rw [if_neg h1] at h
  by_cases h2:a.f1.any lossBad = true
  ·rw [if_pos h2] at h;omega
  ·rw [if_neg h2] at h
   by_cases h3:deltaBad a.f2 = true
   ·rw [if_pos h3] at h;omega
   ·simp only [lenBad,Bool.or_eq_true,decide_eq_true_eq,Bool.not_eq_true',decide_eq_false_iff_not,not_or] at h1
    refine ⟨by omega,by omega,by omega,fun x hx=>?_,by simpa using h3⟩
    have h2':a.f1.any lossBad = false:=by simpa using h2
    have:=List.any_eq_false.1 h2' x hx
    simpa using this
theorem ownA_len (r:List Arr):∀ (l:List Pos) (o:List Arr),ownA r l = some o → o.length = l.length ∧ ∀ a ∈ o,a ∈ r
 | [],o,h=>by
  simp only [ownA,Option.some.injEq] at h
  subst h
  simp
 | p :: t,o,h=>by
  simp only [ownA,Option.bind_eq_some_iff,Option.map_eq_some_iff] at h
  obtain ⟨a,ha,o',ho,rfl⟩:=h
  obtain ⟨h1,h2⟩:=ownA_len r t o' ho
  refine ⟨by simp [h1],fun b hb=>?_⟩
  rcases List.mem_cons.1 hb with rfl|hb
  ·exact List.mem_of_find?_eq_some ha
  ·exact h2 b hb
theorem both_zero {l:List Pos} {r:List Arr} (h:both l r = 0):scanCheck r = 0 ∧ posCheck l = 0:=by
 unfold both at h
 by_cases h1:scanCheck r = 0
 ·rw [if_pos h1] at h;exact ⟨h1,h⟩
 ·rw [if_neg h1] at h;exact absurd h h1
theorem found_zero {l:List Pos} {r:List Arr} (h:(found l r).2 = 0):both l r = 0 ∧ ownA r l = some (found l r).1:=by
 unfold found at h ⊢
 by_cases h1:both l r = 0
 ·rw [if_pos h1] at h ⊢
  cases ho:ownA r l with
  | none=>rw [ho] at h;simp [foundE] at h
  | some o=>exact ⟨h1,by simp [foundE]⟩
 ·rw [if_neg h1] at h;exact absurd h h1
theorem found_good {l:List Pos} {r:List Arr} (h:(found l r).2 = 0):PGood l (found l r).1 (scanN r):=by
 obtain ⟨h1,ho⟩:=found_zero h
 obtain ⟨hs,hp⟩:=both_zero h1
 obtain ⟨hl,hb⟩:=posCheck_zero hp
 obtain ⟨hr,ha⟩:=scanCheck_zero hs
 obtain ⟨ho1,ho2⟩:=ownA_len r l _ ho
 refine ⟨ho1,hl,fun p hp=>posBad_lots (hb p hp),fun a hao=>?_,?_⟩
 ·have:=arrErr_zero (ha a (ho2 a hao));exact ⟨this.1,this.2.2.2.1,this.2.2.2.2⟩
 ·cases r with
  | nil=>simp [scanN]
  | cons a t=>exact (arrErr_zero (ha a (by simp))).2.1
theorem found_bad {l:List Pos} {r:List Arr} (h:(found l r).2 ≠ 0):(found l r).1 = []:=by
 unfold found at h ⊢
 by_cases h1:both l r = 0
 ·rw [if_pos h1] at h ⊢
  cases ho:ownA r l with
  | none=>rfl
  | some o=>rw [ho] at h;simp [foundE] at h
 ·rw [if_neg h1]
theorem lots_rng {n:Int} (h:lots n = true):0 ≤ n ∧ n ≤ 1048576:=by simpa [lots] using h
theorem deltaBad_rng {x:Int} (h:deltaBad x = false):-1000 ≤ x ∧ x ≤ 1000:=by
 simp only [deltaBad,Bool.or_eq_false_iff,decide_eq_false_iff_not] at h;omega
theorem mul_rng {a b A B:Int} (ha:-A ≤ a ∧ a ≤ A) (hb:-B ≤ b ∧ b ≤ B):-(A * B) ≤ a * b ∧ a * b ≤ A * B:=by
 have hA:0 ≤ A:=by omega
 have hB:0 ≤ B:=by omega
 have h1:a.natAbs ≤ A.toNat:=by omega
 have h2:b.natAbs ≤ B.toNat:=by omega
 have h3:a.natAbs * b.natAbs ≤ A.toNat * B.toNat:=Nat.mul_le_mul h1 h2
 have h4:(a * b).natAbs ≤ A.toNat * B.toNat:=by rw [Int.natAbs_mul];exact h3
 have h5:((A.toNat * B.toNat:Nat):Int) = A * B:=by rw [Int.natCast_mul,Int.toNat_of_nonneg hA,Int.toNat_of_nonneg hB]
 generalize A.toNat * B.toNat = m at h4 h5
 generalize a * b = x at *
 generalize A * B = y at *
 omega
def deltaOf:List Pos → List Arr → Int
 | p :: t,a :: o=>(p.f1 - p.f2) * a.f2 + deltaOf t o
 | _,_=>0
theorem deltaL0 (l:List Pos) (o:List Arr) (n:Nat) (hg:PGood l o n) (e:Int):∀ (d i:Nat) (acc:Int),i + d = l.length → -(1048576000 * (i:Int)) ≤ acc → acc ≤ 1048576000 * (i:Int) →
  Ev (fun k=>scan_Delta.l0 k l acc e o (o.length:Int) i) (acc + deltaOf (l.drop i) (o.drop i),e)
 | 0,i,acc,hd,h1,h2=>by
  have:=hg.len
  rw [List.drop_of_length_le (by omega)]
  refine Ev_succ ?_
  simp only [scan_Delta.l0,if_neg (show ¬ ((i:Int) < (o.length:Int)) by omega),deltaOf,Int.add_zero]
  exact Ev.now _
 | d + 1,i,acc,hd,h1,h2=>by
  have hi:i < l.length:=by omega
  have hlen:=hg.len
  have hio:i < o.length:=by omega
  have hf:=hg.few
  have hp:=hg.lots l[i] (List.getElem_mem hi)
  have ha:=hg.arr o[i] (List.getElem_mem hio)
  have b1:=lots_rng hp.1
  have b2:=lots_rng hp.2
  have b3:=deltaBad_rng ha.2.2
  have e1:wrap64 (l[i].f1 - l[i].f2) = l[i].f1 - l[i].f2:=w_id (by omega) (by omega)
  have b4:=mul_rng (A:=1048576) (B:=1000) (a:=l[i].f1 - l[i].f2) (b:=o[i].f2) (by omega) (by omega)
  have e2:wrap64 ((l[i].f1 - l[i].f2) * o[i].f2) = (l[i].f1 - l[i].f2) * o[i].f2:=w_id (by omega) (by omega)
  have e3:wrap64 (acc + (l[i].f1 - l[i].f2) * o[i].f2) = acc + (l[i].f1 - l[i].f2) * o[i].f2:=w_id (by omega) (by omega)
  refine Ev_succ ?_
  simp only [scan_Delta.l0,if_pos (show (i:Int) < (o.length:Int) by omega),if_pos (show 0 ≤ (i:Int) by omega),if_pos (show (i:Int) < (l.length:Int) by omega),rdPos l i hi,rdArr o i hio,e1,e2,e3,w_succ hi (by omega)]
  have ih:=deltaL0 l o n hg e d (i + 1) (acc + (l[i].f1 - l[i].f2) * o[i].f2) (by omega) (by omega) (by omega)
  rw [drop_cons l i hi,drop_cons o i hio]
  simp only [deltaOf]
  rw [Int.add_assoc] at ih
  rw [← Int.add_assoc] at ih ⊢
  exact ih
def delta (l:List Pos) (r:List Arr):Int × Int:=if (found l r).2 = 0 then (deltaOf l (found l r).1,0) else (0,(found l r).2)
theorem delta_f (l:List Pos) (r:List Arr) (hl:l.length ≤ 4611686018427387904) (hr:r.length ≤ 4611686018427387904) (ha:∀ a ∈ r,a.f1.length ≤ 4611686018427387904):Ev (fun k=>scan_Delta.f k l r) (delta l r):=by
 unfold scan_Delta.f delta
 refine Ev_bind (found_f l r hl hr ha) ?_
 by_cases h:(found l r).2 = 0
 ·simp only [if_pos h]
  have:=deltaL0 l _ _ (found_good h) (found l r).2 l.length 0 0 (by omega) (by omega) (by omega)
  simp only [Int.zero_add,List.drop_zero,h] at this
  simp only [h]
  exact this
 ·simp only [if_neg h,found_bad h]
  refine Ev_succ ?_
  simp only [scan_Delta.l0,List.length_nil]
  exact Ev.now _
end Go.Proofs.Ytbgeceiddcokmaa.P
end
section
namespace Go.Proofs.Ytbgeceiddcokmaa.P
set_option linter.unusedVariables false
set_option linter.unusedSimpArgs false
open Go.RowKit Go.Proofs.YtbgeceiddcokmaaW.PrintWords Go.Proofs.YtbgeceiddcokmaaW.PrintMore Go.Proofs.Ytbgeceiddcokmaa.X
theorem oneL0 (a:Arr) (ha:a.f1.length ≤ 4611686018427387904):∀ (d j:Nat),j + d = a.f1.length →
  Ev (fun k=>contangoref23_one.l0 k j a.f0.f0 a.f0.f1 a.f0.f2 a.f0.f3 a.f1 a.f2) (if (a.f1.drop j).any lossBad = true then 3 else if deltaBad a.f2 = true then 2 else 0)
 | 0,j,hd=>by
  refine Ev_succ ?_
  rw [List.drop_of_length_le (by omega)]
  simp only [contangoref23_one.l0,if_neg (show ¬ ((j:Int) < (a.f1.length:Int)) by omega),List.any_nil,Bool.false_eq_true,if_false]
  by_cases c1:a.f2 < -1000
  ·simp only [if_pos c1,deltaBad,decide_eq_true c1,Bool.true_or,if_true];exact Ev.now _
  ·by_cases c2:a.f2 > 1000
   ·simp only [if_neg c1,if_pos c2,deltaBad,decide_eq_true c2,Bool.or_true,if_true];exact Ev.now _
   ·have hb:deltaBad a.f2 = false:=by simp only [deltaBad,decide_eq_false c1,decide_eq_false c2];rfl
    simp only [if_neg c1,if_neg c2,hb,Bool.false_eq_true,if_false]
    exact Ev.now _
 | d + 1,j,hd=>by
  have hj:j < a.f1.length:=by omega
  rw [drop_cons a.f1 j hj]
  refine Ev_succ ?_
  simp only [contangoref23_one.l0,if_pos (show (j:Int) < (a.f1.length:Int) by omega),if_pos (show 0 ≤ (j:Int) by omega),rd_nat a.f1 j hj,List.any_cons]
  by_cases c1:a.f1[j] < -68719476736
  ·simp only [if_pos c1,lossBad,decide_eq_true c1,Bool.true_or,if_true];exact Ev.now _
  ·by_cases c2:a.f1[j] > 68719476736
   ·simp only [if_neg c1,if_pos c2,lossBad,decide_eq_true c2,Bool.true_or,Bool.or_true,if_true];exact Ev.now _
   ·have hb:lossBad a.f1[j] = false:=by simp only [lossBad,decide_eq_false c1,decide_eq_false c2];rfl
    have ih:=oneL0 a ha d (j + 1) (by omega)
    rw [← w_succ hj (by omega)] at ih
    simp only [if_neg c1,if_neg c2,hb,Bool.false_or]
    exact ih
theorem one_f (a:Arr) (n:Nat) (ha:a.f1.length ≤ 4611686018427387904):Ev (fun k=>contangoref23_one.f k a.f0.f0 a.f0.f1 a.f0.f2 a.f0.f3 a.f1 a.f2 n) (arrErr n a):=by
 have hj:∀ b,lenBad n a.f1.length = b → Ev (fun k=>contangoref23_one.j0 k b a.f0.f0 a.f0.f1 a.f0.f2 a.f0.f3 a.f1 a.f2) (arrErr n a):=by
  intro b hb
  refine Ev_succ ?_
  unfold arrErr
  rw [hb]
  cases b with
  | true=>simp only [contangoref23_one.j0,if_true];exact Ev.now _
  | false =>
   simp only [contangoref23_one.j0,Bool.false_eq_true,if_false]
   exact oneL0 a ha a.f1.length 0 (by omega)
 unfold contangoref23_one.f
 by_cases c1:(a.f1.length:Int) < 1
 ·simp only [if_pos c1]
  exact hj true (by have e1:decide (a.f1.length < 1) = true:=decide_eq_true (by omega);simp only [lenBad,e1,Bool.true_or])
 ·by_cases c2:(a.f1.length:Int) > 32
  ·simp only [if_neg c1,if_pos c2]
   exact hj true (by have e1:decide (a.f1.length > 32) = true:=decide_eq_true (by omega);simp only [lenBad,e1,Bool.true_or,Bool.or_true])
  ·simp only [if_neg c1,if_neg c2]
   refine hj _ ?_
   have e1:decide (a.f1.length < 1) = false:=decide_eq_false (by omega)
   have e2:decide (a.f1.length > 32) = false:=decide_eq_false (by omega)
   simp only [lenBad,e1,e2,Bool.false_or]
   by_cases e:a.f1.length = n
   ·simp [e]
   ·have e':¬ ((a.f1.length:Int) = (n:Int)):=by omega
    rw [decide_eq_false e,bne_iff_ne.2 e']
    rfl
theorem refScanLoop (l:List Arr) (hl2:l.length ≤ 4611686018427387904) (ha:∀ a ∈ l,a.f1.length ≤ 4611686018427387904):∀ (d i:Nat),i + d = l.length → Ev (fun k=>contangoref23_Check.l0 k l i) (scanGo (scanN l) (prevOfA l i) (l.drop i))
 | 0,i,hd=>by
  refine Ev_succ ?_
  simp only [contangoref23_Check.l0,if_neg (show ¬ ((i:Int) < (l.length:Int)) by omega)]
  rw [List.drop_of_length_le (by omega)]
  exact Ev.now _
 | d + 1,i,hd=>by
  have hi:i < l.length:=by omega
  have ih:=refScanLoop l hl2 ha d (i + 1) (by omega)
  rw [← w_succ hi (by omega)] at ih
  have hprev:prevOfA l (i + 1) = some l[i].f0:=by simp [prevOfA,hi]
  rw [hprev] at ih
  rw [drop_cons l i hi]
  have hn:(((rd_T91 l 0).f1).length:Int) = (scanN l:Int):=by
   cases l with
   | nil=>simp at hi
   | cons x t=>rfl
  have hj:∀ b,Ev (fun k=>contangoref23_Check.j1 k l i b) (if b = true then 19 else if arrErr (scanN l) l[i] ≠ 0 then arrErr (scanN l) l[i] else scanGo (scanN l) (some l[i].f0) (l.drop (i + 1))):=by
   intro b
   refine Ev_succ ?_
   cases b with
   | true=>simp only [contangoref23_Check.j1,if_true];exact Ev.now _
   | false =>
    simp only [contangoref23_Check.j1,Bool.false_eq_true,if_false,if_pos (show 0 ≤ (i:Int) by omega),if_pos (show (i:Int) < (l.length:Int) by omega),if_pos (show 0 < (l.length:Int) by omega),rdArr l i hi,hn]
    refine Ev_bind (one_f l[i] (scanN l) (ha _ (List.getElem_mem hi))) ?_
    by_cases h:arrErr (scanN l) l[i] = 0
    ·simp only [if_pos h,if_neg (show ¬ (arrErr (scanN l) l[i] ≠ 0) by simp [h])]
     exact ih
    ·simp only [if_neg h,if_pos (show arrErr (scanN l) l[i] ≠ 0 from h)]
     exact Ev.now _
  refine Ev_succ ?_
  simp only [contangoref23_Check.l0,if_pos (show (i:Int) < (l.length:Int) by omega),if_pos (show 0 ≤ (i:Int) by omega),rdArr l i hi]
  by_cases h0:i = 0
  ·subst h0
   simp only [if_neg (show ¬ (((0:Nat):Int) > 0) by omega)]
   exact hj false
  ·have hp:=w_pred (show 0 < i by omega) (by omega)
   simp only [if_pos (show ((i:Int) > 0) by omega),hp,if_pos (show 0 ≤ ((i - 1:Nat):Int) by omega),if_pos (show ((i - 1:Nat):Int) < (l.length:Int) by omega),rdArr l (i - 1) (by omega),cmpR_f,Option.bind_some]
   have hb:behind (prevOfA l i) l[i].f0 = decide (cmpS l[i - 1].f0 l[i].f0 ≥ 0):=by
    simp [behind,prevOfA,h0,show i - 1 < l.length by omega]
   simp only [scanGo,hb]
   exact hj _
theorem refScanCheck_f (l:List Arr) (hl:l.length ≤ 4611686018427387904) (ha:∀ a ∈ l,a.f1.length ≤ 4611686018427387904):Ev (fun k=>contangoref23_Check.f k l) (scanCheck l):=by
 unfold contangoref23_Check.f scanCheck
 by_cases h:l.length > 128
 ·simp only [if_pos (show (l.length:Int) > 128 by omega),if_pos h]
  exact Ev.now _
 ·simp only [if_neg (show ¬ ((l.length:Int) > 128) by omega),if_neg h]
  exact refScanLoop l hl ha l.length 0 (by omega)
theorem findR_loop (r:List Arr) (hr:r.length ≤ 4611686018427387904) (s:Ser):∀ (d j:Nat),j + d = r.length →
  (∀ a,findA (r.drop j) s = some a → ∃ (m:Nat) (hm:m < r.length),r[m] = a ∧ Ev (fun k=>contangoref23_find.l0 k r j s.f0 s.f1 s.f2 s.f3) (m:Int)) ∧
  (findA (r.drop j) s = none → Ev (fun k=>contangoref23_find.l0 k r j s.f0 s.f1 s.f2 s.f3) (-1))
 | 0,j,hd=>by
  rw [List.drop_of_length_le (by omega)]
  refine ⟨fun a h=>by simp [findA] at h,fun _=>Ev_succ ?_⟩
  simp only [contangoref23_find.l0,if_neg (show ¬ ((j:Int) < (r.length:Int)) by omega)]
  exact Ev.now _
 | d + 1,j,hd=>by
  have hj:j < r.length:=by omega
  obtain ⟨i1,i2⟩:=findR_loop r hr s d (j + 1) (by omega)
  rw [drop_cons r j hj]
  cases he:eqS r[j].f0 s with
  | true =>
   have he2:(r[j].f0.f0.toList == s.f0.toList && (r[j].f0.f1 == s.f1 && (r[j].f0.f2 == s.f2 && (r[j].f0.f3 == s.f3)))) = true:=he
   refine ⟨fun a h=>⟨j,hj,?_,Ev_succ ?_⟩,fun h=>?_⟩
   ·simp only [findA,List.find?_cons,he,Option.some.injEq] at h;exact h
   ·simp only [contangoref23_find.l0,if_pos (show (j:Int) < (r.length:Int) by omega),if_pos (show 0 ≤ (j:Int) by omega),rdArr r j hj,he2,if_true]
    exact Ev.now _
   ·simp only [findA,List.find?_cons,he] at h;cases h
  | false =>
   have he2:(r[j].f0.f0.toList == s.f0.toList && (r[j].f0.f1 == s.f1 && (r[j].f0.f2 == s.f2 && (r[j].f0.f3 == s.f3)))) = false:=he
   have hf:findA (r[j] :: r.drop (j + 1)) s = findA (r.drop (j + 1)) s:=by simp only [findA,List.find?_cons,he]
   rw [hf]
   have st:∀ x,Ev (fun k=>contangoref23_find.l0 k r ((j + 1:Nat):Int) s.f0 s.f1 s.f2 s.f3) x → Ev (fun k=>contangoref23_find.l0 k r j s.f0 s.f1 s.f2 s.f3) x:=fun x hx=>by
    refine Ev_succ ?_
    simp only [contangoref23_find.l0,if_pos (show (j:Int) < (r.length:Int) by omega),if_pos (show 0 ≤ (j:Int) by omega),rdArr r j hj,he2,Bool.false_eq_true,if_false,w_succ hj (by omega)]
    exact hx
   refine ⟨fun a h=>?_,fun h=>st _ (i2 h)⟩
   obtain ⟨m,hm,e,hv⟩:=i1 a h
   exact ⟨m,hm,e,st _ hv⟩
theorem findR_some (r:List Arr) (hr:r.length ≤ 4611686018427387904) (s:Ser) (a:Arr) (h:findA r s = some a):∃ (m:Nat) (hm:m < r.length),r[m] = a ∧ Ev (fun k=>contangoref23_find.f k r s.f0 s.f1 s.f2 s.f3) (m:Int):=by
 have:=(findR_loop r hr s r.length 0 (by omega)).1 a (by simpa using h)
 exact this
theorem findR_none (r:List Arr) (hr:r.length ≤ 4611686018427387904) (s:Ser) (h:findA r s = none):Ev (fun k=>contangoref23_find.f k r s.f0 s.f1 s.f2 s.f3) (-1):=by
 have:=(findR_loop r hr s r.length 0 (by omega)).2 (by simpa using h)
 exact this
theorem checksLoop (l:List Pos) (r:List Arr) (hl:l.length ≤ 4611686018427387904) (hr:r.length ≤ 4611686018427387904):∀ (d i:Nat),i + d = l.length → Ev (fun k=>contangoref23_checks.l0 k l r i) (foundE [] (ownA r (l.drop i))).2
 | 0,i,hd=>by
  refine Ev_succ ?_
  rw [List.drop_of_length_le (by omega)]
  simp only [contangoref23_checks.l0,if_neg (show ¬ ((i:Int) < (l.length:Int)) by omega),ownA,foundE]
  exact Ev.now _
 | d + 1,i,hd=>by
  have hi:i < l.length:=by omega
  have ih:=checksLoop l r hl hr d (i + 1) (by omega)
  rw [← w_succ hi (by omega)] at ih
  rw [drop_cons l i hi]
  refine Ev_succ ?_
  simp only [contangoref23_checks.l0,if_pos (show (i:Int) < (l.length:Int) by omega),if_pos (show 0 ≤ (i:Int) by omega),rdPos l i hi]
  cases hf:findA r l[i].f0 with
  | none =>
   refine Ev_bind (findR_none r hr _ hf) ?_
   simp only [if_pos (show (-1:Int) < 0 by omega),ownA,hf,Option.bind_none,foundE]
   exact Ev.now _
  | some a =>
   obtain ⟨m,hm,e,hv⟩:=findR_some r hr _ a hf
   refine Ev_bind hv ?_
   simp only [if_neg (show ¬ ((m:Int) < 0) by omega),ownA,hf,Option.bind_some]
   cases ho:ownA r (l.drop (i + 1)) with
   | none=>rw [ho] at ih;exact ih
   | some o=>rw [ho] at ih;exact ih
theorem checks_f (l:List Pos) (r:List Arr) (hl:l.length ≤ 4611686018427387904) (hr:r.length ≤ 4611686018427387904) (ha:∀ a ∈ r,a.f1.length ≤ 4611686018427387904):Ev (fun k=>contangoref23_checks.f k l r) (found l r).2:=by
 unfold contangoref23_checks.f found both
 refine Ev_bind (refScanCheck_f r hr ha) ?_
 by_cases h:scanCheck r = 0
 ·simp only [if_pos h]
  refine Ev_bind (refPosCheck_f l hl) ?_
  by_cases h2:posCheck l = 0
  ·simp only [if_pos h2]
   have:=checksLoop l r hl hr l.length 0 (by omega)
   simpa using this
  ·simp only [if_neg h2];exact Ev.now _
 ·simp only [if_neg h];exact Ev.now _
theorem ownA_get (r:List Arr):∀ (l:List Pos) (o:List Arr),ownA r l = some o → ∀ (i:Nat) (h:i < l.length) (h':i < o.length),findA r l[i].f0 = some o[i]
 | [],o,h,i,hi,_=>by simp at hi
 | p :: t,o,h,i,hi,hi'=>by
  simp only [ownA,Option.bind_eq_some_iff,Option.map_eq_some_iff] at h
  obtain ⟨a,ha,o',ho,rfl⟩:=h
  cases i with
  | zero=>exact ha
  | succ j=>exact ownA_get r t o' ho j (by simpa using hi) (by simpa using hi')
end Go.Proofs.Ytbgeceiddcokmaa.P
end
section
namespace Go.Proofs.Ytbgeceiddcokmaa.P
set_option linter.unusedVariables false
set_option linter.unusedSimpArgs false
open Go.RowKit Go.Proofs.YtbgeceiddcokmaaW.PrintWords Go.Proofs.YtbgeceiddcokmaaW.PrintMore Go.Proofs.Ytbgeceiddcokmaa.X
theorem refDeltaL0 (l:List Pos) (r:List Arr) (hr:r.length ≤ 4611686018427387904) (o:List Arr) (ho:ownA r l = some o) (n:Nat) (hg:PGood l o n):∀ (d i:Nat) (acc:Int),i + d = l.length → -(1048576000 * (i:Int)) ≤ acc → acc ≤ 1048576000 * (i:Int) →
  Ev (fun k=>contangoref23_Delta.l0 k l r acc i) (acc + deltaOf (l.drop i) (o.drop i),0)
 | 0,i,acc,hd,h1,h2=>by
  have:=hg.len
  rw [List.drop_of_length_le (by omega)]
  refine Ev_succ ?_
  simp only [contangoref23_Delta.l0,if_neg (show ¬ ((i:Int) < (l.length:Int)) by omega),deltaOf,Int.add_zero]
  exact Ev.now _
 | d + 1,i,acc,hd,h1,h2=>by
  have hi:i < l.length:=by omega
  have hlen:=hg.len
  have hio:i < o.length:=by omega
  have hf:=hg.few
  have hp:=hg.lots l[i] (List.getElem_mem hi)
  have ha:=hg.arr o[i] (List.getElem_mem hio)
  have b1:=lots_rng hp.1
  have b2:=lots_rng hp.2
  have b3:=deltaBad_rng ha.2.2
  have e1:wrap64 (l[i].f1 - l[i].f2) = l[i].f1 - l[i].f2:=w_id (by omega) (by omega)
  have b4:=mul_rng (A:=1048576) (B:=1000) (a:=l[i].f1 - l[i].f2) (b:=o[i].f2) (by omega) (by omega)
  have e2:wrap64 ((l[i].f1 - l[i].f2) * o[i].f2) = (l[i].f1 - l[i].f2) * o[i].f2:=w_id (by omega) (by omega)
  have e3:wrap64 (acc + (l[i].f1 - l[i].f2) * o[i].f2) = acc + (l[i].f1 - l[i].f2) * o[i].f2:=w_id (by omega) (by omega)
  obtain ⟨m,hm,em,hv⟩:=findR_some r hr _ _ (ownA_get r l o ho i hi hio)
  have ih:=refDeltaL0 l r hr o ho n hg d (i + 1) (acc + (l[i].f1 - l[i].f2) * o[i].f2) (by omega) (by omega) (by omega)
  refine Ev_succ ?_
  simp only [contangoref23_Delta.l0,if_pos (show (i:Int) < (l.length:Int) by omega),if_pos (show 0 ≤ (i:Int) by omega),rdPos l i hi]
  refine Ev_bind hv ?_
  simp only [if_pos (show 0 ≤ (m:Int) by omega),if_pos (show (m:Int) < (r.length:Int) by omega),rdArr r m hm,em,e1,e2,e3,w_succ hi (by omega)]
  rw [drop_cons l i hi,drop_cons o i hio]
  simp only [deltaOf]
  rw [Int.add_assoc] at ih
  rw [← Int.add_assoc] at ih ⊢
  exact ih
theorem refDelta_f (l:List Pos) (r:List Arr) (hl:l.length ≤ 4611686018427387904) (hr:r.length ≤ 4611686018427387904) (ha:∀ a ∈ r,a.f1.length ≤ 4611686018427387904):Ev (fun k=>contangoref23_Delta.f k l r) (delta l r):=by
 unfold contangoref23_Delta.f delta
 refine Ev_bind (checks_f l r hl hr ha) ?_
 by_cases h:(found l r).2 = 0
 ·simp only [if_pos h]
  obtain ⟨_,ho⟩:=found_zero h
  have:=refDeltaL0 l r hr _ ho _ (found_good h) l.length 0 0 (by omega) (by simp) (by simp)
  simp only [List.drop_zero,Int.zero_add] at this
  exact this
 ·simp only [if_neg h]
  exact Ev.now _
end Go.Proofs.Ytbgeceiddcokmaa.P
end
section
namespace Go.Proofs.Ytbgeceiddcokmaa.P
set_option linter.unusedVariables false
set_option linter.unusedSimpArgs false
open Go.RowKit Go.Proofs.YtbgeceiddcokmaaW.PrintWords Go.Proofs.YtbgeceiddcokmaaW.PrintMore Go.Proofs.Ytbgeceiddcokmaa.X
def sameN (n:ByteArray) (l:List Pos):List Pos:=l.filter (fun p=>p.f0.f0.toList == n.toList)
def isN (prev:Option ByteArray) (n:ByteArray):Bool:=match prev with|some q=>q.toList == n.toList|none=>false
def heads:Option ByteArray → List Pos → List ByteArray
 | _,[]=>[]
 | prev,p :: t=>if isN prev p.f0.f0 = true then heads (some p.f0.f0) t else p.f0.f0 :: heads (some p.f0.f0) t
def prods (l:List Pos):List ByteArray × List (List Pos):=if posCheck l = 0 then (heads none l,(heads none l).map fun n=>sameN n l) else ([],[])
def prevN (l:List Pos) (i:Nat):Option ByteArray:=if i = 0 then none else (l[i - 1]?).map (·.f0.f0)
theorem prevN_succ (l:List Pos) (i:Nat) (hi:i < l.length):prevN l (i + 1) = some l[i].f0.f0:=by simp [prevN,hi]
theorem heads_len:∀ (l:List Pos) (p:Option ByteArray),(heads p l).length ≤ l.length
 | [],_=>by simp [heads]
 | q :: t,p=>by
  unfold heads
  have:=heads_len t (some q.f0.f0)
  split <;> simp <;> omega
theorem sameN_len (n:ByteArray) (l:List Pos):(sameN n l).length ≤ l.length:=List.length_filter_le _ _
theorem sameN_snoc (n:ByteArray) (l:List Pos) (p:Pos):sameN n (l ++ [p]) = if p.f0.f0.toList = n.toList then sameN n l ++ [p] else sameN n l:=by
 unfold sameN
 rw [List.filter_append]
 by_cases h:p.f0.f0.toList = n.toList
 ·rw [if_pos h];simp [h]
 ·rw [if_neg h];simp [h]
theorem refL1 (l:List Pos) (hl:l.length ≤ 128) (ns:List ByteArray) (ps:List (List Pos)) (i:Nat) (hi:i < l.length) (hn:ns.length < 200) (hp:ps.length < 200) (r:List ByteArray × List (List Pos))
  (h:Ev (fun k=>contangoref23_Products.l0 k l (ns ++ [l[i].f0.f0]) (ps ++ [sameN l[i].f0.f0 l]) (wrap64 ((i:Int) + 1))) r):∀ (d j:Nat),j + d = l.length →
  Ev (fun k=>contangoref23_Products.l1 k l ns ps i (sameN l[i].f0.f0 (l.take j)) j) r
 | 0,j,hd=>by
  refine Ev_succ ?_
  simp only [contangoref23_Products.l1,if_neg (show ¬ ((j:Int) < (l.length:Int)) by omega),if_pos (show 0 ≤ (i:Int) by omega),if_pos (show (i:Int) < (l.length:Int) by omega),if_pos (show ns.length < 8796093022208 by omega),if_pos (show ps.length < 5864062014805 by omega),rdPos l i hi]
  rw [List.take_of_length_le (by omega)]
  exact h
 | d + 1,j,hd=>by
  have hj:j < l.length:=by omega
  have ih:=refL1 l hl ns ps i hi hn hp r h d (j + 1) (by omega)
  rw [List.take_succ_eq_append_getElem hj,sameN_snoc] at ih
  have hlen:(sameN l[i].f0.f0 (l.take j)).length < 2513169434916:=by
   have:=sameN_len l[i].f0.f0 (l.take j)
   rw [List.length_take] at this
   omega
  refine Ev_succ ?_
  simp only [contangoref23_Products.l1,if_pos (show (j:Int) < (l.length:Int) by omega),if_pos (show 0 ≤ (j:Int) by omega),if_pos (show 0 ≤ (i:Int) by omega),if_pos (show (i:Int) < (l.length:Int) by omega),rdPos l i hi,rdPos l j hj,if_pos hlen,w_succ hj (by omega)]
  by_cases c:l[j].f0.f0.toList = l[i].f0.f0.toList
  ·simp only [if_pos c]
   rw [if_pos c] at ih
   exact ih
  ·simp only [if_neg c]
   rw [if_neg c] at ih
   exact ih
theorem refJ1 (l:List Pos) (hl:l.length ≤ 128) (ns:List ByteArray) (ps:List (List Pos)) (i:Nat) (hi:i < l.length) (hn:ns.length < 200) (hp:ps.length < 200) (b:Bool) (r:List ByteArray × List (List Pos))
  (h1:b = true → Ev (fun k=>contangoref23_Products.l0 k l ns ps (wrap64 ((i:Int) + 1))) r)
  (h2:b = false → Ev (fun k=>contangoref23_Products.l0 k l (ns ++ [l[i].f0.f0]) (ps ++ [sameN l[i].f0.f0 l]) (wrap64 ((i:Int) + 1))) r) :
  Ev (fun k=>contangoref23_Products.j1 k l ns ps i b) r:=by
 refine Ev_succ ?_
 cases b with
 | true=>simp only [contangoref23_Products.j1,if_true];exact h1 rfl
 | false =>
  simp only [contangoref23_Products.j1,Bool.false_eq_true,if_false]
  exact refL1 l hl ns ps i hi hn hp r (h2 rfl) l.length 0 (by omega)
theorem refProdLoop (l:List Pos) (hl:l.length ≤ 128):∀ (d i:Nat) (ns:List ByteArray) (ps:List (List Pos)),i + d = l.length → ns.length ≤ i → ps.length ≤ i →
  Ev (fun k=>contangoref23_Products.l0 k l ns ps i) (ns ++ heads (prevN l i) (l.drop i),ps ++ (heads (prevN l i) (l.drop i)).map fun n=>sameN n l)
 | 0,i,ns,ps,hd,_,_=>by
  refine Ev_succ ?_
  simp only [contangoref23_Products.l0,if_neg (show ¬ ((i:Int) < (l.length:Int)) by omega)]
  rw [List.drop_of_length_le (by omega)]
  simp only [heads,List.map_nil,List.append_nil]
  exact Ev.now _
 | d + 1,i,ns,ps,hd,hn,hp=>by
  have hi:i < l.length:=by omega
  have key:∀ b,b = isN (prevN l i) l[i].f0.f0 → Ev (fun k=>contangoref23_Products.j1 k l ns ps i b) (ns ++ heads (prevN l i) (l.drop i),ps ++ (heads (prevN l i) (l.drop i)).map fun n=>sameN n l):=by
   intro b hb
   rw [drop_cons l i hi]
   refine refJ1 l hl ns ps i hi (by omega) (by omega) b _ ?_ ?_
   ·intro e
    rw [e] at hb
    have ih:=refProdLoop l hl d (i + 1) ns ps (by omega) (by omega) (by omega)
    rw [← w_succ hi (by omega),prevN_succ l i hi] at ih
    simp only [heads,if_pos hb.symm]
    exact ih
   ·intro e
    rw [e] at hb
    have ih:=refProdLoop l hl d (i + 1) (ns ++ [l[i].f0.f0]) (ps ++ [sameN l[i].f0.f0 l]) (by omega) (by simp;omega) (by simp;omega)
    rw [← w_succ hi (by omega),prevN_succ l i hi] at ih
    simp only [heads,← hb,Bool.false_eq_true,if_false,List.map_cons]
    simpa using ih
  refine Ev_succ ?_
  simp only [contangoref23_Products.l0,if_pos (show (i:Int) < (l.length:Int) by omega),if_pos (show 0 ≤ (i:Int) by omega),rdPos l i hi]
  by_cases h0:i = 0
  ·subst h0
   simp only [if_neg (show ¬ (((0:Nat):Int) > 0) by omega)]
   exact key false rfl
  ·have hw:=w_pred (show 0 < i by omega) (by omega)
   simp only [if_pos (show ((i:Int) > 0) by omega),hw,if_pos (show 0 ≤ ((i - 1:Nat):Int) by omega),if_pos (show ((i - 1:Nat):Int) < (l.length:Int) by omega),rdPos l (i - 1) (by omega)]
   refine key _ ?_
   simp only [prevN,if_neg h0,List.getElem?_eq_getElem (show i - 1 < l.length by omega),Option.map_some,isN]
   rw [Bool.eq_iff_iff,beq_iff_eq,beq_iff_eq]
   exact eq_comm
theorem refProds_f (l:List Pos) (hl:l.length ≤ 4611686018427387904):Ev (fun k=>contangoref23_Products.f k l) (prods l):=by
 unfold contangoref23_Products.f prods
 simp only [Option.bind_some]
 refine Ev_bind (refPosCheck_f l hl) ?_
 by_cases h:posCheck l = 0
 ·simp only [if_pos h]
  have:=refProdLoop l (posCheck_zero h).1 l.length 0 [] [] (by omega) (by simp) (by simp)
  simpa [prevN] using this
 ·simp only [if_neg h]
  exact Ev.now _
def HInv (l:List Pos) (i:Nat) (ns:List ByteArray):Prop:=(i = 0 ∧ ns = []) ∨
 (0 < i ∧ ∃ (ms:List ByteArray) (n:ByteArray),prevN l i = some n ∧ ns = ms ++ [n] ∧ (∀ m ∈ ms,Op.bytesLess m.toList n.toList = true) ∧ ∀ p ∈ l.take i,p.f0.f0.toList = n.toList ∨ Op.bytesLess p.f0.f0.toList n.toList = true)
theorem rdL_nat (ps:List (List Pos)) (i:Nat) (h:i < ps.length):rd_L14 ps (i:Int) = ps[i]:=by simp [rd_L14,h]
theorem rdL_last (ps:List (List Pos)) (p:List Pos) (i:Int) (hi:i = (ps.length:Int)):rd_L14 (ps ++ [p]) i = p:=by subst hi;simp [rd_L14]
theorem set_last {α:Type} (ps:List α) (p q:α) (i:Int) (hi:i = (ps.length:Int)):(ps ++ [p]).set i.toNat q = ps ++ [q]:=by subst hi;simp
theorem prodLoop (l:List Pos) (hl:l.length ≤ 128) (hs:∀ (i:Nat) (h:i < l.length) (h0:0 < i),cmpS (l[i - 1]'(by omega)).f0 l[i].f0 < 0):∀ (d i:Nat) (ns:List ByteArray),i + d = l.length → ns.length ≤ i → HInv l i ns →
  Ev (fun k=>scan_Products.l0 k ns (ns.map fun n=>sameN n (l.take i)) l l.length i) (ns ++ heads (prevN l i) (l.drop i),(ns ++ heads (prevN l i) (l.drop i)).map fun n=>sameN n l)
 | 0,i,ns,hd,_,_=>by
  refine Ev_succ ?_
  simp only [scan_Products.l0,if_neg (show ¬ ((i:Int) < (l.length:Int)) by omega)]
  rw [List.drop_of_length_le (by omega),List.take_of_length_le (by omega)]
  simp only [heads,List.append_nil]
  exact Ev.now _
 | d + 1,i,ns,hd,hn,hI=>by
  have hi:i < l.length:=by omega
  have hps:∀ n,(sameN n (l.take i)).length < 2513169434916:=fun n=>by
   have:=sameN_len n (l.take i)
   rw [List.length_take] at this
   omega
  refine Ev_succ ?_
  simp only [scan_Products.l0,if_pos (show (i:Int) < (l.length:Int) by omega),if_pos (show 0 ≤ (i:Int) by omega),rdPos l i hi,w_succ hi (by omega)]

  have fresh:isN (prevN l i) l[i].f0.f0 = false → HInv l (i + 1) (ns ++ [l[i].f0.f0]) → (ns ++ [l[i].f0.f0]).map (fun n=>sameN n (l.take (i + 1))) = ns.map (fun n=>sameN n (l.take i)) ++ [[l[i]]] →
    Ev (fun k=>scan_Products.l0 k (ns ++ [l[i].f0.f0]) (ns.map (fun n=>sameN n (l.take i)) ++ [[l[i]]]) l l.length ((i + 1:Nat):Int)) (ns ++ heads (prevN l i) (l.drop i),(ns ++ heads (prevN l i) (l.drop i)).map fun n=>sameN n l):=by
   intro hf hI2 he
   have ih:=prodLoop l hl hs d (i + 1) (ns ++ [l[i].f0.f0]) (by omega) (by simp;omega) hI2
   rw [he,prevN_succ l i hi] at ih
   rw [drop_cons l i hi]
   simp only [heads,hf,Bool.false_eq_true,if_false]
   simpa using ih
  rcases hI with ⟨h0,rfl⟩|⟨h0,ms,n,hpn,rfl,hms,hle⟩
  ·subst h0
   simp only [List.length_nil,List.map_nil,List.nil_append,if_pos (show (((0:Nat):Int)) = 0 by rfl),if_pos (show (0:Nat) < 8796093022208 by omega),if_pos (show (0:Nat) < 5864062014805 by omega),Option.bind_some,List.length_cons,Nat.zero_add]
   have e0:wrap64 (((1:Nat):Int) - 1) = 0:=by rw [w_id (by omega) (by omega)];omega
   simp only [e0,if_pos (show (0:Int) ≤ 0 by omega),if_pos (show (0:Int) < ((1:Nat):Int) by omega)]
   have e1:rd_L14 ([[]]:List (List Pos)) 0 = []:=rfl
   simp only [e1,List.length_nil,if_pos (show (0:Nat) < 2513169434916 by omega),List.nil_append]
   have:=fresh rfl (Or.inr ⟨by omega,[],l[0].f0.f0,prevN_succ l 0 hi,rfl,by simp,fun p hp=>by
    rw [List.take_succ_eq_append_getElem hi] at hp
    simp at hp
    subst hp
    exact Or.inl rfl⟩) (by
    rw [List.take_succ_eq_append_getElem hi]
    simp [sameN])
   simpa using this
  ·have hlen:(ms ++ [n]).length = ms.length + 1:=by simp
   have en:¬ (((ms ++ [n]).length:Int) = 0):=by rw [hlen];omega
   have hpl:((ms ++ [n]).map (fun n=>sameN n (l.take i))).length = ms.length + 1:=by simp
   have hmsl:ms.length ≤ 128:=by omega
   have e2:wrap64 (((ms ++ [n]).length:Int) - 1) = (ms.length:Int):=by rw [hlen,w_id (by omega) (by omega)];omega
   have e3:rdOf ByteArray.empty (ms ++ [n]) (ms.length:Int) = n:=by rw [rdOf_nat _ _ _ (by simp)];simp
   have hq:=hs i hi h0
   have hq2:(l[i - 1]'(by omega)).f0.f0 = n:=by
    simp only [prevN,if_neg (show i ≠ 0 by omega),List.getElem?_eq_getElem (show i - 1 < l.length by omega),Option.map_some,Option.some.injEq] at hpn
    exact hpn
   simp only [if_neg en,e2,e3,hpl,if_pos (show 0 ≤ (ms.length:Int) by omega),if_pos (show (ms.length:Int) < ((ms ++ [n]).length:Int) by rw [hlen];omega)]
   have hd3:=cmpS_names hq
   rw [hq2] at hd3
   by_cases c:n.toList = l[i].f0.f0.toList
   ·have cn:n = l[i].f0.f0:=ba_ext c
    have e4:wrap64 (((ms.length + 1:Nat):Int) - 1) = (ms.length:Int):=by rw [w_id (by omega) (by omega)];omega
    have e5:rd_L14 ((ms ++ [n]).map fun n=>sameN n (l.take i)) (ms.length:Int) = sameN n (l.take i):=by
     rw [List.map_append,List.map_cons,List.map_nil]
     exact rdL_last _ _ _ (by simp)
    have e6:((ms ++ [n]).map fun n=>sameN n (l.take i)).set ((ms.length:Int)).toNat (sameN n (l.take i) ++ [l[i]]) = (ms ++ [n]).map fun n=>sameN n (l.take (i + 1)):=by
     rw [List.map_append,List.map_cons,List.map_nil,set_last _ _ _ _ (by simp),List.map_append,List.map_cons,List.map_nil,List.take_succ_eq_append_getElem hi,sameN_snoc,if_pos c.symm]
     congr 1
     refine List.map_congr_left fun m hm=>?_
     rw [sameN_snoc,if_neg]
     rw [← c]
     exact fun e=>bl_ne (hms m hm) e.symm
    simp only [if_pos c,e4,if_pos (show 0 ≤ (ms.length:Int) by omega),if_pos (show (ms.length:Int) < ((ms.length + 1:Nat):Int) by omega),e5,if_pos (hps n)]
    have ih:=prodLoop l hl hs d (i + 1) (ms ++ [n]) (by omega) (by omega) (Or.inr ⟨by omega,ms,n,by rw [prevN_succ l i hi,cn],rfl,hms,fun p hp=>by
     rw [List.take_succ_eq_append_getElem hi] at hp
     rcases List.mem_append.1 hp with hp|hp
     ·exact hle p hp
     ·rw [List.mem_singleton.1 hp];exact Or.inl c.symm⟩)
    have e7:isN (prevN l i) l[i].f0.f0 = true:=by rw [hpn];simp [isN,c]
    rw [drop_cons l i hi]
    simp only [heads,e7,if_true]
    rw [prevN_succ l i hi,← e6] at ih
    exact ih
   ·have hlt:Op.bytesLess n.toList l[i].f0.f0.toList = true:=hd3.resolve_left c
    have hall:∀ m ∈ ms ++ [n],Op.bytesLess m.toList l[i].f0.f0.toList = true:=fun m hm=>by
     rcases List.mem_append.1 hm with hm|hm
     ·exact bl_trans _ _ _ (hms m hm) hlt
     ·rw [List.mem_singleton.1 hm];exact hlt
    have hall2:∀ p ∈ l.take i,Op.bytesLess p.f0.f0.toList l[i].f0.f0.toList = true:=fun p hp=>by
     rcases hle p hp with e|e
     ·rw [e];exact hlt
     ·exact bl_trans _ _ _ e hlt
    have e8:wrap64 (((((ms ++ [n]).map (fun n=>sameN n (l.take i))) ++ [([]:List Pos)]).length:Int) - 1) = ((ms.length + 1:Nat):Int):=by
     rw [List.length_append,hpl,w_id (by simp;omega) (by simp;omega)];simp
    have e9:rd_L14 ((ms ++ [n]).map (fun n=>sameN n (l.take i)) ++ [([]:List Pos)]) ((ms.length + 1:Nat):Int) = []:=rdL_last _ _ _ (by simp)
    have e10:((ms ++ [n]).map (fun n=>sameN n (l.take i)) ++ [([]:List Pos)]).set (((ms.length + 1:Nat):Int)).toNat [l[i]] = (ms ++ [n]).map (fun n=>sameN n (l.take i)) ++ [[l[i]]]:=set_last _ _ _ _ (by simp)
    have e11:((ms ++ [n]).length) < 8796093022208:=by omega
    simp only [if_neg c,if_pos e11,if_pos (show ms.length + 1 < 5864062014805 by omega),Option.bind_some,e8,if_pos (show 0 ≤ ((ms.length + 1:Nat):Int) by omega),e9,List.length_nil,if_pos (show (0:Nat) < 2513169434916 by omega),List.nil_append,e10]
    have e12:((ms.length + 1:Nat):Int) < ((((ms ++ [n]).map (fun n=>sameN n (l.take i))) ++ [([]:List Pos)]).length:Int):=by
     rw [List.length_append,hpl];simp;omega
    simp only [if_pos e12]
    refine fresh ?_ ?_ ?_
    ·rw [hpn]
     simp only [isN]
     exact beq_false_of_ne c
    ·refine Or.inr ⟨by omega,ms ++ [n],l[i].f0.f0,prevN_succ l i hi,rfl,hall,fun p hp=>?_⟩
     rw [List.take_succ_eq_append_getElem hi] at hp
     rcases List.mem_append.1 hp with hp|hp
     ·exact Or.inr (hall2 p hp)
     ·rw [List.mem_singleton.1 hp];exact Or.inl rfl
    ·rw [List.take_succ_eq_append_getElem hi,List.map_append,List.map_cons,List.map_nil]
     congr 1
     ·refine List.map_congr_left fun m hm=>?_
      rw [sameN_snoc,if_neg]
      exact fun e=>bl_ne (hall m hm) e.symm
     ·rw [sameN_snoc,if_pos rfl]
      have:sameN l[i].f0.f0 (l.take i) = []:=by
       unfold sameN
       rw [List.filter_eq_nil_iff]
       intro p hp
       simp only [beq_iff_eq]
       exact bl_ne (hall2 p hp)
      rw [this];rfl
theorem prods_f (l:List Pos) (hl:l.length ≤ 4611686018427387904):Ev (fun k=>scan_Products.f k l) (prods l):=by
 unfold scan_Products.f prods
 refine Ev_bind (posCheck_f l hl) ?_
 by_cases h:posCheck l = 0
 ·simp only [if_pos h]
  have:=prodLoop l (posCheck_zero h).1 (posCheck_order h) l.length 0 [] (by omega) (by simp) (Or.inl ⟨rfl,rfl⟩)
  simpa [prevN] using this
 ·simp only [if_neg h]
  exact Ev.now _
end Go.Proofs.Ytbgeceiddcokmaa.P
end
section
namespace Go.Proofs.Ytbgeceiddcokmaa.P
open Go.RowKit Go.Proofs.YtbgeceiddcokmaaW.PrintWords Go.Proofs.YtbgeceiddcokmaaW.PrintMore Go.Proofs.Ytbgeceiddcokmaa.X
set_option maxRecDepth 100000 in
theorem goes43:Ev (fun k=>contangolaw43_goes.f k) true:=Ev.of (k:=40) (contangolaw43_goes.mono) (by decide +kernel)
end Go.Proofs.Ytbgeceiddcokmaa.P
end
section
namespace Go.Proofs.Ytbgeceiddcokmaa.Pure
set_option linter.unusedVariables false
set_option linter.unusedSimpArgs false
open Go.RowKit Go.Proofs.YtbgeceiddcokmaaW.PrintWords Go.Proofs.YtbgeceiddcokmaaW.PrintMore Go.Proofs.Ytbgeceiddcokmaa.X Go.Proofs.Ytbgeceiddcokmaa.P
def deltasGo (r:List Arr) (ns:List ByteArray):List Int → List (List Pos) → List ByteArray × List Int × Int
  | acc,[]=>(ns,acc,0)
  | acc,p :: t=>if (delta p r).2 = 0 then deltasGo r ns (acc ++ [(delta p r).1]) t else ([],[],(delta p r).2)
theorem deltasGo_len (r:List Arr) (ns:List ByteArray):∀ (ps:List (List Pos)) (acc:List Int),(deltasGo r ns acc ps).2.1.length ≤ acc.length + ps.length ∧ (deltasGo r ns acc ps).1.length ≤ ns.length
  | [],acc=>⟨by simp [deltasGo],Nat.le_refl _⟩
  | p :: t,acc=>by
    unfold deltasGo
    by_cases h:(delta p r).2 = 0
    · rw [if_pos h]
      have:=deltasGo_len r ns t (acc ++ [(delta p r).1])
      rw [List.length_append,List.length_singleton] at this
      exact ⟨by rw [List.length_cons];omega,this.2⟩
    · rw [if_neg h];exact ⟨by simp,by simp⟩
section
variable (r:List Arr) (hr:r.length ≤ 4611686018427387904) (ha:∀ a ∈ r,a.f1.length ≤ 4611686018427387904) (ns:List ByteArray) (ps:List (List Pos)) (hps:ps.length ≤ 200) (hp:∀ p ∈ ps,p.length ≤ 4611686018427387904)
include hr ha hps hp
theorem deltasLoop:∀ (d i:Nat) (acc:List Int),i + d = ps.length → acc.length = i → Ev (fun k=>hedge_Deltas.l0 k r ns acc ps (ps.length:Int) i) (deltasGo r ns acc (ps.drop i))
  | 0,i,acc,hd,hacc=>by
    rw [List.drop_of_length_le (by omega)]
    refine Ev_succ ?_
    simp only [hedge_Deltas.l0,if_neg (show ¬ ((i:Int) < (ps.length:Int)) by omega),deltasGo]
    exact Ev.now _
  | d + 1,i,acc,hd,hacc=>by
    have hi:i < ps.length:=by omega
    rw [drop_cons ps i hi]
    refine Ev_succ ?_
    simp only [hedge_Deltas.l0,if_pos (show (i:Int) < (ps.length:Int) by omega),if_pos (show 0 ≤ (i:Int) by omega),rdL_nat ps i hi]
    refine Ev_bind (delta_f ps[i] r (hp _ (List.getElem_mem hi)) hr ha) ?_
    simp only [deltasGo]
    by_cases h:(delta ps[i] r).2 = 0
    · simp only [if_pos h,if_pos (show acc.length < 17592186044416 by omega),w_succ hi (by omega)]
      exact deltasLoop d (i + 1) _ (by omega) (by simp [hacc])
    · simp only [if_neg h]
      exact Ev.now _
theorem deltasRLoop:∀ (d i:Nat) (acc:List Int),i + d = ps.length → acc.length = i → Ev (fun k=>contangoref43_Deltas.l0 k r ns ps acc i) (deltasGo r ns acc (ps.drop i))
  | 0,i,acc,hd,hacc=>by
    rw [List.drop_of_length_le (by omega)]
    refine Ev_succ ?_
    simp only [contangoref43_Deltas.l0,if_neg (show ¬ ((i:Int) < (ps.length:Int)) by omega),deltasGo]
    exact Ev.now _
  | d + 1,i,acc,hd,hacc=>by
    have hi:i < ps.length:=by omega
    rw [drop_cons ps i hi]
    refine Ev_succ ?_
    simp only [contangoref43_Deltas.l0,if_pos (show (i:Int) < (ps.length:Int) by omega),if_pos (show 0 ≤ (i:Int) by omega),rdL_nat ps i hi]
    refine Ev_bind (refDelta_f ps[i] r (hp _ (List.getElem_mem hi)) hr ha) ?_
    simp only [deltasGo]
    by_cases h:(delta ps[i] r).2 = 0
    · simp only [if_pos h,if_pos (show acc.length < 17592186044416 by omega),w_succ hi (by omega)]
      exact deltasRLoop d (i + 1) _ (by omega) (by simp [hacc])
    · simp only [if_neg h]
      exact Ev.now _
end
theorem sameNames (l:List ByteArray) (hl:l.length ≤ 4611686018427387904):Ev (fun k=>contangoref23_Names.f k l l) true:=by
  unfold contangoref23_Names.f
  simp only [if_true]
  have:∀ (d i:Nat),i + d = l.length → Ev (fun k=>contangoref23_Names.l0 k l l i) true:=by
    intro d
    induction d with
    | zero =>
      intro i hi
      refine Ev_succ ?_
      simp only [contangoref23_Names.l0,if_neg (show ¬ ((i:Int) < (l.length:Int)) by omega)]
      exact Ev.now _
    | succ d ih =>
      intro i hi
      refine Ev_succ ?_
      simp only [contangoref23_Names.l0,if_pos (show (i:Int) < (l.length:Int) by omega),if_pos (show 0 ≤ (i:Int) by omega),if_true,w_succ (show i < l.length by omega) (by omega)]
      exact ih (i + 1) (by omega)
  exact this l.length 0 (by omega)
theorem sameInts43 (l:List Int) (hl:l.length ≤ 4611686018427387904):Ev (fun k=>contangoref43_Ints.f k l l) true:=by
  unfold contangoref43_Ints.f
  simp only [if_true]
  have:∀ (d i:Nat),i + d = l.length → Ev (fun k=>contangoref43_Ints.l0 k l l i) true:=by
    intro d
    induction d with
    | zero =>
      intro i hi
      refine Ev_succ ?_
      simp only [contangoref43_Ints.l0,if_neg (show ¬ ((i:Int) < (l.length:Int)) by omega)]
      exact Ev.now _
    | succ d ih =>
      intro i hi
      refine Ev_succ ?_
      simp only [contangoref43_Ints.l0,if_pos (show (i:Int) < (l.length:Int) by omega),if_pos (show 0 ≤ (i:Int) by omega),if_true,w_succ (show i < l.length by omega) (by omega)]
      exact ih (i + 1) (by omega)
  exact this l.length 0 (by omega)
def deltasR (l:List Pos) (r:List Arr):List ByteArray × List Int × Int:=if scanCheck r = 0 then (if posCheck l = 0 then deltasGo r (prods l).1 [] (prods l).2 else ([],[],posCheck l)) else ([],[],scanCheck r)
theorem prods_small {l:List Pos} (h:posCheck l = 0):(prods l).1.length ≤ 128 ∧ (prods l).2.length ≤ 128 ∧ ∀ p ∈ (prods l).2,p.length ≤ 128:=by
  have hl:=(posCheck_zero h).1
  have hh:=heads_len l none
  unfold prods
  rw [if_pos h]
  dsimp only
  refine ⟨by omega,by rw [List.length_map];omega,fun p hp=>?_⟩
  obtain ⟨n,_,rfl⟩:=List.mem_map.1 hp
  have:=sameN_len n l
  omega
theorem HedgeDeltas:∀ (l0:List (S73)) (l1:List (S91)),(l0.length ≤ maxLen ∧ l0.length * 56 ≤ 140737488351232 ∧ ∀ x ∈ l0,ok73 x) → (l1.length ≤ maxLen ∧ l1.length * 72 ≤ 140737488351232 ∧ ∀ x ∈ l1,ok91 x) → ∃ k,X.contangolaw43_HedgeDeltas.f k l0 l1 = some true:=by
  intro l r hl hr
  have ha:∀ a ∈ r,a.f1.length ≤ 4611686018427387904:=by
    intro a ha
    have:=hr.2.2 a ha
    simp only [ok91] at this
    have:=this.2.1.2.1
    omega
  apply Ev.rounds
  have hgo:Ev (fun k=>contangolaw43_HedgeDeltas.j0 k l r true) true:=by
    refine Ev_succ ?_
    simp only [contangolaw43_HedgeDeltas.j0,if_true]
    exact Ev_id goes43
  unfold contangolaw43_HedgeDeltas.f
  by_cases c1:(l.length:Int) > 200
  · simp only [if_pos c1];exact hgo
  · simp only [if_neg c1]
    by_cases c2:(r.length:Int) > 200
    · rw [decide_eq_true c2];exact hgo
    · rw [decide_eq_false c2]
      refine Ev_succ ?_
      simp only [contangolaw43_HedgeDeltas.j0,Bool.false_eq_true,if_false]
      have e1:Ev (fun k=>hedge_Deltas.f k l r) (deltasR l r):=by
        unfold hedge_Deltas.f deltasR
        refine Ev_bind (scanCheck_f r (by omega) ha) ?_
        by_cases h1:scanCheck r = 0
        · simp only [if_pos h1]
          refine Ev_bind (posCheck_f l (by omega)) ?_
          by_cases h2:posCheck l = 0
          · simp only [if_pos h2]
            obtain ⟨q1,q2,q3⟩:=prods_small h2
            refine Ev_bind (prods_f l (by omega)) ?_
            have:=deltasLoop r (by omega) ha (prods l).1 (prods l).2 (by omega) (fun p hp=>by have:=q3 p hp;omega) (prods l).2.length 0 [] (by omega) rfl
            rw [List.drop_zero] at this
            exact this
          · simp only [if_neg h2];exact Ev.now _
        · simp only [if_neg h1];exact Ev.now _
      have e2:Ev (fun k=>contangoref43_Deltas.f k l r) (deltasR l r):=by
        unfold contangoref43_Deltas.f deltasR
        refine Ev_bind (refScanCheck_f r (by omega) ha) ?_
        by_cases h1:scanCheck r = 0
        · simp only [if_pos h1]
          refine Ev_bind (refPosCheck_f l (by omega)) ?_
          refine Ev_succ ?_
          by_cases h2:posCheck l = 0
          · simp only [contangoref43_Deltas.j0,if_pos h2]
            obtain ⟨q1,q2,q3⟩:=prods_small h2
            refine Ev_bind (refProds_f l (by omega)) ?_
            have:=deltasRLoop r (by omega) ha (prods l).1 (prods l).2 (by omega) (fun p hp=>by have:=q3 p hp;omega) (prods l).2.length 0 [] (by omega) rfl
            rw [List.drop_zero] at this
            exact this
          · simp only [contangoref43_Deltas.j0,if_neg h2];exact Ev.now _
        · simp only [if_neg h1]
          refine Ev_succ ?_
          simp only [contangoref43_Deltas.j0,if_neg h1]
          exact Ev.now _
      refine Ev_bind e1 ?_
      refine Ev_bind e2 ?_
      have hsm:(deltasR l r).1.length ≤ 4611686018427387904 ∧ (deltasR l r).2.1.length ≤ 4611686018427387904:=by
        unfold deltasR
        by_cases h1:scanCheck r = 0
        · rw [if_pos h1]
          by_cases h2:posCheck l = 0
          · rw [if_pos h2]
            obtain ⟨q1,q2,q3⟩:=prods_small h2
            have:=deltasGo_len r (prods l).1 (prods l).2 []
            simp only [List.length_nil] at this
            omega
          · rw [if_neg h2];simp
        · rw [if_neg h1];simp
      refine Ev_bind (sameNames _ hsm.1) ?_
      simp only [if_true]
      refine Ev_bind (sameInts43 _ hsm.2) ?_
      simp only [if_true]
      exact Ev_id goes43
end Go.Proofs.Ytbgeceiddcokmaa.Pure
end
