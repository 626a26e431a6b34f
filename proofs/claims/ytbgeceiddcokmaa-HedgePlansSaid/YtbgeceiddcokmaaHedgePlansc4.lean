/- For HedgePlans: contracts, and facts on lists and numbers, that it uses (part 4). -/
import Derived.Test.YtbgeceiddcokmaaHedgePlansc3
section
namespace Go.Proofs.Ytbgeceiddcokmaa.X
open Go.RowKit Go.Proofs.YtbgeceiddcokmaaW.PrintWords Go.Proofs.YtbgeceiddcokmaaW.PrintLast Go.Proofs.YtbgeceiddcokmaaW.PrintMore
attribute [local go_sem] max2_int min2_int max_two min_two max_three min_three max_four min_four
set_option linter.unusedVariables false
set_option linter.unusedSimpArgs false
attribute [local go_sem high] eqA41
mutual
def contangolaw43_HedgePlans.j0:Nat → List ByteArray → List Int → List (S54) → Bool → Option (Bool)
 | 0,_,_,_,_=>none
 | k + 1,x0,x1,x2,x26=>if x26 = true then ((contangolaw43_goes.f k).bind fun t101=>(some t101)) else ((contangolaw43_to.f k x2).bind fun t102=>((hedge_Plan.f x0 x1 t102).bind fun bt105=>((contangoref43_Plan.f k x0 x1 x2).bind fun bt112=>(if (bt105.1.length:Int) = (bt112.1.length:Int) then ((contangoref43_Ints.f k bt105.2.1 bt112.2.1).bind fun t119=>(if t119 = true then (if bt105.2.2 = bt112.2.2 then ((contangolaw43_to.f k x2).bind fun t120=>((hedge_Check.f t120).bind fun t123=>((contangoref43_Check.f k x2).bind fun t124=>(contangolaw43_HedgePlans.j1 k bt105.1 bt112.1 (t123 != t124))))) else (contangolaw43_HedgePlans.j1 k bt105.1 bt112.1 true)) else (contangolaw43_HedgePlans.j1 k bt105.1 bt112.1 true))) else (contangolaw43_HedgePlans.j1 k bt105.1 bt112.1 true)))))
def contangolaw43_HedgePlans.j1:Nat → List (S41) → List (S42) → Bool → Option (Bool)
 | 0,_,_,_=>none
 | k + 1,x7,x10,x68=>if x68 = true then (none) else (contangolaw43_HedgePlans.l0 k x7 x10 0)
def contangolaw43_HedgePlans.l0:Nat → List (S41) → List (S42) → Int → Option (Bool)
 | 0,_,_,_=>none
 | k + 1,x7,x10,x13=>if x13 < (x7.length:Int) then (if 0 ≤ x13 then (if x13 < (x10.length:Int) then (if ((!((((rd_T41 x7 x13).f0.f0).toList) == (((rd_T42 x10 x13).f0.f0).toList)) || (!(((rd_T41 x7 x13).f0.f1) == ((rd_T42 x10 x13).f0.f1)) || (!(((rd_T41 x7 x13).f0.f2) == ((rd_T42 x10 x13).f0.f2)) || (!(((rd_T41 x7 x13).f0.f3) == ((rd_T42 x10 x13).f0.f3)))))) || (!(((rd_T41 x7 x13).f1) == ((rd_T42 x10 x13).f1)))) = true then (none) else (contangolaw43_HedgePlans.l0 k x7 x10 (wrap64 (x13 + 1)))) else (none)) else (none)) else ((contangolaw43_goes.f k).bind fun t127=>(some t127))
end
def contangolaw43_HedgePlans.f (k:Nat) (l0:List ByteArray) (l1:List Int) (l2:List (S54)):Option (Bool):=if (l0.length:Int) > 200 then (contangolaw43_HedgePlans.j0 k l0 l1 l2 true) else (if (l1.length:Int) > 200 then (contangolaw43_HedgePlans.j0 k l0 l1 l2 true) else (contangolaw43_HedgePlans.j0 k l0 l1 l2 (decide ((l2.length:Int) > 1100))))
set_option maxHeartbeats 8000000 in
set_option maxRecDepth 100000 in
theorem contangolaw43_HedgePlans.calls (k:Nat) (A0:Option Addr) (c0:Nat) (l0:List ByteArray) (A1:Option Addr) (c1:Nat) (l1:List Int) (A2:Option Addr) (c2:Nat) (l2:List (S54)) (r:Bool) (w:World) (hr0:Kd.C Kd.string w A0 l0.length l0) (hc0:l0.length ≤ c0) (hr1:Kd.C (Kd.int .i64) w A1 l1.length l1) (hc1:l1.length ≤ c1) (hr2:Kd.C k54 w A2 l2.length l2) (hc2:l2.length ≤ c2) (h:contangolaw43_HedgePlans.f k l0 l1 l2 = some r) :
  Calls Try.prog 3 #[.slice A0 l0.length c0,.slice A1 l1.length c1,.slice A2 l2.length c2] w fun e w'=>e = .returned (.bool r) ∧ Below w.heap.size w w':=by
 have hu41:=Try.underlying41
 have hu42:=Try.underlying42
 have HR0:=Aside0.mk hr0
 have HC0:=Aside0.mk hc0
 clear hr0 hc0
 have HR1:=Aside0.mk hr1
 have HC1:=Aside0.mk hc1
 clear hr1 hc1
 have HR2:=Aside0.mk hr2
 have HC2:=Aside0.mk hc2
 clear hr2 hc2
 have HB:=Aside0.mk (Below.refl w.heap.size w)
 have H:(if (l0.length:Int) > 200 then (contangolaw43_HedgePlans.j0 k l0 l1 l2 true) else (if (l1.length:Int) > 200 then (contangolaw43_HedgePlans.j0 k l0 l1 l2 true) else (contangolaw43_HedgePlans.j0 k l0 l1 l2 (decide ((l2.length:Int) > 1100))))) = some r:=h
 clear h
 have HC4:=Aside0.mk H
 clear H
 go_enter Try.func3,Try.ntmps3
 go_upto_region 1 with (fail)
 repeat (go_quiet (fail);go_upto_region 1 with (fail))
 go_cut [26] (fun v26 wc=>∃ (kq:Nat) (x26_3:Bool),v26 = .bool x26_3 ∧ Aside0 (contangolaw43_HedgePlans.j0 kq l0 l1 l2 x26_3 = some r) ∧ Aside0 (kq ≤ k) ∧ Aside0 (Below w.heap.size w wc))
 case first =>
  have H:=HC4.out
  clear HC4
  by_cases c5:(l0.length:Int) > 200
  ·rw [if_pos c5] at H
   have c5b0:decide (200 < (l0.length:Int)) = true:=decide_eq_true c5
   have c5b1:decide (200 < l0.length) = true:=decide_eq_true (by omega)
   clear c5
   (first|rw [c5b0]|(simp only [i64_w,i32_w];rw [c5b0])|skip)
   have H':=Aside0.mk H
   clear H
   go_wp2
   repeat (go_quiet (fail);try go_wp2)
   go_meet
   case rel=>exact ⟨_,(true),(by first|rfl|(simp;done)|(simp [*];done)),H',⟨by first|omega|exact Nat.le_refl _⟩,⟨by repeat (first|(with_reducible first|exact HB.out|apply below_alloc|apply pw_below_drewN|apply below_drew1)|exact HB.out)⟩⟩
  ·rw [if_neg c5] at H
   have c5b0:decide (200 < (l0.length:Int)) = false:=decide_eq_false c5
   have c5b1:decide (200 < l0.length) = false:=decide_eq_false (by omega)
   clear c5
   (first|rw [c5b0]|(simp only [i64_w,i32_w];rw [c5b0])|skip)
   by_cases c6:(l1.length:Int) > 200
   ·rw [if_pos c6] at H
    have c6b0:decide (200 < (l1.length:Int)) = true:=decide_eq_true c6
    have c6b1:decide (200 < l1.length) = true:=decide_eq_true (by omega)
    clear c6
    have H':=Aside0.mk H
    clear H
    go_wp2
    repeat (go_quiet (fail);try go_wp2)
    go_meet
    case rel=>exact ⟨_,(true),(by first|rfl|(simp;done)|(simp [*];done)),H',⟨by first|omega|exact Nat.le_refl _⟩,⟨by repeat (first|(with_reducible first|exact HB.out|apply below_alloc|apply pw_below_drewN|apply below_drew1)|exact HB.out)⟩⟩
   ·rw [if_neg c6] at H
    have c6b0:decide (200 < (l1.length:Int)) = false:=decide_eq_false c6
    have c6b1:decide (200 < l1.length) = false:=decide_eq_false (by omega)
    clear c6
    have H':=Aside0.mk H
    clear H
    go_wp2
    repeat (go_quiet (fail);try go_wp2)
    go_meet
    case rel=>exact ⟨_,(decide ((l2.length:Int) > 1100)),(by first|rfl|(simp;done)|(simp [*];done)),H',⟨by first|omega|exact Nat.le_refl _⟩,⟨by repeat (first|(with_reducible first|exact HB.out|apply below_alloc|apply pw_below_drewN|apply below_drew1)|exact HB.out)⟩⟩
 case rest =>
  clear HC4
  try clear c1
  try clear c2
  try clear p2
  try clear c3
  try clear c5
  try clear c5b0
  try clear c5b1
  try clear c6
  try clear c6b0
  try clear c6b1
  obtain ⟨kq,x26_3,rfl,HA,HJ3,HB⟩:=hcut
  cases kq with
  | zero=>exact absurd HA.out (by simp [contangolaw43_HedgePlans.j0])
  | succ kj3 =>
   have H:=HA.out
   clear HA
   simp only [contangolaw43_HedgePlans.j0] at H
   by_cases c7:x26_3 = true
   ·subst c7
    have H1:((contangolaw43_goes.f kj3).bind fun t101=>(some t101)) = some r:=by rw [if_pos rfl] at H;exact H
    clear H
    have H:=H1
    clear H1
    replace H:=Option.bind_eq_some_iff.mp H
    obtain ⟨t101,A80,H⟩:=H
    replace H:(some t101) = some r:=H
    have A8:=Aside0.mk A80
    clear A80
    obtain rfl:=Option.some.inj H
    go_wp2_with (first|(go_at_call 14;(with_reducible refine (contangolaw43_goes.calls kj3  t101 _ A8.out).mono ?_);rintro e w9 ⟨rfl,hb⟩;have n0_:=Aside0.mk (below_step (by repeat (first|(with_reducible first|exact HB.out|apply below_alloc|apply pw_below_drewN|apply below_drew1)|exact HB.out)) hb);clear HB;have HB:=n0_;clear n0_;(try clear hb);(try clear hb2);(try clear hk);(try clear hi)))
    repeat (go_quiet (first|(go_at_call 14;(with_reducible refine (contangolaw43_goes.calls kj3  t101 _ A8.out).mono ?_);rintro e w9 ⟨rfl,hb⟩;have n0_:=Aside0.mk (below_step (by repeat (first|(with_reducible first|exact HB.out|apply below_alloc|apply pw_below_drewN|apply below_drew1)|exact HB.out)) hb);clear HB;have HB:=n0_;clear n0_;(try clear hb);(try clear hb2);(try clear hk);(try clear hi)));try go_wp2_with (first|(go_at_call 14;(with_reducible refine (contangolaw43_goes.calls kj3  t101 _ A8.out).mono ?_);rintro e w9 ⟨rfl,hb⟩;have n0_:=Aside0.mk (below_step (by repeat (first|(with_reducible first|exact HB.out|apply below_alloc|apply pw_below_drewN|apply below_drew1)|exact HB.out)) hb);clear HB;have HB:=n0_;clear n0_;(try clear hb);(try clear hb2);(try clear hk);(try clear hi))))
    go_ret
    exact ⟨by first|rfl|(simp [errW_none,errW_some] <;> rfl)|(simp [*,errW_none,errW_some] <;> rfl),by repeat (first|(with_reducible first|exact HB.out|apply below_alloc|apply pw_below_drewN|apply below_drew1)|exact HB.out)⟩
   ·replace c7:=Bool.eq_false_iff.mpr c7
    subst c7
    have H1:((contangolaw43_to.f kj3 l2).bind fun t102=>((hedge_Plan.f l0 l1 t102).bind fun bt105=>((contangoref43_Plan.f kj3 l0 l1 l2).bind fun bt112=>(if (bt105.1.length:Int) = (bt112.1.length:Int) then ((contangoref43_Ints.f kj3 bt105.2.1 bt112.2.1).bind fun t119=>(if t119 = true then (if bt105.2.2 = bt112.2.2 then ((contangolaw43_to.f kj3 l2).bind fun t120=>((hedge_Check.f t120).bind fun t123=>((contangoref43_Check.f kj3 l2).bind fun t124=>(contangolaw43_HedgePlans.j1 kj3 bt105.1 bt112.1 (t123 != t124))))) else (contangolaw43_HedgePlans.j1 kj3 bt105.1 bt112.1 true)) else (contangolaw43_HedgePlans.j1 kj3 bt105.1 bt112.1 true))) else (contangolaw43_HedgePlans.j1 kj3 bt105.1 bt112.1 true))))) = some r:=by rw [if_neg (show ¬ (false = true) by decide)] at H;exact H
    clear H
    have H:=H1
    clear H1
    replace H:=Option.bind_eq_some_iff.mp H
    obtain ⟨t102,A100,H⟩:=H
    replace H:((hedge_Plan.f l0 l1 t102).bind fun bt105=>((contangoref43_Plan.f kj3 l0 l1 l2).bind fun bt112=>(if (bt105.1.length:Int) = (bt112.1.length:Int) then ((contangoref43_Ints.f kj3 bt105.2.1 bt112.2.1).bind fun t119=>(if t119 = true then (if bt105.2.2 = bt112.2.2 then ((contangolaw43_to.f kj3 l2).bind fun t120=>((hedge_Check.f t120).bind fun t123=>((contangoref43_Check.f kj3 l2).bind fun t124=>(contangolaw43_HedgePlans.j1 kj3 bt105.1 bt112.1 (t123 != t124))))) else (contangolaw43_HedgePlans.j1 kj3 bt105.1 bt112.1 true)) else (contangolaw43_HedgePlans.j1 kj3 bt105.1 bt112.1 true))) else (contangolaw43_HedgePlans.j1 kj3 bt105.1 bt112.1 true)))) = some r:=H
    have A10:=Aside0.mk A100
    clear A100
    replace H:=Option.bind_eq_some_iff.mp H
    obtain ⟨⟨t105,t106,t107⟩,A110,H⟩:=H
    replace H:((contangoref43_Plan.f kj3 l0 l1 l2).bind fun bt112=>(if (t105.length:Int) = (bt112.1.length:Int) then ((contangoref43_Ints.f kj3 t106 bt112.2.1).bind fun t119=>(if t119 = true then (if t107 = bt112.2.2 then ((contangolaw43_to.f kj3 l2).bind fun t120=>((hedge_Check.f t120).bind fun t123=>((contangoref43_Check.f kj3 l2).bind fun t124=>(contangolaw43_HedgePlans.j1 kj3 t105 bt112.1 (t123 != t124))))) else (contangolaw43_HedgePlans.j1 kj3 t105 bt112.1 true)) else (contangolaw43_HedgePlans.j1 kj3 t105 bt112.1 true))) else (contangolaw43_HedgePlans.j1 kj3 t105 bt112.1 true))) = some r:=H
    have A11:=Aside0.mk A110
    clear A110
    replace H:=Option.bind_eq_some_iff.mp H
    obtain ⟨⟨t112,t113,t114⟩,A120,H⟩:=H
    replace H:(if (t105.length:Int) = (t112.length:Int) then ((contangoref43_Ints.f kj3 t106 t113).bind fun t119=>(if t119 = true then (if t107 = t114 then ((contangolaw43_to.f kj3 l2).bind fun t120=>((hedge_Check.f t120).bind fun t123=>((contangoref43_Check.f kj3 l2).bind fun t124=>(contangolaw43_HedgePlans.j1 kj3 t105 t112 (t123 != t124))))) else (contangolaw43_HedgePlans.j1 kj3 t105 t112 true)) else (contangolaw43_HedgePlans.j1 kj3 t105 t112 true))) else (contangolaw43_HedgePlans.j1 kj3 t105 t112 true)) = some r:=H
    have A12:=Aside0.mk A120
    clear A120
    have HC13:=Aside0.mk H
    clear H
    go_upto_region 5 with (first|(go_at_call 16;(with_reducible refine (contangolaw43_to.calls kj3 _ _ l2 t102 _ ?side1 ?side2 A10.out).mono ?_);(case side1=>repeat (first|exact (Kd.C_below HR2.out HB.out)|(with_reducible refine Kd.C_alloc ?_ _)|(with_reducible refine Kd.C_drewN ?_ _)|(with_reducible refine Kd.C_drew ?_)));(case side2=>exact HC2.out);rintro e w14 ⟨v103,rfl,ho0,hb⟩;have n0_:=Aside0.mk (Kd.R_lower ho0 (below_size (by repeat (first|(with_reducible first|exact HB.out|apply below_alloc|apply pw_below_drewN|apply below_drew1)|exact HB.out))));have n1_:=Aside0.mk (below_step (by repeat (first|(with_reducible first|exact HB.out|apply below_alloc|apply pw_below_drewN|apply below_drew1)|exact HB.out)) hb);clear HB;have HO104:=n0_;have HB:=n1_;clear n0_ n1_;(try clear hb);(try clear hb2);(try clear hk);(try clear hi);(try clear ho0);obtain ⟨Ao15,co15,eo15⟩:=Kd.R_slice HO104.out;subst eo15)|(go_at_call 15;(with_reducible refine (hedge_Plan.calls _ _ l0 _ _ l1 _ _ t102 t105 t106 t107 _ ?side1 ?side2 ?side3 ?side4 ?side5 ?side6 A11.out).mono ?_);(case side1=>repeat (first|exact (Kd.C_below HR0.out HB.out)|(with_reducible refine Kd.C_alloc ?_ _)|(with_reducible refine Kd.C_drewN ?_ _)|(with_reducible refine Kd.C_drew ?_)));(case side2=>exact HC0.out);(case side3=>repeat (first|exact (Kd.C_below HR1.out HB.out)|(with_reducible refine Kd.C_alloc ?_ _)|(with_reducible refine Kd.C_drewN ?_ _)|(with_reducible refine Kd.C_drew ?_)));(case side4=>exact HC1.out);(case side5=>repeat (first|exact (Kd.R_reads' HO104.out).2.2|(with_reducible refine Kd.C_alloc ?_ _)|(with_reducible refine Kd.C_drewN ?_ _)|(with_reducible refine Kd.C_drew ?_)));(case side6=>exact (Kd.R_reads' HO104.out).2.1);rintro e w16 ⟨v108,v110,rfl,ho0,ho1,hb⟩;have n0_:=Aside0.mk (Kd.R_below (by (with_reducible repeat (first|apply Kd.R_alloc|apply Kd.R_drewN|apply Kd.R_drew));exact HO104.out) hb);have n1_:=Aside0.mk (Kd.R_lower ho0 (below_size (by repeat (first|(with_reducible first|exact HB.out|apply below_alloc|apply pw_below_drewN|apply below_drew1)|exact HB.out))));have n2_:=Aside0.mk (Kd.R_lower ho1 (below_size (by repeat (first|(with_reducible first|exact HB.out|apply below_alloc|apply pw_below_drewN|apply below_drew1)|exact HB.out))));have n3_:=Aside0.mk (below_step (by repeat (first|(with_reducible first|exact HB.out|apply below_alloc|apply pw_below_drewN|apply below_drew1)|exact HB.out)) hb);clear HO104;clear HB;have HO104:=n0_;have HO109:=n1_;have HO111:=n2_;have HB:=n3_;clear n0_ n1_ n2_ n3_;(try clear hb);(try clear hb2);(try clear hk);(try clear hi);(try clear ho0);(try clear ho1))|(go_at_call 17;(with_reducible refine (contangoref43_Plan.calls kj3 _ _ l0 _ _ l1 _ _ l2 t112 t113 t114 _ ?side1 ?side2 ?side3 ?side4 ?side5 ?side6 A12.out).mono ?_);(case side1=>repeat (first|exact (Kd.C_below HR0.out HB.out)|(with_reducible refine Kd.C_alloc ?_ _)|(with_reducible refine Kd.C_drewN ?_ _)|(with_reducible refine Kd.C_drew ?_)));(case side2=>exact HC0.out);(case side3=>repeat (first|exact (Kd.C_below HR1.out HB.out)|(with_reducible refine Kd.C_alloc ?_ _)|(with_reducible refine Kd.C_drewN ?_ _)|(with_reducible refine Kd.C_drew ?_)));(case side4=>exact HC1.out);(case side5=>repeat (first|exact (Kd.C_below HR2.out HB.out)|(with_reducible refine Kd.C_alloc ?_ _)|(with_reducible refine Kd.C_drewN ?_ _)|(with_reducible refine Kd.C_drew ?_)));(case side6=>exact HC2.out);rintro e w17 ⟨v115,v117,rfl,ho0,ho1,hb⟩;have n0_:=Aside0.mk (Kd.R_below (by (with_reducible repeat (first|apply Kd.R_alloc|apply Kd.R_drewN|apply Kd.R_drew));exact HO104.out) hb);have n1_:=Aside0.mk (Kd.R_below (by (with_reducible repeat (first|apply Kd.R_alloc|apply Kd.R_drewN|apply Kd.R_drew));exact HO109.out) hb);have n2_:=Aside0.mk (Kd.R_elder' (by (with_reducible repeat (first|apply Kd.R_alloc|apply Kd.R_drewN|apply Kd.R_drew));exact HO111.out) (Kd.R_base ho1) hb);have n3_:=Aside0.mk (Kd.R_lower ho0 (below_size (by repeat (first|(with_reducible first|exact HB.out|apply below_alloc|apply pw_below_drewN|apply below_drew1)|exact HB.out))));have n4_:=Aside0.mk (Kd.R_lower (Kd.R_new' ho1 (Kd.R_lt (by (with_reducible repeat (first|apply Kd.R_alloc|apply Kd.R_drewN|apply Kd.R_drew));exact HO111.out))) (below_size (by repeat (first|(with_reducible first|exact HB.out|apply below_alloc|apply pw_below_drewN|apply below_drew1)|exact HB.out))));have n5_:=Aside0.mk (below_step (by repeat (first|(with_reducible first|exact HB.out|apply below_alloc|apply pw_below_drewN|apply below_drew1)|exact HB.out)) hb);clear HO104;clear HO109;clear HO111;clear HB;have HO104:=n0_;have HO109:=n1_;have HO111:=n2_;have HO116:=n3_;have HO118:=n4_;have HB:=n5_;clear n0_ n1_ n2_ n3_ n4_ n5_;(try clear hb);(try clear hb2);(try clear hk);(try clear hi);(try clear ho0);(try clear ho1)))
    repeat (go_quiet (first|(go_at_call 16;(with_reducible refine (contangolaw43_to.calls kj3 _ _ l2 t102 _ ?side1 ?side2 A10.out).mono ?_);(case side1=>repeat (first|exact (Kd.C_below HR2.out HB.out)|(with_reducible refine Kd.C_alloc ?_ _)|(with_reducible refine Kd.C_drewN ?_ _)|(with_reducible refine Kd.C_drew ?_)));(case side2=>exact HC2.out);rintro e w14 ⟨v103,rfl,ho0,hb⟩;have n0_:=Aside0.mk (Kd.R_lower ho0 (below_size (by repeat (first|(with_reducible first|exact HB.out|apply below_alloc|apply pw_below_drewN|apply below_drew1)|exact HB.out))));have n1_:=Aside0.mk (below_step (by repeat (first|(with_reducible first|exact HB.out|apply below_alloc|apply pw_below_drewN|apply below_drew1)|exact HB.out)) hb);clear HB;have HO104:=n0_;have HB:=n1_;clear n0_ n1_;(try clear hb);(try clear hb2);(try clear hk);(try clear hi);(try clear ho0);obtain ⟨Ao15,co15,eo15⟩:=Kd.R_slice HO104.out;subst eo15)|(go_at_call 15;(with_reducible refine (hedge_Plan.calls _ _ l0 _ _ l1 _ _ t102 t105 t106 t107 _ ?side1 ?side2 ?side3 ?side4 ?side5 ?side6 A11.out).mono ?_);(case side1=>repeat (first|exact (Kd.C_below HR0.out HB.out)|(with_reducible refine Kd.C_alloc ?_ _)|(with_reducible refine Kd.C_drewN ?_ _)|(with_reducible refine Kd.C_drew ?_)));(case side2=>exact HC0.out);(case side3=>repeat (first|exact (Kd.C_below HR1.out HB.out)|(with_reducible refine Kd.C_alloc ?_ _)|(with_reducible refine Kd.C_drewN ?_ _)|(with_reducible refine Kd.C_drew ?_)));(case side4=>exact HC1.out);(case side5=>repeat (first|exact (Kd.R_reads' HO104.out).2.2|(with_reducible refine Kd.C_alloc ?_ _)|(with_reducible refine Kd.C_drewN ?_ _)|(with_reducible refine Kd.C_drew ?_)));(case side6=>exact (Kd.R_reads' HO104.out).2.1);rintro e w16 ⟨v108,v110,rfl,ho0,ho1,hb⟩;have n0_:=Aside0.mk (Kd.R_below (by (with_reducible repeat (first|apply Kd.R_alloc|apply Kd.R_drewN|apply Kd.R_drew));exact HO104.out) hb);have n1_:=Aside0.mk (Kd.R_lower ho0 (below_size (by repeat (first|(with_reducible first|exact HB.out|apply below_alloc|apply pw_below_drewN|apply below_drew1)|exact HB.out))));have n2_:=Aside0.mk (Kd.R_lower ho1 (below_size (by repeat (first|(with_reducible first|exact HB.out|apply below_alloc|apply pw_below_drewN|apply below_drew1)|exact HB.out))));have n3_:=Aside0.mk (below_step (by repeat (first|(with_reducible first|exact HB.out|apply below_alloc|apply pw_below_drewN|apply below_drew1)|exact HB.out)) hb);clear HO104;clear HB;have HO104:=n0_;have HO109:=n1_;have HO111:=n2_;have HB:=n3_;clear n0_ n1_ n2_ n3_;(try clear hb);(try clear hb2);(try clear hk);(try clear hi);(try clear ho0);(try clear ho1))|(go_at_call 17;(with_reducible refine (contangoref43_Plan.calls kj3 _ _ l0 _ _ l1 _ _ l2 t112 t113 t114 _ ?side1 ?side2 ?side3 ?side4 ?side5 ?side6 A12.out).mono ?_);(case side1=>repeat (first|exact (Kd.C_below HR0.out HB.out)|(with_reducible refine Kd.C_alloc ?_ _)|(with_reducible refine Kd.C_drewN ?_ _)|(with_reducible refine Kd.C_drew ?_)));(case side2=>exact HC0.out);(case side3=>repeat (first|exact (Kd.C_below HR1.out HB.out)|(with_reducible refine Kd.C_alloc ?_ _)|(with_reducible refine Kd.C_drewN ?_ _)|(with_reducible refine Kd.C_drew ?_)));(case side4=>exact HC1.out);(case side5=>repeat (first|exact (Kd.C_below HR2.out HB.out)|(with_reducible refine Kd.C_alloc ?_ _)|(with_reducible refine Kd.C_drewN ?_ _)|(with_reducible refine Kd.C_drew ?_)));(case side6=>exact HC2.out);rintro e w17 ⟨v115,v117,rfl,ho0,ho1,hb⟩;have n0_:=Aside0.mk (Kd.R_below (by (with_reducible repeat (first|apply Kd.R_alloc|apply Kd.R_drewN|apply Kd.R_drew));exact HO104.out) hb);have n1_:=Aside0.mk (Kd.R_below (by (with_reducible repeat (first|apply Kd.R_alloc|apply Kd.R_drewN|apply Kd.R_drew));exact HO109.out) hb);have n2_:=Aside0.mk (Kd.R_elder' (by (with_reducible repeat (first|apply Kd.R_alloc|apply Kd.R_drewN|apply Kd.R_drew));exact HO111.out) (Kd.R_base ho1) hb);have n3_:=Aside0.mk (Kd.R_lower ho0 (below_size (by repeat (first|(with_reducible first|exact HB.out|apply below_alloc|apply pw_below_drewN|apply below_drew1)|exact HB.out))));have n4_:=Aside0.mk (Kd.R_lower (Kd.R_new' ho1 (Kd.R_lt (by (with_reducible repeat (first|apply Kd.R_alloc|apply Kd.R_drewN|apply Kd.R_drew));exact HO111.out))) (below_size (by repeat (first|(with_reducible first|exact HB.out|apply below_alloc|apply pw_below_drewN|apply below_drew1)|exact HB.out))));have n5_:=Aside0.mk (below_step (by repeat (first|(with_reducible first|exact HB.out|apply below_alloc|apply pw_below_drewN|apply below_drew1)|exact HB.out)) hb);clear HO104;clear HO109;clear HO111;clear HB;have HO104:=n0_;have HO109:=n1_;have HO111:=n2_;have HO116:=n3_;have HO118:=n4_;have HB:=n5_;clear n0_ n1_ n2_ n3_ n4_ n5_;(try clear hb);(try clear hb2);(try clear hk);(try clear hi);(try clear ho0);(try clear ho1)));go_upto_region 5 with (first|(go_at_call 16;(with_reducible refine (contangolaw43_to.calls kj3 _ _ l2 t102 _ ?side1 ?side2 A10.out).mono ?_);(case side1=>repeat (first|exact (Kd.C_below HR2.out HB.out)|(with_reducible refine Kd.C_alloc ?_ _)|(with_reducible refine Kd.C_drewN ?_ _)|(with_reducible refine Kd.C_drew ?_)));(case side2=>exact HC2.out);rintro e w14 ⟨v103,rfl,ho0,hb⟩;have n0_:=Aside0.mk (Kd.R_lower ho0 (below_size (by repeat (first|(with_reducible first|exact HB.out|apply below_alloc|apply pw_below_drewN|apply below_drew1)|exact HB.out))));have n1_:=Aside0.mk (below_step (by repeat (first|(with_reducible first|exact HB.out|apply below_alloc|apply pw_below_drewN|apply below_drew1)|exact HB.out)) hb);clear HB;have HO104:=n0_;have HB:=n1_;clear n0_ n1_;(try clear hb);(try clear hb2);(try clear hk);(try clear hi);(try clear ho0);obtain ⟨Ao15,co15,eo15⟩:=Kd.R_slice HO104.out;subst eo15)|(go_at_call 15;(with_reducible refine (hedge_Plan.calls _ _ l0 _ _ l1 _ _ t102 t105 t106 t107 _ ?side1 ?side2 ?side3 ?side4 ?side5 ?side6 A11.out).mono ?_);(case side1=>repeat (first|exact (Kd.C_below HR0.out HB.out)|(with_reducible refine Kd.C_alloc ?_ _)|(with_reducible refine Kd.C_drewN ?_ _)|(with_reducible refine Kd.C_drew ?_)));(case side2=>exact HC0.out);(case side3=>repeat (first|exact (Kd.C_below HR1.out HB.out)|(with_reducible refine Kd.C_alloc ?_ _)|(with_reducible refine Kd.C_drewN ?_ _)|(with_reducible refine Kd.C_drew ?_)));(case side4=>exact HC1.out);(case side5=>repeat (first|exact (Kd.R_reads' HO104.out).2.2|(with_reducible refine Kd.C_alloc ?_ _)|(with_reducible refine Kd.C_drewN ?_ _)|(with_reducible refine Kd.C_drew ?_)));(case side6=>exact (Kd.R_reads' HO104.out).2.1);rintro e w16 ⟨v108,v110,rfl,ho0,ho1,hb⟩;have n0_:=Aside0.mk (Kd.R_below (by (with_reducible repeat (first|apply Kd.R_alloc|apply Kd.R_drewN|apply Kd.R_drew));exact HO104.out) hb);have n1_:=Aside0.mk (Kd.R_lower ho0 (below_size (by repeat (first|(with_reducible first|exact HB.out|apply below_alloc|apply pw_below_drewN|apply below_drew1)|exact HB.out))));have n2_:=Aside0.mk (Kd.R_lower ho1 (below_size (by repeat (first|(with_reducible first|exact HB.out|apply below_alloc|apply pw_below_drewN|apply below_drew1)|exact HB.out))));have n3_:=Aside0.mk (below_step (by repeat (first|(with_reducible first|exact HB.out|apply below_alloc|apply pw_below_drewN|apply below_drew1)|exact HB.out)) hb);clear HO104;clear HB;have HO104:=n0_;have HO109:=n1_;have HO111:=n2_;have HB:=n3_;clear n0_ n1_ n2_ n3_;(try clear hb);(try clear hb2);(try clear hk);(try clear hi);(try clear ho0);(try clear ho1))|(go_at_call 17;(with_reducible refine (contangoref43_Plan.calls kj3 _ _ l0 _ _ l1 _ _ l2 t112 t113 t114 _ ?side1 ?side2 ?side3 ?side4 ?side5 ?side6 A12.out).mono ?_);(case side1=>repeat (first|exact (Kd.C_below HR0.out HB.out)|(with_reducible refine Kd.C_alloc ?_ _)|(with_reducible refine Kd.C_drewN ?_ _)|(with_reducible refine Kd.C_drew ?_)));(case side2=>exact HC0.out);(case side3=>repeat (first|exact (Kd.C_below HR1.out HB.out)|(with_reducible refine Kd.C_alloc ?_ _)|(with_reducible refine Kd.C_drewN ?_ _)|(with_reducible refine Kd.C_drew ?_)));(case side4=>exact HC1.out);(case side5=>repeat (first|exact (Kd.C_below HR2.out HB.out)|(with_reducible refine Kd.C_alloc ?_ _)|(with_reducible refine Kd.C_drewN ?_ _)|(with_reducible refine Kd.C_drew ?_)));(case side6=>exact HC2.out);rintro e w17 ⟨v115,v117,rfl,ho0,ho1,hb⟩;have n0_:=Aside0.mk (Kd.R_below (by (with_reducible repeat (first|apply Kd.R_alloc|apply Kd.R_drewN|apply Kd.R_drew));exact HO104.out) hb);have n1_:=Aside0.mk (Kd.R_below (by (with_reducible repeat (first|apply Kd.R_alloc|apply Kd.R_drewN|apply Kd.R_drew));exact HO109.out) hb);have n2_:=Aside0.mk (Kd.R_elder' (by (with_reducible repeat (first|apply Kd.R_alloc|apply Kd.R_drewN|apply Kd.R_drew));exact HO111.out) (Kd.R_base ho1) hb);have n3_:=Aside0.mk (Kd.R_lower ho0 (below_size (by repeat (first|(with_reducible first|exact HB.out|apply below_alloc|apply pw_below_drewN|apply below_drew1)|exact HB.out))));have n4_:=Aside0.mk (Kd.R_lower (Kd.R_new' ho1 (Kd.R_lt (by (with_reducible repeat (first|apply Kd.R_alloc|apply Kd.R_drewN|apply Kd.R_drew));exact HO111.out))) (below_size (by repeat (first|(with_reducible first|exact HB.out|apply below_alloc|apply pw_below_drewN|apply below_drew1)|exact HB.out))));have n5_:=Aside0.mk (below_step (by repeat (first|(with_reducible first|exact HB.out|apply below_alloc|apply pw_below_drewN|apply below_drew1)|exact HB.out)) hb);clear HO104;clear HO109;clear HO111;clear HB;have HO104:=n0_;have HO109:=n1_;have HO111:=n2_;have HO116:=n3_;have HO118:=n4_;have HB:=n5_;clear n0_ n1_ n2_ n3_ n4_ n5_;(try clear hb);(try clear hb2);(try clear hk);(try clear hi);(try clear ho0);(try clear ho1))))
    (try simp only [Act.put,List.setIfInBounds_toArray,List.set_cons_zero,List.set_cons_succ])
    go_cut [68] (fun v68 wc=>∃ (kq:Nat) (x68_12:Bool),v68 = .bool x68_12 ∧ Aside0 (contangolaw43_HedgePlans.j1 kq t105 t112 x68_12 = some r) ∧ Aside0 (kq ≤ kj3) ∧ Aside0 (Kd.R k41 41 wc w.heap.size (fun _=>True) v108 t105) ∧ Aside0 (Kd.R k42 42 wc w.heap.size (fun _=>True) v115 t112) ∧ Aside0 (Below w.heap.size w wc))
    case first =>
     have H:=HC13.out
     clear HC13
     by_cases c18:(t105.length:Int) = (t112.length:Int)
     ·rw [if_pos c18] at H
      have c18b0:((t105.length:Int) == (t112.length:Int)) = true:=beq_iff_eq.mpr c18
      have c18b1:((t105.length:Int) != (t112.length:Int)) = false:=bne_eq_false_iff_eq.mpr c18
      have c18b2:(t105.length == t112.length) = true:=by first|simpa using c18|(simp at c18 ⊢;omega)
      clear c18
      (first|rw [c18b0]|(simp only [i64_w,i32_w];rw [c18b0])|skip)
      replace H:=Option.bind_eq_some_iff.mp H
      obtain ⟨t119,A190,H⟩:=H
      replace H:(if t119 = true then (if t107 = t114 then ((contangolaw43_to.f kj3 l2).bind fun t120=>((hedge_Check.f t120).bind fun t123=>((contangoref43_Check.f kj3 l2).bind fun t124=>(contangolaw43_HedgePlans.j1 kj3 t105 t112 (t123 != t124))))) else (contangolaw43_HedgePlans.j1 kj3 t105 t112 true)) else (contangolaw43_HedgePlans.j1 kj3 t105 t112 true)) = some r:=H
      have A19:=Aside0.mk A190
      clear A190
      by_cases c20:t119 = true
      ·subst c20
       have H1:(if t107 = t114 then ((contangolaw43_to.f kj3 l2).bind fun t120=>((hedge_Check.f t120).bind fun t123=>((contangoref43_Check.f kj3 l2).bind fun t124=>(contangolaw43_HedgePlans.j1 kj3 t105 t112 (t123 != t124))))) else (contangolaw43_HedgePlans.j1 kj3 t105 t112 true)) = some r:=by rw [if_pos rfl] at H;exact H
       clear H
       have H:=H1
       clear H1
       by_cases c21:t107 = t114
       ·rw [if_pos c21] at H
        have c21b0:(t107 == t114) = true:=beq_iff_eq.mpr c21
        have c21b1:(t107 != t114) = false:=bne_eq_false_iff_eq.mpr c21
        clear c21
        replace H:=Option.bind_eq_some_iff.mp H
        obtain ⟨t120,A220,H⟩:=H
        replace H:((hedge_Check.f t120).bind fun t123=>((contangoref43_Check.f kj3 l2).bind fun t124=>(contangolaw43_HedgePlans.j1 kj3 t105 t112 (t123 != t124)))) = some r:=H
        have A22:=Aside0.mk A220
        clear A220
        replace H:=Option.bind_eq_some_iff.mp H
        obtain ⟨t123,A230,H⟩:=H
        replace H:((contangoref43_Check.f kj3 l2).bind fun t124=>(contangolaw43_HedgePlans.j1 kj3 t105 t112 (t123 != t124))) = some r:=H
        have A23:=Aside0.mk A230
        clear A230
        replace H:=Option.bind_eq_some_iff.mp H
        obtain ⟨t124,A240,H⟩:=H
        replace H:(contangolaw43_HedgePlans.j1 kj3 t105 t112 (t123 != t124)) = some r:=H
        have A24:=Aside0.mk A240
        clear A240
        have H':=Aside0.mk H
        clear H
        obtain ⟨Ao25,co25,eo25⟩:=Kd.R_slice HO109.out
        subst eo25
        obtain ⟨Ao26,co26,eo26⟩:=Kd.R_slice HO116.out
        subst eo26
        obtain ⟨Ao27,co27,eo27⟩:=Kd.R_slice HO111.out
        subst eo27
        obtain ⟨Ao28,co28,eo28⟩:=Kd.R_slice HO118.out
        subst eo28
        go_wp2_with (first|(go_at_call 18;(with_reducible refine (contangoref43_Ints.calls kj3 _ _ t106 _ _ t113 true _ ?side1 ?side2 ?side3 ?side4 A19.out).mono ?_);(case side1=>repeat (first|exact (Kd.R_reads' HO111.out).2.2|(with_reducible refine Kd.C_alloc ?_ _)|(with_reducible refine Kd.C_drewN ?_ _)|(with_reducible refine Kd.C_drew ?_)));(case side2=>exact (Kd.R_reads' HO111.out).2.1);(case side3=>repeat (first|exact (Kd.R_reads' HO118.out).2.2|(with_reducible refine Kd.C_alloc ?_ _)|(with_reducible refine Kd.C_drewN ?_ _)|(with_reducible refine Kd.C_drew ?_)));(case side4=>exact (Kd.R_reads' HO118.out).2.1);rintro e w' ⟨rfl,⟨nd,rfl⟩⟩;(try first|exact ⟨rfl,_,World.drewN_drewN _ _ _⟩|exact ⟨rfl,_,Eq.trans (World.drewN_drewN _ _ _) (congrArg (World.drewN _) (Nat.add_assoc _ _ _))⟩))|(go_at_call 16;(with_reducible refine (contangolaw43_to.calls kj3 _ _ l2 t120 _ ?side1 ?side2 A22.out).mono ?_);(case side1=>repeat (first|exact (Kd.C_below HR2.out (by repeat (first|(with_reducible first|exact HB.out|apply below_alloc|apply pw_below_drewN|apply below_drew1)|exact HB.out)))|(with_reducible refine Kd.C_alloc ?_ _)|(with_reducible refine Kd.C_drewN ?_ _)|(with_reducible refine Kd.C_drew ?_)));(case side2=>exact HC2.out);rintro e w29 ⟨v121,rfl,ho0,hb⟩;have n0_:=Aside0.mk (Kd.R_elder' (by (with_reducible repeat (first|apply Kd.R_alloc|apply Kd.R_drewN|apply Kd.R_drew));exact HO104.out) (Kd.R_base ho0) hb);have n1_:=Aside0.mk (Kd.R_below (by (with_reducible repeat (first|apply Kd.R_alloc|apply Kd.R_drewN|apply Kd.R_drew));exact HO109.out) hb);have n2_:=Aside0.mk (Kd.R_below (by (with_reducible repeat (first|apply Kd.R_alloc|apply Kd.R_drewN|apply Kd.R_drew));exact HO111.out) hb);have n3_:=Aside0.mk (Kd.R_below (by (with_reducible repeat (first|apply Kd.R_alloc|apply Kd.R_drewN|apply Kd.R_drew));exact HO116.out) hb);have n4_:=Aside0.mk (Kd.R_below (by (with_reducible repeat (first|apply Kd.R_alloc|apply Kd.R_drewN|apply Kd.R_drew));exact HO118.out) hb);have n5_:=Aside0.mk (Kd.R_lower (Kd.R_new' ho0 (Kd.R_lt (by (with_reducible repeat (first|apply Kd.R_alloc|apply Kd.R_drewN|apply Kd.R_drew));exact HO104.out))) (below_size (by repeat (first|(with_reducible first|exact HB.out|apply below_alloc|apply pw_below_drewN|apply below_drew1)|exact HB.out))));have n6_:=Aside0.mk (below_step (by repeat (first|(with_reducible first|exact HB.out|apply below_alloc|apply pw_below_drewN|apply below_drew1)|exact HB.out)) hb);clear HO104;clear HO109;clear HO111;clear HO116;clear HO118;clear HB;have HO104:=n0_;have HO109:=n1_;have HO111:=n2_;have HO116:=n3_;have HO118:=n4_;have HO122:=n5_;have HB:=n6_;clear n0_ n1_ n2_ n3_ n4_ n5_ n6_;(try clear hb);(try clear hb2);(try clear hk);(try clear hi);(try clear ho0);obtain ⟨Ao30,co30,eo30⟩:=Kd.R_slice HO122.out;subst eo30)|(go_at_call 19;(with_reducible refine (hedge_Check.calls _ _ t120 t123 _ ?side1 ?side2 A23.out).mono ?_);(case side1=>repeat (first|exact (Kd.R_reads' HO122.out).2.2|(with_reducible refine Kd.C_alloc ?_ _)|(with_reducible refine Kd.C_drewN ?_ _)|(with_reducible refine Kd.C_drew ?_)));(case side2=>exact (Kd.R_reads' HO122.out).2.1);rintro e w31 ⟨rfl,hb⟩;have n0_:=Aside0.mk (Kd.R_below (by (with_reducible repeat (first|apply Kd.R_alloc|apply Kd.R_drewN|apply Kd.R_drew));exact HO104.out) hb);have n1_:=Aside0.mk (Kd.R_below (by (with_reducible repeat (first|apply Kd.R_alloc|apply Kd.R_drewN|apply Kd.R_drew));exact HO109.out) hb);have n2_:=Aside0.mk (Kd.R_below (by (with_reducible repeat (first|apply Kd.R_alloc|apply Kd.R_drewN|apply Kd.R_drew));exact HO111.out) hb);have n3_:=Aside0.mk (Kd.R_below (by (with_reducible repeat (first|apply Kd.R_alloc|apply Kd.R_drewN|apply Kd.R_drew));exact HO116.out) hb);have n4_:=Aside0.mk (Kd.R_below (by (with_reducible repeat (first|apply Kd.R_alloc|apply Kd.R_drewN|apply Kd.R_drew));exact HO118.out) hb);have n5_:=Aside0.mk (Kd.R_below (by (with_reducible repeat (first|apply Kd.R_alloc|apply Kd.R_drewN|apply Kd.R_drew));exact HO122.out) hb);have n6_:=Aside0.mk (below_step (by repeat (first|(with_reducible first|exact HB.out|apply below_alloc|apply pw_below_drewN|apply below_drew1)|exact HB.out)) hb);clear HO104;clear HO109;clear HO111;clear HO116;clear HO118;clear HO122;clear HB;have HO104:=n0_;have HO109:=n1_;have HO111:=n2_;have HO116:=n3_;have HO118:=n4_;have HO122:=n5_;have HB:=n6_;clear n0_ n1_ n2_ n3_ n4_ n5_ n6_;(try clear hb);(try clear hb2);(try clear hk);(try clear hi))|(go_at_call 20;(with_reducible refine (contangoref43_Check.calls kj3 _ _ l2 t124 _ ?side1 ?side2 A24.out).mono ?_);(case side1=>repeat (first|exact (Kd.C_below HR2.out HB.out)|(with_reducible refine Kd.C_alloc ?_ _)|(with_reducible refine Kd.C_drewN ?_ _)|(with_reducible refine Kd.C_drew ?_)));(case side2=>exact HC2.out);rintro e w' ⟨rfl,⟨nd,rfl⟩⟩;(try first|exact ⟨rfl,_,World.drewN_drewN _ _ _⟩|exact ⟨rfl,_,Eq.trans (World.drewN_drewN _ _ _) (congrArg (World.drewN _) (Nat.add_assoc _ _ _))⟩)))
        repeat (go_quiet (first|(go_at_call 18;(with_reducible refine (contangoref43_Ints.calls kj3 _ _ t106 _ _ t113 true _ ?side1 ?side2 ?side3 ?side4 A19.out).mono ?_);(case side1=>repeat (first|exact (Kd.R_reads' HO111.out).2.2|(with_reducible refine Kd.C_alloc ?_ _)|(with_reducible refine Kd.C_drewN ?_ _)|(with_reducible refine Kd.C_drew ?_)));(case side2=>exact (Kd.R_reads' HO111.out).2.1);(case side3=>repeat (first|exact (Kd.R_reads' HO118.out).2.2|(with_reducible refine Kd.C_alloc ?_ _)|(with_reducible refine Kd.C_drewN ?_ _)|(with_reducible refine Kd.C_drew ?_)));(case side4=>exact (Kd.R_reads' HO118.out).2.1);rintro e w' ⟨rfl,⟨nd,rfl⟩⟩;(try first|exact ⟨rfl,_,World.drewN_drewN _ _ _⟩|exact ⟨rfl,_,Eq.trans (World.drewN_drewN _ _ _) (congrArg (World.drewN _) (Nat.add_assoc _ _ _))⟩))|(go_at_call 16;(with_reducible refine (contangolaw43_to.calls kj3 _ _ l2 t120 _ ?side1 ?side2 A22.out).mono ?_);(case side1=>repeat (first|exact (Kd.C_below HR2.out (by repeat (first|(with_reducible first|exact HB.out|apply below_alloc|apply pw_below_drewN|apply below_drew1)|exact HB.out)))|(with_reducible refine Kd.C_alloc ?_ _)|(with_reducible refine Kd.C_drewN ?_ _)|(with_reducible refine Kd.C_drew ?_)));(case side2=>exact HC2.out);rintro e w29 ⟨v121,rfl,ho0,hb⟩;have n0_:=Aside0.mk (Kd.R_elder' (by (with_reducible repeat (first|apply Kd.R_alloc|apply Kd.R_drewN|apply Kd.R_drew));exact HO104.out) (Kd.R_base ho0) hb);have n1_:=Aside0.mk (Kd.R_below (by (with_reducible repeat (first|apply Kd.R_alloc|apply Kd.R_drewN|apply Kd.R_drew));exact HO109.out) hb);have n2_:=Aside0.mk (Kd.R_below (by (with_reducible repeat (first|apply Kd.R_alloc|apply Kd.R_drewN|apply Kd.R_drew));exact HO111.out) hb);have n3_:=Aside0.mk (Kd.R_below (by (with_reducible repeat (first|apply Kd.R_alloc|apply Kd.R_drewN|apply Kd.R_drew));exact HO116.out) hb);have n4_:=Aside0.mk (Kd.R_below (by (with_reducible repeat (first|apply Kd.R_alloc|apply Kd.R_drewN|apply Kd.R_drew));exact HO118.out) hb);have n5_:=Aside0.mk (Kd.R_lower (Kd.R_new' ho0 (Kd.R_lt (by (with_reducible repeat (first|apply Kd.R_alloc|apply Kd.R_drewN|apply Kd.R_drew));exact HO104.out))) (below_size (by repeat (first|(with_reducible first|exact HB.out|apply below_alloc|apply pw_below_drewN|apply below_drew1)|exact HB.out))));have n6_:=Aside0.mk (below_step (by repeat (first|(with_reducible first|exact HB.out|apply below_alloc|apply pw_below_drewN|apply below_drew1)|exact HB.out)) hb);clear HO104;clear HO109;clear HO111;clear HO116;clear HO118;clear HB;have HO104:=n0_;have HO109:=n1_;have HO111:=n2_;have HO116:=n3_;have HO118:=n4_;have HO122:=n5_;have HB:=n6_;clear n0_ n1_ n2_ n3_ n4_ n5_ n6_;(try clear hb);(try clear hb2);(try clear hk);(try clear hi);(try clear ho0);obtain ⟨Ao30,co30,eo30⟩:=Kd.R_slice HO122.out;subst eo30)|(go_at_call 19;(with_reducible refine (hedge_Check.calls _ _ t120 t123 _ ?side1 ?side2 A23.out).mono ?_);(case side1=>repeat (first|exact (Kd.R_reads' HO122.out).2.2|(with_reducible refine Kd.C_alloc ?_ _)|(with_reducible refine Kd.C_drewN ?_ _)|(with_reducible refine Kd.C_drew ?_)));(case side2=>exact (Kd.R_reads' HO122.out).2.1);rintro e w31 ⟨rfl,hb⟩;have n0_:=Aside0.mk (Kd.R_below (by (with_reducible repeat (first|apply Kd.R_alloc|apply Kd.R_drewN|apply Kd.R_drew));exact HO104.out) hb);have n1_:=Aside0.mk (Kd.R_below (by (with_reducible repeat (first|apply Kd.R_alloc|apply Kd.R_drewN|apply Kd.R_drew));exact HO109.out) hb);have n2_:=Aside0.mk (Kd.R_below (by (with_reducible repeat (first|apply Kd.R_alloc|apply Kd.R_drewN|apply Kd.R_drew));exact HO111.out) hb);have n3_:=Aside0.mk (Kd.R_below (by (with_reducible repeat (first|apply Kd.R_alloc|apply Kd.R_drewN|apply Kd.R_drew));exact HO116.out) hb);have n4_:=Aside0.mk (Kd.R_below (by (with_reducible repeat (first|apply Kd.R_alloc|apply Kd.R_drewN|apply Kd.R_drew));exact HO118.out) hb);have n5_:=Aside0.mk (Kd.R_below (by (with_reducible repeat (first|apply Kd.R_alloc|apply Kd.R_drewN|apply Kd.R_drew));exact HO122.out) hb);have n6_:=Aside0.mk (below_step (by repeat (first|(with_reducible first|exact HB.out|apply below_alloc|apply pw_below_drewN|apply below_drew1)|exact HB.out)) hb);clear HO104;clear HO109;clear HO111;clear HO116;clear HO118;clear HO122;clear HB;have HO104:=n0_;have HO109:=n1_;have HO111:=n2_;have HO116:=n3_;have HO118:=n4_;have HO122:=n5_;have HB:=n6_;clear n0_ n1_ n2_ n3_ n4_ n5_ n6_;(try clear hb);(try clear hb2);(try clear hk);(try clear hi))|(go_at_call 20;(with_reducible refine (contangoref43_Check.calls kj3 _ _ l2 t124 _ ?side1 ?side2 A24.out).mono ?_);(case side1=>repeat (first|exact (Kd.C_below HR2.out HB.out)|(with_reducible refine Kd.C_alloc ?_ _)|(with_reducible refine Kd.C_drewN ?_ _)|(with_reducible refine Kd.C_drew ?_)));(case side2=>exact HC2.out);rintro e w' ⟨rfl,⟨nd,rfl⟩⟩;(try first|exact ⟨rfl,_,World.drewN_drewN _ _ _⟩|exact ⟨rfl,_,Eq.trans (World.drewN_drewN _ _ _) (congrArg (World.drewN _) (Nat.add_assoc _ _ _))⟩)));try go_wp2_with (first|(go_at_call 18;(with_reducible refine (contangoref43_Ints.calls kj3 _ _ t106 _ _ t113 true _ ?side1 ?side2 ?side3 ?side4 A19.out).mono ?_);(case side1=>repeat (first|exact (Kd.R_reads' HO111.out).2.2|(with_reducible refine Kd.C_alloc ?_ _)|(with_reducible refine Kd.C_drewN ?_ _)|(with_reducible refine Kd.C_drew ?_)));(case side2=>exact (Kd.R_reads' HO111.out).2.1);(case side3=>repeat (first|exact (Kd.R_reads' HO118.out).2.2|(with_reducible refine Kd.C_alloc ?_ _)|(with_reducible refine Kd.C_drewN ?_ _)|(with_reducible refine Kd.C_drew ?_)));(case side4=>exact (Kd.R_reads' HO118.out).2.1);rintro e w' ⟨rfl,⟨nd,rfl⟩⟩;(try first|exact ⟨rfl,_,World.drewN_drewN _ _ _⟩|exact ⟨rfl,_,Eq.trans (World.drewN_drewN _ _ _) (congrArg (World.drewN _) (Nat.add_assoc _ _ _))⟩))|(go_at_call 16;(with_reducible refine (contangolaw43_to.calls kj3 _ _ l2 t120 _ ?side1 ?side2 A22.out).mono ?_);(case side1=>repeat (first|exact (Kd.C_below HR2.out (by repeat (first|(with_reducible first|exact HB.out|apply below_alloc|apply pw_below_drewN|apply below_drew1)|exact HB.out)))|(with_reducible refine Kd.C_alloc ?_ _)|(with_reducible refine Kd.C_drewN ?_ _)|(with_reducible refine Kd.C_drew ?_)));(case side2=>exact HC2.out);rintro e w29 ⟨v121,rfl,ho0,hb⟩;have n0_:=Aside0.mk (Kd.R_elder' (by (with_reducible repeat (first|apply Kd.R_alloc|apply Kd.R_drewN|apply Kd.R_drew));exact HO104.out) (Kd.R_base ho0) hb);have n1_:=Aside0.mk (Kd.R_below (by (with_reducible repeat (first|apply Kd.R_alloc|apply Kd.R_drewN|apply Kd.R_drew));exact HO109.out) hb);have n2_:=Aside0.mk (Kd.R_below (by (with_reducible repeat (first|apply Kd.R_alloc|apply Kd.R_drewN|apply Kd.R_drew));exact HO111.out) hb);have n3_:=Aside0.mk (Kd.R_below (by (with_reducible repeat (first|apply Kd.R_alloc|apply Kd.R_drewN|apply Kd.R_drew));exact HO116.out) hb);have n4_:=Aside0.mk (Kd.R_below (by (with_reducible repeat (first|apply Kd.R_alloc|apply Kd.R_drewN|apply Kd.R_drew));exact HO118.out) hb);have n5_:=Aside0.mk (Kd.R_lower (Kd.R_new' ho0 (Kd.R_lt (by (with_reducible repeat (first|apply Kd.R_alloc|apply Kd.R_drewN|apply Kd.R_drew));exact HO104.out))) (below_size (by repeat (first|(with_reducible first|exact HB.out|apply below_alloc|apply pw_below_drewN|apply below_drew1)|exact HB.out))));have n6_:=Aside0.mk (below_step (by repeat (first|(with_reducible first|exact HB.out|apply below_alloc|apply pw_below_drewN|apply below_drew1)|exact HB.out)) hb);clear HO104;clear HO109;clear HO111;clear HO116;clear HO118;clear HB;have HO104:=n0_;have HO109:=n1_;have HO111:=n2_;have HO116:=n3_;have HO118:=n4_;have HO122:=n5_;have HB:=n6_;clear n0_ n1_ n2_ n3_ n4_ n5_ n6_;(try clear hb);(try clear hb2);(try clear hk);(try clear hi);(try clear ho0);obtain ⟨Ao30,co30,eo30⟩:=Kd.R_slice HO122.out;subst eo30)|(go_at_call 19;(with_reducible refine (hedge_Check.calls _ _ t120 t123 _ ?side1 ?side2 A23.out).mono ?_);(case side1=>repeat (first|exact (Kd.R_reads' HO122.out).2.2|(with_reducible refine Kd.C_alloc ?_ _)|(with_reducible refine Kd.C_drewN ?_ _)|(with_reducible refine Kd.C_drew ?_)));(case side2=>exact (Kd.R_reads' HO122.out).2.1);rintro e w31 ⟨rfl,hb⟩;have n0_:=Aside0.mk (Kd.R_below (by (with_reducible repeat (first|apply Kd.R_alloc|apply Kd.R_drewN|apply Kd.R_drew));exact HO104.out) hb);have n1_:=Aside0.mk (Kd.R_below (by (with_reducible repeat (first|apply Kd.R_alloc|apply Kd.R_drewN|apply Kd.R_drew));exact HO109.out) hb);have n2_:=Aside0.mk (Kd.R_below (by (with_reducible repeat (first|apply Kd.R_alloc|apply Kd.R_drewN|apply Kd.R_drew));exact HO111.out) hb);have n3_:=Aside0.mk (Kd.R_below (by (with_reducible repeat (first|apply Kd.R_alloc|apply Kd.R_drewN|apply Kd.R_drew));exact HO116.out) hb);have n4_:=Aside0.mk (Kd.R_below (by (with_reducible repeat (first|apply Kd.R_alloc|apply Kd.R_drewN|apply Kd.R_drew));exact HO118.out) hb);have n5_:=Aside0.mk (Kd.R_below (by (with_reducible repeat (first|apply Kd.R_alloc|apply Kd.R_drewN|apply Kd.R_drew));exact HO122.out) hb);have n6_:=Aside0.mk (below_step (by repeat (first|(with_reducible first|exact HB.out|apply below_alloc|apply pw_below_drewN|apply below_drew1)|exact HB.out)) hb);clear HO104;clear HO109;clear HO111;clear HO116;clear HO118;clear HO122;clear HB;have HO104:=n0_;have HO109:=n1_;have HO111:=n2_;have HO116:=n3_;have HO118:=n4_;have HO122:=n5_;have HB:=n6_;clear n0_ n1_ n2_ n3_ n4_ n5_ n6_;(try clear hb);(try clear hb2);(try clear hk);(try clear hi))|(go_at_call 20;(with_reducible refine (contangoref43_Check.calls kj3 _ _ l2 t124 _ ?side1 ?side2 A24.out).mono ?_);(case side1=>repeat (first|exact (Kd.C_below HR2.out HB.out)|(with_reducible refine Kd.C_alloc ?_ _)|(with_reducible refine Kd.C_drewN ?_ _)|(with_reducible refine Kd.C_drew ?_)));(case side2=>exact HC2.out);rintro e w' ⟨rfl,⟨nd,rfl⟩⟩;(try first|exact ⟨rfl,_,World.drewN_drewN _ _ _⟩|exact ⟨rfl,_,Eq.trans (World.drewN_drewN _ _ _) (congrArg (World.drewN _) (Nat.add_assoc _ _ _))⟩))))
        go_meet
        case rel=>exact ⟨_,((t123 != t124)),(by first|rfl|(simp;done)|(simp [*];done)),H',⟨by have:=HJ3.out;first|omega|exact Nat.le_refl _⟩,⟨by (with_reducible repeat (first|apply Kd.R_alloc|apply Kd.R_drewN|apply Kd.R_drew));exact HO109.out⟩,⟨by (with_reducible repeat (first|apply Kd.R_alloc|apply Kd.R_drewN|apply Kd.R_drew));exact HO116.out⟩,⟨by repeat (first|(with_reducible first|exact HB.out|apply below_alloc|apply pw_below_drewN|apply below_drew1)|exact HB.out)⟩⟩
       ·rw [if_neg c21] at H
        have c21b0:(t107 == t114) = false:=beq_eq_false_iff_ne.mpr c21
        have c21b1:(t107 != t114) = true:=bne_iff_ne.mpr c21
        have H':=Aside0.mk H
        clear H
        obtain ⟨Ao32,co32,eo32⟩:=Kd.R_slice HO109.out
        subst eo32
        obtain ⟨Ao33,co33,eo33⟩:=Kd.R_slice HO116.out
        subst eo33
        obtain ⟨Ao34,co34,eo34⟩:=Kd.R_slice HO111.out
        subst eo34
        obtain ⟨Ao35,co35,eo35⟩:=Kd.R_slice HO118.out
        subst eo35
        go_wp2_with (first|(go_at_call 18;(with_reducible refine (contangoref43_Ints.calls kj3 _ _ t106 _ _ t113 true _ ?side1 ?side2 ?side3 ?side4 A19.out).mono ?_);(case side1=>repeat (first|exact (Kd.R_reads' HO111.out).2.2|(with_reducible refine Kd.C_alloc ?_ _)|(with_reducible refine Kd.C_drewN ?_ _)|(with_reducible refine Kd.C_drew ?_)));(case side2=>exact (Kd.R_reads' HO111.out).2.1);(case side3=>repeat (first|exact (Kd.R_reads' HO118.out).2.2|(with_reducible refine Kd.C_alloc ?_ _)|(with_reducible refine Kd.C_drewN ?_ _)|(with_reducible refine Kd.C_drew ?_)));(case side4=>exact (Kd.R_reads' HO118.out).2.1);rintro e w' ⟨rfl,⟨nd,rfl⟩⟩;(try first|exact ⟨rfl,_,World.drewN_drewN _ _ _⟩|exact ⟨rfl,_,Eq.trans (World.drewN_drewN _ _ _) (congrArg (World.drewN _) (Nat.add_assoc _ _ _))⟩)))
        repeat (go_quiet (first|(go_at_call 18;(with_reducible refine (contangoref43_Ints.calls kj3 _ _ t106 _ _ t113 true _ ?side1 ?side2 ?side3 ?side4 A19.out).mono ?_);(case side1=>repeat (first|exact (Kd.R_reads' HO111.out).2.2|(with_reducible refine Kd.C_alloc ?_ _)|(with_reducible refine Kd.C_drewN ?_ _)|(with_reducible refine Kd.C_drew ?_)));(case side2=>exact (Kd.R_reads' HO111.out).2.1);(case side3=>repeat (first|exact (Kd.R_reads' HO118.out).2.2|(with_reducible refine Kd.C_alloc ?_ _)|(with_reducible refine Kd.C_drewN ?_ _)|(with_reducible refine Kd.C_drew ?_)));(case side4=>exact (Kd.R_reads' HO118.out).2.1);rintro e w' ⟨rfl,⟨nd,rfl⟩⟩;(try first|exact ⟨rfl,_,World.drewN_drewN _ _ _⟩|exact ⟨rfl,_,Eq.trans (World.drewN_drewN _ _ _) (congrArg (World.drewN _) (Nat.add_assoc _ _ _))⟩)));try go_wp2_with (first|(go_at_call 18;(with_reducible refine (contangoref43_Ints.calls kj3 _ _ t106 _ _ t113 true _ ?side1 ?side2 ?side3 ?side4 A19.out).mono ?_);(case side1=>repeat (first|exact (Kd.R_reads' HO111.out).2.2|(with_reducible refine Kd.C_alloc ?_ _)|(with_reducible refine Kd.C_drewN ?_ _)|(with_reducible refine Kd.C_drew ?_)));(case side2=>exact (Kd.R_reads' HO111.out).2.1);(case side3=>repeat (first|exact (Kd.R_reads' HO118.out).2.2|(with_reducible refine Kd.C_alloc ?_ _)|(with_reducible refine Kd.C_drewN ?_ _)|(with_reducible refine Kd.C_drew ?_)));(case side4=>exact (Kd.R_reads' HO118.out).2.1);rintro e w' ⟨rfl,⟨nd,rfl⟩⟩;(try first|exact ⟨rfl,_,World.drewN_drewN _ _ _⟩|exact ⟨rfl,_,Eq.trans (World.drewN_drewN _ _ _) (congrArg (World.drewN _) (Nat.add_assoc _ _ _))⟩))))
        go_meet
        case rel=>exact ⟨_,(true),(by first|rfl|(simp;done)|(simp [*];done)),H',⟨by have:=HJ3.out;first|omega|exact Nat.le_refl _⟩,⟨by (with_reducible repeat (first|apply Kd.R_alloc|apply Kd.R_drewN|apply Kd.R_drew));exact HO109.out⟩,⟨by (with_reducible repeat (first|apply Kd.R_alloc|apply Kd.R_drewN|apply Kd.R_drew));exact HO116.out⟩,⟨by repeat (first|(with_reducible first|exact HB.out|apply below_alloc|apply pw_below_drewN|apply below_drew1)|exact HB.out)⟩⟩
      ·replace c20:=Bool.eq_false_iff.mpr c20
       subst c20
       have H1:(contangolaw43_HedgePlans.j1 kj3 t105 t112 true) = some r:=by rw [if_neg (show ¬ (false = true) by decide)] at H;exact H
       clear H
       have H:=H1
       clear H1
       have H':=Aside0.mk H
       clear H
       obtain ⟨Ao36,co36,eo36⟩:=Kd.R_slice HO109.out
       subst eo36
       obtain ⟨Ao37,co37,eo37⟩:=Kd.R_slice HO116.out
       subst eo37
       obtain ⟨Ao38,co38,eo38⟩:=Kd.R_slice HO111.out
       subst eo38
       obtain ⟨Ao39,co39,eo39⟩:=Kd.R_slice HO118.out
       subst eo39
       go_wp2_with (first|(go_at_call 18;(with_reducible refine (contangoref43_Ints.calls kj3 _ _ t106 _ _ t113 false _ ?side1 ?side2 ?side3 ?side4 A19.out).mono ?_);(case side1=>repeat (first|exact (Kd.R_reads' HO111.out).2.2|(with_reducible refine Kd.C_alloc ?_ _)|(with_reducible refine Kd.C_drewN ?_ _)|(with_reducible refine Kd.C_drew ?_)));(case side2=>exact (Kd.R_reads' HO111.out).2.1);(case side3=>repeat (first|exact (Kd.R_reads' HO118.out).2.2|(with_reducible refine Kd.C_alloc ?_ _)|(with_reducible refine Kd.C_drewN ?_ _)|(with_reducible refine Kd.C_drew ?_)));(case side4=>exact (Kd.R_reads' HO118.out).2.1);rintro e w' ⟨rfl,⟨nd,rfl⟩⟩;(try first|exact ⟨rfl,_,World.drewN_drewN _ _ _⟩|exact ⟨rfl,_,Eq.trans (World.drewN_drewN _ _ _) (congrArg (World.drewN _) (Nat.add_assoc _ _ _))⟩)))
       repeat (go_quiet (first|(go_at_call 18;(with_reducible refine (contangoref43_Ints.calls kj3 _ _ t106 _ _ t113 false _ ?side1 ?side2 ?side3 ?side4 A19.out).mono ?_);(case side1=>repeat (first|exact (Kd.R_reads' HO111.out).2.2|(with_reducible refine Kd.C_alloc ?_ _)|(with_reducible refine Kd.C_drewN ?_ _)|(with_reducible refine Kd.C_drew ?_)));(case side2=>exact (Kd.R_reads' HO111.out).2.1);(case side3=>repeat (first|exact (Kd.R_reads' HO118.out).2.2|(with_reducible refine Kd.C_alloc ?_ _)|(with_reducible refine Kd.C_drewN ?_ _)|(with_reducible refine Kd.C_drew ?_)));(case side4=>exact (Kd.R_reads' HO118.out).2.1);rintro e w' ⟨rfl,⟨nd,rfl⟩⟩;(try first|exact ⟨rfl,_,World.drewN_drewN _ _ _⟩|exact ⟨rfl,_,Eq.trans (World.drewN_drewN _ _ _) (congrArg (World.drewN _) (Nat.add_assoc _ _ _))⟩)));try go_wp2_with (first|(go_at_call 18;(with_reducible refine (contangoref43_Ints.calls kj3 _ _ t106 _ _ t113 false _ ?side1 ?side2 ?side3 ?side4 A19.out).mono ?_);(case side1=>repeat (first|exact (Kd.R_reads' HO111.out).2.2|(with_reducible refine Kd.C_alloc ?_ _)|(with_reducible refine Kd.C_drewN ?_ _)|(with_reducible refine Kd.C_drew ?_)));(case side2=>exact (Kd.R_reads' HO111.out).2.1);(case side3=>repeat (first|exact (Kd.R_reads' HO118.out).2.2|(with_reducible refine Kd.C_alloc ?_ _)|(with_reducible refine Kd.C_drewN ?_ _)|(with_reducible refine Kd.C_drew ?_)));(case side4=>exact (Kd.R_reads' HO118.out).2.1);rintro e w' ⟨rfl,⟨nd,rfl⟩⟩;(try first|exact ⟨rfl,_,World.drewN_drewN _ _ _⟩|exact ⟨rfl,_,Eq.trans (World.drewN_drewN _ _ _) (congrArg (World.drewN _) (Nat.add_assoc _ _ _))⟩))))
       go_meet
       case rel=>exact ⟨_,(true),(by first|rfl|(simp;done)|(simp [*];done)),H',⟨by have:=HJ3.out;first|omega|exact Nat.le_refl _⟩,⟨by (with_reducible repeat (first|apply Kd.R_alloc|apply Kd.R_drewN|apply Kd.R_drew));exact HO109.out⟩,⟨by (with_reducible repeat (first|apply Kd.R_alloc|apply Kd.R_drewN|apply Kd.R_drew));exact HO116.out⟩,⟨by repeat (first|(with_reducible first|exact HB.out|apply below_alloc|apply pw_below_drewN|apply below_drew1)|exact HB.out)⟩⟩
     ·rw [if_neg c18] at H
      have c18b0:((t105.length:Int) == (t112.length:Int)) = false:=beq_eq_false_iff_ne.mpr c18
      have c18b1:((t105.length:Int) != (t112.length:Int)) = true:=bne_iff_ne.mpr c18
      have c18b2:(t105.length == t112.length) = false:=by first|simpa using c18|(simp at c18 ⊢;omega)
      (first|rw [c18b0]|(simp only [i64_w,i32_w];rw [c18b0])|skip)
      have H':=Aside0.mk H
      clear H
      obtain ⟨Ao40,co40,eo40⟩:=Kd.R_slice HO109.out
      subst eo40
      obtain ⟨Ao41,co41,eo41⟩:=Kd.R_slice HO116.out
      subst eo41
      go_wp2
      repeat (go_quiet (fail);try go_wp2)
      go_meet
      case rel=>exact ⟨_,(true),(by first|rfl|(simp;done)|(simp [*];done)),H',⟨by have:=HJ3.out;first|omega|exact Nat.le_refl _⟩,⟨by (with_reducible repeat (first|apply Kd.R_alloc|apply Kd.R_drewN|apply Kd.R_drew));exact HO109.out⟩,⟨by (with_reducible repeat (first|apply Kd.R_alloc|apply Kd.R_drewN|apply Kd.R_drew));exact HO116.out⟩,⟨by repeat (first|(with_reducible first|exact HB.out|apply below_alloc|apply pw_below_drewN|apply below_drew1)|exact HB.out)⟩⟩
    case rest =>
     clear HC13
     try clear c1
     try clear c2
     try clear p2
     try clear c3
     try clear c5
     try clear c5b0
     try clear c5b1
     try clear c6
     try clear c6b0
     try clear c6b1
     try clear c7
     try clear c18
     try clear c18b0
     try clear c18b1
     try clear c18b2
     try clear c20
     try clear c21
     try clear c21b0
     try clear c21b1
     try clear p2
     obtain ⟨kq,x68_12,rfl,HA,HJ12,HO_7,HO_10,HB⟩:=hcut
     cases kq with
     | zero=>exact absurd HA.out (by simp [contangolaw43_HedgePlans.j1])
     | succ kj12 =>
      have H:=HA.out
      clear HA
      simp only [contangolaw43_HedgePlans.j1] at H
      by_cases c42:x68_12 = true
      ·subst c42
       have H1:(none) = some r:=by rw [if_pos rfl] at H;exact H
       clear H
       have H:=H1
       clear H1
       exact absurd H (by simp)
      ·replace c42:=Bool.eq_false_iff.mpr c42
       subst c42
       have H1:(contangolaw43_HedgePlans.l0 kj12 t105 t112 0) = some r:=by rw [if_neg (show ¬ (false = true) by decide)] at H;exact H
       clear H
       have H:=H1
       clear H1
       have H':=Aside0.mk H
       clear H
       go_wp2
       repeat (go_quiet (fail);try go_wp2)
       go_loopg [13] kj12 (fun kq v13 w'=>∃ (x13_3:Int),v13 = .int .i64 x13_3 ∧ Aside0 (contangolaw43_HedgePlans.l0 kq t105 t112 x13_3 = some r) ∧ Aside0 (kq ≤ kj12) ∧ Aside0 (Kd.R k41 41 w' w.heap.size (fun _=>True) v108 t105) ∧ Aside0 (Kd.R k42 42 w' w.heap.size (fun _=>True) v115 t112) ∧ Aside0 (Below w.heap.size w w'))
       case atStart=>exact ⟨(0),(by first|rfl|(simp;done)|(simp [*];done)),H',⟨Nat.le_refl _⟩,⟨by (with_reducible repeat (first|apply Kd.R_alloc|apply Kd.R_drewN|apply Kd.R_drew));exact HO_7.out⟩,⟨by (with_reducible repeat (first|apply Kd.R_alloc|apply Kd.R_drewN|apply Kd.R_drew));exact HO_10.out⟩,⟨by repeat (first|(with_reducible first|exact HB.out|apply below_alloc|apply pw_below_drewN|apply below_drew1)|exact HB.out)⟩⟩
       case round =>
        clear H'
        try clear c1
        try clear c2
        try clear p2
        try clear c3
        try clear c4
        try clear c5
        try clear c5b0
        try clear c5b1
        try clear c6
        try clear c6b0
        try clear c6b1
        try clear c7
        try clear c18
        try clear c18b0
        try clear c18b1
        try clear c18b2
        try clear c20
        try clear c21
        try clear c21b0
        try clear c21b1
        try clear c42
        try clear p2
        obtain ⟨x13_3,rfl,HA,HK3,HO_7,HO_10,HB⟩:=hrel
        cases gk with
        | zero=>exact absurd HA.out (by simp [contangolaw43_HedgePlans.l0])
        | succ k3 =>
         have H:=HA.out
         clear HA
         simp only [contangolaw43_HedgePlans.l0] at H
         by_cases c43:x13_3 < (t105.length:Int)
         ·rw [if_pos c43] at H
          have c43b0:decide (x13_3 < (t105.length:Int)) = true:=decide_eq_true c43
          clear c43
          by_cases c44:0 ≤ x13_3
          ·rw [if_pos c44] at H
           have c44b0:decide (0 ≤ x13_3) = true:=decide_eq_true c44
           clear c44
           by_cases c45:x13_3 < (t112.length:Int)
           ·rw [if_pos c45] at H
            have c45b0:decide (x13_3 < (t112.length:Int)) = true:=decide_eq_true c45
            clear c45
            by_cases c46:((!((((rd_T41 t105 x13_3).f0.f0).toList) == (((rd_T42 t112 x13_3).f0.f0).toList)) || (!(((rd_T41 t105 x13_3).f0.f1) == ((rd_T42 t112 x13_3).f0.f1)) || (!(((rd_T41 t105 x13_3).f0.f2) == ((rd_T42 t112 x13_3).f0.f2)) || (!(((rd_T41 t105 x13_3).f0.f3) == ((rd_T42 t112 x13_3).f0.f3)))))) || (!(((rd_T41 t105 x13_3).f1) == ((rd_T42 t112 x13_3).f1)))) = true
            ·rw [if_pos c46] at H
             exact absurd H (by simp)
            ·rw [if_neg c46] at H
             have c46b0:((!((((rd_T41 t105 x13_3).f0.f0).toList) == (((rd_T42 t112 x13_3).f0.f0).toList)) || (!(((rd_T41 t105 x13_3).f0.f1) == ((rd_T42 t112 x13_3).f0.f1)) || (!(((rd_T41 t105 x13_3).f0.f2) == ((rd_T42 t112 x13_3).f0.f2)) || (!(((rd_T41 t105 x13_3).f0.f3) == ((rd_T42 t112 x13_3).f0.f3)))))) || (!(((rd_T41 t105 x13_3).f1) == ((rd_T42 t112 x13_3).f1)))) = false:=by simpa using c46
             clear c46
             have H':=Aside0.mk H
             clear H
             obtain ⟨Ao47,co47,eo47⟩:=Kd.R_slice HO_7.out
             subst eo47
             have p125:0 ≤ (x13_3:Int):=of_decide_eq_true (by first|(with_reducible assumption)|assumption)
             have q125:x13_3 < (t105.length:Int):=of_decide_eq_true (by first|(with_reducible assumption)|assumption)
             obtain ⟨ad125,e125,hx125_0,hx125_1,hx125_2,hx125_3,hx125_4⟩:=at_T41 (Kd.R_reads' HO_7.out).2.2 x13_3 p125 q125
             cases e125
             replace p125:=eq_true p125
             replace q125:=eq_true q125
             obtain ⟨Ao48,co48,eo48⟩:=Kd.R_slice HO_10.out
             subst eo48
             have p126:0 ≤ (x13_3:Int):=of_decide_eq_true (by first|(with_reducible assumption)|assumption)
             have q126:x13_3 < (t112.length:Int):=of_decide_eq_true (by first|(with_reducible assumption)|assumption)
             obtain ⟨ad126,e126,hx126_0,hx126_1,hx126_2,hx126_3,hx126_4⟩:=at_T42 (Kd.R_reads' HO_10.out).2.2 x13_3 p126 q126
             cases e126
             replace p126:=eq_true p126
             replace q126:=eq_true q126
             go_wp2
             repeat (go_quiet (fail);try go_wp2)
             go_roundg k3
             case measure=>have:=HJ3.out;have:=HJ12.out;have:=HK3.out;omega
             case rel=>exact ⟨(wrap64 (x13_3 + 1)),(by first|rfl|(simp;done)|(simp [*];done)),H',⟨by have:=HJ3.out;have:=HJ12.out;have:=HK3.out;omega⟩,⟨by (with_reducible repeat (first|apply Kd.R_alloc|apply Kd.R_drewN|apply Kd.R_drew));exact HO_7.out⟩,⟨by (with_reducible repeat (first|apply Kd.R_alloc|apply Kd.R_drewN|apply Kd.R_drew));exact HO_10.out⟩,⟨by repeat (first|(with_reducible first|exact HB.out|apply below_alloc|apply pw_below_drewN|apply below_drew1)|exact HB.out)⟩⟩
           ·rw [if_neg c45] at H
            exact absurd H (by simp)
          ·rw [if_neg c44] at H
           exact absurd H (by simp)
         ·rw [if_neg c43] at H
          have c43b0:decide (x13_3 < (t105.length:Int)) = false:=decide_eq_false c43
          clear c43
          replace H:=Option.bind_eq_some_iff.mp H
          obtain ⟨t127,A490,H⟩:=H
          replace H:(some t127) = some r:=H
          have A49:=Aside0.mk A490
          clear A490
          obtain rfl:=Option.some.inj H
          obtain ⟨Ao50,co50,eo50⟩:=Kd.R_slice HO_7.out
          subst eo50
          go_wp2_with (first|(go_at_call 14;(with_reducible refine (contangolaw43_goes.calls k3  t127 _ A49.out).mono ?_);rintro e w51 ⟨rfl,hb⟩;have n0_:=Aside0.mk (Kd.R_below (by (with_reducible repeat (first|apply Kd.R_alloc|apply Kd.R_drewN|apply Kd.R_drew));exact HO_7.out) hb);have n1_:=Aside0.mk (Kd.R_below (by (with_reducible repeat (first|apply Kd.R_alloc|apply Kd.R_drewN|apply Kd.R_drew));exact HO_10.out) hb);have n2_:=Aside0.mk (below_step (by repeat (first|(with_reducible first|exact HB.out|apply below_alloc|apply pw_below_drewN|apply below_drew1)|exact HB.out)) hb);clear HO_7;clear HO_10;clear HB;have HO_7:=n0_;have HO_10:=n1_;have HB:=n2_;clear n0_ n1_ n2_;(try clear hb);(try clear hb2);(try clear hk);(try clear hi)))
          repeat (go_quiet (first|(go_at_call 14;(with_reducible refine (contangolaw43_goes.calls k3  t127 _ A49.out).mono ?_);rintro e w51 ⟨rfl,hb⟩;have n0_:=Aside0.mk (Kd.R_below (by (with_reducible repeat (first|apply Kd.R_alloc|apply Kd.R_drewN|apply Kd.R_drew));exact HO_7.out) hb);have n1_:=Aside0.mk (Kd.R_below (by (with_reducible repeat (first|apply Kd.R_alloc|apply Kd.R_drewN|apply Kd.R_drew));exact HO_10.out) hb);have n2_:=Aside0.mk (below_step (by repeat (first|(with_reducible first|exact HB.out|apply below_alloc|apply pw_below_drewN|apply below_drew1)|exact HB.out)) hb);clear HO_7;clear HO_10;clear HB;have HO_7:=n0_;have HO_10:=n1_;have HB:=n2_;clear n0_ n1_ n2_;(try clear hb);(try clear hb2);(try clear hk);(try clear hi)));try go_wp2_with (first|(go_at_call 14;(with_reducible refine (contangolaw43_goes.calls k3  t127 _ A49.out).mono ?_);rintro e w51 ⟨rfl,hb⟩;have n0_:=Aside0.mk (Kd.R_below (by (with_reducible repeat (first|apply Kd.R_alloc|apply Kd.R_drewN|apply Kd.R_drew));exact HO_7.out) hb);have n1_:=Aside0.mk (Kd.R_below (by (with_reducible repeat (first|apply Kd.R_alloc|apply Kd.R_drewN|apply Kd.R_drew));exact HO_10.out) hb);have n2_:=Aside0.mk (below_step (by repeat (first|(with_reducible first|exact HB.out|apply below_alloc|apply pw_below_drewN|apply below_drew1)|exact HB.out)) hb);clear HO_7;clear HO_10;clear HB;have HO_7:=n0_;have HO_10:=n1_;have HB:=n2_;clear n0_ n1_ n2_;(try clear hb);(try clear hb2);(try clear hk);(try clear hi))))
          go_ret
          exact ⟨by first|rfl|(simp [errW_none,errW_some] <;> rfl)|(simp [*,errW_none,errW_some] <;> rfl),by repeat (first|(with_reducible first|exact HB.out|apply below_alloc|apply pw_below_drewN|apply below_drew1)|exact HB.out)⟩
end Go.Proofs.Ytbgeceiddcokmaa.X
end
section
namespace Go.Proofs.Ytbgeceiddcokmaa.P
set_option linter.unusedVariables false
set_option linter.unusedSimpArgs false
open Go.RowKit Go.Proofs.YtbgeceiddcokmaaW.PrintWords Go.Proofs.YtbgeceiddcokmaaW.PrintMore Go.Proofs.Ytbgeceiddcokmaa.X
abbrev HG:=S92
abbrev OG:=S41
abbrev SG:=S39
structure Act3 where
 q:Nat
 h:HG
 b:Int
def nextLeft (left:List Int) (x:Nat × HG):List Int:=left.set x.1 (left.getD x.1 0 + bestS (left.getD x.1 0) x.2.f1 x.2.f2 * x.2.f1)
def acts:List (Nat × HG) → List Int → List Act3
 | [],_=>[]
 | x :: t,left=>if bestS (left.getD x.1 0) x.2.f1 x.2.f2 = 0 then acts t left else ⟨x.1,x.2,bestS (left.getD x.1 0) x.2.f1 x.2.f2⟩ :: acts t (nextLeft left x)
def ordOf (a:Act3):OG:=⟨a.h.f0,a.b⟩
theorem acts_orders:∀ (l:List (Nat × HG)) (out:List OG) (left:List Int),(l.foldl planStep (out,left)).1 = out ++ (acts l left).map ordOf
 | [],out,left=>by simp [acts]
 | x :: t,out,left=>by
  rw [List.foldl_cons]
  unfold planStep acts
  by_cases c:bestS (left.getD x.1 0) x.2.f1 x.2.f2 = 0
  ·rw [if_pos c,if_pos c];exact acts_orders t out left
  ·rw [if_neg c,if_neg c]
   have:=acts_orders t (out ++ [⟨x.2.f0,bestS (left.getD x.1 0) x.2.f1 x.2.f2⟩]) (nextLeft left x)
   rw [List.map_cons]
   rw [List.append_assoc] at this
   exact this
theorem acts_len (l:List (Nat × HG)) (out:List OG) (left:List Int):(l.foldl planStep (out,left)).2.length = left.length:=by
 induction l generalizing out left with
 | nil=>rfl
 | cons x t ih =>
  rw [List.foldl_cons]
  exact (ih (planStep (out,left) x).1 (planStep (out,left) x).2).trans (planStep_len (out,left) x).1
theorem acts_sub:∀ (l:List (Nat × HG)) (left:List Int),((acts l left).map (·.h)).Sublist (l.map (·.2))
 | [],_=>by simp [acts]
 | x :: t,left=>by
  unfold acts
  by_cases c:bestS (left.getD x.1 0) x.2.f1 x.2.f2 = 0
  ·rw [if_pos c,List.map_cons];exact (acts_sub t left).cons _
  ·rw [if_neg c,List.map_cons,List.map_cons];exact (acts_sub t _).cons_cons _
theorem sel_sub (names:List ByteArray):∀ l:List HG,((sel names l).map (·.2)).Sublist l
 | []=>by simp [sel]
 | h :: t=>by
  have ih:=sel_sub names t
  unfold sel at ih ⊢
  rw [List.filterMap_cons]
  cases e:findS names h.f0.f0 with
  | none=>simpa using ih.cons h
  | some i=>simpa using ih.cons_cons h
def serEq (a b:SG):Bool:=a.f0.toList == b.f0.toList && (a.f1 == b.f1 && (a.f2 == b.f2 && a.f3 == b.f3))
theorem go_some:∀ (l:List HG) (seen:List SG),(∀ h ∈ l,serOk h.f0 = true) → ∃ e,hedgeGo seen l = some e
 | [],seen,_=>⟨0,rfl⟩
 | t :: r,seen,h=>by
  unfold hedgeGo
  rw [if_pos (h t (by simp)),ask_f,Option.bind_some]
  by_cases h2:askE t.f1 t.f2 = 0
  ·rw [if_pos h2]
   by_cases h3:serHas seen t.f0 = true
   ·rw [if_pos h3];exact ⟨_,rfl⟩
   ·rw [if_neg h3];exact go_some r _ (fun x hx=>h x (by simp [hx]))
  ·rw [if_neg h2];exact ⟨_,rfl⟩
theorem check_some {l:List HG} (h:∀ x ∈ l,serOk x.f0 = true):∃ e,hedge_Check.f l = some e:=by
 unfold hedge_Check.f
 by_cases c:(1024:Int) < (l.length:Int)
 ·rw [if_pos c];exact ⟨_,rfl⟩
 ·rw [if_neg c];exact go_some l [] h
end Go.Proofs.Ytbgeceiddcokmaa.P
end
section
namespace Go.Proofs.Ytbgeceiddcokmaa.P
set_option linter.unusedVariables false
set_option linter.unusedSimpArgs false
open Go.RowKit Go.Proofs.YtbgeceiddcokmaaW.PrintWords Go.Proofs.YtbgeceiddcokmaaW.PrintMore Go.Proofs.Ytbgeceiddcokmaa.X
abbrev RH:=S54
def toH (h:RH):HG:=⟨h.f0,h.f1,h.f2⟩
theorem rdRH (l:List RH) (i:Nat) (h:i < l.length):rd_T54 l (i:Int) = l[i]:=by simp [rd_T54,h]
theorem toLoop (l:List RH) (hl:l.length ≤ 1100):∀ (d i:Nat),i + d = l.length → Ev (fun k=>contangolaw43_to.l0 k l ((l.take i).map toH) i) (l.map toH)
 | 0,i,hd=>by
  refine Ev_succ ?_
  simp only [contangolaw43_to.l0,if_neg (show ¬ ((i:Int) < (l.length:Int)) by omega)]
  rw [List.take_of_length_le (by omega)]
  exact Ev.now _
 | d + 1,i,hd=>by
  have hi:i < l.length:=by omega
  have ih:=toLoop l hl d (i + 1) (by omega)
  rw [List.take_succ_eq_append_getElem hi,List.map_append,List.map_cons,List.map_nil] at ih
  have hlen:((l.take i).map toH).length < 2513169434916:=by rw [List.length_map,List.length_take];omega
  refine Ev_succ ?_
  simp only [contangolaw43_to.l0,if_pos (show (i:Int) < (l.length:Int) by omega),if_pos (show 0 ≤ (i:Int) by omega),if_pos hlen,rdRH l i hi,w_succ hi (by omega)]
  exact ih
theorem to_f (l:List RH) (hl:l.length ≤ 1100):Ev (fun k=>contangolaw43_to.f k l) (l.map toH):=toLoop l hl l.length 0 (by omega)
theorem ser_ok {l:List RH} (h:∀ x ∈ l,ok54 x):∀ x ∈ l.map toH,serOk x.f0 = true:=by
 intro x hx
 obtain ⟨y,hy,rfl⟩:=List.mem_map.1 hx
 have:=h y hy
 simp only [ok54,ok39] at this
 obtain ⟨⟨h1,h2,h3,h4⟩,_⟩:=this
 simp only [serOk,toH,Bool.and_eq_true,decide_eq_true_eq]
 have hmx:maxLen = 9223372036854775807:=rfl
 refine ⟨?_,h2,h3,h4⟩
 exact decide_eq_true (by omega)
end Go.Proofs.Ytbgeceiddcokmaa.P
end
section
namespace Go.Proofs.Ytbgeceiddcokmaa.P
set_option linter.unusedVariables false
set_option linter.unusedSimpArgs false
open Go.RowKit Go.Proofs.YtbgeceiddcokmaaW.PrintWords Go.Proofs.YtbgeceiddcokmaaW.PrintMore Go.Proofs.Ytbgeceiddcokmaa.X
def bestAll (d o m:Int):Int × Int:=if -1099511627776 ≤ d ∧ d ≤ 1099511627776 then (if askE o m = 0 then (bestS d o m,0) else (0,askE o m)) else (0,2)
theorem withinR_f (d:Int):contangoref43_within.f d = some (decide (-1099511627776 ≤ d ∧ d ≤ 1099511627776)):=by
 unfold contangoref43_within.f
 by_cases c:d ≥ -1099511627776
 ·rw [if_pos c]
  congr 1
  rw [decide_eq_decide];omega
 ·rw [if_neg c,decide_eq_false (by omega)]
theorem oneR_f (k:Nat) (o m:Int):contangoref43_one.f (k + 1) o m = some (askE o m):=by
 unfold contangoref43_one.f askE
 by_cases h0:o = 0
 ·rw [if_pos h0,if_pos (Or.inl h0)]
  simp only [contangoref43_one.j0,if_true]
 ·rw [if_neg h0]
  by_cases h1:o < -1000
  ·rw [if_pos h1,if_pos (Or.inr (Or.inl h1))]
   simp only [contangoref43_one.j0,if_true]
  ·rw [if_neg h1]
   by_cases h2:o > 1000
   ·rw [if_pos (Or.inr (Or.inr h2))]
    simp only [contangoref43_one.j0,decide_eq_true h2,if_true]
   ·rw [if_neg (show ¬ (o = 0 ∨ o < -1000 ∨ 1000 < o) by omega)]
    simp only [contangoref43_one.j0,decide_eq_false h2,Bool.false_eq_true,if_false]
    by_cases h3:m < 0
    ·rw [if_pos h3,if_pos (Or.inl h3)]
    ·rw [if_neg h3]
     by_cases h4:m > 1048576
     ·rw [if_pos h4,if_pos (Or.inr h4)]
     ·rw [if_neg h4,if_neg (show ¬ (m < 0 ∨ 1048576 < m) by omega)]
theorem sizeR_f (n:Int) (h:-4611686018427387904 ≤ n) (h':n ≤ 4611686018427387904):contangoref43_size.f n = some (absI n):=by
 unfold contangoref43_size.f absI
 by_cases c:n < 0
 ·rw [if_pos c,if_pos c,w_id (by omega) (by omega)]
 ·rw [if_neg c,if_neg c]
theorem lotsQ_eq {d o m:Int} (ho:askOk o m):lotsQ d o m = (if (if 2 * (absI d % absI o) > absI o then absI d / absI o + 1 else absI d / absI o) > m then m else (if 2 * (absI d % absI o) > absI o then absI d / absI o + 1 else absI d / absI o)):=by
 unfold askOk at ho
 have hs:=absI_pos ho.1
 have hm:=Int.emod_add_mul_ediv (absI d) (absI o)
 have h1:=Int.emod_nonneg (absI d) (show absI o ≠ 0 by omega)
 have h2:=Int.emod_lt_of_pos (absI d) hs
 rw [Int.mul_comm] at hm
 have e:(absI d / absI o + 1) * absI o = absI d / absI o * absI o + absI o:=by rw [Int.add_mul,Int.one_mul]
 obtain ⟨p,hp⟩:∃ p,p = absI d / absI o * absI o:=⟨_,rfl⟩
 have hiff:(absI d / absI o + 1) * absI o - absI d < absI d - absI d / absI o * absI o ↔ 2 * (absI d % absI o) > absI o:=by
  rw [e,← hp]
  rw [← hp] at hm
  omega
 unfold lotsQ
 have key:∀ q:Int,(if q < m ∧ 2 * (absI d % absI o) > absI o then q + 1 else if m < q then m else q) = (if (if 2 * (absI d % absI o) > absI o then q + 1 else q) > m then m else (if 2 * (absI d % absI o) > absI o then q + 1 else q)):=by
  intro q
  by_cases c1:2 * (absI d % absI o) > absI o
  ·simp only [c1,and_true,if_true]
   split <;> split <;> (try split) <;> omega
  ·simp only [c1,and_false,if_false]
 rw [← key]
 simp only [hiff]
theorem bestRef_f (d o m:Int):Ev (fun k=>contangoref43_Best.f k d o m) (bestAll d o m):=by
 refine Ev_succ ?_
 refine Ev_all (fun k=>?_)
 unfold bestAll contangoref43_Best.f
 rw [withinR_f]
 by_cases hd:-1099511627776 ≤ d ∧ d ≤ 1099511627776
 ·rw [if_pos hd,decide_eq_true hd]
  simp only [Option.bind_some,if_true,oneR_f]
  by_cases ha:askE o m = 0
  ·have ho:=askE_ok ha
   have ho':=ho
   unfold askOk at ho
   have hs:=absI_pos ho.1
   have hs2:absI o ≤ 1000:=absI_le (by omega) (by omega)
   have hd0:=absI_nonneg d
   have hd1:absI d ≤ 1099511627776:=absI_le (by omega) (by omega)
   have h0:0 ≤ absI d / absI o:=Int.ediv_nonneg hd0 (by omega)
   have hq:absI d / absI o ≤ absI d:=Int.ediv_le_self _ hd0
   have h1:=Int.emod_nonneg (absI d) (show absI o ≠ 0 by omega)
   have h2:=Int.emod_lt_of_pos (absI d) hs
   have hb:=lotsQ_bounds (d:=d) ho'
   simp only [if_pos ha,sizeR_f d (by omega) (by omega),sizeR_f o (by omega) (by omega),Option.bind_some,if_neg (show ¬ absI o = 0 by omega)]
   rw [Int.tdiv_eq_ediv_of_nonneg hd0,Int.tmod_eq_emod_of_nonneg hd0,w_id (x:=absI d / absI o) (by omega) (by omega),w_id (x:=2 * (absI d % absI o)) (by omega) (by omega),w_id (x:=absI d / absI o + 1) (by omega) (by omega)]
   have hQ:=lotsQ_eq (d:=d) ho'
   have key:∀ n:Int,0 ≤ n → lotsQ d o m = (if n > m then m else n) → contangoref43_Best.j0 (k + 1) d o m n = some (bestS d o m,0):=by
    intro n hn hl
    unfold bestS
    rw [hl] at hb ⊢
    simp only [contangoref43_Best.j0]
    by_cases c:n > m
    ·simp only [if_pos c] at hb ⊢
     by_cases c3:decide (d > 0) = decide (o > 0)
     ·rw [if_pos (by rw [c3];exact beq_self_eq_true _),if_pos c3,w_id (by omega) (by omega)]
     ·rw [if_neg (by rw [beq_iff_eq];exact c3),if_neg c3]
    ·simp only [if_neg c] at hb ⊢
     by_cases c3:decide (d > 0) = decide (o > 0)
     ·rw [if_pos (by rw [c3];exact beq_self_eq_true _),if_pos c3,w_id (by omega) (by omega)]
     ·rw [if_neg (by rw [beq_iff_eq];exact c3),if_neg c3]
   by_cases c1:2 * (absI d % absI o) > absI o
   ·rw [if_pos c1]
    rw [if_pos c1] at hQ
    exact key _ (by omega) hQ
   ·rw [if_neg c1]
    rw [if_neg c1] at hQ
    exact key _ (by omega) hQ
  ·simp only [if_neg ha]
 ·rw [if_neg hd,decide_eq_false hd]
  simp only [Option.bind_some,Bool.false_eq_true,if_false]
end Go.Proofs.Ytbgeceiddcokmaa.P
end
section
namespace Go.Proofs.Ytbgeceiddcokmaa.P
set_option linter.unusedVariables false
set_option linter.unusedSimpArgs false
open Go.RowKit Go.Proofs.YtbgeceiddcokmaaW.PrintWords Go.Proofs.YtbgeceiddcokmaaW.PrintMore Go.Proofs.Ytbgeceiddcokmaa.X
abbrev RO:=S42
def toO (o:RO):OG:=⟨o.f0,o.f1⟩
def eqAt (l:List RH) (i:Nat) (s:SG) (j:Nat):Bool:=((l.take i).drop j).any fun x=>serEq (toH x).f0 s
theorem refInner (l:List RH) (hl:l.length ≤ 1024) (i:Nat) (hi:i < l.length) (R:Int) (hR:Ev (fun k=>contangoref43_Check.l0 k l ((i + 1:Nat):Int)) R) :
  ∀ (d j:Nat),j + d = i → Ev (fun k=>contangoref43_Check.l1 k l i j) (if eqAt l i (toH l[i]).f0 j = true then 19 else R)
 | 0,j,hj=>by
  have hji:j = i:=by omega
  subst hji
  have e:eqAt l j (toH l[j]).f0 j = false:=by unfold eqAt;rw [List.drop_of_length_le (by rw [List.length_take];omega)];rfl
  rw [e,if_neg (by decide)]
  refine Ev_succ ?_
  simp only [contangoref43_Check.l1,if_neg (show ¬ ((j:Int) < (j:Int)) by omega),w_succ hi (by omega)]
  exact hR
 | d + 1,j,hj=>by
  have hjl:j < l.length:=by omega
  have ih:=refInner l hl i hi R hR d (j + 1) (by omega)
  have hjt:j < (l.take i).length:=by rw [List.length_take];omega
  have e:eqAt l i (toH l[i]).f0 j = (serEq (toH l[j]).f0 (toH l[i]).f0 || eqAt l i (toH l[i]).f0 (j + 1)):=by
   unfold eqAt
   rw [drop_cons (l.take i) j hjt,List.any_cons,List.getElem_take]
  rw [e]
  refine Ev_succ ?_
  simp only [contangoref43_Check.l1,if_pos (show (j:Int) < (i:Int) by omega),if_pos (show 0 ≤ (j:Int) by omega),if_pos (show (j:Int) < (l.length:Int) by omega),if_pos (show 0 ≤ (i:Int) by omega),if_pos (show (i:Int) < (l.length:Int) by omega),rdRH l j hjl,rdRH l i hi,w_succ hjl (by omega)]
  have hs:((l[j].f0.f0).toList == (l[i].f0.f0).toList && (l[j].f0.f1 == l[i].f0.f1 && (l[j].f0.f2 == l[i].f0.f2 && l[j].f0.f3 == l[i].f0.f3))) = serEq (toH l[j]).f0 (toH l[i]).f0:=rfl
  rw [hs]
  by_cases c:serEq (toH l[j]).f0 (toH l[i]).f0 = true
  ·rw [c,Bool.true_or]
   simp only [if_true]
   exact Ev.now _
  ·have cf:serEq (toH l[j]).f0 (toH l[i]).f0 = false:=by simpa using c
   rw [cf,Bool.false_or]
   simp only [Bool.false_eq_true,if_false]
   exact ih
theorem refInner' (l:List RH) (hl:l.length ≤ 1024) (i:Nat) (hi:i < l.length) (h3:eqAt l i (toH l[i]).f0 0 = true):Ev (fun k=>contangoref43_Check.l1 k l i 0) 19:=by
 have key:∀ (d j:Nat),j + d = i → eqAt l i (toH l[i]).f0 j = true → Ev (fun k=>contangoref43_Check.l1 k l i j) 19:=by
  intro d
  induction d with
  | zero =>
   intro j hj h
   have hji:j = i:=by omega
   subst hji
   unfold eqAt at h
   rw [List.drop_of_length_le (by rw [List.length_take];omega)] at h
   cases h
  | succ d ih =>
   intro j hj h
   have hjl:j < l.length:=by omega
   have hjt:j < (l.take i).length:=by rw [List.length_take];omega
   have e:eqAt l i (toH l[i]).f0 j = (serEq (toH l[j]).f0 (toH l[i]).f0 || eqAt l i (toH l[i]).f0 (j + 1)):=by
    unfold eqAt
    rw [drop_cons (l.take i) j hjt,List.any_cons,List.getElem_take]
   rw [e] at h
   refine Ev_succ ?_
   simp only [contangoref43_Check.l1,if_pos (show (j:Int) < (i:Int) by omega),if_pos (show 0 ≤ (j:Int) by omega),if_pos (show (j:Int) < (l.length:Int) by omega),if_pos (show 0 ≤ (i:Int) by omega),if_pos (show (i:Int) < (l.length:Int) by omega),rdRH l j hjl,rdRH l i hi,w_succ hjl (by omega)]
   have hs:((l[j].f0.f0).toList == (l[i].f0.f0).toList && (l[j].f0.f1 == l[i].f0.f1 && (l[j].f0.f2 == l[i].f0.f2 && l[j].f0.f3 == l[i].f0.f3))) = serEq (toH l[j]).f0 (toH l[i]).f0:=rfl
   rw [hs]
   by_cases c:serEq (toH l[j]).f0 (toH l[i]).f0 = true
   ·rw [c]
    simp only [if_true]
    exact Ev.now _
   ·have cf:serEq (toH l[j]).f0 (toH l[i]).f0 = false:=by simpa using c
    rw [cf,Bool.false_or] at h
    rw [cf]
    simp only [Bool.false_eq_true,if_false]
    exact ih (j + 1) (by omega) h
 exact key i 0 (by omega) h3
theorem refHedgeLoop (l:List RH) (hl:l.length ≤ 1024):∀ (d i:Nat) (e:Int),i + d = l.length → hedgeGo (((l.map toH).take i).map (·.f0)).reverse ((l.map toH).drop i) = some e → Ev (fun k=>contangoref43_Check.l0 k l i) e
 | 0,i,e,hd,h=>by
  rw [List.drop_of_length_le (by rw [List.length_map];omega)] at h
  obtain rfl:=Option.some.inj h
  refine Ev_succ ?_
  simp only [contangoref43_Check.l0,if_neg (show ¬ ((i:Int) < (l.length:Int)) by omega)]
  exact Ev.now _
 | d + 1,i,e,hd,h=>by
  have hi:i < l.length:=by omega
  have hi':i < (l.map toH).length:=by simpa using hi
  rw [drop_cons (l.map toH) i hi',List.getElem_map] at h
  unfold hedgeGo at h
  by_cases h1:serOk (toH l[i]).f0 = true
  ·rw [if_pos h1,ask_f,Option.bind_some] at h
   refine Ev_succ ?_
   simp only [contangoref43_Check.l0,if_pos (show (i:Int) < (l.length:Int) by omega),if_pos (show 0 ≤ (i:Int) by omega),rdRH l i hi]
   have hone:Ev (fun k=>contangoref43_one.f k l[i].f1 l[i].f2) (askE l[i].f1 l[i].f2):=Ev_succ (Ev_all (fun k=>oneR_f k _ _))
   refine Ev_bind hone ?_
   by_cases h2:askE (toH l[i]).f1 (toH l[i]).f2 = 0
   ·rw [if_pos h2] at h
    have h2':askE l[i].f1 l[i].f2 = 0:=h2
    simp only [if_pos h2']
    have hany:serHas (((l.map toH).take i).map (·.f0)).reverse (toH l[i]).f0 = eqAt l i (toH l[i]).f0 0:=by
     unfold serHas eqAt
     rw [List.any_reverse,List.any_map,List.drop_zero,← List.map_take,List.any_map]
     rfl
    by_cases h3:serHas (((l.map toH).take i).map (·.f0)).reverse (toH l[i]).f0 = true
    ·rw [if_pos h3] at h
     obtain rfl:=Option.some.inj h
     rw [hany] at h3
     have:=refInner' l hl i hi h3
     exact this
    ·rw [if_neg h3] at h
     have hnext:hedgeGo (((l.map toH).take (i + 1)).map (·.f0)).reverse ((l.map toH).drop (i + 1)) = some e:=by
      rw [List.take_succ_eq_append_getElem hi',List.map_append,List.reverse_append,List.getElem_map]
      exact h
     have hR:=refHedgeLoop l hl d (i + 1) e (by omega) hnext
     have:=refInner l hl i hi e hR i 0 (by omega)
     rw [← hany,if_neg h3] at this
     exact this
   ·rw [if_neg h2] at h
    have h2':¬ askE l[i].f1 l[i].f2 = 0:=h2
    obtain rfl:=Option.some.inj h
    simp only [if_neg h2']
    exact Ev.now _
  ·rw [if_neg h1] at h;cases h
theorem refHedge_f (l:List RH) (hl:l.length ≤ 1100) {e:Int} (h:hedge_Check.f (l.map toH) = some e):Ev (fun k=>contangoref43_Check.f k l) e:=by
 unfold hedge_Check.f at h
 unfold contangoref43_Check.f
 rw [List.length_map] at h
 by_cases c:(1024:Int) < (l.length:Int)
 ·rw [if_pos c] at h
  obtain rfl:=Option.some.inj h
  simp only [if_pos (show (l.length:Int) > 1024 from c)]
  exact Ev.now _
 ·rw [if_neg c] at h
  simp only [if_neg (show ¬ (l.length:Int) > 1024 from c)]
  exact refHedgeLoop l (by omega) l.length 0 e (by omega) (by simpa using h)
def refStep (st:List RO × List Int) (x:Nat × HG):List RO × List Int :=
 if bestS (st.2.getD x.1 0) x.2.f1 x.2.f2 = 0 then st else (st.1 ++ [⟨x.2.f0,bestS (st.2.getD x.1 0) x.2.f1 x.2.f2⟩],st.2.set x.1 (st.2.getD x.1 0 + bestS (st.2.getD x.1 0) x.2.f1 x.2.f2 * x.2.f1))
theorem ref_fold:∀ (s:List (Nat × HG)) (out:List RO) (left:List Int),((s.foldl refStep (out,left)).1.map toO,(s.foldl refStep (out,left)).2) = s.foldl planStep (out.map toO,left)
 | [],out,left=>rfl
 | x :: t,out,left=>by
  rw [List.foldl_cons,List.foldl_cons]
  unfold refStep planStep
  by_cases c:bestS (left.getD x.1 0) x.2.f1 x.2.f2 = 0
  ·rw [if_pos c,if_pos c];exact ref_fold t out left
  ·rw [if_neg c,if_neg c]
   have:=ref_fold t (out ++ [⟨x.2.f0,bestS (left.getD x.1 0) x.2.f1 x.2.f2⟩]) (left.set x.1 (left.getD x.1 0 + bestS (left.getD x.1 0) x.2.f1 x.2.f2 * x.2.f1))
   rw [List.map_append] at this
   exact this
section
variable (names:List ByteArray) (l:List RH) (hl:l.length ≤ 1024) (hn:names.length ≤ 200) (hasc:AscN names)
include hl hn
theorem refSkip (out:List RO) (left:List Int) (i:Nat) (hi:i < l.length) (r:List RO × List Int × Int) (hr:Ev (fun k=>contangoref43_Plan.l1 k names l out left ((i + 1:Nat):Int)) r) :
  ∀ (d j:Nat),j + d = names.length → (∀ q (h:q < names.length),j ≤ q → names[q].toList ≠ l[i].f0.f0.toList) → Ev (fun k=>contangoref43_Plan.l2 k names l out left i j) r
 | 0,j,hj,h=>by
  refine Ev_succ ?_
  simp only [contangoref43_Plan.l2,if_neg (show ¬ ((j:Int) < (names.length:Int)) by omega),w_succ hi (by omega)]
  exact hr
 | d + 1,j,hj,h=>by
  have hjn:j < names.length:=by omega
  refine Ev_succ ?_
  simp only [contangoref43_Plan.l2,if_pos (show (j:Int) < (names.length:Int) by omega),if_pos (show 0 ≤ (j:Int) by omega),if_pos (show 0 ≤ (i:Int) by omega),if_pos (show (i:Int) < (l.length:Int) by omega),rdS names j hjn,rdRH l i hi,if_neg (h j hjn (Nat.le_refl _)),w_succ hjn (by omega)]
  exact refSkip out left i hi r hr d (j + 1) (by omega) (fun q hq hle=>h q hq (by omega))
include hasc
theorem refHit (out:List RO) (left:List Int) (i:Nat) (hi:i < l.length) (hout:out.length ≤ 1024) (q:Nat) (hq:findS names l[i].f0.f0 = some q) (hll:left.length = names.length) (hak:askOk l[i].f1 l[i].f2) (hin:∀ y ∈ left,-1099511627776 ≤ y ∧ y ≤ 1099511627776)
  (r:List RO × List Int × Int) (hr:Ev (fun k=>contangoref43_Plan.l1 k names l (refStep (out,left) (q,toH l[i])).1 (refStep (out,left) (q,toH l[i])).2 ((i + 1:Nat):Int)) r) :
  ∀ (d j:Nat),j + d = q → Ev (fun k=>contangoref43_Plan.l2 k names l out left i j) r
 | 0,j,hj=>by
  have hjq:j = q:=by omega
  subst hjq
  obtain ⟨hjn,he,_⟩:=List.findIdx?_eq_some_iff_getElem.1 hq
  have he':names[j].toList = l[i].f0.f0.toList:=by simpa using he
  have hjl:j < left.length:=by omega
  have hd:rd left (j:Int) = left.getD j 0:=by simp [rd]
  have hmem:left.getD j 0 ∈ left:=by rw [List.getD,List.getElem?_eq_getElem hjl];exact List.getElem_mem hjl
  have hdr:=hin _ hmem
  have hbest:Ev (fun k=>contangoref43_Best.f k (left.getD j 0) l[i].f1 l[i].f2) (bestS (left.getD j 0) l[i].f1 l[i].f2,0):=by
   have:=bestRef_f (left.getD j 0) l[i].f1 l[i].f2
   unfold bestAll at this
   rw [if_pos hdr,if_pos (askE_of hak)] at this
   exact this
  have hrest:∀ p (h:p < names.length),j + 1 ≤ p → names[p].toList ≠ l[i].f0.f0.toList:=by
   intro p hp hle e
   have:=asc_lt hasc (show j < p by omega) hp
   rw [he',e,bl_self] at this
   cases this
  refine Ev_succ ?_
  simp only [contangoref43_Plan.l2,if_pos (show (j:Int) < (names.length:Int) by omega),if_pos (show 0 ≤ (j:Int) by omega),if_pos (show 0 ≤ (i:Int) by omega),if_pos (show (i:Int) < (l.length:Int) by omega),rdS names j hjn,rdRH l i hi,if_pos he',if_pos (show (j:Int) < (left.length:Int) by omega),hd]
  refine Ev_bind hbest ?_
  simp only [left_wrap hak hdr.1 hdr.2,Option.bind_some,Int.toNat_natCast,w_succ hjn (by omega)]
  unfold refStep at hr
  have hf:(toH l[i]).f1 = l[i].f1:=rfl
  have hg:(toH l[i]).f2 = l[i].f2:=rfl
  simp only [hf,hg] at hr
  by_cases c:bestS (left.getD j 0) l[i].f1 l[i].f2 = 0
  ·simp only [if_pos c] at hr ⊢
   have e:left.set j (left.getD j 0 + bestS (left.getD j 0) l[i].f1 l[i].f2 * l[i].f1) = left:=by
    rw [c,Int.zero_mul,Int.add_zero,List.getD,List.getElem?_eq_getElem hjl]
    simp
   rw [e]
   exact refSkip names l hl hn out left i hi r hr (names.length - (j + 1)) (j + 1) (by omega) hrest
  ·simp only [if_neg c] at hr ⊢
   simp only [if_pos (show out.length < 2932031007402 by omega)]
   exact refSkip names l hl hn _ _ i hi r hr (names.length - (j + 1)) (j + 1) (by omega) hrest
 | d + 1,j,hj=>by
  obtain ⟨hqn,he,hmin⟩:=List.findIdx?_eq_some_iff_getElem.1 hq
  have hjn:j < names.length:=by omega
  have hne:names[j].toList ≠ l[i].f0.f0.toList:=by
   have:=hmin j (by omega)
   simpa using this
  refine Ev_succ ?_
  simp only [contangoref43_Plan.l2,if_pos (show (j:Int) < (names.length:Int) by omega),if_pos (show 0 ≤ (j:Int) by omega),if_pos (show 0 ≤ (i:Int) by omega),if_pos (show (i:Int) < (l.length:Int) by omega),rdS names j hjn,rdRH l i hi,if_neg hne,w_succ hjn (by omega)]
  exact refHit out left i hi hout q hq hll hak hin r hr d (j + 1) (by omega)
theorem refFold (hask:∀ h ∈ l,askOk h.f1 h.f2):∀ (d i:Nat) (out:List RO) (left:List Int),i + d = l.length → out.length ≤ i → left.length = names.length → (∀ y ∈ left,-1099511627776 ≤ y ∧ y ≤ 1099511627776) →
  Ev (fun k=>contangoref43_Plan.l1 k names l out left i) (((sel names ((l.map toH).drop i)).foldl refStep (out,left)).1,((sel names ((l.map toH).drop i)).foldl refStep (out,left)).2,0)
 | 0,i,out,left,hd,_,_,_=>by
  refine Ev_succ ?_
  simp only [contangoref43_Plan.l1,if_neg (show ¬ ((i:Int) < (l.length:Int)) by omega)]
  rw [List.drop_of_length_le (by rw [List.length_map];omega)]
  exact Ev.now _
 | d + 1,i,out,left,hd,ho,hll,hin=>by
  have hi:i < l.length:=by omega
  have hi':i < (l.map toH).length:=by simpa using hi
  have hak:=hask _ (List.getElem_mem hi)
  rw [drop_cons (l.map toH) i hi',List.getElem_map]
  refine Ev_succ ?_
  simp only [contangoref43_Plan.l1,if_pos (show (i:Int) < (l.length:Int) by omega)]
  cases hf:findS names l[i].f0.f0 with
  | none =>
   have e:sel names (toH l[i] :: (l.map toH).drop (i + 1)) = sel names ((l.map toH).drop (i + 1)):=by
    unfold sel
    rw [List.filterMap_cons]
    have:findS names (toH l[i]).f0.f0 = none:=hf
    rw [this]
    rfl
   rw [e]
   refine refSkip names l hl hn out left i hi _ (refFold hask d (i + 1) out left (by omega) (by omega) hll hin) names.length 0 (by omega) (fun q hq _=>?_)
   have:=List.findIdx?_eq_none_iff.1 hf names[q] (List.getElem_mem hq)
   simpa using this
  | some q =>
   have e:sel names (toH l[i] :: (l.map toH).drop (i + 1)) = (q,toH l[i]) :: sel names ((l.map toH).drop (i + 1)):=by
    unfold sel
    rw [List.filterMap_cons]
    have:findS names (toH l[i]).f0.f0 = some q:=hf
    rw [this]
    rfl
   rw [e,List.foldl_cons]
   have hq:=findS_lt hf
   have hst:=planStep_len (out.map toO,left) (q,toH l[i])
   have hsm:=planStep_small (out.map toO,left) (q,toH l[i]) hak (by show q < left.length;omega) hin
   have hrs:((refStep (out,left) (q,toH l[i])).1.map toO,(refStep (out,left) (q,toH l[i])).2) = planStep (out.map toO,left) (q,toH l[i]):=by
    have:=ref_fold [(q,toH l[i])] out left
    simpa using this
   rw [← hrs] at hst hsm
   dsimp only at hst hsm
   rw [List.length_map,List.length_map] at hst
   refine refHit names l hl hn hasc out left i hi (by omega) q hf hll hak hin _ (refFold hask d (i + 1) _ _ (by omega) (by omega) (by omega) hsm) q 0 (by omega)
end
def badFrom (names:List ByteArray) (deltas:List Int) (i:Nat):Bool:=((List.range names.length).drop i).any (planBadAt names deltas)
theorem refNames (names:List ByteArray) (deltas:List Int) (l:List RH) (hn:names.length ≤ 200) (hd:deltas.length = names.length) (r:List RO × List Int × Int) (hr:badFrom names deltas 0 = false → Ev (fun k=>contangoref43_Plan.l1 k names l [] deltas 0) r) :
  ∀ (d i:Nat),i + d = names.length → (badFrom names deltas i = false → badFrom names deltas 0 = false) → Ev (fun k=>contangoref43_Plan.l0 k names deltas l i) (if badFrom names deltas i = true then ([],[],2) else r)
 | 0,i,hi,hz=>by
  have e:badFrom names deltas i = false:=by unfold badFrom;rw [List.drop_of_length_le (by rw [List.length_range];omega)];rfl
  rw [e,if_neg (by decide)]
  refine Ev_succ ?_
  simp only [contangoref43_Plan.l0,if_neg (show ¬ ((i:Int) < (names.length:Int)) by omega),List.length_nil,List.nil_append,if_pos (show 0 + deltas.length < 17592186044416 by omega)]
  exact hr (hz e)
 | d + 1,i,hi,hz=>by
  have hin:i < names.length:=by omega
  have hir:i < (List.range names.length).length:=by rw [List.length_range];omega
  have e:badFrom names deltas i = (planBadAt names deltas i || badFrom names deltas (i + 1)):=by
   unfold badFrom
   rw [drop_cons _ i hir,List.any_cons,List.getElem_range]
  have hdd:rd deltas (i:Int) = deltas.getD i 0:=by simp [rd]
  have hnm:∀ j,j < names.length → rdOf ByteArray.empty names (j:Int) = names.getD j ByteArray.empty:=fun j _=>by simp [rdOf]
  rw [e] at hz
  rw [e]
  have hnext:planBadAt names deltas i = false → Ev (fun k=>contangoref43_Plan.l0 k names deltas l ((i + 1:Nat):Int)) (if badFrom names deltas (i + 1) = true then ([],[],2) else r):=fun h =>
   refNames names deltas l hn hd r hr d (i + 1) (by omega) (fun h2=>hz (by rw [h,h2];rfl))
  refine Ev_succ ?_
  simp only [contangoref43_Plan.l0,if_pos (show (i:Int) < (names.length:Int) by omega),if_pos (show 0 ≤ (i:Int) by omega),if_pos (show (i:Int) < (deltas.length:Int) by omega),hdd,withinR_f,Option.bind_some,w_succ hin (by omega)]
  have hw:decide (-1099511627776 ≤ deltas.getD i 0 ∧ deltas.getD i 0 ≤ 1099511627776) = (decide (-1099511627776 ≤ deltas.getD i 0) && decide (deltas.getD i 0 ≤ 1099511627776)):=by
   rw [Bool.eq_iff_iff];simp
  rw [hw]
  by_cases h0:i = 0
  ·subst h0
   simp only [if_neg (show ¬ (((0:Nat):Int) > 0) by omega)]
   have hb:planBadAt names deltas 0 = !(decide (-1099511627776 ≤ deltas.getD 0 0) && decide (deltas.getD 0 0 ≤ 1099511627776)):=by simp [planBadAt]
   by_cases c:(decide (-1099511627776 ≤ deltas.getD 0 0) && decide (deltas.getD 0 0 ≤ 1099511627776)) = true
   ·rw [c] at hb ⊢
    rw [hb]
    simp only [if_true,Bool.not_true,Bool.false_or]
    exact hnext hb
   ·have cf:(decide (-1099511627776 ≤ deltas.getD 0 0) && decide (deltas.getD 0 0 ≤ 1099511627776)) = false:=by simpa using c
    rw [cf] at hb ⊢
    rw [hb]
    simp only [Bool.false_eq_true,if_false,Bool.not_false,Bool.true_or,if_true]
    exact Ev.now _
  ·have hp:=w_pred (show 0 < i by omega) (by omega)
   simp only [if_pos (show ((i:Int) > 0) by omega),hp,if_pos (show 0 ≤ ((i - 1:Nat):Int) by omega),if_pos (show ((i - 1:Nat):Int) < (names.length:Int) by omega),hnm (i - 1) (by omega),hnm i hin]
   have hb:planBadAt names deltas i = (!(Op.bytesLess (names.getD (i - 1) ByteArray.empty).toList (names.getD i ByteArray.empty).toList) || !(decide (-1099511627776 ≤ deltas.getD i 0) && decide (deltas.getD i 0 ≤ 1099511627776))):=by
    unfold planBadAt
    rw [decide_eq_true (show 0 < i by omega),Bool.true_and]
   by_cases c0:Op.bytesLess (names.getD (i - 1) ByteArray.empty).toList (names.getD i ByteArray.empty).toList = true
   ·rw [c0] at hb ⊢
    simp only [if_true]
    by_cases c:(decide (-1099511627776 ≤ deltas.getD i 0) && decide (deltas.getD i 0 ≤ 1099511627776)) = true
    ·rw [c] at hb ⊢
     rw [hb]
     simp only [if_true,Bool.not_true,Bool.or_self,Bool.false_or]
     exact hnext hb
    ·have cf:(decide (-1099511627776 ≤ deltas.getD i 0) && decide (deltas.getD i 0 ≤ 1099511627776)) = false:=by simpa using c
     rw [cf] at hb ⊢
     rw [hb]
     simp only [Bool.false_eq_true,if_false,Bool.not_false,Bool.not_true,Bool.false_or,Bool.true_or,if_true]
     exact Ev.now _
   ·have c0f:Op.bytesLess (names.getD (i - 1) ByteArray.empty).toList (names.getD i ByteArray.empty).toList = false:=by simpa using c0
    rw [c0f] at hb ⊢
    rw [hb]
    simp only [Bool.false_eq_true,if_false,Bool.not_false,Bool.true_or,if_true]
    exact Ev.now _
theorem badFrom_zero (names:List ByteArray) (deltas:List Int):badFrom names deltas 0 = planBad names deltas:=by unfold badFrom planBad;rw [List.drop_zero]
theorem plans_same (names:List ByteArray) (deltas:List Int) (l:List RH) (hn:names.length ≤ 200) (hd:deltas.length ≤ 200) (hl:l.length ≤ 1100) {e:Int} (he:hedge_Check.f (l.map toH) = some e) :
  ∃ r:List RO × List Int × Int,Ev (fun k=>contangoref43_Plan.f k names deltas l) r ∧ hedge_Plan.f names deltas (l.map toH) = some (r.1.map toO,r.2.1,r.2.2) ∧ r.1.length ≤ 1100 ∧ r.2.1.length ≤ 200:=by
 have hck:=refHedge_f l hl he
 unfold hedge_Plan.f
 rw [if_pos ⟨by omega,by omega⟩,he,Option.bind_some]
 by_cases e0:e = 0
 ·subst e0
  rw [if_pos rfl]
  obtain ⟨hl2,hask⟩:=check_asks he
  rw [List.length_map] at hl2
  by_cases hlen:deltas.length = names.length
  ·rw [if_pos hlen]
   have hask':∀ h ∈ l,askOk h.f1 h.f2:=fun h hh=>hask (toH h) (List.mem_map_of_mem hh)
   have hbase:∀ r,Ev (fun k=>contangoref43_Plan.l0 k names deltas l 0) r → Ev (fun k=>contangoref43_Plan.f k names deltas l) r:=by
    intro r h
    unfold contangoref43_Plan.f
    refine Ev_bind hck ?_
    simp only [if_true,if_pos (show (names.length:Int) = (deltas.length:Int) by omega)]
    exact h
   by_cases hbad:planBad names deltas = true
   ·rw [if_pos hbad]
    refine ⟨([],[],2),hbase _ ?_,rfl,by simp,by simp⟩
    have:=refNames names deltas l hn hlen ([],[],2) (fun h=>by rw [badFrom_zero,hbad] at h;cases h) names.length 0 (by omega) (fun h=>h)
    rw [badFrom_zero,if_pos hbad] at this
    exact this
   ·have hbf:planBad names deltas = false:=by simpa using hbad
    rw [if_neg hbad]
    have hasc:=bad_asc hbf
    have hds:=bad_small hbf hlen
    have hfold:=refFold names l hl2 hn hasc hask' l.length 0 [] deltas (by omega) (by simp) hlen hds
    rw [List.drop_zero] at hfold
    have hmap:=ref_fold (sel names (l.map toH)) [] deltas
    rw [List.map_nil] at hmap
    refine ⟨(((sel names (l.map toH)).foldl refStep ([],deltas)).1,((sel names (l.map toH)).foldl refStep ([],deltas)).2,0),hbase _ ?_,?_,?_,?_⟩
    ·have:=refNames names deltas l hn hlen _ (fun _=>hfold) names.length 0 (by omega) (fun h=>h)
     rw [badFrom_zero,if_neg hbad] at this
     exact this
    ·rw [← hmap]
    ·have h1:=congrArg (fun z=>z.1.length) hmap
     simp only [List.length_map] at h1
     rw [h1,acts_orders]
     have h2:=acts_sub (sel names (l.map toH)) deltas
     have h3:=h2.length_le
     have h4:=(sel_sub names (l.map toH)).length_le
     simp only [List.length_map,List.nil_append] at *
     omega
    ·have h1:=congrArg (fun z=>z.2.length) hmap
     simp only at h1
     rw [h1,acts_len];omega
  ·rw [if_neg hlen]
   refine ⟨([],[],2),?_,rfl,by simp,by simp⟩
   unfold contangoref43_Plan.f
   refine Ev_bind hck ?_
   simp only [if_true,if_neg (show ¬ ((names.length:Int) = (deltas.length:Int)) by omega)]
   exact Ev.now _
 ·rw [if_neg e0]
  refine ⟨([],[],e),?_,rfl,by simp,by simp⟩
  unfold contangoref43_Plan.f
  refine Ev_bind hck ?_
  simp only [if_neg e0]
  exact Ev.now _
end Go.Proofs.Ytbgeceiddcokmaa.P
end
section
namespace Go.Proofs.Ytbgeceiddcokmaa.P
open Go.RowKit Go.Proofs.YtbgeceiddcokmaaW.PrintWords Go.Proofs.YtbgeceiddcokmaaW.PrintMore Go.Proofs.Ytbgeceiddcokmaa.X
set_option maxRecDepth 100000 in
theorem goes43:Ev (fun k=>contangolaw43_goes.f k) true:=Ev.of (k:=40) (contangolaw43_goes.mono) (by decide +kernel)
end Go.Proofs.Ytbgeceiddcokmaa.P
end
section
namespace Go.Proofs.Ytbgeceiddcokmaa.Pure
set_option linter.unusedVariables false
set_option linter.unusedSimpArgs false
open Go.RowKit Go.Proofs.YtbgeceiddcokmaaW.PrintWords Go.Proofs.YtbgeceiddcokmaaW.PrintMore Go.Proofs.Ytbgeceiddcokmaa.X Go.Proofs.Ytbgeceiddcokmaa.P
theorem sameIntsP (l:List Int) (hl:l.length ≤ 4611686018427387904):Ev (fun k=>contangoref43_Ints.f k l l) true:=by
  unfold contangoref43_Ints.f
  simp only [if_true]
  have:∀ (d i:Nat),i + d = l.length → Ev (fun k=>contangoref43_Ints.l0 k l l i) true:=by
    intro d
    induction d with
    | zero =>
      intro i hi
      refine Ev_succ ?_
      simp only [contangoref43_Ints.l0,if_neg (show ¬ ((i:Int) < (l.length:Int)) by omega)]
      exact Ev.now _
    | succ d ih =>
      intro i hi
      refine Ev_succ ?_
      simp only [contangoref43_Ints.l0,if_pos (show (i:Int) < (l.length:Int) by omega),if_pos (show 0 ≤ (i:Int) by omega),if_true,w_succ (show i < l.length by omega) (by omega)]
      exact ih (i + 1) (by omega)
  exact this l.length 0 (by omega)
theorem ordersLoop (b:List RO) (hb:b.length ≤ 1100):∀ (d i:Nat),i + d = b.length → Ev (fun k=>contangolaw43_HedgePlans.l0 k (b.map toO) b i) true
  | 0,i,hi=>by
    refine Ev_succ ?_
    simp only [contangolaw43_HedgePlans.l0,List.length_map,if_neg (show ¬ ((i:Int) < (b.length:Int)) by omega)]
    exact Ev_id goes43
  | d + 1,i,hi=>by
    have hlt:i < b.length:=by omega
    have e1:rd_T41 (b.map toO) (i:Int) = toO b[i]:=by simp [rd_T41,hlt]
    have e2:rd_T42 b (i:Int) = b[i]:=by simp [rd_T42,hlt]
    refine Ev_succ ?_
    simp only [contangolaw43_HedgePlans.l0,List.length_map,if_pos (show (i:Int) < (b.length:Int) by omega),if_pos (show 0 ≤ (i:Int) by omega),e1,e2,toO,beq_self_eq_true,Bool.not_true,Bool.or_self,Bool.false_eq_true,if_false,w_succ hlt (by omega)]
    exact ordersLoop b hb d (i + 1) (by omega)
theorem HedgePlans:∀ (l0:List (ByteArray)) (l1:List (Int)) (l2:List (S54)),(l0.length ≤ maxLen ∧ l0.length * 16 ≤ 140737488351232 ∧ ∀ x ∈ l0,x.size ≤ 140737488351232) → (l1.length ≤ maxLen ∧ l1.length * 8 ≤ 140737488351232 ∧ ∀ x ∈ l1,(Lit.int .i64 x).wf = true) → (l2.length ≤ maxLen ∧ l2.length * 56 ≤ 140737488351232 ∧ ∀ x ∈ l2,ok54 x) → ∃ k,X.contangolaw43_HedgePlans.f k l0 l1 l2 = some true:=by
  intro names deltas l hn hd hl
  apply Ev.rounds
  have hgo:Ev (fun k=>contangolaw43_HedgePlans.j0 k names deltas l true) true:=by
    refine Ev_succ ?_
    simp only [contangolaw43_HedgePlans.j0,if_true]
    exact Ev_id goes43
  unfold contangolaw43_HedgePlans.f
  by_cases c1:(names.length:Int) > 200
  · simp only [if_pos c1];exact hgo
  · simp only [if_neg c1]
    by_cases c2:(deltas.length:Int) > 200
    · simp only [if_pos c2];exact hgo
    · simp only [if_neg c2]
      by_cases c3:(l.length:Int) > 1100
      · rw [decide_eq_true c3];exact hgo
      · rw [decide_eq_false c3]
        obtain ⟨e,he⟩:=check_some (l:=l.map toH) (ser_ok hl.2.2)
        obtain ⟨r,h1,h2,h3,h4⟩:=plans_same names deltas l (by omega) (by omega) (by omega) he
        refine Ev_succ ?_
        simp only [contangolaw43_HedgePlans.j0,Bool.false_eq_true,if_false]
        refine Ev_bind (to_f l (by omega)) ?_
        simp only [h2,Option.bind_some]
        refine Ev_bind h1 ?_
        simp only [List.length_map,if_true]
        refine Ev_bind (sameIntsP r.2.1 (by omega)) ?_
        simp only [if_true]
        refine Ev_bind (to_f l (by omega)) ?_
        simp only [he,Option.bind_some]
        refine Ev_bind (refHedge_f l (by omega) he) ?_
        simp only [bne_self_eq_false]
        refine Ev_succ ?_
        simp only [contangolaw43_HedgePlans.j1,Bool.false_eq_true,if_false]
        exact ordersLoop r.1 (by omega) r.1.length 0 (by omega)
end Go.Proofs.Ytbgeceiddcokmaa.Pure
end
