/- For ScanParts: contracts, and facts on lists and numbers, that it uses (part 6). -/
import Derived.ChangeArms
import Derived.Deep.Slices
import Derived.Laws.BitsLemmas
import Derived.Laws.Strings
import Derived.Lib.Bytealg
import Derived.SizedLaws
import Derived.Test.YtbgeceiddcokmaaScanPartsc5
import Derived.WideShapes
section
namespace Go.Proofs.Ytbgeceiddcokmaa.X
open Go.RowKit Go.Proofs.YtbgeceiddcokmaaW.PrintWords Go.Proofs.YtbgeceiddcokmaaW.PrintLast Go.Proofs.YtbgeceiddcokmaaW.PrintMore
attribute [local go_sem] max2_int min2_int max_two min_two max_three min_three max_four min_four
set_option linter.unusedVariables false
set_option linter.unusedSimpArgs false
mutual
def contangolaw23_ScanParts.j0:Nat → List (S73) → List (S91) → Int → Int → Int → Bool → Option (Bool)
 | 0,_,_,_,_,_,_=>none
 | k + 1,x0,x1,x5,x8,x9,x49=>if x49 = true then (if x5 = 0 then (if x8 = 0 then ((contangolaw23_goes.f k).bind fun t108=>(some t108)) else (if x9 = 0 then ((contangolaw23_goes.f k).bind fun t109=>(some t109)) else (none))) else (none)) else ((scan_Products.f k x0).bind fun bt110=>(contangolaw23_ScanParts.l0 k x0 x1 x5 x8 bt110.2 0 0 0 (bt110.2.length:Int) 0))
def contangolaw23_ScanParts.l0:Nat → List (S73) → List (S91) → Int → Int → List (List (S73)) → Int → Int → Int → Int → Int → Option (Bool)
 | 0,_,_,_,_,_,_,_,_,_,_=>none
 | k + 1,x0,x1,x5,x8,x11,x12,x13,x14,x69,x70=>if x70 < x69 then (if 0 ≤ x70 then (if x70 < (x11.length:Int) then ((scan_Risk.f k (rd_L14 x11 x70) x1).bind fun bt117=>((scan_Delta.f k (rd_L14 x11 x70) x1).bind fun bt121=>(if bt117.2.2 = 0 then (if bt121.2 = 0 then (contangolaw23_ScanParts.l0 k x0 x1 x5 x8 x11 (mn (wrap64 (x12 + bt117.1)) 2305843009213693952) (wrap64 (x13 + bt121.1)) (wrap64 (x14 + ((rd_L14 x11 x70).length:Int))) x69 (wrap64 (x70 + 1))) else (none)) else (if bt117.2.2 = 3 then ((contangolaw23_goes.f k).bind fun t124=>(some t124)) else (none))))) else (none)) else (none)) else ((scan_Expiries.f k x0 x1).bind fun bt125=>(contangolaw23_ScanParts.l1 k x0 x5 x8 x12 x13 x14 bt125.1 bt125.2.1 bt125.2.2 0 (bt125.2.1.length:Int) 0))
def contangolaw23_ScanParts.l1:Nat → List (S73) → Int → Int → Int → Int → Int → List Int → List Int → Int → Int → Int → Int → Option (Bool)
 | 0,_,_,_,_,_,_,_,_,_,_,_,_=>none
 | k + 1,x0,x5,x8,x12,x13,x14,x21,x22,x23,x24,x124,x125=>if x125 < x124 then (if 0 ≤ x125 then (if x125 < (x22.length:Int) then (if x125 > 0 then (if x125 < (x21.length:Int) then (if 0 ≤ (wrap64 (x125 - 1)) then (if (wrap64 (x125 - 1)) < (x21.length:Int) then (if (rd x21 x125) ≤ (rd x21 (wrap64 (x125 - 1))) then (none) else (contangolaw23_ScanParts.l1 k x0 x5 x8 x12 x13 x14 x21 x22 x23 (wrap64 (x24 + (rd x22 x125))) x124 (wrap64 (x125 + 1)))) else (none)) else (none)) else (none)) else (contangolaw23_ScanParts.l1 k x0 x5 x8 x12 x13 x14 x21 x22 x23 (wrap64 (x24 + (rd x22 x125))) x124 (wrap64 (x125 + 1)))) else (none)) else (none)) else (if x23 = 0 then (if (x21.length:Int) = (x22.length:Int) then (if x12 ≥ x5 then (if x13 = x8 then (if x24 = x8 then (if x14 = (x0.length:Int) then ((contangolaw23_goes.f k).bind fun t135=>(some t135)) else (none)) else (none)) else (none)) else (none)) else (none)) else (none))
end
def contangolaw23_ScanParts.f (k:Nat) (l0:List (S73)) (l1:List (S91)):Option (Bool):=(contangolaw23_few.f k l0 l1).bind fun t101=>(if t101 = true then ((scan_Risk.f k l0 l1).bind fun bt103=>((scan_Delta.f k l0 l1).bind fun bt106=>(if bt103.2.2 = 0 then (contangolaw23_ScanParts.j0 k l0 l1 bt103.1 bt106.1 bt106.2 (bt106.2 != 0)) else (contangolaw23_ScanParts.j0 k l0 l1 bt103.1 bt106.1 bt106.2 true)))) else ((contangolaw23_goes.f k).bind fun t102=>(some t102)))
set_option maxHeartbeats 8000000 in
set_option maxRecDepth 100000 in
theorem contangolaw23_ScanParts.calls (k:Nat) (A0:Option Addr) (c0:Nat) (l0:List (S73)) (A1:Option Addr) (c1:Nat) (l1:List (S91)) (r:Bool) (w:World) (hr0:Kd.C k73 w A0 l0.length l0) (hc0:l0.length ≤ c0) (hr1:Kd.C k91 w A1 l1.length l1) (hc1:l1.length ≤ c1) (h:contangolaw23_ScanParts.f k l0 l1 = some r) :
  Calls Try.prog 12 #[.slice A0 l0.length c0,.slice A1 l1.length c1] w fun e w'=>e = .returned (.bool r) ∧ Below w.heap.size w w':=by
 have HR0:=Aside0.mk hr0
 have HC0:=Aside0.mk hc0
 clear hr0 hc0
 have HR1:=Aside0.mk hr1
 have HC1:=Aside0.mk hc1
 clear hr1 hc1
 have HB:=Aside0.mk (Below.refl w.heap.size w)
 have H:((contangolaw23_few.f k l0 l1).bind fun t101=>(if t101 = true then ((scan_Risk.f k l0 l1).bind fun bt103=>((scan_Delta.f k l0 l1).bind fun bt106=>(if bt103.2.2 = 0 then (contangolaw23_ScanParts.j0 k l0 l1 bt103.1 bt106.1 bt106.2 (bt106.2 != 0)) else (contangolaw23_ScanParts.j0 k l0 l1 bt103.1 bt106.1 bt106.2 true)))) else ((contangolaw23_goes.f k).bind fun t102=>(some t102)))) = some r:=h
 clear h
 replace H:=Option.bind_eq_some_iff.mp H
 obtain ⟨t101,A30,H⟩:=H
 replace H:(if t101 = true then ((scan_Risk.f k l0 l1).bind fun bt103=>((scan_Delta.f k l0 l1).bind fun bt106=>(if bt103.2.2 = 0 then (contangolaw23_ScanParts.j0 k l0 l1 bt103.1 bt106.1 bt106.2 (bt106.2 != 0)) else (contangolaw23_ScanParts.j0 k l0 l1 bt103.1 bt106.1 bt106.2 true)))) else ((contangolaw23_goes.f k).bind fun t102=>(some t102))) = some r:=H
 have A3:=Aside0.mk A30
 clear A30
 by_cases c4:t101 = true
 ·subst c4
  have H1:((scan_Risk.f k l0 l1).bind fun bt103=>((scan_Delta.f k l0 l1).bind fun bt106=>(if bt103.2.2 = 0 then (contangolaw23_ScanParts.j0 k l0 l1 bt103.1 bt106.1 bt106.2 (bt106.2 != 0)) else (contangolaw23_ScanParts.j0 k l0 l1 bt103.1 bt106.1 bt106.2 true)))) = some r:=by rw [if_pos rfl] at H;exact H
  clear H
  have H:=H1
  clear H1
  replace H:=Option.bind_eq_some_iff.mp H
  obtain ⟨⟨t103,t104,t105⟩,A50,H⟩:=H
  replace H:((scan_Delta.f k l0 l1).bind fun bt106=>(if t105 = 0 then (contangolaw23_ScanParts.j0 k l0 l1 t103 bt106.1 bt106.2 (bt106.2 != 0)) else (contangolaw23_ScanParts.j0 k l0 l1 t103 bt106.1 bt106.2 true))) = some r:=H
  have A5:=Aside0.mk A50
  clear A50
  replace H:=Option.bind_eq_some_iff.mp H
  obtain ⟨⟨t106,t107⟩,A60,H⟩:=H
  replace H:(if t105 = 0 then (contangolaw23_ScanParts.j0 k l0 l1 t103 t106 t107 (t107 != 0)) else (contangolaw23_ScanParts.j0 k l0 l1 t103 t106 t107 true)) = some r:=H
  have A6:=Aside0.mk A60
  clear A60
  have HC7:=Aside0.mk H
  clear H
  go_enter Try.func12,Try.ntmps12
  go_upto_region 5 with (first|(go_at_call 24;(with_reducible refine (contangolaw23_few.calls k _ _ l0 _ _ l1 true _ ?side1 ?side2 ?side3 ?side4 A3.out).mono ?_);(case side1=>repeat (first|exact HR0.out|(with_reducible refine Kd.C_alloc ?_ _)|(with_reducible refine Kd.C_drewN ?_ _)|(with_reducible refine Kd.C_drew ?_)));(case side2=>exact HC0.out);(case side3=>repeat (first|exact HR1.out|(with_reducible refine Kd.C_alloc ?_ _)|(with_reducible refine Kd.C_drewN ?_ _)|(with_reducible refine Kd.C_drew ?_)));(case side4=>exact HC1.out);rintro e w8 ⟨rfl,hb⟩;have n0_:=Aside0.mk (below_step (by repeat (first|(with_reducible first|exact HB.out|apply below_alloc|apply pw_below_drewN|apply below_drew1)|exact HB.out)) hb);clear HB;have HB:=n0_;clear n0_;(try clear hb);(try clear hb2);(try clear hk);(try clear hi))|(go_at_call 29;(with_reducible refine (scan_Risk.calls k _ _ l0 _ _ l1 t103 t104 t105 _ ?side1 ?side2 ?side3 ?side4 A5.out).mono ?_);(case side1=>repeat (first|exact (Kd.C_below HR0.out HB.out)|(with_reducible refine Kd.C_alloc ?_ _)|(with_reducible refine Kd.C_drewN ?_ _)|(with_reducible refine Kd.C_drew ?_)));(case side2=>exact HC0.out);(case side3=>repeat (first|exact (Kd.C_below HR1.out HB.out)|(with_reducible refine Kd.C_alloc ?_ _)|(with_reducible refine Kd.C_drewN ?_ _)|(with_reducible refine Kd.C_drew ?_)));(case side4=>exact HC1.out);rintro e w9 ⟨rfl,hb⟩;have n0_:=Aside0.mk (below_step (by repeat (first|(with_reducible first|exact HB.out|apply below_alloc|apply pw_below_drewN|apply below_drew1)|exact HB.out)) hb);clear HB;have HB:=n0_;clear n0_;(try clear hb);(try clear hb2);(try clear hk);(try clear hi))|(go_at_call 36;(with_reducible refine (scan_Delta.calls k _ _ l0 _ _ l1 t106 t107 _ ?side1 ?side2 ?side3 ?side4 A6.out).mono ?_);(case side1=>repeat (first|exact (Kd.C_below HR0.out HB.out)|(with_reducible refine Kd.C_alloc ?_ _)|(with_reducible refine Kd.C_drewN ?_ _)|(with_reducible refine Kd.C_drew ?_)));(case side2=>exact HC0.out);(case side3=>repeat (first|exact (Kd.C_below HR1.out HB.out)|(with_reducible refine Kd.C_alloc ?_ _)|(with_reducible refine Kd.C_drewN ?_ _)|(with_reducible refine Kd.C_drew ?_)));(case side4=>exact HC1.out);rintro e w10 ⟨rfl,hb⟩;have n0_:=Aside0.mk (below_step (by repeat (first|(with_reducible first|exact HB.out|apply below_alloc|apply pw_below_drewN|apply below_drew1)|exact HB.out)) hb);clear HB;have HB:=n0_;clear n0_;(try clear hb);(try clear hb2);(try clear hk);(try clear hi)))
  repeat (go_quiet (first|(go_at_call 24;(with_reducible refine (contangolaw23_few.calls k _ _ l0 _ _ l1 true _ ?side1 ?side2 ?side3 ?side4 A3.out).mono ?_);(case side1=>repeat (first|exact HR0.out|(with_reducible refine Kd.C_alloc ?_ _)|(with_reducible refine Kd.C_drewN ?_ _)|(with_reducible refine Kd.C_drew ?_)));(case side2=>exact HC0.out);(case side3=>repeat (first|exact HR1.out|(with_reducible refine Kd.C_alloc ?_ _)|(with_reducible refine Kd.C_drewN ?_ _)|(with_reducible refine Kd.C_drew ?_)));(case side4=>exact HC1.out);rintro e w8 ⟨rfl,hb⟩;have n0_:=Aside0.mk (below_step (by repeat (first|(with_reducible first|exact HB.out|apply below_alloc|apply pw_below_drewN|apply below_drew1)|exact HB.out)) hb);clear HB;have HB:=n0_;clear n0_;(try clear hb);(try clear hb2);(try clear hk);(try clear hi))|(go_at_call 29;(with_reducible refine (scan_Risk.calls k _ _ l0 _ _ l1 t103 t104 t105 _ ?side1 ?side2 ?side3 ?side4 A5.out).mono ?_);(case side1=>repeat (first|exact (Kd.C_below HR0.out HB.out)|(with_reducible refine Kd.C_alloc ?_ _)|(with_reducible refine Kd.C_drewN ?_ _)|(with_reducible refine Kd.C_drew ?_)));(case side2=>exact HC0.out);(case side3=>repeat (first|exact (Kd.C_below HR1.out HB.out)|(with_reducible refine Kd.C_alloc ?_ _)|(with_reducible refine Kd.C_drewN ?_ _)|(with_reducible refine Kd.C_drew ?_)));(case side4=>exact HC1.out);rintro e w9 ⟨rfl,hb⟩;have n0_:=Aside0.mk (below_step (by repeat (first|(with_reducible first|exact HB.out|apply below_alloc|apply pw_below_drewN|apply below_drew1)|exact HB.out)) hb);clear HB;have HB:=n0_;clear n0_;(try clear hb);(try clear hb2);(try clear hk);(try clear hi))|(go_at_call 36;(with_reducible refine (scan_Delta.calls k _ _ l0 _ _ l1 t106 t107 _ ?side1 ?side2 ?side3 ?side4 A6.out).mono ?_);(case side1=>repeat (first|exact (Kd.C_below HR0.out HB.out)|(with_reducible refine Kd.C_alloc ?_ _)|(with_reducible refine Kd.C_drewN ?_ _)|(with_reducible refine Kd.C_drew ?_)));(case side2=>exact HC0.out);(case side3=>repeat (first|exact (Kd.C_below HR1.out HB.out)|(with_reducible refine Kd.C_alloc ?_ _)|(with_reducible refine Kd.C_drewN ?_ _)|(with_reducible refine Kd.C_drew ?_)));(case side4=>exact HC1.out);rintro e w10 ⟨rfl,hb⟩;have n0_:=Aside0.mk (below_step (by repeat (first|(with_reducible first|exact HB.out|apply below_alloc|apply pw_below_drewN|apply below_drew1)|exact HB.out)) hb);clear HB;have HB:=n0_;clear n0_;(try clear hb);(try clear hb2);(try clear hk);(try clear hi)));go_upto_region 5 with (first|(go_at_call 24;(with_reducible refine (contangolaw23_few.calls k _ _ l0 _ _ l1 true _ ?side1 ?side2 ?side3 ?side4 A3.out).mono ?_);(case side1=>repeat (first|exact HR0.out|(with_reducible refine Kd.C_alloc ?_ _)|(with_reducible refine Kd.C_drewN ?_ _)|(with_reducible refine Kd.C_drew ?_)));(case side2=>exact HC0.out);(case side3=>repeat (first|exact HR1.out|(with_reducible refine Kd.C_alloc ?_ _)|(with_reducible refine Kd.C_drewN ?_ _)|(with_reducible refine Kd.C_drew ?_)));(case side4=>exact HC1.out);rintro e w8 ⟨rfl,hb⟩;have n0_:=Aside0.mk (below_step (by repeat (first|(with_reducible first|exact HB.out|apply below_alloc|apply pw_below_drewN|apply below_drew1)|exact HB.out)) hb);clear HB;have HB:=n0_;clear n0_;(try clear hb);(try clear hb2);(try clear hk);(try clear hi))|(go_at_call 29;(with_reducible refine (scan_Risk.calls k _ _ l0 _ _ l1 t103 t104 t105 _ ?side1 ?side2 ?side3 ?side4 A5.out).mono ?_);(case side1=>repeat (first|exact (Kd.C_below HR0.out HB.out)|(with_reducible refine Kd.C_alloc ?_ _)|(with_reducible refine Kd.C_drewN ?_ _)|(with_reducible refine Kd.C_drew ?_)));(case side2=>exact HC0.out);(case side3=>repeat (first|exact (Kd.C_below HR1.out HB.out)|(with_reducible refine Kd.C_alloc ?_ _)|(with_reducible refine Kd.C_drewN ?_ _)|(with_reducible refine Kd.C_drew ?_)));(case side4=>exact HC1.out);rintro e w9 ⟨rfl,hb⟩;have n0_:=Aside0.mk (below_step (by repeat (first|(with_reducible first|exact HB.out|apply below_alloc|apply pw_below_drewN|apply below_drew1)|exact HB.out)) hb);clear HB;have HB:=n0_;clear n0_;(try clear hb);(try clear hb2);(try clear hk);(try clear hi))|(go_at_call 36;(with_reducible refine (scan_Delta.calls k _ _ l0 _ _ l1 t106 t107 _ ?side1 ?side2 ?side3 ?side4 A6.out).mono ?_);(case side1=>repeat (first|exact (Kd.C_below HR0.out HB.out)|(with_reducible refine Kd.C_alloc ?_ _)|(with_reducible refine Kd.C_drewN ?_ _)|(with_reducible refine Kd.C_drew ?_)));(case side2=>exact HC0.out);(case side3=>repeat (first|exact (Kd.C_below HR1.out HB.out)|(with_reducible refine Kd.C_alloc ?_ _)|(with_reducible refine Kd.C_drewN ?_ _)|(with_reducible refine Kd.C_drew ?_)));(case side4=>exact HC1.out);rintro e w10 ⟨rfl,hb⟩;have n0_:=Aside0.mk (below_step (by repeat (first|(with_reducible first|exact HB.out|apply below_alloc|apply pw_below_drewN|apply below_drew1)|exact HB.out)) hb);clear HB;have HB:=n0_;clear n0_;(try clear hb);(try clear hb2);(try clear hk);(try clear hi))))
  (try simp only [Act.put,List.setIfInBounds_toArray,List.set_cons_zero,List.set_cons_succ])
  go_cut [49] (fun v49 wc=>∃ (kq:Nat) (x49_6:Bool),v49 = .bool x49_6 ∧ Aside0 (contangolaw23_ScanParts.j0 kq l0 l1 t103 t106 t107 x49_6 = some r) ∧ Aside0 (kq ≤ k) ∧ Aside0 (Below w.heap.size w wc))
  case first =>
   have H:=HC7.out
   clear HC7
   by_cases c11:t105 = 0
   ·rw [if_pos c11] at H
    have c11b0:(t105 == 0) = true:=beq_iff_eq.mpr c11
    have c11b1:(t105 != 0) = false:=bne_eq_false_iff_eq.mpr c11
    clear c11
    (first|rw [c11b0]|(simp only [i64_w,i32_w];rw [c11b0])|skip)
    have H':=Aside0.mk H
    clear H
    go_wp2
    repeat (go_quiet (fail);try go_wp2)
    go_meet
    case rel=>exact ⟨_,((t107 != 0)),(by first|rfl|(simp;done)|(simp [*];done)),H',⟨by first|omega|exact Nat.le_refl _⟩,⟨by repeat (first|(with_reducible first|exact HB.out|apply below_alloc|apply pw_below_drewN|apply below_drew1)|exact HB.out)⟩⟩
   ·rw [if_neg c11] at H
    have c11b0:(t105 == 0) = false:=beq_eq_false_iff_ne.mpr c11
    have c11b1:(t105 != 0) = true:=bne_iff_ne.mpr c11
    (first|rw [c11b0]|(simp only [i64_w,i32_w];rw [c11b0])|skip)
    have H':=Aside0.mk H
    clear H
    go_wp2
    repeat (go_quiet (fail);try go_wp2)
    go_meet
    case rel=>exact ⟨_,(true),(by first|rfl|(simp;done)|(simp [*];done)),H',⟨by first|omega|exact Nat.le_refl _⟩,⟨by repeat (first|(with_reducible first|exact HB.out|apply below_alloc|apply pw_below_drewN|apply below_drew1)|exact HB.out)⟩⟩
  case rest =>
   clear HC7
   try clear c1
   try clear p2
   try clear c4
   try clear c11
   try clear c11b0
   try clear c11b1
   obtain ⟨kq,x49_6,rfl,HA,HJ6,HB⟩:=hcut
   cases kq with
   | zero=>exact absurd HA.out (by simp [contangolaw23_ScanParts.j0])
   | succ kj6 =>
    have H:=HA.out
    clear HA
    simp only [contangolaw23_ScanParts.j0] at H
    by_cases c12:x49_6 = true
    ·subst c12
     have H1:(if t103 = 0 then (if t106 = 0 then ((contangolaw23_goes.f kj6).bind fun t108=>(some t108)) else (if t107 = 0 then ((contangolaw23_goes.f kj6).bind fun t109=>(some t109)) else (none))) else (none)) = some r:=by rw [if_pos rfl] at H;exact H
     clear H
     have H:=H1
     clear H1
     by_cases c13:t103 = 0
     ·rw [if_pos c13] at H
      have c13b0:(t103 == 0) = true:=beq_iff_eq.mpr c13
      have c13b1:(t103 != 0) = false:=bne_eq_false_iff_eq.mpr c13
      clear c13
      by_cases c14:t106 = 0
      ·rw [if_pos c14] at H
       have c14b0:(t106 == 0) = true:=beq_iff_eq.mpr c14
       have c14b1:(t106 != 0) = false:=bne_eq_false_iff_eq.mpr c14
       clear c14
       replace H:=Option.bind_eq_some_iff.mp H
       obtain ⟨t108,A150,H⟩:=H
       replace H:(some t108) = some r:=H
       have A15:=Aside0.mk A150
       clear A150
       obtain rfl:=Option.some.inj H
       go_wp2_with (first|(go_at_call 25;(with_reducible refine (contangolaw23_goes.calls kj6  t108 _ A15.out).mono ?_);rintro e w16 ⟨rfl,hb⟩;have n0_:=Aside0.mk (below_step (by repeat (first|(with_reducible first|exact HB.out|apply below_alloc|apply pw_below_drewN|apply below_drew1)|exact HB.out)) hb);clear HB;have HB:=n0_;clear n0_;(try clear hb);(try clear hb2);(try clear hk);(try clear hi)))
       repeat (go_quiet (first|(go_at_call 25;(with_reducible refine (contangolaw23_goes.calls kj6  t108 _ A15.out).mono ?_);rintro e w16 ⟨rfl,hb⟩;have n0_:=Aside0.mk (below_step (by repeat (first|(with_reducible first|exact HB.out|apply below_alloc|apply pw_below_drewN|apply below_drew1)|exact HB.out)) hb);clear HB;have HB:=n0_;clear n0_;(try clear hb);(try clear hb2);(try clear hk);(try clear hi)));try go_wp2_with (first|(go_at_call 25;(with_reducible refine (contangolaw23_goes.calls kj6  t108 _ A15.out).mono ?_);rintro e w16 ⟨rfl,hb⟩;have n0_:=Aside0.mk (below_step (by repeat (first|(with_reducible first|exact HB.out|apply below_alloc|apply pw_below_drewN|apply below_drew1)|exact HB.out)) hb);clear HB;have HB:=n0_;clear n0_;(try clear hb);(try clear hb2);(try clear hk);(try clear hi))))
       go_ret
       exact ⟨by first|rfl|(simp [errW_none,errW_some] <;> rfl)|(simp [*,errW_none,errW_some] <;> rfl),by repeat (first|(with_reducible first|exact HB.out|apply below_alloc|apply pw_below_drewN|apply below_drew1)|exact HB.out)⟩
      ·rw [if_neg c14] at H
       have c14b0:(t106 == 0) = false:=beq_eq_false_iff_ne.mpr c14
       have c14b1:(t106 != 0) = true:=bne_iff_ne.mpr c14
       by_cases c17:t107 = 0
       ·rw [if_pos c17] at H
        have c17b0:(t107 == 0) = true:=beq_iff_eq.mpr c17
        have c17b1:(t107 != 0) = false:=bne_eq_false_iff_eq.mpr c17
        clear c17
        replace H:=Option.bind_eq_some_iff.mp H
        obtain ⟨t109,A180,H⟩:=H
        replace H:(some t109) = some r:=H
        have A18:=Aside0.mk A180
        clear A180
        obtain rfl:=Option.some.inj H
        go_wp2_with (first|(go_at_call 25;(with_reducible refine (contangolaw23_goes.calls kj6  t109 _ A18.out).mono ?_);rintro e w19 ⟨rfl,hb⟩;have n0_:=Aside0.mk (below_step (by repeat (first|(with_reducible first|exact HB.out|apply below_alloc|apply pw_below_drewN|apply below_drew1)|exact HB.out)) hb);clear HB;have HB:=n0_;clear n0_;(try clear hb);(try clear hb2);(try clear hk);(try clear hi)))
        repeat (go_quiet (first|(go_at_call 25;(with_reducible refine (contangolaw23_goes.calls kj6  t109 _ A18.out).mono ?_);rintro e w19 ⟨rfl,hb⟩;have n0_:=Aside0.mk (below_step (by repeat (first|(with_reducible first|exact HB.out|apply below_alloc|apply pw_below_drewN|apply below_drew1)|exact HB.out)) hb);clear HB;have HB:=n0_;clear n0_;(try clear hb);(try clear hb2);(try clear hk);(try clear hi)));try go_wp2_with (first|(go_at_call 25;(with_reducible refine (contangolaw23_goes.calls kj6  t109 _ A18.out).mono ?_);rintro e w19 ⟨rfl,hb⟩;have n0_:=Aside0.mk (below_step (by repeat (first|(with_reducible first|exact HB.out|apply below_alloc|apply pw_below_drewN|apply below_drew1)|exact HB.out)) hb);clear HB;have HB:=n0_;clear n0_;(try clear hb);(try clear hb2);(try clear hk);(try clear hi))))
        go_ret
        exact ⟨by first|rfl|(simp [errW_none,errW_some] <;> rfl)|(simp [*,errW_none,errW_some] <;> rfl),by repeat (first|(with_reducible first|exact HB.out|apply below_alloc|apply pw_below_drewN|apply below_drew1)|exact HB.out)⟩
       ·rw [if_neg c17] at H
        exact absurd H (by simp)
     ·rw [if_neg c13] at H
      exact absurd H (by simp)
    ·replace c12:=Bool.eq_false_iff.mpr c12
     subst c12
     have H1:((scan_Products.f kj6 l0).bind fun bt110=>(contangolaw23_ScanParts.l0 kj6 l0 l1 t103 t106 bt110.2 0 0 0 (bt110.2.length:Int) 0)) = some r:=by rw [if_neg (show ¬ (false = true) by decide)] at H;exact H
     clear H
     have H:=H1
     clear H1
     replace H:=Option.bind_eq_some_iff.mp H
     obtain ⟨⟨t110,t111⟩,A200,H⟩:=H
     replace H:(contangolaw23_ScanParts.l0 kj6 l0 l1 t103 t106 t111 0 0 0 (t111.length:Int) 0) = some r:=H
     have A20:=Aside0.mk A200
     clear A200
     have H':=Aside0.mk H
     clear H
     go_wp2_with (first|(go_at_call 37;(with_reducible refine (scan_Products.calls kj6 _ _ l0 t110 t111 _ ?side1 ?side2 A20.out).mono ?_);(case side1=>repeat (first|exact (Kd.C_below HR0.out HB.out)|(with_reducible refine Kd.C_alloc ?_ _)|(with_reducible refine Kd.C_drewN ?_ _)|(with_reducible refine Kd.C_drew ?_)));(case side2=>exact HC0.out);rintro e w21 ⟨v112,v114,rfl,ho0,ho1,hb⟩;have n0_:=Aside0.mk (Kd.R_lower ho0 (below_size (by repeat (first|(with_reducible first|exact HB.out|apply below_alloc|apply pw_below_drewN|apply below_drew1)|exact HB.out))));have n1_:=Aside0.mk (Kd.S_lower ho1 (below_size (by repeat (first|(with_reducible first|exact HB.out|apply below_alloc|apply pw_below_drewN|apply below_drew1)|exact HB.out))));have n2_:=Aside0.mk (below_step (by repeat (first|(with_reducible first|exact HB.out|apply below_alloc|apply pw_below_drewN|apply below_drew1)|exact HB.out)) hb);clear HB;have HO113:=n0_;have HO115:=n1_;have HB:=n2_;clear n0_ n1_ n2_;(try clear hb);(try clear hb2);(try clear hk);(try clear hi);(try clear ho0);(try clear ho1);obtain ⟨Ao22,co22,eo22⟩:=Kd.S_slice HO115.out;subst eo22))
     repeat (go_quiet (first|(go_at_call 37;(with_reducible refine (scan_Products.calls kj6 _ _ l0 t110 t111 _ ?side1 ?side2 A20.out).mono ?_);(case side1=>repeat (first|exact (Kd.C_below HR0.out HB.out)|(with_reducible refine Kd.C_alloc ?_ _)|(with_reducible refine Kd.C_drewN ?_ _)|(with_reducible refine Kd.C_drew ?_)));(case side2=>exact HC0.out);rintro e w21 ⟨v112,v114,rfl,ho0,ho1,hb⟩;have n0_:=Aside0.mk (Kd.R_lower ho0 (below_size (by repeat (first|(with_reducible first|exact HB.out|apply below_alloc|apply pw_below_drewN|apply below_drew1)|exact HB.out))));have n1_:=Aside0.mk (Kd.S_lower ho1 (below_size (by repeat (first|(with_reducible first|exact HB.out|apply below_alloc|apply pw_below_drewN|apply below_drew1)|exact HB.out))));have n2_:=Aside0.mk (below_step (by repeat (first|(with_reducible first|exact HB.out|apply below_alloc|apply pw_below_drewN|apply below_drew1)|exact HB.out)) hb);clear HB;have HO113:=n0_;have HO115:=n1_;have HB:=n2_;clear n0_ n1_ n2_;(try clear hb);(try clear hb2);(try clear hk);(try clear hi);(try clear ho0);(try clear ho1);obtain ⟨Ao22,co22,eo22⟩:=Kd.S_slice HO115.out;subst eo22));try go_wp2_with (first|(go_at_call 37;(with_reducible refine (scan_Products.calls kj6 _ _ l0 t110 t111 _ ?side1 ?side2 A20.out).mono ?_);(case side1=>repeat (first|exact (Kd.C_below HR0.out HB.out)|(with_reducible refine Kd.C_alloc ?_ _)|(with_reducible refine Kd.C_drewN ?_ _)|(with_reducible refine Kd.C_drew ?_)));(case side2=>exact HC0.out);rintro e w21 ⟨v112,v114,rfl,ho0,ho1,hb⟩;have n0_:=Aside0.mk (Kd.R_lower ho0 (below_size (by repeat (first|(with_reducible first|exact HB.out|apply below_alloc|apply pw_below_drewN|apply below_drew1)|exact HB.out))));have n1_:=Aside0.mk (Kd.S_lower ho1 (below_size (by repeat (first|(with_reducible first|exact HB.out|apply below_alloc|apply pw_below_drewN|apply below_drew1)|exact HB.out))));have n2_:=Aside0.mk (below_step (by repeat (first|(with_reducible first|exact HB.out|apply below_alloc|apply pw_below_drewN|apply below_drew1)|exact HB.out)) hb);clear HB;have HO113:=n0_;have HO115:=n1_;have HB:=n2_;clear n0_ n1_ n2_;(try clear hb);(try clear hb2);(try clear hk);(try clear hi);(try clear ho0);(try clear ho1);obtain ⟨Ao22,co22,eo22⟩:=Kd.S_slice HO115.out;subst eo22)))
     go_loopg [12,13,14,70] kj6 (fun kq v12 v13 v14 v70 w'=>∃ (x12_2:Int) (x13_2:Int) (x14_2:Int) (x70_2:Int),v12 = .int .i64 x12_2 ∧ v13 = .int .i64 x13_2 ∧ v14 = .int .i64 x14_2 ∧ v70 = .int .i64 x70_2 ∧ Aside0 (contangolaw23_ScanParts.l0 kq l0 l1 t103 t106 t111 x12_2 x13_2 x14_2 (t111.length:Int) x70_2 = some r) ∧ Aside0 (kq ≤ kj6) ∧ Aside0 (Kd.S (Kd.slice 73 k73) 55 w' w.heap.size (fun _=>True) (.slice Ao22 t111.length co22) t111) ∧ Aside0 (Below w.heap.size w w'))
     case atStart=>exact ⟨(0),(0),(0),(0),(by first|rfl|(simp;done)|(simp [*];done)),(by first|rfl|(simp;done)|(simp [*];done)),(by first|rfl|(simp;done)|(simp [*];done)),(by first|rfl|(simp;done)|(simp [*];done)),H',⟨Nat.le_refl _⟩,⟨by (with_reducible repeat (first|apply Kd.S_alloc|apply Kd.S_drewN|apply Kd.S_drew));exact HO115.out⟩,⟨by repeat (first|(with_reducible first|exact HB.out|apply below_alloc|apply pw_below_drewN|apply below_drew1)|exact HB.out)⟩⟩
     case round =>
      clear H'
      try clear c1
      try clear p2
      try clear c4
      try clear c11
      try clear c11b0
      try clear c11b1
      try clear c12
      try clear c13
      try clear c13b0
      try clear c13b1
      try clear c14
      try clear c14b0
      try clear c14b1
      try clear c17
      try clear c17b0
      try clear c17b1
      try clear p2
      obtain ⟨x12_2,x13_2,x14_2,x70_2,rfl,rfl,rfl,rfl,HA,HK2,HO_11,HB⟩:=hrel
      cases gk with
      | zero=>exact absurd HA.out (by simp [contangolaw23_ScanParts.l0])
      | succ k2 =>
       have H:=HA.out
       clear HA
       simp only [contangolaw23_ScanParts.l0] at H
       by_cases c23:x70_2 < (t111.length:Int)
       ·rw [if_pos c23] at H
        have c23b0:decide (x70_2 < (t111.length:Int)) = true:=decide_eq_true c23
        clear c23
        by_cases c24:0 ≤ x70_2
        ·rw [if_pos c24] at H
         have c24b0:decide (0 ≤ x70_2) = true:=decide_eq_true c24
         clear c24
         by_cases c25:x70_2 < (t111.length:Int)
         ·rw [if_pos c25] at H
          have c25b0:decide (x70_2 < (t111.length:Int)) = true:=decide_eq_true c25
          clear c25
          replace H:=Option.bind_eq_some_iff.mp H
          obtain ⟨⟨t117,t118,t119⟩,A260,H⟩:=H
          replace H:((scan_Delta.f k2 (rd_L14 t111 x70_2) l1).bind fun bt121=>(if t119 = 0 then (if bt121.2 = 0 then (contangolaw23_ScanParts.l0 k2 l0 l1 t103 t106 t111 (mn (wrap64 (x12_2 + t117)) 2305843009213693952) (wrap64 (x13_2 + bt121.1)) (wrap64 (x14_2 + ((rd_L14 t111 x70_2).length:Int))) (t111.length:Int) (wrap64 (x70_2 + 1))) else (none)) else (if t119 = 3 then ((contangolaw23_goes.f k2).bind fun t124=>(some t124)) else (none)))) = some r:=H
          have A26:=Aside0.mk A260
          clear A260
          replace H:=Option.bind_eq_some_iff.mp H
          obtain ⟨⟨t121,t122⟩,A270,H⟩:=H
          replace H:(if t119 = 0 then (if t122 = 0 then (contangolaw23_ScanParts.l0 k2 l0 l1 t103 t106 t111 (mn (wrap64 (x12_2 + t117)) 2305843009213693952) (wrap64 (x13_2 + t121)) (wrap64 (x14_2 + ((rd_L14 t111 x70_2).length:Int))) (t111.length:Int) (wrap64 (x70_2 + 1))) else (none)) else (if t119 = 3 then ((contangolaw23_goes.f k2).bind fun t124=>(some t124)) else (none))) = some r:=H
          have A27:=Aside0.mk A270
          clear A270
          by_cases c28:t119 = 0
          ·rw [if_pos c28] at H
           have c28b0:(t119 == 0) = true:=beq_iff_eq.mpr c28
           have c28b1:(t119 != 0) = false:=bne_eq_false_iff_eq.mpr c28
           clear c28
           by_cases c29:t122 = 0
           ·rw [if_pos c29] at H
            have c29b0:(t122 == 0) = true:=beq_iff_eq.mpr c29
            have c29b1:(t122 != 0) = false:=bne_eq_false_iff_eq.mpr c29
            clear c29
            obtain ⟨ji30,hji30⟩:∃ j_:Int,(mn (wrap64 (x12_2 + t117)) 2305843009213693952) = j_:=⟨_,rfl⟩
            replace H:(contangolaw23_ScanParts.l0 k2 l0 l1 t103 t106 t111 ji30 (wrap64 (x13_2 + t121)) (wrap64 (x14_2 + ((rd_L14 t111 x70_2).length:Int))) (t111.length:Int) (wrap64 (x70_2 + 1))) = some r:=by first|(rw [hji30] at H;exact H)|(simp only [hji30] at H ⊢;exact H)
            (try rw [hji30] at A26)
            (try rw [hji30] at A27)
            have hji30_:(if 2305843009213693952 < (wrap64 (x12_2 + t117)) then 2305843009213693952 else (wrap64 (x12_2 + t117))) = ji30:=hji30
            have H':=Aside0.mk H
            clear H
            have p116:0 ≤ (x70_2:Int):=of_decide_eq_true (by first|(with_reducible assumption)|assumption)
            have q116:x70_2 < (t111.length:Int):=of_decide_eq_true (by first|(with_reducible assumption)|assumption)
            obtain ⟨ad116,A116_0,c116_0,e116,hx116_0,hl116_0,hi116_0⟩:=at_L14 (Kd.S_reads' HO_11.out).2.2 x70_2 p116 q116
            cases e116
            obtain ⟨ce116,hce116,hMe116,hcc116⟩:=Kd.S_get HO_11.out [] x70_2 p116 (by first|exact q116|exact of_decide_eq_true (by first|(with_reducible assumption)|assumption)|(have e_:=(Kd.S_reads' HO_11.out).1;omega))
            obtain ⟨ve116_0,rfl,ge116_0⟩:=hMe116
            have hv116_0:=hcc116 0 _ rfl
            rw [Nat.add_zero,show ((Kd.slice 73 k73)).sz = 1 from rfl,Nat.mul_one] at hv116_0
            replace hv116_0:=Option.some.inj (hv116_0.symm.trans hx116_0)
            rw [hv116_0] at ge116_0
            have HL116_0:=Aside0.mk (show Kd.R k73 73 _ _ _ _ (rd_L14 t111 x70_2) from ge116_0)
            clear hv116_0 ge116_0
            clear hcc116 hce116
            have HR116_0:=Aside0.mk hi116_0
            have HC116_0:=Aside0.mk hl116_0
            clear hi116_0 hl116_0
            replace p116:=eq_true p116
            replace q116:=eq_true q116
            go_wp2_with (first|(go_at_call 29;(with_reducible refine (scan_Risk.calls k2 _ _ (rd_L14 t111 x70_2) _ _ l1 t117 t118 t119 _ ?side1 ?side2 ?side3 ?side4 A26.out).mono ?_);(case side1=>repeat (first|exact (by repeat (first|(with_reducible exact HR116_0.out)|(with_reducible refine Kd.C_alloc ?_ _)|(with_reducible refine Kd.C_drewN ?_ _)|(with_reducible refine Kd.C_drew ?_)|exact HR116_0.out))|(with_reducible refine Kd.C_alloc ?_ _)|(with_reducible refine Kd.C_drewN ?_ _)|(with_reducible refine Kd.C_drew ?_)));(case side2=>exact HC116_0.out);(case side3=>repeat (first|exact (Kd.C_below HR1.out HB.out)|(with_reducible refine Kd.C_alloc ?_ _)|(with_reducible refine Kd.C_drewN ?_ _)|(with_reducible refine Kd.C_drew ?_)));(case side4=>exact HC1.out);rintro e w31 ⟨rfl,hb⟩;have n0_:=Aside0.mk (Kd.S_below (by (with_reducible repeat (first|apply Kd.S_alloc|apply Kd.S_drewN|apply Kd.S_drew));exact HO_11.out) hb);have n1_:=Aside0.mk (Kd.R_below (by (with_reducible repeat (first|apply Kd.R_alloc|apply Kd.R_drewN|apply Kd.R_drew));exact HL116_0.out) hb);have n2_:=Aside0.mk (Kd.C_below (by repeat (first|(with_reducible exact HR116_0.out)|(with_reducible refine Kd.C_alloc ?_ _)|(with_reducible refine Kd.C_drewN ?_ _)|(with_reducible refine Kd.C_drew ?_)|exact HR116_0.out)) hb);have n3_:=Aside0.mk (below_step (by repeat (first|(with_reducible first|exact HB.out|apply below_alloc|apply pw_below_drewN|apply below_drew1)|exact HB.out)) hb);clear HO_11;clear HL116_0;clear HR116_0;clear HB;have HO_11:=n0_;have HL116_0:=n1_;have HR116_0:=n2_;have HB:=n3_;clear n0_ n1_ n2_ n3_;(try clear hb);(try clear hb2);(try clear hk);(try clear hi);have p120:0 ≤ (x70_2:Int):=of_decide_eq_true (by first|(with_reducible assumption)|assumption);have q120:x70_2 < (t111.length:Int):=of_decide_eq_true (by first|(with_reducible assumption)|assumption);obtain ⟨ad120,A120_0,c120_0,e120,hx120_0,hl120_0,hi120_0⟩:=at_L14 (Kd.S_reads' HO_11.out).2.2 x70_2 p120 q120;obtain rfl:ad116 = ad120:=(by injection e120);obtain ⟨ce120,hce120,hMe120,hcc120⟩:=Kd.S_get HO_11.out [] x70_2 p120 (by first|exact q120|exact of_decide_eq_true (by first|(with_reducible assumption)|assumption)|(have e_:=(Kd.S_reads' HO_11.out).1;omega));obtain ⟨ve120_0,rfl,ge120_0⟩:=hMe120;have hv120_0:=hcc120 0 _ rfl;rw [Nat.add_zero,show ((Kd.slice 73 k73)).sz = 1 from rfl,Nat.mul_one] at hv120_0;replace hv120_0:=Option.some.inj (hv120_0.symm.trans hx120_0);rw [hv120_0] at ge120_0;have HL120_0:=Aside0.mk (show Kd.R k73 73 _ _ _ _ (rd_L14 t111 x70_2) from ge120_0);clear hv120_0 ge120_0;clear hcc120 hce120;have HR120_0:=Aside0.mk hi120_0;have HC120_0:=Aside0.mk hl120_0;clear hi120_0 hl120_0;replace p120:=eq_true p120;replace q120:=eq_true q120)|(go_at_call 36;(with_reducible refine (scan_Delta.calls k2 _ _ (rd_L14 t111 x70_2) _ _ l1 t121 t122 _ ?side1 ?side2 ?side3 ?side4 A27.out).mono ?_);(case side1=>repeat (first|exact (by repeat (first|(with_reducible exact HR120_0.out)|(with_reducible refine Kd.C_alloc ?_ _)|(with_reducible refine Kd.C_drewN ?_ _)|(with_reducible refine Kd.C_drew ?_)|exact HR120_0.out))|(with_reducible refine Kd.C_alloc ?_ _)|(with_reducible refine Kd.C_drewN ?_ _)|(with_reducible refine Kd.C_drew ?_)));(case side2=>exact HC120_0.out);(case side3=>repeat (first|exact (Kd.C_below HR1.out HB.out)|(with_reducible refine Kd.C_alloc ?_ _)|(with_reducible refine Kd.C_drewN ?_ _)|(with_reducible refine Kd.C_drew ?_)));(case side4=>exact HC1.out);rintro e w32 ⟨rfl,hb⟩;have n0_:=Aside0.mk (Kd.S_below (by (with_reducible repeat (first|apply Kd.S_alloc|apply Kd.S_drewN|apply Kd.S_drew));exact HO_11.out) hb);have n1_:=Aside0.mk (Kd.R_below (by (with_reducible repeat (first|apply Kd.R_alloc|apply Kd.R_drewN|apply Kd.R_drew));exact HL116_0.out) hb);have n2_:=Aside0.mk (Kd.R_below (by (with_reducible repeat (first|apply Kd.R_alloc|apply Kd.R_drewN|apply Kd.R_drew));exact HL120_0.out) hb);have n3_:=Aside0.mk (Kd.C_below (by repeat (first|(with_reducible exact HR116_0.out)|(with_reducible refine Kd.C_alloc ?_ _)|(with_reducible refine Kd.C_drewN ?_ _)|(with_reducible refine Kd.C_drew ?_)|exact HR116_0.out)) hb);have n4_:=Aside0.mk (Kd.C_below (by repeat (first|(with_reducible exact HR120_0.out)|(with_reducible refine Kd.C_alloc ?_ _)|(with_reducible refine Kd.C_drewN ?_ _)|(with_reducible refine Kd.C_drew ?_)|exact HR120_0.out)) hb);have n5_:=Aside0.mk (below_step (by repeat (first|(with_reducible first|exact HB.out|apply below_alloc|apply pw_below_drewN|apply below_drew1)|exact HB.out)) hb);clear HO_11;clear HL116_0;clear HL120_0;clear HR116_0;clear HR120_0;clear HB;have HO_11:=n0_;have HL116_0:=n1_;have HL120_0:=n2_;have HR116_0:=n3_;have HR120_0:=n4_;have HB:=n5_;clear n0_ n1_ n2_ n3_ n4_ n5_;(try clear hb);(try clear hb2);(try clear hk);(try clear hi);have p123:0 ≤ (x70_2:Int):=of_decide_eq_true (by first|(with_reducible assumption)|assumption);have q123:x70_2 < (t111.length:Int):=of_decide_eq_true (by first|(with_reducible assumption)|assumption);obtain ⟨ad123,A123_0,c123_0,e123,hx123_0,hl123_0,hi123_0⟩:=at_L14 (Kd.S_reads' HO_11.out).2.2 x70_2 p123 q123;obtain rfl:ad116 = ad123:=(by injection e123);obtain ⟨ce123,hce123,hMe123,hcc123⟩:=Kd.S_get HO_11.out [] x70_2 p123 (by first|exact q123|exact of_decide_eq_true (by first|(with_reducible assumption)|assumption)|(have e_:=(Kd.S_reads' HO_11.out).1;omega));obtain ⟨ve123_0,rfl,ge123_0⟩:=hMe123;have hv123_0:=hcc123 0 _ rfl;rw [Nat.add_zero,show ((Kd.slice 73 k73)).sz = 1 from rfl,Nat.mul_one] at hv123_0;replace hv123_0:=Option.some.inj (hv123_0.symm.trans hx123_0);rw [hv123_0] at ge123_0;have HL123_0:=Aside0.mk (show Kd.R k73 73 _ _ _ _ (rd_L14 t111 x70_2) from ge123_0);clear hv123_0 ge123_0;clear hcc123 hce123;have HR123_0:=Aside0.mk hi123_0;have HC123_0:=Aside0.mk hl123_0;clear hi123_0 hl123_0;replace p123:=eq_true p123;replace q123:=eq_true q123))
            repeat (go_quiet (first|(go_at_call 29;(with_reducible refine (scan_Risk.calls k2 _ _ (rd_L14 t111 x70_2) _ _ l1 t117 t118 t119 _ ?side1 ?side2 ?side3 ?side4 A26.out).mono ?_);(case side1=>repeat (first|exact (by repeat (first|(with_reducible exact HR116_0.out)|(with_reducible refine Kd.C_alloc ?_ _)|(with_reducible refine Kd.C_drewN ?_ _)|(with_reducible refine Kd.C_drew ?_)|exact HR116_0.out))|(with_reducible refine Kd.C_alloc ?_ _)|(with_reducible refine Kd.C_drewN ?_ _)|(with_reducible refine Kd.C_drew ?_)));(case side2=>exact HC116_0.out);(case side3=>repeat (first|exact (Kd.C_below HR1.out HB.out)|(with_reducible refine Kd.C_alloc ?_ _)|(with_reducible refine Kd.C_drewN ?_ _)|(with_reducible refine Kd.C_drew ?_)));(case side4=>exact HC1.out);rintro e w31 ⟨rfl,hb⟩;have n0_:=Aside0.mk (Kd.S_below (by (with_reducible repeat (first|apply Kd.S_alloc|apply Kd.S_drewN|apply Kd.S_drew));exact HO_11.out) hb);have n1_:=Aside0.mk (Kd.R_below (by (with_reducible repeat (first|apply Kd.R_alloc|apply Kd.R_drewN|apply Kd.R_drew));exact HL116_0.out) hb);have n2_:=Aside0.mk (Kd.C_below (by repeat (first|(with_reducible exact HR116_0.out)|(with_reducible refine Kd.C_alloc ?_ _)|(with_reducible refine Kd.C_drewN ?_ _)|(with_reducible refine Kd.C_drew ?_)|exact HR116_0.out)) hb);have n3_:=Aside0.mk (below_step (by repeat (first|(with_reducible first|exact HB.out|apply below_alloc|apply pw_below_drewN|apply below_drew1)|exact HB.out)) hb);clear HO_11;clear HL116_0;clear HR116_0;clear HB;have HO_11:=n0_;have HL116_0:=n1_;have HR116_0:=n2_;have HB:=n3_;clear n0_ n1_ n2_ n3_;(try clear hb);(try clear hb2);(try clear hk);(try clear hi);have p120:0 ≤ (x70_2:Int):=of_decide_eq_true (by first|(with_reducible assumption)|assumption);have q120:x70_2 < (t111.length:Int):=of_decide_eq_true (by first|(with_reducible assumption)|assumption);obtain ⟨ad120,A120_0,c120_0,e120,hx120_0,hl120_0,hi120_0⟩:=at_L14 (Kd.S_reads' HO_11.out).2.2 x70_2 p120 q120;obtain rfl:ad116 = ad120:=(by injection e120);obtain ⟨ce120,hce120,hMe120,hcc120⟩:=Kd.S_get HO_11.out [] x70_2 p120 (by first|exact q120|exact of_decide_eq_true (by first|(with_reducible assumption)|assumption)|(have e_:=(Kd.S_reads' HO_11.out).1;omega));obtain ⟨ve120_0,rfl,ge120_0⟩:=hMe120;have hv120_0:=hcc120 0 _ rfl;rw [Nat.add_zero,show ((Kd.slice 73 k73)).sz = 1 from rfl,Nat.mul_one] at hv120_0;replace hv120_0:=Option.some.inj (hv120_0.symm.trans hx120_0);rw [hv120_0] at ge120_0;have HL120_0:=Aside0.mk (show Kd.R k73 73 _ _ _ _ (rd_L14 t111 x70_2) from ge120_0);clear hv120_0 ge120_0;clear hcc120 hce120;have HR120_0:=Aside0.mk hi120_0;have HC120_0:=Aside0.mk hl120_0;clear hi120_0 hl120_0;replace p120:=eq_true p120;replace q120:=eq_true q120)|(go_at_call 36;(with_reducible refine (scan_Delta.calls k2 _ _ (rd_L14 t111 x70_2) _ _ l1 t121 t122 _ ?side1 ?side2 ?side3 ?side4 A27.out).mono ?_);(case side1=>repeat (first|exact (by repeat (first|(with_reducible exact HR120_0.out)|(with_reducible refine Kd.C_alloc ?_ _)|(with_reducible refine Kd.C_drewN ?_ _)|(with_reducible refine Kd.C_drew ?_)|exact HR120_0.out))|(with_reducible refine Kd.C_alloc ?_ _)|(with_reducible refine Kd.C_drewN ?_ _)|(with_reducible refine Kd.C_drew ?_)));(case side2=>exact HC120_0.out);(case side3=>repeat (first|exact (Kd.C_below HR1.out HB.out)|(with_reducible refine Kd.C_alloc ?_ _)|(with_reducible refine Kd.C_drewN ?_ _)|(with_reducible refine Kd.C_drew ?_)));(case side4=>exact HC1.out);rintro e w32 ⟨rfl,hb⟩;have n0_:=Aside0.mk (Kd.S_below (by (with_reducible repeat (first|apply Kd.S_alloc|apply Kd.S_drewN|apply Kd.S_drew));exact HO_11.out) hb);have n1_:=Aside0.mk (Kd.R_below (by (with_reducible repeat (first|apply Kd.R_alloc|apply Kd.R_drewN|apply Kd.R_drew));exact HL116_0.out) hb);have n2_:=Aside0.mk (Kd.R_below (by (with_reducible repeat (first|apply Kd.R_alloc|apply Kd.R_drewN|apply Kd.R_drew));exact HL120_0.out) hb);have n3_:=Aside0.mk (Kd.C_below (by repeat (first|(with_reducible exact HR116_0.out)|(with_reducible refine Kd.C_alloc ?_ _)|(with_reducible refine Kd.C_drewN ?_ _)|(with_reducible refine Kd.C_drew ?_)|exact HR116_0.out)) hb);have n4_:=Aside0.mk (Kd.C_below (by repeat (first|(with_reducible exact HR120_0.out)|(with_reducible refine Kd.C_alloc ?_ _)|(with_reducible refine Kd.C_drewN ?_ _)|(with_reducible refine Kd.C_drew ?_)|exact HR120_0.out)) hb);have n5_:=Aside0.mk (below_step (by repeat (first|(with_reducible first|exact HB.out|apply below_alloc|apply pw_below_drewN|apply below_drew1)|exact HB.out)) hb);clear HO_11;clear HL116_0;clear HL120_0;clear HR116_0;clear HR120_0;clear HB;have HO_11:=n0_;have HL116_0:=n1_;have HL120_0:=n2_;have HR116_0:=n3_;have HR120_0:=n4_;have HB:=n5_;clear n0_ n1_ n2_ n3_ n4_ n5_;(try clear hb);(try clear hb2);(try clear hk);(try clear hi);have p123:0 ≤ (x70_2:Int):=of_decide_eq_true (by first|(with_reducible assumption)|assumption);have q123:x70_2 < (t111.length:Int):=of_decide_eq_true (by first|(with_reducible assumption)|assumption);obtain ⟨ad123,A123_0,c123_0,e123,hx123_0,hl123_0,hi123_0⟩:=at_L14 (Kd.S_reads' HO_11.out).2.2 x70_2 p123 q123;obtain rfl:ad116 = ad123:=(by injection e123);obtain ⟨ce123,hce123,hMe123,hcc123⟩:=Kd.S_get HO_11.out [] x70_2 p123 (by first|exact q123|exact of_decide_eq_true (by first|(with_reducible assumption)|assumption)|(have e_:=(Kd.S_reads' HO_11.out).1;omega));obtain ⟨ve123_0,rfl,ge123_0⟩:=hMe123;have hv123_0:=hcc123 0 _ rfl;rw [Nat.add_zero,show ((Kd.slice 73 k73)).sz = 1 from rfl,Nat.mul_one] at hv123_0;replace hv123_0:=Option.some.inj (hv123_0.symm.trans hx123_0);rw [hv123_0] at ge123_0;have HL123_0:=Aside0.mk (show Kd.R k73 73 _ _ _ _ (rd_L14 t111 x70_2) from ge123_0);clear hv123_0 ge123_0;clear hcc123 hce123;have HR123_0:=Aside0.mk hi123_0;have HC123_0:=Aside0.mk hl123_0;clear hi123_0 hl123_0;replace p123:=eq_true p123;replace q123:=eq_true q123));try go_wp2_with (first|(go_at_call 29;(with_reducible refine (scan_Risk.calls k2 _ _ (rd_L14 t111 x70_2) _ _ l1 t117 t118 t119 _ ?side1 ?side2 ?side3 ?side4 A26.out).mono ?_);(case side1=>repeat (first|exact (by repeat (first|(with_reducible exact HR116_0.out)|(with_reducible refine Kd.C_alloc ?_ _)|(with_reducible refine Kd.C_drewN ?_ _)|(with_reducible refine Kd.C_drew ?_)|exact HR116_0.out))|(with_reducible refine Kd.C_alloc ?_ _)|(with_reducible refine Kd.C_drewN ?_ _)|(with_reducible refine Kd.C_drew ?_)));(case side2=>exact HC116_0.out);(case side3=>repeat (first|exact (Kd.C_below HR1.out HB.out)|(with_reducible refine Kd.C_alloc ?_ _)|(with_reducible refine Kd.C_drewN ?_ _)|(with_reducible refine Kd.C_drew ?_)));(case side4=>exact HC1.out);rintro e w31 ⟨rfl,hb⟩;have n0_:=Aside0.mk (Kd.S_below (by (with_reducible repeat (first|apply Kd.S_alloc|apply Kd.S_drewN|apply Kd.S_drew));exact HO_11.out) hb);have n1_:=Aside0.mk (Kd.R_below (by (with_reducible repeat (first|apply Kd.R_alloc|apply Kd.R_drewN|apply Kd.R_drew));exact HL116_0.out) hb);have n2_:=Aside0.mk (Kd.C_below (by repeat (first|(with_reducible exact HR116_0.out)|(with_reducible refine Kd.C_alloc ?_ _)|(with_reducible refine Kd.C_drewN ?_ _)|(with_reducible refine Kd.C_drew ?_)|exact HR116_0.out)) hb);have n3_:=Aside0.mk (below_step (by repeat (first|(with_reducible first|exact HB.out|apply below_alloc|apply pw_below_drewN|apply below_drew1)|exact HB.out)) hb);clear HO_11;clear HL116_0;clear HR116_0;clear HB;have HO_11:=n0_;have HL116_0:=n1_;have HR116_0:=n2_;have HB:=n3_;clear n0_ n1_ n2_ n3_;(try clear hb);(try clear hb2);(try clear hk);(try clear hi);have p120:0 ≤ (x70_2:Int):=of_decide_eq_true (by first|(with_reducible assumption)|assumption);have q120:x70_2 < (t111.length:Int):=of_decide_eq_true (by first|(with_reducible assumption)|assumption);obtain ⟨ad120,A120_0,c120_0,e120,hx120_0,hl120_0,hi120_0⟩:=at_L14 (Kd.S_reads' HO_11.out).2.2 x70_2 p120 q120;obtain rfl:ad116 = ad120:=(by injection e120);obtain ⟨ce120,hce120,hMe120,hcc120⟩:=Kd.S_get HO_11.out [] x70_2 p120 (by first|exact q120|exact of_decide_eq_true (by first|(with_reducible assumption)|assumption)|(have e_:=(Kd.S_reads' HO_11.out).1;omega));obtain ⟨ve120_0,rfl,ge120_0⟩:=hMe120;have hv120_0:=hcc120 0 _ rfl;rw [Nat.add_zero,show ((Kd.slice 73 k73)).sz = 1 from rfl,Nat.mul_one] at hv120_0;replace hv120_0:=Option.some.inj (hv120_0.symm.trans hx120_0);rw [hv120_0] at ge120_0;have HL120_0:=Aside0.mk (show Kd.R k73 73 _ _ _ _ (rd_L14 t111 x70_2) from ge120_0);clear hv120_0 ge120_0;clear hcc120 hce120;have HR120_0:=Aside0.mk hi120_0;have HC120_0:=Aside0.mk hl120_0;clear hi120_0 hl120_0;replace p120:=eq_true p120;replace q120:=eq_true q120)|(go_at_call 36;(with_reducible refine (scan_Delta.calls k2 _ _ (rd_L14 t111 x70_2) _ _ l1 t121 t122 _ ?side1 ?side2 ?side3 ?side4 A27.out).mono ?_);(case side1=>repeat (first|exact (by repeat (first|(with_reducible exact HR120_0.out)|(with_reducible refine Kd.C_alloc ?_ _)|(with_reducible refine Kd.C_drewN ?_ _)|(with_reducible refine Kd.C_drew ?_)|exact HR120_0.out))|(with_reducible refine Kd.C_alloc ?_ _)|(with_reducible refine Kd.C_drewN ?_ _)|(with_reducible refine Kd.C_drew ?_)));(case side2=>exact HC120_0.out);(case side3=>repeat (first|exact (Kd.C_below HR1.out HB.out)|(with_reducible refine Kd.C_alloc ?_ _)|(with_reducible refine Kd.C_drewN ?_ _)|(with_reducible refine Kd.C_drew ?_)));(case side4=>exact HC1.out);rintro e w32 ⟨rfl,hb⟩;have n0_:=Aside0.mk (Kd.S_below (by (with_reducible repeat (first|apply Kd.S_alloc|apply Kd.S_drewN|apply Kd.S_drew));exact HO_11.out) hb);have n1_:=Aside0.mk (Kd.R_below (by (with_reducible repeat (first|apply Kd.R_alloc|apply Kd.R_drewN|apply Kd.R_drew));exact HL116_0.out) hb);have n2_:=Aside0.mk (Kd.R_below (by (with_reducible repeat (first|apply Kd.R_alloc|apply Kd.R_drewN|apply Kd.R_drew));exact HL120_0.out) hb);have n3_:=Aside0.mk (Kd.C_below (by repeat (first|(with_reducible exact HR116_0.out)|(with_reducible refine Kd.C_alloc ?_ _)|(with_reducible refine Kd.C_drewN ?_ _)|(with_reducible refine Kd.C_drew ?_)|exact HR116_0.out)) hb);have n4_:=Aside0.mk (Kd.C_below (by repeat (first|(with_reducible exact HR120_0.out)|(with_reducible refine Kd.C_alloc ?_ _)|(with_reducible refine Kd.C_drewN ?_ _)|(with_reducible refine Kd.C_drew ?_)|exact HR120_0.out)) hb);have n5_:=Aside0.mk (below_step (by repeat (first|(with_reducible first|exact HB.out|apply below_alloc|apply pw_below_drewN|apply below_drew1)|exact HB.out)) hb);clear HO_11;clear HL116_0;clear HL120_0;clear HR116_0;clear HR120_0;clear HB;have HO_11:=n0_;have HL116_0:=n1_;have HL120_0:=n2_;have HR116_0:=n3_;have HR120_0:=n4_;have HB:=n5_;clear n0_ n1_ n2_ n3_ n4_ n5_;(try clear hb);(try clear hb2);(try clear hk);(try clear hi);have p123:0 ≤ (x70_2:Int):=of_decide_eq_true (by first|(with_reducible assumption)|assumption);have q123:x70_2 < (t111.length:Int):=of_decide_eq_true (by first|(with_reducible assumption)|assumption);obtain ⟨ad123,A123_0,c123_0,e123,hx123_0,hl123_0,hi123_0⟩:=at_L14 (Kd.S_reads' HO_11.out).2.2 x70_2 p123 q123;obtain rfl:ad116 = ad123:=(by injection e123);obtain ⟨ce123,hce123,hMe123,hcc123⟩:=Kd.S_get HO_11.out [] x70_2 p123 (by first|exact q123|exact of_decide_eq_true (by first|(with_reducible assumption)|assumption)|(have e_:=(Kd.S_reads' HO_11.out).1;omega));obtain ⟨ve123_0,rfl,ge123_0⟩:=hMe123;have hv123_0:=hcc123 0 _ rfl;rw [Nat.add_zero,show ((Kd.slice 73 k73)).sz = 1 from rfl,Nat.mul_one] at hv123_0;replace hv123_0:=Option.some.inj (hv123_0.symm.trans hx123_0);rw [hv123_0] at ge123_0;have HL123_0:=Aside0.mk (show Kd.R k73 73 _ _ _ _ (rd_L14 t111 x70_2) from ge123_0);clear hv123_0 ge123_0;clear hcc123 hce123;have HR123_0:=Aside0.mk hi123_0;have HC123_0:=Aside0.mk hl123_0;clear hi123_0 hl123_0;replace p123:=eq_true p123;replace q123:=eq_true q123)))
            go_roundg k2
            case measure=>have:=HJ6.out;have:=HK2.out;omega
            case rel=>exact ⟨(ji30),(wrap64 (x13_2 + t121)),(wrap64 (x14_2 + ((rd_L14 t111 x70_2).length:Int))),(wrap64 (x70_2 + 1)),(by first|rfl|(simp;done)|(simp only [← hji30] <;> (first|rfl|simp))|(simp [*];done)),(by first|rfl|(simp;done)|(simp [*];done)),(by first|rfl|(simp;done)|(simp [*];done)),(by first|rfl|(simp;done)|(simp [*];done)),H',⟨by have:=HJ6.out;have:=HK2.out;omega⟩,⟨by (with_reducible repeat (first|apply Kd.S_alloc|apply Kd.S_drewN|apply Kd.S_drew));exact HO_11.out⟩,⟨by repeat (first|(with_reducible first|exact HB.out|apply below_alloc|apply pw_below_drewN|apply below_drew1)|exact HB.out)⟩⟩
           ·rw [if_neg c29] at H
            exact absurd H (by simp)
          ·rw [if_neg c28] at H
           have c28b0:(t119 == 0) = false:=beq_eq_false_iff_ne.mpr c28
           have c28b1:(t119 != 0) = true:=bne_iff_ne.mpr c28
           by_cases c33:t119 = 3
           ·rw [if_pos c33] at H
            have c33b0:(t119 == 3) = true:=beq_iff_eq.mpr c33
            have c33b1:(t119 != 3) = false:=bne_eq_false_iff_eq.mpr c33
            clear c33
            replace H:=Option.bind_eq_some_iff.mp H
            obtain ⟨t124,A340,H⟩:=H
            replace H:(some t124) = some r:=H
            have A34:=Aside0.mk A340
            clear A340
            obtain rfl:=Option.some.inj H
            have p116:0 ≤ (x70_2:Int):=of_decide_eq_true (by first|(with_reducible assumption)|assumption)
            have q116:x70_2 < (t111.length:Int):=of_decide_eq_true (by first|(with_reducible assumption)|assumption)
            obtain ⟨ad116,A116_0,c116_0,e116,hx116_0,hl116_0,hi116_0⟩:=at_L14 (Kd.S_reads' HO_11.out).2.2 x70_2 p116 q116
            cases e116
            obtain ⟨ce116,hce116,hMe116,hcc116⟩:=Kd.S_get HO_11.out [] x70_2 p116 (by first|exact q116|exact of_decide_eq_true (by first|(with_reducible assumption)|assumption)|(have e_:=(Kd.S_reads' HO_11.out).1;omega))
            obtain ⟨ve116_0,rfl,ge116_0⟩:=hMe116
            have hv116_0:=hcc116 0 _ rfl
            rw [Nat.add_zero,show ((Kd.slice 73 k73)).sz = 1 from rfl,Nat.mul_one] at hv116_0
            replace hv116_0:=Option.some.inj (hv116_0.symm.trans hx116_0)
            rw [hv116_0] at ge116_0
            have HL116_0:=Aside0.mk (show Kd.R k73 73 _ _ _ _ (rd_L14 t111 x70_2) from ge116_0)
            clear hv116_0 ge116_0
            clear hcc116 hce116
            have HR116_0:=Aside0.mk hi116_0
            have HC116_0:=Aside0.mk hl116_0
            clear hi116_0 hl116_0
            replace p116:=eq_true p116
            replace q116:=eq_true q116
            go_wp2_with (first|(go_at_call 29;(with_reducible refine (scan_Risk.calls k2 _ _ (rd_L14 t111 x70_2) _ _ l1 t117 t118 t119 _ ?side1 ?side2 ?side3 ?side4 A26.out).mono ?_);(case side1=>repeat (first|exact (by repeat (first|(with_reducible exact HR116_0.out)|(with_reducible refine Kd.C_alloc ?_ _)|(with_reducible refine Kd.C_drewN ?_ _)|(with_reducible refine Kd.C_drew ?_)|exact HR116_0.out))|(with_reducible refine Kd.C_alloc ?_ _)|(with_reducible refine Kd.C_drewN ?_ _)|(with_reducible refine Kd.C_drew ?_)));(case side2=>exact HC116_0.out);(case side3=>repeat (first|exact (Kd.C_below HR1.out HB.out)|(with_reducible refine Kd.C_alloc ?_ _)|(with_reducible refine Kd.C_drewN ?_ _)|(with_reducible refine Kd.C_drew ?_)));(case side4=>exact HC1.out);rintro e w35 ⟨rfl,hb⟩;have n0_:=Aside0.mk (Kd.S_below (by (with_reducible repeat (first|apply Kd.S_alloc|apply Kd.S_drewN|apply Kd.S_drew));exact HO_11.out) hb);have n1_:=Aside0.mk (Kd.R_below (by (with_reducible repeat (first|apply Kd.R_alloc|apply Kd.R_drewN|apply Kd.R_drew));exact HL116_0.out) hb);have n2_:=Aside0.mk (Kd.C_below (by repeat (first|(with_reducible exact HR116_0.out)|(with_reducible refine Kd.C_alloc ?_ _)|(with_reducible refine Kd.C_drewN ?_ _)|(with_reducible refine Kd.C_drew ?_)|exact HR116_0.out)) hb);have n3_:=Aside0.mk (below_step (by repeat (first|(with_reducible first|exact HB.out|apply below_alloc|apply pw_below_drewN|apply below_drew1)|exact HB.out)) hb);clear HO_11;clear HL116_0;clear HR116_0;clear HB;have HO_11:=n0_;have HL116_0:=n1_;have HR116_0:=n2_;have HB:=n3_;clear n0_ n1_ n2_ n3_;(try clear hb);(try clear hb2);(try clear hk);(try clear hi);have p120:0 ≤ (x70_2:Int):=of_decide_eq_true (by first|(with_reducible assumption)|assumption);have q120:x70_2 < (t111.length:Int):=of_decide_eq_true (by first|(with_reducible assumption)|assumption);obtain ⟨ad120,A120_0,c120_0,e120,hx120_0,hl120_0,hi120_0⟩:=at_L14 (Kd.S_reads' HO_11.out).2.2 x70_2 p120 q120;obtain rfl:ad116 = ad120:=(by injection e120);obtain ⟨ce120,hce120,hMe120,hcc120⟩:=Kd.S_get HO_11.out [] x70_2 p120 (by first|exact q120|exact of_decide_eq_true (by first|(with_reducible assumption)|assumption)|(have e_:=(Kd.S_reads' HO_11.out).1;omega));obtain ⟨ve120_0,rfl,ge120_0⟩:=hMe120;have hv120_0:=hcc120 0 _ rfl;rw [Nat.add_zero,show ((Kd.slice 73 k73)).sz = 1 from rfl,Nat.mul_one] at hv120_0;replace hv120_0:=Option.some.inj (hv120_0.symm.trans hx120_0);rw [hv120_0] at ge120_0;have HL120_0:=Aside0.mk (show Kd.R k73 73 _ _ _ _ (rd_L14 t111 x70_2) from ge120_0);clear hv120_0 ge120_0;clear hcc120 hce120;have HR120_0:=Aside0.mk hi120_0;have HC120_0:=Aside0.mk hl120_0;clear hi120_0 hl120_0;replace p120:=eq_true p120;replace q120:=eq_true q120)|(go_at_call 36;(with_reducible refine (scan_Delta.calls k2 _ _ (rd_L14 t111 x70_2) _ _ l1 t121 t122 _ ?side1 ?side2 ?side3 ?side4 A27.out).mono ?_);(case side1=>repeat (first|exact (by repeat (first|(with_reducible exact HR120_0.out)|(with_reducible refine Kd.C_alloc ?_ _)|(with_reducible refine Kd.C_drewN ?_ _)|(with_reducible refine Kd.C_drew ?_)|exact HR120_0.out))|(with_reducible refine Kd.C_alloc ?_ _)|(with_reducible refine Kd.C_drewN ?_ _)|(with_reducible refine Kd.C_drew ?_)));(case side2=>exact HC120_0.out);(case side3=>repeat (first|exact (Kd.C_below HR1.out HB.out)|(with_reducible refine Kd.C_alloc ?_ _)|(with_reducible refine Kd.C_drewN ?_ _)|(with_reducible refine Kd.C_drew ?_)));(case side4=>exact HC1.out);rintro e w36 ⟨rfl,hb⟩;have n0_:=Aside0.mk (Kd.S_below (by (with_reducible repeat (first|apply Kd.S_alloc|apply Kd.S_drewN|apply Kd.S_drew));exact HO_11.out) hb);have n1_:=Aside0.mk (Kd.R_below (by (with_reducible repeat (first|apply Kd.R_alloc|apply Kd.R_drewN|apply Kd.R_drew));exact HL116_0.out) hb);have n2_:=Aside0.mk (Kd.R_below (by (with_reducible repeat (first|apply Kd.R_alloc|apply Kd.R_drewN|apply Kd.R_drew));exact HL120_0.out) hb);have n3_:=Aside0.mk (Kd.C_below (by repeat (first|(with_reducible exact HR116_0.out)|(with_reducible refine Kd.C_alloc ?_ _)|(with_reducible refine Kd.C_drewN ?_ _)|(with_reducible refine Kd.C_drew ?_)|exact HR116_0.out)) hb);have n4_:=Aside0.mk (Kd.C_below (by repeat (first|(with_reducible exact HR120_0.out)|(with_reducible refine Kd.C_alloc ?_ _)|(with_reducible refine Kd.C_drewN ?_ _)|(with_reducible refine Kd.C_drew ?_)|exact HR120_0.out)) hb);have n5_:=Aside0.mk (below_step (by repeat (first|(with_reducible first|exact HB.out|apply below_alloc|apply pw_below_drewN|apply below_drew1)|exact HB.out)) hb);clear HO_11;clear HL116_0;clear HL120_0;clear HR116_0;clear HR120_0;clear HB;have HO_11:=n0_;have HL116_0:=n1_;have HL120_0:=n2_;have HR116_0:=n3_;have HR120_0:=n4_;have HB:=n5_;clear n0_ n1_ n2_ n3_ n4_ n5_;(try clear hb);(try clear hb2);(try clear hk);(try clear hi))|(go_at_call 25;(with_reducible refine (contangolaw23_goes.calls k2  t124 _ A34.out).mono ?_);rintro e w37 ⟨rfl,hb⟩;have n0_:=Aside0.mk (Kd.S_below (by (with_reducible repeat (first|apply Kd.S_alloc|apply Kd.S_drewN|apply Kd.S_drew));exact HO_11.out) hb);have n1_:=Aside0.mk (Kd.R_below (by (with_reducible repeat (first|apply Kd.R_alloc|apply Kd.R_drewN|apply Kd.R_drew));exact HL116_0.out) hb);have n2_:=Aside0.mk (Kd.R_below (by (with_reducible repeat (first|apply Kd.R_alloc|apply Kd.R_drewN|apply Kd.R_drew));exact HL120_0.out) hb);have n3_:=Aside0.mk (Kd.C_below (by repeat (first|(with_reducible exact HR116_0.out)|(with_reducible refine Kd.C_alloc ?_ _)|(with_reducible refine Kd.C_drewN ?_ _)|(with_reducible refine Kd.C_drew ?_)|exact HR116_0.out)) hb);have n4_:=Aside0.mk (Kd.C_below (by repeat (first|(with_reducible exact HR120_0.out)|(with_reducible refine Kd.C_alloc ?_ _)|(with_reducible refine Kd.C_drewN ?_ _)|(with_reducible refine Kd.C_drew ?_)|exact HR120_0.out)) hb);have n5_:=Aside0.mk (below_step (by repeat (first|(with_reducible first|exact HB.out|apply below_alloc|apply pw_below_drewN|apply below_drew1)|exact HB.out)) hb);clear HO_11;clear HL116_0;clear HL120_0;clear HR116_0;clear HR120_0;clear HB;have HO_11:=n0_;have HL116_0:=n1_;have HL120_0:=n2_;have HR116_0:=n3_;have HR120_0:=n4_;have HB:=n5_;clear n0_ n1_ n2_ n3_ n4_ n5_;(try clear hb);(try clear hb2);(try clear hk);(try clear hi)))
            repeat (go_quiet (first|(go_at_call 29;(with_reducible refine (scan_Risk.calls k2 _ _ (rd_L14 t111 x70_2) _ _ l1 t117 t118 t119 _ ?side1 ?side2 ?side3 ?side4 A26.out).mono ?_);(case side1=>repeat (first|exact (by repeat (first|(with_reducible exact HR116_0.out)|(with_reducible refine Kd.C_alloc ?_ _)|(with_reducible refine Kd.C_drewN ?_ _)|(with_reducible refine Kd.C_drew ?_)|exact HR116_0.out))|(with_reducible refine Kd.C_alloc ?_ _)|(with_reducible refine Kd.C_drewN ?_ _)|(with_reducible refine Kd.C_drew ?_)));(case side2=>exact HC116_0.out);(case side3=>repeat (first|exact (Kd.C_below HR1.out HB.out)|(with_reducible refine Kd.C_alloc ?_ _)|(with_reducible refine Kd.C_drewN ?_ _)|(with_reducible refine Kd.C_drew ?_)));(case side4=>exact HC1.out);rintro e w35 ⟨rfl,hb⟩;have n0_:=Aside0.mk (Kd.S_below (by (with_reducible repeat (first|apply Kd.S_alloc|apply Kd.S_drewN|apply Kd.S_drew));exact HO_11.out) hb);have n1_:=Aside0.mk (Kd.R_below (by (with_reducible repeat (first|apply Kd.R_alloc|apply Kd.R_drewN|apply Kd.R_drew));exact HL116_0.out) hb);have n2_:=Aside0.mk (Kd.C_below (by repeat (first|(with_reducible exact HR116_0.out)|(with_reducible refine Kd.C_alloc ?_ _)|(with_reducible refine Kd.C_drewN ?_ _)|(with_reducible refine Kd.C_drew ?_)|exact HR116_0.out)) hb);have n3_:=Aside0.mk (below_step (by repeat (first|(with_reducible first|exact HB.out|apply below_alloc|apply pw_below_drewN|apply below_drew1)|exact HB.out)) hb);clear HO_11;clear HL116_0;clear HR116_0;clear HB;have HO_11:=n0_;have HL116_0:=n1_;have HR116_0:=n2_;have HB:=n3_;clear n0_ n1_ n2_ n3_;(try clear hb);(try clear hb2);(try clear hk);(try clear hi);have p120:0 ≤ (x70_2:Int):=of_decide_eq_true (by first|(with_reducible assumption)|assumption);have q120:x70_2 < (t111.length:Int):=of_decide_eq_true (by first|(with_reducible assumption)|assumption);obtain ⟨ad120,A120_0,c120_0,e120,hx120_0,hl120_0,hi120_0⟩:=at_L14 (Kd.S_reads' HO_11.out).2.2 x70_2 p120 q120;obtain rfl:ad116 = ad120:=(by injection e120);obtain ⟨ce120,hce120,hMe120,hcc120⟩:=Kd.S_get HO_11.out [] x70_2 p120 (by first|exact q120|exact of_decide_eq_true (by first|(with_reducible assumption)|assumption)|(have e_:=(Kd.S_reads' HO_11.out).1;omega));obtain ⟨ve120_0,rfl,ge120_0⟩:=hMe120;have hv120_0:=hcc120 0 _ rfl;rw [Nat.add_zero,show ((Kd.slice 73 k73)).sz = 1 from rfl,Nat.mul_one] at hv120_0;replace hv120_0:=Option.some.inj (hv120_0.symm.trans hx120_0);rw [hv120_0] at ge120_0;have HL120_0:=Aside0.mk (show Kd.R k73 73 _ _ _ _ (rd_L14 t111 x70_2) from ge120_0);clear hv120_0 ge120_0;clear hcc120 hce120;have HR120_0:=Aside0.mk hi120_0;have HC120_0:=Aside0.mk hl120_0;clear hi120_0 hl120_0;replace p120:=eq_true p120;replace q120:=eq_true q120)|(go_at_call 36;(with_reducible refine (scan_Delta.calls k2 _ _ (rd_L14 t111 x70_2) _ _ l1 t121 t122 _ ?side1 ?side2 ?side3 ?side4 A27.out).mono ?_);(case side1=>repeat (first|exact (by repeat (first|(with_reducible exact HR120_0.out)|(with_reducible refine Kd.C_alloc ?_ _)|(with_reducible refine Kd.C_drewN ?_ _)|(with_reducible refine Kd.C_drew ?_)|exact HR120_0.out))|(with_reducible refine Kd.C_alloc ?_ _)|(with_reducible refine Kd.C_drewN ?_ _)|(with_reducible refine Kd.C_drew ?_)));(case side2=>exact HC120_0.out);(case side3=>repeat (first|exact (Kd.C_below HR1.out HB.out)|(with_reducible refine Kd.C_alloc ?_ _)|(with_reducible refine Kd.C_drewN ?_ _)|(with_reducible refine Kd.C_drew ?_)));(case side4=>exact HC1.out);rintro e w36 ⟨rfl,hb⟩;have n0_:=Aside0.mk (Kd.S_below (by (with_reducible repeat (first|apply Kd.S_alloc|apply Kd.S_drewN|apply Kd.S_drew));exact HO_11.out) hb);have n1_:=Aside0.mk (Kd.R_below (by (with_reducible repeat (first|apply Kd.R_alloc|apply Kd.R_drewN|apply Kd.R_drew));exact HL116_0.out) hb);have n2_:=Aside0.mk (Kd.R_below (by (with_reducible repeat (first|apply Kd.R_alloc|apply Kd.R_drewN|apply Kd.R_drew));exact HL120_0.out) hb);have n3_:=Aside0.mk (Kd.C_below (by repeat (first|(with_reducible exact HR116_0.out)|(with_reducible refine Kd.C_alloc ?_ _)|(with_reducible refine Kd.C_drewN ?_ _)|(with_reducible refine Kd.C_drew ?_)|exact HR116_0.out)) hb);have n4_:=Aside0.mk (Kd.C_below (by repeat (first|(with_reducible exact HR120_0.out)|(with_reducible refine Kd.C_alloc ?_ _)|(with_reducible refine Kd.C_drewN ?_ _)|(with_reducible refine Kd.C_drew ?_)|exact HR120_0.out)) hb);have n5_:=Aside0.mk (below_step (by repeat (first|(with_reducible first|exact HB.out|apply below_alloc|apply pw_below_drewN|apply below_drew1)|exact HB.out)) hb);clear HO_11;clear HL116_0;clear HL120_0;clear HR116_0;clear HR120_0;clear HB;have HO_11:=n0_;have HL116_0:=n1_;have HL120_0:=n2_;have HR116_0:=n3_;have HR120_0:=n4_;have HB:=n5_;clear n0_ n1_ n2_ n3_ n4_ n5_;(try clear hb);(try clear hb2);(try clear hk);(try clear hi))|(go_at_call 25;(with_reducible refine (contangolaw23_goes.calls k2  t124 _ A34.out).mono ?_);rintro e w37 ⟨rfl,hb⟩;have n0_:=Aside0.mk (Kd.S_below (by (with_reducible repeat (first|apply Kd.S_alloc|apply Kd.S_drewN|apply Kd.S_drew));exact HO_11.out) hb);have n1_:=Aside0.mk (Kd.R_below (by (with_reducible repeat (first|apply Kd.R_alloc|apply Kd.R_drewN|apply Kd.R_drew));exact HL116_0.out) hb);have n2_:=Aside0.mk (Kd.R_below (by (with_reducible repeat (first|apply Kd.R_alloc|apply Kd.R_drewN|apply Kd.R_drew));exact HL120_0.out) hb);have n3_:=Aside0.mk (Kd.C_below (by repeat (first|(with_reducible exact HR116_0.out)|(with_reducible refine Kd.C_alloc ?_ _)|(with_reducible refine Kd.C_drewN ?_ _)|(with_reducible refine Kd.C_drew ?_)|exact HR116_0.out)) hb);have n4_:=Aside0.mk (Kd.C_below (by repeat (first|(with_reducible exact HR120_0.out)|(with_reducible refine Kd.C_alloc ?_ _)|(with_reducible refine Kd.C_drewN ?_ _)|(with_reducible refine Kd.C_drew ?_)|exact HR120_0.out)) hb);have n5_:=Aside0.mk (below_step (by repeat (first|(with_reducible first|exact HB.out|apply below_alloc|apply pw_below_drewN|apply below_drew1)|exact HB.out)) hb);clear HO_11;clear HL116_0;clear HL120_0;clear HR116_0;clear HR120_0;clear HB;have HO_11:=n0_;have HL116_0:=n1_;have HL120_0:=n2_;have HR116_0:=n3_;have HR120_0:=n4_;have HB:=n5_;clear n0_ n1_ n2_ n3_ n4_ n5_;(try clear hb);(try clear hb2);(try clear hk);(try clear hi)));try go_wp2_with (first|(go_at_call 29;(with_reducible refine (scan_Risk.calls k2 _ _ (rd_L14 t111 x70_2) _ _ l1 t117 t118 t119 _ ?side1 ?side2 ?side3 ?side4 A26.out).mono ?_);(case side1=>repeat (first|exact (by repeat (first|(with_reducible exact HR116_0.out)|(with_reducible refine Kd.C_alloc ?_ _)|(with_reducible refine Kd.C_drewN ?_ _)|(with_reducible refine Kd.C_drew ?_)|exact HR116_0.out))|(with_reducible refine Kd.C_alloc ?_ _)|(with_reducible refine Kd.C_drewN ?_ _)|(with_reducible refine Kd.C_drew ?_)));(case side2=>exact HC116_0.out);(case side3=>repeat (first|exact (Kd.C_below HR1.out HB.out)|(with_reducible refine Kd.C_alloc ?_ _)|(with_reducible refine Kd.C_drewN ?_ _)|(with_reducible refine Kd.C_drew ?_)));(case side4=>exact HC1.out);rintro e w35 ⟨rfl,hb⟩;have n0_:=Aside0.mk (Kd.S_below (by (with_reducible repeat (first|apply Kd.S_alloc|apply Kd.S_drewN|apply Kd.S_drew));exact HO_11.out) hb);have n1_:=Aside0.mk (Kd.R_below (by (with_reducible repeat (first|apply Kd.R_alloc|apply Kd.R_drewN|apply Kd.R_drew));exact HL116_0.out) hb);have n2_:=Aside0.mk (Kd.C_below (by repeat (first|(with_reducible exact HR116_0.out)|(with_reducible refine Kd.C_alloc ?_ _)|(with_reducible refine Kd.C_drewN ?_ _)|(with_reducible refine Kd.C_drew ?_)|exact HR116_0.out)) hb);have n3_:=Aside0.mk (below_step (by repeat (first|(with_reducible first|exact HB.out|apply below_alloc|apply pw_below_drewN|apply below_drew1)|exact HB.out)) hb);clear HO_11;clear HL116_0;clear HR116_0;clear HB;have HO_11:=n0_;have HL116_0:=n1_;have HR116_0:=n2_;have HB:=n3_;clear n0_ n1_ n2_ n3_;(try clear hb);(try clear hb2);(try clear hk);(try clear hi);have p120:0 ≤ (x70_2:Int):=of_decide_eq_true (by first|(with_reducible assumption)|assumption);have q120:x70_2 < (t111.length:Int):=of_decide_eq_true (by first|(with_reducible assumption)|assumption);obtain ⟨ad120,A120_0,c120_0,e120,hx120_0,hl120_0,hi120_0⟩:=at_L14 (Kd.S_reads' HO_11.out).2.2 x70_2 p120 q120;obtain rfl:ad116 = ad120:=(by injection e120);obtain ⟨ce120,hce120,hMe120,hcc120⟩:=Kd.S_get HO_11.out [] x70_2 p120 (by first|exact q120|exact of_decide_eq_true (by first|(with_reducible assumption)|assumption)|(have e_:=(Kd.S_reads' HO_11.out).1;omega));obtain ⟨ve120_0,rfl,ge120_0⟩:=hMe120;have hv120_0:=hcc120 0 _ rfl;rw [Nat.add_zero,show ((Kd.slice 73 k73)).sz = 1 from rfl,Nat.mul_one] at hv120_0;replace hv120_0:=Option.some.inj (hv120_0.symm.trans hx120_0);rw [hv120_0] at ge120_0;have HL120_0:=Aside0.mk (show Kd.R k73 73 _ _ _ _ (rd_L14 t111 x70_2) from ge120_0);clear hv120_0 ge120_0;clear hcc120 hce120;have HR120_0:=Aside0.mk hi120_0;have HC120_0:=Aside0.mk hl120_0;clear hi120_0 hl120_0;replace p120:=eq_true p120;replace q120:=eq_true q120)|(go_at_call 36;(with_reducible refine (scan_Delta.calls k2 _ _ (rd_L14 t111 x70_2) _ _ l1 t121 t122 _ ?side1 ?side2 ?side3 ?side4 A27.out).mono ?_);(case side1=>repeat (first|exact (by repeat (first|(with_reducible exact HR120_0.out)|(with_reducible refine Kd.C_alloc ?_ _)|(with_reducible refine Kd.C_drewN ?_ _)|(with_reducible refine Kd.C_drew ?_)|exact HR120_0.out))|(with_reducible refine Kd.C_alloc ?_ _)|(with_reducible refine Kd.C_drewN ?_ _)|(with_reducible refine Kd.C_drew ?_)));(case side2=>exact HC120_0.out);(case side3=>repeat (first|exact (Kd.C_below HR1.out HB.out)|(with_reducible refine Kd.C_alloc ?_ _)|(with_reducible refine Kd.C_drewN ?_ _)|(with_reducible refine Kd.C_drew ?_)));(case side4=>exact HC1.out);rintro e w36 ⟨rfl,hb⟩;have n0_:=Aside0.mk (Kd.S_below (by (with_reducible repeat (first|apply Kd.S_alloc|apply Kd.S_drewN|apply Kd.S_drew));exact HO_11.out) hb);have n1_:=Aside0.mk (Kd.R_below (by (with_reducible repeat (first|apply Kd.R_alloc|apply Kd.R_drewN|apply Kd.R_drew));exact HL116_0.out) hb);have n2_:=Aside0.mk (Kd.R_below (by (with_reducible repeat (first|apply Kd.R_alloc|apply Kd.R_drewN|apply Kd.R_drew));exact HL120_0.out) hb);have n3_:=Aside0.mk (Kd.C_below (by repeat (first|(with_reducible exact HR116_0.out)|(with_reducible refine Kd.C_alloc ?_ _)|(with_reducible refine Kd.C_drewN ?_ _)|(with_reducible refine Kd.C_drew ?_)|exact HR116_0.out)) hb);have n4_:=Aside0.mk (Kd.C_below (by repeat (first|(with_reducible exact HR120_0.out)|(with_reducible refine Kd.C_alloc ?_ _)|(with_reducible refine Kd.C_drewN ?_ _)|(with_reducible refine Kd.C_drew ?_)|exact HR120_0.out)) hb);have n5_:=Aside0.mk (below_step (by repeat (first|(with_reducible first|exact HB.out|apply below_alloc|apply pw_below_drewN|apply below_drew1)|exact HB.out)) hb);clear HO_11;clear HL116_0;clear HL120_0;clear HR116_0;clear HR120_0;clear HB;have HO_11:=n0_;have HL116_0:=n1_;have HL120_0:=n2_;have HR116_0:=n3_;have HR120_0:=n4_;have HB:=n5_;clear n0_ n1_ n2_ n3_ n4_ n5_;(try clear hb);(try clear hb2);(try clear hk);(try clear hi))|(go_at_call 25;(with_reducible refine (contangolaw23_goes.calls k2  t124 _ A34.out).mono ?_);rintro e w37 ⟨rfl,hb⟩;have n0_:=Aside0.mk (Kd.S_below (by (with_reducible repeat (first|apply Kd.S_alloc|apply Kd.S_drewN|apply Kd.S_drew));exact HO_11.out) hb);have n1_:=Aside0.mk (Kd.R_below (by (with_reducible repeat (first|apply Kd.R_alloc|apply Kd.R_drewN|apply Kd.R_drew));exact HL116_0.out) hb);have n2_:=Aside0.mk (Kd.R_below (by (with_reducible repeat (first|apply Kd.R_alloc|apply Kd.R_drewN|apply Kd.R_drew));exact HL120_0.out) hb);have n3_:=Aside0.mk (Kd.C_below (by repeat (first|(with_reducible exact HR116_0.out)|(with_reducible refine Kd.C_alloc ?_ _)|(with_reducible refine Kd.C_drewN ?_ _)|(with_reducible refine Kd.C_drew ?_)|exact HR116_0.out)) hb);have n4_:=Aside0.mk (Kd.C_below (by repeat (first|(with_reducible exact HR120_0.out)|(with_reducible refine Kd.C_alloc ?_ _)|(with_reducible refine Kd.C_drewN ?_ _)|(with_reducible refine Kd.C_drew ?_)|exact HR120_0.out)) hb);have n5_:=Aside0.mk (below_step (by repeat (first|(with_reducible first|exact HB.out|apply below_alloc|apply pw_below_drewN|apply below_drew1)|exact HB.out)) hb);clear HO_11;clear HL116_0;clear HL120_0;clear HR116_0;clear HR120_0;clear HB;have HO_11:=n0_;have HL116_0:=n1_;have HL120_0:=n2_;have HR116_0:=n3_;have HR120_0:=n4_;have HB:=n5_;clear n0_ n1_ n2_ n3_ n4_ n5_;(try clear hb);(try clear hb2);(try clear hk);(try clear hi))))
            go_ret
            exact ⟨by first|rfl|(simp [errW_none,errW_some] <;> rfl)|(simp [*,errW_none,errW_some] <;> rfl),by repeat (first|(with_reducible first|exact HB.out|apply below_alloc|apply pw_below_drewN|apply below_drew1)|exact HB.out)⟩
           ·rw [if_neg c33] at H
            exact absurd H (by simp)
         ·rw [if_neg c25] at H
          exact absurd H (by simp)
        ·rw [if_neg c24] at H
         exact absurd H (by simp)
       ·rw [if_neg c23] at H
        have c23b0:decide (x70_2 < (t111.length:Int)) = false:=decide_eq_false c23
        clear c23
        replace H:=Option.bind_eq_some_iff.mp H
        obtain ⟨⟨t125,t126,t127⟩,A380,H⟩:=H
        replace H:(contangolaw23_ScanParts.l1 k2 l0 t103 t106 x12_2 x13_2 x14_2 t125 t126 t127 0 (t126.length:Int) 0) = some r:=H
        have A38:=Aside0.mk A380
        clear A380
        have H':=Aside0.mk H
        clear H
        go_wp2_with (first|(go_at_call 43;(with_reducible refine (scan_Expiries.calls k2 _ _ l0 _ _ l1 t125 t126 t127 _ ?side1 ?side2 ?side3 ?side4 A38.out).mono ?_);(case side1=>repeat (first|exact (Kd.C_below HR0.out HB.out)|(with_reducible refine Kd.C_alloc ?_ _)|(with_reducible refine Kd.C_drewN ?_ _)|(with_reducible refine Kd.C_drew ?_)));(case side2=>exact HC0.out);(case side3=>repeat (first|exact (Kd.C_below HR1.out HB.out)|(with_reducible refine Kd.C_alloc ?_ _)|(with_reducible refine Kd.C_drewN ?_ _)|(with_reducible refine Kd.C_drew ?_)));(case side4=>exact HC1.out);rintro e w39 ⟨v128,v130,rfl,ho0,ho1,hb⟩;have n0_:=Aside0.mk (Kd.S_below (by (with_reducible repeat (first|apply Kd.S_alloc|apply Kd.S_drewN|apply Kd.S_drew));exact HO_11.out) hb);have n1_:=Aside0.mk (Kd.R_lower ho0 (below_size (by repeat (first|(with_reducible first|exact HB.out|apply below_alloc|apply pw_below_drewN|apply below_drew1)|exact HB.out))));have n2_:=Aside0.mk (Kd.R_lower ho1 (below_size (by repeat (first|(with_reducible first|exact HB.out|apply below_alloc|apply pw_below_drewN|apply below_drew1)|exact HB.out))));have n3_:=Aside0.mk (below_step (by repeat (first|(with_reducible first|exact HB.out|apply below_alloc|apply pw_below_drewN|apply below_drew1)|exact HB.out)) hb);clear HO_11;clear HB;have HO_11:=n0_;have HO129:=n1_;have HO131:=n2_;have HB:=n3_;clear n0_ n1_ n2_ n3_;(try clear hb);(try clear hb2);(try clear hk);(try clear hi);(try clear ho0);(try clear ho1);obtain ⟨Ao40,co40,eo40⟩:=Kd.R_slice HO131.out;subst eo40))
        repeat (go_quiet (first|(go_at_call 43;(with_reducible refine (scan_Expiries.calls k2 _ _ l0 _ _ l1 t125 t126 t127 _ ?side1 ?side2 ?side3 ?side4 A38.out).mono ?_);(case side1=>repeat (first|exact (Kd.C_below HR0.out HB.out)|(with_reducible refine Kd.C_alloc ?_ _)|(with_reducible refine Kd.C_drewN ?_ _)|(with_reducible refine Kd.C_drew ?_)));(case side2=>exact HC0.out);(case side3=>repeat (first|exact (Kd.C_below HR1.out HB.out)|(with_reducible refine Kd.C_alloc ?_ _)|(with_reducible refine Kd.C_drewN ?_ _)|(with_reducible refine Kd.C_drew ?_)));(case side4=>exact HC1.out);rintro e w39 ⟨v128,v130,rfl,ho0,ho1,hb⟩;have n0_:=Aside0.mk (Kd.S_below (by (with_reducible repeat (first|apply Kd.S_alloc|apply Kd.S_drewN|apply Kd.S_drew));exact HO_11.out) hb);have n1_:=Aside0.mk (Kd.R_lower ho0 (below_size (by repeat (first|(with_reducible first|exact HB.out|apply below_alloc|apply pw_below_drewN|apply below_drew1)|exact HB.out))));have n2_:=Aside0.mk (Kd.R_lower ho1 (below_size (by repeat (first|(with_reducible first|exact HB.out|apply below_alloc|apply pw_below_drewN|apply below_drew1)|exact HB.out))));have n3_:=Aside0.mk (below_step (by repeat (first|(with_reducible first|exact HB.out|apply below_alloc|apply pw_below_drewN|apply below_drew1)|exact HB.out)) hb);clear HO_11;clear HB;have HO_11:=n0_;have HO129:=n1_;have HO131:=n2_;have HB:=n3_;clear n0_ n1_ n2_ n3_;(try clear hb);(try clear hb2);(try clear hk);(try clear hi);(try clear ho0);(try clear ho1);obtain ⟨Ao40,co40,eo40⟩:=Kd.R_slice HO131.out;subst eo40));try go_wp2_with (first|(go_at_call 43;(with_reducible refine (scan_Expiries.calls k2 _ _ l0 _ _ l1 t125 t126 t127 _ ?side1 ?side2 ?side3 ?side4 A38.out).mono ?_);(case side1=>repeat (first|exact (Kd.C_below HR0.out HB.out)|(with_reducible refine Kd.C_alloc ?_ _)|(with_reducible refine Kd.C_drewN ?_ _)|(with_reducible refine Kd.C_drew ?_)));(case side2=>exact HC0.out);(case side3=>repeat (first|exact (Kd.C_below HR1.out HB.out)|(with_reducible refine Kd.C_alloc ?_ _)|(with_reducible refine Kd.C_drewN ?_ _)|(with_reducible refine Kd.C_drew ?_)));(case side4=>exact HC1.out);rintro e w39 ⟨v128,v130,rfl,ho0,ho1,hb⟩;have n0_:=Aside0.mk (Kd.S_below (by (with_reducible repeat (first|apply Kd.S_alloc|apply Kd.S_drewN|apply Kd.S_drew));exact HO_11.out) hb);have n1_:=Aside0.mk (Kd.R_lower ho0 (below_size (by repeat (first|(with_reducible first|exact HB.out|apply below_alloc|apply pw_below_drewN|apply below_drew1)|exact HB.out))));have n2_:=Aside0.mk (Kd.R_lower ho1 (below_size (by repeat (first|(with_reducible first|exact HB.out|apply below_alloc|apply pw_below_drewN|apply below_drew1)|exact HB.out))));have n3_:=Aside0.mk (below_step (by repeat (first|(with_reducible first|exact HB.out|apply below_alloc|apply pw_below_drewN|apply below_drew1)|exact HB.out)) hb);clear HO_11;clear HB;have HO_11:=n0_;have HO129:=n1_;have HO131:=n2_;have HB:=n3_;clear n0_ n1_ n2_ n3_;(try clear hb);(try clear hb2);(try clear hk);(try clear hi);(try clear ho0);(try clear ho1);obtain ⟨Ao40,co40,eo40⟩:=Kd.R_slice HO131.out;subst eo40)))
        go_loopg [24,125] k2 (fun kq v24 v125 w'=>∃ (x24_3:Int) (x125_3:Int),v24 = .int .i64 x24_3 ∧ v125 = .int .i64 x125_3 ∧ Aside0 (contangolaw23_ScanParts.l1 kq l0 t103 t106 x12_2 x13_2 x14_2 t125 t126 t127 x24_3 (t126.length:Int) x125_3 = some r) ∧ Aside0 (kq ≤ k2) ∧ Aside0 (Kd.R (Kd.int .i64) 3 w' w.heap.size (fun k_=>some k_ ≠ ((.slice Ao40 t126.length co40):Value).ownBlock) v128 t125) ∧ Aside0 (Kd.R (Kd.int .i64) 3 w' w.heap.size (fun k_=>some k_ ≠ (v128:Value).ownBlock) (.slice Ao40 t126.length co40) t126) ∧ Aside0 (Below w.heap.size w w'))
        case atStart=>exact ⟨(0),(0),(by first|rfl|(simp;done)|(simp [*];done)),(by first|rfl|(simp;done)|(simp [*];done)),H',⟨Nat.le_refl _⟩,⟨by (with_reducible repeat (first|apply Kd.R_alloc|apply Kd.R_drewN|apply Kd.R_drew));exact HO129.out⟩,⟨by (with_reducible repeat (first|apply Kd.R_alloc|apply Kd.R_drewN|apply Kd.R_drew));exact HO131.out⟩,⟨by repeat (first|(with_reducible first|exact HB.out|apply below_alloc|apply pw_below_drewN|apply below_drew1)|exact HB.out)⟩⟩
        case round =>
         clear H'
         try clear c1
         try clear p1
         try clear q1
         try clear hx1
         try clear c2
         try clear p2
         try clear c3
         try clear c4
         try clear p6
         try clear c11
         try clear c11b0
         try clear c11b1
         try clear p11
         try clear q11
         try clear hx11
         try clear c12
         try clear p12
         try clear q12
         try clear hx12
         try clear c13
         try clear c13b0
         try clear c13b1
         try clear c14
         try clear c14b0
         try clear c14b1
         try clear c17
         try clear c17b0
         try clear c17b1
         try clear c23
         try clear c23b0
         try clear c24
         try clear c24b0
         try clear c25
         try clear c25b0
         try clear c28
         try clear c28b0
         try clear c28b1
         try clear c29
         try clear c29b0
         try clear c29b1
         try clear c33
         try clear c33b0
         try clear c33b1
         try clear hx116_0
         try clear hx120_0
         try clear hx123_0
         try clear p116
         try clear p120
         try clear p123
         try clear p2
         try clear q116
         try clear q120
         try clear q123
         obtain ⟨x24_3,x125_3,rfl,rfl,HA,HK3,HO_21,HO_22,HB⟩:=hrel
         cases gk with
         | zero=>exact absurd HA.out (by simp [contangolaw23_ScanParts.l1])
         | succ k3 =>
          have H:=HA.out
          clear HA
          simp only [contangolaw23_ScanParts.l1] at H
          by_cases c41:x125_3 < (t126.length:Int)
          ·rw [if_pos c41] at H
           have c41b0:decide (x125_3 < (t126.length:Int)) = true:=decide_eq_true c41
           clear c41
           by_cases c42:0 ≤ x125_3
           ·rw [if_pos c42] at H
            have c42b0:decide (0 ≤ x125_3) = true:=decide_eq_true c42
            clear c42
            by_cases c43:x125_3 < (t126.length:Int)
            ·rw [if_pos c43] at H
             have c43b0:decide (x125_3 < (t126.length:Int)) = true:=decide_eq_true c43
             clear c43
             by_cases c44:x125_3 > 0
             ·rw [if_pos c44] at H
              have c44b0:decide (0 < x125_3) = true:=decide_eq_true c44
              clear c44
              by_cases c45:x125_3 < (t125.length:Int)
              ·rw [if_pos c45] at H
               have c45b0:decide (x125_3 < (t125.length:Int)) = true:=decide_eq_true c45
               clear c45
               obtain ⟨ji46,hji46⟩:∃ j_:Int,(wrap64 (x125_3 - 1)) = j_:=⟨_,rfl⟩
               replace H:(if 0 ≤ (ji46) then (if (ji46) < (t125.length:Int) then (if (rd t125 x125_3) ≤ (rd t125 (ji46)) then (none) else (contangolaw23_ScanParts.l1 k3 l0 t103 t106 x12_2 x13_2 x14_2 t125 t126 t127 (wrap64 (x24_3 + (rd t126 x125_3))) (t126.length:Int) (wrap64 (x125_3 + 1)))) else (none)) else (none)) = some r:=by first|(rw [hji46] at H;exact H)|(simp only [hji46] at H ⊢;exact H)
               have hji46w:(IntKind.i64.wrap (x125_3 - 1)) = ji46:=(i64_w _).trans hji46
               by_cases c47:0 ≤ (ji46)
               ·rw [if_pos c47] at H
                have c47b0:decide (0 ≤ (ji46)) = true:=decide_eq_true c47
                clear c47
                by_cases c48:(ji46) < (t125.length:Int)
                ·rw [if_pos c48] at H
                 have c48b0:decide ((ji46) < (t125.length:Int)) = true:=decide_eq_true c48
                 clear c48
                 by_cases c49:(rd t125 x125_3) ≤ (rd t125 (ji46))
                 ·rw [if_pos c49] at H
                  exact absurd H (by simp)
                 ·rw [if_neg c49] at H
                  have c49b0:decide ((rd t125 x125_3) ≤ (rd t125 (ji46))) = false:=decide_eq_false c49
                  clear c49
                  have H':=Aside0.mk H
                  clear H
                  have p132:0 ≤ (x125_3:Int):=of_decide_eq_true (by first|(with_reducible assumption)|assumption)
                  have q132:x125_3 < (t126.length:Int):=of_decide_eq_true (by first|(with_reducible assumption)|assumption)
                  obtain ⟨ad132,e132,hx132_0⟩:=Kd.at_int (Kd.R_reads' HO_22.out).2.2 x125_3 p132 q132
                  cases e132
                  replace p132:=eq_true p132
                  replace q132:=eq_true q132
                  obtain ⟨Ao50,co50,eo50⟩:=Kd.R_slice HO_21.out
                  subst eo50
                  have p133:0 ≤ (x125_3:Int):=of_decide_eq_true (by first|(with_reducible assumption)|assumption)
                  have q133:x125_3 < (t125.length:Int):=of_decide_eq_true (by first|(with_reducible assumption)|assumption)
                  obtain ⟨ad133,e133,hx133_0⟩:=Kd.at_int (Kd.R_reads' HO_21.out).2.2 x125_3 p133 q133
                  cases e133
                  replace p133:=eq_true p133
                  replace q133:=eq_true q133
                  have p134:0 ≤ ((ji46):Int):=of_decide_eq_true (by first|(with_reducible assumption)|assumption)
                  have q134:(ji46) < (t125.length:Int):=of_decide_eq_true (by first|(with_reducible assumption)|assumption)
                  obtain ⟨ad134,e134,hx134_0⟩:=Kd.at_int (Kd.R_reads' HO_21.out).2.2 (ji46) p134 q134
                  obtain rfl:ad133 = ad134:=(by injection e134)
                  replace p134:=eq_true p134
                  replace q134:=eq_true q134
                  go_wp2
                  repeat (go_quiet (fail);try go_wp2)
                  go_roundg k3
                  case measure=>have:=HJ6.out;have:=HK2.out;have:=HK3.out;omega
                  case rel=>exact ⟨(wrap64 (x24_3 + (rd t126 x125_3))),(wrap64 (x125_3 + 1)),(by first|rfl|(simp;done)|(simp [*];done)),(by first|rfl|(simp;done)|(simp [*];done)),H',⟨by have:=HJ6.out;have:=HK2.out;have:=HK3.out;omega⟩,⟨by (with_reducible repeat (first|apply Kd.R_alloc|apply Kd.R_drewN|apply Kd.R_drew));exact HO_21.out⟩,⟨by (with_reducible repeat (first|apply Kd.R_alloc|apply Kd.R_drewN|apply Kd.R_drew));exact HO_22.out⟩,⟨by repeat (first|(with_reducible first|exact HB.out|apply below_alloc|apply pw_below_drewN|apply below_drew1)|exact HB.out)⟩⟩
                ·rw [if_neg c48] at H
                 exact absurd H (by simp)
               ·rw [if_neg c47] at H
                exact absurd H (by simp)
              ·rw [if_neg c45] at H
               exact absurd H (by simp)
             ·rw [if_neg c44] at H
              have c44b0:decide (0 < x125_3) = false:=decide_eq_false c44
              clear c44
              have H':=Aside0.mk H
              clear H
              have p132:0 ≤ (x125_3:Int):=of_decide_eq_true (by first|(with_reducible assumption)|assumption)
              have q132:x125_3 < (t126.length:Int):=of_decide_eq_true (by first|(with_reducible assumption)|assumption)
              obtain ⟨ad132,e132,hx132_0⟩:=Kd.at_int (Kd.R_reads' HO_22.out).2.2 x125_3 p132 q132
              cases e132
              replace p132:=eq_true p132
              replace q132:=eq_true q132
              go_wp2
              repeat (go_quiet (fail);try go_wp2)
              go_roundg k3
              case measure=>have:=HJ6.out;have:=HK2.out;have:=HK3.out;omega
              case rel=>exact ⟨(wrap64 (x24_3 + (rd t126 x125_3))),(wrap64 (x125_3 + 1)),(by first|rfl|(simp;done)|(simp [*];done)),(by first|rfl|(simp;done)|(simp [*];done)),H',⟨by have:=HJ6.out;have:=HK2.out;have:=HK3.out;omega⟩,⟨by (with_reducible repeat (first|apply Kd.R_alloc|apply Kd.R_drewN|apply Kd.R_drew));exact HO_21.out⟩,⟨by (with_reducible repeat (first|apply Kd.R_alloc|apply Kd.R_drewN|apply Kd.R_drew));exact HO_22.out⟩,⟨by repeat (first|(with_reducible first|exact HB.out|apply below_alloc|apply pw_below_drewN|apply below_drew1)|exact HB.out)⟩⟩
            ·rw [if_neg c43] at H
             exact absurd H (by simp)
           ·rw [if_neg c42] at H
            exact absurd H (by simp)
          ·rw [if_neg c41] at H
           have c41b0:decide (x125_3 < (t126.length:Int)) = false:=decide_eq_false c41
           clear c41
           by_cases c51:t127 = 0
           ·rw [if_pos c51] at H
            have c51b0:(t127 == 0) = true:=beq_iff_eq.mpr c51
            have c51b1:(t127 != 0) = false:=bne_eq_false_iff_eq.mpr c51
            clear c51
            by_cases c52:(t125.length:Int) = (t126.length:Int)
            ·rw [if_pos c52] at H
             have c52b0:((t125.length:Int) == (t126.length:Int)) = true:=beq_iff_eq.mpr c52
             have c52b1:((t125.length:Int) != (t126.length:Int)) = false:=bne_eq_false_iff_eq.mpr c52
             have c52b2:(t125.length == t126.length) = true:=by first|simpa using c52|(simp at c52 ⊢;omega)
             clear c52
             by_cases c53:x12_2 ≥ t103
             ·rw [if_pos c53] at H
              have c53b0:decide (t103 ≤ x12_2) = true:=decide_eq_true c53
              clear c53
              by_cases c54:x13_2 = t106
              ·rw [if_pos c54] at H
               have c54b0:(x13_2 == t106) = true:=beq_iff_eq.mpr c54
               have c54b1:(x13_2 != t106) = false:=bne_eq_false_iff_eq.mpr c54
               clear c54
               by_cases c55:x24_3 = t106
               ·rw [if_pos c55] at H
                have c55b0:(x24_3 == t106) = true:=beq_iff_eq.mpr c55
                have c55b1:(x24_3 != t106) = false:=bne_eq_false_iff_eq.mpr c55
                clear c55
                by_cases c56:x14_2 = (l0.length:Int)
                ·rw [if_pos c56] at H
                 have c56b0:(x14_2 == (l0.length:Int)) = true:=beq_iff_eq.mpr c56
                 have c56b1:(x14_2 != (l0.length:Int)) = false:=bne_eq_false_iff_eq.mpr c56
                 clear c56
                 replace H:=Option.bind_eq_some_iff.mp H
                 obtain ⟨t135,A570,H⟩:=H
                 replace H:(some t135) = some r:=H
                 have A57:=Aside0.mk A570
                 clear A570
                 obtain rfl:=Option.some.inj H
                 obtain ⟨Ao58,co58,eo58⟩:=Kd.R_slice HO_21.out
                 subst eo58
                 go_wp2_with (first|(go_at_call 25;(with_reducible refine (contangolaw23_goes.calls k3  t135 _ A57.out).mono ?_);rintro e w59 ⟨rfl,hb⟩;have n0_:=Aside0.mk (Kd.R_below (by (with_reducible repeat (first|apply Kd.R_alloc|apply Kd.R_drewN|apply Kd.R_drew));exact HO_21.out) hb);have n1_:=Aside0.mk (Kd.R_below (by (with_reducible repeat (first|apply Kd.R_alloc|apply Kd.R_drewN|apply Kd.R_drew));exact HO_22.out) hb);have n2_:=Aside0.mk (below_step (by repeat (first|(with_reducible first|exact HB.out|apply below_alloc|apply pw_below_drewN|apply below_drew1)|exact HB.out)) hb);clear HO_21;clear HO_22;clear HB;have HO_21:=n0_;have HO_22:=n1_;have HB:=n2_;clear n0_ n1_ n2_;(try clear hb);(try clear hb2);(try clear hk);(try clear hi)))
                 repeat (go_quiet (first|(go_at_call 25;(with_reducible refine (contangolaw23_goes.calls k3  t135 _ A57.out).mono ?_);rintro e w59 ⟨rfl,hb⟩;have n0_:=Aside0.mk (Kd.R_below (by (with_reducible repeat (first|apply Kd.R_alloc|apply Kd.R_drewN|apply Kd.R_drew));exact HO_21.out) hb);have n1_:=Aside0.mk (Kd.R_below (by (with_reducible repeat (first|apply Kd.R_alloc|apply Kd.R_drewN|apply Kd.R_drew));exact HO_22.out) hb);have n2_:=Aside0.mk (below_step (by repeat (first|(with_reducible first|exact HB.out|apply below_alloc|apply pw_below_drewN|apply below_drew1)|exact HB.out)) hb);clear HO_21;clear HO_22;clear HB;have HO_21:=n0_;have HO_22:=n1_;have HB:=n2_;clear n0_ n1_ n2_;(try clear hb);(try clear hb2);(try clear hk);(try clear hi)));try go_wp2_with (first|(go_at_call 25;(with_reducible refine (contangolaw23_goes.calls k3  t135 _ A57.out).mono ?_);rintro e w59 ⟨rfl,hb⟩;have n0_:=Aside0.mk (Kd.R_below (by (with_reducible repeat (first|apply Kd.R_alloc|apply Kd.R_drewN|apply Kd.R_drew));exact HO_21.out) hb);have n1_:=Aside0.mk (Kd.R_below (by (with_reducible repeat (first|apply Kd.R_alloc|apply Kd.R_drewN|apply Kd.R_drew));exact HO_22.out) hb);have n2_:=Aside0.mk (below_step (by repeat (first|(with_reducible first|exact HB.out|apply below_alloc|apply pw_below_drewN|apply below_drew1)|exact HB.out)) hb);clear HO_21;clear HO_22;clear HB;have HO_21:=n0_;have HO_22:=n1_;have HB:=n2_;clear n0_ n1_ n2_;(try clear hb);(try clear hb2);(try clear hk);(try clear hi))))
                 go_ret
                 exact ⟨by first|rfl|(simp [errW_none,errW_some] <;> rfl)|(simp [*,errW_none,errW_some] <;> rfl),by repeat (first|(with_reducible first|exact HB.out|apply below_alloc|apply pw_below_drewN|apply below_drew1)|exact HB.out)⟩
                ·rw [if_neg c56] at H
                 exact absurd H (by simp)
               ·rw [if_neg c55] at H
                exact absurd H (by simp)
              ·rw [if_neg c54] at H
               exact absurd H (by simp)
             ·rw [if_neg c53] at H
              exact absurd H (by simp)
            ·rw [if_neg c52] at H
             exact absurd H (by simp)
           ·rw [if_neg c51] at H
            exact absurd H (by simp)
 ·replace c4:=Bool.eq_false_iff.mpr c4
  subst c4
  have H1:((contangolaw23_goes.f k).bind fun t102=>(some t102)) = some r:=by rw [if_neg (show ¬ (false = true) by decide)] at H;exact H
  clear H
  have H:=H1
  clear H1
  replace H:=Option.bind_eq_some_iff.mp H
  obtain ⟨t102,A600,H⟩:=H
  replace H:(some t102) = some r:=H
  have A60:=Aside0.mk A600
  clear A600
  obtain rfl:=Option.some.inj H
  go_enter Try.func12,Try.ntmps12
  go_wp2_with (first|(go_at_call 24;(with_reducible refine (contangolaw23_few.calls k _ _ l0 _ _ l1 false _ ?side1 ?side2 ?side3 ?side4 A3.out).mono ?_);(case side1=>repeat (first|exact HR0.out|(with_reducible refine Kd.C_alloc ?_ _)|(with_reducible refine Kd.C_drewN ?_ _)|(with_reducible refine Kd.C_drew ?_)));(case side2=>exact HC0.out);(case side3=>repeat (first|exact HR1.out|(with_reducible refine Kd.C_alloc ?_ _)|(with_reducible refine Kd.C_drewN ?_ _)|(with_reducible refine Kd.C_drew ?_)));(case side4=>exact HC1.out);rintro e w61 ⟨rfl,hb⟩;have n0_:=Aside0.mk (below_step (by repeat (first|(with_reducible first|exact HB.out|apply below_alloc|apply pw_below_drewN|apply below_drew1)|exact HB.out)) hb);clear HB;have HB:=n0_;clear n0_;(try clear hb);(try clear hb2);(try clear hk);(try clear hi))|(go_at_call 25;(with_reducible refine (contangolaw23_goes.calls k  t102 _ A60.out).mono ?_);rintro e w62 ⟨rfl,hb⟩;have n0_:=Aside0.mk (below_step (by repeat (first|(with_reducible first|exact HB.out|apply below_alloc|apply pw_below_drewN|apply below_drew1)|exact HB.out)) hb);clear HB;have HB:=n0_;clear n0_;(try clear hb);(try clear hb2);(try clear hk);(try clear hi)))
  repeat (go_quiet (first|(go_at_call 24;(with_reducible refine (contangolaw23_few.calls k _ _ l0 _ _ l1 false _ ?side1 ?side2 ?side3 ?side4 A3.out).mono ?_);(case side1=>repeat (first|exact HR0.out|(with_reducible refine Kd.C_alloc ?_ _)|(with_reducible refine Kd.C_drewN ?_ _)|(with_reducible refine Kd.C_drew ?_)));(case side2=>exact HC0.out);(case side3=>repeat (first|exact HR1.out|(with_reducible refine Kd.C_alloc ?_ _)|(with_reducible refine Kd.C_drewN ?_ _)|(with_reducible refine Kd.C_drew ?_)));(case side4=>exact HC1.out);rintro e w61 ⟨rfl,hb⟩;have n0_:=Aside0.mk (below_step (by repeat (first|(with_reducible first|exact HB.out|apply below_alloc|apply pw_below_drewN|apply below_drew1)|exact HB.out)) hb);clear HB;have HB:=n0_;clear n0_;(try clear hb);(try clear hb2);(try clear hk);(try clear hi))|(go_at_call 25;(with_reducible refine (contangolaw23_goes.calls k  t102 _ A60.out).mono ?_);rintro e w62 ⟨rfl,hb⟩;have n0_:=Aside0.mk (below_step (by repeat (first|(with_reducible first|exact HB.out|apply below_alloc|apply pw_below_drewN|apply below_drew1)|exact HB.out)) hb);clear HB;have HB:=n0_;clear n0_;(try clear hb);(try clear hb2);(try clear hk);(try clear hi)));try go_wp2_with (first|(go_at_call 24;(with_reducible refine (contangolaw23_few.calls k _ _ l0 _ _ l1 false _ ?side1 ?side2 ?side3 ?side4 A3.out).mono ?_);(case side1=>repeat (first|exact HR0.out|(with_reducible refine Kd.C_alloc ?_ _)|(with_reducible refine Kd.C_drewN ?_ _)|(with_reducible refine Kd.C_drew ?_)));(case side2=>exact HC0.out);(case side3=>repeat (first|exact HR1.out|(with_reducible refine Kd.C_alloc ?_ _)|(with_reducible refine Kd.C_drewN ?_ _)|(with_reducible refine Kd.C_drew ?_)));(case side4=>exact HC1.out);rintro e w61 ⟨rfl,hb⟩;have n0_:=Aside0.mk (below_step (by repeat (first|(with_reducible first|exact HB.out|apply below_alloc|apply pw_below_drewN|apply below_drew1)|exact HB.out)) hb);clear HB;have HB:=n0_;clear n0_;(try clear hb);(try clear hb2);(try clear hk);(try clear hi))|(go_at_call 25;(with_reducible refine (contangolaw23_goes.calls k  t102 _ A60.out).mono ?_);rintro e w62 ⟨rfl,hb⟩;have n0_:=Aside0.mk (below_step (by repeat (first|(with_reducible first|exact HB.out|apply below_alloc|apply pw_below_drewN|apply below_drew1)|exact HB.out)) hb);clear HB;have HB:=n0_;clear n0_;(try clear hb);(try clear hb2);(try clear hk);(try clear hi))))
  go_ret
  exact ⟨by first|rfl|(simp [errW_none,errW_some] <;> rfl)|(simp [*,errW_none,errW_some] <;> rfl),by repeat (first|(with_reducible first|exact HB.out|apply below_alloc|apply pw_below_drewN|apply below_drew1)|exact HB.out)⟩
end Go.Proofs.Ytbgeceiddcokmaa.X
end
section
namespace Go.Proofs.Ytbgeceiddcokmaa.Opn
open Go.ChangeShapes Go.WideShapes Go.Proofs.YtbgeceiddcokmaaW.PrintWords
set_option linter.unusedVariables false
set_option linter.unusedSimpArgs false
structure Opens (P:Program) (t:TypeId) {α:Type} (d:Kd α) (Ok:α → Prop):Prop where
  sz:d.sz = P.cellsOf t
  opens:∀ {H:Type} {enc:TypeId × Value → H} {w:World} {base:Nat} {spare:Nat → Bool} {held:Bool} {fuel:Nat} {cs:List Value} {x:DataW H × List MemPlace},
    DataW.trod enc P w base spare held fuel t cs = some x → (∀ n ∈ x.1.weights P t,n ≤ reachBytes) → ∃ v,d.K w v cs ∧ Ok v
theorem opens_int {P:Program} {t:TypeId} {k:IntKind} (ht:P.underlying t = some (.int k)) (hc:P.cellsOf t = 1):Opens P t (Kd.int k) (fun n=>(Lit.int k n).wf = true):=by
  refine ⟨hc.symm,fun h _=>?_⟩
  obtain ⟨n,rfl,_,hw⟩:=DataW.trod_int ht h
  exact ⟨n,rfl,hw⟩
theorem opens_string {P:Program} {t:TypeId} (ht:P.underlying t = some .string) (hc:P.cellsOf t = 1):Opens P t Kd.string (fun s=>s.size ≤ 140737488351232):=by
  refine ⟨hc.symm,fun h hw=>?_⟩
  obtain ⟨s,rfl,rfl,hs⟩:=DataW.trod_string ht h
  refine ⟨s,rfl,?_⟩
  have:=hw s.data.toList.length (by simp [DataW.weights])
  rw [Array.length_toList] at this
  exact this
theorem weights_all {H:Type} {P:Program} {e:TypeId}:∀ {ds:List (DataW H)} {j:Nat} {d:DataW H},ds[j]? = some d → ∀ n ∈ d.weights P e,n ∈ DataW.weightsAll P e ds
  | d0 :: ds,0,d,hd,n,hn=>by
    simp only [List.getElem?_cons_zero,Option.some.injEq] at hd
    subst hd
    simp only [DataW.weightsAll,List.mem_append]
    exact Or.inl hn
  | d0 :: ds,j + 1,d,hd,n,hn=>by
    simp only [List.getElem?_cons_succ] at hd
    simp only [DataW.weightsAll,List.mem_append]
    exact Or.inr (weights_all hd n hn)
  | [],_,_,hd,_,_=>by simp at hd
theorem list_of {α:Type} {n:Nat} {p:Nat → α → Prop} (h:∀ i,i < n → ∃ x,p i x):∃ l:List α,l.length = n ∧ ∀ i x,l[i]? = some x → p i x:=by
  induction n with
  | zero=>exact ⟨[],rfl,fun i x hx=>by simp at hx⟩
  | succ n ih =>
    obtain ⟨l,hl,hp⟩:=ih (fun i hi=>h i (by omega))
    obtain ⟨x,hx⟩:=h n (by omega)
    refine ⟨l ++ [x],by simp [hl],fun i y hy=>?_⟩
    by_cases hi:i < l.length
    · rw [List.getElem?_append_left hi] at hy
      exact hp i y hy
    · rw [List.getElem?_append_right (by omega)] at hy
      have:i - l.length = 0:=by
        cases hk:i - l.length with
        | zero=>rfl
        | succ m=>rw [hk] at hy;simp at hy
      rw [this] at hy
      simp at hy
      subst hy
      have:i = n:=by omega
      subst this
      exact hx
theorem opens_slice {P:Program} {t e:TypeId} {α:Type} {d:Kd α} {Ok:α → Prop} (h:Opens P e d Ok) (ht:P.underlying t = some (.slice e)) (hc:P.cellsOf t = 1) {B:Nat} (hB:P.bytesOf e = B) :
    Opens P t (Kd.slice e d) (fun l=>l.length ≤ maxLen ∧ l.length * B ≤ 140737488351232 ∧ ∀ x ∈ l,Ok x):=by
  subst hB
  refine ⟨hc.symm,fun {H enc w base spare held fuel cs x} hx hw=>?_⟩
  rcases DataW.trod_slice ht hx with ⟨rfl,rfl⟩|⟨a,len,cap,elems,rest,n,_,rfl,rfl,hb,hl,hm,hlen,hel,hsp,hns⟩
  · exact ⟨[],⟨none,0,rfl,Nat.le_refl _,Kd.C_nil _ _⟩,by simp⟩
  simp only [DataW.weights,ht] at hw
  have hw1:(elems.length + rest.length) * P.bytesOf e ≤ reachBytes:=by
    have:=hw ((elems.length + rest.length) * P.bytesOf e) (by simp)
    exact this
  have hone:∀ i,i < len → ∃ v:α,∃ c,w.cells? base (a.add (i * P.cellsOf e)) (P.cellsOf e) = some c ∧ d.K w v c ∧ Ok v:=by
    intro i hi
    have h1:=hel i hi
    rw [List.getElem?_eq_getElem (by omega)] at h1
    obtain ⟨c,hc1,hc2⟩:=Option.bind_eq_some_iff.1 h1
    obtain ⟨v,hv,hok⟩:=h.opens hc2 (fun n hn=>hw n (by
      simp only [List.mem_cons,List.mem_append]
      right;left
      refine weights_all (j:=i) ?_ n hn
      rw [List.getElem?_map,List.getElem?_eq_getElem (by omega)]
      rfl))
    exact ⟨v,c,hc1,hv,hok⟩
  obtain ⟨l,hl1,hl2⟩:=list_of hone
  subst hl1
  refine ⟨l,⟨some a,cap,rfl,hl,rfl,?_,fun _=>⟨a,rfl,fun j p hj=>?_⟩⟩,?_,?_,?_⟩
  · unfold maxLen at hm;omega
  · obtain ⟨c,hc1,hc2,_⟩:=hl2 j p hj
    obtain ⟨_,hlen2,hcell⟩:=World.cells?_some hc1
    refine ⟨c,by rw [h.sz];exact hlen2,hc2,fun i u hu=>?_⟩
    have hi:i < P.cellsOf e:=by
      have:=(List.getElem?_eq_some_iff.1 hu).1
      omega
    have:=hcell i hi
    rw [hu,← Deep.add_add,h.sz] at *
    exact this
  · exact Nat.le_trans hl hm
  · have h2:l.length * P.bytesOf e ≤ (elems.length + rest.length) * P.bytesOf e:=Nat.mul_le_mul_right _ (by omega)
    exact Nat.le_trans h2 hw1
  · intro x hx
    obtain ⟨j,hj⟩:=List.getElem?_of_mem hx
    obtain ⟨c,_,_,ho⟩:=hl2 j x hj
    exact ho
structure OpensF (P:Program) (fs:List Field) (off:Nat) {α:Type} (d:Kd α) (Ok:α → Prop):Prop where
  opens:∀ {H:Type} {enc:TypeId × Value → H} {w:World} {base:Nat} {spare:Nat → Bool} {held:Bool} {n:Nat} {cs:List Value} {xs:List (DataW H × List MemPlace)},
    xs.length = fs.length → (∀ (i:Nat) (f:Field),fs[i]? = some f → DataW.trod enc P w base spare held n f.type ((cs.drop f.offset).take (P.cellsOf f.type)) = xs[i]?) →
    (∀ m ∈ DataW.weightsEach P (fs.map (·.type)) (xs.map (·.1)),m ≤ reachBytes) → ∃ v,d.K w v ((cs.drop off).take d.sz) ∧ Ok v
theorem opensF_one {P:Program} {f:Field} {off:Nat} {α:Type} {d:Kd α} {Ok:α → Prop} (h:Opens P f.type d Ok) (ho:f.offset = off):OpensF P [f] off d Ok:=by
  refine ⟨fun {H enc w base spare held n cs xs} hl hx hw=>?_⟩
  match xs,hl with
  | [x],_ =>
    have h1:=hx 0 f rfl
    obtain ⟨v,hv,hok⟩:=h.opens h1 (fun n hn=>hw n (by simpa [DataW.weightsEach] using hn))
    refine ⟨v,?_,hok⟩
    rw [h.sz,← ho]
    exact hv
theorem opensF_cons {P:Program} {f:Field} {fs:List Field} {off:Nat} {α β:Type} {d:Kd α} {d':Kd β} {Ok:α → Prop} {Ok':β → Prop} (h:Opens P f.type d Ok) (ho:f.offset = off) (h':OpensF P fs (off + d.sz) d' Ok') :
    OpensF P (f :: fs) off (Kd.pair d d') (fun p=>Ok p.1 ∧ Ok' p.2):=by
  refine ⟨fun {H enc w base spare held n cs xs} hl hx hw=>?_⟩
  match xs,hl with
  | x :: xs,hl =>
    have h1:=hx 0 f rfl
    obtain ⟨v,hv,hok⟩:=h.opens h1 (fun n hn=>hw n (by
      simp only [List.map_cons,DataW.weightsEach,List.mem_append];exact Or.inl hn))
    obtain ⟨v',hv',hok'⟩:=h'.opens (cs:=cs) (xs:=xs) (by simpa using hl) (fun i g hg=>by
      have:=hx (i + 1) g (by simpa using hg)
      simpa using this) (fun m hm=>hw m (by simp only [List.map_cons,DataW.weightsEach,List.mem_append];exact Or.inr hm))
    refine ⟨(v,v'),⟨(cs.drop off).take d.sz,(cs.drop (off + d.sz)).take d'.sz,?_,?_,hv'⟩,hok,hok'⟩
    · show (cs.drop off).take (d.sz + d'.sz) = _
      rw [List.take_add,List.drop_drop]
    · rw [h.sz,← ho];exact hv
theorem opens_struct {P:Program} {t:TypeId} {fs:Array Field} {α β:Type} {d:Kd α} {Ok:α → Prop} (h:OpensF P fs.toList 0 d Ok) (ht:P.underlying t = some (.struct fs)) (hc:d.sz = P.cellsOf t) (f:β → α) (mk:α → β) (hf:∀ a,f (mk a) = a) :
    Opens P t (Kd.iso d f) (fun b=>Ok (f b)):=by
  refine ⟨hc,fun {H enc w base spare held fuel cs x} hx hw=>?_⟩
  obtain ⟨xs,n,_,rfl,hlen,hsz,hall⟩:=DataW.trod_struct ht hx
  simp only [DataW.weights,ht] at hw
  obtain ⟨v,hv,hok⟩:=h.opens (cs:=cs) (xs:=xs) (by simpa using hsz) (fun i f hf=>hall i f (by simpa using hf)) hw
  refine ⟨mk v,?_,by rw [hf];exact hok⟩
  show d.K w (f (mk v)) cs
  rw [hf]
  rw [List.drop_zero,hc,← hlen,List.take_length] at hv
  exact hv
theorem opens_imp {P:Program} {t:TypeId} {α:Type} {d:Kd α} {Ok Ok':α → Prop} (h:Opens P t d Ok) (hi:∀ v,Ok v → Ok' v):Opens P t d Ok' :=
  ⟨h.sz,fun hx hw=>let ⟨v,hv,ho⟩:=h.opens hx hw;⟨v,hv,hi v ho⟩⟩
end Go.Proofs.Ytbgeceiddcokmaa.Opn
end
section
namespace Go.Proofs.Ytbgeceiddcokmaa.X
open Go.RowKit Go.Proofs.YtbgeceiddcokmaaW.PrintWords Go.Proofs.YtbgeceiddcokmaaW.PrintLast Go.Proofs.YtbgeceiddcokmaaW.PrintMore
attribute [local go_sem] max2_int min2_int max_two min_two max_three min_three max_four min_four
set_option linter.unusedVariables false
set_option linter.unusedSimpArgs false
def ok39 (v:S39):Prop:=v.f0.size ≤ 140737488351232 ∧ ((Lit.int .i64 v.f1).wf = true ∧ ((Lit.int .i64 v.f2).wf = true ∧ ((Lit.int .i64 v.f3).wf = true)))
theorem opens39:Opn.Opens Try.prog 39 k39 ok39:=by
 have hu:=Try.underlying39
 refine Opn.opens_imp (Opn.opens_struct (Ok:=fun (p:ByteArray × (Int × (Int × (Int))))=>p.1.size ≤ 140737488351232 ∧ ((Lit.int .i64 p.2.1).wf = true ∧ ((Lit.int .i64 p.2.2.1).wf = true ∧ ((Lit.int .i64 p.2.2.2).wf = true)))) ?hF hu (by kernel_rfl) (fun x:S39=>(x.f0,x.f1,x.f2,x.f3)) (fun a=>⟨a.1,a.2.1,a.2.2.1,a.2.2.2⟩) (fun _=>rfl)) ?hI
 case hF =>
  refine Opn.opensF_cons (Ok:=fun (p:ByteArray)=>p.size ≤ 140737488351232) (Ok':=fun (p:Int × (Int × (Int)))=>(Lit.int .i64 p.1).wf = true ∧ ((Lit.int .i64 p.2.1).wf = true ∧ ((Lit.int .i64 p.2.2).wf = true))) (h:=?_) (ho:=?_) (h':=?_)
  ·exact Opn.opens_string Try.underlying9 (by kernel_rfl)
  ·rfl
  ·skip
   refine Opn.opensF_cons (Ok:=fun (p:Int)=>(Lit.int .i64 p).wf = true) (Ok':=fun (p:Int × (Int))=>(Lit.int .i64 p.1).wf = true ∧ ((Lit.int .i64 p.2).wf = true)) (h:=?_) (ho:=?_) (h':=?_)
   ·exact Opn.opens_int Try.underlying3 (by kernel_rfl)
   ·rfl
   ·skip
    refine Opn.opensF_cons (Ok:=fun (p:Int)=>(Lit.int .i64 p).wf = true) (Ok':=fun (p:Int)=>(Lit.int .i64 p).wf = true) (h:=?_) (ho:=?_) (h':=?_)
    ·exact Opn.opens_int Try.underlying3 (by kernel_rfl)
    ·rfl
    ·skip
     refine Opn.opensF_one (Ok:=fun (p:Int)=>(Lit.int .i64 p).wf = true) (h:=?_) (ho:=?_)
     ·exact Opn.opens_int Try.underlying3 (by kernel_rfl)
     ·rfl
 case hI=>exact fun v h=>h
def ok91 (v:S91):Prop:=ok39 v.f0 ∧ ((v.f1.length ≤ maxLen ∧ v.f1.length * 8 ≤ 140737488351232 ∧ ∀ x ∈ v.f1,(Lit.int .i64 x).wf = true) ∧ ((Lit.int .i64 v.f2).wf = true))
theorem opens91:Opn.Opens Try.prog 91 k91 ok91:=by
 have hu:=Try.underlying91
 refine Opn.opens_imp (Opn.opens_struct (Ok:=fun (p:S39 × (List Int × (Int)))=>ok39 p.1 ∧ ((p.2.1.length ≤ maxLen ∧ p.2.1.length * 8 ≤ 140737488351232 ∧ ∀ x ∈ p.2.1,(Lit.int .i64 x).wf = true) ∧ ((Lit.int .i64 p.2.2).wf = true))) ?hF hu (by kernel_rfl) (fun x:S91=>(x.f0,x.f1,x.f2)) (fun a=>⟨a.1,a.2.1,a.2.2⟩) (fun _=>rfl)) ?hI
 case hF =>
  refine Opn.opensF_cons (Ok:=fun (p:S39)=>ok39 p) (Ok':=fun (p:List Int × (Int))=>(p.1.length ≤ maxLen ∧ p.1.length * 8 ≤ 140737488351232 ∧ ∀ x ∈ p.1,(Lit.int .i64 x).wf = true) ∧ ((Lit.int .i64 p.2).wf = true)) (h:=?_) (ho:=?_) (h':=?_)
  ·exact opens39
  ·rfl
  ·skip
   refine Opn.opensF_cons (Ok:=fun (p:List Int)=>(p.length ≤ maxLen ∧ p.length * 8 ≤ 140737488351232 ∧ ∀ x ∈ p,(Lit.int .i64 x).wf = true)) (Ok':=fun (p:Int)=>(Lit.int .i64 p).wf = true) (h:=?_) (ho:=?_) (h':=?_)
   ·exact Opn.opens_slice (Opn.opens_int Try.underlying3 (by kernel_rfl)) Try.underlying23 (by kernel_rfl) (B:=8) (by kernel_rfl)
   ·rfl
   ·skip
    refine Opn.opensF_one (Ok:=fun (p:Int)=>(Lit.int .i64 p).wf = true) (h:=?_) (ho:=?_)
    ·exact Opn.opens_int Try.underlying3 (by kernel_rfl)
    ·rfl
 case hI=>exact fun v h=>h
def ok73 (v:S73):Prop:=ok39 v.f0 ∧ ((Lit.int .i64 v.f1).wf = true ∧ ((Lit.int .i64 v.f2).wf = true))
theorem opens73:Opn.Opens Try.prog 73 k73 ok73:=by
 have hu:=Try.underlying73
 refine Opn.opens_imp (Opn.opens_struct (Ok:=fun (p:S39 × (Int × (Int)))=>ok39 p.1 ∧ ((Lit.int .i64 p.2.1).wf = true ∧ ((Lit.int .i64 p.2.2).wf = true))) ?hF hu (by kernel_rfl) (fun x:S73=>(x.f0,x.f1,x.f2)) (fun a=>⟨a.1,a.2.1,a.2.2⟩) (fun _=>rfl)) ?hI
 case hF =>
  refine Opn.opensF_cons (Ok:=fun (p:S39)=>ok39 p) (Ok':=fun (p:Int × (Int))=>(Lit.int .i64 p.1).wf = true ∧ ((Lit.int .i64 p.2).wf = true)) (h:=?_) (ho:=?_) (h':=?_)
  ·exact opens39
  ·rfl
  ·skip
   refine Opn.opensF_cons (Ok:=fun (p:Int)=>(Lit.int .i64 p).wf = true) (Ok':=fun (p:Int)=>(Lit.int .i64 p).wf = true) (h:=?_) (ho:=?_) (h':=?_)
   ·exact Opn.opens_int Try.underlying3 (by kernel_rfl)
   ·rfl
   ·skip
    refine Opn.opensF_one (Ok:=fun (p:Int)=>(Lit.int .i64 p).wf = true) (h:=?_) (ho:=?_)
    ·exact Opn.opens_int Try.underlying3 (by kernel_rfl)
    ·rfl
 case hI=>exact fun v h=>h
end Go.Proofs.Ytbgeceiddcokmaa.X
end
section
namespace Go.Proofs.Ytbgeceiddcokmaa.P
open Go.RowKit Go.Proofs.YtbgeceiddcokmaaW.PrintWords Go.Proofs.YtbgeceiddcokmaaW.PrintMore Go.Proofs.Ytbgeceiddcokmaa.X
theorem Ev_succ {α:Type} {g:Nat → Option α} {r:α} (h:Ev (fun k=>g (k + 1)) r):Ev g r:=Ev.step (fun _=>rfl) h
theorem Ev_bind {α β:Type} {g:Nat → Option α} {f:Nat → α → Option β} {a:α} {r:β} (h:Ev g a) (k:Ev (fun n=>f n a) r):Ev (fun n=>(g n).bind (f n)) r:=Ev.bind h k
theorem Ev_id {α:Type} {g:Nat → Option α} {r:α} (h:Ev g r):Ev (fun n=>(g n).bind fun x=>some x) r:=Ev.bind h (Ev.now _)
theorem w_id {x:Int} (h1:-9223372036854775808 ≤ x) (h2:x ≤ 9223372036854775807):wrap64 x = x:=by unfold wrap64;omega
theorem w_succ {i n:Nat} (h:i < n) (hn:n ≤ 9223372036854775807):wrap64 ((i:Int) + 1) = ((i + 1:Nat):Int):=by rw [w_id (by omega) (by omega)];omega
theorem w_pred {i:Nat} (h:0 < i) (hn:i ≤ 9223372036854775807):wrap64 ((i:Int) - 1) = ((i - 1:Nat):Int):=by rw [w_id (by omega) (by omega)];omega
theorem rd_nat (xs:List Int) (i:Nat) (h:i < xs.length):rd xs (i:Int) = xs[i]:=by simp [rd,h]
theorem rdOf_nat {α:Type} (d:α) (xs:List α) (i:Nat) (h:i < xs.length):rdOf d xs (i:Int) = xs[i]:=by simp [rdOf,h]
theorem drop_cons {α:Type} (l:List α) (i:Nat) (h:i < l.length):l.drop i = l[i] :: l.drop (i + 1):=(List.getElem_cons_drop h).symm
theorem i64_and32 (n:Int):Go.bits .and .i64 n 4294967295 = n % 4294967296:=by
 have h127:(BitVec.ofInt 64 4294967295).toNat = 2 ^ 32 - 1:=by decide
 have key:(BitVec.ofInt 64 n &&& BitVec.ofInt 64 4294967295).toNat = (n % ((2 ^ 64:Nat):Int)).toNat % 2 ^ 32:=by
  rw [BitVec.toNat_and,BitVec.toNat_ofInt,h127,Nat.and_two_pow_sub_one_eq_mod]
 show IntKind.i64.wrap ((BitVec.ofInt 64 n &&& BitVec.ofInt 64 4294967295).toNat:Nat) = n % 4294967296
 rw [key,IntKind.wrap_i64]
 omega
theorem ba_ext {a b:ByteArray} (h:a.toList = b.toList):a = b:=by
 have e:∀ c:ByteArray,c.toList = c.data.toList:=fun c=>ByteArray.toList_eq c
 rw [e,e] at h
 cases a;cases b
 congr 1
 exact Array.toList_inj.1 h
end Go.Proofs.Ytbgeceiddcokmaa.P
end
section
namespace Go.Proofs.Ytbgeceiddcokmaa.P
set_option linter.unusedVariables false
set_option linter.unusedSimpArgs false
open Go.RowKit Go.Proofs.YtbgeceiddcokmaaW.PrintWords Go.Proofs.YtbgeceiddcokmaaW.PrintMore Go.Proofs.Ytbgeceiddcokmaa.X
abbrev Ser:=S39
abbrev Pos:=S73
def cmpI (a b:Int):Int:=if a < b then -1 else if a > b then 1 else 0
def cmpB (a b:ByteArray):Int:=if (Op.bytesLess a.toList b.toList) = true then -1 else if (Op.bytesLess b.toList a.toList) = true then 1 else 0
def cmpS (a b:Ser):Int :=
 if a.f0.toList = b.f0.toList then (if a.f2 = b.f2 then (if a.f1 = b.f1 then cmpI a.f3 b.f3 else cmpI a.f1 b.f1) else cmpI a.f2 b.f2) else cmpB a.f0 b.f0
theorem cmpI_f (a b:Int):cmp_Compare_int.f a b = some (cmpI a b):=by
 unfold cmp_Compare_int.f cmp_isNaN_int.f cmpI
 simp only [bne_self_eq_false,Option.bind_some,Bool.false_eq_true,if_false]
 split
 ·rfl
 ·split <;> rfl
theorem cmpB_f (a b:ByteArray):cmp_Compare_string.f a b = some (cmpB a b):=by
 unfold cmp_Compare_string.f cmp_isNaN_string.f cmpB
 simp only [bne_self_eq_false,Option.bind_some,Bool.false_eq_true,if_false]
 split
 ·rfl
 ·split <;> rfl
theorem cmpS_f (a b:Ser):series_Compare.f a.f0 a.f1 a.f2 a.f3 b.f0 b.f1 b.f2 b.f3 = some (cmpS a b):=by
 unfold series_Compare.f cmpS
 simp only [cmpI_f,cmpB_f,Option.bind_some]
 by_cases h0:a.f0.toList = b.f0.toList
 ·by_cases h2:a.f2 = b.f2
  ·by_cases h1:a.f1 = b.f1
   ·by_cases h3:a.f3 = b.f3
    ·simp [h0,h1,h2,h3,cmpI]
    ·simp [h0,h1,h2,h3]
   ·simp [h0,h1,h2]
  ·simp [h0,h2]
 ·simp [h0]
def eqS (a b:Ser):Bool:=a.f0.toList == b.f0.toList && (a.f1 == b.f1 && (a.f2 == b.f2 && a.f3 == b.f3))
def lots (n:Int):Bool:=decide (0 ≤ n) && decide (n ≤ 1048576)
theorem lots_f (n:Int):position_lots.f n = some (lots n):=by
 unfold position_lots.f lots
 by_cases h:n ≥ 0
 ·rw [if_pos h,decide_eq_true (show 0 ≤ n from h),Bool.true_and]
 ·rw [if_neg h,decide_eq_false (show ¬ 0 ≤ n from h),Bool.false_and]
def posBad (p:Pos):Bool:=!(lots p.f1) || !(lots p.f2) || (decide (p.f1 = 0) && decide (p.f2 = 0))
def behind (prev:Option Ser) (s:Ser):Bool:=match prev with|some q=>decide (cmpS q s ≥ 0)|none=>false
def posGo:Option Ser → List Pos → Int
 | _,[]=>0
 | prev,p :: r=>if behind prev p.f0 = true then 19 else if posBad p = true then 18 else posGo (some p.f0) r
def posCheck (l:List Pos):Int:=if l.length > 128 then 8 else posGo none l
def prevOf (l:List Pos) (i:Nat):Option Ser:=if i = 0 then none else (l[i - 1]?).map (·.f0)
theorem rdPos (l:List Pos) (i:Nat) (h:i < l.length):rd_T73 l (i:Int) = l[i]:=by simp [rd_T73,h]
theorem posJ (l:List Pos) (i:Nat) (b:Bool) (p:Pos) (r:Int)
  (h:b = false → posBad p = false → Ev (fun k=>position_Check.l0 k l l l.length (wrap64 ((i:Int) + 1))) r) :
  Ev (fun k=>position_Check.j1 k l l l.length i b p.f0.f0 p.f0.f1 p.f0.f2 p.f0.f3 p.f1 p.f2) (if b = true then 19 else if posBad p = true then 18 else r):=by
 refine Ev_succ ?_
 simp only [position_Check.j1,lots_f,Option.bind_some]
 cases b with
 | true=>exact Ev.now _
 | false =>
  simp only [Bool.false_eq_true,if_false]
  cases h1:lots p.f1 with
  | false=>simp only [posBad,h1,Bool.not_false,Bool.true_or,if_true,Bool.false_eq_true,if_false];exact Ev.now _
  | true =>
   cases h2:lots p.f2 with
   | false=>simp only [posBad,h1,h2,Bool.not_false,Bool.not_true,Bool.true_or,Bool.or_true,if_true,Bool.false_eq_true,if_false];exact Ev.now _
   | true =>
    simp only [if_true]
    by_cases z1:p.f1 = 0
    ·by_cases z2:p.f2 = 0
     ·have hb:posBad p = true:=by simp [posBad,z1,z2]
      simp only [hb,if_true,if_pos z1,if_pos z2]
      exact Ev.now _
     ·have hb:posBad p = false:=by simp only [posBad,h1,h2];simp [z2]
      simp only [hb,Bool.false_eq_true,if_false,if_neg z2,ite_self]
      exact h rfl hb
    ·have hb:posBad p = false:=by simp only [posBad,h1,h2];simp [z1]
     simp only [hb,Bool.false_eq_true,if_false,if_neg z1]
     exact h rfl hb
theorem posLoop (l:List Pos) (hl:l.length ≤ 4611686018427387904):∀ (d i:Nat),i + d = l.length → Ev (fun k=>position_Check.l0 k l l l.length i) (posGo (prevOf l i) (l.drop i))
 | 0,i,hd=>by
  refine Ev_succ ?_
  simp only [position_Check.l0,if_neg (show ¬ ((i:Int) < (l.length:Int)) by omega)]
  rw [List.drop_of_length_le (by omega)]
  exact Ev.now _
 | d + 1,i,hd=>by
  have hi:i < l.length:=by omega
  have ih:=posLoop l hl d (i + 1) (by omega)
  rw [← w_succ hi (by omega)] at ih
  have hprev:prevOf l (i + 1) = some l[i].f0:=by simp [prevOf,hi]
  rw [hprev] at ih
  rw [drop_cons l i hi]
  refine Ev_succ ?_
  simp only [position_Check.l0,if_pos (show (i:Int) < (l.length:Int) by omega),if_pos (show 0 ≤ (i:Int) by omega),rdPos l i hi]
  by_cases h0:i = 0
  ·subst h0
   simp only [if_neg (show ¬ (((0:Nat):Int) > 0) by omega)]
   exact posJ l 0 false l[0] _ (fun _ _=>ih)
  ·have hp:=w_pred (show 0 < i by omega) (by omega)
   simp only [if_pos (show ((i:Int) > 0) by omega),hp,if_pos (show 0 ≤ ((i - 1:Nat):Int) by omega),if_pos (show ((i - 1:Nat):Int) < (l.length:Int) by omega),rdPos l (i - 1) (by omega),cmpS_f,Option.bind_some]
   have hb:behind (prevOf l i) l[i].f0 = decide (cmpS l[i - 1].f0 l[i].f0 ≥ 0):=by
    simp [behind,prevOf,h0,show i - 1 < l.length by omega]
   simp only [posGo,hb]
   exact posJ l i _ l[i] _ (fun _ _=>ih)
theorem posCheck_f (l:List Pos) (hl:l.length ≤ 4611686018427387904):Ev (fun k=>position_Check.f k l) (posCheck l):=by
 unfold position_Check.f posCheck
 by_cases h:l.length > 128
 ·simp only [if_pos (show (l.length:Int) > 128 by omega),if_pos h]
  exact Ev.now _
 ·simp only [if_neg (show ¬ ((l.length:Int) > 128) by omega),if_neg h]
  exact posLoop l hl l.length 0 (by omega)
end Go.Proofs.Ytbgeceiddcokmaa.P
end
section
namespace Go.Proofs.Ytbgeceiddcokmaa.P
set_option linter.unusedVariables false
set_option linter.unusedSimpArgs false
open Go.RowKit Go.Proofs.YtbgeceiddcokmaaW.PrintWords Go.Proofs.YtbgeceiddcokmaaW.PrintMore Go.Proofs.Ytbgeceiddcokmaa.X
def fits (n:Int):Bool:=decide (-1152921504606846976 ≤ n) && decide (n ≤ 1152921504606846976)
theorem fits_iff (n:Int):fits n = true ↔ -1152921504606846976 ≤ n ∧ n ≤ 1152921504606846976:=by simp [fits]
theorem fits_f (n:Int):cents_Fits.f n = some (fits n):=by
 unfold cents_Fits.f fits
 by_cases h:n ≥ -1152921504606846976
 ·rw [if_pos h,decide_eq_true (show -1152921504606846976 ≤ n from h),Bool.true_and]
 ·rw [if_neg h,decide_eq_false (show ¬ -1152921504606846976 ≤ n from h),Bool.false_and]
def fitting (n:Int):Int × Int:=if fits n = true then (n,0) else (0,3)
theorem fitting_f (n:Int):cents_fitting.f n = some (fitting n):=by
 unfold cents_fitting.f fitting
 simp only [fits_f,Option.bind_some]
 split <;> rfl
def sumE (l:List Int):Int × Int:=if l.all fits = true then fitting l.sum else (0,2)
theorem sumLoop (l:List Int) (hl:l.length ≤ 1073741824):∀ (d i:Nat) (hi lo:Int),i + d = l.length → -(268435457 * (i:Int)) ≤ hi → hi ≤ 268435457 * (i:Int) → 0 ≤ lo → lo ≤ 4294967295 * (i:Int) →
  Ev (fun k=>cents_Sum.l0 k l hi lo l.length i) (if (l.drop i).all fits = true then fitting (hi * 4294967296 + lo + (l.drop i).sum) else (0,2))
 | 0,i,hi,lo,hd,h1,h2,h3,h4=>by
  refine Ev_succ ?_
  rw [List.drop_of_length_le (by omega)]
  have e1:wrap64 (hi + lo / 4294967296) = hi + lo / 4294967296:=w_id (by omega) (by omega)
  simp only [cents_Sum.l0,if_neg (show ¬ ((i:Int) < (l.length:Int)) by omega),e1,i64_and32,List.all_nil,if_true,List.sum_nil,Int.add_zero]
  by_cases c1:hi + lo / 4294967296 < -268435456
  ·simp only [if_pos c1]
   have:fitting (hi * 4294967296 + lo) = (0,3):=by
    unfold fitting
    rw [if_neg]
    rw [fits_iff]
    omega
   rw [this]
   exact Ev.now _
  ·by_cases c2:hi + lo / 4294967296 > 268435456
   ·simp only [if_neg c1,if_pos c2]
    have:fitting (hi * 4294967296 + lo) = (0,3):=by
     unfold fitting
     rw [if_neg]
     rw [fits_iff]
     omega
    rw [this]
    exact Ev.now _
   ·have e2:wrap64 ((hi + lo / 4294967296) * 4294967296) = (hi + lo / 4294967296) * 4294967296:=w_id (by omega) (by omega)
    have e3:wrap64 ((hi + lo / 4294967296) * 4294967296 + lo % 4294967296) = hi * 4294967296 + lo:=by rw [w_id (by omega) (by omega)];omega
    simp only [if_neg c1,if_neg c2,e2,e3,fitting_f,Option.bind_some]
    exact Ev.now _
 | d + 1,i,hi,lo,hd,h1,h2,h3,h4=>by
  have hlt:i < l.length:=by omega
  rw [drop_cons l i hlt]
  refine Ev_succ ?_
  simp only [cents_Sum.l0,if_pos (show (i:Int) < (l.length:Int) by omega),if_pos (show 0 ≤ (i:Int) by omega),rd_nat l i hlt,fits_f,Option.bind_some,i64_and32,List.all_cons,List.sum_cons]
  by_cases hf:fits l[i] = true
  case neg =>
   have hf':fits l[i] = false:=by simpa using hf
   simp only [hf',Bool.false_eq_true,if_false,Bool.false_and];exact Ev.now _
  case pos =>
   have hb:=(fits_iff _).1 hf
   have e1:wrap64 (hi + l[i] / 4294967296) = hi + l[i] / 4294967296:=w_id (by omega) (by omega)
   have e2:wrap64 (lo + l[i] % 4294967296) = lo + l[i] % 4294967296:=w_id (by omega) (by omega)
   have ih:=sumLoop l hl d (i + 1) (hi + l[i] / 4294967296) (lo + l[i] % 4294967296) (by omega) (by omega) (by omega) (by omega) (by omega)
   rw [← w_succ hlt (by omega)] at ih
   simp only [hf,if_true,Bool.true_and,e1,e2]
   have e4:(hi + l[i] / 4294967296) * 4294967296 + (lo + l[i] % 4294967296) + (l.drop (i + 1)).sum = hi * 4294967296 + lo + (l[i] + (l.drop (i + 1)).sum):=by omega
   rw [e4] at ih
   exact ih
theorem sum_f (l:List Int) (hl:l.length ≤ 1073741824):Ev (fun k=>cents_Sum.f k l) (sumE l):=by
 have:=sumLoop l hl l.length 0 0 0 (by omega) (by omega) (by omega) (by omega) (by omega)
 simpa [cents_Sum.f,sumE] using this
end Go.Proofs.Ytbgeceiddcokmaa.P
end
section
namespace Go.Proofs.Ytbgeceiddcokmaa.P
set_option linter.unusedVariables false
set_option linter.unusedSimpArgs false
open Go.RowKit Go.Proofs.YtbgeceiddcokmaaW.PrintWords Go.Proofs.YtbgeceiddcokmaaW.PrintMore Go.Proofs.Ytbgeceiddcokmaa.X
abbrev Arr:=S91
theorem rdArr (l:List Arr) (i:Nat) (h:i < l.length):rd_T91 l (i:Int) = l[i]:=by simp [rd_T91,h]
def lossBad (x:Int):Bool:=decide (x < -68719476736) || decide (x > 68719476736)
def deltaBad (x:Int):Bool:=decide (x < -1000) || decide (x > 1000)
def lenBad (n m:Nat):Bool:=decide (m < 1) || decide (m > 32) || !(decide (m = n))
def arrErr (n:Nat) (a:Arr):Int:=if lenBad n a.f1.length = true then 27 else if a.f1.any lossBad = true then 3 else if deltaBad a.f2 = true then 2 else 0
def scanGo (n:Nat):Option Ser → List Arr → Int
 | _,[]=>0
 | prev,a :: r=>if behind prev a.f0 = true then 19 else if arrErr n a ≠ 0 then arrErr n a else scanGo n (some a.f0) r
def scanN (l:List Arr):Nat:=match l with|[]=>0|a :: _=>a.f1.length
def scanCheck (l:List Arr):Int:=if l.length > 128 then 8 else scanGo (scanN l) none l
def prevOfA (l:List Arr) (i:Nat):Option Ser:=if i = 0 then none else (l[i - 1]?).map (·.f0)
theorem scanL1 (l:List Arr) (i:Nat) (ls ls':List Int) (b0:ByteArray) (b1 b2 b3 dl:Int) (r:Int) (hl:ls.length ≤ 4611686018427387904)
  (h:ls.any lossBad = false → deltaBad dl = false → Ev (fun k=>scan_Check.l0 k l l l.length (wrap64 ((i:Int) + 1))) r):∀ (d j:Nat),j + d = ls.length → (ls.take j).any lossBad = false →
  Ev (fun k=>scan_Check.l1 k l l l.length i ls ls.length j b0 b1 b2 b3 ls' dl) (if (ls.drop j).any lossBad = true then 3 else if deltaBad dl = true then 2 else r)
 | 0,j,hd,ht=>by
  refine Ev_succ ?_
  rw [List.drop_of_length_le (by omega)]
  simp only [scan_Check.l1,if_neg (show ¬ ((j:Int) < (ls.length:Int)) by omega),List.any_nil,Bool.false_eq_true,if_false]
  have hall:ls.any lossBad = false:=by rw [List.take_of_length_le (by omega)] at ht;exact ht
  by_cases c1:dl < -1000
  ·simp only [if_pos c1,deltaBad,decide_eq_true c1,Bool.true_or,if_true];exact Ev.now _
  ·by_cases c2:dl > 1000
   ·simp only [if_neg c1,if_pos c2,deltaBad,decide_eq_true c2,Bool.or_true,if_true];exact Ev.now _
   ·have hb:deltaBad dl = false:=by simp only [deltaBad,decide_eq_false c1,decide_eq_false c2];rfl
    simp only [if_neg c1,if_neg c2,hb,Bool.false_eq_true,if_false]
    exact h hall hb
 | d + 1,j,hd,ht=>by
  have hj:j < ls.length:=by omega
  rw [drop_cons ls j hj]
  refine Ev_succ ?_
  simp only [scan_Check.l1,if_pos (show (j:Int) < (ls.length:Int) by omega),if_pos (show 0 ≤ (j:Int) by omega),rd_nat ls j hj,List.any_cons]
  by_cases c1:ls[j] < -68719476736
  ·simp only [if_pos c1,lossBad,decide_eq_true c1,Bool.true_or,if_true];exact Ev.now _
  ·by_cases c2:ls[j] > 68719476736
   ·simp only [if_neg c1,if_pos c2,lossBad,decide_eq_true c2,Bool.true_or,Bool.or_true,if_true];exact Ev.now _
   ·have hb:lossBad ls[j] = false:=by simp only [lossBad,decide_eq_false c1,decide_eq_false c2];rfl
    have ih:=scanL1 l i ls ls' b0 b1 b2 b3 dl r hl h d (j + 1) (by omega) (by rw [List.take_succ_eq_append_getElem hj,List.any_append,ht];simp [hb])
    rw [← w_succ hj (by omega)] at ih
    simp only [if_neg c1,if_neg c2,hb,Bool.false_or]
    exact ih
theorem scanJ (l:List Arr) (hl:0 < l.length) (hl2:l.length ≤ 4611686018427387904) (i:Nat) (b:Bool) (a:Arr) (ha:a.f1.length ≤ 4611686018427387904) (r:Int)
  (h:b = false → arrErr (scanN l) a = 0 → Ev (fun k=>scan_Check.l0 k l l l.length (wrap64 ((i:Int) + 1))) r) :
  Ev (fun k=>scan_Check.j1 k l l l.length i b a.f0.f0 a.f0.f1 a.f0.f2 a.f0.f3 a.f1 a.f2) (if b = true then 19 else if arrErr (scanN l) a ≠ 0 then arrErr (scanN l) a else r):=by
 have hn:(((rd_T91 l 0).f1).length:Int) = (scanN l:Int):=by
  cases l with
  | nil=>simp at hl
  | cons x t=>rfl
 have hj2:∀ c:Bool,c = lenBad (scanN l) a.f1.length → b = false → Ev (fun k=>scan_Check.j2 k l l l.length i c a.f0.f0 a.f0.f1 a.f0.f2 a.f0.f3 a.f1 a.f2) (if arrErr (scanN l) a ≠ 0 then arrErr (scanN l) a else r):=by
  intro c hc hb
  refine Ev_succ ?_
  simp only [scan_Check.j2]
  cases hcc:lenBad (scanN l) a.f1.length with
  | true =>
   have:arrErr (scanN l) a = 27:=by simp [arrErr,hcc]
   simp only [hc,hcc,if_true,this]
   exact Ev.now _
  | false =>
   simp only [hc,hcc,Bool.false_eq_true,if_false]
   have key:=scanL1 l i a.f1 a.f1 a.f0.f0 a.f0.f1 a.f0.f2 a.f0.f3 a.f2 r ha (fun h1 h2=>h hb (by simp [arrErr,hcc,h1,h2])) a.f1.length 0 (by omega) (by simp)
   rw [List.drop_zero] at key
   have e:(if a.f1.any lossBad = true then (3:Int) else if deltaBad a.f2 = true then 2 else r) = (if arrErr (scanN l) a ≠ 0 then arrErr (scanN l) a else r):=by
    unfold arrErr
    simp only [hcc,Bool.false_eq_true,if_false]
    by_cases h1:a.f1.any lossBad = true
    ·simp [h1]
    ·by_cases h2:deltaBad a.f2 = true
     ·simp [h1,h2]
     ·simp [h1,h2]
   rw [e] at key
   exact key
 refine Ev_succ ?_
 simp only [scan_Check.j1]
 cases hb:b with
 | true=>exact Ev.now _
 | false =>
  simp only [Bool.false_eq_true,if_false,hn]
  by_cases c1:(a.f1.length:Int) < 1
  ·simp only [if_pos c1]
   exact hj2 true (by have e1:decide (a.f1.length < 1) = true:=decide_eq_true (by omega);simp only [lenBad,e1,Bool.true_or]) hb
  ·by_cases c2:(a.f1.length:Int) > 32
   ·simp only [if_neg c1,if_pos c2]
    exact hj2 true (by have e1:decide (a.f1.length > 32) = true:=decide_eq_true (by omega);simp only [lenBad,e1,Bool.true_or,Bool.or_true]) hb
   ·simp only [if_neg c1,if_neg c2,if_pos (show 0 < (l.length:Int) by omega)]
    refine hj2 _ ?_ hb
    have e1:decide (a.f1.length < 1) = false:=decide_eq_false (by omega)
    have e2:decide (a.f1.length > 32) = false:=decide_eq_false (by omega)
    simp only [lenBad,e1,e2,Bool.false_or]
    by_cases e:a.f1.length = scanN l
    ·simp [e]
    ·have e':¬ ((a.f1.length:Int) = (scanN l:Int)):=by omega
     rw [decide_eq_false e,bne_iff_ne.2 e']
     rfl
theorem scanLoop (l:List Arr) (hl2:l.length ≤ 4611686018427387904) (ha:∀ a ∈ l,a.f1.length ≤ 4611686018427387904):∀ (d i:Nat),i + d = l.length → Ev (fun k=>scan_Check.l0 k l l l.length i) (scanGo (scanN l) (prevOfA l i) (l.drop i))
 | 0,i,hd=>by
  refine Ev_succ ?_
  simp only [scan_Check.l0,if_neg (show ¬ ((i:Int) < (l.length:Int)) by omega)]
  rw [List.drop_of_length_le (by omega)]
  exact Ev.now _
 | d + 1,i,hd=>by
  have hi:i < l.length:=by omega
  have ih:=scanLoop l hl2 ha d (i + 1) (by omega)
  rw [← w_succ hi (by omega)] at ih
  have hprev:prevOfA l (i + 1) = some l[i].f0:=by simp [prevOfA,hi]
  rw [hprev] at ih
  rw [drop_cons l i hi]
  refine Ev_succ ?_
  simp only [scan_Check.l0,if_pos (show (i:Int) < (l.length:Int) by omega),if_pos (show 0 ≤ (i:Int) by omega),rdArr l i hi]
  by_cases h0:i = 0
  ·subst h0
   simp only [if_neg (show ¬ (((0:Nat):Int) > 0) by omega)]
   exact scanJ l hi hl2 0 false l[0] (ha _ (List.getElem_mem hi)) _ (fun _ _=>ih)
  ·have hp:=w_pred (show 0 < i by omega) (by omega)
   simp only [if_pos (show ((i:Int) > 0) by omega),hp,if_pos (show 0 ≤ ((i - 1:Nat):Int) by omega),if_pos (show ((i - 1:Nat):Int) < (l.length:Int) by omega),rdArr l (i - 1) (by omega),cmpS_f,Option.bind_some]
   have hb:behind (prevOfA l i) l[i].f0 = decide (cmpS l[i - 1].f0 l[i].f0 ≥ 0):=by
    simp [behind,prevOfA,h0,show i - 1 < l.length by omega]
   simp only [scanGo,hb]
   exact scanJ l (by omega) hl2 i _ l[i] (ha _ (List.getElem_mem hi)) _ (fun _ _=>ih)
theorem scanCheck_f (l:List Arr) (hl:l.length ≤ 4611686018427387904) (ha:∀ a ∈ l,a.f1.length ≤ 4611686018427387904):Ev (fun k=>scan_Check.f k l) (scanCheck l):=by
 unfold scan_Check.f scanCheck
 by_cases h:l.length > 128
 ·simp only [if_pos (show (l.length:Int) > 128 by omega),if_pos h]
  exact Ev.now _
 ·simp only [if_neg (show ¬ ((l.length:Int) > 128) by omega),if_neg h]
  exact scanLoop l hl ha l.length 0 (by omega)
def both (l:List Pos) (arrays:List Arr):Int:=if scanCheck arrays = 0 then posCheck l else scanCheck arrays
theorem both_f (l:List Pos) (r:List Arr) (hl:l.length ≤ 4611686018427387904) (hr:r.length ≤ 4611686018427387904) (ha:∀ a ∈ r,a.f1.length ≤ 4611686018427387904):Ev (fun k=>scan_both.f k l r) (both l r):=by
 unfold scan_both.f both
 refine Ev_bind (scanCheck_f r hr ha) ?_
 by_cases h:scanCheck r = 0
 ·simp only [if_pos h];exact Ev_id (posCheck_f l hl)
 ·simp only [if_neg h];exact Ev.now _
def findA (r:List Arr) (s:Ser):Option Arr:=r.find? (fun a=>eqS a.f0 s)
def ownA (r:List Arr):List Pos → Option (List Arr)
 | []=>some []
 | p :: t=>(findA r p.f0).bind fun a=>(ownA r t).map fun o=>a :: o
def foundE (acc:List Arr):Option (List Arr) → List Arr × Int
 | some o=>(acc ++ o,0)
 | none=>([],11)
theorem foundL1 (r:List Arr) (hr:r.length ≤ 4611686018427387904) (acc:List Arr) (hacc:acc.length < 1954687338268) (l:List Pos) (i:Nat) (p:Pos) (res:List Arr × Int) (hn:findA r p.f0 = none → res = ([],11))
  (h:∀ a,findA r p.f0 = some a → Ev (fun k=>scan_found.l0 k r (acc ++ [a]) l l.length (wrap64 ((i:Int) + 1))) res):∀ (d j:Nat),j + d = r.length → findA r p.f0 = findA (r.drop j) p.f0 →
  Ev (fun k=>scan_found.l1 k r acc l l.length i r r.length j p.f0.f0 p.f0.f1 p.f0.f2 p.f0.f3 p.f1 p.f2) res
 | 0,j,hd,hf=>by
  refine Ev_succ ?_
  simp only [scan_found.l1,if_neg (show ¬ ((j:Int) < (r.length:Int)) by omega)]
  rw [List.drop_of_length_le (by omega)] at hf
  rw [hn (by rw [hf];rfl)]
  exact Ev.now _
 | d + 1,j,hd,hf=>by
  have hj:j < r.length:=by omega
  refine Ev_succ ?_
  simp only [scan_found.l1,if_pos (show (j:Int) < (r.length:Int) by omega),if_pos (show 0 ≤ (j:Int) by omega),rdArr r j hj]
  rw [drop_cons r j hj] at hf
  cases he:eqS r[j].f0 p.f0 with
  | true =>
   have he2:(r[j].f0.f0.toList == p.f0.f0.toList && (r[j].f0.f1 == p.f0.f1 && (r[j].f0.f2 == p.f0.f2 && (r[j].f0.f3 == p.f0.f3)))) = true:=he
   simp only [he2,if_true,if_pos hacc]
   have hs:findA r p.f0 = some r[j]:=by rw [hf];simp only [findA,List.find?_cons,he]
   exact h _ hs
  | false =>
   have he2:(r[j].f0.f0.toList == p.f0.f0.toList && (r[j].f0.f1 == p.f0.f1 && (r[j].f0.f2 == p.f0.f2 && (r[j].f0.f3 == p.f0.f3)))) = false:=he
   simp only [he2,Bool.false_eq_true,if_false]
   have ih:=foundL1 r hr acc hacc l i p res hn h d (j + 1) (by omega) (by rw [hf];simp only [findA,List.find?_cons,he])
   rw [← w_succ hj (by omega)] at ih
   exact ih
theorem foundLoop (r:List Arr) (hr:r.length ≤ 4611686018427387904) (l:List Pos) (hl:l.length ≤ 1000000000):∀ (d i:Nat) (acc:List Arr),i + d = l.length → acc.length = i → Ev (fun k=>scan_found.l0 k r acc l l.length i) (foundE acc (ownA r (l.drop i)))
 | 0,i,acc,hd,hacc=>by
  refine Ev_succ ?_
  simp only [scan_found.l0,if_neg (show ¬ ((i:Int) < (l.length:Int)) by omega)]
  rw [List.drop_of_length_le (by omega)]
  simp only [ownA,foundE,List.append_nil]
  exact Ev.now _
 | d + 1,i,acc,hd,hacc=>by
  have hi:i < l.length:=by omega
  refine Ev_succ ?_
  simp only [scan_found.l0,if_pos (show (i:Int) < (l.length:Int) by omega),if_pos (show 0 ≤ (i:Int) by omega),rdPos l i hi]
  rw [drop_cons l i hi]
  refine foundL1 r hr acc (by omega) l i l[i] _ ?_ ?_ r.length 0 (by omega) (by simp)
  ·intro hn
   simp only [ownA,hn,Option.bind_none,foundE]
  ·intro a ha
   have ih:=foundLoop r hr l hl d (i + 1) (acc ++ [a]) (by omega) (by simp [hacc])
   rw [← w_succ hi (by omega)] at ih
   simp only [ownA,ha,Option.bind_some]
   cases ho:ownA r (l.drop (i + 1)) with
   | none=>rw [ho] at ih;exact ih
   | some o=>rw [ho] at ih;simpa [foundE] using ih
def found (l:List Pos) (r:List Arr):List Arr × Int:=if both l r = 0 then foundE [] (ownA r l) else ([],both l r)
theorem found_f (l:List Pos) (r:List Arr) (hl:l.length ≤ 4611686018427387904) (hr:r.length ≤ 4611686018427387904) (ha:∀ a ∈ r,a.f1.length ≤ 4611686018427387904):Ev (fun k=>scan_found.f k l r) (found l r):=by
 unfold scan_found.f found
 refine Ev_bind (both_f l r hl hr ha) ?_
 by_cases h:both l r = 0
 ·have h128:l.length ≤ 128:=by
   unfold both at h
   by_cases h1:scanCheck r = 0
   ·rw [if_pos h1] at h
    unfold posCheck at h
    by_cases h2:l.length > 128
    ·rw [if_pos h2] at h;omega
    ·omega
   ·rw [if_neg h1] at h;exact absurd h h1
  simp only [if_pos h]
  exact foundLoop r hr l (by omega) l.length 0 [] (by omega) rfl
 ·simp only [if_neg h];exact Ev.now _
end Go.Proofs.Ytbgeceiddcokmaa.P
end
section
namespace Go.Proofs.Ytbgeceiddcokmaa.P
set_option linter.unusedVariables false
set_option linter.unusedSimpArgs false
open Go.RowKit Go.Proofs.YtbgeceiddcokmaaW.PrintWords Go.Proofs.YtbgeceiddcokmaaW.PrintMore Go.Proofs.Ytbgeceiddcokmaa.X
structure PGood (l:List Pos) (o:List Arr) (n:Nat):Prop where
 len:o.length = l.length
 few:l.length ≤ 128
 lots:∀ p ∈ l,lots p.f1 = true ∧ lots p.f2 = true
 arr:∀ a ∈ o,a.f1.length = n ∧ (∀ x ∈ a.f1,lossBad x = false) ∧ deltaBad a.f2 = false
 scen:n ≤ 32
theorem posGo_zero:∀ (l:List Pos) (prev:Option Ser),posGo prev l = 0 → ∀ p ∈ l,posBad p = false
 | [],_,_,p,hp=>by simp at hp
 | q :: t,prev,h,p,hp=>by
  unfold posGo at h
  by_cases h1:behind prev q.f0 = true
  ·rw [if_pos h1] at h;omega
  ·rw [if_neg h1] at h
   by_cases h2:posBad q = true
   ·rw [if_pos h2] at h;omega
   ·rw [if_neg h2] at h
    rcases List.mem_cons.1 hp with rfl|hp
    ·simpa using h2
    ·exact posGo_zero t _ h p hp
theorem posCheck_zero {l:List Pos} (h:posCheck l = 0):l.length ≤ 128 ∧ ∀ p ∈ l,posBad p = false:=by
 unfold posCheck at h
 by_cases h1:l.length > 128
 ·rw [if_pos h1] at h;omega
 ·rw [if_neg h1] at h;exact ⟨by omega,posGo_zero l none h⟩
theorem posBad_lots {p:Pos} (h:posBad p = false):lots p.f1 = true ∧ lots p.f2 = true:=by
 simp only [posBad,Bool.or_eq_false_iff,Bool.not_eq_false'] at h
 exact ⟨h.1.1,h.1.2⟩
theorem scanGo_zero (n:Nat):∀ (l:List Arr) (prev:Option Ser),scanGo n prev l = 0 → ∀ a ∈ l,arrErr n a = 0
 | [],_,_,p,hp=>by simp at hp
 | q :: t,prev,h,p,hp=>by
  unfold scanGo at h
  by_cases h1:behind prev q.f0 = true
  ·rw [if_pos h1] at h;omega
  ·rw [if_neg h1] at h
   by_cases h2:arrErr n q ≠ 0
   ·rw [if_pos h2] at h;exact absurd h h2
   ·rw [if_neg h2] at h
    rcases List.mem_cons.1 hp with rfl|hp
    ·exact Decidable.not_not.1 h2
    ·exact scanGo_zero n t _ h p hp
theorem scanCheck_zero {l:List Arr} (h:scanCheck l = 0):l.length ≤ 128 ∧ ∀ a ∈ l,arrErr (scanN l) a = 0:=by
 unfold scanCheck at h
 by_cases h1:l.length > 128
 ·rw [if_pos h1] at h;omega
 ·rw [if_neg h1] at h;exact ⟨by omega,scanGo_zero _ l none h⟩
theorem arrErr_zero {n:Nat} {a:Arr} (h:arrErr n a = 0):a.f1.length = n ∧ n ≤ 32 ∧ 1 ≤ n ∧ (∀ x ∈ a.f1,lossBad x = false) ∧ deltaBad a.f2 = false:=by
 unfold arrErr at h
 by_cases h1:lenBad n a.f1.length = true
 ·rw [if_pos h1] at h;omega
 ·rw [if_neg h1] at h
  by_cases h2:a.f1.any lossBad = true
  ·rw [if_pos h2] at h;omega
  ·rw [if_neg h2] at h
   by_cases h3:deltaBad a.f2 = true
   ·rw [if_pos h3] at h;omega
   ·simp only [lenBad,Bool.or_eq_true,decide_eq_true_eq,Bool.not_eq_true',decide_eq_false_iff_not,not_or] at h1
    refine ⟨by omega,by omega,by omega,fun x hx=>?_,by simpa using h3⟩
    have h2':a.f1.any lossBad = false:=by simpa using h2
    have:=List.any_eq_false.1 h2' x hx
    simpa using this
theorem ownA_len (r:List Arr):∀ (l:List Pos) (o:List Arr),ownA r l = some o → o.length = l.length ∧ ∀ a ∈ o,a ∈ r
 | [],o,h=>by
  simp only [ownA,Option.some.injEq] at h
  subst h
  simp
 | p :: t,o,h=>by
  simp only [ownA,Option.bind_eq_some_iff,Option.map_eq_some_iff] at h
  obtain ⟨a,ha,o',ho,rfl⟩:=h
  obtain ⟨h1,h2⟩:=ownA_len r t o' ho
  refine ⟨by simp [h1],fun b hb=>?_⟩
  rcases List.mem_cons.1 hb with rfl|hb
  ·exact List.mem_of_find?_eq_some ha
  ·exact h2 b hb
theorem both_zero {l:List Pos} {r:List Arr} (h:both l r = 0):scanCheck r = 0 ∧ posCheck l = 0:=by
 unfold both at h
 by_cases h1:scanCheck r = 0
 ·rw [if_pos h1] at h;exact ⟨h1,h⟩
 ·rw [if_neg h1] at h;exact absurd h h1
theorem found_zero {l:List Pos} {r:List Arr} (h:(found l r).2 = 0):both l r = 0 ∧ ownA r l = some (found l r).1:=by
 unfold found at h ⊢
 by_cases h1:both l r = 0
 ·rw [if_pos h1] at h ⊢
  cases ho:ownA r l with
  | none=>rw [ho] at h;simp [foundE] at h
  | some o=>exact ⟨h1,by simp [foundE]⟩
 ·rw [if_neg h1] at h;exact absurd h h1
theorem found_good {l:List Pos} {r:List Arr} (h:(found l r).2 = 0):PGood l (found l r).1 (scanN r):=by
 obtain ⟨h1,ho⟩:=found_zero h
 obtain ⟨hs,hp⟩:=both_zero h1
 obtain ⟨hl,hb⟩:=posCheck_zero hp
 obtain ⟨hr,ha⟩:=scanCheck_zero hs
 obtain ⟨ho1,ho2⟩:=ownA_len r l _ ho
 refine ⟨ho1,hl,fun p hp=>posBad_lots (hb p hp),fun a hao=>?_,?_⟩
 ·have:=arrErr_zero (ha a (ho2 a hao));exact ⟨this.1,this.2.2.2.1,this.2.2.2.2⟩
 ·cases r with
  | nil=>simp [scanN]
  | cons a t=>exact (arrErr_zero (ha a (by simp))).2.1
theorem found_bad {l:List Pos} {r:List Arr} (h:(found l r).2 ≠ 0):(found l r).1 = []:=by
 unfold found at h ⊢
 by_cases h1:both l r = 0
 ·rw [if_pos h1] at h ⊢
  cases ho:ownA r l with
  | none=>rfl
  | some o=>rw [ho] at h;simp [foundE] at h
 ·rw [if_neg h1]
theorem lots_rng {n:Int} (h:lots n = true):0 ≤ n ∧ n ≤ 1048576:=by simpa [lots] using h
theorem lossBad_rng {x:Int} (h:lossBad x = false):-68719476736 ≤ x ∧ x ≤ 68719476736:=by
 simp only [lossBad,Bool.or_eq_false_iff,decide_eq_false_iff_not] at h;omega
theorem deltaBad_rng {x:Int} (h:deltaBad x = false):-1000 ≤ x ∧ x ≤ 1000:=by
 simp only [deltaBad,Bool.or_eq_false_iff,decide_eq_false_iff_not] at h;omega
def termsAt (s:Nat):List Pos → List Arr → List Int
 | p :: t,a :: o=>(p.f1 - p.f2) * a.f1.getD s 0 :: termsAt s t o
 | _,_=>[]
def lossesFrom (l:List Pos) (o:List Arr):List Int → List Nat → List Int × Int
 | acc,[]=>(acc,0)
 | acc,s :: t=>if (sumE (termsAt s l o)).2 = 0 then lossesFrom l o (acc ++ [(sumE (termsAt s l o)).1]) t else ([],(sumE (termsAt s l o)).2)
theorem mul_rng {a b A B:Int} (ha:-A ≤ a ∧ a ≤ A) (hb:-B ≤ b ∧ b ≤ B):-(A * B) ≤ a * b ∧ a * b ≤ A * B:=by
 have hA:0 ≤ A:=by omega
 have hB:0 ≤ B:=by omega
 have h1:a.natAbs ≤ A.toNat:=by omega
 have h2:b.natAbs ≤ B.toNat:=by omega
 have h3:a.natAbs * b.natAbs ≤ A.toNat * B.toNat:=Nat.mul_le_mul h1 h2
 have h4:(a * b).natAbs ≤ A.toNat * B.toNat:=by rw [Int.natAbs_mul];exact h3
 have h5:((A.toNat * B.toNat:Nat):Int) = A * B:=by rw [Int.natCast_mul,Int.toNat_of_nonneg hA,Int.toNat_of_nonneg hB]
 generalize A.toNat * B.toNat = m at h4 h5
 generalize a * b = x at *
 generalize A * B = y at *
 omega
theorem lossL1 (l:List Pos) (o:List Arr) (n:Nat) (hg:PGood l o n) (s:Nat) (hs:s < n) (acc:List Int) (res:List Int × Int) :
  ∀ (d i:Nat) (done:List Int),i + d = l.length → done.length = i →
  Ev (fun k=>(cents_Sum.f k (done ++ termsAt s (l.drop i) (o.drop i))).bind fun b=>if b.2 = 0 then (if acc.length < 17592186044416 then scan_Losses.l0 k l (acc ++ [b.1]) o (n:Int) (wrap64 ((s:Int) + 1)) else none) else some ([],b.2)) res →
  Ev (fun k=>scan_Losses.l1 k l acc o s done (n:Int) s l (l.length:Int) i) res
 | 0,i,done,hd,hdone,h=>by
  rw [List.drop_of_length_le (by omega)] at h
  simp only [termsAt,List.append_nil] at h
  refine Ev_succ ?_
  simp only [scan_Losses.l1,if_neg (show ¬ ((i:Int) < (l.length:Int)) by omega)]
  exact h
 | d + 1,i,done,hd,hdone,h=>by
  have hi:i < l.length:=by omega
  have hio:i < o.length:=by rw [hg.len];exact hi
  have hp:=hg.lots l[i] (List.getElem_mem hi)
  have ha:=hg.arr o[i] (List.getElem_mem hio)
  have hf:=hg.few
  have b1:=lots_rng hp.1
  have b2:=lots_rng hp.2
  have hsl:s < o[i].f1.length:=by rw [ha.1];exact hs
  have b3:=lossBad_rng (ha.2.1 o[i].f1[s] (List.getElem_mem hsl))
  have e1:wrap64 (l[i].f1 - l[i].f2) = l[i].f1 - l[i].f2:=w_id (by omega) (by omega)
  have b4:=mul_rng (A:=1048576) (B:=68719476736) (a:=l[i].f1 - l[i].f2) (b:=o[i].f1[s]) (by omega) (by omega)
  have e2:wrap64 ((l[i].f1 - l[i].f2) * o[i].f1[s]) = (l[i].f1 - l[i].f2) * o[i].f1[s]:=w_id (by omega) (by omega)
  refine Ev_succ ?_
  simp only [scan_Losses.l1,if_pos (show (i:Int) < (l.length:Int) by omega),if_pos (show 0 ≤ (i:Int) by omega),if_pos (show (i:Int) < (o.length:Int) by omega),rdPos l i hi,rdArr o i hio,if_pos (show 0 ≤ (s:Int) by omega),if_pos (show (s:Int) < (o[i].f1.length:Int) by omega),rd_nat _ s hsl,e1,e2,if_pos (show done.length < 17592186044416 by omega),w_succ hi (by omega)]
  refine lossL1 l o n hg s hs acc res d (i + 1) _ (by omega) (by simp [hdone]) ?_
  rw [drop_cons l i hi,drop_cons o i hio] at h
  simp only [termsAt] at h
  rw [List.append_assoc]
  have eg:o[i].f1.getD s 0 = o[i].f1[s]:=by simp [List.getD,hsl]
  rw [eg] at h
  exact h
theorem termsAt_len (s:Nat):∀ (l:List Pos) (o:List Arr),(termsAt s l o).length ≤ l.length
 | [],_=>by simp [termsAt]
 | p :: t,[]=>by simp [termsAt]
 | p :: t,a :: o=>by have:=termsAt_len s t o;simp only [termsAt,List.length_cons];omega
theorem lossL0 (l:List Pos) (o:List Arr) (n:Nat) (hg:PGood l o n):∀ (d s:Nat) (acc:List Int),s + d = n → acc.length = s →
  Ev (fun k=>scan_Losses.l0 k l acc o (n:Int) s) (lossesFrom l o acc (List.range' s d))
 | 0,s,acc,hd,hacc=>by
  refine Ev_succ ?_
  simp only [scan_Losses.l0,if_neg (show ¬ ((s:Int) < (n:Int)) by omega)]
  exact Ev.now _
 | d + 1,s,acc,hd,hacc=>by
  have hn:=hg.scen
  have hf:=hg.few
  refine Ev_succ ?_
  simp only [scan_Losses.l0,if_pos (show (s:Int) < (n:Int) by omega)]
  refine lossL1 l o n hg s (by omega) acc _ l.length 0 [] (by omega) rfl ?_
  simp only [List.nil_append,List.drop_zero]
  refine Ev_bind (sum_f _ (by have:=termsAt_len s l o;omega)) ?_
  simp only [List.range'_succ,lossesFrom]
  by_cases h:(sumE (termsAt s l o)).2 = 0
  ·simp only [if_pos h,if_pos (show acc.length < 17592186044416 by omega),w_succ (show s < n by omega) (by omega)]
   exact lossL0 l o n hg d (s + 1) _ (by omega) (by simp [hacc])
  ·simp only [if_neg h]
   exact Ev.now _
def losses (l:List Pos) (r:List Arr):List Int × Int :=
 if (found l r).2 = 0 then (if r.length = 0 then ([],0) else lossesFrom l (found l r).1 [] (List.range' 0 (scanN r))) else ([],(found l r).2)
theorem losses_f (l:List Pos) (r:List Arr) (hl:l.length ≤ 4611686018427387904) (hr:r.length ≤ 4611686018427387904) (ha:∀ a ∈ r,a.f1.length ≤ 4611686018427387904):Ev (fun k=>scan_Losses.f k l r) (losses l r):=by
 unfold scan_Losses.f losses
 refine Ev_bind (found_f l r hl hr ha) ?_
 by_cases h:(found l r).2 = 0
 ·simp only [if_pos h]
  refine Ev_succ ?_
  simp only [scan_Losses.j0]
  by_cases h0:r.length = 0
  ·simp only [if_pos h0,show ((r.length:Int) == 0) = true by simp [h0],if_true,h]
   exact Ev.now _
  ·have hrn:(((rd_T91 r 0).f1).length:Int) = (scanN r:Int):=by
    cases r with
    | nil=>simp at h0
    | cons x t=>rfl
   simp only [if_neg h0,show ((r.length:Int) == 0) = false from beq_eq_false_iff_ne.2 (by omega),Bool.false_eq_true,if_false,if_pos (show 0 < (r.length:Int) by omega),hrn]
   exact lossL0 l _ _ (found_good h) (scanN r) 0 [] (by omega) rfl
 ·simp only [if_neg h]
  refine Ev_succ ?_
  simp only [scan_Losses.j0,if_true]
  exact Ev.now _
def deltaOf:List Pos → List Arr → Int
 | p :: t,a :: o=>(p.f1 - p.f2) * a.f2 + deltaOf t o
 | _,_=>0
theorem deltaL0 (l:List Pos) (o:List Arr) (n:Nat) (hg:PGood l o n) (e:Int):∀ (d i:Nat) (acc:Int),i + d = l.length → -(1048576000 * (i:Int)) ≤ acc → acc ≤ 1048576000 * (i:Int) →
  Ev (fun k=>scan_Delta.l0 k l acc e o (o.length:Int) i) (acc + deltaOf (l.drop i) (o.drop i),e)
 | 0,i,acc,hd,h1,h2=>by
  have:=hg.len
  rw [List.drop_of_length_le (by omega)]
  refine Ev_succ ?_
  simp only [scan_Delta.l0,if_neg (show ¬ ((i:Int) < (o.length:Int)) by omega),deltaOf,Int.add_zero]
  exact Ev.now _
 | d + 1,i,acc,hd,h1,h2=>by
  have hi:i < l.length:=by omega
  have hlen:=hg.len
  have hio:i < o.length:=by omega
  have hf:=hg.few
  have hp:=hg.lots l[i] (List.getElem_mem hi)
  have ha:=hg.arr o[i] (List.getElem_mem hio)
  have b1:=lots_rng hp.1
  have b2:=lots_rng hp.2
  have b3:=deltaBad_rng ha.2.2
  have e1:wrap64 (l[i].f1 - l[i].f2) = l[i].f1 - l[i].f2:=w_id (by omega) (by omega)
  have b4:=mul_rng (A:=1048576) (B:=1000) (a:=l[i].f1 - l[i].f2) (b:=o[i].f2) (by omega) (by omega)
  have e2:wrap64 ((l[i].f1 - l[i].f2) * o[i].f2) = (l[i].f1 - l[i].f2) * o[i].f2:=w_id (by omega) (by omega)
  have e3:wrap64 (acc + (l[i].f1 - l[i].f2) * o[i].f2) = acc + (l[i].f1 - l[i].f2) * o[i].f2:=w_id (by omega) (by omega)
  refine Ev_succ ?_
  simp only [scan_Delta.l0,if_pos (show (i:Int) < (o.length:Int) by omega),if_pos (show 0 ≤ (i:Int) by omega),if_pos (show (i:Int) < (l.length:Int) by omega),rdPos l i hi,rdArr o i hio,e1,e2,e3,w_succ hi (by omega)]
  have ih:=deltaL0 l o n hg e d (i + 1) (acc + (l[i].f1 - l[i].f2) * o[i].f2) (by omega) (by omega) (by omega)
  rw [drop_cons l i hi,drop_cons o i hio]
  simp only [deltaOf]
  rw [Int.add_assoc] at ih
  rw [← Int.add_assoc] at ih ⊢
  exact ih
def delta (l:List Pos) (r:List Arr):Int × Int:=if (found l r).2 = 0 then (deltaOf l (found l r).1,0) else (0,(found l r).2)
theorem delta_f (l:List Pos) (r:List Arr) (hl:l.length ≤ 4611686018427387904) (hr:r.length ≤ 4611686018427387904) (ha:∀ a ∈ r,a.f1.length ≤ 4611686018427387904):Ev (fun k=>scan_Delta.f k l r) (delta l r):=by
 unfold scan_Delta.f delta
 refine Ev_bind (found_f l r hl hr ha) ?_
 by_cases h:(found l r).2 = 0
 ·simp only [if_pos h]
  have:=deltaL0 l _ _ (found_good h) (found l r).2 l.length 0 0 (by omega) (by omega) (by omega)
  simp only [Int.zero_add,List.drop_zero,h] at this
  simp only [h]
  exact this
 ·simp only [if_neg h,found_bad h]
  refine Ev_succ ?_
  simp only [scan_Delta.l0,List.length_nil]
  exact Ev.now _
end Go.Proofs.Ytbgeceiddcokmaa.P
end
section
namespace Go.Proofs.Ytbgeceiddcokmaa.P
set_option linter.unusedVariables false
set_option linter.unusedSimpArgs false
open Go.RowKit Go.Proofs.YtbgeceiddcokmaaW.PrintWords Go.Proofs.YtbgeceiddcokmaaW.PrintMore Go.Proofs.Ytbgeceiddcokmaa.X
theorem fewLoop (l:List Pos) (r:List Arr) (hr:r.length ≤ 4611686018427387904):∀ (d i:Nat) (n:Int),i + d = r.length → ∃ b,Ev (fun k=>contangolaw23_few.l0 k l r n r.length i) b ∧ (b = true → l.length ≤ 200 ∧ r.length ≤ 200)
 | 0,i,n,hd=>by
  by_cases h1:l.length ≤ 200
  ·by_cases h2:r.length ≤ 200
   ·refine ⟨decide (n ≤ 5000),Ev_succ ?_,fun _=>⟨h1,h2⟩⟩
    simp only [contangolaw23_few.l0,if_neg (show ¬ ((i:Int) < (r.length:Int)) by omega),if_pos (show (l.length:Int) ≤ 200 by omega),if_pos (show (r.length:Int) ≤ 200 by omega)]
    exact Ev.now _
   ·refine ⟨false,Ev_succ ?_,fun h=>by cases h⟩
    simp only [contangolaw23_few.l0,if_neg (show ¬ ((i:Int) < (r.length:Int)) by omega),if_pos (show (l.length:Int) ≤ 200 by omega),if_neg (show ¬ (r.length:Int) ≤ 200 by omega)]
    exact Ev.now _
  ·refine ⟨false,Ev_succ ?_,fun h=>by cases h⟩
   simp only [contangolaw23_few.l0,if_neg (show ¬ ((i:Int) < (r.length:Int)) by omega),if_neg (show ¬ (l.length:Int) ≤ 200 by omega)]
   exact Ev.now _
 | d + 1,i,n,hd=>by
  have hi:i < r.length:=by omega
  obtain ⟨b,hb,h⟩:=fewLoop l r hr d (i + 1) (wrap64 (n + mn (((rd_T91 r i).f1).length:Int) 1000)) (by omega)
  refine ⟨b,Ev_succ ?_,h⟩
  simp only [contangolaw23_few.l0,if_pos (show (i:Int) < (r.length:Int) by omega),if_pos (show 0 ≤ (i:Int) by omega),w_succ hi (by omega)]
  exact hb
theorem few_f (l:List Pos) (r:List Arr) (hr:r.length ≤ 4611686018427387904):∃ b,Ev (fun k=>contangolaw23_few.f k l r) b ∧ (b = true → l.length ≤ 200 ∧ r.length ≤ 200):=fewLoop l r hr r.length 0 0 (by omega)
end Go.Proofs.Ytbgeceiddcokmaa.P
end
section
namespace Go.Proofs.Ytbgeceiddcokmaa.P
set_option linter.unusedVariables false
set_option linter.unusedSimpArgs false
open Go.RowKit Go.Proofs.YtbgeceiddcokmaaW.PrintWords Go.Proofs.YtbgeceiddcokmaaW.PrintMore Go.Proofs.Ytbgeceiddcokmaa.X
theorem bl_self:∀ a:List UInt8,Op.bytesLess a a = false
 | []=>rfl
 | x :: a=>by simp [Op.bytesLess,bl_self a]
theorem bl_ne {a b:List UInt8} (h:Op.bytesLess a b = true):a ≠ b:=by
 rintro rfl
 rw [bl_self] at h
 cases h
theorem bl_trans:∀ a b c:List UInt8,Op.bytesLess a b = true → Op.bytesLess b c = true → Op.bytesLess a c = true
 | a,b,[],_,h=>by cases b <;> simp [Op.bytesLess] at h
 | a,[],z :: c,h,_=>by cases a <;> simp [Op.bytesLess] at h
 | [],y :: b,z :: c,_,_=>by simp [Op.bytesLess]
 | x :: a,y :: b,z :: c,h,k=>by
  simp only [Op.bytesLess,Bool.or_eq_true,Bool.and_eq_true,decide_eq_true_eq,beq_iff_eq] at h k ⊢
  rcases h with h|⟨h,h'⟩ <;> rcases k with k|⟨k,k'⟩
  ·exact Or.inl (UInt8.lt_trans h k)
  ·subst k;exact Or.inl h
  ·subst h;exact Or.inl k
  ·subst h k;exact Or.inr ⟨rfl,bl_trans a b c h' k'⟩
end Go.Proofs.Ytbgeceiddcokmaa.P
end
section
namespace Go.Proofs.Ytbgeceiddcokmaa.P
set_option linter.unusedVariables false
set_option linter.unusedSimpArgs false
open Go.RowKit Go.Proofs.YtbgeceiddcokmaaW.PrintWords Go.Proofs.YtbgeceiddcokmaaW.PrintMore Go.Proofs.Ytbgeceiddcokmaa.X
theorem posGo_order:∀ (l:List Pos) (prev:Option Ser),posGo prev l = 0 → ∀ (i:Nat) (h:i < l.length) (h0:0 < i),cmpS (l[i - 1]'(by omega)).f0 l[i].f0 < 0
 | [],_,_,i,h,_=>by simp at h
 | p :: t,prev,hz,i,h,h0=>by
  unfold posGo at hz
  by_cases h1:behind prev p.f0 = true
  ·rw [if_pos h1] at hz;omega
  ·rw [if_neg h1] at hz
   by_cases h2:posBad p = true
   ·rw [if_pos h2] at hz;omega
   ·rw [if_neg h2] at hz
    obtain ⟨j,rfl⟩:∃ j,i = j + 1:=⟨i - 1,by omega⟩
    cases j with
    | zero =>
     cases t with
     | nil=>simp at h
     | cons q t =>
      unfold posGo at hz
      by_cases h3:behind (some p.f0) q.f0 = true
      ·rw [if_pos h3] at hz;omega
      ·simp only [behind,decide_eq_true_eq] at h3
       simp only [List.getElem_cons_succ,List.getElem_cons_zero,Nat.zero_add,Nat.sub_self]
       omega
    | succ j =>
     have:=posGo_order t _ hz (j + 1) (by simpa using h) (by omega)
     simpa using this
theorem posCheck_order {l:List Pos} (h:posCheck l = 0):∀ (i:Nat) (h:i < l.length) (h0:0 < i),cmpS (l[i - 1]'(by omega)).f0 l[i].f0 < 0:=by
 unfold posCheck at h
 by_cases h2:l.length > 128
 ·rw [if_pos h2] at h;omega
 ·rw [if_neg h2] at h;exact posGo_order l none h
theorem cmpS_names {a b:Ser} (h:cmpS a b < 0):a.f0.toList = b.f0.toList ∨ Op.bytesLess a.f0.toList b.f0.toList = true:=by
 unfold cmpS at h
 by_cases h0:a.f0.toList = b.f0.toList
 ·exact Or.inl h0
 ·rw [if_neg h0] at h
  unfold cmpB at h
  by_cases h1:Op.bytesLess a.f0.toList b.f0.toList = true
  ·exact Or.inr h1
  ·rw [if_neg h1] at h
   by_cases h2:Op.bytesLess b.f0.toList a.f0.toList = true
   ·rw [if_pos h2] at h;omega
   ·rw [if_neg h2] at h;omega
end Go.Proofs.Ytbgeceiddcokmaa.P
end
section
namespace Go.Proofs.Ytbgeceiddcokmaa.P
set_option linter.unusedVariables false
set_option linter.unusedSimpArgs false
open Go.RowKit Go.Proofs.YtbgeceiddcokmaaW.PrintWords Go.Proofs.YtbgeceiddcokmaaW.PrintMore Go.Proofs.Ytbgeceiddcokmaa.X
def sameN (n:ByteArray) (l:List Pos):List Pos:=l.filter (fun p=>p.f0.f0.toList == n.toList)
def isN (prev:Option ByteArray) (n:ByteArray):Bool:=match prev with|some q=>q.toList == n.toList|none=>false
def heads:Option ByteArray → List Pos → List ByteArray
 | _,[]=>[]
 | prev,p :: t=>if isN prev p.f0.f0 = true then heads (some p.f0.f0) t else p.f0.f0 :: heads (some p.f0.f0) t
def prods (l:List Pos):List ByteArray × List (List Pos):=if posCheck l = 0 then (heads none l,(heads none l).map fun n=>sameN n l) else ([],[])
def prevN (l:List Pos) (i:Nat):Option ByteArray:=if i = 0 then none else (l[i - 1]?).map (·.f0.f0)
theorem prevN_succ (l:List Pos) (i:Nat) (hi:i < l.length):prevN l (i + 1) = some l[i].f0.f0:=by simp [prevN,hi]
theorem heads_len:∀ (l:List Pos) (p:Option ByteArray),(heads p l).length ≤ l.length
 | [],_=>by simp [heads]
 | q :: t,p=>by
  unfold heads
  have:=heads_len t (some q.f0.f0)
  split <;> simp <;> omega
theorem sameN_len (n:ByteArray) (l:List Pos):(sameN n l).length ≤ l.length:=List.length_filter_le _ _
theorem sameN_snoc (n:ByteArray) (l:List Pos) (p:Pos):sameN n (l ++ [p]) = if p.f0.f0.toList = n.toList then sameN n l ++ [p] else sameN n l:=by
 unfold sameN
 rw [List.filter_append]
 by_cases h:p.f0.f0.toList = n.toList
 ·rw [if_pos h];simp [h]
 ·rw [if_neg h];simp [h]
def HInv (l:List Pos) (i:Nat) (ns:List ByteArray):Prop:=(i = 0 ∧ ns = []) ∨
 (0 < i ∧ ∃ (ms:List ByteArray) (n:ByteArray),prevN l i = some n ∧ ns = ms ++ [n] ∧ (∀ m ∈ ms,Op.bytesLess m.toList n.toList = true) ∧ ∀ p ∈ l.take i,p.f0.f0.toList = n.toList ∨ Op.bytesLess p.f0.f0.toList n.toList = true)
theorem rdL_last (ps:List (List Pos)) (p:List Pos) (i:Int) (hi:i = (ps.length:Int)):rd_L14 (ps ++ [p]) i = p:=by subst hi;simp [rd_L14]
theorem set_last {α:Type} (ps:List α) (p q:α) (i:Int) (hi:i = (ps.length:Int)):(ps ++ [p]).set i.toNat q = ps ++ [q]:=by subst hi;simp
theorem prodLoop (l:List Pos) (hl:l.length ≤ 128) (hs:∀ (i:Nat) (h:i < l.length) (h0:0 < i),cmpS (l[i - 1]'(by omega)).f0 l[i].f0 < 0):∀ (d i:Nat) (ns:List ByteArray),i + d = l.length → ns.length ≤ i → HInv l i ns →
  Ev (fun k=>scan_Products.l0 k ns (ns.map fun n=>sameN n (l.take i)) l l.length i) (ns ++ heads (prevN l i) (l.drop i),(ns ++ heads (prevN l i) (l.drop i)).map fun n=>sameN n l)
 | 0,i,ns,hd,_,_=>by
  refine Ev_succ ?_
  simp only [scan_Products.l0,if_neg (show ¬ ((i:Int) < (l.length:Int)) by omega)]
  rw [List.drop_of_length_le (by omega),List.take_of_length_le (by omega)]
  simp only [heads,List.append_nil]
  exact Ev.now _
 | d + 1,i,ns,hd,hn,hI=>by
  have hi:i < l.length:=by omega
  have hps:∀ n,(sameN n (l.take i)).length < 2513169434916:=fun n=>by
   have:=sameN_len n (l.take i)
   rw [List.length_take] at this
   omega
  refine Ev_succ ?_
  simp only [scan_Products.l0,if_pos (show (i:Int) < (l.length:Int) by omega),if_pos (show 0 ≤ (i:Int) by omega),rdPos l i hi,w_succ hi (by omega)]

  have fresh:isN (prevN l i) l[i].f0.f0 = false → HInv l (i + 1) (ns ++ [l[i].f0.f0]) → (ns ++ [l[i].f0.f0]).map (fun n=>sameN n (l.take (i + 1))) = ns.map (fun n=>sameN n (l.take i)) ++ [[l[i]]] →
    Ev (fun k=>scan_Products.l0 k (ns ++ [l[i].f0.f0]) (ns.map (fun n=>sameN n (l.take i)) ++ [[l[i]]]) l l.length ((i + 1:Nat):Int)) (ns ++ heads (prevN l i) (l.drop i),(ns ++ heads (prevN l i) (l.drop i)).map fun n=>sameN n l):=by
   intro hf hI2 he
   have ih:=prodLoop l hl hs d (i + 1) (ns ++ [l[i].f0.f0]) (by omega) (by simp;omega) hI2
   rw [he,prevN_succ l i hi] at ih
   rw [drop_cons l i hi]
   simp only [heads,hf,Bool.false_eq_true,if_false]
   simpa using ih
  rcases hI with ⟨h0,rfl⟩|⟨h0,ms,n,hpn,rfl,hms,hle⟩
  ·subst h0
   simp only [List.length_nil,List.map_nil,List.nil_append,if_pos (show (((0:Nat):Int)) = 0 by rfl),if_pos (show (0:Nat) < 8796093022208 by omega),if_pos (show (0:Nat) < 5864062014805 by omega),Option.bind_some,List.length_cons,Nat.zero_add]
   have e0:wrap64 (((1:Nat):Int) - 1) = 0:=by rw [w_id (by omega) (by omega)];omega
   simp only [e0,if_pos (show (0:Int) ≤ 0 by omega),if_pos (show (0:Int) < ((1:Nat):Int) by omega)]
   have e1:rd_L14 ([[]]:List (List Pos)) 0 = []:=rfl
   simp only [e1,List.length_nil,if_pos (show (0:Nat) < 2513169434916 by omega),List.nil_append]
   have:=fresh rfl (Or.inr ⟨by omega,[],l[0].f0.f0,prevN_succ l 0 hi,rfl,by simp,fun p hp=>by
    rw [List.take_succ_eq_append_getElem hi] at hp
    simp at hp
    subst hp
    exact Or.inl rfl⟩) (by
    rw [List.take_succ_eq_append_getElem hi]
    simp [sameN])
   simpa using this
  ·have hlen:(ms ++ [n]).length = ms.length + 1:=by simp
   have en:¬ (((ms ++ [n]).length:Int) = 0):=by rw [hlen];omega
   have hpl:((ms ++ [n]).map (fun n=>sameN n (l.take i))).length = ms.length + 1:=by simp
   have hmsl:ms.length ≤ 128:=by omega
   have e2:wrap64 (((ms ++ [n]).length:Int) - 1) = (ms.length:Int):=by rw [hlen,w_id (by omega) (by omega)];omega
   have e3:rdOf ByteArray.empty (ms ++ [n]) (ms.length:Int) = n:=by rw [rdOf_nat _ _ _ (by simp)];simp
   have hq:=hs i hi h0
   have hq2:(l[i - 1]'(by omega)).f0.f0 = n:=by
    simp only [prevN,if_neg (show i ≠ 0 by omega),List.getElem?_eq_getElem (show i - 1 < l.length by omega),Option.map_some,Option.some.injEq] at hpn
    exact hpn
   simp only [if_neg en,e2,e3,hpl,if_pos (show 0 ≤ (ms.length:Int) by omega),if_pos (show (ms.length:Int) < ((ms ++ [n]).length:Int) by rw [hlen];omega)]
   have hd3:=cmpS_names hq
   rw [hq2] at hd3
   by_cases c:n.toList = l[i].f0.f0.toList
   ·have cn:n = l[i].f0.f0:=ba_ext c
    have e4:wrap64 (((ms.length + 1:Nat):Int) - 1) = (ms.length:Int):=by rw [w_id (by omega) (by omega)];omega
    have e5:rd_L14 ((ms ++ [n]).map fun n=>sameN n (l.take i)) (ms.length:Int) = sameN n (l.take i):=by
     rw [List.map_append,List.map_cons,List.map_nil]
     exact rdL_last _ _ _ (by simp)
    have e6:((ms ++ [n]).map fun n=>sameN n (l.take i)).set ((ms.length:Int)).toNat (sameN n (l.take i) ++ [l[i]]) = (ms ++ [n]).map fun n=>sameN n (l.take (i + 1)):=by
     rw [List.map_append,List.map_cons,List.map_nil,set_last _ _ _ _ (by simp),List.map_append,List.map_cons,List.map_nil,List.take_succ_eq_append_getElem hi,sameN_snoc,if_pos c.symm]
     congr 1
     refine List.map_congr_left fun m hm=>?_
     rw [sameN_snoc,if_neg]
     rw [← c]
     exact fun e=>bl_ne (hms m hm) e.symm
    simp only [if_pos c,e4,if_pos (show 0 ≤ (ms.length:Int) by omega),if_pos (show (ms.length:Int) < ((ms.length + 1:Nat):Int) by omega),e5,if_pos (hps n)]
    have ih:=prodLoop l hl hs d (i + 1) (ms ++ [n]) (by omega) (by omega) (Or.inr ⟨by omega,ms,n,by rw [prevN_succ l i hi,cn],rfl,hms,fun p hp=>by
     rw [List.take_succ_eq_append_getElem hi] at hp
     rcases List.mem_append.1 hp with hp|hp
     ·exact hle p hp
     ·rw [List.mem_singleton.1 hp];exact Or.inl c.symm⟩)
    have e7:isN (prevN l i) l[i].f0.f0 = true:=by rw [hpn];simp [isN,c]
    rw [drop_cons l i hi]
    simp only [heads,e7,if_true]
    rw [prevN_succ l i hi,← e6] at ih
    exact ih
   ·have hlt:Op.bytesLess n.toList l[i].f0.f0.toList = true:=hd3.resolve_left c
    have hall:∀ m ∈ ms ++ [n],Op.bytesLess m.toList l[i].f0.f0.toList = true:=fun m hm=>by
     rcases List.mem_append.1 hm with hm|hm
     ·exact bl_trans _ _ _ (hms m hm) hlt
     ·rw [List.mem_singleton.1 hm];exact hlt
    have hall2:∀ p ∈ l.take i,Op.bytesLess p.f0.f0.toList l[i].f0.f0.toList = true:=fun p hp=>by
     rcases hle p hp with e|e
     ·rw [e];exact hlt
     ·exact bl_trans _ _ _ e hlt
    have e8:wrap64 (((((ms ++ [n]).map (fun n=>sameN n (l.take i))) ++ [([]:List Pos)]).length:Int) - 1) = ((ms.length + 1:Nat):Int):=by
     rw [List.length_append,hpl,w_id (by simp;omega) (by simp;omega)];simp
    have e9:rd_L14 ((ms ++ [n]).map (fun n=>sameN n (l.take i)) ++ [([]:List Pos)]) ((ms.length + 1:Nat):Int) = []:=rdL_last _ _ _ (by simp)
    have e10:((ms ++ [n]).map (fun n=>sameN n (l.take i)) ++ [([]:List Pos)]).set (((ms.length + 1:Nat):Int)).toNat [l[i]] = (ms ++ [n]).map (fun n=>sameN n (l.take i)) ++ [[l[i]]]:=set_last _ _ _ _ (by simp)
    have e11:((ms ++ [n]).length) < 8796093022208:=by omega
    simp only [if_neg c,if_pos e11,if_pos (show ms.length + 1 < 5864062014805 by omega),Option.bind_some,e8,if_pos (show 0 ≤ ((ms.length + 1:Nat):Int) by omega),e9,List.length_nil,if_pos (show (0:Nat) < 2513169434916 by omega),List.nil_append,e10]
    have e12:((ms.length + 1:Nat):Int) < ((((ms ++ [n]).map (fun n=>sameN n (l.take i))) ++ [([]:List Pos)]).length:Int):=by
     rw [List.length_append,hpl];simp;omega
    simp only [if_pos e12]
    refine fresh ?_ ?_ ?_
    ·rw [hpn]
     simp only [isN]
     exact beq_false_of_ne c
    ·refine Or.inr ⟨by omega,ms ++ [n],l[i].f0.f0,prevN_succ l i hi,rfl,hall,fun p hp=>?_⟩
     rw [List.take_succ_eq_append_getElem hi] at hp
     rcases List.mem_append.1 hp with hp|hp
     ·exact Or.inr (hall2 p hp)
     ·rw [List.mem_singleton.1 hp];exact Or.inl rfl
    ·rw [List.take_succ_eq_append_getElem hi,List.map_append,List.map_cons,List.map_nil]
     congr 1
     ·refine List.map_congr_left fun m hm=>?_
      rw [sameN_snoc,if_neg]
      exact fun e=>bl_ne (hall m hm) e.symm
     ·rw [sameN_snoc,if_pos rfl]
      have:sameN l[i].f0.f0 (l.take i) = []:=by
       unfold sameN
       rw [List.filter_eq_nil_iff]
       intro p hp
       simp only [beq_iff_eq]
       exact bl_ne (hall2 p hp)
      rw [this];rfl
theorem prods_f (l:List Pos) (hl:l.length ≤ 4611686018427387904):Ev (fun k=>scan_Products.f k l) (prods l):=by
 unfold scan_Products.f prods
 refine Ev_bind (posCheck_f l hl) ?_
 by_cases h:posCheck l = 0
 ·simp only [if_pos h]
  have:=prodLoop l (posCheck_zero h).1 (posCheck_order h) l.length 0 [] (by omega) (by simp) (Or.inl ⟨rfl,rfl⟩)
  simpa [prevN] using this
 ·simp only [if_neg h]
  exact Ev.now _
end Go.Proofs.Ytbgeceiddcokmaa.P
end
section
namespace Go.Proofs.Ytbgeceiddcokmaa.P
set_option linter.unusedVariables false
set_option linter.unusedSimpArgs false
open Go.RowKit Go.Proofs.YtbgeceiddcokmaaW.PrintWords Go.Proofs.YtbgeceiddcokmaaW.PrintMore Go.Proofs.Ytbgeceiddcokmaa.X
theorem lossesFrom_len (l:List Pos) (o:List Arr):∀ (ss:List Nat) (acc:List Int),(lossesFrom l o acc ss).1.length ≤ acc.length + ss.length ∧ ((lossesFrom l o acc ss).2 ≠ 0 → (lossesFrom l o acc ss).1 = [])
 | [],acc=>by simp [lossesFrom]
 | s :: t,acc=>by
  unfold lossesFrom
  by_cases h:(sumE (termsAt s l o)).2 = 0
  ·rw [if_pos h]
   have:=lossesFrom_len l o t (acc ++ [(sumE (termsAt s l o)).1])
   refine ⟨?_,this.2⟩
   have h1:=this.1
   simp only [List.length_append,List.length_cons,List.length_nil] at h1 ⊢
   omega
  ·rw [if_neg h];simp
theorem losses_small (l:List Pos) (r:List Arr):(losses l r).1.length ≤ 32 ∧ ((losses l r).2 ≠ 0 → (losses l r).1 = []):=by
 unfold losses
 by_cases h:(found l r).2 = 0
 ·rw [if_pos h]
  by_cases h0:r.length = 0
  ·rw [if_pos h0];simp
  ·rw [if_neg h0]
   have:=lossesFrom_len l (found l r).1 (List.range' 0 (scanN r)) []
   have hs:=(found_good h).scen
   refine ⟨?_,this.2⟩
   have h1:=this.1
   simp only [List.length_nil,List.length_range'] at h1
   omega
 ·rw [if_neg h];simp
def riskGo:Int → Int → Nat → List Int → Int × Int
 | m,a,_,[]=>(m,a)
 | m,a,i,x :: t=>if x > m then riskGo x (i:Int) (i + 1) t else riskGo m a (i + 1) t
def risk (l:List Pos) (r:List Arr):Int × Int × Int:=((riskGo 0 0 0 (losses l r).1).1,(riskGo 0 0 0 (losses l r).1).2,(losses l r).2)
theorem riskLoop (v:List Int) (hv:v.length ≤ 4611686018427387904) (e:Int):∀ (d i:Nat) (m a:Int),i + d = v.length → Ev (fun k=>scan_Risk.l0 k m a e v v.length i) ((riskGo m a i (v.drop i)).1,(riskGo m a i (v.drop i)).2,e)
 | 0,i,m,a,hd=>by
  refine Ev_succ ?_
  rw [List.drop_of_length_le (by omega)]
  simp only [scan_Risk.l0,if_neg (show ¬ ((i:Int) < (v.length:Int)) by omega),riskGo]
  exact Ev.now _
 | d + 1,i,m,a,hd=>by
  have hi:i < v.length:=by omega
  rw [drop_cons v i hi]
  refine Ev_succ ?_
  simp only [scan_Risk.l0,if_pos (show (i:Int) < (v.length:Int) by omega),if_pos (show 0 ≤ (i:Int) by omega),rd_nat v i hi,w_succ hi (by omega),riskGo]
  by_cases c:v[i] > m
  ·simp only [if_pos c];exact riskLoop v hv e d (i + 1) _ _ (by omega)
  ·simp only [if_neg c];exact riskLoop v hv e d (i + 1) _ _ (by omega)
theorem risk_f (l:List Pos) (r:List Arr) (hl:l.length ≤ 4611686018427387904) (hr:r.length ≤ 4611686018427387904) (ha:∀ a ∈ r,a.f1.length ≤ 4611686018427387904):Ev (fun k=>scan_Risk.f k l r) (risk l r):=by
 unfold scan_Risk.f risk
 refine Ev_bind (losses_f l r hl hr ha) ?_
 have:=(losses_small l r).1
 exact riskLoop _ (by omega) _ (losses l r).1.length 0 0 0 (by omega)
end Go.Proofs.Ytbgeceiddcokmaa.P
end
section
namespace Go.Proofs.Ytbgeceiddcokmaa.P
set_option linter.unusedVariables false
set_option linter.unusedSimpArgs false
open Go.RowKit Go.Proofs.YtbgeceiddcokmaaW.PrintWords Go.Proofs.YtbgeceiddcokmaaW.PrintMore Go.Proofs.Ytbgeceiddcokmaa.X
theorem mid_w {lo hi:Nat} (h:lo + hi ≤ 9223372036854775807):wrap64 (IntKind.u64.wrap (wrap64 ((lo:Int) + (hi:Int))) / 2) = (((lo + hi) / 2:Nat):Int):=by
 rw [w_id (x:=(lo:Int) + (hi:Int)) (by omega) (by omega)]
 have e:IntKind.u64.wrap ((lo:Int) + (hi:Int)) = (lo:Int) + (hi:Int):=by rw [IntKind.wrap_u64];omega
 rw [e,w_id (by omega) (by omega)]
 omega
end Go.Proofs.Ytbgeceiddcokmaa.P
end
section
namespace Go.Proofs.Ytbgeceiddcokmaa.P
set_option linter.unusedVariables false
set_option linter.unusedSimpArgs false
open Go.RowKit Go.Proofs.YtbgeceiddcokmaaW.PrintWords Go.Proofs.YtbgeceiddcokmaaW.PrintMore Go.Proofs.Ytbgeceiddcokmaa.X
def terms:List Pos → List Arr → List (Int × Int)
 | p :: t,a :: o=>(p.f0.f2,(p.f1 - p.f2) * a.f2) :: terms t o
 | _,_=>[]
def sumAt:List (Int × Int) → Int → Int
 | [],_=>0
 | t :: r,d=>(if t.1 = d then t.2 else 0) + sumAt r d
theorem sumAt_snoc (a:List (Int × Int)) (t:Int × Int) (d:Int):sumAt (a ++ [t]) d = sumAt a d + if t.1 = d then t.2 else 0:=by
 induction a with
 | nil=>simp [sumAt]
 | cons x r ih=>simp only [List.cons_append,sumAt,ih];omega
theorem sumAt_none {a:List (Int × Int)} {d:Int} (h:¬ ∃ t ∈ a,t.1 = d):sumAt a d = 0:=by
 induction a with
 | nil=>rfl
 | cons x r ih =>
  have h1:¬ x.1 = d:=fun e=>h ⟨x,by simp,e⟩
  have h2:¬ ∃ t ∈ r,t.1 = d:=fun ⟨t,ht,e⟩=>h ⟨t,by simp [ht],e⟩
  simp only [sumAt,if_neg h1,ih h2];rfl
theorem sumAt_rng {a:List (Int × Int)} (h:∀ t ∈ a,-1048576000 ≤ t.2 ∧ t.2 ≤ 1048576000) (d:Int):-(1048576000 * (a.length:Int)) ≤ sumAt a d ∧ sumAt a d ≤ 1048576000 * (a.length:Int):=by
 induction a with
 | nil=>simp [sumAt]
 | cons x r ih =>
  have h1:=h x (by simp)
  have h2:=ih fun t ht=>h t (by simp [ht])
  simp only [sumAt,List.length_cons]
  split <;> omega
def AscI (D:List Int):Prop:=D.Pairwise (· < ·)
theorem ascI_lt {D:List Int} (h:AscI D) {i j:Nat} (hij:i < j) (hj:j < D.length):D[i]'(by omega) < D[j]:=(List.pairwise_iff_getElem.1 h) i j (by omega) hj hij
theorem bsI_loop (D:List Int) (p:Int) (hs:AscI D) (hl:D.length ≤ 4611686018427387903):∀ (d lo hi:Nat),lo ≤ hi → hi ≤ D.length → hi - lo ≤ d →
  (∀ i (h:i < D.length),i < lo → D[i] < p) → (∀ i (h:i < D.length),hi ≤ i → p ≤ D[i]) →
  ∃ (q:Nat),q ≤ D.length ∧ Ev (fun k=>slices_BinarySearch_int_int.l0 k D p D.length lo hi) ((q:Int),decide (D[q]? = some p)) ∧ (∀ i (h:i < D.length),i < q → D[i] < p) ∧ (∀ i (h:i < D.length),q ≤ i → p ≤ D[i])
 | d,lo,hi,h1,h2,h3,a,b=>by
  by_cases c:lo < hi
  ·cases d with
   | zero=>omega
   | succ d =>
    have hm:(lo + hi) / 2 < D.length:=by omega
    have step:∀ r,Ev (fun k=>if D[(lo + hi) / 2] < p then slices_BinarySearch_int_int.l0 k D p D.length (((lo + hi) / 2 + 1:Nat):Int) hi else slices_BinarySearch_int_int.l0 k D p D.length lo (((lo + hi) / 2:Nat):Int)) r → Ev (fun k=>slices_BinarySearch_int_int.l0 k D p D.length lo hi) r:=by
     intro r h
     have hless:cmp_Less_int.f D[(lo + hi) / 2] p = some (decide (D[(lo + hi) / 2] < p)):=by
      simp [cmp_Less_int.f,cmp_isNaN_int.f]
     refine Ev_succ ?_
     simp only [slices_BinarySearch_int_int.l0,if_pos (show (lo:Int) < (hi:Int) by omega),mid_w (show lo + hi ≤ 9223372036854775807 by omega),if_pos (show 0 ≤ (((lo + hi) / 2:Nat):Int) by omega),if_pos (show (((lo + hi) / 2:Nat):Int) < (D.length:Int) by omega),rd_nat D _ hm,hless,Option.bind_some,w_succ hm (by omega),decide_eq_true_eq]
     exact h
    by_cases c2:D[(lo + hi) / 2] < p
    ·obtain ⟨q,hq,e,q1,q2⟩:=bsI_loop D p hs hl d ((lo + hi) / 2 + 1) hi (by omega) h2 (by omega) (fun i h hl=>by
      by_cases e:i = (lo + hi) / 2
      ·subst e;exact c2
      ·have:=ascI_lt hs (show i < (lo + hi) / 2 by omega) hm;omega) b
     refine ⟨q,hq,step _ ?_,q1,q2⟩
     simp only [if_pos c2]
     exact e
    ·obtain ⟨q,hq,e,q1,q2⟩:=bsI_loop D p hs hl d lo ((lo + hi) / 2) (by omega) (by omega) (by omega) a (fun i h hl=>by
      by_cases e:i = (lo + hi) / 2
      ·subst e;omega
      ·have:=ascI_lt hs (show (lo + hi) / 2 < i by omega) h;omega)
     refine ⟨q,hq,step _ ?_,q1,q2⟩
     simp only [if_neg c2]
     exact e
  ·have hlo:lo = hi:=by omega
   subst hlo
   refine ⟨lo,h2,Ev_succ ?_,a,b⟩
   simp only [slices_BinarySearch_int_int.l0,if_neg (show ¬ (lo:Int) < (lo:Int) by omega)]
   by_cases hlt:lo < D.length
   ·simp only [if_pos (show (lo:Int) < (D.length:Int) by omega),if_pos (show 0 ≤ (lo:Int) by omega),rd_nat D _ hlt,List.getElem?_eq_getElem hlt,Option.some.injEq]
    by_cases e:D[lo] = p
    ·simp only [if_pos e,decide_eq_true e]
     exact Ev.now _
    ·simp only [if_neg e,decide_eq_false e,slices_isNaN_int.f,bne_self_eq_false,Option.bind_some,Bool.false_eq_true,if_false]
     exact Ev.now _
   ·simp only [if_neg (show ¬ (lo:Int) < (D.length:Int) by omega),List.getElem?_eq_none (show D.length ≤ lo by omega),decide_eq_false (show ¬ (none:Option Int) = some p by simp)]
    exact Ev.now _
theorem bsI_f (D:List Int) (p:Int) (hs:AscI D) (hl:D.length ≤ 4611686018427387903) :
  ∃ (q:Nat),q ≤ D.length ∧ Ev (fun k=>slices_BinarySearch_int_int.f k D p) ((q:Int),decide (D[q]? = some p)) ∧ (∀ i (h:i < D.length),i < q → D[i] < p) ∧ (∀ i (h:i < D.length),q ≤ i → p ≤ D[i]) :=
 bsI_loop D p hs hl D.length 0 D.length (by omega) (by omega) (by omega) (fun i h hl=>by omega) (fun i h hl=>by omega)
structure Told (ts:List (Int × Int)) (D:List Int):Prop where
 asc:AscI D
 mem:∀ x,x ∈ D ↔ ∃ t ∈ ts,t.1 = x
 len:D.length ≤ ts.length
theorem told_hit {ts:List (Int × Int)} {D:List Int} (h:Told ts D) {q:Nat} (hq:q < D.length) (a:Int):Told (ts ++ [(D[q],a)]) D ∧ (D.map (sumAt ts)).set q (sumAt ts D[q] + a) = D.map (sumAt (ts ++ [(D[q],a)])):=by
 refine ⟨⟨h.asc,fun x=>?_,by have:=h.len;simp;omega⟩,?_⟩
 ·rw [h.mem x]
  constructor
  ·rintro ⟨t,ht,e⟩;exact ⟨t,by simp [ht],e⟩
  ·rintro ⟨t,ht,e⟩
   rcases List.mem_append.1 ht with ht|ht
   ·exact ⟨t,ht,e⟩
   ·rw [List.mem_singleton.1 ht] at e
    exact (h.mem x).1 (by rw [← e];exact List.getElem_mem hq)
 ·refine List.ext_getElem (by simp) fun i h1 h2=>?_
  have hi:i < D.length:=by simpa using h2
  rw [List.getElem_set,List.getElem_map,List.getElem_map,sumAt_snoc]
  by_cases e:q = i
  ·subst e;simp
  ·rw [if_neg e,if_neg,Int.add_zero]
   dsimp only
   rcases Nat.lt_or_gt_of_ne e with e|e
   ·have:=ascI_lt h.asc e hi;omega
   ·have:=ascI_lt h.asc e hq;omega
theorem told_new {ts:List (Int × Int)} {D:List Int} (h:Told ts D) {q:Nat} (hq:q ≤ D.length) (p a:Int) (q1:∀ i (h:i < D.length),i < q → D[i] < p) (q2:∀ i (h:i < D.length),q ≤ i → p < D[i]) :
  Told (ts ++ [(p,a)]) (D.take q ++ [p] ++ D.drop q) ∧ ((D.map (sumAt ts)).take q ++ [a] ++ (D.map (sumAt ts)).drop q) = (D.take q ++ [p] ++ D.drop q).map (sumAt (ts ++ [(p,a)])):=by
 have t1:∀ x ∈ D.take q,x < p:=fun x hx=>by
  obtain ⟨i,hi,rfl⟩:=List.getElem_of_mem hx
  rw [List.length_take] at hi
  rw [List.getElem_take]
  exact q1 i (by omega) (by omega)
 have t2:∀ x ∈ D.drop q,p < x:=fun x hx=>by
  obtain ⟨i,hi,rfl⟩:=List.getElem_of_mem hx
  rw [List.length_drop] at hi
  rw [List.getElem_drop]
  exact q2 (q + i) (by omega) (by omega)
 have hD:D.take q ++ D.drop q = D:=List.take_append_drop q D
 have hnot:p ∉ D:=fun hp=>by
  rw [← hD] at hp
  rcases List.mem_append.1 hp with hp|hp
  ·have:=t1 p hp;omega
  ·have:=t2 p hp;omega
 have hmem:∀ x,x ∈ D.take q ++ [p] ++ D.drop q ↔ x = p ∨ x ∈ D:=fun x=>by
  have:x ∈ D ↔ x ∈ D.take q ∨ x ∈ D.drop q:=by rw [← List.mem_append,hD]
  rw [this]
  simp only [List.mem_append,List.mem_singleton]
  constructor
  ·rintro ((h|h)|h) <;> simp [h]
  ·rintro (h|h|h) <;> simp [h]
 have hpz:sumAt ts p = 0:=sumAt_none fun hx=>hnot ((h.mem p).2 hx)
 refine ⟨⟨?_,fun x=>?_,?_⟩,?_⟩
 ·have hp:=h.asc
  unfold AscI at hp ⊢
  rw [← hD,List.pairwise_append] at hp
  obtain ⟨p1,p2,p3⟩:=hp
  rw [List.append_assoc,List.pairwise_append]
  refine ⟨p1,List.pairwise_cons.2 ⟨t2,p2⟩,fun x hx y hy=>?_⟩
  rcases List.mem_cons.1 hy with e|e
  ·rw [e];exact t1 x hx
  ·exact p3 x hx y e
 ·rw [hmem,h.mem]
  constructor
  ·rintro (e|⟨t,ht,e⟩)
   ·exact ⟨(p,a),by simp,e.symm⟩
   ·exact ⟨t,by simp [ht],e⟩
  ·rintro ⟨t,ht,e⟩
   rcases List.mem_append.1 ht with ht|ht
   ·exact Or.inr ⟨t,ht,e⟩
   ·rw [List.mem_singleton.1 ht] at e;exact Or.inl e.symm
 ·have:=h.len
  simp only [List.length_append,List.length_take,List.length_drop,List.length_cons,List.length_nil]
  omega
 ·have key:∀ x ∈ D,sumAt (ts ++ [(p,a)]) x = sumAt ts x:=fun x hx=>by
   rw [sumAt_snoc,if_neg,Int.add_zero]
   intro e
   exact hnot (by rw [show p = x from e];exact hx)
  have hp:sumAt (ts ++ [(p,a)]) p = a:=by rw [sumAt_snoc,if_pos rfl,hpz];omega
  rw [List.map_append,List.map_append,List.map_cons,List.map_nil,hp,← List.map_take,← List.map_drop]
  congr 1
  ·congr 1
   exact List.map_congr_left fun x hx=>(key x (List.mem_of_mem_take hx)).symm
  ·exact List.map_congr_left fun x hx=>(key x (List.mem_of_mem_drop hx)).symm
theorem set_mid {α:Type} (A B:List α) (x y:α) (q:Nat) (h:A.length = q):(A ++ [x] ++ B).set q y = A ++ [y] ++ B:=by
 subst h
 rw [List.append_assoc,List.append_assoc,List.set_append_right _ _ (Nat.le_refl _),Nat.sub_self]
 rfl
theorem get_mid (A B:List Int) (x:Int) (q:Nat) (h:A.length = q):rd (A ++ [x] ++ B) (q:Int) = x:=by
 subst h
 rw [rd_nat _ _ (by simp)]
 rw [List.getElem_append_left (by simp),List.getElem_append_right (Nat.le_refl _)]
 simp
theorem expL0 (l:List Pos) (o:List Arr) (n:Nat) (hg:PGood l o n):∀ (d i:Nat) (ts:List (Int × Int)) (D:List Int),i + d = l.length → ts.length = i → (∀ t ∈ ts,-1048576000 ≤ t.2 ∧ t.2 ≤ 1048576000) → Told ts D →
  ∃ D',Ev (fun k=>scan_Expiries.l0 k D (D.map (sumAt ts)) o l l.length i) (D',D'.map (sumAt (ts ++ terms (l.drop i) (o.drop i))),0) ∧ Told (ts ++ terms (l.drop i) (o.drop i)) D'
 | 0,i,ts,D,hd,hts,hr,ht=>by
  have:=hg.len
  rw [List.drop_of_length_le (by omega),terms,List.append_nil]
  refine ⟨D,Ev_succ ?_,ht⟩
  simp only [scan_Expiries.l0,if_neg (show ¬ ((i:Int) < (l.length:Int)) by omega)]
  exact Ev.now _
  all_goals simp
 | d + 1,i,ts,D,hd,hts,hr,ht=>by
  have hi:i < l.length:=by omega
  have hlen:=hg.len
  have hio:i < o.length:=by omega
  have hf:=hg.few
  have hp:=hg.lots l[i] (List.getElem_mem hi)
  have ha:=hg.arr o[i] (List.getElem_mem hio)
  have b1:=lots_rng hp.1
  have b2:=lots_rng hp.2
  have b3:=deltaBad_rng ha.2.2
  have e1:wrap64 (l[i].f1 - l[i].f2) = l[i].f1 - l[i].f2:=w_id (by omega) (by omega)
  have b4:=mul_rng (A:=1048576) (B:=1000) (a:=l[i].f1 - l[i].f2) (b:=o[i].f2) (by omega) (by omega)
  have e2:wrap64 ((l[i].f1 - l[i].f2) * o[i].f2) = (l[i].f1 - l[i].f2) * o[i].f2:=w_id (by omega) (by omega)
  have hDl:=ht.len
  obtain ⟨q,hq,hb,q1,q2⟩:=bsI_f D l[i].f0.f2 ht.asc (by omega)
  have hr':∀ t ∈ ts ++ [(l[i].f0.f2,(l[i].f1 - l[i].f2) * o[i].f2)],-1048576000 ≤ t.2 ∧ t.2 ≤ 1048576000:=fun t h=>by
   rcases List.mem_append.1 h with h|h
   ·exact hr t h
   ·rw [List.mem_singleton.1 h];dsimp only;omega
  have happ:ts ++ terms (l.drop i) (o.drop i) = (ts ++ [(l[i].f0.f2,(l[i].f1 - l[i].f2) * o[i].f2)]) ++ terms (l.drop (i + 1)) (o.drop (i + 1)):=by
   rw [drop_cons l i hi,drop_cons o i hio,terms,List.append_assoc];rfl
  rw [happ]
  by_cases c:D[q]? = some l[i].f0.f2
  ·obtain ⟨hql,hqe⟩:=List.getElem?_eq_some_iff.1 c
   have hh:=told_hit ht hql ((l[i].f1 - l[i].f2) * o[i].f2)
   rw [hqe] at hh
   have hs:=sumAt_rng hr l[i].f0.f2
   have e3:wrap64 (sumAt ts l[i].f0.f2 + (l[i].f1 - l[i].f2) * o[i].f2) = sumAt ts l[i].f0.f2 + (l[i].f1 - l[i].f2) * o[i].f2:=w_id (by omega) (by omega)
   have hrd:rd (D.map (sumAt ts)) (q:Int) = sumAt ts l[i].f0.f2:=by rw [rd_nat _ _ (by simpa using hql),List.getElem_map,hqe]
   obtain ⟨D',hD',hT'⟩:=expL0 l o n hg d (i + 1) _ D (by omega) (by simp [hts]) hr' hh.1
   refine ⟨D',Ev_succ ?_,hT'⟩
   simp only [scan_Expiries.l0,if_pos (show (i:Int) < (l.length:Int) by omega),if_pos (show 0 ≤ (i:Int) by omega),rdPos l i hi]
   refine Ev_bind hb ?_
   simp only [decide_eq_true c,if_true,if_pos (show 0 ≤ (q:Int) by omega),List.length_map,if_pos (show (q:Int) < (D.length:Int) by omega),if_pos (show (i:Int) < (o.length:Int) by omega),rdArr o i hio,e1,e2,hrd,e3,Int.toNat_natCast,w_succ hi (by omega),hh.2]
   exact hD'
  ·have q2':∀ j (h:j < D.length),q ≤ j → l[i].f0.f2 < D[j]:=fun j h hj=>by
    have h1:=q2 j h hj
    have h2:D[j] ≠ l[i].f0.f2:=fun e=>by
     by_cases e2:j = q
     ·subst e2;exact c (by rw [List.getElem?_eq_getElem h,e])
     ·have:=ascI_lt ht.asc (show q < j by omega) h
      have:=q2 q (by omega) (Nat.le_refl _)
      omega
    omega
   have hh:=told_new ht hq l[i].f0.f2 ((l[i].f1 - l[i].f2) * o[i].f2) q1 q2'
   obtain ⟨D',hD',hT'⟩:=expL0 l o n hg d (i + 1) _ _ (by omega) (by simp [hts]) hr' hh.1
   refine ⟨D',Ev_succ ?_,hT'⟩
   have hins1:slices_Insert_int_int.f D (q:Int) [l[i].f0.f2] = some (D.take q ++ [l[i].f0.f2] ++ D.drop q):=by
    unfold slices_Insert_int_int.f
    rw [if_pos ⟨by omega,by omega,by omega,rfl⟩,Int.toNat_natCast]
   have hins2:slices_Insert_int_int.f (D.map (sumAt ts)) (q:Int) [0] = some ((D.map (sumAt ts)).take q ++ [0] ++ (D.map (sumAt ts)).drop q):=by
    unfold slices_Insert_int_int.f
    rw [if_pos ⟨by omega,by rw [List.length_map];omega,by rw [List.length_map];omega,rfl⟩,Int.toNat_natCast]
   have htk:((D.map (sumAt ts)).take q).length = q:=by rw [List.length_take,List.length_map];omega
   have hlen2:((D.map (sumAt ts)).take q ++ [0] ++ (D.map (sumAt ts)).drop q).length = D.length + 1:=by
    simp only [List.length_append,List.length_take,List.length_drop,List.length_map,List.length_cons,List.length_nil];omega
   have e4:wrap64 (0 + (l[i].f1 - l[i].f2) * o[i].f2) = (l[i].f1 - l[i].f2) * o[i].f2:=by rw [Int.zero_add];exact e2
   simp only [scan_Expiries.l0,if_pos (show (i:Int) < (l.length:Int) by omega),if_pos (show 0 ≤ (i:Int) by omega),rdPos l i hi]
   refine Ev_bind hb ?_
   simp only [decide_eq_false c,Bool.false_eq_true,if_false,hins1,hins2,Option.bind_some,hlen2,if_pos (show 0 ≤ (q:Int) by omega),if_pos (show (q:Int) < ((D.length + 1:Nat):Int) by omega),if_pos (show (i:Int) < (o.length:Int) by omega),rdArr o i hio,get_mid _ _ _ q htk,e1,e2,e4,Int.toNat_natCast,set_mid _ _ _ _ q htk,w_succ hi (by omega),hh.2]
   exact hD'
def toldOf (l:List Pos) (r:List Arr) (D:List Int):List Int × List Int × Int:=if (found l r).2 = 0 then (D,D.map (sumAt (terms l (found l r).1)),0) else ([],[],(found l r).2)
theorem expiries_f (l:List Pos) (r:List Arr) (hl:l.length ≤ 4611686018427387904) (hr:r.length ≤ 4611686018427387904) (ha:∀ a ∈ r,a.f1.length ≤ 4611686018427387904) :
  ∃ D,Ev (fun k=>scan_Expiries.f k l r) (toldOf l r D) ∧ ((found l r).2 = 0 → Told (terms l (found l r).1) D):=by
 unfold scan_Expiries.f toldOf
 by_cases h:(found l r).2 = 0
 ·obtain ⟨D,hD,hT⟩:=expL0 l _ _ (found_good h) l.length 0 [] [] (by omega) rfl (by simp) ⟨by unfold AscI;simp,by simp,by simp⟩
  rw [List.drop_zero,List.drop_zero,List.nil_append] at hT hD
  refine ⟨D,Ev_bind (found_f l r hl hr ha) ?_,fun _=>hT⟩
  simp only [if_pos h]
  exact hD
 ·refine ⟨[],Ev_bind (found_f l r hl hr ha) ?_,fun e=>absurd e h⟩
  simp only [if_neg h]
  exact Ev.now _
end Go.Proofs.Ytbgeceiddcokmaa.P
end
section
namespace Go.Proofs.Ytbgeceiddcokmaa.P
set_option linter.unusedVariables false
set_option linter.unusedSimpArgs false
open Go.RowKit Go.Proofs.YtbgeceiddcokmaaW.PrintWords Go.Proofs.YtbgeceiddcokmaaW.PrintMore Go.Proofs.Ytbgeceiddcokmaa.X
theorem terms_len:∀ (a:List Pos) (b:List Arr),(terms a b).length ≤ a.length
 | [],_=>by simp [terms]
 | p :: t,[]=>by simp [terms]
 | p :: t,x :: y=>by have:=terms_len t y;simp only [terms,List.length_cons];omega
end Go.Proofs.Ytbgeceiddcokmaa.P
end
section
namespace Go.Proofs.Ytbgeceiddcokmaa.P
set_option linter.unusedVariables false
set_option linter.unusedSimpArgs false
open Go.RowKit Go.Proofs.YtbgeceiddcokmaaW.PrintWords Go.Proofs.YtbgeceiddcokmaaW.PrintMore Go.Proofs.Ytbgeceiddcokmaa.X
theorem lossesFrom_fits (l:List Pos) (o:List Arr):∀ (ss:List Nat) (acc:List Int),(∀ x ∈ acc,fits x = true) → ∀ x ∈ (lossesFrom l o acc ss).1,fits x = true
 | [],acc,h,x,hx=>h x hx
 | s :: t,acc,h,x,hx=>by
  unfold lossesFrom at hx
  by_cases h1:(sumE (termsAt s l o)).2 = 0
  ·rw [if_pos h1] at hx
   refine lossesFrom_fits l o t _ (fun y hy=>?_) x hx
   rcases List.mem_append.1 hy with hy|hy
   ·exact h y hy
   ·rw [List.mem_singleton.1 hy]
    unfold sumE fitting at h1 ⊢
    by_cases h2:(termsAt s l o).all fits = true
    ·rw [if_pos h2] at h1 ⊢
     by_cases h3:fits (termsAt s l o).sum = true
     ·rw [if_pos h3];exact h3
     ·rw [if_neg h3] at h1;simp at h1
    ·rw [if_neg h2] at h1;simp at h1
  ·rw [if_neg h1] at hx;simp at hx
theorem losses_fits (l:List Pos) (r:List Arr):∀ x ∈ (losses l r).1,fits x = true:=by
 intro x hx
 unfold losses at hx
 by_cases h:(found l r).2 = 0
 ·rw [if_pos h] at hx
  by_cases h0:r.length = 0
  ·rw [if_pos h0] at hx;simp at hx
  ·rw [if_neg h0] at hx;exact lossesFrom_fits _ _ _ [] (by simp) x hx
 ·rw [if_neg h] at hx;simp at hx
theorem losses_found {l:List Pos} {r:List Arr} (h:(losses l r).2 = 0):(found l r).2 = 0:=by
 unfold losses at h
 by_cases h1:(found l r).2 = 0
 ·exact h1
 ·rw [if_neg h1] at h;exact h
theorem deltaOf_rng (l:List Pos) (o:List Arr):∀ (n:Nat),PGood l o n → -(1048576000 * (l.length:Int)) ≤ deltaOf l o ∧ deltaOf l o ≤ 1048576000 * (l.length:Int):=by
 induction l generalizing o with
 | nil=>intro n _;cases o <;> simp [deltaOf]
 | cons p t ih =>
  intro n hg
  cases o with
  | nil=>simp only [deltaOf,List.length_cons];omega
  | cons a o =>
   have g2:PGood t o n:=⟨by have:=hg.len;simpa using this,by have:=hg.few;simp at this;omega,fun q hq=>hg.lots q (by simp [hq]),fun q hq=>hg.arr q (by simp [hq]),hg.scen⟩
   have:=ih o n g2
   have b1:=lots_rng (hg.lots p (by simp)).1
   have b2:=lots_rng (hg.lots p (by simp)).2
   have b3:=deltaBad_rng (hg.arr a (by simp)).2.2
   have b4:=mul_rng (A:=1048576) (B:=1000) (a:=p.f1 - p.f2) (b:=a.f2) (by omega) (by omega)
   simp only [deltaOf,List.length_cons]
   omega
end Go.Proofs.Ytbgeceiddcokmaa.P
end
section
namespace Go.Proofs.Ytbgeceiddcokmaa.P
set_option linter.unusedVariables false
set_option linter.unusedSimpArgs false
open Go.RowKit Go.Proofs.YtbgeceiddcokmaaW.PrintWords Go.Proofs.YtbgeceiddcokmaaW.PrintMore Go.Proofs.Ytbgeceiddcokmaa.X
theorem sum_zero {κ:Type} (H:List κ) (f:κ → Int) (h:∀ n ∈ H,f n = 0):(H.map f).sum = 0:=by
 induction H with
 | nil=>rfl
 | cons x t ih=>rw [List.map_cons,List.sum_cons,h x (by simp),ih fun n hn=>h n (by simp [hn])];rfl
theorem sum_pick {κ:Type} (e:κ → Bool) (v:Int):∀ (H:List κ),H.Pairwise (fun a b=>¬ (e a = true ∧ e b = true)) → (∃ n ∈ H,e n = true) → (H.map fun n=>if e n = true then v else 0).sum = v
 | [],_,h=>by obtain ⟨n,hn,_⟩:=h;simp at hn
 | x :: t,hp,h=>by
  obtain ⟨h1,h2⟩:=List.pairwise_cons.1 hp
  rw [List.map_cons,List.sum_cons]
  by_cases c:e x = true
  ·rw [if_pos c,sum_zero t _ fun n hn=>if_neg fun e2=>h1 n hn ⟨c,e2⟩];omega
  ·rw [if_neg c]
   obtain ⟨n,hn,e2⟩:=h
   rcases List.mem_cons.1 hn with e3|e3
   ·rw [e3] at e2;exact absurd e2 c
   ·rw [sum_pick e v t h2 ⟨n,e3,e2⟩];omega
theorem sum_plus {κ:Type} (H:List κ) (f g:κ → Int):(H.map fun n=>f n + g n).sum = (H.map f).sum + (H.map g).sum:=by
 induction H with
 | nil=>rfl
 | cons x t ih=>simp only [List.map_cons,List.sum_cons,ih];omega
theorem sum_le {κ:Type} (H:List κ) (f g:κ → Int) (h:∀ n ∈ H,f n ≤ g n):(H.map f).sum ≤ (H.map g).sum:=by
 induction H with
 | nil=>exact Int.le_refl _
 | cons x t ih =>
  have h1:=h x (by simp)
  have h2:=ih fun n hn=>h n (by simp [hn])
  simp only [List.map_cons,List.sum_cons];omega
theorem parts_sum {κ β:Type} (H:List κ) (m:κ → β → Bool) (g:β → Int):∀ (z:List β),(∀ b ∈ z,(∃ n ∈ H,m n b = true) ∧ H.Pairwise (fun a c=>¬ (m a b = true ∧ m c b = true))) → (H.map fun n=>((z.filter (m n)).map g).sum).sum = (z.map g).sum
 | [],_=>by simp only [List.filter_nil,List.map_nil,List.sum_nil];exact sum_zero _ _ fun _ _=>rfl
 | b :: z,h=>by
  obtain ⟨h1,h2⟩:=h b (by simp)
  have ih:=parts_sum H m g z fun c hc=>h c (by simp [hc])
  have e:(fun n=>(((b :: z).filter (m n)).map g).sum) = fun n=>(if m n b = true then g b else 0) + ((z.filter (m n)).map g).sum:=by
   funext n
   by_cases c:m n b = true
   ·rw [List.filter_cons_of_pos c,if_pos c,List.map_cons,List.sum_cons]
   ·rw [List.filter_cons_of_neg c,if_neg c,Int.zero_add]
  rw [e,sum_plus,sum_pick (fun n=>m n b) (g b) H h2 h1,ih,List.map_cons,List.sum_cons]
def SortedN:Option ByteArray → List Pos → Prop
 | _,[]=>True
 | prev,p :: t=>(∀ q,prev = some q → q.toList = p.f0.f0.toList ∨ Op.bytesLess q.toList p.f0.f0.toList = true) ∧ SortedN (some p.f0.f0) t
theorem sortedN_of (l:List Pos) (hs:∀ (i:Nat) (h:i < l.length) (h0:0 < i),cmpS (l[i - 1]'(by omega)).f0 l[i].f0 < 0):∀ (d i:Nat),i + d = l.length → SortedN (prevN l i) (l.drop i)
 | 0,i,h=>by rw [List.drop_of_length_le (by omega)];trivial
 | d + 1,i,h=>by
  have hi:i < l.length:=by omega
  rw [drop_cons l i hi]
  refine ⟨fun q hq=>?_,by rw [← prevN_succ l i hi];exact sortedN_of l hs d (i + 1) (by omega)⟩
  by_cases h0:i = 0
  ·subst h0;simp [prevN] at hq
  ·have hq2:(l[i - 1]'(by omega)).f0.f0 = q:=by
    simp only [prevN,if_neg h0,List.getElem?_eq_getElem (show i - 1 < l.length by omega),Option.map_some,Option.some.injEq] at hq
    exact hq
   rw [← hq2]
   exact cmpS_names (hs i hi (by omega))
theorem heads_facts:∀ (l:List Pos) (prev:Option ByteArray),SortedN prev l →
  (∀ n ∈ heads prev l,∀ q,prev = some q → Op.bytesLess q.toList n.toList = true) ∧ (heads prev l).Pairwise (fun a b=>Op.bytesLess a.toList b.toList = true) ∧ ∀ p ∈ l,(∃ q,prev = some q ∧ q.toList = p.f0.f0.toList) ∨ ∃ n ∈ heads prev l,n.toList = p.f0.f0.toList
 | [],prev,_=>by simp [heads]
 | p :: t,prev,hs=>by
  obtain ⟨h1,h2⟩:=hs
  obtain ⟨a1,a2,a3⟩:=heads_facts t _ h2
  by_cases c:isN prev p.f0.f0 = true
  ·have e:heads prev (p :: t) = heads (some p.f0.f0) t:=by rw [heads,if_pos c]
   rw [e]
   have hpq:∃ q,prev = some q ∧ q.toList = p.f0.f0.toList:=by
    cases prev with
    | none=>simp [isN] at c
    | some q=>exact ⟨q,rfl,by simpa [isN] using c⟩
   obtain ⟨q,hq,hqe⟩:=hpq
   refine ⟨fun n hn q' hq'=>?_,a2,fun p' hp'=>?_⟩
   ·rw [hq] at hq'
    obtain rfl:=Option.some.inj hq'
    rw [hqe];exact a1 n hn _ rfl
   ·rcases List.mem_cons.1 hp' with e2|e2
    ·rw [e2];exact Or.inl ⟨q,hq,hqe⟩
    ·rcases a3 p' e2 with ⟨q',hq',e3⟩|h
     ·obtain rfl:=Option.some.inj hq'
      exact Or.inl ⟨q,hq,hqe.trans e3⟩
     ·exact Or.inr h
  ·have e:heads prev (p :: t) = p.f0.f0 :: heads (some p.f0.f0) t:=by rw [heads,if_neg c]
   rw [e]
   refine ⟨fun n hn q hq=>?_,List.pairwise_cons.2 ⟨fun n hn=>a1 n hn _ rfl,a2⟩,fun p' hp'=>?_⟩
   ·have hlt:Op.bytesLess q.toList p.f0.f0.toList = true:=by
     refine (h1 q hq).resolve_left fun e2=>c ?_
     rw [hq];simp [isN,e2]
    rcases List.mem_cons.1 hn with e2|e2
    ·rw [e2];exact hlt
    ·exact bl_trans _ _ _ hlt (a1 n e2 _ rfl)
   ·rcases List.mem_cons.1 hp' with e2|e2
    ·rw [e2];exact Or.inr ⟨p.f0.f0,by simp,rfl⟩
    ·rcases a3 p' e2 with ⟨q',hq',e3⟩|⟨n,hn,e3⟩
     ·obtain rfl:=Option.some.inj hq'
      exact Or.inr ⟨p.f0.f0,by simp,e3⟩
     ·exact Or.inr ⟨n,by simp [hn],e3⟩
theorem cmpS_lt (a b:Ser):cmpS a b < 0 ↔ (a.f0.toList = b.f0.toList ∧ (a.f2 < b.f2 ∨ a.f2 = b.f2 ∧ (a.f1 < b.f1 ∨ a.f1 = b.f1 ∧ a.f3 < b.f3))) ∨ Op.bytesLess a.f0.toList b.f0.toList = true:=by
 unfold cmpS
 by_cases h0:a.f0.toList = b.f0.toList
 ·rw [if_pos h0,h0,bl_self]
  simp only [true_and,Bool.false_eq_true,or_false]
  by_cases h2:a.f2 = b.f2
  ·rw [if_pos h2]
   by_cases h1:a.f1 = b.f1
   ·rw [if_pos h1];unfold cmpI;split
    ·omega
    ·split <;> omega
   ·rw [if_neg h1];unfold cmpI;split
    ·omega
    ·split <;> omega
  ·rw [if_neg h2];unfold cmpI;split
   ·omega
   ·split <;> omega
 ·rw [if_neg h0]
  unfold cmpB
  constructor
  ·intro h
   right
   by_cases h1:Op.bytesLess a.f0.toList b.f0.toList = true
   ·exact h1
   ·rw [if_neg h1] at h
    split at h <;> omega
  ·rintro (⟨h,_⟩|h)
   ·exact absurd h h0
   ·rw [if_pos h];omega
theorem cmpS_trans {a b c:Ser} (h1:cmpS a b < 0) (h2:cmpS b c < 0):cmpS a c < 0:=by
 rw [cmpS_lt] at h1 h2 ⊢
 rcases h1 with ⟨e1,h1⟩|h1
 ·rcases h2 with ⟨e2,h2⟩|h2
  ·exact Or.inl ⟨e1.trans e2,by omega⟩
  ·exact Or.inr (by rw [e1];exact h2)
 ·rcases h2 with ⟨e2,h2⟩|h2
  ·exact Or.inr (by rw [← e2];exact h1)
  ·exact Or.inr (bl_trans _ _ _ h1 h2)
theorem posGo_iff:∀ (l:List Pos) (prev:Option Ser),posGo prev l = 0 ↔ (∀ p ∈ l,posBad p = false) ∧ l.Pairwise (fun a b=>cmpS a.f0 b.f0 < 0) ∧ ∀ q,prev = some q → ∀ p ∈ l,cmpS q p.f0 < 0
 | [],prev=>by simp [posGo]
 | p :: t,prev=>by
  unfold posGo
  constructor
  ·intro h
   by_cases h1:behind prev p.f0 = true
   ·rw [if_pos h1] at h;omega
   ·rw [if_neg h1] at h
    by_cases h2:posBad p = true
    ·rw [if_pos h2] at h;omega
    ·rw [if_neg h2] at h
     obtain ⟨a1,a2,a3⟩:=(posGo_iff t _).1 h
     refine ⟨fun q hq=>?_,List.pairwise_cons.2 ⟨fun q hq=>a3 _ rfl q hq,a2⟩,fun q hq p' hp'=>?_⟩
     ·rcases List.mem_cons.1 hq with e|e
      ·rw [e];simpa using h2
      ·exact a1 q e
     ·have hlt:cmpS q p.f0 < 0:=by
       rw [hq] at h1
       simp only [behind,decide_eq_true_eq] at h1
       omega
      rcases List.mem_cons.1 hp' with e|e
      ·rw [e];exact hlt
      ·exact cmpS_trans hlt (a3 _ rfl p' e)
  ·rintro ⟨a1,a2,a3⟩
   obtain ⟨b1,b2⟩:=List.pairwise_cons.1 a2
   rw [if_neg,if_neg]
   ·exact (posGo_iff t _).2 ⟨fun q hq=>a1 q (by simp [hq]),b2,fun q hq p' hp'=>by obtain rfl:=Option.some.inj hq;exact b1 p' hp'⟩
   ·rw [a1 p (by simp)];decide
   ·cases prev with
    | none=>simp [behind]
    | some q =>
     have:=a3 q rfl p (by simp)
     simp only [behind,decide_eq_true_eq];omega
theorem posCheck_part {l:List Pos} (h:posCheck l = 0) (n:ByteArray):posCheck (sameN n l) = 0:=by
 have hl:=(posCheck_zero h).1
 unfold posCheck at h ⊢
 have:=sameN_len n l
 rw [if_neg (by omega)] at h ⊢
 obtain ⟨a1,a2,_⟩:=(posGo_iff l none).1 h
 exact (posGo_iff _ none).2 ⟨fun p hp=>a1 p ((List.mem_filter.1 hp).1),a2.sublist List.filter_sublist,fun q hq=>by cases hq⟩
def isOf (n:ByteArray) (z:Pos × Arr):Bool:=z.1.f0.f0.toList == n.toList
theorem zip_part (n:ByteArray) (r:List Arr):∀ (l:List Pos) (o:List Arr),ownA r l = some o → sameN n l = ((l.zip o).filter (isOf n)).map (·.1) ∧ ownA r (sameN n l) = some (((l.zip o).filter (isOf n)).map (·.2))
 | [],o,h=>by
  simp only [ownA,Option.some.injEq] at h
  subst h
  simp [sameN,ownA]
 | p :: t,o,h=>by
  simp only [ownA,Option.bind_eq_some_iff,Option.map_eq_some_iff] at h
  obtain ⟨a,ha,o',ho,rfl⟩:=h
  obtain ⟨i1,i2⟩:=zip_part n r t o' ho
  unfold sameN at i1 i2 ⊢
  rw [List.zip_cons_cons]
  by_cases c:(p.f0.f0.toList == n.toList) = true
  ·have c':isOf n (p,a) = true:=c
   simp only [List.filter_cons,c,c',if_true,List.map_cons]
   refine ⟨by rw [← i1],?_⟩
   simp only [ownA,ha,Option.bind_some,i2,Option.map_some]
  ·have c':¬ isOf n (p,a) = true:=c
   simp only [List.filter_cons,if_neg c,if_neg c']
   exact ⟨i1,i2⟩
theorem found_part {l:List Pos} {r:List Arr} (h:(found l r).2 = 0) (n:ByteArray):found (sameN n l) r = (((l.zip (found l r).1).filter (isOf n)).map (·.2),0):=by
 obtain ⟨h1,ho⟩:=found_zero h
 obtain ⟨hs,hp⟩:=both_zero h1
 have hb:both (sameN n l) r = 0:=by unfold both;rw [if_pos hs];exact posCheck_part hp n
 have:=(zip_part n r l _ ho).2
 rw [found,if_pos hb,this]
 rfl
theorem terms_zip (s:Nat):∀ (z:List (Pos × Arr)),termsAt s (z.map (·.1)) (z.map (·.2)) = z.map fun q=>(q.1.f1 - q.1.f2) * q.2.f1.getD s 0
 | []=>rfl
 | q :: t=>by simp only [List.map_cons,termsAt,terms_zip s t]
theorem delta_zip:∀ (z:List (Pos × Arr)),deltaOf (z.map (·.1)) (z.map (·.2)) = (z.map fun q=>(q.1.f1 - q.1.f2) * q.2.f2).sum
 | []=>rfl
 | q :: t=>by simp only [List.map_cons,deltaOf,delta_zip t,List.sum_cons]
theorem zip_fst:∀ (l:List Pos) (o:List Arr),o.length = l.length → (l.zip o).map (·.1) = l ∧ (l.zip o).map (·.2) = o
 | [],o,h=>by
  have:o = []:=List.eq_nil_of_length_eq_zero (by simpa using h)
  subst this;exact ⟨rfl,rfl⟩
 | p :: t,[],h=>by simp at h
 | p :: t,a :: o,h=>by
  obtain ⟨i1,i2⟩:=zip_fst t o (by simpa using h)
  simp only [List.zip_cons_cons,List.map_cons,i1,i2]
  exact ⟨trivial,trivial⟩
theorem by_parts {l:List Pos} {r:List Arr} (h:(found l r).2 = 0) (g:Pos × Arr → Int) :
  ((heads none l).map fun n=>(((l.zip (found l r).1).filter (isOf n)).map g).sum).sum = ((l.zip (found l r).1).map g).sum:=by
 obtain ⟨h1,ho⟩:=found_zero h
 obtain ⟨hs,hp⟩:=both_zero h1
 have hsn:=sortedN_of l (posCheck_order hp) l.length 0 (by omega)
 rw [List.drop_zero] at hsn
 obtain ⟨_,f2,f3⟩:=heads_facts l none hsn
 refine parts_sum _ isOf g _ fun b hb=>⟨?_,?_⟩
 ·have hbl:b.1 ∈ l:=by
   have:=(zip_fst l _ (found_good h).len).1
   rw [← this]
   exact List.mem_map_of_mem hb
  rcases f3 b.1 hbl with ⟨q,hq,_⟩|⟨n,hn,e⟩
  ·cases hq
  ·exact ⟨n,hn,by simp [isOf,e]⟩
 ·refine f2.imp fun {a c} hac hmm=>?_
  simp only [isOf,beq_iff_eq] at hmm
  exact bl_ne hac (hmm.1.symm.trans hmm.2)
theorem riskGo_facts:∀ (v:List Int) (m a:Int) (i:Nat),m ≤ (riskGo m a i v).1 ∧ (∀ x ∈ v,x ≤ (riskGo m a i v).1) ∧ ((riskGo m a i v).1 = m ∨ (riskGo m a i v).1 ∈ v)
 | [],m,a,i=>by simp [riskGo]
 | x :: t,m,a,i=>by
  unfold riskGo
  by_cases c:x > m
  ·rw [if_pos c]
   obtain ⟨h1,h2,h3⟩:=riskGo_facts t x i (i + 1)
   refine ⟨by omega,fun y hy=>?_,?_⟩
   ·rcases List.mem_cons.1 hy with e|e
    ·rw [e];exact h1
    ·exact h2 y e
   ·rcases h3 with h3|h3
    ·right;rw [h3];simp
    ·right;simp [h3]
  ·rw [if_neg c]
   obtain ⟨h1,h2,h3⟩:=riskGo_facts t m a (i + 1)
   refine ⟨h1,fun y hy=>?_,?_⟩
   ·rcases List.mem_cons.1 hy with e|e
    ·rw [e];omega
    ·exact h2 y e
   ·rcases h3 with h3|h3
    ·exact Or.inl h3
    ·right;simp [h3]
theorem sumE_ok {l:List Int} (h:(sumE l).2 = 0):l.all fits = true ∧ (sumE l).1 = l.sum:=by
 unfold sumE fitting at h ⊢
 by_cases h1:l.all fits = true
 ·rw [if_pos h1] at h ⊢
  by_cases h2:fits l.sum = true
  ·rw [if_pos h2];exact ⟨h1,rfl⟩
  ·rw [if_neg h2] at h;simp at h
 ·rw [if_neg h1] at h;simp at h
theorem sumE_over {l:List Int} (h:l.all fits = true):(sumE l).2 = 0 ∨ (sumE l).2 = 3:=by
 unfold sumE fitting
 rw [if_pos h]
 by_cases h2:fits l.sum = true
 ·rw [if_pos h2];exact Or.inl rfl
 ·rw [if_neg h2];exact Or.inr rfl
theorem lossesFrom_ok (l:List Pos) (o:List Arr):∀ (ss:List Nat) (acc:List Int),(lossesFrom l o acc ss).2 = 0 → (lossesFrom l o acc ss).1 = acc ++ ss.map (fun s=>(termsAt s l o).sum) ∧ ∀ s ∈ ss,(termsAt s l o).all fits = true
 | [],acc,_=>by simp [lossesFrom]
 | s :: t,acc,h=>by
  unfold lossesFrom at h ⊢
  by_cases h1:(sumE (termsAt s l o)).2 = 0
  ·rw [if_pos h1] at h ⊢
   obtain ⟨a1,a2⟩:=lossesFrom_ok l o t _ h
   obtain ⟨b1,b2⟩:=sumE_ok h1
   refine ⟨by rw [a1,b2];simp,fun s' hs'=>?_⟩
   rcases List.mem_cons.1 hs' with e|e
   ·rw [e];exact b1
   ·exact a2 s' e
  ·rw [if_neg h1] at h;exact absurd h h1
theorem lossesFrom_over (l:List Pos) (o:List Arr):∀ (ss:List Nat) (acc:List Int),(∀ s ∈ ss,(termsAt s l o).all fits = true) → (lossesFrom l o acc ss).2 = 0 ∨ (lossesFrom l o acc ss).2 = 3
 | [],acc,_=>Or.inl rfl
 | s :: t,acc,h=>by
  unfold lossesFrom
  by_cases h1:(sumE (termsAt s l o)).2 = 0
  ·rw [if_pos h1];exact lossesFrom_over l o t _ fun s' hs'=>h s' (by simp [hs'])
  ·rw [if_neg h1];exact Or.inr ((sumE_over (h s (by simp))).resolve_left h1)
theorem losses_all {l:List Pos} {r:List Arr} (h:(found l r).2 = 0):losses l r = lossesFrom l (found l r).1 [] (List.range' 0 (scanN r)):=by
 unfold losses
 rw [if_pos h]
 by_cases h0:r.length = 0
 ·rw [if_pos h0]
  have:r = []:=List.eq_nil_of_length_eq_zero h0
  subst this;rfl
 ·rw [if_neg h0]
theorem risk_rng (l:List Pos) (r:List Arr):0 ≤ (risk l r).1 ∧ (risk l r).1 ≤ 1152921504606846976:=by
 obtain ⟨h1,_,h3⟩:=riskGo_facts (losses l r).1 0 0 0
 refine ⟨h1,?_⟩
 show (riskGo 0 0 0 (losses l r).1).1 ≤ _
 rcases h3 with h3|h3
 ·omega
 ·exact ((fits_iff _).1 (losses_fits l r _ h3)).2
theorem part_risk {l:List Pos} {r:List Arr} (h:(losses l r).2 = 0) (n:ByteArray):(losses (sameN n l) r).2 = 0 ∨ (losses (sameN n l) r).2 = 3:=by
 have hf:=losses_found h
 have ho:=(found_zero hf).2
 rw [losses_all hf] at h
 obtain ⟨_,h2⟩:=lossesFrom_ok _ _ _ _ h
 have hfp:(found (sameN n l) r).2 = 0:=by rw [found_part hf n]
 rw [losses_all hfp]
 refine lossesFrom_over _ _ _ _ fun s hs=>?_
 rw [found_part hf n,(zip_part n r l _ ho).1,terms_zip]
 have h3:=h2 s hs
 obtain ⟨z1,z2⟩:=zip_fst l _ (found_good hf).len
 rw [← terms_zip] at *
 have h4:termsAt s l (found l r).1 = (l.zip (found l r).1).map fun q=>(q.1.f1 - q.1.f2) * q.2.f1.getD s 0:=by
  have:=terms_zip s (l.zip (found l r).1)
  rw [z1,z2] at this
  exact this
 rw [h4,List.all_map,List.all_eq_true] at h3
 rw [terms_zip,List.all_map,List.all_eq_true]
 exact fun q hq=>h3 q ((List.mem_filter.1 hq).1)
theorem risk_parts {l:List Pos} {r:List Arr} (h:(losses l r).2 = 0) (hp:∀ n ∈ heads none l,(losses (sameN n l) r).2 = 0):(risk l r).1 ≤ ((heads none l).map fun n=>(risk (sameN n l) r).1).sum:=by
 have hf:=losses_found h
 have ho:=(found_zero hf).2
 have hz:0 ≤ ((heads none l).map fun n=>(risk (sameN n l) r).1).sum:=by
  have:=sum_le (heads none l) (fun _=>0) (fun n=>(risk (sameN n l) r).1) fun n _=>(risk_rng _ _).1
  rw [sum_zero _ _ fun _ _=>rfl] at this
  exact this
 obtain ⟨_,_,h3⟩:=riskGo_facts (losses l r).1 0 0 0
 show (riskGo 0 0 0 (losses l r).1).1 ≤ _
 rcases h3 with h3|h3
 ·omega
 ·generalize (riskGo 0 0 0 (losses l r).1).1 = x at h3 ⊢
  rw [losses_all hf] at h h3
  obtain ⟨h1,_⟩:=lossesFrom_ok _ _ _ _ h
  rw [h1,List.nil_append] at h3
  obtain ⟨s,hs,rfl⟩:=List.mem_map.1 h3
  obtain ⟨z1,z2⟩:=zip_fst l _ (found_good hf).len
  have h4:termsAt s l (found l r).1 = (l.zip (found l r).1).map fun q=>(q.1.f1 - q.1.f2) * q.2.f1.getD s 0:=by
   have:=terms_zip s (l.zip (found l r).1)
   rw [z1,z2] at this
   exact this
  rw [h4,← by_parts hf]
  refine sum_le _ _ _ fun n hn=>?_
  have hfp:(found (sameN n l) r).2 = 0:=by rw [found_part hf n]
  obtain ⟨_,g2,_⟩:=riskGo_facts (losses (sameN n l) r).1 0 0 0
  refine g2 _ ?_
  have hpn:=hp n hn
  rw [losses_all hfp] at hpn ⊢
  obtain ⟨k1,_⟩:=lossesFrom_ok _ _ _ _ hpn
  rw [k1,List.nil_append]
  refine List.mem_map.2 ⟨s,hs,?_⟩
  try dsimp only
  rw [found_part hf n,(zip_part n r l _ ho).1,terms_zip]
theorem delta_parts {l:List Pos} {r:List Arr} (h:(found l r).2 = 0):((heads none l).map fun n=>(delta (sameN n l) r).1).sum = (delta l r).1 ∧ ∀ n,(delta (sameN n l) r).2 = 0:=by
 have ho:=(found_zero h).2
 obtain ⟨z1,z2⟩:=zip_fst l _ (found_good h).len
 have hn:∀ n,delta (sameN n l) r = ((((l.zip (found l r).1).filter (isOf n)).map fun q=>(q.1.f1 - q.1.f2) * q.2.f2).sum,0):=fun n=>by
  have hfp:(found (sameN n l) r).2 = 0:=by rw [found_part h n]
  unfold delta
  rw [if_pos hfp,found_part h n,(zip_part n r l _ ho).1,delta_zip]
 refine ⟨?_,fun n=>by rw [hn n]⟩
 have e:(fun n=>(delta (sameN n l) r).1) = fun n=>(((l.zip (found l r).1).filter (isOf n)).map fun q=>(q.1.f1 - q.1.f2) * q.2.f2).sum:=by
  funext n;rw [hn n]
 rw [e,by_parts h]
 have:=delta_zip (l.zip (found l r).1)
 rw [z1,z2] at this
 unfold delta
 rw [if_pos h,this]
theorem len_sum {α:Type}:∀ (l:List α),(l.map fun _=>(1:Int)).sum = (l.length:Int)
 | []=>rfl
 | x :: t=>by rw [List.map_cons,List.sum_cons,len_sum t,List.length_cons];omega
theorem len_parts {l:List Pos} {r:List Arr} (h:(found l r).2 = 0):((heads none l).map fun n=>((sameN n l).length:Int)).sum = (l.length:Int):=by
 have ho:=(found_zero h).2
 have e:(fun n=>((sameN n l).length:Int)) = fun n=>(((l.zip (found l r).1).filter (isOf n)).map fun _=>(1:Int)).sum:=by
  funext n
  rw [len_sum,(zip_part n r l _ ho).1,List.length_map]
 rw [e,by_parts h,len_sum,List.length_zip,(found_good h).len,Nat.min_self]
theorem terms_sum:∀ (l:List Pos) (o:List Arr),((terms l o).map (·.2)).sum = deltaOf l o
 | [],_=>by simp [terms,deltaOf]
 | p :: t,[]=>by simp [terms,deltaOf]
 | p :: t,a :: o=>by simp only [terms,List.map_cons,List.sum_cons,terms_sum t o,deltaOf]
theorem days_sum (D:List Int) (hD:AscI D):∀ (ts:List (Int × Int)),(∀ t ∈ ts,t.1 ∈ D) → (D.map (sumAt ts)).sum = (ts.map (·.2)).sum
 | [],_=>by rw [List.map_nil,List.sum_nil];exact sum_zero _ _ fun _ _=>rfl
 | t :: r,h=>by
  have ih:=days_sum D hD r fun x hx=>h x (by simp [hx])
  have e:sumAt (t :: r) = fun d=>(if decide (t.1 = d) = true then t.2 else 0) + sumAt r d:=by
   funext d;simp only [sumAt,decide_eq_true_eq]
  rw [e,sum_plus,sum_pick (fun d=>decide (t.1 = d)) t.2 D ?_ ⟨t.1,h t (by simp),by simp⟩,ih,List.map_cons,List.sum_cons]
  refine hD.imp fun {a c} hac hmm=>?_
  simp only [decide_eq_true_eq] at hmm
  omega
theorem terms_rng:∀ (l:List Pos) (o:List Arr) (n:Nat),PGood l o n → ∀ t ∈ terms l o,-1048576000 ≤ t.2 ∧ t.2 ≤ 1048576000
 | [],_,n,_,t,h=>by simp [terms] at h
 | p :: l,[],n,_,t,h=>by simp [terms] at h
 | p :: l,a :: o,n,hg,t,h=>by
  have g2:PGood l o n:=⟨by have:=hg.len;simpa using this,by have:=hg.few;simp at this;omega,fun q hq=>hg.lots q (by simp [hq]),fun q hq=>hg.arr q (by simp [hq]),hg.scen⟩
  have b1:=lots_rng (hg.lots p (by simp)).1
  have b2:=lots_rng (hg.lots p (by simp)).2
  have b3:=deltaBad_rng (hg.arr a (by simp)).2.2
  have b4:=mul_rng (A:=1048576) (B:=1000) (a:=p.f1 - p.f2) (b:=a.f2) (by omega) (by omega)
  rcases List.mem_cons.1 h with e|e
  ·rw [e];dsimp only;omega
  ·exact terms_rng l o n g2 t e
end Go.Proofs.Ytbgeceiddcokmaa.P
end
section
namespace Go.Proofs.Ytbgeceiddcokmaa.P
open Go.RowKit Go.Proofs.YtbgeceiddcokmaaW.PrintWords Go.Proofs.YtbgeceiddcokmaaW.PrintMore Go.Proofs.Ytbgeceiddcokmaa.X
theorem goes23:Ev (fun k=>contangolaw23_goes.f k) true:=Ev.of (k:=40) (contangolaw23_goes.mono) (by decide +kernel)
end Go.Proofs.Ytbgeceiddcokmaa.P
end
section
namespace Go.Proofs.Ytbgeceiddcokmaa.Pure
set_option linter.unusedVariables false
set_option linter.unusedSimpArgs false
open Go.RowKit Go.Proofs.YtbgeceiddcokmaaW.PrintWords Go.Proofs.YtbgeceiddcokmaaW.PrintMore Go.Proofs.Ytbgeceiddcokmaa.X Go.Proofs.Ytbgeceiddcokmaa.P
theorem daysLoop (l:List Pos) (x5 x8 x12 x14:Int) (D E:List Int) (hD:AscI D) (hE:E.length = D.length) (hl:D.length ≤ 128) (hb:∀ x ∈ E,-134217728000 ≤ x ∧ x ≤ 134217728000) (h12:x12 ≥ x5) (hs:E.sum = x8) (h14:x14 = (l.length:Int)) :
    ∀ (d i:Nat) (x24:Int),i + d = D.length → x24 + (E.drop i).sum = E.sum → -(134217728000 * (i:Int)) ≤ x24 → x24 ≤ 134217728000 * (i:Int) →
    Ev (fun k=>contangolaw23_ScanParts.l1 k l x5 x8 x12 x8 x14 D E 0 x24 (E.length:Int) i) true
  | 0,i,x24,hd,hx,h1,h2=>by
    rw [List.drop_of_length_le (by omega),List.sum_nil] at hx
    refine Ev_succ ?_
    simp only [contangolaw23_ScanParts.l1,if_neg (show ¬ ((i:Int) < (E.length:Int)) by omega),if_true,if_pos (show (D.length:Int) = (E.length:Int) by omega),if_pos h12,if_pos (show x24 = x8 by omega),if_pos h14]
    exact Ev_id goes23
  | d + 1,i,x24,hd,hx,h1,h2=>by
    have hi:i < D.length:=by omega
    have hiE:i < E.length:=by omega
    have hbi:=hb _ (List.getElem_mem hiE)
    rw [drop_cons E i hiE,List.sum_cons] at hx
    have e1:wrap64 (x24 + E[i]) = x24 + E[i]:=w_id (by omega) (by omega)
    have ih:=daysLoop l x5 x8 x12 x14 D E hD hE hl hb h12 hs h14 d (i + 1) (x24 + E[i]) (by omega) (by omega) (by omega) (by omega)
    refine Ev_succ ?_
    simp only [contangolaw23_ScanParts.l1,if_pos (show (i:Int) < (E.length:Int) by omega),if_pos (show 0 ≤ (i:Int) by omega),rd_nat E i hiE,e1,w_succ hi (by omega)]
    by_cases h0:i = 0
    · subst h0
      simp only [if_neg (show ¬ (((0:Nat):Int) > 0) by omega)]
      exact ih
    · have hp:=w_pred (show 0 < i by omega) (by omega)
      have hlt:=ascI_lt hD (show i - 1 < i by omega) hi
      simp only [if_pos (show ((i:Int) > 0) by omega),if_pos (show (i:Int) < (D.length:Int) by omega),hp,if_pos (show 0 ≤ ((i - 1:Nat):Int) by omega),if_pos (show ((i - 1:Nat):Int) < (D.length:Int) by omega),rd_nat D i hi,rd_nat D (i - 1) (by omega),if_neg (show ¬ (D[i] ≤ D[i - 1]) by omega)]
      exact ih
theorem partsLoop (l:List Pos) (r:List Arr) (bl:l.length ≤ 4611686018427387904) (br:r.length ≤ 4611686018427387904) (bra:∀ a ∈ r,a.f1.length ≤ 4611686018427387904) (h:(losses l r).2 = 0) :
    ∀ (d i:Nat) (x12 x13 x14:Int),i + d = (heads none l).length → 0 ≤ x12 → x12 ≤ 2305843009213693952 → ((((heads none l).take i).map fun n=>(risk (sameN n l) r).1).sum ≤ x12 ∨ x12 = 2305843009213693952) → (∀ n ∈ (heads none l).take i,(losses (sameN n l) r).2 = 0) →
    x13 + (((heads none l).drop i).map fun n=>(delta (sameN n l) r).1).sum = (delta l r).1 → -(134217728000 * (i:Int)) ≤ x13 → x13 ≤ 134217728000 * (i:Int) →
    x14 + (((heads none l).drop i).map fun n=>((sameN n l).length:Int)).sum = (l.length:Int) → 0 ≤ x14 → x14 ≤ 128 * (i:Int) →
    Ev (fun k=>contangolaw23_ScanParts.l0 k l r (risk l r).1 (delta l r).1 ((heads none l).map fun n=>sameN n l) x12 x13 x14 (((heads none l).map fun n=>sameN n l).length:Int) i) true
  | 0,i,x12,x13,x14,hd,a1,a2,a3,a4,b1,b2,b3,c1,c2,c3=>by
    have hf:=losses_found h
    have hg:=found_good hf
    have hfew:=hg.few
    rw [List.drop_of_length_le (by omega),List.map_nil,List.sum_nil,Int.add_zero] at b1 c1
    rw [List.take_of_length_le (by omega)] at a3 a4
    obtain ⟨D,hD,hT⟩:=expiries_f l r bl br bra
    have ht:=hT hf
    have htl:=terms_len l (found l r).1
    have hDl:=ht.len
    have hrp:=risk_parts h a4
    have hrr:=(risk_rng l r).2
    refine Ev_succ ?_
    simp only [contangolaw23_ScanParts.l0,List.length_map,if_neg (show ¬ ((i:Int) < ((heads none l).length:Int)) by omega)]
    refine Ev_bind hD ?_
    unfold toldOf
    rw [if_pos hf]
    dsimp only
    have hrng:∀ t ∈ terms l (found l r).1,-1048576000 ≤ t.2 ∧ t.2 ≤ 1048576000:=terms_rng l _ _ hg
    have hsum:(D.map (sumAt (terms l (found l r).1))).sum = (delta l r).1:=by
      rw [days_sum D ht.asc _ fun t h=>(ht.mem _).2 ⟨t,h,rfl⟩,terms_sum]
      unfold delta
      rw [if_pos hf]
    rw [b1]
    refine daysLoop l _ _ _ _ D _ ht.asc (by simp) (by omega) (fun x hx=>?_) (by omega) hsum (by omega) D.length 0 0 (by omega) (by simp) (by simp) (by simp)
    obtain ⟨d,_,rfl⟩:=List.mem_map.1 hx
    have:=sumAt_rng hrng d
    omega
  | d + 1,i,x12,x13,x14,hd,a1,a2,a3,a4,b1,b2,b3,c1,c2,c3=>by
    have hf:=losses_found h
    have hg:=found_good hf
    have hfew:=hg.few
    have hil:i < (heads none l).length:=by omega
    have hhl:=heads_len l none
    obtain ⟨n,hn⟩:∃ n,n = (heads none l)[i]:=⟨_,rfl⟩
    have hpl:=sameN_len n l
    have hrd:rd_L14 ((heads none l).map fun n=>sameN n l) (i:Int) = sameN n l:=by
      rw [hn];simp [rd_L14,hil]
    rw [drop_cons _ i hil,List.map_cons,List.sum_cons,← hn] at b1 c1
    have hdp:=(delta_parts hf).2 n
    have hfp:(found (sameN n l) r).2 = 0:=by rw [found_part hf n]
    have hdr:=deltaOf_rng (sameN n l) _ _ (found_good hfp)
    have hde:(delta (sameN n l) r).1 = deltaOf (sameN n l) (found (sameN n l) r).1:=by unfold delta;rw [if_pos hfp]
    rw [← hde] at hdr
    have hrr:=risk_rng (sameN n l) r
    have e2:wrap64 (x13 + (delta (sameN n l) r).1) = x13 + (delta (sameN n l) r).1:=w_id (by omega) (by omega)
    have e3:wrap64 (x14 + ((sameN n l).length:Int)) = x14 + ((sameN n l).length:Int):=w_id (by omega) (by omega)
    have e1:wrap64 (x12 + (risk (sameN n l) r).1) = x12 + (risk (sameN n l) r).1:=w_id (by omega) (by omega)
    refine Ev_succ ?_
    simp only [contangolaw23_ScanParts.l0,List.length_map,if_pos (show (i:Int) < ((heads none l).length:Int) by omega),if_pos (show 0 ≤ (i:Int) by omega),hrd]
    refine Ev_bind (risk_f (sameN n l) r (by omega) br bra) ?_
    refine Ev_bind (delta_f (sameN n l) r (by omega) br bra) ?_
    rcases part_risk h n with hp|hp
    · have hp':(risk (sameN n l) r).2.2 = 0:=hp
      have ih:=partsLoop l r bl br bra h d (i + 1) (mn (x12 + (risk (sameN n l) r).1) 2305843009213693952) (x13 + (delta (sameN n l) r).1) (x14 + ((sameN n l).length:Int)) (by omega) (by unfold mn;split <;> omega) (by unfold mn;split <;> omega) (by
        rw [List.take_succ_eq_append_getElem hil,List.map_append,List.sum_append,← hn,List.map_cons,List.map_nil,List.sum_cons,List.sum_nil]
        unfold mn
        split <;> omega) (fun m hm=>by
        rw [List.take_succ_eq_append_getElem hil,← hn] at hm
        rcases List.mem_append.1 hm with hm|hm
        · exact a4 m hm
        · rw [List.mem_singleton.1 hm];exact hp) (by omega) (by omega) (by omega) (by omega) (by omega) (by omega)
      rw [List.length_map] at ih
      simp only [if_pos hp',if_pos hdp,e1,e2,e3,w_succ hil (by omega)]
      exact ih
    · have hp':(risk (sameN n l) r).2.2 = 3:=hp
      simp only [if_neg (show ¬ (risk (sameN n l) r).2.2 = 0 by omega),if_pos hp']
      exact Ev_id goes23
theorem ScanParts:∀ (l0:List (S73)) (l1:List (S91)),(l0.length ≤ maxLen ∧ l0.length * 56 ≤ 140737488351232 ∧ ∀ x ∈ l0,ok73 x) → (l1.length ≤ maxLen ∧ l1.length * 72 ≤ 140737488351232 ∧ ∀ x ∈ l1,ok91 x) → ∃ k,X.contangolaw23_ScanParts.f k l0 l1 = some true:=by
  intro l r hl hr
  apply Ev.rounds
  have bl:l.length ≤ 4611686018427387904:=by omega
  have br:r.length ≤ 4611686018427387904:=by omega
  have bra:∀ a ∈ r,a.f1.length ≤ 4611686018427387904:=by
    intro a har
    have:=(hr.2.2 a har).2.1.2.1
    omega
  unfold contangolaw23_ScanParts.f
  obtain ⟨b,hb,hfew⟩:=few_f l r br
  refine Ev_bind hb ?_
  cases b with
  | false=>simp only [Bool.false_eq_true,if_false];exact Ev_id goes23
  | true =>
    simp only [if_true]
    refine Ev_bind (risk_f l r bl br bra) ?_
    refine Ev_bind (delta_f l r bl br bra) ?_
    by_cases h:(losses l r).2 = 0
    · have hf:=losses_found h
      have hd2:(delta l r).2 = 0:=by unfold delta;rw [if_pos hf]
      have hr2:(risk l r).2.2 = 0:=h
      have hpc:=(both_zero (found_zero hf).1).2
      have hprods:(prods l).2 = (heads none l).map fun n=>sameN n l:=by unfold prods;rw [if_pos hpc]
      simp only [if_pos hr2,hd2,bne_self_eq_false]
      refine Ev_succ ?_
      simp only [contangolaw23_ScanParts.j0,Bool.false_eq_true,if_false]
      refine Ev_bind (prods_f l bl) ?_
      rw [hprods]
      exact partsLoop l r bl br bra h (heads none l).length 0 0 0 0 (by omega) (by omega) (by omega) (Or.inl (by simp)) (by simp) (by rw [List.drop_zero,(delta_parts hf).1];omega) (by simp) (by simp) (by rw [List.drop_zero,len_parts hf];omega) (by omega) (by simp)
    · have hr2:¬ (risk l r).2.2 = 0:=h
      have h5:(risk l r).1 = 0:=by
        unfold risk
        rw [(losses_small l r).2 h];rfl
      simp only [if_neg hr2]
      refine Ev_succ ?_
      simp only [contangolaw23_ScanParts.j0,if_true,if_pos h5]
      by_cases hd:(delta l r).1 = 0
      · simp only [if_pos hd];exact Ev_id goes23
      · have hd2:(delta l r).2 = 0:=by
          unfold delta at hd ⊢
          by_cases hf:(found l r).2 = 0
          · rw [if_pos hf]
          · rw [if_neg hf] at hd;exact absurd rfl hd
        simp only [if_neg hd,if_pos hd2]
        exact Ev_id goes23
end Go.Proofs.Ytbgeceiddcokmaa.Pure
end
