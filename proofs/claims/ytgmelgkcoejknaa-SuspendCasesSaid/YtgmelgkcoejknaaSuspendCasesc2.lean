/- For SuspendCases: contracts, and facts on lists and numbers, that it uses (part 2). -/
import Derived.Test.YtgmelgkcoejknaaSuspendCasesc1
section
namespace Go.Proofs.Ytgmelgkcoejknaa.X
open Go.RowKit Go.Proofs.YtgmelgkcoejknaaW.PrintWords Go.Proofs.YtgmelgkcoejknaaW.PrintLast Go.Proofs.YtgmelgkcoejknaaW.PrintMore
attribute [local go_sem] max2_int min2_int max_two min_two max_three min_three max_four min_four
set_option linter.unusedVariables false
set_option linter.unusedSimpArgs false
mutual
def contangolaw41_same.l0:Nat → List (S37) → List (S41) → Int → Option (Bool)
 | 0,_,_,_=>none
 | k + 1,x0,x1,x5=>if x5 < (x0.length:Int) then (contangolaw41_same.j1 k x0 x1 x5 (decide (x5 < (x1.length:Int)))) else (contangolaw41_same.j1 k x0 x1 x5 false)
def contangolaw41_same.j1:Nat → List (S37) → List (S41) → Int → Bool → Option (Bool)
 | 0,_,_,_,_=>none
 | k + 1,x0,x1,x5,x15=>if x15 = true then (if 0 ≤ x5 then (if x5 < (x0.length:Int) then (if x5 < (x1.length:Int) then (if ((rd_T37 x0 x5).f0).toList = ((rd_T41 x1 x5).f0).toList then (if ((rd_T37 x0 x5).f1) = ((rd_T41 x1 x5).f1) then (if ((rd_T37 x0 x5).f2) = ((rd_T41 x1 x5).f2) then (contangolaw41_same.l0 k x0 x1 (wrap64 (x5 + 1))) else (some false)) else (some false)) else (some false)) else (none)) else (none)) else (none)) else (some ((x0.length:Int) == (x1.length:Int)))
end
def contangolaw41_same.f (k:Nat) (l0:List (S37)) (l1:List (S41)):Option (Bool):=contangolaw41_same.l0 k l0 l1 0
theorem contangolaw41_same.mono_l:∀ k,(∀ y0 y1 y2,LeO (contangolaw41_same.l0 k y0 y1 y2) (contangolaw41_same.l0 (k + 1) y0 y1 y2)) ∧ (∀ y0 y1 y2 y3,LeO (contangolaw41_same.j1 k y0 y1 y2 y3) (contangolaw41_same.j1 (k + 1) y0 y1 y2 y3))
 | 0=>⟨fun _ _ _ r h=>by simp [contangolaw41_same.l0] at h,fun _ _ _ _ r h=>by simp [contangolaw41_same.j1] at h⟩
 | k + 1=>by
  obtain ⟨ih0,ih1⟩:=contangolaw41_same.mono_l k
  refine ⟨?_,?_⟩
  ·intro y0 y1 y2
   unfold contangolaw41_same.l0
   repeat' first
   | (with_reducible exact ih0 _ _ _)
   | (with_reducible exact ih1 _ _ _ _)
   | (with_reducible exact LeO.refl _)
   | (with_reducible exact LeO.none _)
   | (with_reducible refine LeO.ite ?_ ?_)
   | (with_reducible refine LeO.bind ?_ (fun _=>?_))
   | exact ih0 _ _ _
   | exact ih1 _ _ _ _
   | exact LeO.none _
   | refine LeO.ite ?_ ?_
   | refine LeO.bind ?_ (fun _=>?_)
  ·intro y0 y1 y2 y3
   unfold contangolaw41_same.j1
   repeat' first
   | (with_reducible exact ih0 _ _ _)
   | (with_reducible exact ih1 _ _ _ _)
   | (with_reducible exact LeO.refl _)
   | (with_reducible exact LeO.none _)
   | (with_reducible refine LeO.ite ?_ ?_)
   | (with_reducible refine LeO.bind ?_ (fun _=>?_))
   | exact ih0 _ _ _
   | exact ih1 _ _ _ _
   | exact LeO.none _
   | refine LeO.ite ?_ ?_
   | refine LeO.bind ?_ (fun _=>?_)
theorem contangolaw41_same.mono:∀ a0 a1 k,LeO (contangolaw41_same.f k a0 a1) (contangolaw41_same.f (k + 1) a0 a1):=by
 intro a0 a1 k
 obtain ⟨ih0,ih1⟩:=contangolaw41_same.mono_l k
 unfold contangolaw41_same.f
 repeat' first
   | (with_reducible exact ih0 _ _ _)
   | (with_reducible exact ih1 _ _ _ _)
   | (with_reducible exact LeO.refl _)
   | (with_reducible exact LeO.none _)
   | (with_reducible refine LeO.ite ?_ ?_)
   | (with_reducible refine LeO.bind ?_ (fun _=>?_))
   | exact ih0 _ _ _
   | exact ih1 _ _ _ _
   | exact LeO.none _
   | refine LeO.ite ?_ ?_
   | refine LeO.bind ?_ (fun _=>?_)
set_option maxHeartbeats 8000000 in
set_option maxRecDepth 100000 in
theorem contangolaw41_same.calls (k:Nat) (A0:Option Addr) (c0:Nat) (l0:List (S37)) (A1:Option Addr) (c1:Nat) (l1:List (S41)) (r:Bool) (w:World) (hr0:Kd.C k37 w A0 l0.length l0) (hc0:l0.length ≤ c0) (hr1:Kd.C k41 w A1 l1.length l1) (hc1:l1.length ≤ c1) (h:contangolaw41_same.f k l0 l1 = some r) :
  Calls Try.prog 10 #[.slice A0 l0.length c0,.slice A1 l1.length c1] w fun e w'=>e = .returned (.bool r) ∧ Drawn0 w w':=by
 have HR0:=Aside0.mk hr0
 have HC0:=Aside0.mk hc0
 clear hr0 hc0
 have HR1:=Aside0.mk hr1
 have HC1:=Aside0.mk hc1
 clear hr1 hc1
 have H:(contangolaw41_same.l0 k l0 l1 0) = some r:=h
 clear h
 have H':=Aside0.mk H
 clear H
 go_enter Try.func10,Try.ntmps10
 go_wp2
 repeat (go_quiet (fail);try go_wp2)
 go_loopg [5] k (fun kq v5 w'=>∃ (x5_1:Int),v5 = .int .i64 x5_1 ∧ Aside0 (contangolaw41_same.l0 kq l0 l1 x5_1 = some r) ∧ Aside0 (kq ≤ k) ∧ Drawn0 w w')
 case atStart=>exact ⟨(0),(by first|rfl|(simp;done)|(simp [*];done)),H',⟨Nat.le_refl _⟩,by repeat (first|exact Drawn0.refl _|apply Drawn0.step)⟩
 case round =>
  clear H'
  try clear c1
  try clear p2
  obtain ⟨x5_1,rfl,HA,HK1,⟨m1,rfl⟩⟩:=hrel
  cases gk with
  | zero=>exact absurd HA.out (by simp [contangolaw41_same.l0])
  | succ k1 =>
   have H:=HA.out
   clear HA
   simp only [contangolaw41_same.l0] at H
   have HC3:=Aside0.mk H
   clear H
   go_upto_region 2 with (fail)
   repeat (go_quiet (fail);go_upto_region 2 with (fail))
   go_cut [15] (fun v15 wc=>∃ (kq:Nat) (x15_2:Bool),v15 = .bool x15_2 ∧ Aside0 (contangolaw41_same.j1 kq l0 l1 x5_1 x15_2 = some r) ∧ Aside0 (kq ≤ k1) ∧ Drawn0 w wc)
   case first =>
    have H:=HC3.out
    clear HC3
    by_cases c4:x5_1 < (l0.length:Int)
    ·rw [if_pos c4] at H
     have c4b0:decide (x5_1 < (l0.length:Int)) = true:=decide_eq_true c4
     clear c4
     (first|rw [c4b0]|(simp only [i64_w,i32_w];rw [c4b0])|skip)
     have H':=Aside0.mk H
     clear H
     go_wp2
     repeat (go_quiet (fail);try go_wp2)
     go_meet
     case rel=>exact ⟨_,(decide (x5_1 < (l1.length:Int))),(by first|rfl|(simp;done)|(simp [*];done)),H',⟨by have:=HK1.out;first|omega|exact Nat.le_refl _⟩,by repeat (first|exact Drawn0.refl _|apply Drawn0.step)⟩
    ·rw [if_neg c4] at H
     have c4b0:decide (x5_1 < (l0.length:Int)) = false:=decide_eq_false c4
     clear c4
     (first|rw [c4b0]|(simp only [i64_w,i32_w];rw [c4b0])|skip)
     have H':=Aside0.mk H
     clear H
     go_wp2
     repeat (go_quiet (fail);try go_wp2)
     go_meet
     case rel=>exact ⟨_,(false),(by first|rfl|(simp;done)|(simp [*];done)),H',⟨by have:=HK1.out;first|omega|exact Nat.le_refl _⟩,by repeat (first|exact Drawn0.refl _|apply Drawn0.step)⟩
   case rest =>
    clear HC3
    try clear c1
    try clear p2
    try clear c4
    try clear c4b0
    try clear p2
    obtain ⟨kq,x15_2,rfl,HA,HJ2,⟨mc2,rfl⟩⟩:=hcut
    cases kq with
    | zero=>exact absurd HA.out (by simp [contangolaw41_same.j1])
    | succ kj2 =>
     have H:=HA.out
     clear HA
     simp only [contangolaw41_same.j1] at H
     by_cases c5:x15_2 = true
     ·subst c5
      have H1:(if 0 ≤ x5_1 then (if x5_1 < (l0.length:Int) then (if x5_1 < (l1.length:Int) then (if ((rd_T37 l0 x5_1).f0).toList = ((rd_T41 l1 x5_1).f0).toList then (if ((rd_T37 l0 x5_1).f1) = ((rd_T41 l1 x5_1).f1) then (if ((rd_T37 l0 x5_1).f2) = ((rd_T41 l1 x5_1).f2) then (contangolaw41_same.l0 kj2 l0 l1 (wrap64 (x5_1 + 1))) else (some false)) else (some false)) else (some false)) else (none)) else (none)) else (none)) = some r:=by rw [if_pos rfl] at H;exact H
      clear H
      have H:=H1
      clear H1
      by_cases c6:0 ≤ x5_1
      ·rw [if_pos c6] at H
       have c6b0:decide (0 ≤ x5_1) = true:=decide_eq_true c6
       clear c6
       by_cases c7:x5_1 < (l0.length:Int)
       ·rw [if_pos c7] at H
        have c7b0:decide (x5_1 < (l0.length:Int)) = true:=decide_eq_true c7
        clear c7
        by_cases c8:x5_1 < (l1.length:Int)
        ·rw [if_pos c8] at H
         have c8b0:decide (x5_1 < (l1.length:Int)) = true:=decide_eq_true c8
         clear c8
         by_cases c9:((rd_T37 l0 x5_1).f0).toList = ((rd_T41 l1 x5_1).f0).toList
         ·rw [if_pos c9] at H
          have c9b0:(((rd_T37 l0 x5_1).f0).toList == ((rd_T41 l1 x5_1).f0).toList) = true:=beq_iff_eq.mpr c9
          have c9b1:(((rd_T37 l0 x5_1).f0).toList != ((rd_T41 l1 x5_1).f0).toList) = false:=bne_eq_false_iff_eq.mpr c9
          clear c9
          by_cases c10:((rd_T37 l0 x5_1).f1) = ((rd_T41 l1 x5_1).f1)
          ·rw [if_pos c10] at H
           have c10b0:(((rd_T37 l0 x5_1).f1) == ((rd_T41 l1 x5_1).f1)) = true:=beq_iff_eq.mpr c10
           have c10b1:(((rd_T37 l0 x5_1).f1) != ((rd_T41 l1 x5_1).f1)) = false:=bne_eq_false_iff_eq.mpr c10
           clear c10
           by_cases c11:((rd_T37 l0 x5_1).f2) = ((rd_T41 l1 x5_1).f2)
           ·rw [if_pos c11] at H
            have c11b0:(((rd_T37 l0 x5_1).f2) == ((rd_T41 l1 x5_1).f2)) = true:=beq_iff_eq.mpr c11
            have c11b1:(((rd_T37 l0 x5_1).f2) != ((rd_T41 l1 x5_1).f2)) = false:=bne_eq_false_iff_eq.mpr c11
            clear c11
            have H':=Aside0.mk H
            clear H
            have p101:0 ≤ (x5_1:Int):=of_decide_eq_true (by first|(with_reducible assumption)|assumption)
            have q101:x5_1 < (l0.length:Int):=of_decide_eq_true (by first|(with_reducible assumption)|assumption)
            obtain ⟨ad101,e101,hx101_0,hx101_1,hx101_2⟩:=at_T37 HR0.out x5_1 p101 q101
            cases e101
            replace p101:=eq_true p101
            replace q101:=eq_true q101
            have p102:0 ≤ (x5_1:Int):=of_decide_eq_true (by first|(with_reducible assumption)|assumption)
            have q102:x5_1 < (l1.length:Int):=of_decide_eq_true (by first|(with_reducible assumption)|assumption)
            obtain ⟨ad102,e102,hx102_0,hx102_1,hx102_2⟩:=at_T41 HR1.out x5_1 p102 q102
            cases e102
            replace p102:=eq_true p102
            replace q102:=eq_true q102
            have p103:0 ≤ (x5_1:Int):=of_decide_eq_true (by first|(with_reducible assumption)|assumption)
            have q103:x5_1 < (l0.length:Int):=of_decide_eq_true (by first|(with_reducible assumption)|assumption)
            obtain ⟨ad103,e103,hx103_0,hx103_1,hx103_2⟩:=at_T37 HR0.out x5_1 p103 q103
            obtain rfl:ad101 = ad103:=(by injection e103)
            replace p103:=eq_true p103
            replace q103:=eq_true q103
            have p104:0 ≤ (x5_1:Int):=of_decide_eq_true (by first|(with_reducible assumption)|assumption)
            have q104:x5_1 < (l1.length:Int):=of_decide_eq_true (by first|(with_reducible assumption)|assumption)
            obtain ⟨ad104,e104,hx104_0,hx104_1,hx104_2⟩:=at_T41 HR1.out x5_1 p104 q104
            obtain rfl:ad102 = ad104:=(by injection e104)
            replace p104:=eq_true p104
            replace q104:=eq_true q104
            have p105:0 ≤ (x5_1:Int):=of_decide_eq_true (by first|(with_reducible assumption)|assumption)
            have q105:x5_1 < (l0.length:Int):=of_decide_eq_true (by first|(with_reducible assumption)|assumption)
            obtain ⟨ad105,e105,hx105_0,hx105_1,hx105_2⟩:=at_T37 HR0.out x5_1 p105 q105
            obtain rfl:ad101 = ad105:=(by injection e105)
            replace p105:=eq_true p105
            replace q105:=eq_true q105
            have p106:0 ≤ (x5_1:Int):=of_decide_eq_true (by first|(with_reducible assumption)|assumption)
            have q106:x5_1 < (l1.length:Int):=of_decide_eq_true (by first|(with_reducible assumption)|assumption)
            obtain ⟨ad106,e106,hx106_0,hx106_1,hx106_2⟩:=at_T41 HR1.out x5_1 p106 q106
            obtain rfl:ad102 = ad106:=(by injection e106)
            replace p106:=eq_true p106
            replace q106:=eq_true q106
            go_wp2
            repeat (go_quiet (fail);try go_wp2)
            go_roundg kj2
            case measure=>have:=HK1.out;have:=HJ2.out;omega
            case rel=>exact ⟨(wrap64 (x5_1 + 1)),(by first|rfl|(simp;done)|(simp [*];done)),H',⟨by have:=HK1.out;have:=HJ2.out;omega⟩,by repeat (first|exact Drawn0.refl _|apply Drawn0.step)⟩
           ·rw [if_neg c11] at H
            have c11b0:(((rd_T37 l0 x5_1).f2) == ((rd_T41 l1 x5_1).f2)) = false:=beq_eq_false_iff_ne.mpr c11
            have c11b1:(((rd_T37 l0 x5_1).f2) != ((rd_T41 l1 x5_1).f2)) = true:=bne_iff_ne.mpr c11
            obtain rfl:=Option.some.inj H
            have p101:0 ≤ (x5_1:Int):=of_decide_eq_true (by first|(with_reducible assumption)|assumption)
            have q101:x5_1 < (l0.length:Int):=of_decide_eq_true (by first|(with_reducible assumption)|assumption)
            obtain ⟨ad101,e101,hx101_0,hx101_1,hx101_2⟩:=at_T37 HR0.out x5_1 p101 q101
            cases e101
            replace p101:=eq_true p101
            replace q101:=eq_true q101
            have p102:0 ≤ (x5_1:Int):=of_decide_eq_true (by first|(with_reducible assumption)|assumption)
            have q102:x5_1 < (l1.length:Int):=of_decide_eq_true (by first|(with_reducible assumption)|assumption)
            obtain ⟨ad102,e102,hx102_0,hx102_1,hx102_2⟩:=at_T41 HR1.out x5_1 p102 q102
            cases e102
            replace p102:=eq_true p102
            replace q102:=eq_true q102
            have p103:0 ≤ (x5_1:Int):=of_decide_eq_true (by first|(with_reducible assumption)|assumption)
            have q103:x5_1 < (l0.length:Int):=of_decide_eq_true (by first|(with_reducible assumption)|assumption)
            obtain ⟨ad103,e103,hx103_0,hx103_1,hx103_2⟩:=at_T37 HR0.out x5_1 p103 q103
            obtain rfl:ad101 = ad103:=(by injection e103)
            replace p103:=eq_true p103
            replace q103:=eq_true q103
            have p104:0 ≤ (x5_1:Int):=of_decide_eq_true (by first|(with_reducible assumption)|assumption)
            have q104:x5_1 < (l1.length:Int):=of_decide_eq_true (by first|(with_reducible assumption)|assumption)
            obtain ⟨ad104,e104,hx104_0,hx104_1,hx104_2⟩:=at_T41 HR1.out x5_1 p104 q104
            obtain rfl:ad102 = ad104:=(by injection e104)
            replace p104:=eq_true p104
            replace q104:=eq_true q104
            have p105:0 ≤ (x5_1:Int):=of_decide_eq_true (by first|(with_reducible assumption)|assumption)
            have q105:x5_1 < (l0.length:Int):=of_decide_eq_true (by first|(with_reducible assumption)|assumption)
            obtain ⟨ad105,e105,hx105_0,hx105_1,hx105_2⟩:=at_T37 HR0.out x5_1 p105 q105
            obtain rfl:ad101 = ad105:=(by injection e105)
            replace p105:=eq_true p105
            replace q105:=eq_true q105
            have p106:0 ≤ (x5_1:Int):=of_decide_eq_true (by first|(with_reducible assumption)|assumption)
            have q106:x5_1 < (l1.length:Int):=of_decide_eq_true (by first|(with_reducible assumption)|assumption)
            obtain ⟨ad106,e106,hx106_0,hx106_1,hx106_2⟩:=at_T41 HR1.out x5_1 p106 q106
            obtain rfl:ad102 = ad106:=(by injection e106)
            replace p106:=eq_true p106
            replace q106:=eq_true q106
            go_wp2
            repeat (go_quiet (fail);try go_wp2)
            go_ret
            exact ⟨by first|rfl|(simp;done)|(simp [*];done),by repeat (first|exact Drawn0.refl _|apply Drawn0.step)⟩
          ·rw [if_neg c10] at H
           have c10b0:(((rd_T37 l0 x5_1).f1) == ((rd_T41 l1 x5_1).f1)) = false:=beq_eq_false_iff_ne.mpr c10
           have c10b1:(((rd_T37 l0 x5_1).f1) != ((rd_T41 l1 x5_1).f1)) = true:=bne_iff_ne.mpr c10
           obtain rfl:=Option.some.inj H
           have p101:0 ≤ (x5_1:Int):=of_decide_eq_true (by first|(with_reducible assumption)|assumption)
           have q101:x5_1 < (l0.length:Int):=of_decide_eq_true (by first|(with_reducible assumption)|assumption)
           obtain ⟨ad101,e101,hx101_0,hx101_1,hx101_2⟩:=at_T37 HR0.out x5_1 p101 q101
           cases e101
           replace p101:=eq_true p101
           replace q101:=eq_true q101
           have p102:0 ≤ (x5_1:Int):=of_decide_eq_true (by first|(with_reducible assumption)|assumption)
           have q102:x5_1 < (l1.length:Int):=of_decide_eq_true (by first|(with_reducible assumption)|assumption)
           obtain ⟨ad102,e102,hx102_0,hx102_1,hx102_2⟩:=at_T41 HR1.out x5_1 p102 q102
           cases e102
           replace p102:=eq_true p102
           replace q102:=eq_true q102
           have p103:0 ≤ (x5_1:Int):=of_decide_eq_true (by first|(with_reducible assumption)|assumption)
           have q103:x5_1 < (l0.length:Int):=of_decide_eq_true (by first|(with_reducible assumption)|assumption)
           obtain ⟨ad103,e103,hx103_0,hx103_1,hx103_2⟩:=at_T37 HR0.out x5_1 p103 q103
           obtain rfl:ad101 = ad103:=(by injection e103)
           replace p103:=eq_true p103
           replace q103:=eq_true q103
           have p104:0 ≤ (x5_1:Int):=of_decide_eq_true (by first|(with_reducible assumption)|assumption)
           have q104:x5_1 < (l1.length:Int):=of_decide_eq_true (by first|(with_reducible assumption)|assumption)
           obtain ⟨ad104,e104,hx104_0,hx104_1,hx104_2⟩:=at_T41 HR1.out x5_1 p104 q104
           obtain rfl:ad102 = ad104:=(by injection e104)
           replace p104:=eq_true p104
           replace q104:=eq_true q104
           go_wp2
           repeat (go_quiet (fail);try go_wp2)
           go_ret
           exact ⟨by first|rfl|(simp;done)|(simp [*];done),by repeat (first|exact Drawn0.refl _|apply Drawn0.step)⟩
         ·rw [if_neg c9] at H
          have c9b0:(((rd_T37 l0 x5_1).f0).toList == ((rd_T41 l1 x5_1).f0).toList) = false:=beq_eq_false_iff_ne.mpr c9
          have c9b1:(((rd_T37 l0 x5_1).f0).toList != ((rd_T41 l1 x5_1).f0).toList) = true:=bne_iff_ne.mpr c9
          obtain rfl:=Option.some.inj H
          have p101:0 ≤ (x5_1:Int):=of_decide_eq_true (by first|(with_reducible assumption)|assumption)
          have q101:x5_1 < (l0.length:Int):=of_decide_eq_true (by first|(with_reducible assumption)|assumption)
          obtain ⟨ad101,e101,hx101_0,hx101_1,hx101_2⟩:=at_T37 HR0.out x5_1 p101 q101
          cases e101
          replace p101:=eq_true p101
          replace q101:=eq_true q101
          have p102:0 ≤ (x5_1:Int):=of_decide_eq_true (by first|(with_reducible assumption)|assumption)
          have q102:x5_1 < (l1.length:Int):=of_decide_eq_true (by first|(with_reducible assumption)|assumption)
          obtain ⟨ad102,e102,hx102_0,hx102_1,hx102_2⟩:=at_T41 HR1.out x5_1 p102 q102
          cases e102
          replace p102:=eq_true p102
          replace q102:=eq_true q102
          go_wp2
          repeat (go_quiet (fail);try go_wp2)
          go_ret
          exact ⟨by first|rfl|(simp;done)|(simp [*];done),by repeat (first|exact Drawn0.refl _|apply Drawn0.step)⟩
        ·rw [if_neg c8] at H
         exact absurd H (by simp)
       ·rw [if_neg c7] at H
        exact absurd H (by simp)
      ·rw [if_neg c6] at H
       exact absurd H (by simp)
     ·replace c5:=Bool.eq_false_iff.mpr c5
      subst c5
      have H1:(some ((l0.length:Int) == (l1.length:Int))) = some r:=by rw [if_neg (show ¬ (false = true) by decide)] at H;exact H
      clear H
      have H:=H1
      clear H1
      obtain rfl:=Option.some.inj H
      go_wp2
      repeat (go_quiet (fail);try go_wp2)
      go_ret
      exact ⟨by first|rfl|(simp;done)|(simp [*];done),by repeat (first|exact Drawn0.refl _|apply Drawn0.step)⟩
end Go.Proofs.Ytgmelgkcoejknaa.X
end
section
namespace Go.Proofs.Ytgmelgkcoejknaa.X
open Go.RowKit Go.Proofs.YtgmelgkcoejknaaW.PrintWords Go.Proofs.YtgmelgkcoejknaaW.PrintLast Go.Proofs.YtgmelgkcoejknaaW.PrintMore
attribute [local go_sem] max2_int min2_int max_two min_two max_three min_three max_four min_four
set_option linter.unusedVariables false
set_option linter.unusedSimpArgs false
mutual
def contangoref03_Same.l0:Nat → List ByteArray → List ByteArray → Int → Option (Bool)
 | 0,_,_,_=>none
 | k + 1,x0,x1,x5=>if x5 < (x0.length:Int) then (contangoref03_Same.j1 k x0 x1 x5 (decide (x5 < (x1.length:Int)))) else (contangoref03_Same.j1 k x0 x1 x5 false)
def contangoref03_Same.j1:Nat → List ByteArray → List ByteArray → Int → Bool → Option (Bool)
 | 0,_,_,_,_=>none
 | k + 1,x0,x1,x5,x15=>if x15 = true then (if 0 ≤ x5 then (if x5 < (x0.length:Int) then (if x5 < (x1.length:Int) then (if (rdOf ByteArray.empty x0 x5).toList = (rdOf ByteArray.empty x1 x5).toList then (contangoref03_Same.l0 k x0 x1 (wrap64 (x5 + 1))) else (some false)) else (none)) else (none)) else (none)) else (some ((x0.length:Int) == (x1.length:Int)))
end
def contangoref03_Same.f (k:Nat) (l0:List ByteArray) (l1:List ByteArray):Option (Bool):=contangoref03_Same.l0 k l0 l1 0
theorem contangoref03_Same.mono_l:∀ k,(∀ y0 y1 y2,LeO (contangoref03_Same.l0 k y0 y1 y2) (contangoref03_Same.l0 (k + 1) y0 y1 y2)) ∧ (∀ y0 y1 y2 y3,LeO (contangoref03_Same.j1 k y0 y1 y2 y3) (contangoref03_Same.j1 (k + 1) y0 y1 y2 y3))
 | 0=>⟨fun _ _ _ r h=>by simp [contangoref03_Same.l0] at h,fun _ _ _ _ r h=>by simp [contangoref03_Same.j1] at h⟩
 | k + 1=>by
  obtain ⟨ih0,ih1⟩:=contangoref03_Same.mono_l k
  refine ⟨?_,?_⟩
  ·intro y0 y1 y2
   unfold contangoref03_Same.l0
   repeat' first
   | (with_reducible exact ih0 _ _ _)
   | (with_reducible exact ih1 _ _ _ _)
   | (with_reducible exact LeO.refl _)
   | (with_reducible exact LeO.none _)
   | (with_reducible refine LeO.ite ?_ ?_)
   | (with_reducible refine LeO.bind ?_ (fun _=>?_))
   | exact ih0 _ _ _
   | exact ih1 _ _ _ _
   | exact LeO.none _
   | refine LeO.ite ?_ ?_
   | refine LeO.bind ?_ (fun _=>?_)
  ·intro y0 y1 y2 y3
   unfold contangoref03_Same.j1
   repeat' first
   | (with_reducible exact ih0 _ _ _)
   | (with_reducible exact ih1 _ _ _ _)
   | (with_reducible exact LeO.refl _)
   | (with_reducible exact LeO.none _)
   | (with_reducible refine LeO.ite ?_ ?_)
   | (with_reducible refine LeO.bind ?_ (fun _=>?_))
   | exact ih0 _ _ _
   | exact ih1 _ _ _ _
   | exact LeO.none _
   | refine LeO.ite ?_ ?_
   | refine LeO.bind ?_ (fun _=>?_)
theorem contangoref03_Same.mono:∀ a0 a1 k,LeO (contangoref03_Same.f k a0 a1) (contangoref03_Same.f (k + 1) a0 a1):=by
 intro a0 a1 k
 obtain ⟨ih0,ih1⟩:=contangoref03_Same.mono_l k
 unfold contangoref03_Same.f
 repeat' first
   | (with_reducible exact ih0 _ _ _)
   | (with_reducible exact ih1 _ _ _ _)
   | (with_reducible exact LeO.refl _)
   | (with_reducible exact LeO.none _)
   | (with_reducible refine LeO.ite ?_ ?_)
   | (with_reducible refine LeO.bind ?_ (fun _=>?_))
   | exact ih0 _ _ _
   | exact ih1 _ _ _ _
   | exact LeO.none _
   | refine LeO.ite ?_ ?_
   | refine LeO.bind ?_ (fun _=>?_)
set_option maxHeartbeats 8000000 in
set_option maxRecDepth 100000 in
theorem contangoref03_Same.calls (k:Nat) (A0:Option Addr) (c0:Nat) (l0:List ByteArray) (A1:Option Addr) (c1:Nat) (l1:List ByteArray) (r:Bool) (w:World) (hr0:Kd.C Kd.string w A0 l0.length l0) (hc0:l0.length ≤ c0) (hr1:Kd.C Kd.string w A1 l1.length l1) (hc1:l1.length ≤ c1) (h:contangoref03_Same.f k l0 l1 = some r) :
  Calls Try.prog 20 #[.slice A0 l0.length c0,.slice A1 l1.length c1] w fun e w'=>e = .returned (.bool r) ∧ Drawn0 w w':=by
 have HR0:=Aside0.mk hr0
 have HC0:=Aside0.mk hc0
 clear hr0 hc0
 have HR1:=Aside0.mk hr1
 have HC1:=Aside0.mk hc1
 clear hr1 hc1
 have H:(contangoref03_Same.l0 k l0 l1 0) = some r:=h
 clear h
 have H':=Aside0.mk H
 clear H
 go_enter Try.func20,Try.ntmps20
 go_wp2
 repeat (go_quiet (fail);try go_wp2)
 go_loopg [5] k (fun kq v5 w'=>∃ (x5_1:Int),v5 = .int .i64 x5_1 ∧ Aside0 (contangoref03_Same.l0 kq l0 l1 x5_1 = some r) ∧ Aside0 (kq ≤ k) ∧ Drawn0 w w')
 case atStart=>exact ⟨(0),(by first|rfl|(simp;done)|(simp [*];done)),H',⟨Nat.le_refl _⟩,by repeat (first|exact Drawn0.refl _|apply Drawn0.step)⟩
 case round =>
  clear H'
  try clear c1
  try clear c2
  try clear p2
  obtain ⟨x5_1,rfl,HA,HK1,⟨m1,rfl⟩⟩:=hrel
  cases gk with
  | zero=>exact absurd HA.out (by simp [contangoref03_Same.l0])
  | succ k1 =>
   have H:=HA.out
   clear HA
   simp only [contangoref03_Same.l0] at H
   have HC3:=Aside0.mk H
   clear H
   go_upto_region 2 with (fail)
   repeat (go_quiet (fail);go_upto_region 2 with (fail))
   go_cut [15] (fun v15 wc=>∃ (kq:Nat) (x15_2:Bool),v15 = .bool x15_2 ∧ Aside0 (contangoref03_Same.j1 kq l0 l1 x5_1 x15_2 = some r) ∧ Aside0 (kq ≤ k1) ∧ Drawn0 w wc)
   case first =>
    have H:=HC3.out
    clear HC3
    by_cases c4:x5_1 < (l0.length:Int)
    ·rw [if_pos c4] at H
     have c4b0:decide (x5_1 < (l0.length:Int)) = true:=decide_eq_true c4
     clear c4
     (first|rw [c4b0]|(simp only [i64_w,i32_w];rw [c4b0])|skip)
     have H':=Aside0.mk H
     clear H
     go_wp2
     repeat (go_quiet (fail);try go_wp2)
     go_meet
     case rel=>exact ⟨_,(decide (x5_1 < (l1.length:Int))),(by first|rfl|(simp;done)|(simp [*];done)),H',⟨by have:=HK1.out;first|omega|exact Nat.le_refl _⟩,by repeat (first|exact Drawn0.refl _|apply Drawn0.step)⟩
    ·rw [if_neg c4] at H
     have c4b0:decide (x5_1 < (l0.length:Int)) = false:=decide_eq_false c4
     clear c4
     (first|rw [c4b0]|(simp only [i64_w,i32_w];rw [c4b0])|skip)
     have H':=Aside0.mk H
     clear H
     go_wp2
     repeat (go_quiet (fail);try go_wp2)
     go_meet
     case rel=>exact ⟨_,(false),(by first|rfl|(simp;done)|(simp [*];done)),H',⟨by have:=HK1.out;first|omega|exact Nat.le_refl _⟩,by repeat (first|exact Drawn0.refl _|apply Drawn0.step)⟩
   case rest =>
    clear HC3
    try clear c1
    try clear c2
    try clear p2
    try clear c4
    try clear c4b0
    try clear p2
    obtain ⟨kq,x15_2,rfl,HA,HJ2,⟨mc2,rfl⟩⟩:=hcut
    cases kq with
    | zero=>exact absurd HA.out (by simp [contangoref03_Same.j1])
    | succ kj2 =>
     have H:=HA.out
     clear HA
     simp only [contangoref03_Same.j1] at H
     by_cases c5:x15_2 = true
     ·subst c5
      have H1:(if 0 ≤ x5_1 then (if x5_1 < (l0.length:Int) then (if x5_1 < (l1.length:Int) then (if (rdOf ByteArray.empty l0 x5_1).toList = (rdOf ByteArray.empty l1 x5_1).toList then (contangoref03_Same.l0 kj2 l0 l1 (wrap64 (x5_1 + 1))) else (some false)) else (none)) else (none)) else (none)) = some r:=by rw [if_pos rfl] at H;exact H
      clear H
      have H:=H1
      clear H1
      by_cases c6:0 ≤ x5_1
      ·rw [if_pos c6] at H
       have c6b0:decide (0 ≤ x5_1) = true:=decide_eq_true c6
       clear c6
       by_cases c7:x5_1 < (l0.length:Int)
       ·rw [if_pos c7] at H
        have c7b0:decide (x5_1 < (l0.length:Int)) = true:=decide_eq_true c7
        clear c7
        by_cases c8:x5_1 < (l1.length:Int)
        ·rw [if_pos c8] at H
         have c8b0:decide (x5_1 < (l1.length:Int)) = true:=decide_eq_true c8
         clear c8
         by_cases c9:(rdOf ByteArray.empty l0 x5_1).toList = (rdOf ByteArray.empty l1 x5_1).toList
         ·rw [if_pos c9] at H
          have c9b0:((rdOf ByteArray.empty l0 x5_1).toList == (rdOf ByteArray.empty l1 x5_1).toList) = true:=beq_iff_eq.mpr c9
          have c9b1:((rdOf ByteArray.empty l0 x5_1).toList != (rdOf ByteArray.empty l1 x5_1).toList) = false:=bne_eq_false_iff_eq.mpr c9
          clear c9
          have H':=Aside0.mk H
          clear H
          have p101:0 ≤ (x5_1:Int):=of_decide_eq_true (by first|(with_reducible assumption)|assumption)
          have q101:x5_1 < (l0.length:Int):=of_decide_eq_true (by first|(with_reducible assumption)|assumption)
          obtain ⟨ad101,e101,hx101_0⟩:=Kd.at_string HR0.out x5_1 p101 q101
          cases e101
          replace p101:=eq_true p101
          replace q101:=eq_true q101
          have p102:0 ≤ (x5_1:Int):=of_decide_eq_true (by first|(with_reducible assumption)|assumption)
          have q102:x5_1 < (l1.length:Int):=of_decide_eq_true (by first|(with_reducible assumption)|assumption)
          obtain ⟨ad102,e102,hx102_0⟩:=Kd.at_string HR1.out x5_1 p102 q102
          cases e102
          replace p102:=eq_true p102
          replace q102:=eq_true q102
          go_wp2
          repeat (go_quiet (fail);try go_wp2)
          go_roundg kj2
          case measure=>have:=HK1.out;have:=HJ2.out;omega
          case rel=>exact ⟨(wrap64 (x5_1 + 1)),(by first|rfl|(simp;done)|(simp [*];done)),H',⟨by have:=HK1.out;have:=HJ2.out;omega⟩,by repeat (first|exact Drawn0.refl _|apply Drawn0.step)⟩
         ·rw [if_neg c9] at H
          have c9b0:((rdOf ByteArray.empty l0 x5_1).toList == (rdOf ByteArray.empty l1 x5_1).toList) = false:=beq_eq_false_iff_ne.mpr c9
          have c9b1:((rdOf ByteArray.empty l0 x5_1).toList != (rdOf ByteArray.empty l1 x5_1).toList) = true:=bne_iff_ne.mpr c9
          obtain rfl:=Option.some.inj H
          have p101:0 ≤ (x5_1:Int):=of_decide_eq_true (by first|(with_reducible assumption)|assumption)
          have q101:x5_1 < (l0.length:Int):=of_decide_eq_true (by first|(with_reducible assumption)|assumption)
          obtain ⟨ad101,e101,hx101_0⟩:=Kd.at_string HR0.out x5_1 p101 q101
          cases e101
          replace p101:=eq_true p101
          replace q101:=eq_true q101
          have p102:0 ≤ (x5_1:Int):=of_decide_eq_true (by first|(with_reducible assumption)|assumption)
          have q102:x5_1 < (l1.length:Int):=of_decide_eq_true (by first|(with_reducible assumption)|assumption)
          obtain ⟨ad102,e102,hx102_0⟩:=Kd.at_string HR1.out x5_1 p102 q102
          cases e102
          replace p102:=eq_true p102
          replace q102:=eq_true q102
          go_wp2
          repeat (go_quiet (fail);try go_wp2)
          go_ret
          exact ⟨by first|rfl|(simp;done)|(simp [*];done),by repeat (first|exact Drawn0.refl _|apply Drawn0.step)⟩
        ·rw [if_neg c8] at H
         exact absurd H (by simp)
       ·rw [if_neg c7] at H
        exact absurd H (by simp)
      ·rw [if_neg c6] at H
       exact absurd H (by simp)
     ·replace c5:=Bool.eq_false_iff.mpr c5
      subst c5
      have H1:(some ((l0.length:Int) == (l1.length:Int))) = some r:=by rw [if_neg (show ¬ (false = true) by decide)] at H;exact H
      clear H
      have H:=H1
      clear H1
      obtain rfl:=Option.some.inj H
      go_wp2
      repeat (go_quiet (fail);try go_wp2)
      go_ret
      exact ⟨by first|rfl|(simp;done)|(simp [*];done),by repeat (first|exact Drawn0.refl _|apply Drawn0.step)⟩
end Go.Proofs.Ytgmelgkcoejknaa.X
end
section
namespace Go.Proofs.Ytgmelgkcoejknaa.X
open Go.RowKit Go.Proofs.YtgmelgkcoejknaaW.PrintWords Go.Proofs.YtgmelgkcoejknaaW.PrintLast Go.Proofs.YtgmelgkcoejknaaW.PrintMore
attribute [local go_sem] max2_int min2_int max_two min_two max_three min_three max_four min_four
set_option linter.unusedVariables false
set_option linter.unusedSimpArgs false
def contangoref03_Name.l0:Nat → ByteArray → Int → Option (Bool)
 | 0,_,_=>none
 | k + 1,x0,x3=>if x3 < (x0.size:Int) then (if 0 ≤ x3 then (if (bt x0 x3) ≥ 97 then (if ((bt x0 x3) ≤ 122) then (contangoref03_Name.l0 k x0 (wrap64 (x3 + 1))) else (if x3 = 0 then (some false) else (if (bt x0 x3) < 48 then (some false) else (if (bt x0 x3) > 57 then (some false) else (contangoref03_Name.l0 k x0 (wrap64 (x3 + 1))))))) else (if x3 = 0 then (some false) else (if (bt x0 x3) < 48 then (some false) else (if (bt x0 x3) > 57 then (some false) else (contangoref03_Name.l0 k x0 (wrap64 (x3 + 1))))))) else (none)) else (if (x0.size:Int) > 0 then (some (decide ((x0.size:Int) ≤ 12))) else (some false))
def contangoref03_Name.f (k:Nat) (a0:ByteArray):Option (Bool):=contangoref03_Name.l0 k a0 0
theorem contangoref03_Name.mono_l:∀ k,(∀ y0 y1,LeO (contangoref03_Name.l0 k y0 y1) (contangoref03_Name.l0 (k + 1) y0 y1))
 | 0=>fun _ _ r h=>by simp [contangoref03_Name.l0] at h
 | k + 1=>by
  have ih0:=contangoref03_Name.mono_l k
  ·intro y0 y1
   unfold contangoref03_Name.l0
   repeat' first
   | (with_reducible exact ih0 _ _)
   | (with_reducible exact LeO.refl _)
   | (with_reducible exact LeO.none _)
   | (with_reducible refine LeO.ite ?_ ?_)
   | (with_reducible refine LeO.bind ?_ (fun _=>?_))
   | exact ih0 _ _
   | exact LeO.none _
   | refine LeO.ite ?_ ?_
   | refine LeO.bind ?_ (fun _=>?_)
theorem contangoref03_Name.mono:∀ a0 k,LeO (contangoref03_Name.f k a0) (contangoref03_Name.f (k + 1) a0):=by
 intro a0 k
 have ih0:=contangoref03_Name.mono_l k
 unfold contangoref03_Name.f
 repeat' first
   | (with_reducible exact ih0 _ _)
   | (with_reducible exact LeO.refl _)
   | (with_reducible exact LeO.none _)
   | (with_reducible refine LeO.ite ?_ ?_)
   | (with_reducible refine LeO.bind ?_ (fun _=>?_))
   | exact ih0 _ _
   | exact LeO.none _
   | refine LeO.ite ?_ ?_
   | refine LeO.bind ?_ (fun _=>?_)
set_option maxHeartbeats 8000000 in
set_option maxRecDepth 100000 in
theorem contangoref03_Name.calls (k:Nat) (a0:ByteArray) (r:Bool) (w:World) (h:contangoref03_Name.f k a0 = some r) :
  Calls Try.prog 29 #[.string a0] w fun e w'=>e = .returned (.bool r) ∧ Drawn0 w w':=by
 have H:(contangoref03_Name.l0 k a0 0) = some r:=h
 clear h
 have H':=Aside0.mk H
 clear H
 go_enter Try.func29,Try.ntmps29
 go_wp2
 go_loopg [3] k (fun kq v3 w'=>∃ (x3_1:Int),v3 = .int .i64 x3_1 ∧ Aside0 (contangoref03_Name.l0 kq a0 x3_1 = some r) ∧ Aside0 (kq ≤ k) ∧ Drawn0 w w')
 case atStart=>exact ⟨(0),(by first|rfl|(simp;done)|(simp [*];done)),H',⟨Nat.le_refl _⟩,by repeat (first|exact Drawn0.refl _|apply Drawn0.step)⟩
 case round =>
  clear H'
  obtain ⟨x3_1,rfl,HA,HK1,⟨m1,rfl⟩⟩:=hrel
  cases gk with
  | zero=>exact absurd HA.out (by simp [contangoref03_Name.l0])
  | succ k1 =>
   have H:=HA.out
   clear HA
   simp only [contangoref03_Name.l0] at H
   by_cases c2:x3_1 < (a0.size:Int)
   ·rw [if_pos c2] at H
    have c2b0:decide (x3_1 < (a0.size:Int)) = true:=decide_eq_true c2
    clear c2
    by_cases c3:0 ≤ x3_1
    ·rw [if_pos c3] at H
     have c3b0:decide (0 ≤ x3_1) = true:=decide_eq_true c3
     clear c3
     by_cases c5:(bt a0 x3_1) ≥ 97
     ·rw [if_pos c5] at H
      have c5b0:decide (97 ≤ (bt a0 x3_1)) = true:=decide_eq_true c5
      clear c5
      by_cases c7:((bt a0 x3_1) ≤ 122)
      ·rw [if_pos c7] at H
       have c7b0:decide ((bt a0 x3_1) ≤ 122) = true:=decide_eq_true c7
       clear c7
       have H':=Aside0.mk H
       clear H
       have p4:0 ≤ (x3_1:Int):=of_decide_eq_true (by first|(with_reducible assumption)|assumption)
       have q4:x3_1 < (a0.size:Int):=of_decide_eq_true (by first|(with_reducible assumption)|assumption)
       have hx4:=bt_at a0 x3_1
       replace p4:=eq_true p4
       replace q4:=eq_true q4
       have p6:0 ≤ (x3_1:Int):=of_decide_eq_true (by first|(with_reducible assumption)|assumption)
       have q6:x3_1 < (a0.size:Int):=of_decide_eq_true (by first|(with_reducible assumption)|assumption)
       have hx6:=bt_at a0 x3_1
       replace p6:=eq_true p6
       replace q6:=eq_true q6
       go_wp2
       go_roundg k1
       case measure=>have:=HK1.out;omega
       case rel=>exact ⟨(wrap64 (x3_1 + 1)),(by first|rfl|(simp;done)|(simp [*];done)),H',⟨by have:=HK1.out;omega⟩,by repeat (first|exact Drawn0.refl _|apply Drawn0.step)⟩
      ·rw [if_neg c7] at H
       have c7b0:decide ((bt a0 x3_1) ≤ 122) = false:=decide_eq_false c7
       clear c7
       by_cases c8:x3_1 = 0
       ·rw [if_pos c8] at H
        have c8b0:(x3_1 == 0) = true:=beq_iff_eq.mpr c8
        have c8b1:(x3_1 != 0) = false:=bne_eq_false_iff_eq.mpr c8
        clear c8
        obtain rfl:=Option.some.inj H
        have p4:0 ≤ (x3_1:Int):=of_decide_eq_true (by first|(with_reducible assumption)|assumption)
        have q4:x3_1 < (a0.size:Int):=of_decide_eq_true (by first|(with_reducible assumption)|assumption)
        have hx4:=bt_at a0 x3_1
        replace p4:=eq_true p4
        replace q4:=eq_true q4
        have p6:0 ≤ (x3_1:Int):=of_decide_eq_true (by first|(with_reducible assumption)|assumption)
        have q6:x3_1 < (a0.size:Int):=of_decide_eq_true (by first|(with_reducible assumption)|assumption)
        have hx6:=bt_at a0 x3_1
        replace p6:=eq_true p6
        replace q6:=eq_true q6
        go_wp2
        go_ret
        exact ⟨by first|rfl|(simp;done)|(simp [*];done),by repeat (first|exact Drawn0.refl _|apply Drawn0.step)⟩
       ·rw [if_neg c8] at H
        have c8b0:(x3_1 == 0) = false:=beq_eq_false_iff_ne.mpr c8
        have c8b1:(x3_1 != 0) = true:=bne_iff_ne.mpr c8
        by_cases c10:(bt a0 x3_1) < 48
        ·rw [if_pos c10] at H
         have c10b0:decide ((bt a0 x3_1) < 48) = true:=decide_eq_true c10
         clear c10
         obtain rfl:=Option.some.inj H
         have p4:0 ≤ (x3_1:Int):=of_decide_eq_true (by first|(with_reducible assumption)|assumption)
         have q4:x3_1 < (a0.size:Int):=of_decide_eq_true (by first|(with_reducible assumption)|assumption)
         have hx4:=bt_at a0 x3_1
         replace p4:=eq_true p4
         replace q4:=eq_true q4
         have p6:0 ≤ (x3_1:Int):=of_decide_eq_true (by first|(with_reducible assumption)|assumption)
         have q6:x3_1 < (a0.size:Int):=of_decide_eq_true (by first|(with_reducible assumption)|assumption)
         have hx6:=bt_at a0 x3_1
         replace p6:=eq_true p6
         replace q6:=eq_true q6
         have p9:0 ≤ (x3_1:Int):=of_decide_eq_true (by first|(with_reducible assumption)|assumption)
         have q9:x3_1 < (a0.size:Int):=of_decide_eq_true (by first|(with_reducible assumption)|assumption)
         have hx9:=bt_at a0 x3_1
         replace p9:=eq_true p9
         replace q9:=eq_true q9
         go_wp2
         go_ret
         exact ⟨by first|rfl|(simp;done)|(simp [*];done),by repeat (first|exact Drawn0.refl _|apply Drawn0.step)⟩
        ·rw [if_neg c10] at H
         have c10b0:decide ((bt a0 x3_1) < 48) = false:=decide_eq_false c10
         clear c10
         by_cases c12:(bt a0 x3_1) > 57
         ·rw [if_pos c12] at H
          have c12b0:decide (57 < (bt a0 x3_1)) = true:=decide_eq_true c12
          clear c12
          obtain rfl:=Option.some.inj H
          have p4:0 ≤ (x3_1:Int):=of_decide_eq_true (by first|(with_reducible assumption)|assumption)
          have q4:x3_1 < (a0.size:Int):=of_decide_eq_true (by first|(with_reducible assumption)|assumption)
          have hx4:=bt_at a0 x3_1
          replace p4:=eq_true p4
          replace q4:=eq_true q4
          have p6:0 ≤ (x3_1:Int):=of_decide_eq_true (by first|(with_reducible assumption)|assumption)
          have q6:x3_1 < (a0.size:Int):=of_decide_eq_true (by first|(with_reducible assumption)|assumption)
          have hx6:=bt_at a0 x3_1
          replace p6:=eq_true p6
          replace q6:=eq_true q6
          have p9:0 ≤ (x3_1:Int):=of_decide_eq_true (by first|(with_reducible assumption)|assumption)
          have q9:x3_1 < (a0.size:Int):=of_decide_eq_true (by first|(with_reducible assumption)|assumption)
          have hx9:=bt_at a0 x3_1
          replace p9:=eq_true p9
          replace q9:=eq_true q9
          have p11:0 ≤ (x3_1:Int):=of_decide_eq_true (by first|(with_reducible assumption)|assumption)
          have q11:x3_1 < (a0.size:Int):=of_decide_eq_true (by first|(with_reducible assumption)|assumption)
          have hx11:=bt_at a0 x3_1
          replace p11:=eq_true p11
          replace q11:=eq_true q11
          go_wp2
          go_ret
          exact ⟨by first|rfl|(simp;done)|(simp [*];done),by repeat (first|exact Drawn0.refl _|apply Drawn0.step)⟩
         ·rw [if_neg c12] at H
          have c12b0:decide (57 < (bt a0 x3_1)) = false:=decide_eq_false c12
          clear c12
          have H':=Aside0.mk H
          clear H
          have p4:0 ≤ (x3_1:Int):=of_decide_eq_true (by first|(with_reducible assumption)|assumption)
          have q4:x3_1 < (a0.size:Int):=of_decide_eq_true (by first|(with_reducible assumption)|assumption)
          have hx4:=bt_at a0 x3_1
          replace p4:=eq_true p4
          replace q4:=eq_true q4
          have p6:0 ≤ (x3_1:Int):=of_decide_eq_true (by first|(with_reducible assumption)|assumption)
          have q6:x3_1 < (a0.size:Int):=of_decide_eq_true (by first|(with_reducible assumption)|assumption)
          have hx6:=bt_at a0 x3_1
          replace p6:=eq_true p6
          replace q6:=eq_true q6
          have p9:0 ≤ (x3_1:Int):=of_decide_eq_true (by first|(with_reducible assumption)|assumption)
          have q9:x3_1 < (a0.size:Int):=of_decide_eq_true (by first|(with_reducible assumption)|assumption)
          have hx9:=bt_at a0 x3_1
          replace p9:=eq_true p9
          replace q9:=eq_true q9
          have p11:0 ≤ (x3_1:Int):=of_decide_eq_true (by first|(with_reducible assumption)|assumption)
          have q11:x3_1 < (a0.size:Int):=of_decide_eq_true (by first|(with_reducible assumption)|assumption)
          have hx11:=bt_at a0 x3_1
          replace p11:=eq_true p11
          replace q11:=eq_true q11
          go_wp2
          go_roundg k1
          case measure=>have:=HK1.out;omega
          case rel=>exact ⟨(wrap64 (x3_1 + 1)),(by first|rfl|(simp;done)|(simp [*];done)),H',⟨by have:=HK1.out;omega⟩,by repeat (first|exact Drawn0.refl _|apply Drawn0.step)⟩
     ·rw [if_neg c5] at H
      have c5b0:decide (97 ≤ (bt a0 x3_1)) = false:=decide_eq_false c5
      clear c5
      by_cases c13:x3_1 = 0
      ·rw [if_pos c13] at H
       have c13b0:(x3_1 == 0) = true:=beq_iff_eq.mpr c13
       have c13b1:(x3_1 != 0) = false:=bne_eq_false_iff_eq.mpr c13
       clear c13
       obtain rfl:=Option.some.inj H
       have p4:0 ≤ (x3_1:Int):=of_decide_eq_true (by first|(with_reducible assumption)|assumption)
       have q4:x3_1 < (a0.size:Int):=of_decide_eq_true (by first|(with_reducible assumption)|assumption)
       have hx4:=bt_at a0 x3_1
       replace p4:=eq_true p4
       replace q4:=eq_true q4
       go_wp2
       go_ret
       exact ⟨by first|rfl|(simp;done)|(simp [*];done),by repeat (first|exact Drawn0.refl _|apply Drawn0.step)⟩
      ·rw [if_neg c13] at H
       have c13b0:(x3_1 == 0) = false:=beq_eq_false_iff_ne.mpr c13
       have c13b1:(x3_1 != 0) = true:=bne_iff_ne.mpr c13
       by_cases c15:(bt a0 x3_1) < 48
       ·rw [if_pos c15] at H
        have c15b0:decide ((bt a0 x3_1) < 48) = true:=decide_eq_true c15
        clear c15
        obtain rfl:=Option.some.inj H
        have p4:0 ≤ (x3_1:Int):=of_decide_eq_true (by first|(with_reducible assumption)|assumption)
        have q4:x3_1 < (a0.size:Int):=of_decide_eq_true (by first|(with_reducible assumption)|assumption)
        have hx4:=bt_at a0 x3_1
        replace p4:=eq_true p4
        replace q4:=eq_true q4
        have p14:0 ≤ (x3_1:Int):=of_decide_eq_true (by first|(with_reducible assumption)|assumption)
        have q14:x3_1 < (a0.size:Int):=of_decide_eq_true (by first|(with_reducible assumption)|assumption)
        have hx14:=bt_at a0 x3_1
        replace p14:=eq_true p14
        replace q14:=eq_true q14
        go_wp2
        go_ret
        exact ⟨by first|rfl|(simp;done)|(simp [*];done),by repeat (first|exact Drawn0.refl _|apply Drawn0.step)⟩
       ·rw [if_neg c15] at H
        have c15b0:decide ((bt a0 x3_1) < 48) = false:=decide_eq_false c15
        clear c15
        by_cases c17:(bt a0 x3_1) > 57
        ·rw [if_pos c17] at H
         have c17b0:decide (57 < (bt a0 x3_1)) = true:=decide_eq_true c17
         clear c17
         obtain rfl:=Option.some.inj H
         have p4:0 ≤ (x3_1:Int):=of_decide_eq_true (by first|(with_reducible assumption)|assumption)
         have q4:x3_1 < (a0.size:Int):=of_decide_eq_true (by first|(with_reducible assumption)|assumption)
         have hx4:=bt_at a0 x3_1
         replace p4:=eq_true p4
         replace q4:=eq_true q4
         have p14:0 ≤ (x3_1:Int):=of_decide_eq_true (by first|(with_reducible assumption)|assumption)
         have q14:x3_1 < (a0.size:Int):=of_decide_eq_true (by first|(with_reducible assumption)|assumption)
         have hx14:=bt_at a0 x3_1
         replace p14:=eq_true p14
         replace q14:=eq_true q14
         have p16:0 ≤ (x3_1:Int):=of_decide_eq_true (by first|(with_reducible assumption)|assumption)
         have q16:x3_1 < (a0.size:Int):=of_decide_eq_true (by first|(with_reducible assumption)|assumption)
         have hx16:=bt_at a0 x3_1
         replace p16:=eq_true p16
         replace q16:=eq_true q16
         go_wp2
         go_ret
         exact ⟨by first|rfl|(simp;done)|(simp [*];done),by repeat (first|exact Drawn0.refl _|apply Drawn0.step)⟩
        ·rw [if_neg c17] at H
         have c17b0:decide (57 < (bt a0 x3_1)) = false:=decide_eq_false c17
         clear c17
         have H':=Aside0.mk H
         clear H
         have p4:0 ≤ (x3_1:Int):=of_decide_eq_true (by first|(with_reducible assumption)|assumption)
         have q4:x3_1 < (a0.size:Int):=of_decide_eq_true (by first|(with_reducible assumption)|assumption)
         have hx4:=bt_at a0 x3_1
         replace p4:=eq_true p4
         replace q4:=eq_true q4
         have p14:0 ≤ (x3_1:Int):=of_decide_eq_true (by first|(with_reducible assumption)|assumption)
         have q14:x3_1 < (a0.size:Int):=of_decide_eq_true (by first|(with_reducible assumption)|assumption)
         have hx14:=bt_at a0 x3_1
         replace p14:=eq_true p14
         replace q14:=eq_true q14
         have p16:0 ≤ (x3_1:Int):=of_decide_eq_true (by first|(with_reducible assumption)|assumption)
         have q16:x3_1 < (a0.size:Int):=of_decide_eq_true (by first|(with_reducible assumption)|assumption)
         have hx16:=bt_at a0 x3_1
         replace p16:=eq_true p16
         replace q16:=eq_true q16
         go_wp2
         go_roundg k1
         case measure=>have:=HK1.out;omega
         case rel=>exact ⟨(wrap64 (x3_1 + 1)),(by first|rfl|(simp;done)|(simp [*];done)),H',⟨by have:=HK1.out;omega⟩,by repeat (first|exact Drawn0.refl _|apply Drawn0.step)⟩
    ·rw [if_neg c3] at H
     exact absurd H (by simp)
   ·rw [if_neg c2] at H
    have c2b0:decide (x3_1 < (a0.size:Int)) = false:=decide_eq_false c2
    clear c2
    by_cases c18:(a0.size:Int) > 0
    ·rw [if_pos c18] at H
     have c18b0:decide (0 < (a0.size:Int)) = true:=decide_eq_true c18
     have c18b1:decide (0 < a0.size) = true:=decide_eq_true (by omega)
     clear c18
     obtain rfl:=Option.some.inj H
     go_wp2
     go_ret
     exact ⟨by first|rfl|(simp;done)|(simp [*];done),by repeat (first|exact Drawn0.refl _|apply Drawn0.step)⟩
    ·rw [if_neg c18] at H
     have c18b0:decide (0 < (a0.size:Int)) = false:=decide_eq_false c18
     have c18b1:decide (0 < a0.size) = false:=decide_eq_false (by omega)
     clear c18
     obtain rfl:=Option.some.inj H
     go_wp2
     go_ret
     exact ⟨by first|rfl|(simp;done)|(simp [*];done),by repeat (first|exact Drawn0.refl _|apply Drawn0.step)⟩
end Go.Proofs.Ytgmelgkcoejknaa.X
end
section
namespace Go.Proofs.Ytgmelgkcoejknaa.X
open Go.RowKit Go.Proofs.YtgmelgkcoejknaaW.PrintWords Go.Proofs.YtgmelgkcoejknaaW.PrintLast Go.Proofs.YtgmelgkcoejknaaW.PrintMore
attribute [local go_sem] max2_int min2_int max_two min_two max_three min_three max_four min_four
set_option linter.unusedVariables false
set_option linter.unusedSimpArgs false
mutual
def contangoref41_Check.l0:Nat → List (S41) → Int → Option (Int)
 | 0,_,_=>none
 | k + 1,x0,x3=>if x3 < (x0.length:Int) then (if 0 ≤ x3 then ((contangoref03_Name.f k ((rd_T41 x0 x3).f0)).bind fun t102=>(if t102 = true then (if x3 > 0 then (if 0 ≤ (wrap64 (x3 - 1)) then (if (wrap64 (x3 - 1)) < (x0.length:Int) then (contangoref41_Check.j1 k x0 x3 (!(Op.bytesLess (((rd_T41 x0 (wrap64 (x3 - 1))).f0).toList) (((rd_T41 x0 x3).f0).toList)))) else (none)) else (none)) else (contangoref41_Check.j1 k x0 x3 false)) else (some 10))) else (none)) else (some 0)
def contangoref41_Check.j1:Nat → List (S41) → Int → Bool → Option (Int)
 | 0,_,_,_=>none
 | k + 1,x0,x3,x21=>if x21 = true then (some 12) else (if 0 ≤ x3 then (if x3 < (x0.length:Int) then (if ((rd_T41 x0 x3).f1) < 1 then (contangoref41_Check.j2 k x0 x3 true) else (contangoref41_Check.j2 k x0 x3 (decide (((rd_T41 x0 x3).f1) > 7)))) else (none)) else (none))
def contangoref41_Check.j2:Nat → List (S41) → Int → Bool → Option (Int)
 | 0,_,_,_=>none
 | k + 1,x0,x3,x38=>if x38 = true then (some 13) else (if 0 ≤ x3 then (if x3 < (x0.length:Int) then (if ((rd_T41 x0 x3).f2) < 0 then (some 15) else (if ((rd_T41 x0 x3).f2) > 73048 then (some 15) else (contangoref41_Check.l0 k x0 (wrap64 (x3 + 1))))) else (none)) else (none))
end
def contangoref41_Check.f (k:Nat) (l0:List (S41)):Option (Int):=if (l0.length:Int) > 32 then (some 8) else (contangoref41_Check.l0 k l0 0)
theorem contangoref41_Check.mono_l:∀ k,(∀ y0 y1,LeO (contangoref41_Check.l0 k y0 y1) (contangoref41_Check.l0 (k + 1) y0 y1)) ∧ (∀ y0 y1 y2,LeO (contangoref41_Check.j1 k y0 y1 y2) (contangoref41_Check.j1 (k + 1) y0 y1 y2)) ∧ (∀ y0 y1 y2,LeO (contangoref41_Check.j2 k y0 y1 y2) (contangoref41_Check.j2 (k + 1) y0 y1 y2))
 | 0=>⟨fun _ _ r h=>by simp [contangoref41_Check.l0] at h,fun _ _ _ r h=>by simp [contangoref41_Check.j1] at h,fun _ _ _ r h=>by simp [contangoref41_Check.j2] at h⟩
 | k + 1=>by
  obtain ⟨ih0,ih1,ih2⟩:=contangoref41_Check.mono_l k
  refine ⟨?_,?_,?_⟩
  ·intro y0 y1
   unfold contangoref41_Check.l0
   repeat' first
   | (with_reducible exact ih0 _ _)
   | (with_reducible exact ih1 _ _ _)
   | (with_reducible exact ih2 _ _ _)
   | (with_reducible exact contangoref03_Name.mono _ _)
   | (with_reducible exact LeO.refl _)
   | (with_reducible exact LeO.none _)
   | (with_reducible refine LeO.ite ?_ ?_)
   | (with_reducible refine LeO.bind ?_ (fun _=>?_))
   | exact ih0 _ _
   | exact ih1 _ _ _
   | exact ih2 _ _ _
   | exact contangoref03_Name.mono _ _
   | exact LeO.none _
   | refine LeO.ite ?_ ?_
   | refine LeO.bind ?_ (fun _=>?_)
  ·intro y0 y1 y2
   unfold contangoref41_Check.j1
   repeat' first
   | (with_reducible exact ih0 _ _)
   | (with_reducible exact ih1 _ _ _)
   | (with_reducible exact ih2 _ _ _)
   | (with_reducible exact contangoref03_Name.mono _ _)
   | (with_reducible exact LeO.refl _)
   | (with_reducible exact LeO.none _)
   | (with_reducible refine LeO.ite ?_ ?_)
   | (with_reducible refine LeO.bind ?_ (fun _=>?_))
   | exact ih0 _ _
   | exact ih1 _ _ _
   | exact ih2 _ _ _
   | exact contangoref03_Name.mono _ _
   | exact LeO.none _
   | refine LeO.ite ?_ ?_
   | refine LeO.bind ?_ (fun _=>?_)
  ·intro y0 y1 y2
   unfold contangoref41_Check.j2
   repeat' first
   | (with_reducible exact ih0 _ _)
   | (with_reducible exact ih1 _ _ _)
   | (with_reducible exact ih2 _ _ _)
   | (with_reducible exact contangoref03_Name.mono _ _)
   | (with_reducible exact LeO.refl _)
   | (with_reducible exact LeO.none _)
   | (with_reducible refine LeO.ite ?_ ?_)
   | (with_reducible refine LeO.bind ?_ (fun _=>?_))
   | exact ih0 _ _
   | exact ih1 _ _ _
   | exact ih2 _ _ _
   | exact contangoref03_Name.mono _ _
   | exact LeO.none _
   | refine LeO.ite ?_ ?_
   | refine LeO.bind ?_ (fun _=>?_)
theorem contangoref41_Check.mono:∀ a0 k,LeO (contangoref41_Check.f k a0) (contangoref41_Check.f (k + 1) a0):=by
 intro a0 k
 obtain ⟨ih0,ih1,ih2⟩:=contangoref41_Check.mono_l k
 unfold contangoref41_Check.f
 repeat' first
   | (with_reducible exact ih0 _ _)
   | (with_reducible exact ih1 _ _ _)
   | (with_reducible exact ih2 _ _ _)
   | (with_reducible exact contangoref03_Name.mono _ _)
   | (with_reducible exact LeO.refl _)
   | (with_reducible exact LeO.none _)
   | (with_reducible refine LeO.ite ?_ ?_)
   | (with_reducible refine LeO.bind ?_ (fun _=>?_))
   | exact ih0 _ _
   | exact ih1 _ _ _
   | exact ih2 _ _ _
   | exact contangoref03_Name.mono _ _
   | exact LeO.none _
   | refine LeO.ite ?_ ?_
   | refine LeO.bind ?_ (fun _=>?_)
set_option maxHeartbeats 8000000 in
set_option maxRecDepth 100000 in
theorem contangoref41_Check.calls (k:Nat) (A0:Option Addr) (c0:Nat) (l0:List (S41)) (r:Int) (w:World) (hr0:Kd.C k41 w A0 l0.length l0) (hc0:l0.length ≤ c0) (h:contangoref41_Check.f k l0 = some r) :
  Calls Try.prog 19 #[.slice A0 l0.length c0] w fun e w'=>e = .returned (.int .i64 r) ∧ Drawn0 w w':=by
 have HR0:=Aside0.mk hr0
 have HC0:=Aside0.mk hc0
 clear hr0 hc0
 have H:(if (l0.length:Int) > 32 then (some 8) else (contangoref41_Check.l0 k l0 0)) = some r:=h
 clear h
 by_cases c2:(l0.length:Int) > 32
 ·rw [if_pos c2] at H
  have c2b0:decide (32 < (l0.length:Int)) = true:=decide_eq_true c2
  have c2b1:decide (32 < l0.length) = true:=decide_eq_true (by omega)
  clear c2
  obtain rfl:=Option.some.inj H
  go_enter Try.func19,Try.ntmps19
  go_wp2
  repeat (go_quiet (fail);try go_wp2)
  go_ret
  exact ⟨by first|rfl|(simp;done)|(simp [*];done),by repeat (first|exact Drawn0.refl _|apply Drawn0.step)⟩
 ·rw [if_neg c2] at H
  have c2b0:decide (32 < (l0.length:Int)) = false:=decide_eq_false c2
  have c2b1:decide (32 < l0.length) = false:=decide_eq_false (by omega)
  clear c2
  have H':=Aside0.mk H
  clear H
  go_enter Try.func19,Try.ntmps19
  go_wp2
  repeat (go_quiet (fail);try go_wp2)
  go_loopg [3] k (fun kq v3 w'=>∃ (x3_1:Int),v3 = .int .i64 x3_1 ∧ Aside0 (contangoref41_Check.l0 kq l0 x3_1 = some r) ∧ Aside0 (kq ≤ k) ∧ Drawn0 w w')
  case atStart=>exact ⟨(0),(by first|rfl|(simp;done)|(simp [*];done)),H',⟨Nat.le_refl _⟩,by repeat (first|exact Drawn0.refl _|apply Drawn0.step)⟩
  case round =>
   clear H'
   try clear c1
   try clear c2
   try clear c2b0
   try clear c2b1
   try clear p2
   obtain ⟨x3_1,rfl,HA,HK1,⟨m1,rfl⟩⟩:=hrel
   cases gk with
   | zero=>exact absurd HA.out (by simp [contangoref41_Check.l0])
   | succ k1 =>
    have H:=HA.out
    clear HA
    simp only [contangoref41_Check.l0] at H
    by_cases c3:x3_1 < (l0.length:Int)
    ·rw [if_pos c3] at H
     have c3b0:decide (x3_1 < (l0.length:Int)) = true:=decide_eq_true c3
     clear c3
     by_cases c4:0 ≤ x3_1
     ·rw [if_pos c4] at H
      have c4b0:decide (0 ≤ x3_1) = true:=decide_eq_true c4
      clear c4
      replace H:=Option.bind_eq_some_iff.mp H
      obtain ⟨t102,A50,H⟩:=H
      replace H:(if t102 = true then (if x3_1 > 0 then (if 0 ≤ (wrap64 (x3_1 - 1)) then (if (wrap64 (x3_1 - 1)) < (l0.length:Int) then (contangoref41_Check.j1 k1 l0 x3_1 (!(Op.bytesLess (((rd_T41 l0 (wrap64 (x3_1 - 1))).f0).toList) (((rd_T41 l0 x3_1).f0).toList)))) else (none)) else (none)) else (contangoref41_Check.j1 k1 l0 x3_1 false)) else (some 10)) = some r:=H
      have A5:=Aside0.mk A50
      clear A50
      by_cases c6:t102 = true
      ·subst c6
       have H1:(if x3_1 > 0 then (if 0 ≤ (wrap64 (x3_1 - 1)) then (if (wrap64 (x3_1 - 1)) < (l0.length:Int) then (contangoref41_Check.j1 k1 l0 x3_1 (!(Op.bytesLess (((rd_T41 l0 (wrap64 (x3_1 - 1))).f0).toList) (((rd_T41 l0 x3_1).f0).toList)))) else (none)) else (none)) else (contangoref41_Check.j1 k1 l0 x3_1 false)) = some r:=by rw [if_pos rfl] at H;exact H
       clear H
       have H:=H1
       clear H1
       have HC7:=Aside0.mk H
       clear H
       have p101:0 ≤ (x3_1:Int):=of_decide_eq_true (by first|(with_reducible assumption)|assumption)
       have q101:x3_1 < (l0.length:Int):=of_decide_eq_true (by first|(with_reducible assumption)|assumption)
       obtain ⟨ad101,e101,hx101_0,hx101_1,hx101_2⟩:=at_T41 HR0.out x3_1 p101 q101
       cases e101
       replace p101:=eq_true p101
       replace q101:=eq_true q101
       go_upto_region 8 with (first|(go_at_call 29;(with_reducible refine (contangoref03_Name.calls k1 ((rd_T41 l0 x3_1).f0) true _ A5.out).mono ?_);rintro e w' ⟨rfl,⟨nd,rfl⟩⟩;(try first|exact ⟨rfl,_,World.drewN_drewN _ _ _⟩|exact ⟨rfl,_,Eq.trans (World.drewN_drewN _ _ _) (congrArg (World.drewN _) (Nat.add_assoc _ _ _))⟩)))
       repeat (go_quiet (first|(go_at_call 29;(with_reducible refine (contangoref03_Name.calls k1 ((rd_T41 l0 x3_1).f0) true _ A5.out).mono ?_);rintro e w' ⟨rfl,⟨nd,rfl⟩⟩;(try first|exact ⟨rfl,_,World.drewN_drewN _ _ _⟩|exact ⟨rfl,_,Eq.trans (World.drewN_drewN _ _ _) (congrArg (World.drewN _) (Nat.add_assoc _ _ _))⟩)));go_upto_region 8 with (first|(go_at_call 29;(with_reducible refine (contangoref03_Name.calls k1 ((rd_T41 l0 x3_1).f0) true _ A5.out).mono ?_);rintro e w' ⟨rfl,⟨nd,rfl⟩⟩;(try first|exact ⟨rfl,_,World.drewN_drewN _ _ _⟩|exact ⟨rfl,_,Eq.trans (World.drewN_drewN _ _ _) (congrArg (World.drewN _) (Nat.add_assoc _ _ _))⟩))))
       (try simp only [Act.put,List.setIfInBounds_toArray,List.set_cons_zero,List.set_cons_succ])
       go_cut [21] (fun v21 wc=>∃ (kq:Nat) (x21_6:Bool),v21 = .bool x21_6 ∧ Aside0 (contangoref41_Check.j1 kq l0 x3_1 x21_6 = some r) ∧ Aside0 (kq ≤ k1) ∧ Drawn0 w wc)
       case first =>
        have H:=HC7.out
        clear HC7
        by_cases c8:x3_1 > 0
        ·rw [if_pos c8] at H
         have c8b0:decide (0 < x3_1) = true:=decide_eq_true c8
         clear c8
         (first|rw [c8b0]|(simp only [i64_w,i32_w];rw [c8b0])|skip)
         obtain ⟨ji9,hji9⟩:∃ j_:Int,(wrap64 (x3_1 - 1)) = j_:=⟨_,rfl⟩
         replace H:(if 0 ≤ (ji9) then (if (ji9) < (l0.length:Int) then (contangoref41_Check.j1 k1 l0 x3_1 (!(Op.bytesLess (((rd_T41 l0 (ji9)).f0).toList) (((rd_T41 l0 x3_1).f0).toList)))) else (none)) else (none)) = some r:=by first|(rw [hji9] at H;exact H)|(simp only [hji9] at H ⊢;exact H)
         have hji9w:(IntKind.i64.wrap (x3_1 - 1)) = ji9:=(i64_w _).trans hji9
         by_cases c10:0 ≤ (ji9)
         ·rw [if_pos c10] at H
          have c10b0:decide (0 ≤ (ji9)) = true:=decide_eq_true c10
          clear c10
          by_cases c11:(ji9) < (l0.length:Int)
          ·rw [if_pos c11] at H
           have c11b0:decide ((ji9) < (l0.length:Int)) = true:=decide_eq_true c11
           clear c11
           have H':=Aside0.mk H
           clear H
           have p103:0 ≤ (x3_1:Int):=of_decide_eq_true (by first|(with_reducible assumption)|assumption)
           have q103:x3_1 < (l0.length:Int):=of_decide_eq_true (by first|(with_reducible assumption)|assumption)
           obtain ⟨ad103,e103,hx103_0,hx103_1,hx103_2⟩:=at_T41 HR0.out x3_1 p103 q103
           obtain rfl:ad101 = ad103:=(by injection e103)
           replace p103:=eq_true p103
           replace q103:=eq_true q103
           have p104:0 ≤ ((ji9):Int):=of_decide_eq_true (by first|(with_reducible assumption)|assumption)
           have q104:(ji9) < (l0.length:Int):=of_decide_eq_true (by first|(with_reducible assumption)|assumption)
           obtain ⟨ad104,e104,hx104_0,hx104_1,hx104_2⟩:=at_T41 HR0.out (ji9) p104 q104
           obtain rfl:ad101 = ad104:=(by injection e104)
           replace p104:=eq_true p104
           replace q104:=eq_true q104
           go_wp2
           repeat (go_quiet (fail);try go_wp2)
           go_meet
           case rel=>exact ⟨_,(!(Op.bytesLess (((rd_T41 l0 (ji9)).f0).toList) (((rd_T41 l0 x3_1).f0).toList))),(by first|rfl|(simp;done)|(simp only [← hji9] <;> (first|rfl|simp))|(simp [*];done)),H',⟨by have:=HK1.out;first|omega|exact Nat.le_refl _⟩,by repeat (first|exact Drawn0.refl _|apply Drawn0.step)⟩
          ·rw [if_neg c11] at H
           exact absurd H (by simp)
         ·rw [if_neg c10] at H
          exact absurd H (by simp)
        ·rw [if_neg c8] at H
         have c8b0:decide (0 < x3_1) = false:=decide_eq_false c8
         clear c8
         (first|rw [c8b0]|(simp only [i64_w,i32_w];rw [c8b0])|skip)
         have H':=Aside0.mk H
         clear H
         go_wp2
         repeat (go_quiet (fail);try go_wp2)
         go_meet
         case rel=>exact ⟨_,(false),(by first|rfl|(simp;done)|(simp [*];done)),H',⟨by have:=HK1.out;first|omega|exact Nat.le_refl _⟩,by repeat (first|exact Drawn0.refl _|apply Drawn0.step)⟩
       case rest =>
        clear HC7
        try clear c1
        try clear p1
        try clear q1
        try clear hx1
        try clear c2
        try clear c2b0
        try clear c2b1
        try clear p2
        try clear c3
        try clear c3b0
        try clear c4
        try clear c4b0
        try clear c6
        try clear p6
        try clear c8
        try clear c8b0
        try clear c10
        try clear c10b0
        try clear p10
        try clear q10
        try clear hx10
        try clear c11
        try clear c11b0
        try clear hx101_0
        try clear hx101_1
        try clear hx101_2
        try clear hx103_0
        try clear hx103_1
        try clear hx103_2
        try clear hx104_0
        try clear hx104_1
        try clear hx104_2
        try clear p101
        try clear p103
        try clear p104
        try clear p2
        try clear q101
        try clear q103
        try clear q104
        obtain ⟨kq,x21_6,rfl,HA,HJ6,⟨mc6,rfl⟩⟩:=hcut
        cases kq with
        | zero=>exact absurd HA.out (by simp [contangoref41_Check.j1])
        | succ kj6 =>
         have H:=HA.out
         clear HA
         simp only [contangoref41_Check.j1] at H
         by_cases c12:x21_6 = true
         ·subst c12
          have H1:(some 12) = some r:=by rw [if_pos rfl] at H;exact H
          clear H
          have H:=H1
          clear H1
          obtain rfl:=Option.some.inj H
          go_wp2
          repeat (go_quiet (fail);try go_wp2)
          go_ret
          exact ⟨by first|rfl|(simp;done)|(simp [*];done),by repeat (first|exact Drawn0.refl _|apply Drawn0.step)⟩
         ·replace c12:=Bool.eq_false_iff.mpr c12
          subst c12
          have H1:(if 0 ≤ x3_1 then (if x3_1 < (l0.length:Int) then (if ((rd_T41 l0 x3_1).f1) < 1 then (contangoref41_Check.j2 kj6 l0 x3_1 true) else (contangoref41_Check.j2 kj6 l0 x3_1 (decide (((rd_T41 l0 x3_1).f1) > 7)))) else (none)) else (none)) = some r:=by rw [if_neg (show ¬ (false = true) by decide)] at H;exact H
          clear H
          have H:=H1
          clear H1
          have HC13:=Aside0.mk H
          clear H
          go_upto_region 10 with (fail)
          repeat (go_quiet (fail);go_upto_region 10 with (fail))
          go_cut [38] (fun v38 wc=>∃ (kq:Nat) (x38_12:Bool),v38 = .bool x38_12 ∧ Aside0 (contangoref41_Check.j2 kq l0 x3_1 x38_12 = some r) ∧ Aside0 (kq ≤ kj6) ∧ Drawn0 w wc)
          case first =>
           have H:=HC13.out
           clear HC13
           by_cases c14:0 ≤ x3_1
           ·rw [if_pos c14] at H
            have c14b0:decide (0 ≤ x3_1) = true:=decide_eq_true c14
            clear c14
            (first|rw [c14b0]|(simp only [i64_w,i32_w];rw [c14b0])|skip)
            by_cases c15:x3_1 < (l0.length:Int)
            ·rw [if_pos c15] at H
             have c15b0:decide (x3_1 < (l0.length:Int)) = true:=decide_eq_true c15
             clear c15
             by_cases c16:((rd_T41 l0 x3_1).f1) < 1
             ·rw [if_pos c16] at H
              have c16b0:decide (((rd_T41 l0 x3_1).f1) < 1) = true:=decide_eq_true c16
              clear c16
              have H':=Aside0.mk H
              clear H
              have p105:0 ≤ (x3_1:Int):=of_decide_eq_true (by first|(with_reducible assumption)|assumption)
              have q105:x3_1 < (l0.length:Int):=of_decide_eq_true (by first|(with_reducible assumption)|assumption)
              obtain ⟨ad105,e105,hx105_0,hx105_1,hx105_2⟩:=at_T41 HR0.out x3_1 p105 q105
              obtain rfl:ad101 = ad105:=(by injection e105)
              replace p105:=eq_true p105
              replace q105:=eq_true q105
              go_wp2
              repeat (go_quiet (fail);try go_wp2)
              go_meet
              case rel=>exact ⟨_,(true),(by first|rfl|(simp;done)|(simp [*];done)),H',⟨by have:=HK1.out;have:=HJ6.out;first|omega|exact Nat.le_refl _⟩,by repeat (first|exact Drawn0.refl _|apply Drawn0.step)⟩
             ·rw [if_neg c16] at H
              have c16b0:decide (((rd_T41 l0 x3_1).f1) < 1) = false:=decide_eq_false c16
              clear c16
              have H':=Aside0.mk H
              clear H
              have p105:0 ≤ (x3_1:Int):=of_decide_eq_true (by first|(with_reducible assumption)|assumption)
              have q105:x3_1 < (l0.length:Int):=of_decide_eq_true (by first|(with_reducible assumption)|assumption)
              obtain ⟨ad105,e105,hx105_0,hx105_1,hx105_2⟩:=at_T41 HR0.out x3_1 p105 q105
              obtain rfl:ad101 = ad105:=(by injection e105)
              replace p105:=eq_true p105
              replace q105:=eq_true q105
              have p106:0 ≤ (x3_1:Int):=of_decide_eq_true (by first|(with_reducible assumption)|assumption)
              have q106:x3_1 < (l0.length:Int):=of_decide_eq_true (by first|(with_reducible assumption)|assumption)
              obtain ⟨ad106,e106,hx106_0,hx106_1,hx106_2⟩:=at_T41 HR0.out x3_1 p106 q106
              obtain rfl:ad101 = ad106:=(by injection e106)
              replace p106:=eq_true p106
              replace q106:=eq_true q106
              go_wp2
              repeat (go_quiet (fail);try go_wp2)
              go_meet
              case rel=>exact ⟨_,(decide (((rd_T41 l0 x3_1).f1) > 7)),(by first|rfl|(simp;done)|(simp [*];done)),H',⟨by have:=HK1.out;have:=HJ6.out;first|omega|exact Nat.le_refl _⟩,by repeat (first|exact Drawn0.refl _|apply Drawn0.step)⟩
            ·rw [if_neg c15] at H
             exact absurd H (by simp)
           ·rw [if_neg c14] at H
            exact absurd H (by simp)
          case rest =>
           clear HC13
           try clear c1
           try clear p1
           try clear q1
           try clear hx1
           try clear c2
           try clear c2b0
           try clear c2b1
           try clear p2
           try clear c3
           try clear c3b0
           try clear c4
           try clear c4b0
           try clear c6
           try clear p6
           try clear c8
           try clear c8b0
           try clear c10
           try clear c10b0
           try clear p10
           try clear q10
           try clear hx10
           try clear c11
           try clear c11b0
           try clear c12
           try clear c14
           try clear c14b0
           try clear c15
           try clear c15b0
           try clear c16
           try clear c16b0
           try clear hx101_0
           try clear hx101_1
           try clear hx101_2
           try clear hx103_0
           try clear hx103_1
           try clear hx103_2
           try clear hx104_0
           try clear hx104_1
           try clear hx104_2
           try clear hx105_0
           try clear hx105_1
           try clear hx105_2
           try clear hx106_0
           try clear hx106_1
           try clear hx106_2
           try clear p1
           try clear p10
           try clear p101
           try clear p103
           try clear p104
           try clear p105
           try clear p106
           try clear p2
           try clear p6
           try clear q1
           try clear q10
           try clear q101
           try clear q103
           try clear q104
           try clear q105
           try clear q106
           obtain ⟨kq,x38_12,rfl,HA,HJ12,⟨mc12,rfl⟩⟩:=hcut
           cases kq with
           | zero=>exact absurd HA.out (by simp [contangoref41_Check.j2])
           | succ kj12 =>
            have H:=HA.out
            clear HA
            simp only [contangoref41_Check.j2] at H
            by_cases c17:x38_12 = true
            ·subst c17
             have H1:(some 13) = some r:=by rw [if_pos rfl] at H;exact H
             clear H
             have H:=H1
             clear H1
             obtain rfl:=Option.some.inj H
             go_wp2
             repeat (go_quiet (fail);try go_wp2)
             go_ret
             exact ⟨by first|rfl|(simp;done)|(simp [*];done),by repeat (first|exact Drawn0.refl _|apply Drawn0.step)⟩
            ·replace c17:=Bool.eq_false_iff.mpr c17
             subst c17
             have H1:(if 0 ≤ x3_1 then (if x3_1 < (l0.length:Int) then (if ((rd_T41 l0 x3_1).f2) < 0 then (some 15) else (if ((rd_T41 l0 x3_1).f2) > 73048 then (some 15) else (contangoref41_Check.l0 kj12 l0 (wrap64 (x3_1 + 1))))) else (none)) else (none)) = some r:=by rw [if_neg (show ¬ (false = true) by decide)] at H;exact H
             clear H
             have H:=H1
             clear H1
             by_cases c18:0 ≤ x3_1
             ·rw [if_pos c18] at H
              have c18b0:decide (0 ≤ x3_1) = true:=decide_eq_true c18
              clear c18
              by_cases c19:x3_1 < (l0.length:Int)
              ·rw [if_pos c19] at H
               have c19b0:decide (x3_1 < (l0.length:Int)) = true:=decide_eq_true c19
               clear c19
               by_cases c20:((rd_T41 l0 x3_1).f2) < 0
               ·rw [if_pos c20] at H
                have c20b0:decide (((rd_T41 l0 x3_1).f2) < 0) = true:=decide_eq_true c20
                clear c20
                obtain rfl:=Option.some.inj H
                have p107:0 ≤ (x3_1:Int):=of_decide_eq_true (by first|(with_reducible assumption)|assumption)
                have q107:x3_1 < (l0.length:Int):=of_decide_eq_true (by first|(with_reducible assumption)|assumption)
                obtain ⟨ad107,e107,hx107_0,hx107_1,hx107_2⟩:=at_T41 HR0.out x3_1 p107 q107
                obtain rfl:ad101 = ad107:=(by injection e107)
                replace p107:=eq_true p107
                replace q107:=eq_true q107
                go_wp2
                repeat (go_quiet (fail);try go_wp2)
                go_ret
                exact ⟨by first|rfl|(simp;done)|(simp [*];done),by repeat (first|exact Drawn0.refl _|apply Drawn0.step)⟩
               ·rw [if_neg c20] at H
                have c20b0:decide (((rd_T41 l0 x3_1).f2) < 0) = false:=decide_eq_false c20
                clear c20
                by_cases c21:((rd_T41 l0 x3_1).f2) > 73048
                ·rw [if_pos c21] at H
                 have c21b0:decide (73048 < ((rd_T41 l0 x3_1).f2)) = true:=decide_eq_true c21
                 clear c21
                 obtain rfl:=Option.some.inj H
                 have p107:0 ≤ (x3_1:Int):=of_decide_eq_true (by first|(with_reducible assumption)|assumption)
                 have q107:x3_1 < (l0.length:Int):=of_decide_eq_true (by first|(with_reducible assumption)|assumption)
                 obtain ⟨ad107,e107,hx107_0,hx107_1,hx107_2⟩:=at_T41 HR0.out x3_1 p107 q107
                 obtain rfl:ad101 = ad107:=(by injection e107)
                 replace p107:=eq_true p107
                 replace q107:=eq_true q107
                 have p108:0 ≤ (x3_1:Int):=of_decide_eq_true (by first|(with_reducible assumption)|assumption)
                 have q108:x3_1 < (l0.length:Int):=of_decide_eq_true (by first|(with_reducible assumption)|assumption)
                 obtain ⟨ad108,e108,hx108_0,hx108_1,hx108_2⟩:=at_T41 HR0.out x3_1 p108 q108
                 obtain rfl:ad101 = ad108:=(by injection e108)
                 replace p108:=eq_true p108
                 replace q108:=eq_true q108
                 go_wp2
                 repeat (go_quiet (fail);try go_wp2)
                 go_ret
                 exact ⟨by first|rfl|(simp;done)|(simp [*];done),by repeat (first|exact Drawn0.refl _|apply Drawn0.step)⟩
                ·rw [if_neg c21] at H
                 have c21b0:decide (73048 < ((rd_T41 l0 x3_1).f2)) = false:=decide_eq_false c21
                 clear c21
                 have H':=Aside0.mk H
                 clear H
                 have p107:0 ≤ (x3_1:Int):=of_decide_eq_true (by first|(with_reducible assumption)|assumption)
                 have q107:x3_1 < (l0.length:Int):=of_decide_eq_true (by first|(with_reducible assumption)|assumption)
                 obtain ⟨ad107,e107,hx107_0,hx107_1,hx107_2⟩:=at_T41 HR0.out x3_1 p107 q107
                 obtain rfl:ad101 = ad107:=(by injection e107)
                 replace p107:=eq_true p107
                 replace q107:=eq_true q107
                 have p108:0 ≤ (x3_1:Int):=of_decide_eq_true (by first|(with_reducible assumption)|assumption)
                 have q108:x3_1 < (l0.length:Int):=of_decide_eq_true (by first|(with_reducible assumption)|assumption)
                 obtain ⟨ad108,e108,hx108_0,hx108_1,hx108_2⟩:=at_T41 HR0.out x3_1 p108 q108
                 obtain rfl:ad101 = ad108:=(by injection e108)
                 replace p108:=eq_true p108
                 replace q108:=eq_true q108
                 go_wp2
                 repeat (go_quiet (fail);try go_wp2)
                 go_roundg kj12
                 case measure=>have:=HK1.out;have:=HJ6.out;have:=HJ12.out;omega
                 case rel=>exact ⟨(wrap64 (x3_1 + 1)),(by first|rfl|(simp;done)|(simp [*];done)),H',⟨by have:=HK1.out;have:=HJ6.out;have:=HJ12.out;omega⟩,by repeat (first|exact Drawn0.refl _|apply Drawn0.step)⟩
              ·rw [if_neg c19] at H
               exact absurd H (by simp)
             ·rw [if_neg c18] at H
              exact absurd H (by simp)
      ·replace c6:=Bool.eq_false_iff.mpr c6
       subst c6
       have H1:(some 10) = some r:=by rw [if_neg (show ¬ (false = true) by decide)] at H;exact H
       clear H
       have H:=H1
       clear H1
       obtain rfl:=Option.some.inj H
       have p101:0 ≤ (x3_1:Int):=of_decide_eq_true (by first|(with_reducible assumption)|assumption)
       have q101:x3_1 < (l0.length:Int):=of_decide_eq_true (by first|(with_reducible assumption)|assumption)
       obtain ⟨ad101,e101,hx101_0,hx101_1,hx101_2⟩:=at_T41 HR0.out x3_1 p101 q101
       cases e101
       replace p101:=eq_true p101
       replace q101:=eq_true q101
       go_wp2_with (first|(go_at_call 29;(with_reducible refine (contangoref03_Name.calls k1 ((rd_T41 l0 x3_1).f0) false _ A5.out).mono ?_);rintro e w' ⟨rfl,⟨nd,rfl⟩⟩;(try first|exact ⟨rfl,_,World.drewN_drewN _ _ _⟩|exact ⟨rfl,_,Eq.trans (World.drewN_drewN _ _ _) (congrArg (World.drewN _) (Nat.add_assoc _ _ _))⟩)))
       repeat (go_quiet (first|(go_at_call 29;(with_reducible refine (contangoref03_Name.calls k1 ((rd_T41 l0 x3_1).f0) false _ A5.out).mono ?_);rintro e w' ⟨rfl,⟨nd,rfl⟩⟩;(try first|exact ⟨rfl,_,World.drewN_drewN _ _ _⟩|exact ⟨rfl,_,Eq.trans (World.drewN_drewN _ _ _) (congrArg (World.drewN _) (Nat.add_assoc _ _ _))⟩)));try go_wp2_with (first|(go_at_call 29;(with_reducible refine (contangoref03_Name.calls k1 ((rd_T41 l0 x3_1).f0) false _ A5.out).mono ?_);rintro e w' ⟨rfl,⟨nd,rfl⟩⟩;(try first|exact ⟨rfl,_,World.drewN_drewN _ _ _⟩|exact ⟨rfl,_,Eq.trans (World.drewN_drewN _ _ _) (congrArg (World.drewN _) (Nat.add_assoc _ _ _))⟩))))
       go_ret
       exact ⟨by first|rfl|(simp;done)|(simp [*];done),by repeat (first|exact Drawn0.refl _|apply Drawn0.step)⟩
     ·rw [if_neg c4] at H
      exact absurd H (by simp)
    ·rw [if_neg c3] at H
     have c3b0:decide (x3_1 < (l0.length:Int)) = false:=decide_eq_false c3
     clear c3
     obtain rfl:=Option.some.inj H
     go_wp2
     repeat (go_quiet (fail);try go_wp2)
     go_ret
     exact ⟨by first|rfl|(simp;done)|(simp [*];done),by repeat (first|exact Drawn0.refl _|apply Drawn0.step)⟩
end Go.Proofs.Ytgmelgkcoejknaa.X
end
section
namespace Go.Proofs.Ytgmelgkcoejknaa.X
open Go.RowKit Go.Proofs.YtgmelgkcoejknaaW.PrintWords Go.Proofs.YtgmelgkcoejknaaW.PrintLast Go.Proofs.YtgmelgkcoejknaaW.PrintMore
attribute [local go_sem] max2_int min2_int max_two min_two max_three min_three max_four min_four
set_option linter.unusedVariables false
set_option linter.unusedSimpArgs false
def contangoref41_Of.l0:Nat → List (S41) → ByteArray → Int → Option (ByteArray × Int × Int × Bool)
 | 0,_,_,_=>none
 | k + 1,x0,x1,x6=>if x6 < (x0.length:Int) then (if 0 ≤ x6 then (if ((rd_T41 x0 x6).f0).toList = x1.toList then (some ((rd_T41 x0 x6).f0,(rd_T41 x0 x6).f1,(rd_T41 x0 x6).f2,true)) else (contangoref41_Of.l0 k x0 x1 (wrap64 (x6 + 1)))) else (none)) else (some ((⟨#[]⟩:ByteArray),0,0,false))
def contangoref41_Of.f (k:Nat) (l0:List (S41)) (a1:ByteArray):Option (ByteArray × Int × Int × Bool):=contangoref41_Of.l0 k l0 a1 0
theorem contangoref41_Of.mono_l:∀ k,(∀ y0 y1 y2,LeO (contangoref41_Of.l0 k y0 y1 y2) (contangoref41_Of.l0 (k + 1) y0 y1 y2))
 | 0=>fun _ _ _ r h=>by simp [contangoref41_Of.l0] at h
 | k + 1=>by
  have ih0:=contangoref41_Of.mono_l k
  ·intro y0 y1 y2
   unfold contangoref41_Of.l0
   repeat' first
   | (with_reducible exact ih0 _ _ _)
   | (with_reducible exact LeO.refl _)
   | (with_reducible exact LeO.none _)
   | (with_reducible refine LeO.ite ?_ ?_)
   | (with_reducible refine LeO.bind ?_ (fun _=>?_))
   | exact ih0 _ _ _
   | exact LeO.none _
   | refine LeO.ite ?_ ?_
   | refine LeO.bind ?_ (fun _=>?_)
theorem contangoref41_Of.mono:∀ a0 a1 k,LeO (contangoref41_Of.f k a0 a1) (contangoref41_Of.f (k + 1) a0 a1):=by
 intro a0 a1 k
 have ih0:=contangoref41_Of.mono_l k
 unfold contangoref41_Of.f
 repeat' first
   | (with_reducible exact ih0 _ _ _)
   | (with_reducible exact LeO.refl _)
   | (with_reducible exact LeO.none _)
   | (with_reducible refine LeO.ite ?_ ?_)
   | (with_reducible refine LeO.bind ?_ (fun _=>?_))
   | exact ih0 _ _ _
   | exact LeO.none _
   | refine LeO.ite ?_ ?_
   | refine LeO.bind ?_ (fun _=>?_)
set_option maxHeartbeats 8000000 in
set_option maxRecDepth 100000 in
theorem contangoref41_Of.calls (k:Nat) (A0:Option Addr) (c0:Nat) (l0:List (S41)) (a1:ByteArray) (r1:ByteArray) (r2:Int) (r3:Int) (r4:Bool) (w:World) (hr0:Kd.C k41 w A0 l0.length l0) (hc0:l0.length ≤ c0) (h:contangoref41_Of.f k l0 a1 = some (r1,r2,r3,r4)) :
  Calls Try.prog 18 #[.slice A0 l0.length c0,.string a1] w fun e w'=>e = .returned (.tuple #[.agg #[.string r1,.int .i64 r2,.int .i64 r3],.bool r4]) ∧ Below w.heap.size w w':=by
 have hu41:=Try.underlying41
 have HR0:=Aside0.mk hr0
 have HC0:=Aside0.mk hc0
 clear hr0 hc0
 have HB:=Aside0.mk (Below.refl w.heap.size w)
 have H:(contangoref41_Of.l0 k l0 a1 0) = some (r1,r2,r3,r4):=h
 clear h
 have H':=Aside0.mk H
 clear H
 go_enter Try.func18,Try.ntmps18
 go_wp2_with (first|((with_reducible refine gate_dst (N:=4) rfl ?_);refine box_event ?hg (N:=4) ?hd (cs:=#[.string (⟨#[]⟩:ByteArray),.int .i64 0,.int .i64 0]) (t:=41) ?hr ?_;(case hd=>rfl);(case hg=>rfl);(case hr=>first|(go_simp;done)|(go_simp;rfl));intro gb101 hg w3 hbox hb;have n0_:=Aside0.mk (below_step (by repeat (first|(with_reducible first|exact HB.out|apply below_alloc|apply pw_below_drewN|apply below_drew1)|exact HB.out)) hb);have n1_:=Aside0.mk (hbox);have n2_:=Aside0.mk ((by rw [hg];exact (below_size (by repeat (first|(with_reducible first|exact HB.out|apply below_alloc|apply pw_below_drewN|apply below_drew1)|exact HB.out))):w.heap.size ≤ gb101));have n3_:=Aside0.mk ((by rw [hg];exact (below_size (by repeat (first|(with_reducible first|exact HB.out|apply below_alloc|apply pw_below_drewN|apply below_drew1)|exact HB.out))):w.heap.size ≤ gb101));clear HB;have HB:=n0_;have BK101:=n1_;have GW101:=n2_;have GE101:=n3_;clear n0_ n1_ n2_ n3_;clear hb hbox hg))
 go_loopg [6] k (fun kq v6 w'=>∃ (x6_1:Int) (x102000_1:ByteArray) (x102001_1:Int) (x102002_1:Int),v6 = .int .i64 x6_1 ∧ Aside0 (contangoref41_Of.l0 kq l0 a1 x6_1 = some (r1,r2,r3,r4)) ∧ Aside0 (kq ≤ k) ∧ Aside0 (w'.heap[gb101]? = some (.cells #[.string x102000_1,.int .i64 x102001_1,.int .i64 x102002_1] 41 (0,0))) ∧ Aside0 (Below w.heap.size w w'))
 case atStart=>exact ⟨(0),((⟨#[]⟩:ByteArray)),(0),(0),(by first|rfl|(simp;done)|(simp [*];done)),H',⟨Nat.le_refl _⟩,⟨by (with_reducible repeat (first|refine blk_drewN ?_ _|refine blk_drew ?_|refine blk_alloc ?_ _));exact BK101.out⟩,⟨by repeat (first|(with_reducible first|exact HB.out|apply below_alloc|apply pw_below_drewN|apply below_drew1|refine below_set ?_ GE101.out)|exact HB.out)⟩⟩
 case round =>
  clear H'
  try clear c1
  try clear p2
  obtain ⟨x6_1,x102000_1,x102001_1,x102002_1,rfl,HA,HK1,BK101,HB⟩:=hrel
  cases gk with
  | zero=>exact absurd HA.out (by simp [contangoref41_Of.l0])
  | succ k1 =>
   have H:=HA.out
   clear HA
   simp only [contangoref41_Of.l0] at H
   by_cases c4:x6_1 < (l0.length:Int)
   ·rw [if_pos c4] at H
    have c4b0:decide (x6_1 < (l0.length:Int)) = true:=decide_eq_true c4
    clear c4
    by_cases c5:0 ≤ x6_1
    ·rw [if_pos c5] at H
     have c5b0:decide (0 ≤ x6_1) = true:=decide_eq_true c5
     clear c5
     by_cases c6:((rd_T41 l0 x6_1).f0).toList = a1.toList
     ·rw [if_pos c6] at H
      have c6b0:(((rd_T41 l0 x6_1).f0).toList == a1.toList) = true:=beq_iff_eq.mpr c6
      have c6b1:(((rd_T41 l0 x6_1).f0).toList != a1.toList) = false:=bne_eq_false_iff_eq.mpr c6
      clear c6
      simp only [Option.some.injEq,Prod.mk.injEq] at H
      obtain ⟨rfl,rfl,rfl,rfl⟩:=H
      have p102:0 ≤ (x6_1:Int):=of_decide_eq_true (by first|(with_reducible assumption)|assumption)
      have q102:x6_1 < (l0.length:Int):=of_decide_eq_true (by first|(with_reducible assumption)|assumption)
      obtain ⟨ad102,e102,hx102_0,hx102_1,hx102_2⟩:=at_T41 HR0.out x6_1 p102 q102
      cases e102
      replace hx102_0:=(HB.out.cell (World.block_lt_of_cell? w _ hx102_0)).trans hx102_0
      replace hx102_1:=(HB.out.cell (World.block_lt_of_cell? w _ hx102_1)).trans hx102_1
      replace hx102_2:=(HB.out.cell (World.block_lt_of_cell? w _ hx102_2)).trans hx102_2
      replace p102:=eq_true p102
      replace q102:=eq_true q102
      have p103:0 ≤ (x6_1:Int):=of_decide_eq_true (by first|(with_reducible assumption)|assumption)
      have q103:x6_1 < (l0.length:Int):=of_decide_eq_true (by first|(with_reducible assumption)|assumption)
      obtain ⟨ad103,e103,hx103_0,hx103_1,hx103_2⟩:=at_T41 HR0.out x6_1 p103 q103
      obtain rfl:ad102 = ad103:=(by injection e103)
      replace hx103_0:=(HB.out.cell (World.block_lt_of_cell? w _ hx103_0)).trans hx103_0
      replace hx103_1:=(HB.out.cell (World.block_lt_of_cell? w _ hx103_1)).trans hx103_1
      replace hx103_2:=(HB.out.cell (World.block_lt_of_cell? w _ hx103_2)).trans hx103_2
      replace p103:=eq_true p103
      replace q103:=eq_true q103
      have hcz7_0:wr.cell? ⟨gb101,0,none⟩ = some (.string x102000_1):=(blk_cell BK101.out 0).trans rfl
      have hcz7_1:wr.cell? ⟨gb101,1,none⟩ = some (.int .i64 x102001_1):=(blk_cell BK101.out 1).trans rfl
      have hcz7_2:wr.cell? ⟨gb101,2,none⟩ = some (.int .i64 x102002_1):=(blk_cell BK101.out 2).trans rfl
      have hfz7_0:=blk_frozen BK101.out 0
      have hfz7_1:=blk_frozen BK101.out 1
      have hfz7_2:=blk_frozen BK101.out 2
      go_wp2
      refine bodyPost_ret (results_ct rfl _ _ gb101 41 #[.string ((rd_T41 l0 x6_1).f0),.int .i64 ((rd_T41 l0 x6_1).f1),.int .i64 ((rd_T41 l0 x6_1).f2)] (0,0) _ rfl (by (with_reducible repeat (first|refine blk_drewN ?_ _|refine blk_drew ?_|refine blk_alloc ?_ _));refine blk_put (cs:=#[.string ((rd_T41 l0 x6_1).f0),.int .i64 ((rd_T41 l0 x6_1).f1),.int .i64 x102002_1]) ?_ 2 _ rfl;(with_reducible repeat (first|refine blk_drewN ?_ _|refine blk_drew ?_|refine blk_alloc ?_ _));refine blk_put (cs:=#[.string ((rd_T41 l0 x6_1).f0),.int .i64 x102001_1,.int .i64 x102002_1]) ?_ 1 _ rfl;(with_reducible repeat (first|refine blk_drewN ?_ _|refine blk_drew ?_|refine blk_alloc ?_ _));refine blk_put (cs:=#[.string x102000_1,.int .i64 x102001_1,.int .i64 x102002_1]) ?_ 0 _ rfl;(with_reducible repeat (first|refine blk_drewN ?_ _|refine blk_drew ?_|refine blk_alloc ?_ _));exact BK101.out) Try.underlying41 rfl (by kernel_rfl)) rfl ?_
      exact ⟨by first|rfl|(simp [errW_none,errW_some] <;> rfl)|(simp [*,errW_none,errW_some] <;> rfl),by repeat (first|(with_reducible first|exact HB.out|apply below_alloc|apply pw_below_drewN|apply below_drew1|refine below_set ?_ GE101.out)|exact HB.out)⟩
     ·rw [if_neg c6] at H
      have c6b0:(((rd_T41 l0 x6_1).f0).toList == a1.toList) = false:=beq_eq_false_iff_ne.mpr c6
      have c6b1:(((rd_T41 l0 x6_1).f0).toList != a1.toList) = true:=bne_iff_ne.mpr c6
      have H':=Aside0.mk H
      clear H
      have p102:0 ≤ (x6_1:Int):=of_decide_eq_true (by first|(with_reducible assumption)|assumption)
      have q102:x6_1 < (l0.length:Int):=of_decide_eq_true (by first|(with_reducible assumption)|assumption)
      obtain ⟨ad102,e102,hx102_0,hx102_1,hx102_2⟩:=at_T41 HR0.out x6_1 p102 q102
      cases e102
      replace hx102_0:=(HB.out.cell (World.block_lt_of_cell? w _ hx102_0)).trans hx102_0
      replace hx102_1:=(HB.out.cell (World.block_lt_of_cell? w _ hx102_1)).trans hx102_1
      replace hx102_2:=(HB.out.cell (World.block_lt_of_cell? w _ hx102_2)).trans hx102_2
      replace p102:=eq_true p102
      replace q102:=eq_true q102
      go_wp2
      go_roundg k1
      case measure=>have:=HK1.out;omega
      case rel=>exact ⟨(wrap64 (x6_1 + 1)),(x102000_1),(x102001_1),(x102002_1),(by first|rfl|(simp;done)|(simp [*];done)),H',⟨by have:=HK1.out;omega⟩,⟨by (with_reducible repeat (first|refine blk_drewN ?_ _|refine blk_drew ?_|refine blk_alloc ?_ _));exact BK101.out⟩,⟨by repeat (first|(with_reducible first|exact HB.out|apply below_alloc|apply pw_below_drewN|apply below_drew1|refine below_set ?_ GE101.out)|exact HB.out)⟩⟩
    ·rw [if_neg c5] at H
     exact absurd H (by simp)
   ·rw [if_neg c4] at H
    have c4b0:decide (x6_1 < (l0.length:Int)) = false:=decide_eq_false c4
    clear c4
    simp only [Option.some.injEq,Prod.mk.injEq] at H
    obtain ⟨rfl,rfl,rfl,rfl⟩:=H
    have hcz8_0:wr.cell? ⟨gb101,0,none⟩ = some (.string x102000_1):=(blk_cell BK101.out 0).trans rfl
    have hcz8_1:wr.cell? ⟨gb101,1,none⟩ = some (.int .i64 x102001_1):=(blk_cell BK101.out 1).trans rfl
    have hcz8_2:wr.cell? ⟨gb101,2,none⟩ = some (.int .i64 x102002_1):=(blk_cell BK101.out 2).trans rfl
    have hfz8_0:=blk_frozen BK101.out 0
    have hfz8_1:=blk_frozen BK101.out 1
    have hfz8_2:=blk_frozen BK101.out 2
    go_wp2
    refine bodyPost_ret (results_ct rfl _ _ gb101 41 #[.string (⟨#[]⟩:ByteArray),.int .i64 0,.int .i64 0] (0,0) _ rfl (by (with_reducible repeat (first|refine blk_drewN ?_ _|refine blk_drew ?_|refine blk_alloc ?_ _));refine blk_put (cs:=#[.string (⟨#[]⟩:ByteArray),.int .i64 0,.int .i64 x102002_1]) ?_ 2 _ rfl;(with_reducible repeat (first|refine blk_drewN ?_ _|refine blk_drew ?_|refine blk_alloc ?_ _));refine blk_put (cs:=#[.string (⟨#[]⟩:ByteArray),.int .i64 x102001_1,.int .i64 x102002_1]) ?_ 1 _ rfl;(with_reducible repeat (first|refine blk_drewN ?_ _|refine blk_drew ?_|refine blk_alloc ?_ _));refine blk_put (cs:=#[.string x102000_1,.int .i64 x102001_1,.int .i64 x102002_1]) ?_ 0 _ rfl;(with_reducible repeat (first|refine blk_drewN ?_ _|refine blk_drew ?_|refine blk_alloc ?_ _));exact BK101.out) Try.underlying41 rfl (by kernel_rfl)) rfl ?_
    exact ⟨by first|rfl|(simp [errW_none,errW_some] <;> rfl)|(simp [*,errW_none,errW_some] <;> rfl),by repeat (first|(with_reducible first|exact HB.out|apply below_alloc|apply pw_below_drewN|apply below_drew1|refine below_set ?_ GE101.out)|exact HB.out)⟩
end Go.Proofs.Ytgmelgkcoejknaa.X
end
section
namespace Go.Proofs.Ytgmelgkcoejknaa.X
open Go.RowKit Go.Proofs.YtgmelgkcoejknaaW.PrintWords Go.Proofs.YtgmelgkcoejknaaW.PrintLast Go.Proofs.YtgmelgkcoejknaaW.PrintMore
attribute [local go_sem] max2_int min2_int max_two min_two max_three min_three max_four min_four
set_option linter.unusedVariables false
set_option linter.unusedSimpArgs false
mutual
def contangoref41_Declare.j0:Nat → List (S41) → ByteArray → Int → Bool → Option ((List (S41)) × Int)
 | 0,_,_,_,_=>none
 | k + 1,x0,x1,x2,x35=>if x35 = true then (some (([]:List (S41)),15)) else (if (x0.length:Int) = 32 then (some (([]:List (S41)),8)) else (contangoref41_Declare.l0 k x0 x1 ([]:List (S41)) false 0 x1 1 x2))
def contangoref41_Declare.l0:Nat → List (S41) → ByteArray → List (S41) → Bool → Int → ByteArray → Int → Int → Option ((List (S41)) × Int)
 | 0,_,_,_,_,_,_,_,_=>none
 | k + 1,x0,x1,x12,x13,x14,x109000,x109001,x109002=>if x14 < (x0.length:Int) then (if x13 = true then (if 0 ≤ x14 then (if x12.length < 4398046511104 then (contangoref41_Declare.l0 k x0 x1 (x12 ++ [(⟨(rd_T41 x0 x14).f0,(rd_T41 x0 x14).f1,(rd_T41 x0 x14).f2⟩:S41)]) x13 (wrap64 (x14 + 1)) x109000 x109001 x109002) else (none)) else (none)) else (if 0 ≤ x14 then (if (Op.bytesLess x1.toList (((rd_T41 x0 x14).f0).toList)) = true then (if x12.length < 4398046511104 then ((some (x12 ++ [(⟨x109000,x109001,x109002⟩:S41)]:List (S41))).bind fun y114=>(if y114.length < 4398046511104 then (contangoref41_Declare.l0 k x0 x1 (y114 ++ [(⟨(rd_T41 x0 x14).f0,(rd_T41 x0 x14).f1,(rd_T41 x0 x14).f2⟩:S41)]) true (wrap64 (x14 + 1)) x109000 x109001 x109002) else (none))) else (none)) else (if x12.length < 4398046511104 then (contangoref41_Declare.l0 k x0 x1 (x12 ++ [(⟨(rd_T41 x0 x14).f0,(rd_T41 x0 x14).f1,(rd_T41 x0 x14).f2⟩:S41)]) x13 (wrap64 (x14 + 1)) x109000 x109001 x109002) else (none))) else (none))) else (if x13 = true then (some (x12,0)) else (if x12.length < 4398046511104 then (some ((x12 ++ [(⟨x109000,x109001,x109002⟩:S41)]),0)) else (none)))
end
def contangoref41_Declare.f (k:Nat) (l0:List (S41)) (a1:ByteArray) (a2:Int):Option ((List (S41)) × Int):=(contangoref41_Check.f k l0).bind fun t101=>(if t101 = 0 then ((contangoref03_Name.f k a1).bind fun t102=>(if t102 = true then ((contangoref41_Of.f k l0 a1).bind fun bt103=>(if bt103.2.2.2 = true then (some (([]:List (S41)),12)) else (if a2 < 0 then (contangoref41_Declare.j0 k l0 a1 a2 true) else (contangoref41_Declare.j0 k l0 a1 a2 (decide (a2 > 73048)))))) else (some (([]:List (S41)),10)))) else (some (([]:List (S41)),t101)))
theorem contangoref41_Declare.mono_l:∀ k,(∀ y0 y1 y2 y3,LeO (contangoref41_Declare.j0 k y0 y1 y2 y3) (contangoref41_Declare.j0 (k + 1) y0 y1 y2 y3)) ∧ (∀ y0 y1 y2 y3 y4 y5 y6 y7,LeO (contangoref41_Declare.l0 k y0 y1 y2 y3 y4 y5 y6 y7) (contangoref41_Declare.l0 (k + 1) y0 y1 y2 y3 y4 y5 y6 y7))
 | 0=>⟨fun _ _ _ _ r h=>by simp [contangoref41_Declare.j0] at h,fun _ _ _ _ _ _ _ _ r h=>by simp [contangoref41_Declare.l0] at h⟩
 | k + 1=>by
  obtain ⟨ih0,ih1⟩:=contangoref41_Declare.mono_l k
  refine ⟨?_,?_⟩
  ·intro y0 y1 y2 y3
   unfold contangoref41_Declare.j0
   repeat' first
   | (with_reducible exact ih0 _ _ _ _)
   | (with_reducible exact ih1 _ _ _ _ _ _ _ _)
   | (with_reducible exact contangoref03_Name.mono _ _)
   | (with_reducible exact contangoref41_Check.mono _ _)
   | (with_reducible exact contangoref41_Of.mono _ _ _)
   | (with_reducible exact LeO.refl _)
   | (with_reducible exact LeO.none _)
   | (with_reducible refine LeO.ite ?_ ?_)
   | (with_reducible refine LeO.bind ?_ (fun _=>?_))
   | exact ih0 _ _ _ _
   | exact ih1 _ _ _ _ _ _ _ _
   | exact contangoref03_Name.mono _ _
   | exact contangoref41_Check.mono _ _
   | exact contangoref41_Of.mono _ _ _
   | exact LeO.none _
   | refine LeO.ite ?_ ?_
   | refine LeO.bind ?_ (fun _=>?_)
  ·intro y0 y1 y2 y3 y4 y5 y6 y7
   unfold contangoref41_Declare.l0
   repeat' first
   | (with_reducible exact ih0 _ _ _ _)
   | (with_reducible exact ih1 _ _ _ _ _ _ _ _)
   | (with_reducible exact contangoref03_Name.mono _ _)
   | (with_reducible exact contangoref41_Check.mono _ _)
   | (with_reducible exact contangoref41_Of.mono _ _ _)
   | (with_reducible exact LeO.refl _)
   | (with_reducible exact LeO.none _)
   | (with_reducible refine LeO.ite ?_ ?_)
   | (with_reducible refine LeO.bind ?_ (fun _=>?_))
   | exact ih0 _ _ _ _
   | exact ih1 _ _ _ _ _ _ _ _
   | exact contangoref03_Name.mono _ _
   | exact contangoref41_Check.mono _ _
   | exact contangoref41_Of.mono _ _ _
   | exact LeO.none _
   | refine LeO.ite ?_ ?_
   | refine LeO.bind ?_ (fun _=>?_)
theorem contangoref41_Declare.mono:∀ a0 a1 a2 k,LeO (contangoref41_Declare.f k a0 a1 a2) (contangoref41_Declare.f (k + 1) a0 a1 a2):=by
 intro a0 a1 a2 k
 obtain ⟨ih0,ih1⟩:=contangoref41_Declare.mono_l k
 unfold contangoref41_Declare.f
 repeat' first
   | (with_reducible exact ih0 _ _ _ _)
   | (with_reducible exact ih1 _ _ _ _ _ _ _ _)
   | (with_reducible exact contangoref03_Name.mono _ _)
   | (with_reducible exact contangoref41_Check.mono _ _)
   | (with_reducible exact contangoref41_Of.mono _ _ _)
   | (with_reducible exact LeO.refl _)
   | (with_reducible exact LeO.none _)
   | (with_reducible refine LeO.ite ?_ ?_)
   | (with_reducible refine LeO.bind ?_ (fun _=>?_))
   | exact ih0 _ _ _ _
   | exact ih1 _ _ _ _ _ _ _ _
   | exact contangoref03_Name.mono _ _
   | exact contangoref41_Check.mono _ _
   | exact contangoref41_Of.mono _ _ _
   | exact LeO.none _
   | refine LeO.ite ?_ ?_
   | refine LeO.bind ?_ (fun _=>?_)
set_option maxHeartbeats 8000000 in
set_option maxRecDepth 100000 in
theorem contangoref41_Declare.calls (k:Nat) (A0:Option Addr) (c0:Nat) (l0:List (S41)) (a1:ByteArray) (a2:Int) (r1:List (S41)) (r2:Int) (w:World) (hr0:Kd.C k41 w A0 l0.length l0) (hc0:l0.length ≤ c0) (h:contangoref41_Declare.f k l0 a1 a2 = some (r1,r2)) :
  Calls Try.prog 17 #[.slice A0 l0.length c0,.string a1,.int .i64 a2] w fun e w'=>∃ v0_:Value,e = .returned (.tuple #[v0_,.int .i64 r2]) ∧ Kd.R k41 41 w' w.heap.size (fun _=>True) v0_ r1 ∧ Below w.heap.size w w':=by
 have hu41:=Try.underlying41
 have HR0:=Aside0.mk hr0
 have HC0:=Aside0.mk hc0
 clear hr0 hc0
 have HB:=Aside0.mk (Below.refl w.heap.size w)
 have H:((contangoref41_Check.f k l0).bind fun t101=>(if t101 = 0 then ((contangoref03_Name.f k a1).bind fun t102=>(if t102 = true then ((contangoref41_Of.f k l0 a1).bind fun bt103=>(if bt103.2.2.2 = true then (some (([]:List (S41)),12)) else (if a2 < 0 then (contangoref41_Declare.j0 k l0 a1 a2 true) else (contangoref41_Declare.j0 k l0 a1 a2 (decide (a2 > 73048)))))) else (some (([]:List (S41)),10)))) else (some (([]:List (S41)),t101)))) = some (r1,r2):=h
 clear h
 replace H:=Option.bind_eq_some_iff.mp H
 obtain ⟨t101,A40,H⟩:=H
 replace H:(if t101 = 0 then ((contangoref03_Name.f k a1).bind fun t102=>(if t102 = true then ((contangoref41_Of.f k l0 a1).bind fun bt103=>(if bt103.2.2.2 = true then (some (([]:List (S41)),12)) else (if a2 < 0 then (contangoref41_Declare.j0 k l0 a1 a2 true) else (contangoref41_Declare.j0 k l0 a1 a2 (decide (a2 > 73048)))))) else (some (([]:List (S41)),10)))) else (some (([]:List (S41)),t101))) = some (r1,r2):=H
 have A4:=Aside0.mk A40
 clear A40
 by_cases c5:t101 = 0
 ·rw [if_pos c5] at H
  have c5b0:(t101 == 0) = true:=beq_iff_eq.mpr c5
  have c5b1:(t101 != 0) = false:=bne_eq_false_iff_eq.mpr c5
  clear c5
  replace H:=Option.bind_eq_some_iff.mp H
  obtain ⟨t102,A60,H⟩:=H
  replace H:(if t102 = true then ((contangoref41_Of.f k l0 a1).bind fun bt103=>(if bt103.2.2.2 = true then (some (([]:List (S41)),12)) else (if a2 < 0 then (contangoref41_Declare.j0 k l0 a1 a2 true) else (contangoref41_Declare.j0 k l0 a1 a2 (decide (a2 > 73048)))))) else (some (([]:List (S41)),10))) = some (r1,r2):=H
  have A6:=Aside0.mk A60
  clear A60
  by_cases c7:t102 = true
  ·subst c7
   have H1:((contangoref41_Of.f k l0 a1).bind fun bt103=>(if bt103.2.2.2 = true then (some (([]:List (S41)),12)) else (if a2 < 0 then (contangoref41_Declare.j0 k l0 a1 a2 true) else (contangoref41_Declare.j0 k l0 a1 a2 (decide (a2 > 73048)))))) = some (r1,r2):=by rw [if_pos rfl] at H;exact H
   clear H
   have H:=H1
   clear H1
   replace H:=Option.bind_eq_some_iff.mp H
   obtain ⟨⟨t103,t104,t105,t106⟩,A80,H⟩:=H
   replace H:(if t106 = true then (some (([]:List (S41)),12)) else (if a2 < 0 then (contangoref41_Declare.j0 k l0 a1 a2 true) else (contangoref41_Declare.j0 k l0 a1 a2 (decide (a2 > 73048))))) = some (r1,r2):=H
   have A8:=Aside0.mk A80
   clear A80
   by_cases c9:t106 = true
   ·subst c9
    have H1:(some (([]:List (S41)),12)) = some (r1,r2):=by rw [if_pos rfl] at H;exact H
    clear H
    have H:=H1
    clear H1
    simp only [Option.some.injEq,Prod.mk.injEq] at H
    obtain ⟨rfl,rfl⟩:=H
    go_enter Try.func17,Try.ntmps17
    go_wp2_with (first|((with_reducible refine gate_callee (f:=19) rfl ?_);refine goesL_ (some 16) rfl rfl Try.func19 (by kernel_rfl) rfl #[.slice A0 l0.length c0] rfl (by (try simp only [List.map_toArray,List.map_cons,List.map_nil]);first|done|rfl|(simp only [List.length_drop,List.length_take];rfl)) ?_;(with_reducible refine (contangoref41_Check.calls k _ _ l0 t101 _ ?side1 ?side2 A4.out).mono ?_);(case side1=>repeat (first|exact HR0.out|(with_reducible refine Kd.C_alloc ?_ _)|(with_reducible refine Kd.C_drewN ?_ _)|(with_reducible refine Kd.C_drew ?_)));(case side2=>exact HC0.out);rintro e w' ⟨rfl,⟨nd,rfl⟩⟩;refine ⟨_,rfl,?_⟩)|((with_reducible refine gate_callee (f:=29) rfl ?_);refine goesL_ (some 21) rfl rfl Try.func29 (by kernel_rfl) rfl #[.string a1] rfl (by (try simp only [List.map_toArray,List.map_cons,List.map_nil]);first|done|rfl|(simp only [List.length_drop,List.length_take];rfl)) ?_;(with_reducible refine (contangoref03_Name.calls k a1 true _ A6.out).mono ?_);rintro e w' ⟨rfl,⟨nd,rfl⟩⟩;refine ⟨_,rfl,?_⟩)|((with_reducible refine gate_callee (f:=18) rfl ?_);refine goesL_ (some 26) rfl rfl Try.func18 (by kernel_rfl) rfl #[.slice A0 l0.length c0,.string a1] rfl (by (try simp only [List.map_toArray,List.map_cons,List.map_nil]);first|done|rfl|(simp only [List.length_drop,List.length_take];rfl)) ?_;(with_reducible refine (contangoref41_Of.calls k _ _ l0 a1 t103 t104 t105 true _ ?side1 ?side2 A8.out).mono ?_);(case side1=>repeat (first|exact HR0.out|(with_reducible refine Kd.C_alloc ?_ _)|(with_reducible refine Kd.C_drewN ?_ _)|(with_reducible refine Kd.C_drew ?_)));(case side2=>exact HC0.out);rintro e w10 ⟨rfl,hb⟩;refine ⟨_,rfl,?_⟩;have n0_:=Aside0.mk (below_step (by repeat (first|(with_reducible first|exact HB.out|apply below_alloc|apply pw_below_drewN|apply below_drew1)|exact HB.out)) hb);clear HB;have HB:=n0_;clear n0_;(try clear hb);(try clear hb2);(try clear hk);(try clear hi))|((with_reducible refine gate_dst (N:=9) rfl ?_);refine box_event ?hg (N:=9) ?hd (cs:=#[.string (⟨#[]⟩:ByteArray),.int .i64 0,.int .i64 0]) (t:=41) ?hr ?_;(case hd=>rfl);(case hg=>rfl);(case hr=>first|(go_simp;done)|(go_simp;rfl));intro gb107 hg w11 hbox hb;have n0_:=Aside0.mk (below_step (by repeat (first|(with_reducible first|exact HB.out|apply below_alloc|apply pw_below_drewN|apply below_drew1)|exact HB.out)) hb);have n1_:=Aside0.mk (hbox);have n2_:=Aside0.mk ((by rw [hg];exact (below_size (by repeat (first|(with_reducible first|exact HB.out|apply below_alloc|apply pw_below_drewN|apply below_drew1)|exact HB.out))):w.heap.size ≤ gb107));have n3_:=Aside0.mk ((by rw [hg];exact (below_size (by repeat (first|(with_reducible first|exact HB.out|apply below_alloc|apply pw_below_drewN|apply below_drew1)|exact HB.out))):w.heap.size ≤ gb107));clear HB;have HB:=n0_;have BK107:=n1_;have GW107:=n2_;have GE107:=n3_;clear n0_ n1_ n2_ n3_;clear hb hbox hg;have hcz12_0:w11.cell? ⟨gb107,0,none⟩ = some (.string (⟨#[]⟩:ByteArray)):=(blk_cell BK107.out 0).trans rfl;have hcz12_1:w11.cell? ⟨gb107,1,none⟩ = some (.int .i64 0):=(blk_cell BK107.out 1).trans rfl;have hcz12_2:w11.cell? ⟨gb107,2,none⟩ = some (.int .i64 0):=(blk_cell BK107.out 2).trans rfl;have hfz12_0:=blk_frozen BK107.out 0;have hfz12_1:=blk_frozen BK107.out 1;have hfz12_2:=blk_frozen BK107.out 2))
    go_ret2
    exact ⟨_,by first|rfl|(simp [errW_none,errW_some] <;> rfl)|(simp [*,errW_none,errW_some] <;> rfl),by first|exact Kd.R_nil _ _ _ _ _|exact Kd.N_nil _ _ _ _ _|exact Kd.V_nil _ _ _ _ _|exact Kd.Q_nil _ _ _ _ _|exact Kd.S_nil _ _ _ _ _,by repeat (first|(with_reducible first|exact HB.out|apply below_alloc|apply pw_below_drewN|apply below_drew1|refine below_set ?_ GE107.out)|exact HB.out)⟩
   ·replace c9:=Bool.eq_false_iff.mpr c9
    subst c9
    have H1:(if a2 < 0 then (contangoref41_Declare.j0 k l0 a1 a2 true) else (contangoref41_Declare.j0 k l0 a1 a2 (decide (a2 > 73048)))) = some (r1,r2):=by rw [if_neg (show ¬ (false = true) by decide)] at H;exact H
    clear H
    have H:=H1
    clear H1
    have HC13:=Aside0.mk H
    clear H
    go_enter Try.func17,Try.ntmps17
    go_upto_region 9 with (first|((with_reducible refine gate_callee (f:=19) rfl ?_);refine goesL_ (some 16) rfl rfl Try.func19 (by kernel_rfl) rfl #[.slice A0 l0.length c0] rfl (by (try simp only [List.map_toArray,List.map_cons,List.map_nil]);first|done|rfl|(simp only [List.length_drop,List.length_take];rfl)) ?_;(with_reducible refine (contangoref41_Check.calls k _ _ l0 t101 _ ?side1 ?side2 A4.out).mono ?_);(case side1=>repeat (first|exact HR0.out|(with_reducible refine Kd.C_alloc ?_ _)|(with_reducible refine Kd.C_drewN ?_ _)|(with_reducible refine Kd.C_drew ?_)));(case side2=>exact HC0.out);rintro e w' ⟨rfl,⟨nd,rfl⟩⟩;refine ⟨_,rfl,?_⟩)|((with_reducible refine gate_callee (f:=29) rfl ?_);refine goesL_ (some 21) rfl rfl Try.func29 (by kernel_rfl) rfl #[.string a1] rfl (by (try simp only [List.map_toArray,List.map_cons,List.map_nil]);first|done|rfl|(simp only [List.length_drop,List.length_take];rfl)) ?_;(with_reducible refine (contangoref03_Name.calls k a1 true _ A6.out).mono ?_);rintro e w' ⟨rfl,⟨nd,rfl⟩⟩;refine ⟨_,rfl,?_⟩)|((with_reducible refine gate_callee (f:=18) rfl ?_);refine goesL_ (some 26) rfl rfl Try.func18 (by kernel_rfl) rfl #[.slice A0 l0.length c0,.string a1] rfl (by (try simp only [List.map_toArray,List.map_cons,List.map_nil]);first|done|rfl|(simp only [List.length_drop,List.length_take];rfl)) ?_;(with_reducible refine (contangoref41_Of.calls k _ _ l0 a1 t103 t104 t105 false _ ?side1 ?side2 A8.out).mono ?_);(case side1=>repeat (first|exact HR0.out|(with_reducible refine Kd.C_alloc ?_ _)|(with_reducible refine Kd.C_drewN ?_ _)|(with_reducible refine Kd.C_drew ?_)));(case side2=>exact HC0.out);rintro e w14 ⟨rfl,hb⟩;refine ⟨_,rfl,?_⟩;have n0_:=Aside0.mk (below_step (by repeat (first|(with_reducible first|exact HB.out|apply below_alloc|apply pw_below_drewN|apply below_drew1)|exact HB.out)) hb);clear HB;have HB:=n0_;clear n0_;(try clear hb);(try clear hb2);(try clear hk);(try clear hi))|((with_reducible refine gate_dst (N:=9) rfl ?_);refine box_event ?hg (N:=9) ?hd (cs:=#[.string (⟨#[]⟩:ByteArray),.int .i64 0,.int .i64 0]) (t:=41) ?hr ?_;(case hd=>rfl);(case hg=>rfl);(case hr=>first|(go_simp;done)|(go_simp;rfl));intro gb107 hg w15 hbox hb;have n0_:=Aside0.mk (below_step (by repeat (first|(with_reducible first|exact HB.out|apply below_alloc|apply pw_below_drewN|apply below_drew1)|exact HB.out)) hb);have n1_:=Aside0.mk (hbox);have n2_:=Aside0.mk ((by rw [hg];exact (below_size (by repeat (first|(with_reducible first|exact HB.out|apply below_alloc|apply pw_below_drewN|apply below_drew1)|exact HB.out))):w.heap.size ≤ gb107));have n3_:=Aside0.mk ((by rw [hg];exact (below_size (by repeat (first|(with_reducible first|exact HB.out|apply below_alloc|apply pw_below_drewN|apply below_drew1)|exact HB.out))):w.heap.size ≤ gb107));clear HB;have HB:=n0_;have BK107:=n1_;have GW107:=n2_;have GE107:=n3_;clear n0_ n1_ n2_ n3_;clear hb hbox hg;have hcz16_0:w15.cell? ⟨gb107,0,none⟩ = some (.string (⟨#[]⟩:ByteArray)):=(blk_cell BK107.out 0).trans rfl;have hcz16_1:w15.cell? ⟨gb107,1,none⟩ = some (.int .i64 0):=(blk_cell BK107.out 1).trans rfl;have hcz16_2:w15.cell? ⟨gb107,2,none⟩ = some (.int .i64 0):=(blk_cell BK107.out 2).trans rfl;have hfz16_0:=blk_frozen BK107.out 0;have hfz16_1:=blk_frozen BK107.out 1;have hfz16_2:=blk_frozen BK107.out 2))
    (try simp only [Act.put,List.setIfInBounds_toArray,List.set_cons_zero,List.set_cons_succ])
    go_cut [35] (fun v35 wc=>∃ (kq:Nat) (x35_12:Bool),v35 = .bool x35_12 ∧ Aside0 (contangoref41_Declare.j0 kq l0 a1 a2 x35_12 = some (r1,r2)) ∧ Aside0 (kq ≤ k) ∧ Aside0 (wc.heap[gb107]? = some (.cells #[.string t103,.int .i64 t104,.int .i64 t105] 41 (0,0))) ∧ Aside0 (Below w.heap.size w wc))
    case first =>
     have H:=HC13.out
     clear HC13
     by_cases c17:a2 < 0
     ·rw [if_pos c17] at H
      have c17b0:decide (a2 < 0) = true:=decide_eq_true c17
      clear c17
      (first|rw [c17b0]|(simp only [i64_w,i32_w];rw [c17b0])|skip)
      have H':=Aside0.mk H
      clear H
      go_wp2
      go_meet
      case rel=>exact ⟨_,(true),(by first|rfl|(simp;done)|(simp [*];done)),H',⟨by first|omega|exact Nat.le_refl _⟩,⟨by (with_reducible repeat (first|refine blk_drewN ?_ _|refine blk_drew ?_|refine blk_alloc ?_ _));refine blk_put (cs:=#[.string t103,.int .i64 t104,.int .i64 0]) ?_ 2 _ rfl;(with_reducible repeat (first|refine blk_drewN ?_ _|refine blk_drew ?_|refine blk_alloc ?_ _));refine blk_put (cs:=#[.string t103,.int .i64 0,.int .i64 0]) ?_ 1 _ rfl;(with_reducible repeat (first|refine blk_drewN ?_ _|refine blk_drew ?_|refine blk_alloc ?_ _));refine blk_put (cs:=#[.string (⟨#[]⟩:ByteArray),.int .i64 0,.int .i64 0]) ?_ 0 _ rfl;(with_reducible repeat (first|refine blk_drewN ?_ _|refine blk_drew ?_|refine blk_alloc ?_ _));exact BK107.out⟩,⟨by repeat (first|(with_reducible first|exact HB.out|apply below_alloc|apply pw_below_drewN|apply below_drew1|refine below_set ?_ GE107.out)|exact HB.out)⟩⟩
     ·rw [if_neg c17] at H
      have c17b0:decide (a2 < 0) = false:=decide_eq_false c17
      clear c17
      (first|rw [c17b0]|(simp only [i64_w,i32_w];rw [c17b0])|skip)
      have H':=Aside0.mk H
      clear H
      go_wp2
      go_meet
      case rel=>exact ⟨_,(decide (a2 > 73048)),(by first|rfl|(simp;done)|(simp [*];done)),H',⟨by first|omega|exact Nat.le_refl _⟩,⟨by (with_reducible repeat (first|refine blk_drewN ?_ _|refine blk_drew ?_|refine blk_alloc ?_ _));refine blk_put (cs:=#[.string t103,.int .i64 t104,.int .i64 0]) ?_ 2 _ rfl;(with_reducible repeat (first|refine blk_drewN ?_ _|refine blk_drew ?_|refine blk_alloc ?_ _));refine blk_put (cs:=#[.string t103,.int .i64 0,.int .i64 0]) ?_ 1 _ rfl;(with_reducible repeat (first|refine blk_drewN ?_ _|refine blk_drew ?_|refine blk_alloc ?_ _));refine blk_put (cs:=#[.string (⟨#[]⟩:ByteArray),.int .i64 0,.int .i64 0]) ?_ 0 _ rfl;(with_reducible repeat (first|refine blk_drewN ?_ _|refine blk_drew ?_|refine blk_alloc ?_ _));exact BK107.out⟩,⟨by repeat (first|(with_reducible first|exact HB.out|apply below_alloc|apply pw_below_drewN|apply below_drew1|refine below_set ?_ GE107.out)|exact HB.out)⟩⟩
    case rest =>
     clear HC13
     try clear c1
     try clear c2
     try clear p2
     try clear c5
     try clear c5b0
     try clear c5b1
     try clear c7
     try clear c9
     try clear c17
     try clear c17b0
     try clear hcz12_0
     try clear hcz12_1
     try clear hcz12_2
     try clear hcz16_0
     try clear hcz16_1
     try clear hcz16_2
     try clear hfz12_0
     try clear hfz12_1
     try clear hfz12_2
     try clear hfz16_0
     try clear hfz16_1
     try clear hfz16_2
     obtain ⟨kq,x35_12,rfl,HA,HJ12,BK107,HB⟩:=hcut
     cases kq with
     | zero=>exact absurd HA.out (by simp [contangoref41_Declare.j0])
     | succ kj12 =>
      have H:=HA.out
      clear HA
      simp only [contangoref41_Declare.j0] at H
      by_cases c18:x35_12 = true
      ·subst c18
       have H1:(some (([]:List (S41)),15)) = some (r1,r2):=by rw [if_pos rfl] at H;exact H
       clear H
       have H:=H1
       clear H1
       simp only [Option.some.injEq,Prod.mk.injEq] at H
       obtain ⟨rfl,rfl⟩:=H
       go_wp2
       go_ret2
       exact ⟨_,by first|rfl|(simp [errW_none,errW_some] <;> rfl)|(simp [*,errW_none,errW_some] <;> rfl),by first|exact Kd.R_nil _ _ _ _ _|exact Kd.N_nil _ _ _ _ _|exact Kd.V_nil _ _ _ _ _|exact Kd.Q_nil _ _ _ _ _|exact Kd.S_nil _ _ _ _ _,by repeat (first|(with_reducible first|exact HB.out|apply below_alloc|apply pw_below_drewN|apply below_drew1|refine below_set ?_ GE107.out)|exact HB.out)⟩
      ·replace c18:=Bool.eq_false_iff.mpr c18
       subst c18
       have H1:(if (l0.length:Int) = 32 then (some (([]:List (S41)),8)) else (contangoref41_Declare.l0 kj12 l0 a1 ([]:List (S41)) false 0 a1 1 a2)) = some (r1,r2):=by rw [if_neg (show ¬ (false = true) by decide)] at H;exact H
       clear H
       have H:=H1
       clear H1
       by_cases c19:(l0.length:Int) = 32
       ·rw [if_pos c19] at H
        have c19b0:((l0.length:Int) == 32) = true:=beq_iff_eq.mpr c19
        have c19b1:((l0.length:Int) != 32) = false:=bne_eq_false_iff_eq.mpr c19
        clear c19
        simp only [Option.some.injEq,Prod.mk.injEq] at H
        obtain ⟨rfl,rfl⟩:=H
        go_wp2
        go_ret2
        exact ⟨_,by first|rfl|(simp [errW_none,errW_some] <;> rfl)|(simp [*,errW_none,errW_some] <;> rfl),by first|exact Kd.R_nil _ _ _ _ _|exact Kd.N_nil _ _ _ _ _|exact Kd.V_nil _ _ _ _ _|exact Kd.Q_nil _ _ _ _ _|exact Kd.S_nil _ _ _ _ _,by repeat (first|(with_reducible first|exact HB.out|apply below_alloc|apply pw_below_drewN|apply below_drew1|refine below_set ?_ GE107.out)|exact HB.out)⟩
       ·rw [if_neg c19] at H
        have c19b0:((l0.length:Int) == 32) = false:=beq_eq_false_iff_ne.mpr c19
        have c19b1:((l0.length:Int) != 32) = true:=bne_iff_ne.mpr c19
        have H':=Aside0.mk H
        clear H
        go_wp2_with (first|((with_reducible refine gate_dst (N:=11) rfl ?_);refine box_event ?hg (N:=11) ?hd (cs:=#[.string (⟨#[]⟩:ByteArray),.int .i64 0,.int .i64 0]) (t:=41) ?hr ?_;(case hd=>rfl);(case hg=>rfl);(case hr=>first|(go_simp;done)|(go_simp;rfl));intro gb108 hg w20 hbox hb;have n0_:=Aside0.mk (blk_below (g:=gb107) (o:=.cells #[.string t103,.int .i64 t104,.int .i64 t105] 41 (0,0)) (by (with_reducible repeat (first|refine blk_drewN ?_ _|refine blk_drew ?_|refine blk_alloc ?_ _));exact BK107.out) hb);have n1_:=Aside0.mk (below_step (by repeat (first|(with_reducible first|exact HB.out|apply below_alloc|apply pw_below_drewN|apply below_drew1|refine below_set ?_ GE107.out)|exact HB.out)) hb);have n2_:=Aside0.mk (hbox);have n3_:=Aside0.mk ((by rw [hg];exact (below_size (by repeat (first|(with_reducible first|exact HB.out|apply below_alloc|apply pw_below_drewN|apply below_drew1|refine below_set ?_ GE107.out)|exact HB.out))):w.heap.size ≤ gb108));have n4_:=Aside0.mk ((by rw [hg];exact (below_size (by repeat (first|(with_reducible first|exact HB.out|apply below_alloc|apply pw_below_drewN|apply below_drew1|refine below_set ?_ GE107.out)|exact HB.out))):w.heap.size ≤ gb108));have n5_:=Aside0.mk ((by rw [hg];exact Nat.ne_of_lt (blk_lt (g:=gb107) (o:=.cells #[.string t103,.int .i64 t104,.int .i64 t105] 41 (0,0)) (by (with_reducible repeat (first|refine blk_drewN ?_ _|refine blk_drew ?_|refine blk_alloc ?_ _));exact BK107.out)):gb107 ≠ gb108));have n6_:=Aside0.mk ((by rw [hg];exact Nat.ne_of_gt (blk_lt (g:=gb107) (o:=.cells #[.string t103,.int .i64 t104,.int .i64 t105] 41 (0,0)) (by (with_reducible repeat (first|refine blk_drewN ?_ _|refine blk_drew ?_|refine blk_alloc ?_ _));exact BK107.out)):gb108 ≠ gb107));clear BK107;clear HB;have BK107:=n0_;have HB:=n1_;have BK108:=n2_;have GW108:=n3_;have GE108:=n4_;have NB107_108:=n5_;have NB108_107:=n6_;clear n0_ n1_ n2_ n3_ n4_ n5_ n6_;clear hb hbox hg;have hnb21:=NB108_107.out;have hnc21:=NB107_108.out;have hcz22_0:w20.cell? ⟨gb108,0,none⟩ = some (.string (⟨#[]⟩:ByteArray)):=(blk_cell BK108.out 0).trans rfl;have hcz22_1:w20.cell? ⟨gb108,1,none⟩ = some (.int .i64 0):=(blk_cell BK108.out 1).trans rfl;have hcz22_2:w20.cell? ⟨gb108,2,none⟩ = some (.int .i64 0):=(blk_cell BK108.out 2).trans rfl;have hfz22_0:=blk_frozen BK108.out 0;have hfz22_1:=blk_frozen BK108.out 1;have hfz22_2:=blk_frozen BK108.out 2))
        go_loopg [12,13,14] kj12 (fun kq v12 v13 v14 w'=>∃ (x12_2:List (S41)) (x13_2:Bool) (x14_2:Int),v13 = .bool x13_2 ∧ v14 = .int .i64 x14_2 ∧ Aside0 (contangoref41_Declare.l0 kq l0 a1 x12_2 x13_2 x14_2 a1 1 a2 = some (r1,r2)) ∧ Aside0 (kq ≤ kj12) ∧ Aside0 (Kd.R k41 41 w' w.heap.size (fun k_=>k_ ≠ gb107 ∧ k_ ≠ gb108) v12 x12_2) ∧ Aside0 (w'.heap[gb107]? = some (.cells #[.string t103,.int .i64 t104,.int .i64 t105] 41 (0,0))) ∧ Aside0 (w'.heap[gb108]? = some (.cells #[.string a1,.int .i64 1,.int .i64 a2] 41 (0,0))) ∧ Aside0 (Below w.heap.size w w'))
        case atStart=>exact ⟨(([]:List (S41))),(false),(0),(by first|rfl|(simp;done)|(simp [*];done)),(by first|rfl|(simp;done)|(simp [*];done)),H',⟨Nat.le_refl _⟩,⟨by first|exact Kd.R_nil _ _ _ _ _|exact Kd.N_nil _ _ _ _ _|exact Kd.V_nil _ _ _ _ _|exact Kd.Q_nil _ _ _ _ _|exact Kd.S_nil _ _ _ _ _⟩,⟨by (with_reducible repeat (first|refine blk_drewN ?_ _|refine blk_drew ?_|refine blk_alloc ?_ _));refine blk_far ?_ NB107_108.out _;(with_reducible repeat (first|refine blk_drewN ?_ _|refine blk_drew ?_|refine blk_alloc ?_ _));refine blk_far ?_ NB107_108.out _;(with_reducible repeat (first|refine blk_drewN ?_ _|refine blk_drew ?_|refine blk_alloc ?_ _));refine blk_far ?_ NB107_108.out _;(with_reducible repeat (first|refine blk_drewN ?_ _|refine blk_drew ?_|refine blk_alloc ?_ _));exact BK107.out⟩,⟨by (with_reducible repeat (first|refine blk_drewN ?_ _|refine blk_drew ?_|refine blk_alloc ?_ _));refine blk_put (cs:=#[.string a1,.int .i64 1,.int .i64 0]) ?_ 2 _ rfl;(with_reducible repeat (first|refine blk_drewN ?_ _|refine blk_drew ?_|refine blk_alloc ?_ _));refine blk_put (cs:=#[.string a1,.int .i64 0,.int .i64 0]) ?_ 1 _ rfl;(with_reducible repeat (first|refine blk_drewN ?_ _|refine blk_drew ?_|refine blk_alloc ?_ _));refine blk_put (cs:=#[.string (⟨#[]⟩:ByteArray),.int .i64 0,.int .i64 0]) ?_ 0 _ rfl;(with_reducible repeat (first|refine blk_drewN ?_ _|refine blk_drew ?_|refine blk_alloc ?_ _));exact BK108.out⟩,⟨by repeat (first|(with_reducible first|exact HB.out|apply below_alloc|apply pw_below_drewN|apply below_drew1|refine below_set ?_ GE107.out|refine below_set ?_ GE108.out)|exact HB.out)⟩⟩
        case round =>
         clear H'
         try clear c1
         try clear c2
         try clear p2
         try clear c5
         try clear c5b0
         try clear c5b1
         try clear c7
         try clear c9
         try clear c17
         try clear c17b0
         try clear c18
         try clear c19
         try clear c19b0
         try clear c19b1
         try clear c21
         try clear hcz12_0
         try clear hcz12_1
         try clear hcz12_2
         try clear hcz16_0
         try clear hcz16_1
         try clear hcz16_2
         try clear hcz22_0
         try clear hcz22_1
         try clear hcz22_2
         try clear hfz12_0
         try clear hfz12_1
         try clear hfz12_2
         try clear hfz16_0
         try clear hfz16_1
         try clear hfz16_2
         try clear hfz22_0
         try clear hfz22_1
         try clear hfz22_2
         try clear p2
         obtain ⟨x12_2,x13_2,x14_2,rfl,rfl,HA,HK2,HO_12,BK107,BK108,HB⟩:=hrel
         cases gk with
         | zero=>exact absurd HA.out (by simp [contangoref41_Declare.l0])
         | succ k2 =>
          have H:=HA.out
          clear HA
          simp only [contangoref41_Declare.l0] at H
          by_cases c23:x14_2 < (l0.length:Int)
          ·rw [if_pos c23] at H
           have c23b0:decide (x14_2 < (l0.length:Int)) = true:=decide_eq_true c23
           clear c23
           by_cases c24:x13_2 = true
           ·subst c24
            have H1:(if 0 ≤ x14_2 then (if x12_2.length < 4398046511104 then (contangoref41_Declare.l0 k2 l0 a1 (x12_2 ++ [(⟨(rd_T41 l0 x14_2).f0,(rd_T41 l0 x14_2).f1,(rd_T41 l0 x14_2).f2⟩:S41)]) true (wrap64 (x14_2 + 1)) a1 1 a2) else (none)) else (none)) = some (r1,r2):=by rw [if_pos rfl] at H;exact H
            clear H
            have H:=H1
            clear H1
            by_cases c25:0 ≤ x14_2
            ·rw [if_pos c25] at H
             have c25b0:decide (0 ≤ x14_2) = true:=decide_eq_true c25
             clear c25
             by_cases c26:x12_2.length < 4398046511104
             ·rw [if_pos c26] at H
              have LMc26:=Aside0.mk c26
              clear c26
              obtain ⟨y110,hy110⟩:∃ y_:List (S41),y_ = (x12_2 ++ [(⟨(rd_T41 l0 x14_2).f0,(rd_T41 l0 x14_2).f1,(rd_T41 l0 x14_2).f2⟩:S41)]):=⟨_,rfl⟩
              replace H:(contangoref41_Declare.l0 k2 l0 a1 y110 true (wrap64 (x14_2 + 1)) a1 1 a2) = some (r1,r2):=by first|(rw [hy110];with_reducible exact H)|(have H2_:=(Option.bind_some _ _).symm.trans H;rw [hy110];with_reducible exact H2_)|(have H2_:=(Option.bind_some _ _).symm.trans H;with_reducible exact H2_)|with_reducible exact H|(rw [hy110];exact H)|exact H
              have Ny110:=Aside0.mk hy110
              clear hy110
              have H':=Aside0.mk H
              clear H
              have p109:0 ≤ (x14_2:Int):=of_decide_eq_true (by first|(with_reducible assumption)|assumption)
              have q109:x14_2 < (l0.length:Int):=of_decide_eq_true (by first|(with_reducible assumption)|assumption)
              obtain ⟨ad109,e109,hx109_0,hx109_1,hx109_2⟩:=at_T41 HR0.out x14_2 p109 q109
              cases e109
              replace hx109_0:=(HB.out.cell (World.block_lt_of_cell? w _ hx109_0)).trans hx109_0
              replace hx109_1:=(HB.out.cell (World.block_lt_of_cell? w _ hx109_1)).trans hx109_1
              replace hx109_2:=(HB.out.cell (World.block_lt_of_cell? w _ hx109_2)).trans hx109_2
              replace p109:=eq_true p109
              replace q109:=eq_true q109
              go_wp2_with (first|((with_reducible refine gate_builtin (b:=.append) (xs:=#[.tmp 63,.tmp 68]) rfl ?_);at_builtin;refine Kd.R_append k41 (w0:=w) w.heap.size rfl (.tmp 63) (.tmp 68) 22 41 (.agg #[(.string ⟨#[]⟩),(.int .i64 0),(.int .i64 0)]) 32 rfl Try.underlying22 info41 rfl (by decide) (by omega) u12 x12_2 (⟨(rd_T41 l0 x14_2).f0,(rd_T41 l0 x14_2).f1,(rd_T41 l0 x14_2).f2⟩:S41) [.string ((rd_T41 l0 x14_2).f0),.int .i64 ((rd_T41 l0 x14_2).f1),.int .i64 ((rd_T41 l0 x14_2).f2)] (fun k_=>k_ ≠ gb107 ∧ k_ ≠ gb108) (fun _=>False) rfl rfl ?aP (fun _ hk=>hk.elim) ?aF ?aO ?aB ?aS ?aL ?_;(case aP=>exact k41_mkM _ _ _ (⟨(rd_T41 l0 x14_2).f0,(rd_T41 l0 x14_2).f1,(rd_T41 l0 x14_2).f2⟩:S41));(case aB=>exact (by repeat (first|(with_reducible first|exact HB.out|apply below_alloc|apply pw_below_drewN|apply below_drew1|refine below_set ?_ GE107.out|refine below_set ?_ GE108.out)|exact HB.out)));(case aF=>exact (fun k_ hk=>⟨Kd.freshB (g:=gb107) (o:=.cells #[.string t103,.int .i64 t104,.int .i64 t105] 41 (0,0)) (by (with_reducible repeat (first|refine blk_drewN ?_ _|refine blk_drew ?_|refine blk_alloc ?_ _));exact BK107.out) k_ hk,Kd.freshB (g:=gb108) (o:=.cells #[.string a1,.int .i64 1,.int .i64 a2] 41 (0,0)) (by (with_reducible repeat (first|refine blk_drewN ?_ _|refine blk_drew ?_|refine blk_alloc ?_ _));exact BK108.out) k_ hk⟩));(case aO=>exact (by (with_reducible repeat (first|apply Kd.R_alloc|apply Kd.R_drewN|apply Kd.R_drew));exact HO_12.out));(case aS=>exact (below_size (by repeat (first|(with_reducible first|exact HB.out|apply below_alloc|apply pw_below_drewN|apply below_drew1|refine below_set ?_ GE107.out|refine below_set ?_ GE108.out)|exact HB.out))));(case aL=>have:=LMc26.out;omega);intro v111 w27 ho hb hg hat;rw [← Ny110.out] at ho;have n0_:=Aside0.mk (blk_grown (g:=gb107) (o:=.cells #[.string t103,.int .i64 t104,.int .i64 t105] 41 (0,0)) (by (with_reducible repeat (first|refine blk_drewN ?_ _|refine blk_drew ?_|refine blk_alloc ?_ _));exact BK107.out) hg (Kd.R_away HO_12.out (fun _ hk=>hk.1)));have n1_:=Aside0.mk (blk_grown (g:=gb108) (o:=.cells #[.string a1,.int .i64 1,.int .i64 a2] 41 (0,0)) (by (with_reducible repeat (first|refine blk_drewN ?_ _|refine blk_drew ?_|refine blk_alloc ?_ _));exact BK108.out) hg (Kd.R_away HO_12.out (fun _ hk=>hk.2)));have n2_:=Aside0.mk (hb);have n3_:=Aside0.mk (ho);clear BK107;clear BK108;clear HB;clear HO_12;have BK107:=n0_;have BK108:=n1_;have HB:=n2_;have HO112:=n3_;clear n0_ n1_ n2_ n3_;clear ho hb hg hat))
              go_roundg k2
              case measure=>have:=HJ12.out;have:=HK2.out;omega
              case rel=>exact ⟨(y110),(true),(wrap64 (x14_2 + 1)),(by first|rfl|(simp;done)|(simp [*];done)),(by first|rfl|(simp;done)|(simp [*];done)),H',⟨by have:=HJ12.out;have:=HK2.out;omega⟩,⟨by (with_reducible repeat (first|apply Kd.R_alloc|apply Kd.R_drewN|apply Kd.R_drew));exact HO112.out⟩,⟨by (with_reducible repeat (first|refine blk_drewN ?_ _|refine blk_drew ?_|refine blk_alloc ?_ _));exact BK107.out⟩,⟨by (with_reducible repeat (first|refine blk_drewN ?_ _|refine blk_drew ?_|refine blk_alloc ?_ _));exact BK108.out⟩,⟨by repeat (first|(with_reducible first|exact HB.out|apply below_alloc|apply pw_below_drewN|apply below_drew1|refine below_set ?_ GE107.out|refine below_set ?_ GE108.out)|exact HB.out)⟩⟩
             ·rw [if_neg c26] at H
              exact absurd H (by simp)
            ·rw [if_neg c25] at H
             exact absurd H (by simp)
           ·replace c24:=Bool.eq_false_iff.mpr c24
            subst c24
            have H1:(if 0 ≤ x14_2 then (if (Op.bytesLess a1.toList (((rd_T41 l0 x14_2).f0).toList)) = true then (if x12_2.length < 4398046511104 then ((some (x12_2 ++ [(⟨a1,1,a2⟩:S41)]:List (S41))).bind fun y114=>(if y114.length < 4398046511104 then (contangoref41_Declare.l0 k2 l0 a1 (y114 ++ [(⟨(rd_T41 l0 x14_2).f0,(rd_T41 l0 x14_2).f1,(rd_T41 l0 x14_2).f2⟩:S41)]) true (wrap64 (x14_2 + 1)) a1 1 a2) else (none))) else (none)) else (if x12_2.length < 4398046511104 then (contangoref41_Declare.l0 k2 l0 a1 (x12_2 ++ [(⟨(rd_T41 l0 x14_2).f0,(rd_T41 l0 x14_2).f1,(rd_T41 l0 x14_2).f2⟩:S41)]) false (wrap64 (x14_2 + 1)) a1 1 a2) else (none))) else (none)) = some (r1,r2):=by rw [if_neg (show ¬ (false = true) by decide)] at H;exact H
            clear H
            have H:=H1
            clear H1
            by_cases c28:0 ≤ x14_2
            ·rw [if_pos c28] at H
             have c28b0:decide (0 ≤ x14_2) = true:=decide_eq_true c28
             clear c28
             by_cases c29:(Op.bytesLess a1.toList (((rd_T41 l0 x14_2).f0).toList)) = true
             ·rw [if_pos c29] at H
              have c29b0:(Op.bytesLess a1.toList (((rd_T41 l0 x14_2).f0).toList)) = true:=c29
              clear c29
              by_cases c30:x12_2.length < 4398046511104
              ·rw [if_pos c30] at H
               have LMc30:=Aside0.mk c30
               clear c30
               obtain ⟨y114,hy114⟩:∃ y_:List (S41),y_ = (x12_2 ++ [(⟨a1,1,a2⟩:S41)]):=⟨_,rfl⟩
               replace H:(if y114.length < 4398046511104 then (contangoref41_Declare.l0 k2 l0 a1 (y114 ++ [(⟨(rd_T41 l0 x14_2).f0,(rd_T41 l0 x14_2).f1,(rd_T41 l0 x14_2).f2⟩:S41)]) true (wrap64 (x14_2 + 1)) a1 1 a2) else (none)) = some (r1,r2):=by first|(rw [hy114];with_reducible exact H)|(have H2_:=(Option.bind_some _ _).symm.trans H;rw [hy114];with_reducible exact H2_)|(have H2_:=(Option.bind_some _ _).symm.trans H;with_reducible exact H2_)|with_reducible exact H|(rw [hy114];exact H)|exact H
               have Ny114:=Aside0.mk hy114
               clear hy114
               by_cases c31:y114.length < 4398046511104
               ·rw [if_pos c31] at H
                have LMc31:=Aside0.mk c31
                clear c31
                obtain ⟨y118,hy118⟩:∃ y_:List (S41),y_ = (y114 ++ [(⟨(rd_T41 l0 x14_2).f0,(rd_T41 l0 x14_2).f1,(rd_T41 l0 x14_2).f2⟩:S41)]):=⟨_,rfl⟩
                replace H:(contangoref41_Declare.l0 k2 l0 a1 y118 true (wrap64 (x14_2 + 1)) a1 1 a2) = some (r1,r2):=by first|(rw [hy118];with_reducible exact H)|(have H2_:=(Option.bind_some _ _).symm.trans H;rw [hy118];with_reducible exact H2_)|(have H2_:=(Option.bind_some _ _).symm.trans H;with_reducible exact H2_)|with_reducible exact H|(rw [hy118];exact H)|exact H
                have Ny118:=Aside0.mk hy118
                clear hy118
                have H':=Aside0.mk H
                clear H
                have p113:0 ≤ (x14_2:Int):=of_decide_eq_true (by first|(with_reducible assumption)|assumption)
                have q113:x14_2 < (l0.length:Int):=of_decide_eq_true (by first|(with_reducible assumption)|assumption)
                obtain ⟨ad113,e113,hx113_0,hx113_1,hx113_2⟩:=at_T41 HR0.out x14_2 p113 q113
                cases e113
                replace hx113_0:=(HB.out.cell (World.block_lt_of_cell? w _ hx113_0)).trans hx113_0
                replace hx113_1:=(HB.out.cell (World.block_lt_of_cell? w _ hx113_1)).trans hx113_1
                replace hx113_2:=(HB.out.cell (World.block_lt_of_cell? w _ hx113_2)).trans hx113_2
                replace p113:=eq_true p113
                replace q113:=eq_true q113
                have hnb32:=NB108_107.out
                have hnc32:=NB107_108.out
                have hcz33_0:wr.cell? ⟨gb108,0,none⟩ = some (.string a1):=(blk_cell BK108.out 0).trans rfl
                have hcz33_1:wr.cell? ⟨gb108,1,none⟩ = some (.int .i64 1):=(blk_cell BK108.out 1).trans rfl
                have hcz33_2:wr.cell? ⟨gb108,2,none⟩ = some (.int .i64 a2):=(blk_cell BK108.out 2).trans rfl
                have hfz33_0:=blk_frozen BK108.out 0
                have hfz33_1:=blk_frozen BK108.out 1
                have hfz33_2:=blk_frozen BK108.out 2
                go_wp2_with (first|((with_reducible refine gate_builtin (b:=.append) (xs:=#[.tmp 59,.tmp 61]) rfl ?_);at_builtin;refine Kd.R_append k41 (w0:=w) w.heap.size rfl (.tmp 59) (.tmp 61) 22 41 (.agg #[(.string ⟨#[]⟩),(.int .i64 0),(.int .i64 0)]) 32 rfl Try.underlying22 info41 rfl (by decide) (by omega) u12 x12_2 (⟨a1,1,a2⟩:S41) [.string a1,.int .i64 1,.int .i64 a2] (fun k_=>k_ ≠ gb107 ∧ k_ ≠ gb108) (fun _=>False) rfl rfl ?aP (fun _ hk=>hk.elim) ?aF ?aO ?aB ?aS ?aL ?_;(case aP=>exact k41_mkM _ _ _ (⟨a1,1,a2⟩:S41));(case aB=>exact (by repeat (first|(with_reducible first|exact HB.out|apply below_alloc|apply pw_below_drewN|apply below_drew1|refine below_set ?_ GE107.out|refine below_set ?_ GE108.out)|exact HB.out)));(case aF=>exact (fun k_ hk=>⟨Kd.freshB (g:=gb107) (o:=.cells #[.string t103,.int .i64 t104,.int .i64 t105] 41 (0,0)) (by (with_reducible repeat (first|refine blk_drewN ?_ _|refine blk_drew ?_|refine blk_alloc ?_ _));exact BK107.out) k_ hk,Kd.freshB (g:=gb108) (o:=.cells #[.string a1,.int .i64 1,.int .i64 a2] 41 (0,0)) (by (with_reducible repeat (first|refine blk_drewN ?_ _|refine blk_drew ?_|refine blk_alloc ?_ _));exact BK108.out) k_ hk⟩));(case aO=>exact (by (with_reducible repeat (first|apply Kd.R_alloc|apply Kd.R_drewN|apply Kd.R_drew));exact HO_12.out));(case aS=>exact (below_size (by repeat (first|(with_reducible first|exact HB.out|apply below_alloc|apply pw_below_drewN|apply below_drew1|refine below_set ?_ GE107.out|refine below_set ?_ GE108.out)|exact HB.out))));(case aL=>have:=LMc30.out;omega);intro v115 w34 ho hb hg hat;rw [← Ny114.out] at ho;have n0_:=Aside0.mk (blk_grown (g:=gb107) (o:=.cells #[.string t103,.int .i64 t104,.int .i64 t105] 41 (0,0)) (by (with_reducible repeat (first|refine blk_drewN ?_ _|refine blk_drew ?_|refine blk_alloc ?_ _));exact BK107.out) hg (Kd.R_away HO_12.out (fun _ hk=>hk.1)));have n1_:=Aside0.mk (blk_grown (g:=gb108) (o:=.cells #[.string a1,.int .i64 1,.int .i64 a2] 41 (0,0)) (by (with_reducible repeat (first|refine blk_drewN ?_ _|refine blk_drew ?_|refine blk_alloc ?_ _));exact BK108.out) hg (Kd.R_away HO_12.out (fun _ hk=>hk.2)));have n2_:=Aside0.mk (hb);have n3_:=Aside0.mk (ho);clear BK107;clear BK108;clear HB;clear HO_12;have BK107:=n0_;have BK108:=n1_;have HB:=n2_;have HO116:=n3_;clear n0_ n1_ n2_ n3_;clear ho hb hg hat;have p117:0 ≤ (x14_2:Int):=of_decide_eq_true (by first|(with_reducible assumption)|assumption);have q117:x14_2 < (l0.length:Int):=of_decide_eq_true (by first|(with_reducible assumption)|assumption);obtain ⟨ad117,e117,hx117_0,hx117_1,hx117_2⟩:=at_T41 HR0.out x14_2 p117 q117;obtain rfl:ad113 = ad117:=(by injection e117);replace hx117_0:=(HB.out.cell (World.block_lt_of_cell? w _ hx117_0)).trans hx117_0;replace hx117_1:=(HB.out.cell (World.block_lt_of_cell? w _ hx117_1)).trans hx117_1;replace hx117_2:=(HB.out.cell (World.block_lt_of_cell? w _ hx117_2)).trans hx117_2;replace p117:=eq_true p117;replace q117:=eq_true q117)|((with_reducible refine gate_builtin (b:=.append) (xs:=#[.tmp 63,.tmp 68]) rfl ?_);at_builtin;refine Kd.R_append k41 (w0:=w) w.heap.size rfl (.tmp 63) (.tmp 68) 22 41 (.agg #[(.string ⟨#[]⟩),(.int .i64 0),(.int .i64 0)]) 32 rfl Try.underlying22 info41 rfl (by decide) (by omega) v115 y114 (⟨(rd_T41 l0 x14_2).f0,(rd_T41 l0 x14_2).f1,(rd_T41 l0 x14_2).f2⟩:S41) [.string ((rd_T41 l0 x14_2).f0),.int .i64 ((rd_T41 l0 x14_2).f1),.int .i64 ((rd_T41 l0 x14_2).f2)] (fun k_=>k_ ≠ gb107 ∧ k_ ≠ gb108) (fun _=>False) rfl rfl ?aP (fun _ hk=>hk.elim) ?aF ?aO ?aB ?aS ?aL ?_;(case aP=>exact k41_mkM _ _ _ (⟨(rd_T41 l0 x14_2).f0,(rd_T41 l0 x14_2).f1,(rd_T41 l0 x14_2).f2⟩:S41));(case aB=>exact (by repeat (first|(with_reducible first|exact HB.out|apply below_alloc|apply pw_below_drewN|apply below_drew1|refine below_set ?_ GE107.out|refine below_set ?_ GE108.out)|exact HB.out)));(case aF=>exact (fun k_ hk=>⟨Kd.freshB (g:=gb107) (o:=.cells #[.string t103,.int .i64 t104,.int .i64 t105] 41 (0,0)) (by (with_reducible repeat (first|refine blk_drewN ?_ _|refine blk_drew ?_|refine blk_alloc ?_ _));exact BK107.out) k_ hk,Kd.freshB (g:=gb108) (o:=.cells #[.string a1,.int .i64 1,.int .i64 a2] 41 (0,0)) (by (with_reducible repeat (first|refine blk_drewN ?_ _|refine blk_drew ?_|refine blk_alloc ?_ _));exact BK108.out) k_ hk⟩));(case aO=>exact (by (with_reducible repeat (first|apply Kd.R_alloc|apply Kd.R_drewN|apply Kd.R_drew));exact HO116.out));(case aS=>exact (below_size (by repeat (first|(with_reducible first|exact HB.out|apply below_alloc|apply pw_below_drewN|apply below_drew1|refine below_set ?_ GE107.out|refine below_set ?_ GE108.out)|exact HB.out))));(case aL=>have:=LMc31.out;omega);intro v119 w35 ho hb hg hat;rw [← Ny118.out] at ho;have n0_:=Aside0.mk (blk_grown (g:=gb107) (o:=.cells #[.string t103,.int .i64 t104,.int .i64 t105] 41 (0,0)) (by (with_reducible repeat (first|refine blk_drewN ?_ _|refine blk_drew ?_|refine blk_alloc ?_ _));exact BK107.out) hg (Kd.R_away HO116.out (fun _ hk=>hk.1)));have n1_:=Aside0.mk (blk_grown (g:=gb108) (o:=.cells #[.string a1,.int .i64 1,.int .i64 a2] 41 (0,0)) (by (with_reducible repeat (first|refine blk_drewN ?_ _|refine blk_drew ?_|refine blk_alloc ?_ _));exact BK108.out) hg (Kd.R_away HO116.out (fun _ hk=>hk.2)));have n2_:=Aside0.mk (hb);have n3_:=Aside0.mk (ho);clear BK107;clear BK108;clear HB;clear HO116;have BK107:=n0_;have BK108:=n1_;have HB:=n2_;have HO120:=n3_;clear n0_ n1_ n2_ n3_;clear ho hb hg hat))
                go_roundg k2
                case measure=>have:=HJ12.out;have:=HK2.out;omega
                case rel=>exact ⟨(y118),(true),(wrap64 (x14_2 + 1)),(by first|rfl|(simp;done)|(simp [*];done)),(by first|rfl|(simp;done)|(simp [*];done)),H',⟨by have:=HJ12.out;have:=HK2.out;omega⟩,⟨by (with_reducible repeat (first|apply Kd.R_alloc|apply Kd.R_drewN|apply Kd.R_drew));exact HO120.out⟩,⟨by (with_reducible repeat (first|refine blk_drewN ?_ _|refine blk_drew ?_|refine blk_alloc ?_ _));exact BK107.out⟩,⟨by (with_reducible repeat (first|refine blk_drewN ?_ _|refine blk_drew ?_|refine blk_alloc ?_ _));exact BK108.out⟩,⟨by repeat (first|(with_reducible first|exact HB.out|apply below_alloc|apply pw_below_drewN|apply below_drew1|refine below_set ?_ GE107.out|refine below_set ?_ GE108.out)|exact HB.out)⟩⟩
               ·rw [if_neg c31] at H
                exact absurd H (by simp)
              ·rw [if_neg c30] at H
               exact absurd H (by simp)
             ·rw [if_neg c29] at H
              have c29b0:(Op.bytesLess a1.toList (((rd_T41 l0 x14_2).f0).toList)) = false:=by simpa using c29
              clear c29
              by_cases c36:x12_2.length < 4398046511104
              ·rw [if_pos c36] at H
               have LMc36:=Aside0.mk c36
               clear c36
               obtain ⟨y122,hy122⟩:∃ y_:List (S41),y_ = (x12_2 ++ [(⟨(rd_T41 l0 x14_2).f0,(rd_T41 l0 x14_2).f1,(rd_T41 l0 x14_2).f2⟩:S41)]):=⟨_,rfl⟩
               replace H:(contangoref41_Declare.l0 k2 l0 a1 y122 false (wrap64 (x14_2 + 1)) a1 1 a2) = some (r1,r2):=by first|(rw [hy122];with_reducible exact H)|(have H2_:=(Option.bind_some _ _).symm.trans H;rw [hy122];with_reducible exact H2_)|(have H2_:=(Option.bind_some _ _).symm.trans H;with_reducible exact H2_)|with_reducible exact H|(rw [hy122];exact H)|exact H
               have Ny122:=Aside0.mk hy122
               clear hy122
               have H':=Aside0.mk H
               clear H
               have p113:0 ≤ (x14_2:Int):=of_decide_eq_true (by first|(with_reducible assumption)|assumption)
               have q113:x14_2 < (l0.length:Int):=of_decide_eq_true (by first|(with_reducible assumption)|assumption)
               obtain ⟨ad113,e113,hx113_0,hx113_1,hx113_2⟩:=at_T41 HR0.out x14_2 p113 q113
               cases e113
               replace hx113_0:=(HB.out.cell (World.block_lt_of_cell? w _ hx113_0)).trans hx113_0
               replace hx113_1:=(HB.out.cell (World.block_lt_of_cell? w _ hx113_1)).trans hx113_1
               replace hx113_2:=(HB.out.cell (World.block_lt_of_cell? w _ hx113_2)).trans hx113_2
               replace p113:=eq_true p113
               replace q113:=eq_true q113
               have p121:0 ≤ (x14_2:Int):=of_decide_eq_true (by first|(with_reducible assumption)|assumption)
               have q121:x14_2 < (l0.length:Int):=of_decide_eq_true (by first|(with_reducible assumption)|assumption)
               obtain ⟨ad121,e121,hx121_0,hx121_1,hx121_2⟩:=at_T41 HR0.out x14_2 p121 q121
               obtain rfl:ad113 = ad121:=(by injection e121)
               replace hx121_0:=(HB.out.cell (World.block_lt_of_cell? w _ hx121_0)).trans hx121_0
               replace hx121_1:=(HB.out.cell (World.block_lt_of_cell? w _ hx121_1)).trans hx121_1
               replace hx121_2:=(HB.out.cell (World.block_lt_of_cell? w _ hx121_2)).trans hx121_2
               replace p121:=eq_true p121
               replace q121:=eq_true q121
               go_wp2_with (first|((with_reducible refine gate_builtin (b:=.append) (xs:=#[.tmp 63,.tmp 68]) rfl ?_);at_builtin;refine Kd.R_append k41 (w0:=w) w.heap.size rfl (.tmp 63) (.tmp 68) 22 41 (.agg #[(.string ⟨#[]⟩),(.int .i64 0),(.int .i64 0)]) 32 rfl Try.underlying22 info41 rfl (by decide) (by omega) u12 x12_2 (⟨(rd_T41 l0 x14_2).f0,(rd_T41 l0 x14_2).f1,(rd_T41 l0 x14_2).f2⟩:S41) [.string ((rd_T41 l0 x14_2).f0),.int .i64 ((rd_T41 l0 x14_2).f1),.int .i64 ((rd_T41 l0 x14_2).f2)] (fun k_=>k_ ≠ gb107 ∧ k_ ≠ gb108) (fun _=>False) rfl rfl ?aP (fun _ hk=>hk.elim) ?aF ?aO ?aB ?aS ?aL ?_;(case aP=>exact k41_mkM _ _ _ (⟨(rd_T41 l0 x14_2).f0,(rd_T41 l0 x14_2).f1,(rd_T41 l0 x14_2).f2⟩:S41));(case aB=>exact (by repeat (first|(with_reducible first|exact HB.out|apply below_alloc|apply pw_below_drewN|apply below_drew1|refine below_set ?_ GE107.out|refine below_set ?_ GE108.out)|exact HB.out)));(case aF=>exact (fun k_ hk=>⟨Kd.freshB (g:=gb107) (o:=.cells #[.string t103,.int .i64 t104,.int .i64 t105] 41 (0,0)) (by (with_reducible repeat (first|refine blk_drewN ?_ _|refine blk_drew ?_|refine blk_alloc ?_ _));exact BK107.out) k_ hk,Kd.freshB (g:=gb108) (o:=.cells #[.string a1,.int .i64 1,.int .i64 a2] 41 (0,0)) (by (with_reducible repeat (first|refine blk_drewN ?_ _|refine blk_drew ?_|refine blk_alloc ?_ _));exact BK108.out) k_ hk⟩));(case aO=>exact (by (with_reducible repeat (first|apply Kd.R_alloc|apply Kd.R_drewN|apply Kd.R_drew));exact HO_12.out));(case aS=>exact (below_size (by repeat (first|(with_reducible first|exact HB.out|apply below_alloc|apply pw_below_drewN|apply below_drew1|refine below_set ?_ GE107.out|refine below_set ?_ GE108.out)|exact HB.out))));(case aL=>have:=LMc36.out;omega);intro v123 w37 ho hb hg hat;rw [← Ny122.out] at ho;have n0_:=Aside0.mk (blk_grown (g:=gb107) (o:=.cells #[.string t103,.int .i64 t104,.int .i64 t105] 41 (0,0)) (by (with_reducible repeat (first|refine blk_drewN ?_ _|refine blk_drew ?_|refine blk_alloc ?_ _));exact BK107.out) hg (Kd.R_away HO_12.out (fun _ hk=>hk.1)));have n1_:=Aside0.mk (blk_grown (g:=gb108) (o:=.cells #[.string a1,.int .i64 1,.int .i64 a2] 41 (0,0)) (by (with_reducible repeat (first|refine blk_drewN ?_ _|refine blk_drew ?_|refine blk_alloc ?_ _));exact BK108.out) hg (Kd.R_away HO_12.out (fun _ hk=>hk.2)));have n2_:=Aside0.mk (hb);have n3_:=Aside0.mk (ho);clear BK107;clear BK108;clear HB;clear HO_12;have BK107:=n0_;have BK108:=n1_;have HB:=n2_;have HO124:=n3_;clear n0_ n1_ n2_ n3_;clear ho hb hg hat))
               go_roundg k2
               case measure=>have:=HJ12.out;have:=HK2.out;omega
               case rel=>exact ⟨(y122),(false),(wrap64 (x14_2 + 1)),(by first|rfl|(simp;done)|(simp [*];done)),(by first|rfl|(simp;done)|(simp [*];done)),H',⟨by have:=HJ12.out;have:=HK2.out;omega⟩,⟨by (with_reducible repeat (first|apply Kd.R_alloc|apply Kd.R_drewN|apply Kd.R_drew));exact HO124.out⟩,⟨by (with_reducible repeat (first|refine blk_drewN ?_ _|refine blk_drew ?_|refine blk_alloc ?_ _));exact BK107.out⟩,⟨by (with_reducible repeat (first|refine blk_drewN ?_ _|refine blk_drew ?_|refine blk_alloc ?_ _));exact BK108.out⟩,⟨by repeat (first|(with_reducible first|exact HB.out|apply below_alloc|apply pw_below_drewN|apply below_drew1|refine below_set ?_ GE107.out|refine below_set ?_ GE108.out)|exact HB.out)⟩⟩
              ·rw [if_neg c36] at H
               exact absurd H (by simp)
            ·rw [if_neg c28] at H
             exact absurd H (by simp)
          ·rw [if_neg c23] at H
           have c23b0:decide (x14_2 < (l0.length:Int)) = false:=decide_eq_false c23
           clear c23
           by_cases c38:x13_2 = true
           ·subst c38
            have H1:(some (x12_2,0)) = some (r1,r2):=by rw [if_pos rfl] at H;exact H
            clear H
            have H:=H1
            clear H1
            simp only [Option.some.injEq,Prod.mk.injEq] at H
            obtain ⟨rfl,rfl⟩:=H
            go_wp2
            go_ret2
            exact ⟨_,by first|rfl|(simp [errW_none,errW_some] <;> rfl)|(simp [*,errW_none,errW_some] <;> rfl),by (with_reducible repeat (first|apply Kd.R_alloc|apply Kd.R_drewN|apply Kd.R_drew));exact Kd.R_mono HO_12.out (fun _ hk=>trivial),by repeat (first|(with_reducible first|exact HB.out|apply below_alloc|apply pw_below_drewN|apply below_drew1|refine below_set ?_ GE107.out|refine below_set ?_ GE108.out)|exact HB.out)⟩
           ·replace c38:=Bool.eq_false_iff.mpr c38
            subst c38
            have H1:(if x12_2.length < 4398046511104 then (some ((x12_2 ++ [(⟨a1,1,a2⟩:S41)]),0)) else (none)) = some (r1,r2):=by rw [if_neg (show ¬ (false = true) by decide)] at H;exact H
            clear H
            have H:=H1
            clear H1
            by_cases c39:x12_2.length < 4398046511104
            ·rw [if_pos c39] at H
             have LMc39:=Aside0.mk c39
             clear c39
             obtain ⟨y125,hy125⟩:∃ y_:List (S41),y_ = (x12_2 ++ [(⟨a1,1,a2⟩:S41)]):=⟨_,rfl⟩
             replace H:(some (y125,0)) = some (r1,r2):=by first|(rw [hy125];with_reducible exact H)|(have H2_:=(Option.bind_some _ _).symm.trans H;rw [hy125];with_reducible exact H2_)|(have H2_:=(Option.bind_some _ _).symm.trans H;with_reducible exact H2_)|with_reducible exact H|(rw [hy125];exact H)|exact H
             have Ny125:=Aside0.mk hy125
             clear hy125
             simp only [Option.some.injEq,Prod.mk.injEq] at H
             obtain ⟨rfl,rfl⟩:=H
             have hnb40:=NB108_107.out
             have hnc40:=NB107_108.out
             have hcz41_0:wr.cell? ⟨gb108,0,none⟩ = some (.string a1):=(blk_cell BK108.out 0).trans rfl
             have hcz41_1:wr.cell? ⟨gb108,1,none⟩ = some (.int .i64 1):=(blk_cell BK108.out 1).trans rfl
             have hcz41_2:wr.cell? ⟨gb108,2,none⟩ = some (.int .i64 a2):=(blk_cell BK108.out 2).trans rfl
             have hfz41_0:=blk_frozen BK108.out 0
             have hfz41_1:=blk_frozen BK108.out 1
             have hfz41_2:=blk_frozen BK108.out 2
             go_wp2_with (first|((with_reducible refine gate_builtin (b:=.append) (xs:=#[.tmp 72,.tmp 74]) rfl ?_);at_builtin;refine Kd.R_append k41 (w0:=w) w.heap.size rfl (.tmp 72) (.tmp 74) 22 41 (.agg #[(.string ⟨#[]⟩),(.int .i64 0),(.int .i64 0)]) 32 rfl Try.underlying22 info41 rfl (by decide) (by omega) u12 x12_2 (⟨a1,1,a2⟩:S41) [.string a1,.int .i64 1,.int .i64 a2] (fun k_=>k_ ≠ gb107 ∧ k_ ≠ gb108) (fun _=>False) rfl rfl ?aP (fun _ hk=>hk.elim) ?aF ?aO ?aB ?aS ?aL ?_;(case aP=>exact k41_mkM _ _ _ (⟨a1,1,a2⟩:S41));(case aB=>exact (by repeat (first|(with_reducible first|exact HB.out|apply below_alloc|apply pw_below_drewN|apply below_drew1|refine below_set ?_ GE107.out|refine below_set ?_ GE108.out)|exact HB.out)));(case aF=>exact (fun k_ hk=>⟨Kd.freshB (g:=gb107) (o:=.cells #[.string t103,.int .i64 t104,.int .i64 t105] 41 (0,0)) (by (with_reducible repeat (first|refine blk_drewN ?_ _|refine blk_drew ?_|refine blk_alloc ?_ _));exact BK107.out) k_ hk,Kd.freshB (g:=gb108) (o:=.cells #[.string a1,.int .i64 1,.int .i64 a2] 41 (0,0)) (by (with_reducible repeat (first|refine blk_drewN ?_ _|refine blk_drew ?_|refine blk_alloc ?_ _));exact BK108.out) k_ hk⟩));(case aO=>exact (by (with_reducible repeat (first|apply Kd.R_alloc|apply Kd.R_drewN|apply Kd.R_drew));exact HO_12.out));(case aS=>exact (below_size (by repeat (first|(with_reducible first|exact HB.out|apply below_alloc|apply pw_below_drewN|apply below_drew1|refine below_set ?_ GE107.out|refine below_set ?_ GE108.out)|exact HB.out))));(case aL=>have:=LMc39.out;omega);intro v126 w42 ho hb hg hat;rw [← Ny125.out] at ho;have n0_:=Aside0.mk (blk_grown (g:=gb107) (o:=.cells #[.string t103,.int .i64 t104,.int .i64 t105] 41 (0,0)) (by (with_reducible repeat (first|refine blk_drewN ?_ _|refine blk_drew ?_|refine blk_alloc ?_ _));exact BK107.out) hg (Kd.R_away HO_12.out (fun _ hk=>hk.1)));have n1_:=Aside0.mk (blk_grown (g:=gb108) (o:=.cells #[.string a1,.int .i64 1,.int .i64 a2] 41 (0,0)) (by (with_reducible repeat (first|refine blk_drewN ?_ _|refine blk_drew ?_|refine blk_alloc ?_ _));exact BK108.out) hg (Kd.R_away HO_12.out (fun _ hk=>hk.2)));have n2_:=Aside0.mk (hb);have n3_:=Aside0.mk (ho);clear BK107;clear BK108;clear HB;clear HO_12;have BK107:=n0_;have BK108:=n1_;have HB:=n2_;have HO127:=n3_;clear n0_ n1_ n2_ n3_;clear ho hb hg hat))
             go_ret2
             exact ⟨_,by first|rfl|(simp [errW_none,errW_some] <;> rfl)|(simp [*,errW_none,errW_some] <;> rfl),by (with_reducible repeat (first|apply Kd.R_alloc|apply Kd.R_drewN|apply Kd.R_drew));exact Kd.R_mono HO127.out (fun _ hk=>trivial),by repeat (first|(with_reducible first|exact HB.out|apply below_alloc|apply pw_below_drewN|apply below_drew1|refine below_set ?_ GE107.out|refine below_set ?_ GE108.out)|exact HB.out)⟩
            ·rw [if_neg c39] at H
             exact absurd H (by simp)
  ·replace c7:=Bool.eq_false_iff.mpr c7
   subst c7
   have H1:(some (([]:List (S41)),10)) = some (r1,r2):=by rw [if_neg (show ¬ (false = true) by decide)] at H;exact H
   clear H
   have H:=H1
   clear H1
   simp only [Option.some.injEq,Prod.mk.injEq] at H
   obtain ⟨rfl,rfl⟩:=H
   go_enter Try.func17,Try.ntmps17
   go_wp2_with (first|((with_reducible refine gate_callee (f:=19) rfl ?_);refine goesL_ (some 16) rfl rfl Try.func19 (by kernel_rfl) rfl #[.slice A0 l0.length c0] rfl (by (try simp only [List.map_toArray,List.map_cons,List.map_nil]);first|done|rfl|(simp only [List.length_drop,List.length_take];rfl)) ?_;(with_reducible refine (contangoref41_Check.calls k _ _ l0 t101 _ ?side1 ?side2 A4.out).mono ?_);(case side1=>repeat (first|exact HR0.out|(with_reducible refine Kd.C_alloc ?_ _)|(with_reducible refine Kd.C_drewN ?_ _)|(with_reducible refine Kd.C_drew ?_)));(case side2=>exact HC0.out);rintro e w' ⟨rfl,⟨nd,rfl⟩⟩;refine ⟨_,rfl,?_⟩)|((with_reducible refine gate_callee (f:=29) rfl ?_);refine goesL_ (some 21) rfl rfl Try.func29 (by kernel_rfl) rfl #[.string a1] rfl (by (try simp only [List.map_toArray,List.map_cons,List.map_nil]);first|done|rfl|(simp only [List.length_drop,List.length_take];rfl)) ?_;(with_reducible refine (contangoref03_Name.calls k a1 false _ A6.out).mono ?_);rintro e w' ⟨rfl,⟨nd,rfl⟩⟩;refine ⟨_,rfl,?_⟩))
   go_ret2
   exact ⟨_,by first|rfl|(simp [errW_none,errW_some] <;> rfl)|(simp [*,errW_none,errW_some] <;> rfl),by first|exact Kd.R_nil _ _ _ _ _|exact Kd.N_nil _ _ _ _ _|exact Kd.V_nil _ _ _ _ _|exact Kd.Q_nil _ _ _ _ _|exact Kd.S_nil _ _ _ _ _,by repeat (first|(with_reducible first|exact HB.out|apply below_alloc|apply pw_below_drewN|apply below_drew1)|exact HB.out)⟩
 ·rw [if_neg c5] at H
  have c5b0:(t101 == 0) = false:=beq_eq_false_iff_ne.mpr c5
  have c5b1:(t101 != 0) = true:=bne_iff_ne.mpr c5
  simp only [Option.some.injEq,Prod.mk.injEq] at H
  obtain ⟨rfl,rfl⟩:=H
  go_enter Try.func17,Try.ntmps17
  go_wp2_with (first|((with_reducible refine gate_callee (f:=19) rfl ?_);refine goesL_ (some 16) rfl rfl Try.func19 (by kernel_rfl) rfl #[.slice A0 l0.length c0] rfl (by (try simp only [List.map_toArray,List.map_cons,List.map_nil]);first|done|rfl|(simp only [List.length_drop,List.length_take];rfl)) ?_;(with_reducible refine (contangoref41_Check.calls k _ _ l0 t101 _ ?side1 ?side2 A4.out).mono ?_);(case side1=>repeat (first|exact HR0.out|(with_reducible refine Kd.C_alloc ?_ _)|(with_reducible refine Kd.C_drewN ?_ _)|(with_reducible refine Kd.C_drew ?_)));(case side2=>exact HC0.out);rintro e w' ⟨rfl,⟨nd,rfl⟩⟩;refine ⟨_,rfl,?_⟩))
  go_ret2
  exact ⟨_,by first|rfl|(simp [errW_none,errW_some] <;> rfl)|(simp [*,errW_none,errW_some] <;> rfl),by first|exact Kd.R_nil _ _ _ _ _|exact Kd.N_nil _ _ _ _ _|exact Kd.V_nil _ _ _ _ _|exact Kd.Q_nil _ _ _ _ _|exact Kd.S_nil _ _ _ _ _,by repeat (first|(with_reducible first|exact HB.out|apply below_alloc|apply pw_below_drewN|apply below_drew1)|exact HB.out)⟩
end Go.Proofs.Ytgmelgkcoejknaa.X
end
section
namespace Go.Proofs.Ytgmelgkcoejknaa.X
open Go.RowKit Go.Proofs.YtgmelgkcoejknaaW.PrintWords Go.Proofs.YtgmelgkcoejknaaW.PrintLast Go.Proofs.YtgmelgkcoejknaaW.PrintMore
attribute [local go_sem] max2_int min2_int max_two min_two max_three min_three max_four min_four
set_option linter.unusedVariables false
set_option linter.unusedSimpArgs false
def contangoref41_Open.l0:Nat → List (S41) → List ByteArray → Int → Option (List ByteArray)
 | 0,_,_,_=>none
 | k + 1,x0,x3,x4=>if x4 < (x0.length:Int) then (if 0 ≤ x4 then (if ((rd_T41 x0 x4).f1) = 7 then (contangoref41_Open.l0 k x0 x3 (wrap64 (x4 + 1))) else (if x3.length < 8796093022208 then (contangoref41_Open.l0 k x0 (x3 ++ [(rd_T41 x0 x4).f0]) (wrap64 (x4 + 1))) else (none))) else (none)) else (some x3)
def contangoref41_Open.f (k:Nat) (l0:List (S41)):Option (List ByteArray):=contangoref41_Open.l0 k l0 ([]:List ByteArray) 0
theorem contangoref41_Open.mono_l:∀ k,(∀ y0 y1 y2,LeO (contangoref41_Open.l0 k y0 y1 y2) (contangoref41_Open.l0 (k + 1) y0 y1 y2))
 | 0=>fun _ _ _ r h=>by simp [contangoref41_Open.l0] at h
 | k + 1=>by
  have ih0:=contangoref41_Open.mono_l k
  ·intro y0 y1 y2
   unfold contangoref41_Open.l0
   repeat' first
   | (with_reducible exact ih0 _ _ _)
   | (with_reducible exact LeO.refl _)
   | (with_reducible exact LeO.none _)
   | (with_reducible refine LeO.ite ?_ ?_)
   | (with_reducible refine LeO.bind ?_ (fun _=>?_))
   | exact ih0 _ _ _
   | exact LeO.none _
   | refine LeO.ite ?_ ?_
   | refine LeO.bind ?_ (fun _=>?_)
theorem contangoref41_Open.mono:∀ a0 k,LeO (contangoref41_Open.f k a0) (contangoref41_Open.f (k + 1) a0):=by
 intro a0 k
 have ih0:=contangoref41_Open.mono_l k
 unfold contangoref41_Open.f
 repeat' first
   | (with_reducible exact ih0 _ _ _)
   | (with_reducible exact LeO.refl _)
   | (with_reducible exact LeO.none _)
   | (with_reducible refine LeO.ite ?_ ?_)
   | (with_reducible refine LeO.bind ?_ (fun _=>?_))
   | exact ih0 _ _ _
   | exact LeO.none _
   | refine LeO.ite ?_ ?_
   | refine LeO.bind ?_ (fun _=>?_)
set_option maxHeartbeats 8000000 in
set_option maxRecDepth 100000 in
theorem contangoref41_Open.calls (k:Nat) (A0:Option Addr) (c0:Nat) (l0:List (S41)) (r:List ByteArray) (w:World) (hr0:Kd.C k41 w A0 l0.length l0) (hc0:l0.length ≤ c0) (h:contangoref41_Open.f k l0 = some r) :
  Calls Try.prog 22 #[.slice A0 l0.length c0] w fun e w'=>∃ v0_:Value,e = .returned (v0_) ∧ Kd.R Kd.string 9 w' w.heap.size (fun _=>True) v0_ r ∧ Below w.heap.size w w':=by
 have HR0:=Aside0.mk hr0
 have HC0:=Aside0.mk hc0
 clear hr0 hc0
 have HB:=Aside0.mk (Below.refl w.heap.size w)
 have H:(contangoref41_Open.l0 k l0 ([]:List ByteArray) 0) = some r:=h
 clear h
 have H':=Aside0.mk H
 clear H
 go_enter Try.func22,Try.ntmps22
 go_wp2
 go_loopg [3,4] k (fun kq v3 v4 w'=>∃ (x3_1:List ByteArray) (x4_1:Int),v4 = .int .i64 x4_1 ∧ Aside0 (contangoref41_Open.l0 kq l0 x3_1 x4_1 = some r) ∧ Aside0 (kq ≤ k) ∧ Aside0 (Kd.R Kd.string 9 w' w.heap.size (fun _=>True) v3 x3_1) ∧ Aside0 (Below w.heap.size w w'))
 case atStart=>exact ⟨(([]:List ByteArray)),(0),(by first|rfl|(simp;done)|(simp [*];done)),H',⟨Nat.le_refl _⟩,⟨by first|exact Kd.R_nil _ _ _ _ _|exact Kd.N_nil _ _ _ _ _|exact Kd.V_nil _ _ _ _ _|exact Kd.Q_nil _ _ _ _ _|exact Kd.S_nil _ _ _ _ _⟩,⟨by repeat (first|(with_reducible first|exact HB.out|apply below_alloc|apply pw_below_drewN|apply below_drew1)|exact HB.out)⟩⟩
 case round =>
  clear H'
  obtain ⟨x3_1,x4_1,rfl,HA,HK1,HO_3,HB⟩:=hrel
  cases gk with
  | zero=>exact absurd HA.out (by simp [contangoref41_Open.l0])
  | succ k1 =>
   have H:=HA.out
   clear HA
   simp only [contangoref41_Open.l0] at H
   by_cases c2:x4_1 < (l0.length:Int)
   ·rw [if_pos c2] at H
    have c2b0:decide (x4_1 < (l0.length:Int)) = true:=decide_eq_true c2
    clear c2
    by_cases c3:0 ≤ x4_1
    ·rw [if_pos c3] at H
     have c3b0:decide (0 ≤ x4_1) = true:=decide_eq_true c3
     clear c3
     by_cases c4:((rd_T41 l0 x4_1).f1) = 7
     ·rw [if_pos c4] at H
      have c4b0:(((rd_T41 l0 x4_1).f1) == 7) = true:=beq_iff_eq.mpr c4
      have c4b1:(((rd_T41 l0 x4_1).f1) != 7) = false:=bne_eq_false_iff_eq.mpr c4
      clear c4
      have H':=Aside0.mk H
      clear H
      have p101:0 ≤ (x4_1:Int):=of_decide_eq_true (by first|(with_reducible assumption)|assumption)
      have q101:x4_1 < (l0.length:Int):=of_decide_eq_true (by first|(with_reducible assumption)|assumption)
      obtain ⟨ad101,e101,hx101_0,hx101_1,hx101_2⟩:=at_T41 HR0.out x4_1 p101 q101
      cases e101
      replace hx101_0:=(HB.out.cell (World.block_lt_of_cell? w _ hx101_0)).trans hx101_0
      replace hx101_1:=(HB.out.cell (World.block_lt_of_cell? w _ hx101_1)).trans hx101_1
      replace hx101_2:=(HB.out.cell (World.block_lt_of_cell? w _ hx101_2)).trans hx101_2
      replace p101:=eq_true p101
      replace q101:=eq_true q101
      go_wp2
      go_roundg k1
      case measure=>have:=HK1.out;omega
      case rel=>exact ⟨(x3_1),(wrap64 (x4_1 + 1)),(by first|rfl|(simp;done)|(simp [*];done)),H',⟨by have:=HK1.out;omega⟩,⟨by (with_reducible repeat (first|apply Kd.R_alloc|apply Kd.R_drewN|apply Kd.R_drew));exact HO_3.out⟩,⟨by repeat (first|(with_reducible first|exact HB.out|apply below_alloc|apply pw_below_drewN|apply below_drew1)|exact HB.out)⟩⟩
     ·rw [if_neg c4] at H
      have c4b0:(((rd_T41 l0 x4_1).f1) == 7) = false:=beq_eq_false_iff_ne.mpr c4
      have c4b1:(((rd_T41 l0 x4_1).f1) != 7) = true:=bne_iff_ne.mpr c4
      by_cases c5:x3_1.length < 8796093022208
      ·rw [if_pos c5] at H
       have LMc5:=Aside0.mk c5
       clear c5
       obtain ⟨y103,hy103⟩:∃ y_:List ByteArray,y_ = (x3_1 ++ [(rd_T41 l0 x4_1).f0]):=⟨_,rfl⟩
       replace H:(contangoref41_Open.l0 k1 l0 y103 (wrap64 (x4_1 + 1))) = some r:=by first|(rw [hy103];with_reducible exact H)|(have H2_:=(Option.bind_some _ _).symm.trans H;rw [hy103];with_reducible exact H2_)|(have H2_:=(Option.bind_some _ _).symm.trans H;with_reducible exact H2_)|with_reducible exact H|(rw [hy103];exact H)|exact H
       have Ny103:=Aside0.mk hy103
       clear hy103
       have H':=Aside0.mk H
       clear H
       have p101:0 ≤ (x4_1:Int):=of_decide_eq_true (by first|(with_reducible assumption)|assumption)
       have q101:x4_1 < (l0.length:Int):=of_decide_eq_true (by first|(with_reducible assumption)|assumption)
       obtain ⟨ad101,e101,hx101_0,hx101_1,hx101_2⟩:=at_T41 HR0.out x4_1 p101 q101
       cases e101
       replace hx101_0:=(HB.out.cell (World.block_lt_of_cell? w _ hx101_0)).trans hx101_0
       replace hx101_1:=(HB.out.cell (World.block_lt_of_cell? w _ hx101_1)).trans hx101_1
       replace hx101_2:=(HB.out.cell (World.block_lt_of_cell? w _ hx101_2)).trans hx101_2
       replace p101:=eq_true p101
       replace q101:=eq_true q101
       have p102:0 ≤ (x4_1:Int):=of_decide_eq_true (by first|(with_reducible assumption)|assumption)
       have q102:x4_1 < (l0.length:Int):=of_decide_eq_true (by first|(with_reducible assumption)|assumption)
       obtain ⟨ad102,e102,hx102_0,hx102_1,hx102_2⟩:=at_T41 HR0.out x4_1 p102 q102
       obtain rfl:ad101 = ad102:=(by injection e102)
       replace hx102_0:=(HB.out.cell (World.block_lt_of_cell? w _ hx102_0)).trans hx102_0
       replace hx102_1:=(HB.out.cell (World.block_lt_of_cell? w _ hx102_1)).trans hx102_1
       replace hx102_2:=(HB.out.cell (World.block_lt_of_cell? w _ hx102_2)).trans hx102_2
       replace p102:=eq_true p102
       replace q102:=eq_true q102
       go_wp2_with (first|((with_reducible refine gate_builtin (b:=.append) (xs:=#[.tmp 17,.tmp 23]) rfl ?_);at_builtin;refine Kd.R_append Kd.string (w0:=w) w.heap.size rfl (.tmp 17) (.tmp 23) 46 9 (.string ⟨#[]⟩) 16 rfl Try.underlying46 info9 rfl (by decide) (by omega) u3 x3_1 ((rd_T41 l0 x4_1).f0) [.string ((rd_T41 l0 x4_1).f0)] (fun _=>True) (fun _=>False) rfl rfl ?aP (fun _ hk=>hk.elim) ?aF ?aO ?aB ?aS ?aL ?_;(case aP=>exact rfl);(case aB=>exact (by repeat (first|(with_reducible first|exact HB.out|apply below_alloc|apply pw_below_drewN|apply below_drew1)|exact HB.out)));(case aF=>exact (fun _ _=>trivial));(case aO=>exact (by (with_reducible repeat (first|apply Kd.R_alloc|apply Kd.R_drewN|apply Kd.R_drew));exact HO_3.out));(case aS=>exact (below_size (by repeat (first|(with_reducible first|exact HB.out|apply below_alloc|apply pw_below_drewN|apply below_drew1)|exact HB.out))));(case aL=>have:=LMc5.out;omega);intro v104 w6 ho hb hg hat;rw [← Ny103.out] at ho;have n0_:=Aside0.mk (hb);have n1_:=Aside0.mk (ho);clear HB;clear HO_3;have HB:=n0_;have HO105:=n1_;clear n0_ n1_;clear ho hb hg hat))
       go_roundg k1
       case measure=>have:=HK1.out;omega
       case rel=>exact ⟨(y103),(wrap64 (x4_1 + 1)),(by first|rfl|(simp;done)|(simp [*];done)),H',⟨by have:=HK1.out;omega⟩,⟨by (with_reducible repeat (first|apply Kd.R_alloc|apply Kd.R_drewN|apply Kd.R_drew));exact HO105.out⟩,⟨by repeat (first|(with_reducible first|exact HB.out|apply below_alloc|apply pw_below_drewN|apply below_drew1)|exact HB.out)⟩⟩
      ·rw [if_neg c5] at H
       exact absurd H (by simp)
    ·rw [if_neg c3] at H
     exact absurd H (by simp)
   ·rw [if_neg c2] at H
    have c2b0:decide (x4_1 < (l0.length:Int)) = false:=decide_eq_false c2
    clear c2
    obtain rfl:=Option.some.inj H
    go_wp2
    go_ret
    exact ⟨_,by first|rfl|(simp [errW_none,errW_some] <;> rfl)|(simp [*,errW_none,errW_some] <;> rfl),by (with_reducible repeat (first|apply Kd.R_alloc|apply Kd.R_drewN|apply Kd.R_drew));exact HO_3.out,by repeat (first|(with_reducible first|exact HB.out|apply below_alloc|apply pw_below_drewN|apply below_drew1)|exact HB.out)⟩
end Go.Proofs.Ytgmelgkcoejknaa.X
end
section
namespace Go.Proofs.Ytgmelgkcoejknaa.X
open Go.RowKit Go.Proofs.YtgmelgkcoejknaaW.PrintWords Go.Proofs.YtgmelgkcoejknaaW.PrintLast Go.Proofs.YtgmelgkcoejknaaW.PrintMore
attribute [local go_sem] max2_int min2_int max_two min_two max_three min_three max_four min_four
set_option linter.unusedVariables false
set_option linter.unusedSimpArgs false
def suspend_Of.l0:Nat → ByteArray → List (S37) → Int → Int → Option (ByteArray × Int × Int × Bool)
 | 0,_,_,_,_=>none
 | k + 1,x1,x8,x9,x10=>if x10 < x9 then (if 0 ≤ x10 then (if x10 < (x8.length:Int) then (if ((rd_T37 x8 x10).f0).toList = x1.toList then (some ((rd_T37 x8 x10).f0,(rd_T37 x8 x10).f1,(rd_T37 x8 x10).f2,true)) else (suspend_Of.l0 k x1 x8 x9 (wrap64 (x10 + 1)))) else (none)) else (none)) else (some ((⟨#[]⟩:ByteArray),0,0,false))
def suspend_Of.f (k:Nat) (l0:List (S37)) (a1:ByteArray):Option (ByteArray × Int × Int × Bool):=suspend_Of.l0 k a1 l0 (l0.length:Int) 0
theorem suspend_Of.mono_l:∀ k,(∀ y0 y1 y2 y3,LeO (suspend_Of.l0 k y0 y1 y2 y3) (suspend_Of.l0 (k + 1) y0 y1 y2 y3))
 | 0=>fun _ _ _ _ r h=>by simp [suspend_Of.l0] at h
 | k + 1=>by
  have ih0:=suspend_Of.mono_l k
  ·intro y0 y1 y2 y3
   unfold suspend_Of.l0
   repeat' first
   | (with_reducible exact ih0 _ _ _ _)
   | (with_reducible exact LeO.refl _)
   | (with_reducible exact LeO.none _)
   | (with_reducible refine LeO.ite ?_ ?_)
   | (with_reducible refine LeO.bind ?_ (fun _=>?_))
   | exact ih0 _ _ _ _
   | exact LeO.none _
   | refine LeO.ite ?_ ?_
   | refine LeO.bind ?_ (fun _=>?_)
theorem suspend_Of.mono:∀ a0 a1 k,LeO (suspend_Of.f k a0 a1) (suspend_Of.f (k + 1) a0 a1):=by
 intro a0 a1 k
 have ih0:=suspend_Of.mono_l k
 unfold suspend_Of.f
 repeat' first
   | (with_reducible exact ih0 _ _ _ _)
   | (with_reducible exact LeO.refl _)
   | (with_reducible exact LeO.none _)
   | (with_reducible refine LeO.ite ?_ ?_)
   | (with_reducible refine LeO.bind ?_ (fun _=>?_))
   | exact ih0 _ _ _ _
   | exact LeO.none _
   | refine LeO.ite ?_ ?_
   | refine LeO.bind ?_ (fun _=>?_)
set_option maxHeartbeats 8000000 in
set_option maxRecDepth 100000 in
theorem suspend_Of.calls (k:Nat) (A0:Option Addr) (c0:Nat) (l0:List (S37)) (a1:ByteArray) (r1:ByteArray) (r2:Int) (r3:Int) (r4:Bool) (w:World) (hr0:Kd.C k37 w A0 l0.length l0) (hc0:l0.length ≤ c0) (h:suspend_Of.f k l0 a1 = some (r1,r2,r3,r4)) :
  Calls Try.prog 15 #[.slice A0 l0.length c0,.string a1] w fun e w'=>e = .returned (.tuple #[.agg #[.string r1,.int .i64 r2,.int .i64 r3],.bool r4]) ∧ Below w.heap.size w w':=by
 have hu37:=Try.underlying37
 have HR0:=Aside0.mk hr0
 have HC0:=Aside0.mk hc0
 clear hr0 hc0
 have HB:=Aside0.mk (Below.refl w.heap.size w)
 have H:(suspend_Of.l0 k a1 l0 (l0.length:Int) 0) = some (r1,r2,r3,r4):=h
 clear h
 have H':=Aside0.mk H
 clear H
 go_enter Try.func15,Try.ntmps15
 go_wp2_with (first|((with_reducible refine gate_dst (N:=4) rfl ?_);refine box_event ?hg (N:=4) ?hd (cs:=#[.string (⟨#[]⟩:ByteArray),.int .i64 0,.int .i64 0]) (t:=37) ?hr ?_;(case hd=>rfl);(case hg=>rfl);(case hr=>first|(go_simp;done)|(go_simp;rfl));intro gb101 hg w3 hbox hb;have n0_:=Aside0.mk (below_step (by repeat (first|(with_reducible first|exact HB.out|apply below_alloc|apply pw_below_drewN|apply below_drew1)|exact HB.out)) hb);have n1_:=Aside0.mk (hbox);have n2_:=Aside0.mk ((by rw [hg];exact (below_size (by repeat (first|(with_reducible first|exact HB.out|apply below_alloc|apply pw_below_drewN|apply below_drew1)|exact HB.out))):w.heap.size ≤ gb101));have n3_:=Aside0.mk ((by rw [hg];exact (below_size (by repeat (first|(with_reducible first|exact HB.out|apply below_alloc|apply pw_below_drewN|apply below_drew1)|exact HB.out))):w.heap.size ≤ gb101));clear HB;have HB:=n0_;have BK101:=n1_;have GW101:=n2_;have GE101:=n3_;clear n0_ n1_ n2_ n3_;clear hb hbox hg))
 go_loopg [10] k (fun kq v10 w'=>∃ (x10_1:Int) (x102000_1:ByteArray) (x102001_1:Int) (x102002_1:Int),v10 = .int .i64 x10_1 ∧ Aside0 (suspend_Of.l0 kq a1 l0 (l0.length:Int) x10_1 = some (r1,r2,r3,r4)) ∧ Aside0 (kq ≤ k) ∧ Aside0 (w'.heap[gb101]? = some (.cells #[.string x102000_1,.int .i64 x102001_1,.int .i64 x102002_1] 37 (0,0))) ∧ Aside0 (Below w.heap.size w w'))
 case atStart=>exact ⟨(0),((⟨#[]⟩:ByteArray)),(0),(0),(by first|rfl|(simp;done)|(simp [*];done)),H',⟨Nat.le_refl _⟩,⟨by (with_reducible repeat (first|refine blk_drewN ?_ _|refine blk_drew ?_|refine blk_alloc ?_ _));exact BK101.out⟩,⟨by repeat (first|(with_reducible first|exact HB.out|apply below_alloc|apply pw_below_drewN|apply below_drew1|refine below_set ?_ GE101.out)|exact HB.out)⟩⟩
 case round =>
  clear H'
  try clear c1
  try clear p2
  obtain ⟨x10_1,x102000_1,x102001_1,x102002_1,rfl,HA,HK1,BK101,HB⟩:=hrel
  cases gk with
  | zero=>exact absurd HA.out (by simp [suspend_Of.l0])
  | succ k1 =>
   have H:=HA.out
   clear HA
   simp only [suspend_Of.l0] at H
   by_cases c4:x10_1 < (l0.length:Int)
   ·rw [if_pos c4] at H
    have c4b0:decide (x10_1 < (l0.length:Int)) = true:=decide_eq_true c4
    clear c4
    by_cases c5:0 ≤ x10_1
    ·rw [if_pos c5] at H
     have c5b0:decide (0 ≤ x10_1) = true:=decide_eq_true c5
     clear c5
     by_cases c6:x10_1 < (l0.length:Int)
     ·rw [if_pos c6] at H
      have c6b0:decide (x10_1 < (l0.length:Int)) = true:=decide_eq_true c6
      clear c6
      by_cases c7:((rd_T37 l0 x10_1).f0).toList = a1.toList
      ·rw [if_pos c7] at H
       have c7b0:(((rd_T37 l0 x10_1).f0).toList == a1.toList) = true:=beq_iff_eq.mpr c7
       have c7b1:(((rd_T37 l0 x10_1).f0).toList != a1.toList) = false:=bne_eq_false_iff_eq.mpr c7
       clear c7
       simp only [Option.some.injEq,Prod.mk.injEq] at H
       obtain ⟨rfl,rfl,rfl,rfl⟩:=H
       have p102:0 ≤ (x10_1:Int):=of_decide_eq_true (by first|(with_reducible assumption)|assumption)
       have q102:x10_1 < (l0.length:Int):=of_decide_eq_true (by first|(with_reducible assumption)|assumption)
       obtain ⟨ad102,e102,hx102_0,hx102_1,hx102_2⟩:=at_T37 HR0.out x10_1 p102 q102
       cases e102
       replace hx102_0:=(HB.out.cell (World.block_lt_of_cell? w _ hx102_0)).trans hx102_0
       replace hx102_1:=(HB.out.cell (World.block_lt_of_cell? w _ hx102_1)).trans hx102_1
       replace hx102_2:=(HB.out.cell (World.block_lt_of_cell? w _ hx102_2)).trans hx102_2
       replace p102:=eq_true p102
       replace q102:=eq_true q102
       go_wp2_with (first|((with_reducible refine gate_dst (N:=7) rfl ?_);refine box_event ?hg (N:=7) ?hd (cs:=#[.string (⟨#[]⟩:ByteArray),.int .i64 0,.int .i64 0]) (t:=37) ?hr ?_;(case hd=>rfl);(case hg=>rfl);(case hr=>first|(go_simp;done)|(go_simp;rfl));intro gb103 hg w8 hbox hb;have n0_:=Aside0.mk (blk_below (g:=gb101) (o:=.cells #[.string x102000_1,.int .i64 x102001_1,.int .i64 x102002_1] 37 (0,0)) (by (with_reducible repeat (first|refine blk_drewN ?_ _|refine blk_drew ?_|refine blk_alloc ?_ _));exact BK101.out) hb);have n1_:=Aside0.mk (below_step (by repeat (first|(with_reducible first|exact HB.out|apply below_alloc|apply pw_below_drewN|apply below_drew1|refine below_set ?_ GE101.out)|exact HB.out)) hb);have n2_:=Aside0.mk (hbox);have n3_:=Aside0.mk ((by rw [hg];exact (below_size (by repeat (first|(with_reducible first|exact HB.out|apply below_alloc|apply pw_below_drewN|apply below_drew1|refine below_set ?_ GE101.out)|exact HB.out))):w.heap.size ≤ gb103));have n4_:=Aside0.mk ((by rw [hg];exact (below_size (by repeat (first|(with_reducible first|exact HB.out|apply below_alloc|apply pw_below_drewN|apply below_drew1|refine below_set ?_ GE101.out)|exact HB.out))):w.heap.size ≤ gb103));have n5_:=Aside0.mk ((by rw [hg];exact Nat.ne_of_lt (blk_lt (g:=gb101) (o:=.cells #[.string x102000_1,.int .i64 x102001_1,.int .i64 x102002_1] 37 (0,0)) (by (with_reducible repeat (first|refine blk_drewN ?_ _|refine blk_drew ?_|refine blk_alloc ?_ _));exact BK101.out)):gb101 ≠ gb103));have n6_:=Aside0.mk ((by rw [hg];exact Nat.ne_of_gt (blk_lt (g:=gb101) (o:=.cells #[.string x102000_1,.int .i64 x102001_1,.int .i64 x102002_1] 37 (0,0)) (by (with_reducible repeat (first|refine blk_drewN ?_ _|refine blk_drew ?_|refine blk_alloc ?_ _));exact BK101.out)):gb103 ≠ gb101));clear BK101;clear HB;have BK101:=n0_;have HB:=n1_;have BK103:=n2_;have GW103:=n3_;have GE103:=n4_;have NB101_103:=n5_;have NB103_101:=n6_;clear n0_ n1_ n2_ n3_ n4_ n5_ n6_;clear hb hbox hg;have hnb9:=NB103_101.out;have hnc9:=NB101_103.out;have hcz10_0:w8.cell? ⟨gb103,0,none⟩ = some (.string (⟨#[]⟩:ByteArray)):=(blk_cell BK103.out 0).trans rfl;have hcz10_1:w8.cell? ⟨gb103,1,none⟩ = some (.int .i64 0):=(blk_cell BK103.out 1).trans rfl;have hcz10_2:w8.cell? ⟨gb103,2,none⟩ = some (.int .i64 0):=(blk_cell BK103.out 2).trans rfl;have hfz10_0:=blk_frozen BK103.out 0;have hfz10_1:=blk_frozen BK103.out 1;have hfz10_2:=blk_frozen BK103.out 2;have hcz11_0:w8.cell? ⟨gb101,0,none⟩ = some (.string x102000_1):=(blk_cell BK101.out 0).trans rfl;have hcz11_1:w8.cell? ⟨gb101,1,none⟩ = some (.int .i64 x102001_1):=(blk_cell BK101.out 1).trans rfl;have hcz11_2:w8.cell? ⟨gb101,2,none⟩ = some (.int .i64 x102002_1):=(blk_cell BK101.out 2).trans rfl;have hfz11_0:=blk_frozen BK101.out 0;have hfz11_1:=blk_frozen BK101.out 1;have hfz11_2:=blk_frozen BK101.out 2))
       refine bodyPost_ret (results_ct rfl _ _ gb101 37 #[.string ((rd_T37 l0 x10_1).f0),.int .i64 ((rd_T37 l0 x10_1).f1),.int .i64 ((rd_T37 l0 x10_1).f2)] (0,0) _ rfl (by (with_reducible repeat (first|refine blk_drewN ?_ _|refine blk_drew ?_|refine blk_alloc ?_ _));refine blk_put (cs:=#[.string ((rd_T37 l0 x10_1).f0),.int .i64 ((rd_T37 l0 x10_1).f1),.int .i64 x102002_1]) ?_ 2 _ rfl;(with_reducible repeat (first|refine blk_drewN ?_ _|refine blk_drew ?_|refine blk_alloc ?_ _));refine blk_put (cs:=#[.string ((rd_T37 l0 x10_1).f0),.int .i64 x102001_1,.int .i64 x102002_1]) ?_ 1 _ rfl;(with_reducible repeat (first|refine blk_drewN ?_ _|refine blk_drew ?_|refine blk_alloc ?_ _));refine blk_put (cs:=#[.string x102000_1,.int .i64 x102001_1,.int .i64 x102002_1]) ?_ 0 _ rfl;(with_reducible repeat (first|refine blk_drewN ?_ _|refine blk_drew ?_|refine blk_alloc ?_ _));refine blk_far ?_ NB101_103.out _;(with_reducible repeat (first|refine blk_drewN ?_ _|refine blk_drew ?_|refine blk_alloc ?_ _));refine blk_far ?_ NB101_103.out _;(with_reducible repeat (first|refine blk_drewN ?_ _|refine blk_drew ?_|refine blk_alloc ?_ _));refine blk_far ?_ NB101_103.out _;(with_reducible repeat (first|refine blk_drewN ?_ _|refine blk_drew ?_|refine blk_alloc ?_ _));exact BK101.out) Try.underlying37 rfl (by kernel_rfl)) rfl ?_
       exact ⟨by first|rfl|(simp [errW_none,errW_some] <;> rfl)|(simp [*,errW_none,errW_some] <;> rfl),by repeat (first|(with_reducible first|exact HB.out|apply below_alloc|apply pw_below_drewN|apply below_drew1|refine below_set ?_ GE101.out|refine below_set ?_ GE103.out)|exact HB.out)⟩
      ·rw [if_neg c7] at H
       have c7b0:(((rd_T37 l0 x10_1).f0).toList == a1.toList) = false:=beq_eq_false_iff_ne.mpr c7
       have c7b1:(((rd_T37 l0 x10_1).f0).toList != a1.toList) = true:=bne_iff_ne.mpr c7
       have H':=Aside0.mk H
       clear H
       have p102:0 ≤ (x10_1:Int):=of_decide_eq_true (by first|(with_reducible assumption)|assumption)
       have q102:x10_1 < (l0.length:Int):=of_decide_eq_true (by first|(with_reducible assumption)|assumption)
       obtain ⟨ad102,e102,hx102_0,hx102_1,hx102_2⟩:=at_T37 HR0.out x10_1 p102 q102
       cases e102
       replace hx102_0:=(HB.out.cell (World.block_lt_of_cell? w _ hx102_0)).trans hx102_0
       replace hx102_1:=(HB.out.cell (World.block_lt_of_cell? w _ hx102_1)).trans hx102_1
       replace hx102_2:=(HB.out.cell (World.block_lt_of_cell? w _ hx102_2)).trans hx102_2
       replace p102:=eq_true p102
       replace q102:=eq_true q102
       go_wp2_with (first|((with_reducible refine gate_dst (N:=7) rfl ?_);refine box_event ?hg (N:=7) ?hd (cs:=#[.string (⟨#[]⟩:ByteArray),.int .i64 0,.int .i64 0]) (t:=37) ?hr ?_;(case hd=>rfl);(case hg=>rfl);(case hr=>first|(go_simp;done)|(go_simp;rfl));intro gb103 hg w12 hbox hb;have n0_:=Aside0.mk (blk_below (g:=gb101) (o:=.cells #[.string x102000_1,.int .i64 x102001_1,.int .i64 x102002_1] 37 (0,0)) (by (with_reducible repeat (first|refine blk_drewN ?_ _|refine blk_drew ?_|refine blk_alloc ?_ _));exact BK101.out) hb);have n1_:=Aside0.mk (below_step (by repeat (first|(with_reducible first|exact HB.out|apply below_alloc|apply pw_below_drewN|apply below_drew1|refine below_set ?_ GE101.out)|exact HB.out)) hb);have n2_:=Aside0.mk (hbox);have n3_:=Aside0.mk ((by rw [hg];exact (below_size (by repeat (first|(with_reducible first|exact HB.out|apply below_alloc|apply pw_below_drewN|apply below_drew1|refine below_set ?_ GE101.out)|exact HB.out))):w.heap.size ≤ gb103));have n4_:=Aside0.mk ((by rw [hg];exact (below_size (by repeat (first|(with_reducible first|exact HB.out|apply below_alloc|apply pw_below_drewN|apply below_drew1|refine below_set ?_ GE101.out)|exact HB.out))):w.heap.size ≤ gb103));have n5_:=Aside0.mk ((by rw [hg];exact Nat.ne_of_lt (blk_lt (g:=gb101) (o:=.cells #[.string x102000_1,.int .i64 x102001_1,.int .i64 x102002_1] 37 (0,0)) (by (with_reducible repeat (first|refine blk_drewN ?_ _|refine blk_drew ?_|refine blk_alloc ?_ _));exact BK101.out)):gb101 ≠ gb103));have n6_:=Aside0.mk ((by rw [hg];exact Nat.ne_of_gt (blk_lt (g:=gb101) (o:=.cells #[.string x102000_1,.int .i64 x102001_1,.int .i64 x102002_1] 37 (0,0)) (by (with_reducible repeat (first|refine blk_drewN ?_ _|refine blk_drew ?_|refine blk_alloc ?_ _));exact BK101.out)):gb103 ≠ gb101));clear BK101;clear HB;have BK101:=n0_;have HB:=n1_;have BK103:=n2_;have GW103:=n3_;have GE103:=n4_;have NB101_103:=n5_;have NB103_101:=n6_;clear n0_ n1_ n2_ n3_ n4_ n5_ n6_;clear hb hbox hg;have hnb13:=NB103_101.out;have hnc13:=NB101_103.out;have hcz14_0:w12.cell? ⟨gb103,0,none⟩ = some (.string (⟨#[]⟩:ByteArray)):=(blk_cell BK103.out 0).trans rfl;have hcz14_1:w12.cell? ⟨gb103,1,none⟩ = some (.int .i64 0):=(blk_cell BK103.out 1).trans rfl;have hcz14_2:w12.cell? ⟨gb103,2,none⟩ = some (.int .i64 0):=(blk_cell BK103.out 2).trans rfl;have hfz14_0:=blk_frozen BK103.out 0;have hfz14_1:=blk_frozen BK103.out 1;have hfz14_2:=blk_frozen BK103.out 2))
       go_roundg k1
       case measure=>have:=HK1.out;omega
       case rel=>exact ⟨(wrap64 (x10_1 + 1)),(x102000_1),(x102001_1),(x102002_1),(by first|rfl|(simp;done)|(simp [*];done)),H',⟨by have:=HK1.out;omega⟩,⟨by (with_reducible repeat (first|refine blk_drewN ?_ _|refine blk_drew ?_|refine blk_alloc ?_ _));refine blk_far ?_ NB101_103.out _;(with_reducible repeat (first|refine blk_drewN ?_ _|refine blk_drew ?_|refine blk_alloc ?_ _));refine blk_far ?_ NB101_103.out _;(with_reducible repeat (first|refine blk_drewN ?_ _|refine blk_drew ?_|refine blk_alloc ?_ _));refine blk_far ?_ NB101_103.out _;(with_reducible repeat (first|refine blk_drewN ?_ _|refine blk_drew ?_|refine blk_alloc ?_ _));exact BK101.out⟩,⟨by repeat (first|(with_reducible first|exact HB.out|apply below_alloc|apply pw_below_drewN|apply below_drew1|refine below_set ?_ GE101.out|refine below_set ?_ GE103.out)|exact HB.out)⟩⟩
     ·rw [if_neg c6] at H
      exact absurd H (by simp)
    ·rw [if_neg c5] at H
     exact absurd H (by simp)
   ·rw [if_neg c4] at H
    have c4b0:decide (x10_1 < (l0.length:Int)) = false:=decide_eq_false c4
    clear c4
    simp only [Option.some.injEq,Prod.mk.injEq] at H
    obtain ⟨rfl,rfl,rfl,rfl⟩:=H
    have hcz15_0:wr.cell? ⟨gb101,0,none⟩ = some (.string x102000_1):=(blk_cell BK101.out 0).trans rfl
    have hcz15_1:wr.cell? ⟨gb101,1,none⟩ = some (.int .i64 x102001_1):=(blk_cell BK101.out 1).trans rfl
    have hcz15_2:wr.cell? ⟨gb101,2,none⟩ = some (.int .i64 x102002_1):=(blk_cell BK101.out 2).trans rfl
    have hfz15_0:=blk_frozen BK101.out 0
    have hfz15_1:=blk_frozen BK101.out 1
    have hfz15_2:=blk_frozen BK101.out 2
    go_wp2
    refine bodyPost_ret (results_ct rfl _ _ gb101 37 #[.string (⟨#[]⟩:ByteArray),.int .i64 0,.int .i64 0] (0,0) _ rfl (by (with_reducible repeat (first|refine blk_drewN ?_ _|refine blk_drew ?_|refine blk_alloc ?_ _));refine blk_put (cs:=#[.string (⟨#[]⟩:ByteArray),.int .i64 0,.int .i64 x102002_1]) ?_ 2 _ rfl;(with_reducible repeat (first|refine blk_drewN ?_ _|refine blk_drew ?_|refine blk_alloc ?_ _));refine blk_put (cs:=#[.string (⟨#[]⟩:ByteArray),.int .i64 x102001_1,.int .i64 x102002_1]) ?_ 1 _ rfl;(with_reducible repeat (first|refine blk_drewN ?_ _|refine blk_drew ?_|refine blk_alloc ?_ _));refine blk_put (cs:=#[.string x102000_1,.int .i64 x102001_1,.int .i64 x102002_1]) ?_ 0 _ rfl;(with_reducible repeat (first|refine blk_drewN ?_ _|refine blk_drew ?_|refine blk_alloc ?_ _));exact BK101.out) Try.underlying37 rfl (by kernel_rfl)) rfl ?_
    exact ⟨by first|rfl|(simp [errW_none,errW_some] <;> rfl)|(simp [*,errW_none,errW_some] <;> rfl),by repeat (first|(with_reducible first|exact HB.out|apply below_alloc|apply pw_below_drewN|apply below_drew1|refine below_set ?_ GE101.out)|exact HB.out)⟩
end Go.Proofs.Ytgmelgkcoejknaa.X
end
section
namespace Go.Proofs.Ytgmelgkcoejknaa.X
open Go.RowKit Go.Proofs.YtgmelgkcoejknaaW.PrintWords Go.Proofs.YtgmelgkcoejknaaW.PrintLast Go.Proofs.YtgmelgkcoejknaaW.PrintMore
attribute [local go_sem] max2_int min2_int max_two min_two max_three min_three max_four min_four
set_option linter.unusedVariables false
set_option linter.unusedSimpArgs false
def suspend_Open.l0:Nat → List ByteArray → List (S37) → Int → Int → Option (List ByteArray)
 | 0,_,_,_,_=>none
 | k + 1,x3,x6,x7,x8=>if x8 < x7 then (if 0 ≤ x8 then (if x8 < (x6.length:Int) then (if ((rd_T37 x6 x8).f1) = 7 then (suspend_Open.l0 k x3 x6 x7 (wrap64 (x8 + 1))) else (if x3.length < 8796093022208 then (suspend_Open.l0 k (x3 ++ [(rd_T37 x6 x8).f0]) x6 x7 (wrap64 (x8 + 1))) else (none))) else (none)) else (none)) else (some x3)
def suspend_Open.f (k:Nat) (l0:List (S37)):Option (List ByteArray):=suspend_Open.l0 k ([]:List ByteArray) l0 (l0.length:Int) 0
theorem suspend_Open.mono_l:∀ k,(∀ y0 y1 y2 y3,LeO (suspend_Open.l0 k y0 y1 y2 y3) (suspend_Open.l0 (k + 1) y0 y1 y2 y3))
 | 0=>fun _ _ _ _ r h=>by simp [suspend_Open.l0] at h
 | k + 1=>by
  have ih0:=suspend_Open.mono_l k
  ·intro y0 y1 y2 y3
   unfold suspend_Open.l0
   repeat' first
   | (with_reducible exact ih0 _ _ _ _)
   | (with_reducible exact LeO.refl _)
   | (with_reducible exact LeO.none _)
   | (with_reducible refine LeO.ite ?_ ?_)
   | (with_reducible refine LeO.bind ?_ (fun _=>?_))
   | exact ih0 _ _ _ _
   | exact LeO.none _
   | refine LeO.ite ?_ ?_
   | refine LeO.bind ?_ (fun _=>?_)
theorem suspend_Open.mono:∀ a0 k,LeO (suspend_Open.f k a0) (suspend_Open.f (k + 1) a0):=by
 intro a0 k
 have ih0:=suspend_Open.mono_l k
 unfold suspend_Open.f
 repeat' first
   | (with_reducible exact ih0 _ _ _ _)
   | (with_reducible exact LeO.refl _)
   | (with_reducible exact LeO.none _)
   | (with_reducible refine LeO.ite ?_ ?_)
   | (with_reducible refine LeO.bind ?_ (fun _=>?_))
   | exact ih0 _ _ _ _
   | exact LeO.none _
   | refine LeO.ite ?_ ?_
   | refine LeO.bind ?_ (fun _=>?_)
set_option maxHeartbeats 8000000 in
set_option maxRecDepth 100000 in
theorem suspend_Open.calls (k:Nat) (A0:Option Addr) (c0:Nat) (l0:List (S37)) (r:List ByteArray) (w:World) (hr0:Kd.C k37 w A0 l0.length l0) (hc0:l0.length ≤ c0) (h:suspend_Open.f k l0 = some r) :
  Calls Try.prog 21 #[.slice A0 l0.length c0] w fun e w'=>∃ v0_:Value,e = .returned (v0_) ∧ Kd.R Kd.string 9 w' w.heap.size (fun _=>True) v0_ r ∧ Below w.heap.size w w':=by
 have hu37:=Try.underlying37
 have HR0:=Aside0.mk hr0
 have HC0:=Aside0.mk hc0
 clear hr0 hc0
 have HB:=Aside0.mk (Below.refl w.heap.size w)
 have H:(suspend_Open.l0 k ([]:List ByteArray) l0 (l0.length:Int) 0) = some r:=h
 clear h
 have H':=Aside0.mk H
 clear H
 go_enter Try.func21,Try.ntmps21
 go_wp2
 go_loopg [3,8] k (fun kq v3 v8 w'=>∃ (x3_1:List ByteArray) (x8_1:Int),v8 = .int .i64 x8_1 ∧ Aside0 (suspend_Open.l0 kq x3_1 l0 (l0.length:Int) x8_1 = some r) ∧ Aside0 (kq ≤ k) ∧ Aside0 (Kd.R Kd.string 9 w' w.heap.size (fun _=>True) v3 x3_1) ∧ Aside0 (Below w.heap.size w w'))
 case atStart=>exact ⟨(([]:List ByteArray)),(0),(by first|rfl|(simp;done)|(simp [*];done)),H',⟨Nat.le_refl _⟩,⟨by first|exact Kd.R_nil _ _ _ _ _|exact Kd.N_nil _ _ _ _ _|exact Kd.V_nil _ _ _ _ _|exact Kd.Q_nil _ _ _ _ _|exact Kd.S_nil _ _ _ _ _⟩,⟨by repeat (first|(with_reducible first|exact HB.out|apply below_alloc|apply pw_below_drewN|apply below_drew1)|exact HB.out)⟩⟩
 case round =>
  clear H'
  obtain ⟨x3_1,x8_1,rfl,HA,HK1,HO_3,HB⟩:=hrel
  cases gk with
  | zero=>exact absurd HA.out (by simp [suspend_Open.l0])
  | succ k1 =>
   have H:=HA.out
   clear HA
   simp only [suspend_Open.l0] at H
   by_cases c2:x8_1 < (l0.length:Int)
   ·rw [if_pos c2] at H
    have c2b0:decide (x8_1 < (l0.length:Int)) = true:=decide_eq_true c2
    clear c2
    by_cases c3:0 ≤ x8_1
    ·rw [if_pos c3] at H
     have c3b0:decide (0 ≤ x8_1) = true:=decide_eq_true c3
     clear c3
     by_cases c4:x8_1 < (l0.length:Int)
     ·rw [if_pos c4] at H
      have c4b0:decide (x8_1 < (l0.length:Int)) = true:=decide_eq_true c4
      clear c4
      by_cases c5:((rd_T37 l0 x8_1).f1) = 7
      ·rw [if_pos c5] at H
       have c5b0:(((rd_T37 l0 x8_1).f1) == 7) = true:=beq_iff_eq.mpr c5
       have c5b1:(((rd_T37 l0 x8_1).f1) != 7) = false:=bne_eq_false_iff_eq.mpr c5
       clear c5
       have H':=Aside0.mk H
       clear H
       have p101:0 ≤ (x8_1:Int):=of_decide_eq_true (by first|(with_reducible assumption)|assumption)
       have q101:x8_1 < (l0.length:Int):=of_decide_eq_true (by first|(with_reducible assumption)|assumption)
       obtain ⟨ad101,e101,hx101_0,hx101_1,hx101_2⟩:=at_T37 HR0.out x8_1 p101 q101
       cases e101
       replace hx101_0:=(HB.out.cell (World.block_lt_of_cell? w _ hx101_0)).trans hx101_0
       replace hx101_1:=(HB.out.cell (World.block_lt_of_cell? w _ hx101_1)).trans hx101_1
       replace hx101_2:=(HB.out.cell (World.block_lt_of_cell? w _ hx101_2)).trans hx101_2
       replace p101:=eq_true p101
       replace q101:=eq_true q101
       go_wp2_with (first|((with_reducible refine gate_dst (N:=5) rfl ?_);refine box_event ?hg (N:=5) ?hd (cs:=#[.string (⟨#[]⟩:ByteArray),.int .i64 0,.int .i64 0]) (t:=37) ?hr ?_;(case hd=>rfl);(case hg=>rfl);(case hr=>first|(go_simp;done)|(go_simp;rfl));intro gb102 hg w6 hbox hb;have n0_:=Aside0.mk (Kd.R_below (by (with_reducible repeat (first|apply Kd.R_alloc|apply Kd.R_drewN|apply Kd.R_drew));exact HO_3.out) hb);have n1_:=Aside0.mk (below_step (by repeat (first|(with_reducible first|exact HB.out|apply below_alloc|apply pw_below_drewN|apply below_drew1)|exact HB.out)) hb);have n2_:=Aside0.mk (hbox);have n3_:=Aside0.mk ((by rw [hg];exact (below_size (by repeat (first|(with_reducible first|exact HB.out|apply below_alloc|apply pw_below_drewN|apply below_drew1)|exact HB.out))):w.heap.size ≤ gb102));have n4_:=Aside0.mk ((by rw [hg];exact (below_size (by repeat (first|(with_reducible first|exact HB.out|apply below_alloc|apply pw_below_drewN|apply below_drew1)|exact HB.out))):w.heap.size ≤ gb102));clear HO_3;clear HB;have HO_3:=n0_;have HB:=n1_;have BK102:=n2_;have GW102:=n3_;have GE102:=n4_;clear n0_ n1_ n2_ n3_ n4_;clear hb hbox hg;have hcz7_0:w6.cell? ⟨gb102,0,none⟩ = some (.string (⟨#[]⟩:ByteArray)):=(blk_cell BK102.out 0).trans rfl;have hcz7_1:w6.cell? ⟨gb102,1,none⟩ = some (.int .i64 0):=(blk_cell BK102.out 1).trans rfl;have hcz7_2:w6.cell? ⟨gb102,2,none⟩ = some (.int .i64 0):=(blk_cell BK102.out 2).trans rfl;have hfz7_0:=blk_frozen BK102.out 0;have hfz7_1:=blk_frozen BK102.out 1;have hfz7_2:=blk_frozen BK102.out 2))
       go_roundg k1
       case measure=>have:=HK1.out;omega
       case rel=>exact ⟨(x3_1),(wrap64 (x8_1 + 1)),(by first|rfl|(simp;done)|(simp [*];done)),H',⟨by have:=HK1.out;omega⟩,⟨by (with_reducible repeat (first|apply Kd.R_alloc|apply Kd.R_drewN|apply Kd.R_drew));exact Kd.R_mono (Kd.R_far (p:=⟨gb102,2,none⟩) (Kd.R_far (p:=⟨gb102,1,none⟩) (Kd.R_far (p:=⟨gb102,0,none⟩) (Kd.R_types HO_3.out BK102.out (by decide)) (fun _ hk=>hk.2) (.string ((rd_T37 l0 x8_1).f0))) (fun _ hk=>hk.2) (.int .i64 ((rd_T37 l0 x8_1).f1))) (fun _ hk=>hk.2) (.int .i64 ((rd_T37 l0 x8_1).f2))) (fun _ hk=>trivial)⟩,⟨by repeat (first|(with_reducible first|exact HB.out|apply below_alloc|apply pw_below_drewN|apply below_drew1|refine below_set ?_ GE102.out)|exact HB.out)⟩⟩
      ·rw [if_neg c5] at H
       have c5b0:(((rd_T37 l0 x8_1).f1) == 7) = false:=beq_eq_false_iff_ne.mpr c5
       have c5b1:(((rd_T37 l0 x8_1).f1) != 7) = true:=bne_iff_ne.mpr c5
       by_cases c8:x3_1.length < 8796093022208
       ·rw [if_pos c8] at H
        have LMc8:=Aside0.mk c8
        clear c8
        obtain ⟨y103,hy103⟩:∃ y_:List ByteArray,y_ = (x3_1 ++ [(rd_T37 l0 x8_1).f0]):=⟨_,rfl⟩
        replace H:(suspend_Open.l0 k1 y103 l0 (l0.length:Int) (wrap64 (x8_1 + 1))) = some r:=by first|(rw [hy103];with_reducible exact H)|(have H2_:=(Option.bind_some _ _).symm.trans H;rw [hy103];with_reducible exact H2_)|(have H2_:=(Option.bind_some _ _).symm.trans H;with_reducible exact H2_)|with_reducible exact H|(rw [hy103];exact H)|exact H
        have Ny103:=Aside0.mk hy103
        clear hy103
        have H':=Aside0.mk H
        clear H
        have p101:0 ≤ (x8_1:Int):=of_decide_eq_true (by first|(with_reducible assumption)|assumption)
        have q101:x8_1 < (l0.length:Int):=of_decide_eq_true (by first|(with_reducible assumption)|assumption)
        obtain ⟨ad101,e101,hx101_0,hx101_1,hx101_2⟩:=at_T37 HR0.out x8_1 p101 q101
        cases e101
        replace hx101_0:=(HB.out.cell (World.block_lt_of_cell? w _ hx101_0)).trans hx101_0
        replace hx101_1:=(HB.out.cell (World.block_lt_of_cell? w _ hx101_1)).trans hx101_1
        replace hx101_2:=(HB.out.cell (World.block_lt_of_cell? w _ hx101_2)).trans hx101_2
        replace p101:=eq_true p101
        replace q101:=eq_true q101
        go_wp2_with (first|((with_reducible refine gate_dst (N:=5) rfl ?_);refine box_event ?hg (N:=5) ?hd (cs:=#[.string (⟨#[]⟩:ByteArray),.int .i64 0,.int .i64 0]) (t:=37) ?hr ?_;(case hd=>rfl);(case hg=>rfl);(case hr=>first|(go_simp;done)|(go_simp;rfl));intro gb102 hg w9 hbox hb;have n0_:=Aside0.mk (Kd.R_below (by (with_reducible repeat (first|apply Kd.R_alloc|apply Kd.R_drewN|apply Kd.R_drew));exact HO_3.out) hb);have n1_:=Aside0.mk (below_step (by repeat (first|(with_reducible first|exact HB.out|apply below_alloc|apply pw_below_drewN|apply below_drew1)|exact HB.out)) hb);have n2_:=Aside0.mk (hbox);have n3_:=Aside0.mk ((by rw [hg];exact (below_size (by repeat (first|(with_reducible first|exact HB.out|apply below_alloc|apply pw_below_drewN|apply below_drew1)|exact HB.out))):w.heap.size ≤ gb102));have n4_:=Aside0.mk ((by rw [hg];exact (below_size (by repeat (first|(with_reducible first|exact HB.out|apply below_alloc|apply pw_below_drewN|apply below_drew1)|exact HB.out))):w.heap.size ≤ gb102));clear HO_3;clear HB;have HO_3:=n0_;have HB:=n1_;have BK102:=n2_;have GW102:=n3_;have GE102:=n4_;clear n0_ n1_ n2_ n3_ n4_;clear hb hbox hg;have hcz10_0:w9.cell? ⟨gb102,0,none⟩ = some (.string (⟨#[]⟩:ByteArray)):=(blk_cell BK102.out 0).trans rfl;have hcz10_1:w9.cell? ⟨gb102,1,none⟩ = some (.int .i64 0):=(blk_cell BK102.out 1).trans rfl;have hcz10_2:w9.cell? ⟨gb102,2,none⟩ = some (.int .i64 0):=(blk_cell BK102.out 2).trans rfl;have hfz10_0:=blk_frozen BK102.out 0;have hfz10_1:=blk_frozen BK102.out 1;have hfz10_2:=blk_frozen BK102.out 2)|((with_reducible refine gate_builtin (b:=.append) (xs:=#[.tmp 15,.tmp 18]) rfl ?_);at_builtin;refine Kd.R_append Kd.string (w0:=w) w.heap.size rfl (.tmp 15) (.tmp 18) 46 9 (.string ⟨#[]⟩) 16 rfl Try.underlying46 info9 rfl (by decide) (by omega) u3 x3_1 ((rd_T37 l0 x8_1).f0) [.string ((rd_T37 l0 x8_1).f0)] (fun _=>True) (fun _=>False) rfl (by first|(go_simp;done)|(go_simp;rfl)) ?aP (fun _ hk=>hk.elim) ?aF ?aO ?aB ?aS ?aL ?_;(case aP=>exact rfl);(case aB=>exact (by repeat (first|(with_reducible first|exact HB.out|apply below_alloc|apply pw_below_drewN|apply below_drew1|refine below_set ?_ GE102.out)|exact HB.out)));(case aF=>exact (fun _ _=>trivial));(case aO=>exact (by (with_reducible repeat (first|apply Kd.R_alloc|apply Kd.R_drewN|apply Kd.R_drew));exact Kd.R_mono (Kd.R_far (p:=⟨gb102,2,none⟩) (Kd.R_far (p:=⟨gb102,1,none⟩) (Kd.R_far (p:=⟨gb102,0,none⟩) (Kd.R_types HO_3.out BK102.out (by decide)) (fun _ hk=>hk.2) (.string ((rd_T37 l0 x8_1).f0))) (fun _ hk=>hk.2) (.int .i64 ((rd_T37 l0 x8_1).f1))) (fun _ hk=>hk.2) (.int .i64 ((rd_T37 l0 x8_1).f2))) (fun _ hk=>trivial)));(case aS=>exact (below_size (by repeat (first|(with_reducible first|exact HB.out|apply below_alloc|apply pw_below_drewN|apply below_drew1|refine below_set ?_ GE102.out)|exact HB.out))));(case aL=>have:=LMc8.out;omega);intro v104 w11 ho hb hg hat;rw [← Ny103.out] at ho;have n0_:=Aside0.mk (blk_grown (g:=gb102) (o:=.cells #[.string ((rd_T37 l0 x8_1).f0),.int .i64 ((rd_T37 l0 x8_1).f1),.int .i64 ((rd_T37 l0 x8_1).f2)] 37 (0,0)) (by (with_reducible repeat (first|refine blk_drewN ?_ _|refine blk_drew ?_|refine blk_alloc ?_ _));refine blk_put (cs:=#[.string ((rd_T37 l0 x8_1).f0),.int .i64 ((rd_T37 l0 x8_1).f1),.int .i64 0]) ?_ 2 _ rfl;(with_reducible repeat (first|refine blk_drewN ?_ _|refine blk_drew ?_|refine blk_alloc ?_ _));refine blk_put (cs:=#[.string ((rd_T37 l0 x8_1).f0),.int .i64 0,.int .i64 0]) ?_ 1 _ rfl;(with_reducible repeat (first|refine blk_drewN ?_ _|refine blk_drew ?_|refine blk_alloc ?_ _));refine blk_put (cs:=#[.string (⟨#[]⟩:ByteArray),.int .i64 0,.int .i64 0]) ?_ 0 _ rfl;(with_reducible repeat (first|refine blk_drewN ?_ _|refine blk_drew ?_|refine blk_alloc ?_ _));exact BK102.out) hg (Kd.R_ne HO_3.out BK102.out (by decide)));have n1_:=Aside0.mk (hb);have n2_:=Aside0.mk (ho);clear BK102;clear HB;clear HO_3;have BK102:=n0_;have HB:=n1_;have HO105:=n2_;clear n0_ n1_ n2_;clear ho hb hg hat))
        go_roundg k1
        case measure=>have:=HK1.out;omega
        case rel=>exact ⟨(y103),(wrap64 (x8_1 + 1)),(by first|rfl|(simp;done)|(simp [*];done)),H',⟨by have:=HK1.out;omega⟩,⟨by (with_reducible repeat (first|apply Kd.R_alloc|apply Kd.R_drewN|apply Kd.R_drew));exact HO105.out⟩,⟨by repeat (first|(with_reducible first|exact HB.out|apply below_alloc|apply pw_below_drewN|apply below_drew1|refine below_set ?_ GE102.out)|exact HB.out)⟩⟩
       ·rw [if_neg c8] at H
        exact absurd H (by simp)
     ·rw [if_neg c4] at H
      exact absurd H (by simp)
    ·rw [if_neg c3] at H
     exact absurd H (by simp)
   ·rw [if_neg c2] at H
    have c2b0:decide (x8_1 < (l0.length:Int)) = false:=decide_eq_false c2
    clear c2
    obtain rfl:=Option.some.inj H
    go_wp2
    go_ret
    exact ⟨_,by first|rfl|(simp [errW_none,errW_some] <;> rfl)|(simp [*,errW_none,errW_some] <;> rfl),by (with_reducible repeat (first|apply Kd.R_alloc|apply Kd.R_drewN|apply Kd.R_drew));exact HO_3.out,by repeat (first|(with_reducible first|exact HB.out|apply below_alloc|apply pw_below_drewN|apply below_drew1)|exact HB.out)⟩
end Go.Proofs.Ytgmelgkcoejknaa.X
end
section
namespace Go.Proofs.Ytgmelgkcoejknaa.X
open Go.RowKit Go.Proofs.YtgmelgkcoejknaaW.PrintWords Go.Proofs.YtgmelgkcoejknaaW.PrintLast Go.Proofs.YtgmelgkcoejknaaW.PrintMore
attribute [local go_sem] max2_int min2_int max_two min_two max_three min_three max_four min_four
set_option linter.unusedVariables false
set_option linter.unusedSimpArgs false
def contangolaw41_SuspendCases.f (k:Nat) (l0:List (S41)) (a1:ByteArray) (a2:Int):Option (Bool):=(contangolaw41_Cases.f k l0).bind fun t101=>((suspend_Declare.f k t101 a1 a2).bind fun bt104=>((contangoref41_Declare.f k l0 a1 a2).bind fun bt108=>((suspend_Of.f k t101 a1).bind fun bt112=>((contangoref41_Of.f k l0 a1).bind fun bt117=>((suspend_Check.f k t101).bind fun t122=>((contangoref41_Check.f k l0).bind fun t123=>(if t122 = t123 then ((contangolaw41_same.f k bt104.1 bt108.1).bind fun t124=>(if t124 = true then (if bt104.2 = bt108.2 then ((contangolaw41_same.f k (([(⟨bt112.1,bt112.2.1,bt112.2.2.1⟩:S37)]:List (S37))) (([(⟨bt117.1,bt117.2.1,bt117.2.2.1⟩:S41)]:List (S41)))).bind fun t131=>(if t131 = true then (if (bt112.2.2.2 == bt117.2.2.2) = true then ((suspend_Open.f k t101).bind fun t132=>((contangoref41_Open.f k l0).bind fun t135=>((contangoref03_Same.f k t132 t135).bind fun t138=>(if t138 = true then ((contangolaw41_goes.f k).bind fun t139=>(some t139)) else (none))))) else (none)) else (none))) else (none)) else (none))) else (none))))))))
theorem contangolaw41_SuspendCases.mono:∀ a0 a1 a2 k,LeO (contangolaw41_SuspendCases.f k a0 a1 a2) (contangolaw41_SuspendCases.f (k + 1) a0 a1 a2):=by
 intro a0 a1 a2 k
 unfold contangolaw41_SuspendCases.f
 repeat' first
   | (with_reducible exact contangolaw41_Cases.mono _ _)
   | (with_reducible exact contangolaw41_goes.mono _)
   | (with_reducible exact contangolaw41_same.mono _ _ _)
   | (with_reducible exact contangoref03_Same.mono _ _ _)
   | (with_reducible exact contangoref41_Check.mono _ _)
   | (with_reducible exact contangoref41_Declare.mono _ _ _ _)
   | (with_reducible exact contangoref41_Of.mono _ _ _)
   | (with_reducible exact contangoref41_Open.mono _ _)
   | (with_reducible exact suspend_Check.mono _ _)
   | (with_reducible exact suspend_Declare.mono _ _ _ _)
   | (with_reducible exact suspend_Of.mono _ _ _)
   | (with_reducible exact suspend_Open.mono _ _)
   | (with_reducible exact LeO.refl _)
   | (with_reducible exact LeO.none _)
   | (with_reducible refine LeO.ite ?_ ?_)
   | (with_reducible refine LeO.bind ?_ (fun _=>?_))
   | exact contangolaw41_Cases.mono _ _
   | exact contangolaw41_goes.mono _
   | exact contangolaw41_same.mono _ _ _
   | exact contangoref03_Same.mono _ _ _
   | exact contangoref41_Check.mono _ _
   | exact contangoref41_Declare.mono _ _ _ _
   | exact contangoref41_Of.mono _ _ _
   | exact contangoref41_Open.mono _ _
   | exact suspend_Check.mono _ _
   | exact suspend_Declare.mono _ _ _ _
   | exact suspend_Of.mono _ _ _
   | exact suspend_Open.mono _ _
   | exact LeO.none _
   | refine LeO.ite ?_ ?_
   | refine LeO.bind ?_ (fun _=>?_)
set_option maxHeartbeats 8000000 in
set_option maxRecDepth 100000 in
theorem contangolaw41_SuspendCases.calls (k:Nat) (A0:Option Addr) (c0:Nat) (l0:List (S41)) (a1:ByteArray) (a2:Int) (r:Bool) (w:World) (hr0:Kd.C k41 w A0 l0.length l0) (hc0:l0.length ≤ c0) (h:contangolaw41_SuspendCases.f k l0 a1 a2 = some r) :
  Calls Try.prog 6 #[.slice A0 l0.length c0,.string a1,.int .i64 a2] w fun e w'=>e = .returned (.bool r) ∧ Below w.heap.size w w':=by
 have hu37:=Try.underlying37
 have hu41:=Try.underlying41
 have HR0:=Aside0.mk hr0
 have HC0:=Aside0.mk hc0
 clear hr0 hc0
 have HB:=Aside0.mk (Below.refl w.heap.size w)
 have H:((contangolaw41_Cases.f k l0).bind fun t101=>((suspend_Declare.f k t101 a1 a2).bind fun bt104=>((contangoref41_Declare.f k l0 a1 a2).bind fun bt108=>((suspend_Of.f k t101 a1).bind fun bt112=>((contangoref41_Of.f k l0 a1).bind fun bt117=>((suspend_Check.f k t101).bind fun t122=>((contangoref41_Check.f k l0).bind fun t123=>(if t122 = t123 then ((contangolaw41_same.f k bt104.1 bt108.1).bind fun t124=>(if t124 = true then (if bt104.2 = bt108.2 then ((contangolaw41_same.f k (([(⟨bt112.1,bt112.2.1,bt112.2.2.1⟩:S37)]:List (S37))) (([(⟨bt117.1,bt117.2.1,bt117.2.2.1⟩:S41)]:List (S41)))).bind fun t131=>(if t131 = true then (if (bt112.2.2.2 == bt117.2.2.2) = true then ((suspend_Open.f k t101).bind fun t132=>((contangoref41_Open.f k l0).bind fun t135=>((contangoref03_Same.f k t132 t135).bind fun t138=>(if t138 = true then ((contangolaw41_goes.f k).bind fun t139=>(some t139)) else (none))))) else (none)) else (none))) else (none)) else (none))) else (none))))))))) = some r:=h
 clear h
 replace H:=Option.bind_eq_some_iff.mp H
 obtain ⟨t101,A40,H⟩:=H
 replace H:((suspend_Declare.f k t101 a1 a2).bind fun bt104=>((contangoref41_Declare.f k l0 a1 a2).bind fun bt108=>((suspend_Of.f k t101 a1).bind fun bt112=>((contangoref41_Of.f k l0 a1).bind fun bt117=>((suspend_Check.f k t101).bind fun t122=>((contangoref41_Check.f k l0).bind fun t123=>(if t122 = t123 then ((contangolaw41_same.f k bt104.1 bt108.1).bind fun t124=>(if t124 = true then (if bt104.2 = bt108.2 then ((contangolaw41_same.f k (([(⟨bt112.1,bt112.2.1,bt112.2.2.1⟩:S37)]:List (S37))) (([(⟨bt117.1,bt117.2.1,bt117.2.2.1⟩:S41)]:List (S41)))).bind fun t131=>(if t131 = true then (if (bt112.2.2.2 == bt117.2.2.2) = true then ((suspend_Open.f k t101).bind fun t132=>((contangoref41_Open.f k l0).bind fun t135=>((contangoref03_Same.f k t132 t135).bind fun t138=>(if t138 = true then ((contangolaw41_goes.f k).bind fun t139=>(some t139)) else (none))))) else (none)) else (none))) else (none)) else (none))) else (none)))))))) = some r:=H
 have A4:=Aside0.mk A40
 clear A40
 replace H:=Option.bind_eq_some_iff.mp H
 obtain ⟨⟨t104,t105⟩,A50,H⟩:=H
 replace H:((contangoref41_Declare.f k l0 a1 a2).bind fun bt108=>((suspend_Of.f k t101 a1).bind fun bt112=>((contangoref41_Of.f k l0 a1).bind fun bt117=>((suspend_Check.f k t101).bind fun t122=>((contangoref41_Check.f k l0).bind fun t123=>(if t122 = t123 then ((contangolaw41_same.f k t104 bt108.1).bind fun t124=>(if t124 = true then (if t105 = bt108.2 then ((contangolaw41_same.f k (([(⟨bt112.1,bt112.2.1,bt112.2.2.1⟩:S37)]:List (S37))) (([(⟨bt117.1,bt117.2.1,bt117.2.2.1⟩:S41)]:List (S41)))).bind fun t131=>(if t131 = true then (if (bt112.2.2.2 == bt117.2.2.2) = true then ((suspend_Open.f k t101).bind fun t132=>((contangoref41_Open.f k l0).bind fun t135=>((contangoref03_Same.f k t132 t135).bind fun t138=>(if t138 = true then ((contangolaw41_goes.f k).bind fun t139=>(some t139)) else (none))))) else (none)) else (none))) else (none)) else (none))) else (none))))))) = some r:=H
 have A5:=Aside0.mk A50
 clear A50
 replace H:=Option.bind_eq_some_iff.mp H
 obtain ⟨⟨t108,t109⟩,A60,H⟩:=H
 replace H:((suspend_Of.f k t101 a1).bind fun bt112=>((contangoref41_Of.f k l0 a1).bind fun bt117=>((suspend_Check.f k t101).bind fun t122=>((contangoref41_Check.f k l0).bind fun t123=>(if t122 = t123 then ((contangolaw41_same.f k t104 t108).bind fun t124=>(if t124 = true then (if t105 = t109 then ((contangolaw41_same.f k (([(⟨bt112.1,bt112.2.1,bt112.2.2.1⟩:S37)]:List (S37))) (([(⟨bt117.1,bt117.2.1,bt117.2.2.1⟩:S41)]:List (S41)))).bind fun t131=>(if t131 = true then (if (bt112.2.2.2 == bt117.2.2.2) = true then ((suspend_Open.f k t101).bind fun t132=>((contangoref41_Open.f k l0).bind fun t135=>((contangoref03_Same.f k t132 t135).bind fun t138=>(if t138 = true then ((contangolaw41_goes.f k).bind fun t139=>(some t139)) else (none))))) else (none)) else (none))) else (none)) else (none))) else (none)))))) = some r:=H
 have A6:=Aside0.mk A60
 clear A60
 replace H:=Option.bind_eq_some_iff.mp H
 obtain ⟨⟨t112,t113,t114,t115⟩,A70,H⟩:=H
 replace H:((contangoref41_Of.f k l0 a1).bind fun bt117=>((suspend_Check.f k t101).bind fun t122=>((contangoref41_Check.f k l0).bind fun t123=>(if t122 = t123 then ((contangolaw41_same.f k t104 t108).bind fun t124=>(if t124 = true then (if t105 = t109 then ((contangolaw41_same.f k (([(⟨t112,t113,t114⟩:S37)]:List (S37))) (([(⟨bt117.1,bt117.2.1,bt117.2.2.1⟩:S41)]:List (S41)))).bind fun t131=>(if t131 = true then (if (t115 == bt117.2.2.2) = true then ((suspend_Open.f k t101).bind fun t132=>((contangoref41_Open.f k l0).bind fun t135=>((contangoref03_Same.f k t132 t135).bind fun t138=>(if t138 = true then ((contangolaw41_goes.f k).bind fun t139=>(some t139)) else (none))))) else (none)) else (none))) else (none)) else (none))) else (none))))) = some r:=H
 have A7:=Aside0.mk A70
 clear A70
 replace H:=Option.bind_eq_some_iff.mp H
 obtain ⟨⟨t117,t118,t119,t120⟩,A80,H⟩:=H
 replace H:((suspend_Check.f k t101).bind fun t122=>((contangoref41_Check.f k l0).bind fun t123=>(if t122 = t123 then ((contangolaw41_same.f k t104 t108).bind fun t124=>(if t124 = true then (if t105 = t109 then ((contangolaw41_same.f k (([(⟨t112,t113,t114⟩:S37)]:List (S37))) (([(⟨t117,t118,t119⟩:S41)]:List (S41)))).bind fun t131=>(if t131 = true then (if (t115 == t120) = true then ((suspend_Open.f k t101).bind fun t132=>((contangoref41_Open.f k l0).bind fun t135=>((contangoref03_Same.f k t132 t135).bind fun t138=>(if t138 = true then ((contangolaw41_goes.f k).bind fun t139=>(some t139)) else (none))))) else (none)) else (none))) else (none)) else (none))) else (none)))) = some r:=H
 have A8:=Aside0.mk A80
 clear A80
 replace H:=Option.bind_eq_some_iff.mp H
 obtain ⟨t122,A90,H⟩:=H
 replace H:((contangoref41_Check.f k l0).bind fun t123=>(if t122 = t123 then ((contangolaw41_same.f k t104 t108).bind fun t124=>(if t124 = true then (if t105 = t109 then ((contangolaw41_same.f k (([(⟨t112,t113,t114⟩:S37)]:List (S37))) (([(⟨t117,t118,t119⟩:S41)]:List (S41)))).bind fun t131=>(if t131 = true then (if (t115 == t120) = true then ((suspend_Open.f k t101).bind fun t132=>((contangoref41_Open.f k l0).bind fun t135=>((contangoref03_Same.f k t132 t135).bind fun t138=>(if t138 = true then ((contangolaw41_goes.f k).bind fun t139=>(some t139)) else (none))))) else (none)) else (none))) else (none)) else (none))) else (none))) = some r:=H
 have A9:=Aside0.mk A90
 clear A90
 replace H:=Option.bind_eq_some_iff.mp H
 obtain ⟨t123,A100,H⟩:=H
 replace H:(if t122 = t123 then ((contangolaw41_same.f k t104 t108).bind fun t124=>(if t124 = true then (if t105 = t109 then ((contangolaw41_same.f k (([(⟨t112,t113,t114⟩:S37)]:List (S37))) (([(⟨t117,t118,t119⟩:S41)]:List (S41)))).bind fun t131=>(if t131 = true then (if (t115 == t120) = true then ((suspend_Open.f k t101).bind fun t132=>((contangoref41_Open.f k l0).bind fun t135=>((contangoref03_Same.f k t132 t135).bind fun t138=>(if t138 = true then ((contangolaw41_goes.f k).bind fun t139=>(some t139)) else (none))))) else (none)) else (none))) else (none)) else (none))) else (none)) = some r:=H
 have A10:=Aside0.mk A100
 clear A100
 by_cases c11:t122 = t123
 ·rw [if_pos c11] at H
  have c11b0:(t122 == t123) = true:=beq_iff_eq.mpr c11
  have c11b1:(t122 != t123) = false:=bne_eq_false_iff_eq.mpr c11
  clear c11
  replace H:=Option.bind_eq_some_iff.mp H
  obtain ⟨t124,A120,H⟩:=H
  replace H:(if t124 = true then (if t105 = t109 then ((contangolaw41_same.f k (([(⟨t112,t113,t114⟩:S37)]:List (S37))) (([(⟨t117,t118,t119⟩:S41)]:List (S41)))).bind fun t131=>(if t131 = true then (if (t115 == t120) = true then ((suspend_Open.f k t101).bind fun t132=>((contangoref41_Open.f k l0).bind fun t135=>((contangoref03_Same.f k t132 t135).bind fun t138=>(if t138 = true then ((contangolaw41_goes.f k).bind fun t139=>(some t139)) else (none))))) else (none)) else (none))) else (none)) else (none)) = some r:=H
  have A12:=Aside0.mk A120
  clear A120
  by_cases c13:t124 = true
  ·subst c13
   have H1:(if t105 = t109 then ((contangolaw41_same.f k (([(⟨t112,t113,t114⟩:S37)]:List (S37))) (([(⟨t117,t118,t119⟩:S41)]:List (S41)))).bind fun t131=>(if t131 = true then (if (t115 == t120) = true then ((suspend_Open.f k t101).bind fun t132=>((contangoref41_Open.f k l0).bind fun t135=>((contangoref03_Same.f k t132 t135).bind fun t138=>(if t138 = true then ((contangolaw41_goes.f k).bind fun t139=>(some t139)) else (none))))) else (none)) else (none))) else (none)) = some r:=by rw [if_pos rfl] at H;exact H
   clear H
   have H:=H1
   clear H1
   by_cases c14:t105 = t109
   ·rw [if_pos c14] at H
    have c14b0:(t105 == t109) = true:=beq_iff_eq.mpr c14
    have c14b1:(t105 != t109) = false:=bne_eq_false_iff_eq.mpr c14
    clear c14
    obtain ⟨y125,hy125⟩:∃ y_:List (S37),y_ = (([(⟨t112,t113,t114⟩:S37)]:List (S37))):=⟨_,rfl⟩
    replace H:((contangolaw41_same.f k y125 (([(⟨t117,t118,t119⟩:S41)]:List (S41)))).bind fun t131=>(if t131 = true then (if (t115 == t120) = true then ((suspend_Open.f k t101).bind fun t132=>((contangoref41_Open.f k l0).bind fun t135=>((contangoref03_Same.f k t132 t135).bind fun t138=>(if t138 = true then ((contangolaw41_goes.f k).bind fun t139=>(some t139)) else (none))))) else (none)) else (none))) = some r:=by first|(rw [hy125];with_reducible exact H)|(have H2_:=(Option.bind_some _ _).symm.trans H;rw [hy125];with_reducible exact H2_)|(have H2_:=(Option.bind_some _ _).symm.trans H;with_reducible exact H2_)|with_reducible exact H|(rw [hy125];exact H)|exact H
    have Ny125:=Aside0.mk hy125
    clear hy125
    obtain ⟨y128,hy128⟩:∃ y_:List (S41),y_ = (([(⟨t117,t118,t119⟩:S41)]:List (S41))):=⟨_,rfl⟩
    replace H:((contangolaw41_same.f k y125 y128).bind fun t131=>(if t131 = true then (if (t115 == t120) = true then ((suspend_Open.f k t101).bind fun t132=>((contangoref41_Open.f k l0).bind fun t135=>((contangoref03_Same.f k t132 t135).bind fun t138=>(if t138 = true then ((contangolaw41_goes.f k).bind fun t139=>(some t139)) else (none))))) else (none)) else (none))) = some r:=by first|(rw [hy128];with_reducible exact H)|(have H2_:=(Option.bind_some _ _).symm.trans H;rw [hy128];with_reducible exact H2_)|(have H2_:=(Option.bind_some _ _).symm.trans H;with_reducible exact H2_)|with_reducible exact H|(rw [hy128];exact H)|exact H
    have Ny128:=Aside0.mk hy128
    clear hy128
    replace H:=Option.bind_eq_some_iff.mp H
    obtain ⟨t131,A150,H⟩:=H
    replace H:(if t131 = true then (if (t115 == t120) = true then ((suspend_Open.f k t101).bind fun t132=>((contangoref41_Open.f k l0).bind fun t135=>((contangoref03_Same.f k t132 t135).bind fun t138=>(if t138 = true then ((contangolaw41_goes.f k).bind fun t139=>(some t139)) else (none))))) else (none)) else (none)) = some r:=H
    have A15:=Aside0.mk A150
    clear A150
    by_cases c16:t131 = true
    ·subst c16
     have H1:(if (t115 == t120) = true then ((suspend_Open.f k t101).bind fun t132=>((contangoref41_Open.f k l0).bind fun t135=>((contangoref03_Same.f k t132 t135).bind fun t138=>(if t138 = true then ((contangolaw41_goes.f k).bind fun t139=>(some t139)) else (none))))) else (none)) = some r:=by rw [if_pos rfl] at H;exact H
     clear H
     have H:=H1
     clear H1
     by_cases c17:(t115 == t120) = true
     ·rw [if_pos c17] at H
      have c17b0:(t115 == t120) = true:=c17
      (try (have c17b1:decide (t115 = t120) = true:=by simpa using c17))
      (try (have c17b2:(t115 == t120) = true:=by simpa using c17))
      clear c17
      replace H:=Option.bind_eq_some_iff.mp H
      obtain ⟨t132,A180,H⟩:=H
      replace H:((contangoref41_Open.f k l0).bind fun t135=>((contangoref03_Same.f k t132 t135).bind fun t138=>(if t138 = true then ((contangolaw41_goes.f k).bind fun t139=>(some t139)) else (none)))) = some r:=H
      have A18:=Aside0.mk A180
      clear A180
      replace H:=Option.bind_eq_some_iff.mp H
      obtain ⟨t135,A190,H⟩:=H
      replace H:((contangoref03_Same.f k t132 t135).bind fun t138=>(if t138 = true then ((contangolaw41_goes.f k).bind fun t139=>(some t139)) else (none))) = some r:=H
      have A19:=Aside0.mk A190
      clear A190
      replace H:=Option.bind_eq_some_iff.mp H
      obtain ⟨t138,A200,H⟩:=H
      replace H:(if t138 = true then ((contangolaw41_goes.f k).bind fun t139=>(some t139)) else (none)) = some r:=H
      have A20:=Aside0.mk A200
      clear A200
      by_cases c21:t138 = true
      ·subst c21
       have H1:((contangolaw41_goes.f k).bind fun t139=>(some t139)) = some r:=by rw [if_pos rfl] at H;exact H
       clear H
       have H:=H1
       clear H1
       replace H:=Option.bind_eq_some_iff.mp H
       obtain ⟨t139,A220,H⟩:=H
       replace H:(some t139) = some r:=H
       have A22:=Aside0.mk A220
       clear A220
       obtain rfl:=Option.some.inj H
       go_enter Try.func6,Try.ntmps6
       go_wp2_with (first|((with_reducible refine gate_callee (f:=8) rfl ?_);refine goesL_ (some 17) rfl rfl Try.func8 (by kernel_rfl) rfl #[.slice A0 l0.length c0] rfl (by (try simp only [List.map_toArray,List.map_cons,List.map_nil]);first|done|rfl|(simp only [List.length_drop,List.length_take];rfl)) ?_;(with_reducible refine (contangolaw41_Cases.calls k _ _ l0 t101 _ ?side1 ?side2 A4.out).mono ?_);(case side1=>repeat (first|exact HR0.out|(with_reducible refine Kd.C_alloc ?_ _)|(with_reducible refine Kd.C_drewN ?_ _)|(with_reducible refine Kd.C_drew ?_)));(case side2=>exact HC0.out);rintro e w23 ⟨v102,rfl,ho0,hb⟩;refine ⟨_,rfl,?_⟩;have n0_:=Aside0.mk (Kd.R_lower ho0 (below_size (by repeat (first|(with_reducible first|exact HB.out|apply below_alloc|apply pw_below_drewN|apply below_drew1)|exact HB.out))));have n1_:=Aside0.mk (below_step (by repeat (first|(with_reducible first|exact HB.out|apply below_alloc|apply pw_below_drewN|apply below_drew1)|exact HB.out)) hb);clear HB;have HO103:=n0_;have HB:=n1_;clear n0_ n1_;(try clear hb);(try clear hb2);(try clear hk);(try clear hi);(try clear ho0);obtain ⟨Ao24,co24,eo24⟩:=Kd.R_slice HO103.out;subst eo24)|((with_reducible refine gate_callee (f:=16) rfl ?_);refine goesL_ (some 22) rfl rfl Try.func16 (by kernel_rfl) rfl #[.slice Ao24 t101.length co24,.string a1,.int .i64 a2] rfl (by (try simp only [List.map_toArray,List.map_cons,List.map_nil]);first|done|rfl|(simp only [List.length_drop,List.length_take];rfl)) ?_;(with_reducible refine (suspend_Declare.calls k _ _ t101 a1 a2 t104 t105 _ ?side1 ?side2 A5.out).mono ?_);(case side1=>repeat (first|exact (Kd.R_reads' HO103.out).2.2|(with_reducible refine Kd.C_alloc ?_ _)|(with_reducible refine Kd.C_drewN ?_ _)|(with_reducible refine Kd.C_drew ?_)));(case side2=>exact (Kd.R_reads' HO103.out).2.1);rintro e w25 ⟨v106,rfl,ho0,hb⟩;refine ⟨_,rfl,?_⟩;have n0_:=Aside0.mk (Kd.R_elder' (by (with_reducible repeat (first|apply Kd.R_alloc|apply Kd.R_drewN|apply Kd.R_drew));exact HO103.out) (Kd.R_base ho0) hb);have n1_:=Aside0.mk (Kd.R_lower (Kd.R_new' ho0 (Kd.R_lt (by (with_reducible repeat (first|apply Kd.R_alloc|apply Kd.R_drewN|apply Kd.R_drew));exact HO103.out))) (below_size (by repeat (first|(with_reducible first|exact HB.out|apply below_alloc|apply pw_below_drewN|apply below_drew1)|exact HB.out))));have n2_:=Aside0.mk (below_step (by repeat (first|(with_reducible first|exact HB.out|apply below_alloc|apply pw_below_drewN|apply below_drew1)|exact HB.out)) hb);clear HO103;clear HB;have HO103:=n0_;have HO107:=n1_;have HB:=n2_;clear n0_ n1_ n2_;(try clear hb);(try clear hb2);(try clear hk);(try clear hi);(try clear ho0))|((with_reducible refine gate_callee (f:=17) rfl ?_);refine goesL_ (some 29) rfl rfl Try.func17 (by kernel_rfl) rfl #[.slice A0 l0.length c0,.string a1,.int .i64 a2] rfl (by (try simp only [List.map_toArray,List.map_cons,List.map_nil]);first|done|rfl|(simp only [List.length_drop,List.length_take];rfl)) ?_;(with_reducible refine (contangoref41_Declare.calls k _ _ l0 a1 a2 t108 t109 _ ?side1 ?side2 A6.out).mono ?_);(case side1=>repeat (first|exact (Kd.C_below HR0.out HB.out)|(with_reducible refine Kd.C_alloc ?_ _)|(with_reducible refine Kd.C_drewN ?_ _)|(with_reducible refine Kd.C_drew ?_)));(case side2=>exact HC0.out);rintro e w26 ⟨v110,rfl,ho0,hb⟩;refine ⟨_,rfl,?_⟩;have n0_:=Aside0.mk (Kd.R_below (by (with_reducible repeat (first|apply Kd.R_alloc|apply Kd.R_drewN|apply Kd.R_drew));exact HO103.out) hb);have n1_:=Aside0.mk (Kd.R_below (by (with_reducible repeat (first|apply Kd.R_alloc|apply Kd.R_drewN|apply Kd.R_drew));exact HO107.out) hb);have n2_:=Aside0.mk (Kd.R_lower ho0 (below_size (by repeat (first|(with_reducible first|exact HB.out|apply below_alloc|apply pw_below_drewN|apply below_drew1)|exact HB.out))));have n3_:=Aside0.mk (below_step (by repeat (first|(with_reducible first|exact HB.out|apply below_alloc|apply pw_below_drewN|apply below_drew1)|exact HB.out)) hb);clear HO103;clear HO107;clear HB;have HO103:=n0_;have HO107:=n1_;have HO111:=n2_;have HB:=n3_;clear n0_ n1_ n2_ n3_;(try clear hb);(try clear hb2);(try clear hk);(try clear hi);(try clear ho0))|((with_reducible refine gate_callee (f:=15) rfl ?_);refine goesL_ (some 35) rfl rfl Try.func15 (by kernel_rfl) rfl #[.slice Ao24 t101.length co24,.string a1] rfl (by (try simp only [List.map_toArray,List.map_cons,List.map_nil]);first|done|rfl|(simp only [List.length_drop,List.length_take];rfl)) ?_;(with_reducible refine (suspend_Of.calls k _ _ t101 a1 t112 t113 t114 t115 _ ?side1 ?side2 A7.out).mono ?_);(case side1=>repeat (first|exact (Kd.R_reads' HO103.out).2.2|(with_reducible refine Kd.C_alloc ?_ _)|(with_reducible refine Kd.C_drewN ?_ _)|(with_reducible refine Kd.C_drew ?_)));(case side2=>exact (Kd.R_reads' HO103.out).2.1);rintro e w27 ⟨rfl,hb⟩;refine ⟨_,rfl,?_⟩;have n0_:=Aside0.mk (Kd.R_below (by (with_reducible repeat (first|apply Kd.R_alloc|apply Kd.R_drewN|apply Kd.R_drew));exact HO103.out) hb);have n1_:=Aside0.mk (Kd.R_below (by (with_reducible repeat (first|apply Kd.R_alloc|apply Kd.R_drewN|apply Kd.R_drew));exact HO107.out) hb);have n2_:=Aside0.mk (Kd.R_below (by (with_reducible repeat (first|apply Kd.R_alloc|apply Kd.R_drewN|apply Kd.R_drew));exact HO111.out) hb);have n3_:=Aside0.mk (below_step (by repeat (first|(with_reducible first|exact HB.out|apply below_alloc|apply pw_below_drewN|apply below_drew1)|exact HB.out)) hb);clear HO103;clear HO107;clear HO111;clear HB;have HO103:=n0_;have HO107:=n1_;have HO111:=n2_;have HB:=n3_;clear n0_ n1_ n2_ n3_;(try clear hb);(try clear hb2);(try clear hk);(try clear hi))|((with_reducible refine gate_dst (N:=12) rfl ?_);(try (refine gate_guard (by rfl) ?_;dsimp only));refine box_event ?hg (N:=12) ?hd (cs:=#[.string (⟨#[]⟩:ByteArray),.int .i64 0,.int .i64 0]) (t:=37) ?hr ?_;(case hd=>rfl);(case hg=>rfl);(case hr=>first|(go_simp;done)|(go_simp;rfl));intro gb116 hg w28 hbox hb;have n0_:=Aside0.mk (Kd.R_below (Kd.R_elderB (by (with_reducible repeat (first|apply Kd.R_alloc|apply Kd.R_drewN|apply Kd.R_drew));exact HO103.out) gb116 (Nat.le_of_eq hg.symm)) hb);have n1_:=Aside0.mk (Kd.R_below (Kd.R_elderB (by (with_reducible repeat (first|apply Kd.R_alloc|apply Kd.R_drewN|apply Kd.R_drew));exact HO107.out) gb116 (Nat.le_of_eq hg.symm)) hb);have n2_:=Aside0.mk (Kd.R_below (by (with_reducible repeat (first|apply Kd.R_alloc|apply Kd.R_drewN|apply Kd.R_drew));exact HO111.out) hb);have n3_:=Aside0.mk (below_step (by repeat (first|(with_reducible first|exact HB.out|apply below_alloc|apply pw_below_drewN|apply below_drew1)|exact HB.out)) hb);have n4_:=Aside0.mk (hbox);have n5_:=Aside0.mk ((by rw [hg];exact (below_size (by repeat (first|(with_reducible first|exact HB.out|apply below_alloc|apply pw_below_drewN|apply below_drew1)|exact HB.out))):w.heap.size ≤ gb116));have n6_:=Aside0.mk ((by rw [hg];exact (below_size (by repeat (first|(with_reducible first|exact HB.out|apply below_alloc|apply pw_below_drewN|apply below_drew1)|exact HB.out))):w.heap.size ≤ gb116));clear HO103;clear HO107;clear HO111;clear HB;have HO103:=n0_;have HO107:=n1_;have HO111:=n2_;have HB:=n3_;have BK116:=n4_;have GW116:=n5_;have GE116:=n6_;clear n0_ n1_ n2_ n3_ n4_ n5_ n6_;clear hb hbox hg;have hcz29_0:w28.cell? ⟨gb116,0,none⟩ = some (.string (⟨#[]⟩:ByteArray)):=(blk_cell BK116.out 0).trans rfl;have hcz29_1:w28.cell? ⟨gb116,1,none⟩ = some (.int .i64 0):=(blk_cell BK116.out 1).trans rfl;have hcz29_2:w28.cell? ⟨gb116,2,none⟩ = some (.int .i64 0):=(blk_cell BK116.out 2).trans rfl;have hfz29_0:=blk_frozen BK116.out 0;have hfz29_1:=blk_frozen BK116.out 1;have hfz29_2:=blk_frozen BK116.out 2)|((with_reducible refine gate_callee (f:=18) rfl ?_);refine goesL_ (some 41) rfl rfl Try.func18 (by kernel_rfl) rfl #[.slice A0 l0.length c0,.string a1] rfl (by (try simp only [List.map_toArray,List.map_cons,List.map_nil]);first|done|rfl|(simp only [List.length_drop,List.length_take];rfl)) ?_;(with_reducible refine (contangoref41_Of.calls k _ _ l0 a1 t117 t118 t119 t120 _ ?side1 ?side2 A8.out).mono ?_);(case side1=>exact Kd.C_below HR0.out (by repeat (first|(with_reducible first|exact HB.out|apply below_alloc|apply pw_below_drewN|apply below_drew1|refine below_set ?_ GE116.out)|exact HB.out)));(case side2=>exact HC0.out);rintro e w30 ⟨rfl,hb⟩;refine ⟨_,rfl,?_⟩;have n0_:=Aside0.mk (Kd.R_below (by (with_reducible repeat (first|apply Kd.R_alloc|apply Kd.R_drewN|apply Kd.R_drew));exact (Kd.R_mono (Kd.R_far (p:=⟨gb116,2,none⟩) (Kd.R_far (p:=⟨gb116,1,none⟩) (Kd.R_far (p:=⟨gb116,0,none⟩) (Kd.R_mono HO103.out (fun k_ hk=>(⟨hk,hk.2⟩:_ ∧ k_ ≠ gb116))) (fun _ hk=>hk.2) (.string t112)) (fun _ hk=>hk.2) (.int .i64 t113)) (fun _ hk=>hk.2) (.int .i64 t114)) (fun _ h_=>h_.1))) hb);have n1_:=Aside0.mk (Kd.R_below (by (with_reducible repeat (first|apply Kd.R_alloc|apply Kd.R_drewN|apply Kd.R_drew));exact (Kd.R_mono (Kd.R_far (p:=⟨gb116,2,none⟩) (Kd.R_far (p:=⟨gb116,1,none⟩) (Kd.R_far (p:=⟨gb116,0,none⟩) (Kd.R_mono HO107.out (fun k_ hk=>(⟨hk,hk.2⟩:_ ∧ k_ ≠ gb116))) (fun _ hk=>hk.2) (.string t112)) (fun _ hk=>hk.2) (.int .i64 t113)) (fun _ hk=>hk.2) (.int .i64 t114)) (fun _ h_=>h_.1))) hb);have n2_:=Aside0.mk (Kd.R_below (by (with_reducible repeat (first|apply Kd.R_alloc|apply Kd.R_drewN|apply Kd.R_drew));exact (Kd.R_mono (Kd.R_far (p:=⟨gb116,2,none⟩) (Kd.R_far (p:=⟨gb116,1,none⟩) (Kd.R_far (p:=⟨gb116,0,none⟩) (Kd.R_types HO111.out BK116.out (by decide)) (fun _ hk=>hk.2) (.string t112)) (fun _ hk=>hk.2) (.int .i64 t113)) (fun _ hk=>hk.2) (.int .i64 t114)) (fun _ h_=>h_.1))) hb);have n3_:=Aside0.mk (blk_below (g:=gb116) (o:=.cells #[.string t112,.int .i64 t113,.int .i64 t114] 37 (0,0)) (by (with_reducible repeat (first|refine blk_drewN ?_ _|refine blk_drew ?_|refine blk_alloc ?_ _));refine blk_put (cs:=#[.string t112,.int .i64 t113,.int .i64 0]) ?_ 2 _ rfl;(with_reducible repeat (first|refine blk_drewN ?_ _|refine blk_drew ?_|refine blk_alloc ?_ _));refine blk_put (cs:=#[.string t112,.int .i64 0,.int .i64 0]) ?_ 1 _ rfl;(with_reducible repeat (first|refine blk_drewN ?_ _|refine blk_drew ?_|refine blk_alloc ?_ _));refine blk_put (cs:=#[.string (⟨#[]⟩:ByteArray),.int .i64 0,.int .i64 0]) ?_ 0 _ rfl;(with_reducible repeat (first|refine blk_drewN ?_ _|refine blk_drew ?_|refine blk_alloc ?_ _));exact BK116.out) hb);have n4_:=Aside0.mk (below_step (by repeat (first|(with_reducible first|exact HB.out|apply below_alloc|apply pw_below_drewN|apply below_drew1|refine below_set ?_ GE116.out)|exact HB.out)) hb);clear HO103;clear HO107;clear HO111;clear BK116;clear HB;have HO103:=n0_;have HO107:=n1_;have HO111:=n2_;have BK116:=n3_;have HB:=n4_;clear n0_ n1_ n2_ n3_ n4_;(try clear hb);(try clear hb2);(try clear hk);(try clear hi))|((with_reducible refine gate_dst (N:=14) rfl ?_);(try (refine gate_guard (by rfl) ?_;dsimp only));refine box_event ?hg (N:=14) ?hd (cs:=#[.string (⟨#[]⟩:ByteArray),.int .i64 0,.int .i64 0]) (t:=41) ?hr ?_;(case hd=>rfl);(case hg=>rfl);(case hr=>first|(go_simp;done)|(go_simp;rfl));intro gb121 hg w31 hbox hb;have n0_:=Aside0.mk (Kd.R_below (by (with_reducible repeat (first|apply Kd.R_alloc|apply Kd.R_drewN|apply Kd.R_drew));exact HO103.out) hb);have n1_:=Aside0.mk (Kd.R_below (by (with_reducible repeat (first|apply Kd.R_alloc|apply Kd.R_drewN|apply Kd.R_drew));exact HO107.out) hb);have n2_:=Aside0.mk (Kd.R_below (Kd.R_elderB (by (with_reducible repeat (first|apply Kd.R_alloc|apply Kd.R_drewN|apply Kd.R_drew));exact HO111.out) gb121 (Nat.le_of_eq hg.symm)) hb);have n3_:=Aside0.mk (blk_below (g:=gb116) (o:=.cells #[.string t112,.int .i64 t113,.int .i64 t114] 37 (0,0)) (by (with_reducible repeat (first|refine blk_drewN ?_ _|refine blk_drew ?_|refine blk_alloc ?_ _));exact BK116.out) hb);have n4_:=Aside0.mk (below_step (by repeat (first|(with_reducible first|exact HB.out|apply below_alloc|apply pw_below_drewN|apply below_drew1|refine below_set ?_ GE116.out)|exact HB.out)) hb);have n5_:=Aside0.mk (hbox);have n6_:=Aside0.mk ((by rw [hg];exact (below_size (by repeat (first|(with_reducible first|exact HB.out|apply below_alloc|apply pw_below_drewN|apply below_drew1|refine below_set ?_ GE116.out)|exact HB.out))):w.heap.size ≤ gb121));have n7_:=Aside0.mk ((by rw [hg];exact (below_size (by repeat (first|(with_reducible first|exact HB.out|apply below_alloc|apply pw_below_drewN|apply below_drew1|refine below_set ?_ GE116.out)|exact HB.out))):w.heap.size ≤ gb121));have n8_:=Aside0.mk ((by rw [hg];exact Nat.ne_of_lt (blk_lt (g:=gb116) (o:=.cells #[.string t112,.int .i64 t113,.int .i64 t114] 37 (0,0)) (by (with_reducible repeat (first|refine blk_drewN ?_ _|refine blk_drew ?_|refine blk_alloc ?_ _));exact BK116.out)):gb116 ≠ gb121));have n9_:=Aside0.mk ((by rw [hg];exact Nat.ne_of_gt (blk_lt (g:=gb116) (o:=.cells #[.string t112,.int .i64 t113,.int .i64 t114] 37 (0,0)) (by (with_reducible repeat (first|refine blk_drewN ?_ _|refine blk_drew ?_|refine blk_alloc ?_ _));exact BK116.out)):gb121 ≠ gb116));clear HO103;clear HO107;clear HO111;clear BK116;clear HB;have HO103:=n0_;have HO107:=n1_;have HO111:=n2_;have BK116:=n3_;have HB:=n4_;have BK121:=n5_;have GW121:=n6_;have GE121:=n7_;have NB116_121:=n8_;have NB121_116:=n9_;clear n0_ n1_ n2_ n3_ n4_ n5_ n6_ n7_ n8_ n9_;clear hb hbox hg;have hnb32:=NB121_116.out;have hnc32:=NB116_121.out;have hcz33_0:w31.cell? ⟨gb121,0,none⟩ = some (.string (⟨#[]⟩:ByteArray)):=(blk_cell BK121.out 0).trans rfl;have hcz33_1:w31.cell? ⟨gb121,1,none⟩ = some (.int .i64 0):=(blk_cell BK121.out 1).trans rfl;have hcz33_2:w31.cell? ⟨gb121,2,none⟩ = some (.int .i64 0):=(blk_cell BK121.out 2).trans rfl;have hfz33_0:=blk_frozen BK121.out 0;have hfz33_1:=blk_frozen BK121.out 1;have hfz33_2:=blk_frozen BK121.out 2)|((with_reducible refine gate_callee (f:=14) rfl ?_);refine goesL_ (some 45) rfl rfl Try.func14 (by kernel_rfl) rfl #[.slice Ao24 t101.length co24] rfl (by (try simp only [List.map_toArray,List.map_cons,List.map_nil]);first|done|rfl|(simp only [List.length_drop,List.length_take];rfl)) ?_;(with_reducible refine (suspend_Check.calls k _ _ t101 t122 _ ?side1 ?side2 A9.out).mono ?_);(case side1=>refine (Kd.R_reads' (e:=37) (base:=w.heap.size) (ok:=fun k_=>((True ∧ some k_ ≠ (v106:Value).ownBlock) ∧ k_ ≠ gb116)) (n:=t101.length) (c:=co24) ?_).2.2;exact (by (with_reducible repeat (first|apply Kd.R_alloc|apply Kd.R_drewN|apply Kd.R_drew));exact (Kd.R_mono (Kd.R_far (p:=⟨gb121,2,none⟩) (Kd.R_far (p:=⟨gb121,1,none⟩) (Kd.R_far (p:=⟨gb121,0,none⟩) (Kd.R_types HO103.out BK121.out (by decide)) (fun _ hk=>hk.2) (.string t117)) (fun _ hk=>hk.2) (.int .i64 t118)) (fun _ hk=>hk.2) (.int .i64 t119)) (fun _ h_=>h_.1))));(case side2=>exact (Kd.R_reads' HO103.out).2.1);rintro e w34 ⟨rfl,hb⟩;refine ⟨_,rfl,?_⟩;have n0_:=Aside0.mk (Kd.R_below (by (with_reducible repeat (first|apply Kd.R_alloc|apply Kd.R_drewN|apply Kd.R_drew));exact (Kd.R_mono (Kd.R_far (p:=⟨gb121,2,none⟩) (Kd.R_far (p:=⟨gb121,1,none⟩) (Kd.R_far (p:=⟨gb121,0,none⟩) (Kd.R_types HO103.out BK121.out (by decide)) (fun _ hk=>hk.2) (.string t117)) (fun _ hk=>hk.2) (.int .i64 t118)) (fun _ hk=>hk.2) (.int .i64 t119)) (fun _ h_=>h_.1))) hb);have n1_:=Aside0.mk (Kd.R_below (by (with_reducible repeat (first|apply Kd.R_alloc|apply Kd.R_drewN|apply Kd.R_drew));exact (Kd.R_mono (Kd.R_far (p:=⟨gb121,2,none⟩) (Kd.R_far (p:=⟨gb121,1,none⟩) (Kd.R_far (p:=⟨gb121,0,none⟩) (Kd.R_types HO107.out BK121.out (by decide)) (fun _ hk=>hk.2) (.string t117)) (fun _ hk=>hk.2) (.int .i64 t118)) (fun _ hk=>hk.2) (.int .i64 t119)) (fun _ h_=>h_.1))) hb);have n2_:=Aside0.mk (Kd.R_below (by (with_reducible repeat (first|apply Kd.R_alloc|apply Kd.R_drewN|apply Kd.R_drew));exact (Kd.R_mono (Kd.R_far (p:=⟨gb121,2,none⟩) (Kd.R_far (p:=⟨gb121,1,none⟩) (Kd.R_far (p:=⟨gb121,0,none⟩) (Kd.R_mono HO111.out (fun k_ hk=>(⟨hk,hk.2⟩:_ ∧ k_ ≠ gb121))) (fun _ hk=>hk.2) (.string t117)) (fun _ hk=>hk.2) (.int .i64 t118)) (fun _ hk=>hk.2) (.int .i64 t119)) (fun _ h_=>h_.1))) hb);have n3_:=Aside0.mk (blk_below (g:=gb116) (o:=.cells #[.string t112,.int .i64 t113,.int .i64 t114] 37 (0,0)) (by (with_reducible repeat (first|refine blk_drewN ?_ _|refine blk_drew ?_|refine blk_alloc ?_ _));refine blk_far ?_ NB116_121.out _;(with_reducible repeat (first|refine blk_drewN ?_ _|refine blk_drew ?_|refine blk_alloc ?_ _));refine blk_far ?_ NB116_121.out _;(with_reducible repeat (first|refine blk_drewN ?_ _|refine blk_drew ?_|refine blk_alloc ?_ _));refine blk_far ?_ NB116_121.out _;(with_reducible repeat (first|refine blk_drewN ?_ _|refine blk_drew ?_|refine blk_alloc ?_ _));exact BK116.out) hb);have n4_:=Aside0.mk (blk_below (g:=gb121) (o:=.cells #[.string t117,.int .i64 t118,.int .i64 t119] 41 (0,0)) (by (with_reducible repeat (first|refine blk_drewN ?_ _|refine blk_drew ?_|refine blk_alloc ?_ _));refine blk_put (cs:=#[.string t117,.int .i64 t118,.int .i64 0]) ?_ 2 _ rfl;(with_reducible repeat (first|refine blk_drewN ?_ _|refine blk_drew ?_|refine blk_alloc ?_ _));refine blk_put (cs:=#[.string t117,.int .i64 0,.int .i64 0]) ?_ 1 _ rfl;(with_reducible repeat (first|refine blk_drewN ?_ _|refine blk_drew ?_|refine blk_alloc ?_ _));refine blk_put (cs:=#[.string (⟨#[]⟩:ByteArray),.int .i64 0,.int .i64 0]) ?_ 0 _ rfl;(with_reducible repeat (first|refine blk_drewN ?_ _|refine blk_drew ?_|refine blk_alloc ?_ _));exact BK121.out) hb);have n5_:=Aside0.mk (below_step (by repeat (first|(with_reducible first|exact HB.out|apply below_alloc|apply pw_below_drewN|apply below_drew1|refine below_set ?_ GE116.out|refine below_set ?_ GE121.out)|exact HB.out)) hb);clear HO103;clear HO107;clear HO111;clear BK116;clear BK121;clear HB;have HO103:=n0_;have HO107:=n1_;have HO111:=n2_;have BK116:=n3_;have BK121:=n4_;have HB:=n5_;clear n0_ n1_ n2_ n3_ n4_ n5_;(try clear hb);(try clear hb2);(try clear hk);(try clear hi))|((with_reducible refine gate_callee (f:=19) rfl ?_);refine goesL_ (some 47) rfl rfl Try.func19 (by kernel_rfl) rfl #[.slice A0 l0.length c0] rfl (by (try simp only [List.map_toArray,List.map_cons,List.map_nil]);first|done|rfl|(simp only [List.length_drop,List.length_take];rfl)) ?_;(with_reducible refine (contangoref41_Check.calls k _ _ l0 t123 _ ?side1 ?side2 A10.out).mono ?_);(case side1=>repeat (first|exact (Kd.C_below HR0.out HB.out)|(with_reducible refine Kd.C_alloc ?_ _)|(with_reducible refine Kd.C_drewN ?_ _)|(with_reducible refine Kd.C_drew ?_)));(case side2=>exact HC0.out);rintro e w' ⟨rfl,⟨nd,rfl⟩⟩;refine ⟨_,rfl,?_⟩;obtain ⟨Ao35,co35,eo35⟩:=Kd.R_slice HO107.out;subst eo35;obtain ⟨Ao36,co36,eo36⟩:=Kd.R_slice HO111.out;subst eo36)|(go_at_call 10;(with_reducible refine (contangolaw41_same.calls k _ _ t104 _ _ t108 true _ ?side1 ?side2 ?side3 ?side4 A12.out).mono ?_);(case side1=>repeat (first|exact (Kd.R_reads' HO107.out).2.2|(with_reducible refine Kd.C_alloc ?_ _)|(with_reducible refine Kd.C_drewN ?_ _)|(with_reducible refine Kd.C_drew ?_)));(case side2=>exact (Kd.R_reads' HO107.out).2.1);(case side3=>repeat (first|exact (Kd.R_reads' HO111.out).2.2|(with_reducible refine Kd.C_alloc ?_ _)|(with_reducible refine Kd.C_drewN ?_ _)|(with_reducible refine Kd.C_drew ?_)));(case side4=>exact (Kd.R_reads' HO111.out).2.1);rintro e w' ⟨rfl,⟨nd,rfl⟩⟩;have hcz37_0:w34.cell? ⟨gb116,0,none⟩ = some (.string t112):=(blk_cell BK116.out 0).trans rfl;have hcz37_1:w34.cell? ⟨gb116,1,none⟩ = some (.int .i64 t113):=(blk_cell BK116.out 1).trans rfl;have hcz37_2:w34.cell? ⟨gb116,2,none⟩ = some (.int .i64 t114):=(blk_cell BK116.out 2).trans rfl;have hfz37_0:=blk_frozen BK116.out 0;have hfz37_1:=blk_frozen BK116.out 1;have hfz37_2:=blk_frozen BK116.out 2)|((with_reducible refine gate_dst (N:=61) rfl ?_);(try (refine gate_guard (by rfl) ?_;dsimp only));refine Kd.R_lit k37 _ 37 ?hg (N:=61) ?hd (xs:=([(⟨t112,t113,t114⟩:S37)]:List (S37))) (inner:=[.string t112,.int .i64 t113,.int .i64 t114]) (ok:=fun _=>True) (okp:=fun _=>True) ?hr ?hp (fun _ hk=>hk) trivial (Below.refl _ _) (Nat.le_refl _) (by simp) ?_;(case hd=>rfl);(case hg=>rfl);(case hr=>first|(go_simp;done)|(go_simp;rfl));(case hp=>exact (Reps.c3 (show Kd.M k37 _ _ _ (⟨t112,t113,t114⟩:S37) [.string t112,.int .i64 t113,.int .i64 t114] from (k37_mkM _ _ _ (⟨t112,t113,t114⟩:S37) )) (Reps.none _ _)));intro v126 w38 ho39 hb hg_ hnew_;clear hg_ hnew_;(first|rw [← Ny125.out] at ho39|(simp only [Int.reduceToNat] at ho39;rw [← Ny125.out] at ho39));have n0_:=Aside0.mk (Kd.R_elder' (by (with_reducible repeat (first|apply Kd.R_alloc|apply Kd.R_drewN|apply Kd.R_drew));exact HO103.out) (Kd.R_base ho39) hb);have n1_:=Aside0.mk (Kd.R_elder' (by (with_reducible repeat (first|apply Kd.R_alloc|apply Kd.R_drewN|apply Kd.R_drew));exact HO107.out) (Kd.R_base ho39) hb);have n2_:=Aside0.mk (Kd.R_below (by (with_reducible repeat (first|apply Kd.R_alloc|apply Kd.R_drewN|apply Kd.R_drew));exact HO111.out) hb);have n3_:=Aside0.mk (Kd.R_lower (Kd.R_newB (Kd.R_new' (Kd.R_new' ho39 (Kd.R_lt (by (with_reducible repeat (first|apply Kd.R_alloc|apply Kd.R_drewN|apply Kd.R_drew));exact HO103.out))) (Kd.R_lt (by (with_reducible repeat (first|apply Kd.R_alloc|apply Kd.R_drewN|apply Kd.R_drew));exact HO107.out))) (g:=gb116) (o:=.cells #[.string t112,.int .i64 t113,.int .i64 t114] 37 (0,0)) (by (with_reducible repeat (first|refine blk_drewN ?_ _|refine blk_drew ?_|refine blk_alloc ?_ _));exact BK116.out)) (below_size (by repeat (first|(with_reducible first|exact HB.out|apply below_alloc|apply pw_below_drewN|apply below_drew1|refine below_set ?_ GE116.out|refine below_set ?_ GE121.out)|exact HB.out))));have n4_:=Aside0.mk (blk_below (g:=gb116) (o:=.cells #[.string t112,.int .i64 t113,.int .i64 t114] 37 (0,0)) (by (with_reducible repeat (first|refine blk_drewN ?_ _|refine blk_drew ?_|refine blk_alloc ?_ _));exact BK116.out) hb);have n5_:=Aside0.mk (blk_below (g:=gb121) (o:=.cells #[.string t117,.int .i64 t118,.int .i64 t119] 41 (0,0)) (by (with_reducible repeat (first|refine blk_drewN ?_ _|refine blk_drew ?_|refine blk_alloc ?_ _));exact BK121.out) hb);have n6_:=Aside0.mk (below_step (by repeat (first|(with_reducible first|exact HB.out|apply below_alloc|apply pw_below_drewN|apply below_drew1|refine below_set ?_ GE116.out|refine below_set ?_ GE121.out)|exact HB.out)) hb);clear HO103;clear HO107;clear HO111;clear BK116;clear BK121;clear HB;have HO103:=n0_;have HO107:=n1_;have HO111:=n2_;have HO127:=n3_;have BK116:=n4_;have BK121:=n5_;have HB:=n6_;clear n0_ n1_ n2_ n3_ n4_ n5_ n6_;clear hb ho39;have hcz40_0:w38.cell? ⟨gb121,0,none⟩ = some (.string t117):=(blk_cell BK121.out 0).trans rfl;have hcz40_1:w38.cell? ⟨gb121,1,none⟩ = some (.int .i64 t118):=(blk_cell BK121.out 1).trans rfl;have hcz40_2:w38.cell? ⟨gb121,2,none⟩ = some (.int .i64 t119):=(blk_cell BK121.out 2).trans rfl;have hfz40_0:=blk_frozen BK121.out 0;have hfz40_1:=blk_frozen BK121.out 1;have hfz40_2:=blk_frozen BK121.out 2)|((with_reducible refine gate_dst (N:=63) rfl ?_);(try (refine gate_guard (by rfl) ?_;dsimp only));refine Kd.R_lit k41 _ 41 ?hg (N:=63) ?hd (xs:=([(⟨t117,t118,t119⟩:S41)]:List (S41))) (inner:=[.string t117,.int .i64 t118,.int .i64 t119]) (ok:=fun _=>True) (okp:=fun _=>True) ?hr ?hp (fun _ hk=>hk) trivial (Below.refl _ _) (Nat.le_refl _) (by simp) ?_;(case hd=>rfl);(case hg=>rfl);(case hr=>first|(go_simp;done)|(go_simp;rfl));(case hp=>exact (Reps.c3 (show Kd.M k41 _ _ _ (⟨t117,t118,t119⟩:S41) [.string t117,.int .i64 t118,.int .i64 t119] from (k41_mkM _ _ _ (⟨t117,t118,t119⟩:S41) )) (Reps.none _ _)));intro v129 w41 ho42 hb hg_ hnew_;clear hg_ hnew_;(first|rw [← Ny128.out] at ho42|(simp only [Int.reduceToNat] at ho42;rw [← Ny128.out] at ho42));have n0_:=Aside0.mk (Kd.R_below (by (with_reducible repeat (first|apply Kd.R_alloc|apply Kd.R_drewN|apply Kd.R_drew));exact HO103.out) hb);have n1_:=Aside0.mk (Kd.R_below (by (with_reducible repeat (first|apply Kd.R_alloc|apply Kd.R_drewN|apply Kd.R_drew));exact HO107.out) hb);have n2_:=Aside0.mk (Kd.R_elder' (by (with_reducible repeat (first|apply Kd.R_alloc|apply Kd.R_drewN|apply Kd.R_drew));exact HO111.out) (Kd.R_base ho42) hb);have n3_:=Aside0.mk (Kd.R_below (by (with_reducible repeat (first|apply Kd.R_alloc|apply Kd.R_drewN|apply Kd.R_drew));exact HO127.out) hb);have n4_:=Aside0.mk (Kd.R_lower (Kd.R_newB (Kd.R_new' ho42 (Kd.R_lt (by (with_reducible repeat (first|apply Kd.R_alloc|apply Kd.R_drewN|apply Kd.R_drew));exact HO111.out))) (g:=gb121) (o:=.cells #[.string t117,.int .i64 t118,.int .i64 t119] 41 (0,0)) (by (with_reducible repeat (first|refine blk_drewN ?_ _|refine blk_drew ?_|refine blk_alloc ?_ _));exact BK121.out)) (below_size (by repeat (first|(with_reducible first|exact HB.out|apply below_alloc|apply pw_below_drewN|apply below_drew1|refine below_set ?_ GE116.out|refine below_set ?_ GE121.out)|exact HB.out))));have n5_:=Aside0.mk (blk_below (g:=gb116) (o:=.cells #[.string t112,.int .i64 t113,.int .i64 t114] 37 (0,0)) (by (with_reducible repeat (first|refine blk_drewN ?_ _|refine blk_drew ?_|refine blk_alloc ?_ _));exact BK116.out) hb);have n6_:=Aside0.mk (blk_below (g:=gb121) (o:=.cells #[.string t117,.int .i64 t118,.int .i64 t119] 41 (0,0)) (by (with_reducible repeat (first|refine blk_drewN ?_ _|refine blk_drew ?_|refine blk_alloc ?_ _));exact BK121.out) hb);have n7_:=Aside0.mk (below_step (by repeat (first|(with_reducible first|exact HB.out|apply below_alloc|apply pw_below_drewN|apply below_drew1|refine below_set ?_ GE116.out|refine below_set ?_ GE121.out)|exact HB.out)) hb);clear HO103;clear HO107;clear HO111;clear HO127;clear BK116;clear BK121;clear HB;have HO103:=n0_;have HO107:=n1_;have HO111:=n2_;have HO127:=n3_;have HO130:=n4_;have BK116:=n5_;have BK121:=n6_;have HB:=n7_;clear n0_ n1_ n2_ n3_ n4_ n5_ n6_ n7_;clear hb ho42;obtain ⟨Ao43,co43,eo43⟩:=Kd.R_slice HO127.out;subst eo43;obtain ⟨Ao44,co44,eo44⟩:=Kd.R_slice HO130.out;subst eo44)|(go_at_call 10;(with_reducible refine (contangolaw41_same.calls k _ _ y125 _ _ y128 true _ ?side1 ?side2 ?side3 ?side4 A15.out).mono ?_);(case side1=>repeat (first|exact (Kd.R_reads' HO127.out).2.2|(with_reducible refine Kd.C_alloc ?_ _)|(with_reducible refine Kd.C_drewN ?_ _)|(with_reducible refine Kd.C_drew ?_)));(case side2=>exact (Kd.R_reads' HO127.out).2.1);(case side3=>repeat (first|exact (Kd.R_reads' HO130.out).2.2|(with_reducible refine Kd.C_alloc ?_ _)|(with_reducible refine Kd.C_drewN ?_ _)|(with_reducible refine Kd.C_drew ?_)));(case side4=>exact (Kd.R_reads' HO130.out).2.1);rintro e w' ⟨rfl,⟨nd,rfl⟩⟩)|(go_at_call 21;(with_reducible refine (suspend_Open.calls k _ _ t101 t132 _ ?side1 ?side2 A18.out).mono ?_);(case side1=>repeat (first|exact (Kd.R_reads' HO103.out).2.2|(with_reducible refine Kd.C_alloc ?_ _)|(with_reducible refine Kd.C_drewN ?_ _)|(with_reducible refine Kd.C_drew ?_)));(case side2=>exact (Kd.R_reads' HO103.out).2.1);rintro e w45 ⟨v133,rfl,ho0,hb⟩;have n0_:=Aside0.mk (Kd.R_below (by (with_reducible repeat (first|apply Kd.R_alloc|apply Kd.R_drewN|apply Kd.R_drew));exact HO103.out) hb);have n1_:=Aside0.mk (Kd.R_below (by (with_reducible repeat (first|apply Kd.R_alloc|apply Kd.R_drewN|apply Kd.R_drew));exact HO107.out) hb);have n2_:=Aside0.mk (Kd.R_below (by (with_reducible repeat (first|apply Kd.R_alloc|apply Kd.R_drewN|apply Kd.R_drew));exact HO111.out) hb);have n3_:=Aside0.mk (Kd.R_below (by (with_reducible repeat (first|apply Kd.R_alloc|apply Kd.R_drewN|apply Kd.R_drew));exact HO127.out) hb);have n4_:=Aside0.mk (Kd.R_below (by (with_reducible repeat (first|apply Kd.R_alloc|apply Kd.R_drewN|apply Kd.R_drew));exact HO130.out) hb);have n5_:=Aside0.mk (Kd.R_lower ho0 (below_size (by repeat (first|(with_reducible first|exact HB.out|apply below_alloc|apply pw_below_drewN|apply below_drew1|refine below_set ?_ GE116.out|refine below_set ?_ GE121.out)|exact HB.out))));have n6_:=Aside0.mk (blk_below (g:=gb116) (o:=.cells #[.string t112,.int .i64 t113,.int .i64 t114] 37 (0,0)) (by (with_reducible repeat (first|refine blk_drewN ?_ _|refine blk_drew ?_|refine blk_alloc ?_ _));exact BK116.out) hb);have n7_:=Aside0.mk (blk_below (g:=gb121) (o:=.cells #[.string t117,.int .i64 t118,.int .i64 t119] 41 (0,0)) (by (with_reducible repeat (first|refine blk_drewN ?_ _|refine blk_drew ?_|refine blk_alloc ?_ _));exact BK121.out) hb);have n8_:=Aside0.mk (below_step (by repeat (first|(with_reducible first|exact HB.out|apply below_alloc|apply pw_below_drewN|apply below_drew1|refine below_set ?_ GE116.out|refine below_set ?_ GE121.out)|exact HB.out)) hb);clear HO103;clear HO107;clear HO111;clear HO127;clear HO130;clear BK116;clear BK121;clear HB;have HO103:=n0_;have HO107:=n1_;have HO111:=n2_;have HO127:=n3_;have HO130:=n4_;have HO134:=n5_;have BK116:=n6_;have BK121:=n7_;have HB:=n8_;clear n0_ n1_ n2_ n3_ n4_ n5_ n6_ n7_ n8_;(try clear hb);(try clear hb2);(try clear hk);(try clear hi);(try clear ho0))|(go_at_call 22;(with_reducible refine (contangoref41_Open.calls k _ _ l0 t135 _ ?side1 ?side2 A19.out).mono ?_);(case side1=>repeat (first|exact (Kd.C_below HR0.out HB.out)|(with_reducible refine Kd.C_alloc ?_ _)|(with_reducible refine Kd.C_drewN ?_ _)|(with_reducible refine Kd.C_drew ?_)));(case side2=>exact HC0.out);rintro e w46 ⟨v136,rfl,ho0,hb⟩;have n0_:=Aside0.mk (Kd.R_below (by (with_reducible repeat (first|apply Kd.R_alloc|apply Kd.R_drewN|apply Kd.R_drew));exact HO103.out) hb);have n1_:=Aside0.mk (Kd.R_below (by (with_reducible repeat (first|apply Kd.R_alloc|apply Kd.R_drewN|apply Kd.R_drew));exact HO107.out) hb);have n2_:=Aside0.mk (Kd.R_below (by (with_reducible repeat (first|apply Kd.R_alloc|apply Kd.R_drewN|apply Kd.R_drew));exact HO111.out) hb);have n3_:=Aside0.mk (Kd.R_below (by (with_reducible repeat (first|apply Kd.R_alloc|apply Kd.R_drewN|apply Kd.R_drew));exact HO127.out) hb);have n4_:=Aside0.mk (Kd.R_below (by (with_reducible repeat (first|apply Kd.R_alloc|apply Kd.R_drewN|apply Kd.R_drew));exact HO130.out) hb);have n5_:=Aside0.mk (Kd.R_elder' (by (with_reducible repeat (first|apply Kd.R_alloc|apply Kd.R_drewN|apply Kd.R_drew));exact HO134.out) (Kd.R_base ho0) hb);have n6_:=Aside0.mk (Kd.R_lower (Kd.R_new' ho0 (Kd.R_lt (by (with_reducible repeat (first|apply Kd.R_alloc|apply Kd.R_drewN|apply Kd.R_drew));exact HO134.out))) (below_size (by repeat (first|(with_reducible first|exact HB.out|apply below_alloc|apply pw_below_drewN|apply below_drew1|refine below_set ?_ GE116.out|refine below_set ?_ GE121.out)|exact HB.out))));have n7_:=Aside0.mk (blk_below (g:=gb116) (o:=.cells #[.string t112,.int .i64 t113,.int .i64 t114] 37 (0,0)) (by (with_reducible repeat (first|refine blk_drewN ?_ _|refine blk_drew ?_|refine blk_alloc ?_ _));exact BK116.out) hb);have n8_:=Aside0.mk (blk_below (g:=gb121) (o:=.cells #[.string t117,.int .i64 t118,.int .i64 t119] 41 (0,0)) (by (with_reducible repeat (first|refine blk_drewN ?_ _|refine blk_drew ?_|refine blk_alloc ?_ _));exact BK121.out) hb);have n9_:=Aside0.mk (below_step (by repeat (first|(with_reducible first|exact HB.out|apply below_alloc|apply pw_below_drewN|apply below_drew1|refine below_set ?_ GE116.out|refine below_set ?_ GE121.out)|exact HB.out)) hb);clear HO103;clear HO107;clear HO111;clear HO127;clear HO130;clear HO134;clear BK116;clear BK121;clear HB;have HO103:=n0_;have HO107:=n1_;have HO111:=n2_;have HO127:=n3_;have HO130:=n4_;have HO134:=n5_;have HO137:=n6_;have BK116:=n7_;have BK121:=n8_;have HB:=n9_;clear n0_ n1_ n2_ n3_ n4_ n5_ n6_ n7_ n8_ n9_;(try clear hb);(try clear hb2);(try clear hk);(try clear hi);(try clear ho0);obtain ⟨Ao47,co47,eo47⟩:=Kd.R_slice HO134.out;subst eo47;obtain ⟨Ao48,co48,eo48⟩:=Kd.R_slice HO137.out;subst eo48)|(go_at_call 20;(with_reducible refine (contangoref03_Same.calls k _ _ t132 _ _ t135 true _ ?side1 ?side2 ?side3 ?side4 A20.out).mono ?_);(case side1=>repeat (first|exact (Kd.R_reads' HO134.out).2.2|(with_reducible refine Kd.C_alloc ?_ _)|(with_reducible refine Kd.C_drewN ?_ _)|(with_reducible refine Kd.C_drew ?_)));(case side2=>exact (Kd.R_reads' HO134.out).2.1);(case side3=>repeat (first|exact (Kd.R_reads' HO137.out).2.2|(with_reducible refine Kd.C_alloc ?_ _)|(with_reducible refine Kd.C_drewN ?_ _)|(with_reducible refine Kd.C_drew ?_)));(case side4=>exact (Kd.R_reads' HO137.out).2.1);rintro e w' ⟨rfl,⟨nd,rfl⟩⟩)|(go_at_call 11;(with_reducible refine (contangolaw41_goes.calls k  t139 _ A22.out).mono ?_);rintro e w49 ⟨rfl,hb⟩;have n0_:=Aside0.mk (Kd.R_below (by (with_reducible repeat (first|apply Kd.R_alloc|apply Kd.R_drewN|apply Kd.R_drew));exact HO103.out) hb);have n1_:=Aside0.mk (Kd.R_below (by (with_reducible repeat (first|apply Kd.R_alloc|apply Kd.R_drewN|apply Kd.R_drew));exact HO107.out) hb);have n2_:=Aside0.mk (Kd.R_below (by (with_reducible repeat (first|apply Kd.R_alloc|apply Kd.R_drewN|apply Kd.R_drew));exact HO111.out) hb);have n3_:=Aside0.mk (Kd.R_below (by (with_reducible repeat (first|apply Kd.R_alloc|apply Kd.R_drewN|apply Kd.R_drew));exact HO127.out) hb);have n4_:=Aside0.mk (Kd.R_below (by (with_reducible repeat (first|apply Kd.R_alloc|apply Kd.R_drewN|apply Kd.R_drew));exact HO130.out) hb);have n5_:=Aside0.mk (Kd.R_below (by (with_reducible repeat (first|apply Kd.R_alloc|apply Kd.R_drewN|apply Kd.R_drew));exact HO134.out) hb);have n6_:=Aside0.mk (Kd.R_below (by (with_reducible repeat (first|apply Kd.R_alloc|apply Kd.R_drewN|apply Kd.R_drew));exact HO137.out) hb);have n7_:=Aside0.mk (blk_below (g:=gb116) (o:=.cells #[.string t112,.int .i64 t113,.int .i64 t114] 37 (0,0)) (by (with_reducible repeat (first|refine blk_drewN ?_ _|refine blk_drew ?_|refine blk_alloc ?_ _));exact BK116.out) hb);have n8_:=Aside0.mk (blk_below (g:=gb121) (o:=.cells #[.string t117,.int .i64 t118,.int .i64 t119] 41 (0,0)) (by (with_reducible repeat (first|refine blk_drewN ?_ _|refine blk_drew ?_|refine blk_alloc ?_ _));exact BK121.out) hb);have n9_:=Aside0.mk (below_step (by repeat (first|(with_reducible first|exact HB.out|apply below_alloc|apply pw_below_drewN|apply below_drew1|refine below_set ?_ GE116.out|refine below_set ?_ GE121.out)|exact HB.out)) hb);clear HO103;clear HO107;clear HO111;clear HO127;clear HO130;clear HO134;clear HO137;clear BK116;clear BK121;clear HB;have HO103:=n0_;have HO107:=n1_;have HO111:=n2_;have HO127:=n3_;have HO130:=n4_;have HO134:=n5_;have HO137:=n6_;have BK116:=n7_;have BK121:=n8_;have HB:=n9_;clear n0_ n1_ n2_ n3_ n4_ n5_ n6_ n7_ n8_ n9_;(try clear hb);(try clear hb2);(try clear hk);(try clear hi)))
       go_ret
       exact ⟨by first|rfl|(simp [errW_none,errW_some] <;> rfl)|(simp [*,errW_none,errW_some] <;> rfl),by repeat (first|(with_reducible first|exact HB.out|apply below_alloc|apply pw_below_drewN|apply below_drew1|refine below_set ?_ GE116.out|refine below_set ?_ GE121.out)|exact HB.out)⟩
      ·replace c21:=Bool.eq_false_iff.mpr c21
       subst c21
       have H1:(none) = some r:=by rw [if_neg (show ¬ (false = true) by decide)] at H;exact H
       clear H
       have H:=H1
       clear H1
       exact absurd H (by simp)
     ·rw [if_neg c17] at H
      exact absurd H (by simp)
    ·replace c16:=Bool.eq_false_iff.mpr c16
     subst c16
     have H1:(none) = some r:=by rw [if_neg (show ¬ (false = true) by decide)] at H;exact H
     clear H
     have H:=H1
     clear H1
     exact absurd H (by simp)
   ·rw [if_neg c14] at H
    exact absurd H (by simp)
  ·replace c13:=Bool.eq_false_iff.mpr c13
   subst c13
   have H1:(none) = some r:=by rw [if_neg (show ¬ (false = true) by decide)] at H;exact H
   clear H
   have H:=H1
   clear H1
   exact absurd H (by simp)
 ·rw [if_neg c11] at H
  exact absurd H (by simp)
end Go.Proofs.Ytgmelgkcoejknaa.X
end
