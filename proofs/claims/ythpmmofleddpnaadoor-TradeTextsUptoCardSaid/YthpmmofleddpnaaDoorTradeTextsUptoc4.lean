/- For TradeTexts: contracts, and facts on lists and numbers, that it uses (part 4). -/
import Derived.Test.YthpmmofleddpnaaDoorTradeTextsUptoc3
section
namespace Go.Proofs.YthpmmofleddpnaaDoor.X
open Go.RowKit Go.Proofs.YthpmmofleddpnaaDoorW.PrintWords Go.Proofs.YthpmmofleddpnaaDoorW.PrintLast Go.Proofs.YthpmmofleddpnaaDoorW.PrintMore
attribute [local go_sem] max2_int min2_int max_two min_two max_three min_three max_four min_four
set_option linter.unusedVariables false
set_option linter.unusedSimpArgs false
mutual
def contangoref03_Fields.l0:Nat→ByteArray→List ByteArray→Int→Int→Option (List ByteArray × Int)
 | 0,_,_,_,_=>none
 | k+1,x0,x4,x5,x6=>if x6≤(x0.size:Int) then (if x6 < (x0.size:Int) then (if 0≤x6 then (if (bt x0 x6) < 32 then (contangoref03_Fields.j1 k x0 x4 x5 x6 true) else (contangoref03_Fields.j1 k x0 x4 x5 x6 (decide ((bt x0 x6) > 126)))) else (none)) else (contangoref03_Fields.j1 k x0 x4 x5 x6 false)) else (some (x4,0))
def contangoref03_Fields.j1:Nat→ByteArray→List ByteArray→Int→Int→Bool→Option (List ByteArray × Int)
 | 0,_,_,_,_,_=>none
 | k+1,x0,x4,x5,x6,x33=>if x33=true then (some (([]:List ByteArray),5)) else (if x6 < (x0.size:Int) then (if 0≤x6 then (contangoref03_Fields.j2 k x0 x4 x5 x6 ((bt x0 x6) != 32)) else (none)) else (contangoref03_Fields.j2 k x0 x4 x5 x6 false))
def contangoref03_Fields.j2:Nat→ByteArray→List ByteArray→Int→Int→Bool→Option (List ByteArray × Int)
 | 0,_,_,_,_,_=>none
 | k+1,x0,x4,x5,x6,x43=>if x43=true then (contangoref03_Fields.l0 k x0 x4 x5 (wrap64 (x6+1))) else (if x6=x5 then (some (([]:List ByteArray),5)) else (if 0≤x5 then (if x5≤x6 then (if x6≤(x0.size:Int) then (if x4.length < 8796093022208 then (contangoref03_Fields.l0 k x0 (x4++[x0.extract (x5:Int).toNat (x6:Int).toNat]) (wrap64 (x6+1)) (wrap64 (x6+1))) else (none)) else (none)) else (none)) else (none)))
end
def contangoref03_Fields.f (k:Nat) (a0:ByteArray):Option (List ByteArray × Int):=if (a0.size:Int) > 512 then (some (([]:List ByteArray),8)) else (if a0.toList=([]:List UInt8) then (some (([]:List ByteArray),0)) else (contangoref03_Fields.l0 k a0 ([]:List ByteArray) 0 0))
set_option maxHeartbeats 8000000 in
set_option maxRecDepth 100000 in
theorem contangoref03_Fields.calls (k:Nat) (a0:ByteArray) (r1:List ByteArray) (r2:Int) (w:World) (h:contangoref03_Fields.f k a0=some (r1,r2)) :
  Calls Tryd.prog 30 #[.string a0] w fun e w'=>∃ v0_:Value,e=.returned (.tuple #[v0_,.int .i64 r2])∧Kd.R Kd.string 9 w' w.heap.size (fun _=>True) v0_ r1∧Below w.heap.size w w':=by
 have HB:=Aside0.mk (Below.refl w.heap.size w)
 have H:(if (a0.size:Int) > 512 then (some (([]:List ByteArray),8)) else (if a0.toList=([]:List UInt8) then (some (([]:List ByteArray),0)) else (contangoref03_Fields.l0 k a0 ([]:List ByteArray) 0 0)))=some (r1,r2):=h
 clear h
 by_cases c2:(a0.size:Int) > 512
 ·rw [if_pos c2] at H
  have c2b0:decide (512 < (a0.size:Int))=true:=decide_eq_true c2
  have c2b1:decide (512 < a0.size)=true:=decide_eq_true (by omega)
  clear c2
  simp only [Option.some.injEq,Prod.mk.injEq] at H
  obtain ⟨rfl,rfl⟩:=H
  go_enter Tryd.func30,Tryd.ntmps30
  go_wp2
  go_ret2
  exact ⟨_,by first|rfl|(simp [errW_none,errW_some]<;>rfl)|(simp [*,errW_none,errW_some]<;>rfl),by first|exact Kd.R_nil _ _ _ _ _|exact Kd.N_nil _ _ _ _ _|exact Kd.V_nil _ _ _ _ _|exact Kd.Q_nil _ _ _ _ _|exact Kd.S_nil _ _ _ _ _,by repeat (first|(with_reducible first|exact HB.out|apply below_alloc|apply pw_below_drewN|apply below_drew1)|exact HB.out)⟩
 ·rw [if_neg c2] at H
  have c2b0:decide (512 < (a0.size:Int))=false:=decide_eq_false c2
  have c2b1:decide (512 < a0.size)=false:=decide_eq_false (by omega)
  clear c2
  by_cases c3:a0.toList=([]:List UInt8)
  ·rw [if_pos c3] at H
   have c3b0:(a0.toList == ([]:List UInt8))=true:=beq_iff_eq.mpr c3
   have c3b1:(a0.toList != ([]:List UInt8))=false:=bne_eq_false_iff_eq.mpr c3
   clear c3
   simp only [Option.some.injEq,Prod.mk.injEq] at H
   obtain ⟨rfl,rfl⟩:=H
   go_enter Tryd.func30,Tryd.ntmps30
   go_wp2
   go_ret2
   exact ⟨_,by first|rfl|(simp [errW_none,errW_some]<;>rfl)|(simp [*,errW_none,errW_some]<;>rfl),by first|exact Kd.R_nil _ _ _ _ _|exact Kd.N_nil _ _ _ _ _|exact Kd.V_nil _ _ _ _ _|exact Kd.Q_nil _ _ _ _ _|exact Kd.S_nil _ _ _ _ _,by repeat (first|(with_reducible first|exact HB.out|apply below_alloc|apply pw_below_drewN|apply below_drew1)|exact HB.out)⟩
  ·rw [if_neg c3] at H
   have c3b0:(a0.toList == ([]:List UInt8))=false:=beq_eq_false_iff_ne.mpr c3
   have c3b1:(a0.toList != ([]:List UInt8))=true:=bne_iff_ne.mpr c3
   have H':=Aside0.mk H
   clear H
   go_enter Tryd.func30,Tryd.ntmps30
   go_wp2
   go_loopg [4,5,6] k (fun kq v4 v5 v6 w'=>∃ (x4_1:List ByteArray) (x5_1:Int) (x6_1:Int),v5=.int .i64 x5_1∧v6=.int .i64 x6_1∧Aside0 (contangoref03_Fields.l0 kq a0 x4_1 x5_1 x6_1=some (r1,r2))∧Aside0 (kq≤k)∧Aside0 (Kd.R Kd.string 9 w' w.heap.size (fun _=>True) v4 x4_1)∧Aside0 (Below w.heap.size w w'))
   case atStart=>exact ⟨(([]:List ByteArray)),(0),(0),(by first|rfl|(simp;done)|(simp [*];done)),(by first|rfl|(simp;done)|(simp [*];done)),H',⟨Nat.le_refl _⟩,⟨by first|exact Kd.R_nil _ _ _ _ _|exact Kd.N_nil _ _ _ _ _|exact Kd.V_nil _ _ _ _ _|exact Kd.Q_nil _ _ _ _ _|exact Kd.S_nil _ _ _ _ _⟩,⟨by repeat (first|(with_reducible first|exact HB.out|apply below_alloc|apply pw_below_drewN|apply below_drew1)|exact HB.out)⟩⟩
   case round =>
    clear H'
    try clear c2
    try clear c2b0
    try clear c2b1
    try clear p2
    try clear c3
    try clear c3b0
    try clear c3b1
    obtain ⟨x4_1,x5_1,x6_1,rfl,rfl,HA,HK1,HO_4,HB⟩:=hrel
    cases gk with
    | zero=>exact absurd HA.out (by simp [contangoref03_Fields.l0])
    | succ k1 =>
     have H:=HA.out
     clear HA
     simp only [contangoref03_Fields.l0] at H
     by_cases c4:x6_1≤(a0.size:Int)
     ·rw [if_pos c4] at H
      have c4b0:decide (x6_1≤(a0.size:Int))=true:=decide_eq_true c4
      clear c4
      have HC5:=Aside0.mk H
      clear H
      go_upto_region 10 with (fail)
      go_cut [33] (fun v33 wc=>∃ (kq:Nat) (x33_4:Bool),v33=.bool x33_4∧Aside0 (contangoref03_Fields.j1 kq a0 x4_1 x5_1 x6_1 x33_4=some (r1,r2))∧Aside0 (kq≤k1)∧Aside0 (Kd.R Kd.string 9 wc w.heap.size (fun _=>True) u4 x4_1)∧Aside0 (Below w.heap.size w wc))
      case first =>
       have H:=HC5.out
       clear HC5
       by_cases c6:x6_1 < (a0.size:Int)
       ·rw [if_pos c6] at H
        have c6b0:decide (x6_1 < (a0.size:Int))=true:=decide_eq_true c6
        clear c6
        (first|rw [c6b0]|(simp only [i64_w,i32_w];rw [c6b0])|skip)
        by_cases c7:0≤x6_1
        ·rw [if_pos c7] at H
         have c7b0:decide (0≤x6_1)=true:=decide_eq_true c7
         clear c7
         by_cases c9:(bt a0 x6_1) < 32
         ·rw [if_pos c9] at H
          have c9b0:decide ((bt a0 x6_1) < 32)=true:=decide_eq_true c9
          clear c9
          have H':=Aside0.mk H
          clear H
          have p8:0≤(x6_1:Int):=of_decide_eq_true (by first|(with_reducible assumption)|assumption)
          have q8:x6_1 < (a0.size:Int):=of_decide_eq_true (by first|(with_reducible assumption)|assumption)
          have hx8:=bt_at a0 x6_1
          replace p8:=eq_true p8
          replace q8:=eq_true q8
          go_wp2
          go_meet
          case rel=>exact ⟨_,(true),(by first|rfl|(simp;done)|(simp [*];done)),H',⟨by have:=HK1.out;first|omega|exact Nat.le_refl _⟩,⟨by (with_reducible repeat (first|apply Kd.R_alloc|apply Kd.R_drewN|apply Kd.R_drew));exact HO_4.out⟩,⟨by repeat (first|(with_reducible first|exact HB.out|apply below_alloc|apply pw_below_drewN|apply below_drew1)|exact HB.out)⟩⟩
         ·rw [if_neg c9] at H
          have c9b0:decide ((bt a0 x6_1) < 32)=false:=decide_eq_false c9
          clear c9
          have H':=Aside0.mk H
          clear H
          have p8:0≤(x6_1:Int):=of_decide_eq_true (by first|(with_reducible assumption)|assumption)
          have q8:x6_1 < (a0.size:Int):=of_decide_eq_true (by first|(with_reducible assumption)|assumption)
          have hx8:=bt_at a0 x6_1
          replace p8:=eq_true p8
          replace q8:=eq_true q8
          have p10:0≤(x6_1:Int):=of_decide_eq_true (by first|(with_reducible assumption)|assumption)
          have q10:x6_1 < (a0.size:Int):=of_decide_eq_true (by first|(with_reducible assumption)|assumption)
          have hx10:=bt_at a0 x6_1
          replace p10:=eq_true p10
          replace q10:=eq_true q10
          go_wp2
          go_meet
          case rel=>exact ⟨_,(decide ((bt a0 x6_1) > 126)),(by first|rfl|(simp;done)|(simp [*];done)),H',⟨by have:=HK1.out;first|omega|exact Nat.le_refl _⟩,⟨by (with_reducible repeat (first|apply Kd.R_alloc|apply Kd.R_drewN|apply Kd.R_drew));exact HO_4.out⟩,⟨by repeat (first|(with_reducible first|exact HB.out|apply below_alloc|apply pw_below_drewN|apply below_drew1)|exact HB.out)⟩⟩
        ·rw [if_neg c7] at H
         exact absurd H (by simp)
       ·rw [if_neg c6] at H
        have c6b0:decide (x6_1 < (a0.size:Int))=false:=decide_eq_false c6
        clear c6
        (first|rw [c6b0]|(simp only [i64_w,i32_w];rw [c6b0])|skip)
        have H':=Aside0.mk H
        clear H
        go_wp2
        go_meet
        case rel=>exact ⟨_,(false),(by first|rfl|(simp;done)|(simp [*];done)),H',⟨by have:=HK1.out;first|omega|exact Nat.le_refl _⟩,⟨by (with_reducible repeat (first|apply Kd.R_alloc|apply Kd.R_drewN|apply Kd.R_drew));exact HO_4.out⟩,⟨by repeat (first|(with_reducible first|exact HB.out|apply below_alloc|apply pw_below_drewN|apply below_drew1)|exact HB.out)⟩⟩
      case rest =>
       clear HC5
       try clear p1
       try clear q1
       try clear hx1
       try clear c2
       try clear c2b0
       try clear c2b1
       try clear p2
       try clear c3
       try clear c3b0
       try clear c3b1
       try clear c4
       try clear c4b0
       try clear c6
       try clear c6b0
       try clear c7
       try clear c7b0
       try clear p8
       try clear q8
       try clear hx8
       try clear c9
       try clear c9b0
       try clear p10
       try clear q10
       try clear hx10
       try clear p10
       try clear p2
       try clear p8
       try clear q10
       try clear q8
       obtain ⟨kq,x33_4,rfl,HA,HJ4,HO_4,HB⟩:=hcut
       cases kq with
       | zero=>exact absurd HA.out (by simp [contangoref03_Fields.j1])
       | succ kj4 =>
        have H:=HA.out
        clear HA
        simp only [contangoref03_Fields.j1] at H
        by_cases c11:x33_4=true
        ·subst c11
         have H1:(some (([]:List ByteArray),5))=some (r1,r2):=by rw [if_pos rfl] at H;exact H
         clear H
         have H:=H1
         clear H1
         simp only [Option.some.injEq,Prod.mk.injEq] at H
         obtain ⟨rfl,rfl⟩:=H
         go_wp2
         go_ret2
         exact ⟨_,by first|rfl|(simp [errW_none,errW_some]<;>rfl)|(simp [*,errW_none,errW_some]<;>rfl),by first|exact Kd.R_nil _ _ _ _ _|exact Kd.N_nil _ _ _ _ _|exact Kd.V_nil _ _ _ _ _|exact Kd.Q_nil _ _ _ _ _|exact Kd.S_nil _ _ _ _ _,by repeat (first|(with_reducible first|exact HB.out|apply below_alloc|apply pw_below_drewN|apply below_drew1)|exact HB.out)⟩
        ·replace c11:=Bool.eq_false_iff.mpr c11
         subst c11
         have H1:(if x6_1 < (a0.size:Int) then (if 0≤x6_1 then (contangoref03_Fields.j2 kj4 a0 x4_1 x5_1 x6_1 ((bt a0 x6_1) != 32)) else (none)) else (contangoref03_Fields.j2 kj4 a0 x4_1 x5_1 x6_1 false))=some (r1,r2):=by rw [if_neg (show ¬ (false=true) by decide)] at H;exact H
         clear H
         have H:=H1
         clear H1
         have HC12:=Aside0.mk H
         clear H
         go_upto_region 12 with (fail)
         go_cut [43] (fun v43 wc=>∃ (kq:Nat) (x43_11:Bool),v43=.bool x43_11∧Aside0 (contangoref03_Fields.j2 kq a0 x4_1 x5_1 x6_1 x43_11=some (r1,r2))∧Aside0 (kq≤kj4)∧Aside0 (Kd.R Kd.string 9 wc w.heap.size (fun _=>True) u4 x4_1)∧Aside0 (Below w.heap.size w wc))
         case first =>
          have H:=HC12.out
          clear HC12
          by_cases c13:x6_1 < (a0.size:Int)
          ·rw [if_pos c13] at H
           have c13b0:decide (x6_1 < (a0.size:Int))=true:=decide_eq_true c13
           clear c13
           (first|rw [c13b0]|(simp only [i64_w,i32_w];rw [c13b0])|skip)
           by_cases c14:0≤x6_1
           ·rw [if_pos c14] at H
            have c14b0:decide (0≤x6_1)=true:=decide_eq_true c14
            clear c14
            have H':=Aside0.mk H
            clear H
            have p15:0≤(x6_1:Int):=of_decide_eq_true (by first|(with_reducible assumption)|assumption)
            have q15:x6_1 < (a0.size:Int):=of_decide_eq_true (by first|(with_reducible assumption)|assumption)
            have hx15:=bt_at a0 x6_1
            replace p15:=eq_true p15
            replace q15:=eq_true q15
            go_wp2
            go_meet
            case rel=>exact ⟨_,(((bt a0 x6_1) != 32)),(by first|rfl|(simp;done)|(simp [*];done)),H',⟨by have:=HK1.out;have:=HJ4.out;first|omega|exact Nat.le_refl _⟩,⟨by (with_reducible repeat (first|apply Kd.R_alloc|apply Kd.R_drewN|apply Kd.R_drew));exact HO_4.out⟩,⟨by repeat (first|(with_reducible first|exact HB.out|apply below_alloc|apply pw_below_drewN|apply below_drew1)|exact HB.out)⟩⟩
           ·rw [if_neg c14] at H
            exact absurd H (by simp)
          ·rw [if_neg c13] at H
           have c13b0:decide (x6_1 < (a0.size:Int))=false:=decide_eq_false c13
           clear c13
           (first|rw [c13b0]|(simp only [i64_w,i32_w];rw [c13b0])|skip)
           have H':=Aside0.mk H
           clear H
           go_wp2
           go_meet
           case rel=>exact ⟨_,(false),(by first|rfl|(simp;done)|(simp [*];done)),H',⟨by have:=HK1.out;have:=HJ4.out;first|omega|exact Nat.le_refl _⟩,⟨by (with_reducible repeat (first|apply Kd.R_alloc|apply Kd.R_drewN|apply Kd.R_drew));exact HO_4.out⟩,⟨by repeat (first|(with_reducible first|exact HB.out|apply below_alloc|apply pw_below_drewN|apply below_drew1)|exact HB.out)⟩⟩
         case rest =>
          clear HC12
          try clear c1
          try clear p1
          try clear q1
          try clear hx1
          try clear c2
          try clear c2b0
          try clear c2b1
          try clear p2
          try clear c3
          try clear c3b0
          try clear c3b1
          try clear c4
          try clear c4b0
          try clear c6
          try clear c6b0
          try clear c7
          try clear c7b0
          try clear p8
          try clear q8
          try clear hx8
          try clear c9
          try clear c9b0
          try clear p10
          try clear q10
          try clear hx10
          try clear c11
          try clear c13
          try clear c13b0
          try clear c14
          try clear c14b0
          try clear p15
          try clear q15
          try clear hx15
          try clear p1
          try clear p10
          try clear p15
          try clear p2
          try clear p8
          try clear q1
          try clear q10
          try clear q15
          try clear q8
          obtain ⟨kq,x43_11,rfl,HA,HJ11,HO_4,HB⟩:=hcut
          cases kq with
          | zero=>exact absurd HA.out (by simp [contangoref03_Fields.j2])
          | succ kj11 =>
           have H:=HA.out
           clear HA
           simp only [contangoref03_Fields.j2] at H
           by_cases c16:x43_11=true
           ·subst c16
            have H1:(contangoref03_Fields.l0 kj11 a0 x4_1 x5_1 (wrap64 (x6_1+1)))=some (r1,r2):=by rw [if_pos rfl] at H;exact H
            clear H
            have H:=H1
            clear H1
            have H':=Aside0.mk H
            clear H
            go_wp2
            go_roundg kj11
            case measure=>have:=HK1.out;have:=HJ4.out;have:=HJ11.out;omega
            case rel=>exact ⟨(x4_1),(x5_1),(wrap64 (x6_1+1)),(by first|rfl|(simp;done)|(simp [*];done)),(by first|rfl|(simp;done)|(simp [*];done)),H',⟨by have:=HK1.out;have:=HJ4.out;have:=HJ11.out;omega⟩,⟨by (with_reducible repeat (first|apply Kd.R_alloc|apply Kd.R_drewN|apply Kd.R_drew));exact HO_4.out⟩,⟨by repeat (first|(with_reducible first|exact HB.out|apply below_alloc|apply pw_below_drewN|apply below_drew1)|exact HB.out)⟩⟩
           ·replace c16:=Bool.eq_false_iff.mpr c16
            subst c16
            have H1:(if x6_1=x5_1 then (some (([]:List ByteArray),5)) else (if 0≤x5_1 then (if x5_1≤x6_1 then (if x6_1≤(a0.size:Int) then (if x4_1.length < 8796093022208 then (contangoref03_Fields.l0 kj11 a0 (x4_1++[a0.extract (x5_1:Int).toNat (x6_1:Int).toNat]) (wrap64 (x6_1+1)) (wrap64 (x6_1+1))) else (none)) else (none)) else (none)) else (none)))=some (r1,r2):=by rw [if_neg (show ¬ (false=true) by decide)] at H;exact H
            clear H
            have H:=H1
            clear H1
            by_cases c17:x6_1=x5_1
            ·rw [if_pos c17] at H
             have c17b0:(x6_1 == x5_1)=true:=beq_iff_eq.mpr c17
             have c17b1:(x6_1 != x5_1)=false:=bne_eq_false_iff_eq.mpr c17
             clear c17
             simp only [Option.some.injEq,Prod.mk.injEq] at H
             obtain ⟨rfl,rfl⟩:=H
             go_wp2
             go_ret2
             exact ⟨_,by first|rfl|(simp [errW_none,errW_some]<;>rfl)|(simp [*,errW_none,errW_some]<;>rfl),by first|exact Kd.R_nil _ _ _ _ _|exact Kd.N_nil _ _ _ _ _|exact Kd.V_nil _ _ _ _ _|exact Kd.Q_nil _ _ _ _ _|exact Kd.S_nil _ _ _ _ _,by repeat (first|(with_reducible first|exact HB.out|apply below_alloc|apply pw_below_drewN|apply below_drew1)|exact HB.out)⟩
            ·rw [if_neg c17] at H
             have c17b0:(x6_1 == x5_1)=false:=beq_eq_false_iff_ne.mpr c17
             have c17b1:(x6_1 != x5_1)=true:=bne_iff_ne.mpr c17
             by_cases c18:0≤x5_1
             ·rw [if_pos c18] at H
              have c18b0:=eq_true c18
              have c18b1:decide (0≤x5_1)=true:=decide_eq_true c18
              clear c18
              by_cases c19:x5_1≤x6_1
              ·rw [if_pos c19] at H
               have c19b0:=eq_true c19
               have c19b1:decide (x5_1≤x6_1)=true:=decide_eq_true c19
               clear c19
               by_cases c20:x6_1≤(a0.size:Int)
               ·rw [if_pos c20] at H
                have c20b0:=eq_true c20
                have c20b1:decide (x6_1≤(a0.size:Int))=true:=decide_eq_true c20
                clear c20
                by_cases c21:x4_1.length < 8796093022208
                ·rw [if_pos c21] at H
                 have LMc21:=Aside0.mk c21
                 clear c21
                 obtain ⟨y101,hy101⟩:∃ y_:List ByteArray,y_=(x4_1++[a0.extract (x5_1:Int).toNat (x6_1:Int).toNat]):=⟨_,rfl⟩
                 replace H:(contangoref03_Fields.l0 kj11 a0 y101 (wrap64 (x6_1+1)) (wrap64 (x6_1+1)))=some (r1,r2):=by first|(rw [hy101];with_reducible exact H)|(have H2_:=(Option.bind_some _ _).symm.trans H;rw [hy101];with_reducible exact H2_)|(have H2_:=(Option.bind_some _ _).symm.trans H;with_reducible exact H2_)|with_reducible exact H|(rw [hy101];exact H)|exact H
                 have Ny101:=Aside0.mk hy101
                 clear hy101
                 have H':=Aside0.mk H
                 clear H
                 go_wp2_with (first|((with_reducible refine gate_builtin (b:=.append) (xs:=#[.tmp 47,.tmp 52]) rfl ?_);at_builtin;refine Kd.R_append Kd.string (w0:=w) w.heap.size rfl (.tmp 47) (.tmp 52) 53 9 (.string ⟨#[]⟩) 16 rfl Tryd.underlying53 info9 rfl (by decide) (by omega) u4 x4_1 (a0.extract (x5_1:Int).toNat (x6_1:Int).toNat) [.string (a0.extract (x5_1:Int).toNat (x6_1:Int).toNat)] (fun _=>True) (fun _=>False) rfl rfl ?aP (fun _ hk=>hk.elim) ?aF ?aO ?aB ?aS ?aL ?_;(case aP=>exact rfl);(case aB=>exact (by repeat (first|(with_reducible first|exact HB.out|apply below_alloc|apply pw_below_drewN|apply below_drew1)|exact HB.out)));(case aF=>exact (fun _ _=>trivial));(case aO=>exact (by (with_reducible repeat (first|apply Kd.R_alloc|apply Kd.R_drewN|apply Kd.R_drew));exact HO_4.out));(case aS=>exact (below_size (by repeat (first|(with_reducible first|exact HB.out|apply below_alloc|apply pw_below_drewN|apply below_drew1)|exact HB.out))));(case aL=>have:=LMc21.out;omega);intro v102 w22 ho hb hg hat;rw [← Ny101.out] at ho;have n0_:=Aside0.mk (hb);have n1_:=Aside0.mk (ho);clear HB;clear HO_4;have HB:=n0_;have HO103:=n1_;clear n0_ n1_;clear ho hb hg hat))
                 go_roundg kj11
                 case measure=>have:=HK1.out;have:=HJ4.out;have:=HJ11.out;omega
                 case rel=>exact ⟨(y101),(wrap64 (x6_1+1)),(wrap64 (x6_1+1)),(by first|rfl|(simp;done)|(simp [*];done)),(by first|rfl|(simp;done)|(simp [*];done)),H',⟨by have:=HK1.out;have:=HJ4.out;have:=HJ11.out;omega⟩,⟨by (with_reducible repeat (first|apply Kd.R_alloc|apply Kd.R_drewN|apply Kd.R_drew));exact HO103.out⟩,⟨by repeat (first|(with_reducible first|exact HB.out|apply below_alloc|apply pw_below_drewN|apply below_drew1)|exact HB.out)⟩⟩
                ·rw [if_neg c21] at H
                 exact absurd H (by simp)
               ·rw [if_neg c20] at H
                exact absurd H (by simp)
              ·rw [if_neg c19] at H
               exact absurd H (by simp)
             ·rw [if_neg c18] at H
              exact absurd H (by simp)
     ·rw [if_neg c4] at H
      have c4b0:decide (x6_1≤(a0.size:Int))=false:=decide_eq_false c4
      clear c4
      simp only [Option.some.injEq,Prod.mk.injEq] at H
      obtain ⟨rfl,rfl⟩:=H
      go_wp2
      go_ret2
      exact ⟨_,by first|rfl|(simp [errW_none,errW_some]<;>rfl)|(simp [*,errW_none,errW_some]<;>rfl),by (with_reducible repeat (first|apply Kd.R_alloc|apply Kd.R_drewN|apply Kd.R_drew));exact HO_4.out,by repeat (first|(with_reducible first|exact HB.out|apply below_alloc|apply pw_below_drewN|apply below_drew1)|exact HB.out)⟩
end Go.Proofs.YthpmmofleddpnaaDoor.X
end
section
namespace Go.Proofs.YthpmmofleddpnaaDoor.X
open Go.RowKit Go.Proofs.YthpmmofleddpnaaDoorW.PrintWords Go.Proofs.YthpmmofleddpnaaDoorW.PrintLast Go.Proofs.YthpmmofleddpnaaDoorW.PrintMore
attribute [local go_sem] max2_int min2_int max_two min_two max_three min_three max_four min_four
set_option linter.unusedVariables false
set_option linter.unusedSimpArgs false
def contangoref03_digits.l0:Nat→ByteArray→Int→Option (Bool)
 | 0,_,_=>none
 | k+1,x0,x3=>if x3 < (x0.size:Int) then (if 0≤x3 then (if (bt x0 x3) < 48 then (some false) else (if (bt x0 x3) > 57 then (some false) else (contangoref03_digits.l0 k x0 (wrap64 (x3+1))))) else (none)) else (if (x0.size:Int)=1 then (some true) else (if (x0.size:Int) > 1 then (if 0 < (x0.size:Int) then (some ((bt x0 0) != 48)) else (none)) else (some false)))
def contangoref03_digits.f (k:Nat) (a0:ByteArray):Option (Bool):=contangoref03_digits.l0 k a0 0
set_option maxHeartbeats 8000000 in
set_option maxRecDepth 100000 in
theorem contangoref03_digits.calls (k:Nat) (a0:ByteArray) (r:Bool) (w:World) (h:contangoref03_digits.f k a0=some r) :
  Calls Tryd.prog 56 #[.string a0] w fun e w'=>e=.returned (.bool r)∧Drawn0 w w':=by
 have H:(contangoref03_digits.l0 k a0 0)=some r:=h
 clear h
 have H':=Aside0.mk H
 clear H
 go_enter Tryd.func56,Tryd.ntmps56
 go_wp2
 go_loopg [3] k (fun kq v3 w'=>∃ (x3_1:Int),v3=.int .i64 x3_1∧Aside0 (contangoref03_digits.l0 kq a0 x3_1=some r)∧Aside0 (kq≤k)∧Drawn0 w w')
 case atStart=>exact ⟨(0),(by first|rfl|(simp;done)|(simp [*];done)),H',⟨Nat.le_refl _⟩,by repeat (first|exact Drawn0.refl _|apply Drawn0.step)⟩
 case round =>
  clear H'
  obtain ⟨x3_1,rfl,HA,HK1,⟨m1,rfl⟩⟩:=hrel
  cases gk with
  | zero=>exact absurd HA.out (by simp [contangoref03_digits.l0])
  | succ k1 =>
   have H:=HA.out
   clear HA
   simp only [contangoref03_digits.l0] at H
   by_cases c2:x3_1 < (a0.size:Int)
   ·rw [if_pos c2] at H
    have c2b0:decide (x3_1 < (a0.size:Int))=true:=decide_eq_true c2
    clear c2
    by_cases c3:0≤x3_1
    ·rw [if_pos c3] at H
     have c3b0:decide (0≤x3_1)=true:=decide_eq_true c3
     clear c3
     by_cases c5:(bt a0 x3_1) < 48
     ·rw [if_pos c5] at H
      have c5b0:decide ((bt a0 x3_1) < 48)=true:=decide_eq_true c5
      clear c5
      obtain rfl:=Option.some.inj H
      have p4:0≤(x3_1:Int):=of_decide_eq_true (by first|(with_reducible assumption)|assumption)
      have q4:x3_1 < (a0.size:Int):=of_decide_eq_true (by first|(with_reducible assumption)|assumption)
      have hx4:=bt_at a0 x3_1
      replace p4:=eq_true p4
      replace q4:=eq_true q4
      go_wp2
      go_ret
      exact ⟨by first|rfl|(simp;done)|(simp [*];done),by repeat (first|exact Drawn0.refl _|apply Drawn0.step)⟩
     ·rw [if_neg c5] at H
      have c5b0:decide ((bt a0 x3_1) < 48)=false:=decide_eq_false c5
      clear c5
      by_cases c7:(bt a0 x3_1) > 57
      ·rw [if_pos c7] at H
       have c7b0:decide (57 < (bt a0 x3_1))=true:=decide_eq_true c7
       clear c7
       obtain rfl:=Option.some.inj H
       have p4:0≤(x3_1:Int):=of_decide_eq_true (by first|(with_reducible assumption)|assumption)
       have q4:x3_1 < (a0.size:Int):=of_decide_eq_true (by first|(with_reducible assumption)|assumption)
       have hx4:=bt_at a0 x3_1
       replace p4:=eq_true p4
       replace q4:=eq_true q4
       have p6:0≤(x3_1:Int):=of_decide_eq_true (by first|(with_reducible assumption)|assumption)
       have q6:x3_1 < (a0.size:Int):=of_decide_eq_true (by first|(with_reducible assumption)|assumption)
       have hx6:=bt_at a0 x3_1
       replace p6:=eq_true p6
       replace q6:=eq_true q6
       go_wp2
       go_ret
       exact ⟨by first|rfl|(simp;done)|(simp [*];done),by repeat (first|exact Drawn0.refl _|apply Drawn0.step)⟩
      ·rw [if_neg c7] at H
       have c7b0:decide (57 < (bt a0 x3_1))=false:=decide_eq_false c7
       clear c7
       have H':=Aside0.mk H
       clear H
       have p4:0≤(x3_1:Int):=of_decide_eq_true (by first|(with_reducible assumption)|assumption)
       have q4:x3_1 < (a0.size:Int):=of_decide_eq_true (by first|(with_reducible assumption)|assumption)
       have hx4:=bt_at a0 x3_1
       replace p4:=eq_true p4
       replace q4:=eq_true q4
       have p6:0≤(x3_1:Int):=of_decide_eq_true (by first|(with_reducible assumption)|assumption)
       have q6:x3_1 < (a0.size:Int):=of_decide_eq_true (by first|(with_reducible assumption)|assumption)
       have hx6:=bt_at a0 x3_1
       replace p6:=eq_true p6
       replace q6:=eq_true q6
       go_wp2
       go_roundg k1
       case measure=>have:=HK1.out;omega
       case rel=>exact ⟨(wrap64 (x3_1+1)),(by first|rfl|(simp;done)|(simp [*];done)),H',⟨by have:=HK1.out;omega⟩,by repeat (first|exact Drawn0.refl _|apply Drawn0.step)⟩
    ·rw [if_neg c3] at H
     exact absurd H (by simp)
   ·rw [if_neg c2] at H
    have c2b0:decide (x3_1 < (a0.size:Int))=false:=decide_eq_false c2
    clear c2
    by_cases c8:(a0.size:Int)=1
    ·rw [if_pos c8] at H
     have c8b0:((a0.size:Int) == 1)=true:=beq_iff_eq.mpr c8
     have c8b1:((a0.size:Int) != 1)=false:=bne_eq_false_iff_eq.mpr c8
     clear c8
     obtain rfl:=Option.some.inj H
     go_wp2
     go_ret
     exact ⟨by first|rfl|(simp;done)|(simp [*];done),by repeat (first|exact Drawn0.refl _|apply Drawn0.step)⟩
    ·rw [if_neg c8] at H
     have c8b0:((a0.size:Int) == 1)=false:=beq_eq_false_iff_ne.mpr c8
     have c8b1:((a0.size:Int) != 1)=true:=bne_iff_ne.mpr c8
     by_cases c9:(a0.size:Int) > 1
     ·rw [if_pos c9] at H
      have c9b0:decide (1 < (a0.size:Int))=true:=decide_eq_true c9
      have c9b1:decide (1 < a0.size)=true:=decide_eq_true (by omega)
      clear c9
      by_cases c10:0 < (a0.size:Int)
      ·rw [if_pos c10] at H
       have c10b0:decide (0 < (a0.size:Int))=true:=decide_eq_true c10
       have c10b1:decide (0 < a0.size)=true:=decide_eq_true (by omega)
       clear c10
       obtain rfl:=Option.some.inj H
       have p11:0≤(0:Int):=(by omega)
       have q11:0 < a0.size:=(by have:(0:Int) < (a0.size:Int):=of_decide_eq_true (by first|(with_reducible assumption)|assumption);omega)
       have hx11:∀ h:0 < a0.size,((a0[0]'h).toNat:Int)=bt a0 0:=bt_at a0 0
       clear p11
       have qi11:(0 < (a0.size:Int))=True:=eq_true (of_decide_eq_true (by first|(with_reducible assumption)|assumption))
       replace q11:=eq_true q11
       go_wp2
       go_ret
       exact ⟨by first|rfl|(simp;done)|(simp [*];done),by repeat (first|exact Drawn0.refl _|apply Drawn0.step)⟩
      ·rw [if_neg c10] at H
       exact absurd H (by simp)
     ·rw [if_neg c9] at H
      have c9b0:decide (1 < (a0.size:Int))=false:=decide_eq_false c9
      have c9b1:decide (1 < a0.size)=false:=decide_eq_false (by omega)
      clear c9
      obtain rfl:=Option.some.inj H
      go_wp2
      go_ret
      exact ⟨by first|rfl|(simp;done)|(simp [*];done),by repeat (first|exact Drawn0.refl _|apply Drawn0.step)⟩
end Go.Proofs.YthpmmofleddpnaaDoor.X
end
section
namespace Go.Proofs.YthpmmofleddpnaaDoor.X
open Go.RowKit Go.Proofs.YthpmmofleddpnaaDoorW.PrintWords Go.Proofs.YthpmmofleddpnaaDoorW.PrintLast Go.Proofs.YthpmmofleddpnaaDoorW.PrintMore
attribute [local go_sem] max2_int min2_int max_two min_two max_three min_three max_four min_four
set_option linter.unusedVariables false
set_option linter.unusedSimpArgs false
def contangoref03_signed.j0:Nat→Int→Bool→Bool→Option (Int × Int)
 | 0,_,_,_=>none
 | k+1,x0,x1,x10=>if x10=true then (some (0,5)) else (if x0 > 1152921504606846976 then (some (0,3)) else (if x1=true then (some (wrap64 (-x0),0)) else (some (x0,0))))
def contangoref03_signed.f (k:Nat) (a0:Int) (a1:Bool):Option (Int × Int):=if a1=true then (contangoref03_signed.j0 k a0 a1 (a0 == 0)) else (contangoref03_signed.j0 k a0 a1 false)
set_option maxHeartbeats 8000000 in
set_option maxRecDepth 100000 in
theorem contangoref03_signed.calls (k:Nat) (a0:Int) (a1:Bool) (r1:Int) (r2:Int) (w:World) (h:contangoref03_signed.f k a0 a1=some (r1,r2)) :
  Calls Tryd.prog 57 #[.int .i64 a0,.bool a1] w fun e w'=>e=.returned (.tuple #[.int .i64 r1,.int .i64 r2])∧Drawn0 w w':=by
 have H:(if a1=true then (contangoref03_signed.j0 k a0 a1 (a0 == 0)) else (contangoref03_signed.j0 k a0 a1 false))=some (r1,r2):=h
 clear h
 have HC3:=Aside0.mk H
 clear H
 go_enter Tryd.func57,Tryd.ntmps57
 go_upto_region 1 with (fail)
 go_cut [10] (fun v10 wc=>∃ (kq:Nat) (x10_2:Bool),v10=.bool x10_2∧Aside0 (contangoref03_signed.j0 kq a0 a1 x10_2=some (r1,r2))∧Aside0 (kq≤k)∧Drawn0 w wc)
 case first =>
  have H:=HC3.out
  clear HC3
  by_cases c4:a1=true
  ·subst c4
   have H1:(contangoref03_signed.j0 k a0 true (a0 == 0))=some (r1,r2):=by rw [if_pos rfl] at H;exact H
   clear H
   have H:=H1
   clear H1
   have H':=Aside0.mk H
   clear H
   go_wp2
   go_meet
   case rel=>exact ⟨_,((a0 == 0)),(by first|rfl|(simp;done)|(simp [*];done)),H',⟨by first|omega|exact Nat.le_refl _⟩,by repeat (first|exact Drawn0.refl _|apply Drawn0.step)⟩
  ·replace c4:=Bool.eq_false_iff.mpr c4
   subst c4
   have H1:(contangoref03_signed.j0 k a0 false false)=some (r1,r2):=by rw [if_neg (show ¬ (false=true) by decide)] at H;exact H
   clear H
   have H:=H1
   clear H1
   have H':=Aside0.mk H
   clear H
   go_wp2
   go_meet
   case rel=>exact ⟨_,(false),(by first|rfl|(simp;done)|(simp [*];done)),H',⟨by first|omega|exact Nat.le_refl _⟩,by repeat (first|exact Drawn0.refl _|apply Drawn0.step)⟩
 case rest =>
  clear HC3
  try clear p2
  try clear c4
  obtain ⟨kq,x10_2,rfl,HA,HJ2,⟨mc2,rfl⟩⟩:=hcut
  cases kq with
  | zero=>exact absurd HA.out (by simp [contangoref03_signed.j0])
  | succ kj2 =>
   have H:=HA.out
   clear HA
   simp only [contangoref03_signed.j0] at H
   by_cases c5:x10_2=true
   ·subst c5
    have H1:(some (0,5))=some (r1,r2):=by rw [if_pos rfl] at H;exact H
    clear H
    have H:=H1
    clear H1
    simp only [Option.some.injEq,Prod.mk.injEq] at H
    obtain ⟨rfl,rfl⟩:=H
    go_wp2
    go_ret2
    exact ⟨by first|rfl|(simp;done)|(simp [*];done),by repeat (first|exact Drawn0.refl _|apply Drawn0.step)⟩
   ·replace c5:=Bool.eq_false_iff.mpr c5
    subst c5
    have H1:(if a0 > 1152921504606846976 then (some (0,3)) else (if a1=true then (some (wrap64 (-a0),0)) else (some (a0,0))))=some (r1,r2):=by rw [if_neg (show ¬ (false=true) by decide)] at H;exact H
    clear H
    have H:=H1
    clear H1
    by_cases c6:a0 > 1152921504606846976
    ·rw [if_pos c6] at H
     have c6b0:decide (1152921504606846976 < a0)=true:=decide_eq_true c6
     clear c6
     simp only [Option.some.injEq,Prod.mk.injEq] at H
     obtain ⟨rfl,rfl⟩:=H
     go_wp2
     go_ret2
     exact ⟨by first|rfl|(simp;done)|(simp [*];done),by repeat (first|exact Drawn0.refl _|apply Drawn0.step)⟩
    ·rw [if_neg c6] at H
     have c6b0:decide (1152921504606846976 < a0)=false:=decide_eq_false c6
     clear c6
     by_cases c7:a1=true
     ·subst c7
      have H1:(some (wrap64 (-a0),0))=some (r1,r2):=by rw [if_pos rfl] at H;exact H
      clear H
      have H:=H1
      clear H1
      simp only [Option.some.injEq,Prod.mk.injEq] at H
      obtain ⟨rfl,rfl⟩:=H
      go_wp2
      go_ret2
      exact ⟨by first|rfl|(simp;done)|(simp [*];done),by repeat (first|exact Drawn0.refl _|apply Drawn0.step)⟩
     ·replace c7:=Bool.eq_false_iff.mpr c7
      subst c7
      have H1:(some (a0,0))=some (r1,r2):=by rw [if_neg (show ¬ (false=true) by decide)] at H;exact H
      clear H
      have H:=H1
      clear H1
      simp only [Option.some.injEq,Prod.mk.injEq] at H
      obtain ⟨rfl,rfl⟩:=H
      go_wp2
      go_ret2
      exact ⟨by first|rfl|(simp;done)|(simp [*];done),by repeat (first|exact Drawn0.refl _|apply Drawn0.step)⟩
end Go.Proofs.YthpmmofleddpnaaDoor.X
end
section
namespace Go.Proofs.YthpmmofleddpnaaDoor.X
open Go.RowKit Go.Proofs.YthpmmofleddpnaaDoorW.PrintWords Go.Proofs.YthpmmofleddpnaaDoorW.PrintLast Go.Proofs.YthpmmofleddpnaaDoorW.PrintMore
attribute [local go_sem] max2_int min2_int max_two min_two max_three min_three max_four min_four
set_option linter.unusedVariables false
set_option linter.unusedSimpArgs false
def contangoref03_value.l0:Nat→ByteArray→Int→Int→Option (Int)
 | 0,_,_,_=>none
 | k+1,x0,x3,x4=>if x4 < (x0.size:Int) then (if x3 > 115292150460684697 then (some 1152921504606846977) else (if 0≤x4 then (contangoref03_value.l0 k x0 (wrap64 ((wrap64 (10*x3))+(((bt x0 x4) - 48) % 256))) (wrap64 (x4+1))) else (none))) else (some x3)
def contangoref03_value.f (k:Nat) (a0:ByteArray):Option (Int):=contangoref03_value.l0 k a0 0 0
set_option maxHeartbeats 8000000 in
set_option maxRecDepth 100000 in
theorem contangoref03_value.calls (k:Nat) (a0:ByteArray) (r:Int) (w:World) (h:contangoref03_value.f k a0=some r) :
  Calls Tryd.prog 58 #[.string a0] w fun e w'=>e=.returned (.int .i64 r)∧Drawn0 w w':=by
 have H:(contangoref03_value.l0 k a0 0 0)=some r:=h
 clear h
 have H':=Aside0.mk H
 clear H
 go_enter Tryd.func58,Tryd.ntmps58
 go_wp2
 go_loopg [3,4] k (fun kq v3 v4 w'=>∃ (x3_1:Int) (x4_1:Int),v3=.int .i64 x3_1∧v4=.int .i64 x4_1∧Aside0 (contangoref03_value.l0 kq a0 x3_1 x4_1=some r)∧Aside0 (kq≤k)∧Drawn0 w w')
 case atStart=>exact ⟨(0),(0),(by first|rfl|(simp;done)|(simp [*];done)),(by first|rfl|(simp;done)|(simp [*];done)),H',⟨Nat.le_refl _⟩,by repeat (first|exact Drawn0.refl _|apply Drawn0.step)⟩
 case round =>
  clear H'
  obtain ⟨x3_1,x4_1,rfl,rfl,HA,HK1,⟨m1,rfl⟩⟩:=hrel
  cases gk with
  | zero=>exact absurd HA.out (by simp [contangoref03_value.l0])
  | succ k1 =>
   have H:=HA.out
   clear HA
   simp only [contangoref03_value.l0] at H
   by_cases c2:x4_1 < (a0.size:Int)
   ·rw [if_pos c2] at H
    have c2b0:decide (x4_1 < (a0.size:Int))=true:=decide_eq_true c2
    clear c2
    by_cases c3:x3_1 > 115292150460684697
    ·rw [if_pos c3] at H
     have c3b0:decide (115292150460684697 < x3_1)=true:=decide_eq_true c3
     clear c3
     obtain rfl:=Option.some.inj H
     go_wp2
     go_ret
     exact ⟨by first|rfl|(simp;done)|(simp [*];done),by repeat (first|exact Drawn0.refl _|apply Drawn0.step)⟩
    ·rw [if_neg c3] at H
     have c3b0:decide (115292150460684697 < x3_1)=false:=decide_eq_false c3
     clear c3
     by_cases c4:0≤x4_1
     ·rw [if_pos c4] at H
      have c4b0:decide (0≤x4_1)=true:=decide_eq_true c4
      clear c4
      have H':=Aside0.mk H
      clear H
      have p5:0≤(x4_1:Int):=of_decide_eq_true (by first|(with_reducible assumption)|assumption)
      have q5:x4_1 < (a0.size:Int):=of_decide_eq_true (by first|(with_reducible assumption)|assumption)
      have hx5:=bt_at a0 x4_1
      replace p5:=eq_true p5
      replace q5:=eq_true q5
      go_wp2
      go_roundg k1
      case measure=>have:=HK1.out;omega
      case rel=>exact ⟨(wrap64 ((wrap64 (10*x3_1))+(((bt a0 x4_1) - 48) % 256))),(wrap64 (x4_1+1)),(by first|rfl|(simp;done)|(simp [*];done)),(by first|rfl|(simp;done)|(simp [*];done)),H',⟨by have:=HK1.out;omega⟩,by repeat (first|exact Drawn0.refl _|apply Drawn0.step)⟩
     ·rw [if_neg c4] at H
      exact absurd H (by simp)
   ·rw [if_neg c2] at H
    have c2b0:decide (x4_1 < (a0.size:Int))=false:=decide_eq_false c2
    clear c2
    obtain rfl:=Option.some.inj H
    go_wp2
    go_ret
    exact ⟨by first|rfl|(simp;done)|(simp [*];done),by repeat (first|exact Drawn0.refl _|apply Drawn0.step)⟩
end Go.Proofs.YthpmmofleddpnaaDoor.X
end
section
namespace Go.Proofs.YthpmmofleddpnaaDoor.X
open Go.RowKit Go.Proofs.YthpmmofleddpnaaDoorW.PrintWords Go.Proofs.YthpmmofleddpnaaDoorW.PrintLast Go.Proofs.YthpmmofleddpnaaDoorW.PrintMore
attribute [local go_sem] max2_int min2_int max_two min_two max_three min_three max_four min_four
set_option linter.unusedVariables false
set_option linter.unusedSimpArgs false
mutual
def contangoref03_Int.j0:Nat→ByteArray→Bool→Option (Int × Int)
 | 0,_,_=>none
 | k+1,x0,x4=>if x4=true then (if 1≤(x0.size:Int) then (contangoref03_Int.j1 k (x0.extract 1 x0.size) x4) else (none)) else (contangoref03_Int.j1 k x0 x4)
def contangoref03_Int.j1:Nat→ByteArray→Bool→Option (Int × Int)
 | 0,_,_=>none
 | k+1,x0,x4=>(contangoref03_digits.f k x0).bind fun t101=>(if t101=true then ((contangoref03_value.f k x0).bind fun t102=>((contangoref03_signed.f k t102 x4).bind fun bt103=>(some (bt103.1,bt103.2)))) else (some (0,5)))
end
def contangoref03_Int.f (k:Nat) (a0:ByteArray):Option (Int × Int):=if (a0.size:Int) > 0 then (if 0 < (a0.size:Int) then (contangoref03_Int.j0 k a0 ((bt a0 0) == 45)) else (none)) else (contangoref03_Int.j0 k a0 false)
set_option maxHeartbeats 8000000 in
set_option maxRecDepth 100000 in
theorem contangoref03_Int.calls (k:Nat) (a0:ByteArray) (r1:Int) (r2:Int) (w:World) (h:contangoref03_Int.f k a0=some (r1,r2)) :
  Calls Tryd.prog 33 #[.string a0] w fun e w'=>e=.returned (.tuple #[.int .i64 r1,.int .i64 r2])∧Drawn0 w w':=by
 have H:(if (a0.size:Int) > 0 then (if 0 < (a0.size:Int) then (contangoref03_Int.j0 k a0 ((bt a0 0) == 45)) else (none)) else (contangoref03_Int.j0 k a0 false))=some (r1,r2):=h
 clear h
 have HC2:=Aside0.mk H
 clear H
 go_enter Tryd.func33,Tryd.ntmps33
 go_upto_region 1 with (fail)
 go_cut [4] (fun v4 wc=>∃ (kq:Nat) (x4_1:Bool),v4=.bool x4_1∧Aside0 (contangoref03_Int.j0 kq a0 x4_1=some (r1,r2))∧Aside0 (kq≤k)∧Drawn0 w wc)
 case first =>
  have H:=HC2.out
  clear HC2
  by_cases c3:(a0.size:Int) > 0
  ·rw [if_pos c3] at H
   have c3b0:decide (0 < (a0.size:Int))=true:=decide_eq_true c3
   have c3b1:decide (0 < a0.size)=true:=decide_eq_true (by omega)
   clear c3
   (first|rw [c3b0]|(simp only [i64_w,i32_w];rw [c3b0])|skip)
   by_cases c4:0 < (a0.size:Int)
   ·rw [if_pos c4] at H
    have c4b0:decide (0 < (a0.size:Int))=true:=decide_eq_true c4
    have c4b1:decide (0 < a0.size)=true:=decide_eq_true (by omega)
    clear c4
    have H':=Aside0.mk H
    clear H
    have p5:0≤(0:Int):=(by omega)
    have q5:0 < a0.size:=(by have:(0:Int) < (a0.size:Int):=of_decide_eq_true (by first|(with_reducible assumption)|assumption);omega)
    have hx5:∀ h:0 < a0.size,((a0[0]'h).toNat:Int)=bt a0 0:=bt_at a0 0
    clear p5
    have qi5:(0 < (a0.size:Int))=True:=eq_true (of_decide_eq_true (by first|(with_reducible assumption)|assumption))
    replace q5:=eq_true q5
    go_wp2
    go_meet
    case rel=>exact ⟨_,(((bt a0 0) == 45)),(by first|rfl|(simp;done)|(simp [*];done)),H',⟨by first|omega|exact Nat.le_refl _⟩,by repeat (first|exact Drawn0.refl _|apply Drawn0.step)⟩
   ·rw [if_neg c4] at H
    exact absurd H (by simp)
  ·rw [if_neg c3] at H
   have c3b0:decide (0 < (a0.size:Int))=false:=decide_eq_false c3
   have c3b1:decide (0 < a0.size)=false:=decide_eq_false (by omega)
   clear c3
   (first|rw [c3b0]|(simp only [i64_w,i32_w];rw [c3b0])|skip)
   have H':=Aside0.mk H
   clear H
   go_wp2
   go_meet
   case rel=>exact ⟨_,(false),(by first|rfl|(simp;done)|(simp [*];done)),H',⟨by first|omega|exact Nat.le_refl _⟩,by repeat (first|exact Drawn0.refl _|apply Drawn0.step)⟩
 case rest =>
  clear HC2
  try clear p2
  try clear c3
  try clear c3b0
  try clear c3b1
  try clear c4
  try clear c4b0
  try clear c4b1
  try clear p5
  try clear q5
  try clear hx5
  try clear qi5
  try clear p5
  try clear q5
  obtain ⟨kq,x4_1,rfl,HA,HJ1,⟨mc1,rfl⟩⟩:=hcut
  cases kq with
  | zero=>exact absurd HA.out (by simp [contangoref03_Int.j0])
  | succ kj1 =>
   have H:=HA.out
   clear HA
   simp only [contangoref03_Int.j0] at H
   have HC6:=Aside0.mk H
   clear H
   go_upto_if 13 with (fail)
   go_cut [0] (fun v0 wc=>∃ (kq:Nat) (x0_5:ByteArray),v0=.string x0_5∧Aside0 (contangoref03_Int.j1 kq x0_5 x4_1=some (r1,r2))∧Aside0 (kq≤kj1)∧Drawn0 w wc)
   case first =>
    have H:=HC6.out
    clear HC6
    by_cases c7:x4_1=true
    ·subst c7
     have H1:(if 1≤(a0.size:Int) then (contangoref03_Int.j1 kj1 (a0.extract 1 a0.size) true) else (none))=some (r1,r2):=by rw [if_pos rfl] at H;exact H
     clear H
     have H:=H1
     clear H1
     by_cases c8:1≤(a0.size:Int)
     ·rw [if_pos c8] at H
      have c8b0:=eq_true c8
      have c8b1:decide (1≤(a0.size:Int))=true:=decide_eq_true c8
      clear c8
      have H':=Aside0.mk H
      clear H
      go_wp2
      go_meet
      case rel=>exact ⟨_,(a0.extract 1 a0.size),(by first|rfl|(simp;done)|(simp [*];done)),H',⟨by have:=HJ1.out;first|omega|exact Nat.le_refl _⟩,by repeat (first|exact Drawn0.refl _|apply Drawn0.step)⟩
     ·rw [if_neg c8] at H
      exact absurd H (by simp)
    ·replace c7:=Bool.eq_false_iff.mpr c7
     subst c7
     have H1:(contangoref03_Int.j1 kj1 a0 false)=some (r1,r2):=by rw [if_neg (show ¬ (false=true) by decide)] at H;exact H
     clear H
     have H:=H1
     clear H1
     have H':=Aside0.mk H
     clear H
     go_wp2
     go_meet
     case rel=>exact ⟨_,(a0),(by first|rfl|(simp;done)|(simp [*];done)),H',⟨by have:=HJ1.out;first|omega|exact Nat.le_refl _⟩,by repeat (first|exact Drawn0.refl _|apply Drawn0.step)⟩
   case rest =>
    clear HC6
    try clear c1
    try clear p2
    try clear c3
    try clear c3b0
    try clear c3b1
    try clear c4
    try clear c4b0
    try clear c4b1
    try clear p5
    try clear q5
    try clear hx5
    try clear qi5
    try clear c7
    try clear c8
    try clear c8b0
    try clear c8b1
    try clear p2
    try clear p5
    try clear q5
    obtain ⟨kq,x0_5,rfl,HA,HJ5,⟨mc5,rfl⟩⟩:=hcut
    cases kq with
    | zero=>exact absurd HA.out (by simp [contangoref03_Int.j1])
    | succ kj5 =>
     have H:=HA.out
     clear HA
     simp only [contangoref03_Int.j1] at H
     replace H:=Option.bind_eq_some_iff.mp H
     obtain ⟨t101,A90,H⟩:=H
     replace H:(if t101=true then ((contangoref03_value.f kj5 x0_5).bind fun t102=>((contangoref03_signed.f kj5 t102 x4_1).bind fun bt103=>(some (bt103.1,bt103.2)))) else (some (0,5)))=some (r1,r2):=H
     have A9:=Aside0.mk A90
     clear A90
     by_cases c10:t101=true
     ·subst c10
      have H1:((contangoref03_value.f kj5 x0_5).bind fun t102=>((contangoref03_signed.f kj5 t102 x4_1).bind fun bt103=>(some (bt103.1,bt103.2))))=some (r1,r2):=by rw [if_pos rfl] at H;exact H
      clear H
      have H:=H1
      clear H1
      replace H:=Option.bind_eq_some_iff.mp H
      obtain ⟨t102,A110,H⟩:=H
      replace H:((contangoref03_signed.f kj5 t102 x4_1).bind fun bt103=>(some (bt103.1,bt103.2)))=some (r1,r2):=H
      have A11:=Aside0.mk A110
      clear A110
      replace H:=Option.bind_eq_some_iff.mp H
      obtain ⟨⟨t103,t104⟩,A120,H⟩:=H
      replace H:(some (t103,t104))=some (r1,r2):=H
      have A12:=Aside0.mk A120
      clear A120
      simp only [Option.some.injEq,Prod.mk.injEq] at H
      obtain ⟨rfl,rfl⟩:=H
      go_wp2_with (first|((with_reducible refine gate_callee (f:=56) rfl ?_);refine goesL_ (some 17) rfl rfl Tryd.func56 (by kernel_rfl) rfl #[.string x0_5] rfl (by (try simp only [List.map_toArray,List.map_cons,List.map_nil]);first|done|rfl|(simp only [List.length_drop,List.length_take];rfl)) ?_;(with_reducible refine (contangoref03_digits.calls kj5 x0_5 true _ A9.out).mono ?_);rintro e w' ⟨rfl,⟨nd,rfl⟩⟩;refine ⟨_,rfl,?_⟩)|((with_reducible refine gate_callee (f:=58) rfl ?_);refine goesL_ (some 20) rfl rfl Tryd.func58 (by kernel_rfl) rfl #[.string x0_5] rfl (by (try simp only [List.map_toArray,List.map_cons,List.map_nil]);first|done|rfl|(simp only [List.length_drop,List.length_take];rfl)) ?_;(with_reducible refine (contangoref03_value.calls kj5 x0_5 t102 _ A11.out).mono ?_);rintro e w' ⟨rfl,⟨nd,rfl⟩⟩;refine ⟨_,rfl,?_⟩)|((with_reducible refine gate_callee (f:=57) rfl ?_);refine goesL_ (some 22) rfl rfl Tryd.func57 (by kernel_rfl) rfl #[.int .i64 t102,.bool x4_1] rfl (by (try simp only [List.map_toArray,List.map_cons,List.map_nil]);first|done|rfl|(simp only [List.length_drop,List.length_take];rfl)) ?_;(with_reducible refine (contangoref03_signed.calls kj5 t102 x4_1 t103 t104 _ A12.out).mono ?_);rintro e w' ⟨rfl,⟨nd,rfl⟩⟩;refine ⟨_,rfl,?_⟩))
      go_ret2
      exact ⟨by first|rfl|(simp;done)|(simp [*];done),by repeat (first|exact Drawn0.refl _|apply Drawn0.step)⟩
     ·replace c10:=Bool.eq_false_iff.mpr c10
      subst c10
      have H1:(some (0,5))=some (r1,r2):=by rw [if_neg (show ¬ (false=true) by decide)] at H;exact H
      clear H
      have H:=H1
      clear H1
      simp only [Option.some.injEq,Prod.mk.injEq] at H
      obtain ⟨rfl,rfl⟩:=H
      go_wp2_with (first|((with_reducible refine gate_callee (f:=56) rfl ?_);refine goesL_ (some 17) rfl rfl Tryd.func56 (by kernel_rfl) rfl #[.string x0_5] rfl (by (try simp only [List.map_toArray,List.map_cons,List.map_nil]);first|done|rfl|(simp only [List.length_drop,List.length_take];rfl)) ?_;(with_reducible refine (contangoref03_digits.calls kj5 x0_5 false _ A9.out).mono ?_);rintro e w' ⟨rfl,⟨nd,rfl⟩⟩;refine ⟨_,rfl,?_⟩))
      go_ret2
      exact ⟨by first|rfl|(simp;done)|(simp [*];done),by repeat (first|exact Drawn0.refl _|apply Drawn0.step)⟩
end Go.Proofs.YthpmmofleddpnaaDoor.X
end
section
namespace Go.Proofs.YthpmmofleddpnaaDoor.X
open Go.RowKit Go.Proofs.YthpmmofleddpnaaDoorW.PrintWords Go.Proofs.YthpmmofleddpnaaDoorW.PrintLast Go.Proofs.YthpmmofleddpnaaDoorW.PrintMore
attribute [local go_sem] max2_int min2_int max_two min_two max_three min_three max_four min_four
set_option linter.unusedVariables false
set_option linter.unusedSimpArgs false
def contangoref03_Name.l0:Nat→ByteArray→Int→Option (Bool)
 | 0,_,_=>none
 | k+1,x0,x3=>if x3 < (x0.size:Int) then (if 0≤x3 then (if (bt x0 x3) ≥ 97 then (if ((bt x0 x3)≤122) then (contangoref03_Name.l0 k x0 (wrap64 (x3+1))) else (if x3=0 then (some false) else (if (bt x0 x3) < 48 then (some false) else (if (bt x0 x3) > 57 then (some false) else (contangoref03_Name.l0 k x0 (wrap64 (x3+1))))))) else (if x3=0 then (some false) else (if (bt x0 x3) < 48 then (some false) else (if (bt x0 x3) > 57 then (some false) else (contangoref03_Name.l0 k x0 (wrap64 (x3+1))))))) else (none)) else (if (x0.size:Int) > 0 then (some (decide ((x0.size:Int)≤12))) else (some false))
def contangoref03_Name.f (k:Nat) (a0:ByteArray):Option (Bool):=contangoref03_Name.l0 k a0 0
set_option maxHeartbeats 8000000 in
set_option maxRecDepth 100000 in
theorem contangoref03_Name.calls (k:Nat) (a0:ByteArray) (r:Bool) (w:World) (h:contangoref03_Name.f k a0=some r) :
  Calls Tryd.prog 31 #[.string a0] w fun e w'=>e=.returned (.bool r)∧Drawn0 w w':=by
 have H:(contangoref03_Name.l0 k a0 0)=some r:=h
 clear h
 have H':=Aside0.mk H
 clear H
 go_enter Tryd.func31,Tryd.ntmps31
 go_wp2
 go_loopg [3] k (fun kq v3 w'=>∃ (x3_1:Int),v3=.int .i64 x3_1∧Aside0 (contangoref03_Name.l0 kq a0 x3_1=some r)∧Aside0 (kq≤k)∧Drawn0 w w')
 case atStart=>exact ⟨(0),(by first|rfl|(simp;done)|(simp [*];done)),H',⟨Nat.le_refl _⟩,by repeat (first|exact Drawn0.refl _|apply Drawn0.step)⟩
 case round =>
  clear H'
  obtain ⟨x3_1,rfl,HA,HK1,⟨m1,rfl⟩⟩:=hrel
  cases gk with
  | zero=>exact absurd HA.out (by simp [contangoref03_Name.l0])
  | succ k1 =>
   have H:=HA.out
   clear HA
   simp only [contangoref03_Name.l0] at H
   by_cases c2:x3_1 < (a0.size:Int)
   ·rw [if_pos c2] at H
    have c2b0:decide (x3_1 < (a0.size:Int))=true:=decide_eq_true c2
    clear c2
    by_cases c3:0≤x3_1
    ·rw [if_pos c3] at H
     have c3b0:decide (0≤x3_1)=true:=decide_eq_true c3
     clear c3
     by_cases c5:(bt a0 x3_1) ≥ 97
     ·rw [if_pos c5] at H
      have c5b0:decide (97≤(bt a0 x3_1))=true:=decide_eq_true c5
      clear c5
      by_cases c7:((bt a0 x3_1)≤122)
      ·rw [if_pos c7] at H
       have c7b0:decide ((bt a0 x3_1)≤122)=true:=decide_eq_true c7
       clear c7
       have H':=Aside0.mk H
       clear H
       have p4:0≤(x3_1:Int):=of_decide_eq_true (by first|(with_reducible assumption)|assumption)
       have q4:x3_1 < (a0.size:Int):=of_decide_eq_true (by first|(with_reducible assumption)|assumption)
       have hx4:=bt_at a0 x3_1
       replace p4:=eq_true p4
       replace q4:=eq_true q4
       have p6:0≤(x3_1:Int):=of_decide_eq_true (by first|(with_reducible assumption)|assumption)
       have q6:x3_1 < (a0.size:Int):=of_decide_eq_true (by first|(with_reducible assumption)|assumption)
       have hx6:=bt_at a0 x3_1
       replace p6:=eq_true p6
       replace q6:=eq_true q6
       go_wp2
       go_roundg k1
       case measure=>have:=HK1.out;omega
       case rel=>exact ⟨(wrap64 (x3_1+1)),(by first|rfl|(simp;done)|(simp [*];done)),H',⟨by have:=HK1.out;omega⟩,by repeat (first|exact Drawn0.refl _|apply Drawn0.step)⟩
      ·rw [if_neg c7] at H
       have c7b0:decide ((bt a0 x3_1)≤122)=false:=decide_eq_false c7
       clear c7
       by_cases c8:x3_1=0
       ·rw [if_pos c8] at H
        have c8b0:(x3_1 == 0)=true:=beq_iff_eq.mpr c8
        have c8b1:(x3_1 != 0)=false:=bne_eq_false_iff_eq.mpr c8
        clear c8
        obtain rfl:=Option.some.inj H
        have p4:0≤(x3_1:Int):=of_decide_eq_true (by first|(with_reducible assumption)|assumption)
        have q4:x3_1 < (a0.size:Int):=of_decide_eq_true (by first|(with_reducible assumption)|assumption)
        have hx4:=bt_at a0 x3_1
        replace p4:=eq_true p4
        replace q4:=eq_true q4
        have p6:0≤(x3_1:Int):=of_decide_eq_true (by first|(with_reducible assumption)|assumption)
        have q6:x3_1 < (a0.size:Int):=of_decide_eq_true (by first|(with_reducible assumption)|assumption)
        have hx6:=bt_at a0 x3_1
        replace p6:=eq_true p6
        replace q6:=eq_true q6
        go_wp2
        go_ret
        exact ⟨by first|rfl|(simp;done)|(simp [*];done),by repeat (first|exact Drawn0.refl _|apply Drawn0.step)⟩
       ·rw [if_neg c8] at H
        have c8b0:(x3_1 == 0)=false:=beq_eq_false_iff_ne.mpr c8
        have c8b1:(x3_1 != 0)=true:=bne_iff_ne.mpr c8
        by_cases c10:(bt a0 x3_1) < 48
        ·rw [if_pos c10] at H
         have c10b0:decide ((bt a0 x3_1) < 48)=true:=decide_eq_true c10
         clear c10
         obtain rfl:=Option.some.inj H
         have p4:0≤(x3_1:Int):=of_decide_eq_true (by first|(with_reducible assumption)|assumption)
         have q4:x3_1 < (a0.size:Int):=of_decide_eq_true (by first|(with_reducible assumption)|assumption)
         have hx4:=bt_at a0 x3_1
         replace p4:=eq_true p4
         replace q4:=eq_true q4
         have p6:0≤(x3_1:Int):=of_decide_eq_true (by first|(with_reducible assumption)|assumption)
         have q6:x3_1 < (a0.size:Int):=of_decide_eq_true (by first|(with_reducible assumption)|assumption)
         have hx6:=bt_at a0 x3_1
         replace p6:=eq_true p6
         replace q6:=eq_true q6
         have p9:0≤(x3_1:Int):=of_decide_eq_true (by first|(with_reducible assumption)|assumption)
         have q9:x3_1 < (a0.size:Int):=of_decide_eq_true (by first|(with_reducible assumption)|assumption)
         have hx9:=bt_at a0 x3_1
         replace p9:=eq_true p9
         replace q9:=eq_true q9
         go_wp2
         go_ret
         exact ⟨by first|rfl|(simp;done)|(simp [*];done),by repeat (first|exact Drawn0.refl _|apply Drawn0.step)⟩
        ·rw [if_neg c10] at H
         have c10b0:decide ((bt a0 x3_1) < 48)=false:=decide_eq_false c10
         clear c10
         by_cases c12:(bt a0 x3_1) > 57
         ·rw [if_pos c12] at H
          have c12b0:decide (57 < (bt a0 x3_1))=true:=decide_eq_true c12
          clear c12
          obtain rfl:=Option.some.inj H
          have p4:0≤(x3_1:Int):=of_decide_eq_true (by first|(with_reducible assumption)|assumption)
          have q4:x3_1 < (a0.size:Int):=of_decide_eq_true (by first|(with_reducible assumption)|assumption)
          have hx4:=bt_at a0 x3_1
          replace p4:=eq_true p4
          replace q4:=eq_true q4
          have p6:0≤(x3_1:Int):=of_decide_eq_true (by first|(with_reducible assumption)|assumption)
          have q6:x3_1 < (a0.size:Int):=of_decide_eq_true (by first|(with_reducible assumption)|assumption)
          have hx6:=bt_at a0 x3_1
          replace p6:=eq_true p6
          replace q6:=eq_true q6
          have p9:0≤(x3_1:Int):=of_decide_eq_true (by first|(with_reducible assumption)|assumption)
          have q9:x3_1 < (a0.size:Int):=of_decide_eq_true (by first|(with_reducible assumption)|assumption)
          have hx9:=bt_at a0 x3_1
          replace p9:=eq_true p9
          replace q9:=eq_true q9
          have p11:0≤(x3_1:Int):=of_decide_eq_true (by first|(with_reducible assumption)|assumption)
          have q11:x3_1 < (a0.size:Int):=of_decide_eq_true (by first|(with_reducible assumption)|assumption)
          have hx11:=bt_at a0 x3_1
          replace p11:=eq_true p11
          replace q11:=eq_true q11
          go_wp2
          go_ret
          exact ⟨by first|rfl|(simp;done)|(simp [*];done),by repeat (first|exact Drawn0.refl _|apply Drawn0.step)⟩
         ·rw [if_neg c12] at H
          have c12b0:decide (57 < (bt a0 x3_1))=false:=decide_eq_false c12
          clear c12
          have H':=Aside0.mk H
          clear H
          have p4:0≤(x3_1:Int):=of_decide_eq_true (by first|(with_reducible assumption)|assumption)
          have q4:x3_1 < (a0.size:Int):=of_decide_eq_true (by first|(with_reducible assumption)|assumption)
          have hx4:=bt_at a0 x3_1
          replace p4:=eq_true p4
          replace q4:=eq_true q4
          have p6:0≤(x3_1:Int):=of_decide_eq_true (by first|(with_reducible assumption)|assumption)
          have q6:x3_1 < (a0.size:Int):=of_decide_eq_true (by first|(with_reducible assumption)|assumption)
          have hx6:=bt_at a0 x3_1
          replace p6:=eq_true p6
          replace q6:=eq_true q6
          have p9:0≤(x3_1:Int):=of_decide_eq_true (by first|(with_reducible assumption)|assumption)
          have q9:x3_1 < (a0.size:Int):=of_decide_eq_true (by first|(with_reducible assumption)|assumption)
          have hx9:=bt_at a0 x3_1
          replace p9:=eq_true p9
          replace q9:=eq_true q9
          have p11:0≤(x3_1:Int):=of_decide_eq_true (by first|(with_reducible assumption)|assumption)
          have q11:x3_1 < (a0.size:Int):=of_decide_eq_true (by first|(with_reducible assumption)|assumption)
          have hx11:=bt_at a0 x3_1
          replace p11:=eq_true p11
          replace q11:=eq_true q11
          go_wp2
          go_roundg k1
          case measure=>have:=HK1.out;omega
          case rel=>exact ⟨(wrap64 (x3_1+1)),(by first|rfl|(simp;done)|(simp [*];done)),H',⟨by have:=HK1.out;omega⟩,by repeat (first|exact Drawn0.refl _|apply Drawn0.step)⟩
     ·rw [if_neg c5] at H
      have c5b0:decide (97≤(bt a0 x3_1))=false:=decide_eq_false c5
      clear c5
      by_cases c13:x3_1=0
      ·rw [if_pos c13] at H
       have c13b0:(x3_1 == 0)=true:=beq_iff_eq.mpr c13
       have c13b1:(x3_1 != 0)=false:=bne_eq_false_iff_eq.mpr c13
       clear c13
       obtain rfl:=Option.some.inj H
       have p4:0≤(x3_1:Int):=of_decide_eq_true (by first|(with_reducible assumption)|assumption)
       have q4:x3_1 < (a0.size:Int):=of_decide_eq_true (by first|(with_reducible assumption)|assumption)
       have hx4:=bt_at a0 x3_1
       replace p4:=eq_true p4
       replace q4:=eq_true q4
       go_wp2
       go_ret
       exact ⟨by first|rfl|(simp;done)|(simp [*];done),by repeat (first|exact Drawn0.refl _|apply Drawn0.step)⟩
      ·rw [if_neg c13] at H
       have c13b0:(x3_1 == 0)=false:=beq_eq_false_iff_ne.mpr c13
       have c13b1:(x3_1 != 0)=true:=bne_iff_ne.mpr c13
       by_cases c15:(bt a0 x3_1) < 48
       ·rw [if_pos c15] at H
        have c15b0:decide ((bt a0 x3_1) < 48)=true:=decide_eq_true c15
        clear c15
        obtain rfl:=Option.some.inj H
        have p4:0≤(x3_1:Int):=of_decide_eq_true (by first|(with_reducible assumption)|assumption)
        have q4:x3_1 < (a0.size:Int):=of_decide_eq_true (by first|(with_reducible assumption)|assumption)
        have hx4:=bt_at a0 x3_1
        replace p4:=eq_true p4
        replace q4:=eq_true q4
        have p14:0≤(x3_1:Int):=of_decide_eq_true (by first|(with_reducible assumption)|assumption)
        have q14:x3_1 < (a0.size:Int):=of_decide_eq_true (by first|(with_reducible assumption)|assumption)
        have hx14:=bt_at a0 x3_1
        replace p14:=eq_true p14
        replace q14:=eq_true q14
        go_wp2
        go_ret
        exact ⟨by first|rfl|(simp;done)|(simp [*];done),by repeat (first|exact Drawn0.refl _|apply Drawn0.step)⟩
       ·rw [if_neg c15] at H
        have c15b0:decide ((bt a0 x3_1) < 48)=false:=decide_eq_false c15
        clear c15
        by_cases c17:(bt a0 x3_1) > 57
        ·rw [if_pos c17] at H
         have c17b0:decide (57 < (bt a0 x3_1))=true:=decide_eq_true c17
         clear c17
         obtain rfl:=Option.some.inj H
         have p4:0≤(x3_1:Int):=of_decide_eq_true (by first|(with_reducible assumption)|assumption)
         have q4:x3_1 < (a0.size:Int):=of_decide_eq_true (by first|(with_reducible assumption)|assumption)
         have hx4:=bt_at a0 x3_1
         replace p4:=eq_true p4
         replace q4:=eq_true q4
         have p14:0≤(x3_1:Int):=of_decide_eq_true (by first|(with_reducible assumption)|assumption)
         have q14:x3_1 < (a0.size:Int):=of_decide_eq_true (by first|(with_reducible assumption)|assumption)
         have hx14:=bt_at a0 x3_1
         replace p14:=eq_true p14
         replace q14:=eq_true q14
         have p16:0≤(x3_1:Int):=of_decide_eq_true (by first|(with_reducible assumption)|assumption)
         have q16:x3_1 < (a0.size:Int):=of_decide_eq_true (by first|(with_reducible assumption)|assumption)
         have hx16:=bt_at a0 x3_1
         replace p16:=eq_true p16
         replace q16:=eq_true q16
         go_wp2
         go_ret
         exact ⟨by first|rfl|(simp;done)|(simp [*];done),by repeat (first|exact Drawn0.refl _|apply Drawn0.step)⟩
        ·rw [if_neg c17] at H
         have c17b0:decide (57 < (bt a0 x3_1))=false:=decide_eq_false c17
         clear c17
         have H':=Aside0.mk H
         clear H
         have p4:0≤(x3_1:Int):=of_decide_eq_true (by first|(with_reducible assumption)|assumption)
         have q4:x3_1 < (a0.size:Int):=of_decide_eq_true (by first|(with_reducible assumption)|assumption)
         have hx4:=bt_at a0 x3_1
         replace p4:=eq_true p4
         replace q4:=eq_true q4
         have p14:0≤(x3_1:Int):=of_decide_eq_true (by first|(with_reducible assumption)|assumption)
         have q14:x3_1 < (a0.size:Int):=of_decide_eq_true (by first|(with_reducible assumption)|assumption)
         have hx14:=bt_at a0 x3_1
         replace p14:=eq_true p14
         replace q14:=eq_true q14
         have p16:0≤(x3_1:Int):=of_decide_eq_true (by first|(with_reducible assumption)|assumption)
         have q16:x3_1 < (a0.size:Int):=of_decide_eq_true (by first|(with_reducible assumption)|assumption)
         have hx16:=bt_at a0 x3_1
         replace p16:=eq_true p16
         replace q16:=eq_true q16
         go_wp2
         go_roundg k1
         case measure=>have:=HK1.out;omega
         case rel=>exact ⟨(wrap64 (x3_1+1)),(by first|rfl|(simp;done)|(simp [*];done)),H',⟨by have:=HK1.out;omega⟩,by repeat (first|exact Drawn0.refl _|apply Drawn0.step)⟩
    ·rw [if_neg c3] at H
     exact absurd H (by simp)
   ·rw [if_neg c2] at H
    have c2b0:decide (x3_1 < (a0.size:Int))=false:=decide_eq_false c2
    clear c2
    by_cases c18:(a0.size:Int) > 0
    ·rw [if_pos c18] at H
     have c18b0:decide (0 < (a0.size:Int))=true:=decide_eq_true c18
     have c18b1:decide (0 < a0.size)=true:=decide_eq_true (by omega)
     clear c18
     obtain rfl:=Option.some.inj H
     go_wp2
     go_ret
     exact ⟨by first|rfl|(simp;done)|(simp [*];done),by repeat (first|exact Drawn0.refl _|apply Drawn0.step)⟩
    ·rw [if_neg c18] at H
     have c18b0:decide (0 < (a0.size:Int))=false:=decide_eq_false c18
     have c18b1:decide (0 < a0.size)=false:=decide_eq_false (by omega)
     clear c18
     obtain rfl:=Option.some.inj H
     go_wp2
     go_ret
     exact ⟨by first|rfl|(simp;done)|(simp [*];done),by repeat (first|exact Drawn0.refl _|apply Drawn0.step)⟩
end Go.Proofs.YthpmmofleddpnaaDoor.X
end
section
namespace Go.Proofs.YthpmmofleddpnaaDoor.X
open Go.RowKit Go.Proofs.YthpmmofleddpnaaDoorW.PrintWords Go.Proofs.YthpmmofleddpnaaDoorW.PrintLast Go.Proofs.YthpmmofleddpnaaDoorW.PrintMore
attribute [local go_sem] max2_int min2_int max_two min_two max_three min_three max_four min_four
set_option linter.unusedVariables false
set_option linter.unusedSimpArgs false
def contangoref05_Leap.f (a0:Int):Option (Bool):=if (Int.tmod a0 4)=0 then (if (Int.tmod a0 100)=0 then (some ((Int.tmod a0 400) == 0)) else (some true)) else (some ((Int.tmod a0 400) == 0))
set_option maxHeartbeats 8000000 in
set_option maxRecDepth 100000 in
theorem contangoref05_Leap.calls (a0:Int) (r:Bool) (w:World) (h:contangoref05_Leap.f a0=some r) :
  Calls Tryd.prog 78 #[.int .i64 a0] w fun e w'=>e=.returned (.bool r)∧Drawn0 w w':=by
 have H:(if (Int.tmod a0 4)=0 then (if (Int.tmod a0 100)=0 then (some ((Int.tmod a0 400) == 0)) else (some true)) else (some ((Int.tmod a0 400) == 0)))=some r:=h
 clear h
 by_cases c2:(Int.tmod a0 4)=0
 ·rw [if_pos c2] at H
  have c2b0:((Int.tmod a0 4) == 0)=true:=beq_iff_eq.mpr c2
  have c2b1:((Int.tmod a0 4) != 0)=false:=bne_eq_false_iff_eq.mpr c2
  clear c2
  by_cases c3:(Int.tmod a0 100)=0
  ·rw [if_pos c3] at H
   have c3b0:((Int.tmod a0 100) == 0)=true:=beq_iff_eq.mpr c3
   have c3b1:((Int.tmod a0 100) != 0)=false:=bne_eq_false_iff_eq.mpr c3
   clear c3
   obtain rfl:=Option.some.inj H
   go_enter Tryd.func78,Tryd.ntmps78
   go_wp2
   go_ret
   exact ⟨by first|rfl|(simp;done)|(simp [*];done),by repeat (first|exact Drawn0.refl _|apply Drawn0.step)⟩
  ·rw [if_neg c3] at H
   have c3b0:((Int.tmod a0 100) == 0)=false:=beq_eq_false_iff_ne.mpr c3
   have c3b1:((Int.tmod a0 100) != 0)=true:=bne_iff_ne.mpr c3
   obtain rfl:=Option.some.inj H
   go_enter Tryd.func78,Tryd.ntmps78
   go_wp2
   go_ret
   exact ⟨by first|rfl|(simp;done)|(simp [*];done),by repeat (first|exact Drawn0.refl _|apply Drawn0.step)⟩
 ·rw [if_neg c2] at H
  have c2b0:((Int.tmod a0 4) == 0)=false:=beq_eq_false_iff_ne.mpr c2
  have c2b1:((Int.tmod a0 4) != 0)=true:=bne_iff_ne.mpr c2
  obtain rfl:=Option.some.inj H
  go_enter Tryd.func78,Tryd.ntmps78
  go_wp2
  go_ret
  exact ⟨by first|rfl|(simp;done)|(simp [*];done),by repeat (first|exact Drawn0.refl _|apply Drawn0.step)⟩
end Go.Proofs.YthpmmofleddpnaaDoor.X
end
section
namespace Go.Proofs.YthpmmofleddpnaaDoor.X
open Go.RowKit Go.Proofs.YthpmmofleddpnaaDoorW.PrintWords Go.Proofs.YthpmmofleddpnaaDoorW.PrintLast Go.Proofs.YthpmmofleddpnaaDoorW.PrintMore
attribute [local go_sem] max2_int min2_int max_two min_two max_three min_three max_four min_four
set_option linter.unusedVariables false
set_option linter.unusedSimpArgs false
mutual
def contangoref05_Days.j0:Nat→Int→Int→Bool→Option (Int)
 | 0,_,_,_=>none
 | k+1,x0,x5,x6=>if x6=true then (some 31) else (if x5=4 then (contangoref05_Days.j1 k x0 x5 (x5 == 4)) else (if x5=6 then (contangoref05_Days.j1 k x0 x5 (x5 == 6)) else (if x5=9 then (contangoref05_Days.j1 k x0 x5 (x5 == 9)) else (contangoref05_Days.j1 k x0 x5 (x5 == 11)))))
def contangoref05_Days.j1:Nat→Int→Int→Bool→Option (Int)
 | 0,_,_,_=>none
 | k+1,x0,x5,x14=>if x14=true then (some 30) else (if x5=2 then ((contangoref05_Leap.f x0).bind fun t101=>(if t101=true then (some 29) else (some 28))) else (some 0))
end
def contangoref05_Days.f (k:Nat) (a0:Int) (a1:Int):Option (Int):=if a1=1 then (contangoref05_Days.j0 k a0 a1 (a1 == 1)) else (if a1=3 then (contangoref05_Days.j0 k a0 a1 (a1 == 3)) else (if a1=5 then (contangoref05_Days.j0 k a0 a1 (a1 == 5)) else (if a1=7 then (contangoref05_Days.j0 k a0 a1 (a1 == 7)) else (if a1=8 then (contangoref05_Days.j0 k a0 a1 (a1 == 8)) else (if a1=10 then (contangoref05_Days.j0 k a0 a1 (a1 == 10)) else (contangoref05_Days.j0 k a0 a1 (a1 == 12)))))))
set_option maxHeartbeats 8000000 in
set_option maxRecDepth 100000 in
theorem contangoref05_Days.calls (k:Nat) (a0:Int) (a1:Int) (r:Int) (w:World) (h:contangoref05_Days.f k a0 a1=some r) :
  Calls Tryd.prog 77 #[.int .i64 a0,.int .i64 a1] w fun e w'=>e=.returned (.int .i64 r)∧Drawn0 w w':=by
 have H:(if a1=1 then (contangoref05_Days.j0 k a0 a1 (a1 == 1)) else (if a1=3 then (contangoref05_Days.j0 k a0 a1 (a1 == 3)) else (if a1=5 then (contangoref05_Days.j0 k a0 a1 (a1 == 5)) else (if a1=7 then (contangoref05_Days.j0 k a0 a1 (a1 == 7)) else (if a1=8 then (contangoref05_Days.j0 k a0 a1 (a1 == 8)) else (if a1=10 then (contangoref05_Days.j0 k a0 a1 (a1 == 10)) else (contangoref05_Days.j0 k a0 a1 (a1 == 12))))))))=some r:=h
 clear h
 have HC3:=Aside0.mk H
 clear H
 go_enter Tryd.func77,Tryd.ntmps77
 go_upto_if 6 with (fail)
 go_cut [6] (fun v6 wc=>∃ (kq:Nat) (x6_2:Bool),v6=.bool x6_2∧Aside0 (contangoref05_Days.j0 kq a0 a1 x6_2=some r)∧Aside0 (kq≤k)∧Drawn0 w wc)
 case first =>
  have H:=HC3.out
  clear HC3
  by_cases c4:a1=1
  ·rw [if_pos c4] at H
   have c4b0:(a1 == 1)=true:=beq_iff_eq.mpr c4
   have c4b1:(a1 != 1)=false:=bne_eq_false_iff_eq.mpr c4
   clear c4
   (first|rw [c4b0]|(simp only [i64_w,i32_w];rw [c4b0])|skip)
   have H':=Aside0.mk H
   clear H
   go_wp2
   go_meet
   case rel=>exact ⟨_,((a1 == 1)),(by first|rfl|(simp;done)|(simp [*];done)),H',⟨by first|omega|exact Nat.le_refl _⟩,by repeat (first|exact Drawn0.refl _|apply Drawn0.step)⟩
  ·rw [if_neg c4] at H
   have c4b0:(a1 == 1)=false:=beq_eq_false_iff_ne.mpr c4
   have c4b1:(a1 != 1)=true:=bne_iff_ne.mpr c4
   (first|rw [c4b0]|(simp only [i64_w,i32_w];rw [c4b0])|skip)
   by_cases c5:a1=3
   ·rw [if_pos c5] at H
    have c5b0:(a1 == 3)=true:=beq_iff_eq.mpr c5
    have c5b1:(a1 != 3)=false:=bne_eq_false_iff_eq.mpr c5
    clear c5
    have H':=Aside0.mk H
    clear H
    go_wp2
    go_meet
    case rel=>exact ⟨_,((a1 == 3)),(by first|rfl|(simp;done)|(simp [*];done)),H',⟨by first|omega|exact Nat.le_refl _⟩,by repeat (first|exact Drawn0.refl _|apply Drawn0.step)⟩
   ·rw [if_neg c5] at H
    have c5b0:(a1 == 3)=false:=beq_eq_false_iff_ne.mpr c5
    have c5b1:(a1 != 3)=true:=bne_iff_ne.mpr c5
    by_cases c6:a1=5
    ·rw [if_pos c6] at H
     have c6b0:(a1 == 5)=true:=beq_iff_eq.mpr c6
     have c6b1:(a1 != 5)=false:=bne_eq_false_iff_eq.mpr c6
     clear c6
     have H':=Aside0.mk H
     clear H
     go_wp2
     go_meet
     case rel=>exact ⟨_,((a1 == 5)),(by first|rfl|(simp;done)|(simp [*];done)),H',⟨by first|omega|exact Nat.le_refl _⟩,by repeat (first|exact Drawn0.refl _|apply Drawn0.step)⟩
    ·rw [if_neg c6] at H
     have c6b0:(a1 == 5)=false:=beq_eq_false_iff_ne.mpr c6
     have c6b1:(a1 != 5)=true:=bne_iff_ne.mpr c6
     by_cases c7:a1=7
     ·rw [if_pos c7] at H
      have c7b0:(a1 == 7)=true:=beq_iff_eq.mpr c7
      have c7b1:(a1 != 7)=false:=bne_eq_false_iff_eq.mpr c7
      clear c7
      have H':=Aside0.mk H
      clear H
      go_wp2
      go_meet
      case rel=>exact ⟨_,((a1 == 7)),(by first|rfl|(simp;done)|(simp [*];done)),H',⟨by first|omega|exact Nat.le_refl _⟩,by repeat (first|exact Drawn0.refl _|apply Drawn0.step)⟩
     ·rw [if_neg c7] at H
      have c7b0:(a1 == 7)=false:=beq_eq_false_iff_ne.mpr c7
      have c7b1:(a1 != 7)=true:=bne_iff_ne.mpr c7
      by_cases c8:a1=8
      ·rw [if_pos c8] at H
       have c8b0:(a1 == 8)=true:=beq_iff_eq.mpr c8
       have c8b1:(a1 != 8)=false:=bne_eq_false_iff_eq.mpr c8
       clear c8
       have H':=Aside0.mk H
       clear H
       go_wp2
       go_meet
       case rel=>exact ⟨_,((a1 == 8)),(by first|rfl|(simp;done)|(simp [*];done)),H',⟨by first|omega|exact Nat.le_refl _⟩,by repeat (first|exact Drawn0.refl _|apply Drawn0.step)⟩
      ·rw [if_neg c8] at H
       have c8b0:(a1 == 8)=false:=beq_eq_false_iff_ne.mpr c8
       have c8b1:(a1 != 8)=true:=bne_iff_ne.mpr c8
       by_cases c9:a1=10
       ·rw [if_pos c9] at H
        have c9b0:(a1 == 10)=true:=beq_iff_eq.mpr c9
        have c9b1:(a1 != 10)=false:=bne_eq_false_iff_eq.mpr c9
        clear c9
        have H':=Aside0.mk H
        clear H
        go_wp2
        go_meet
        case rel=>exact ⟨_,((a1 == 10)),(by first|rfl|(simp;done)|(simp [*];done)),H',⟨by first|omega|exact Nat.le_refl _⟩,by repeat (first|exact Drawn0.refl _|apply Drawn0.step)⟩
       ·rw [if_neg c9] at H
        have c9b0:(a1 == 10)=false:=beq_eq_false_iff_ne.mpr c9
        have c9b1:(a1 != 10)=true:=bne_iff_ne.mpr c9
        have H':=Aside0.mk H
        clear H
        go_wp2
        go_meet
        case rel=>exact ⟨_,((a1 == 12)),(by first|rfl|(simp;done)|(simp [*];done)),H',⟨by first|omega|exact Nat.le_refl _⟩,by repeat (first|exact Drawn0.refl _|apply Drawn0.step)⟩
 case rest =>
  clear HC3
  try clear p2
  try clear c4
  try clear c4b0
  try clear c4b1
  try clear c5
  try clear c5b0
  try clear c5b1
  try clear c6
  try clear c6b0
  try clear c6b1
  try clear c7
  try clear c7b0
  try clear c7b1
  try clear c8
  try clear c8b0
  try clear c8b1
  try clear c9
  try clear c9b0
  try clear c9b1
  obtain ⟨kq,x6_2,rfl,HA,HJ2,⟨mc2,rfl⟩⟩:=hcut
  cases kq with
  | zero=>exact absurd HA.out (by simp [contangoref05_Days.j0])
  | succ kj2 =>
   have H:=HA.out
   clear HA
   simp only [contangoref05_Days.j0] at H
   by_cases c10:x6_2=true
   ·subst c10
    have H1:(some 31)=some r:=by rw [if_pos rfl] at H;exact H
    clear H
    have H:=H1
    clear H1
    obtain rfl:=Option.some.inj H
    go_wp2
    go_ret
    exact ⟨by first|rfl|(simp;done)|(simp [*];done),by repeat (first|exact Drawn0.refl _|apply Drawn0.step)⟩
   ·replace c10:=Bool.eq_false_iff.mpr c10
    subst c10
    have H1:(if a1=4 then (contangoref05_Days.j1 kj2 a0 a1 (a1 == 4)) else (if a1=6 then (contangoref05_Days.j1 kj2 a0 a1 (a1 == 6)) else (if a1=9 then (contangoref05_Days.j1 kj2 a0 a1 (a1 == 9)) else (contangoref05_Days.j1 kj2 a0 a1 (a1 == 11)))))=some r:=by rw [if_neg (show ¬ (false=true) by decide)] at H;exact H
    clear H
    have H:=H1
    clear H1
    have HC11:=Aside0.mk H
    clear H
    go_upto_if 14 with (fail)
    go_cut [14] (fun v14 wc=>∃ (kq:Nat) (x14_10:Bool),v14=.bool x14_10∧Aside0 (contangoref05_Days.j1 kq a0 a1 x14_10=some r)∧Aside0 (kq≤kj2)∧Drawn0 w wc)
    case first =>
     have H:=HC11.out
     clear HC11
     by_cases c12:a1=4
     ·rw [if_pos c12] at H
      have c12b0:(a1 == 4)=true:=beq_iff_eq.mpr c12
      have c12b1:(a1 != 4)=false:=bne_eq_false_iff_eq.mpr c12
      clear c12
      (first|rw [c12b0]|(simp only [i64_w,i32_w];rw [c12b0])|skip)
      have H':=Aside0.mk H
      clear H
      go_wp2
      go_meet
      case rel=>exact ⟨_,((a1 == 4)),(by first|rfl|(simp;done)|(simp [*];done)),H',⟨by have:=HJ2.out;first|omega|exact Nat.le_refl _⟩,by repeat (first|exact Drawn0.refl _|apply Drawn0.step)⟩
     ·rw [if_neg c12] at H
      have c12b0:(a1 == 4)=false:=beq_eq_false_iff_ne.mpr c12
      have c12b1:(a1 != 4)=true:=bne_iff_ne.mpr c12
      (first|rw [c12b0]|(simp only [i64_w,i32_w];rw [c12b0])|skip)
      by_cases c13:a1=6
      ·rw [if_pos c13] at H
       have c13b0:(a1 == 6)=true:=beq_iff_eq.mpr c13
       have c13b1:(a1 != 6)=false:=bne_eq_false_iff_eq.mpr c13
       clear c13
       have H':=Aside0.mk H
       clear H
       go_wp2
       go_meet
       case rel=>exact ⟨_,((a1 == 6)),(by first|rfl|(simp;done)|(simp [*];done)),H',⟨by have:=HJ2.out;first|omega|exact Nat.le_refl _⟩,by repeat (first|exact Drawn0.refl _|apply Drawn0.step)⟩
      ·rw [if_neg c13] at H
       have c13b0:(a1 == 6)=false:=beq_eq_false_iff_ne.mpr c13
       have c13b1:(a1 != 6)=true:=bne_iff_ne.mpr c13
       by_cases c14:a1=9
       ·rw [if_pos c14] at H
        have c14b0:(a1 == 9)=true:=beq_iff_eq.mpr c14
        have c14b1:(a1 != 9)=false:=bne_eq_false_iff_eq.mpr c14
        clear c14
        have H':=Aside0.mk H
        clear H
        go_wp2
        go_meet
        case rel=>exact ⟨_,((a1 == 9)),(by first|rfl|(simp;done)|(simp [*];done)),H',⟨by have:=HJ2.out;first|omega|exact Nat.le_refl _⟩,by repeat (first|exact Drawn0.refl _|apply Drawn0.step)⟩
       ·rw [if_neg c14] at H
        have c14b0:(a1 == 9)=false:=beq_eq_false_iff_ne.mpr c14
        have c14b1:(a1 != 9)=true:=bne_iff_ne.mpr c14
        have H':=Aside0.mk H
        clear H
        go_wp2
        go_meet
        case rel=>exact ⟨_,((a1 == 11)),(by first|rfl|(simp;done)|(simp [*];done)),H',⟨by have:=HJ2.out;first|omega|exact Nat.le_refl _⟩,by repeat (first|exact Drawn0.refl _|apply Drawn0.step)⟩
    case rest =>
     clear HC11
     try clear c1
     try clear c2
     try clear p2
     try clear c4
     try clear c4b0
     try clear c4b1
     try clear c5
     try clear c5b0
     try clear c5b1
     try clear c6
     try clear c6b0
     try clear c6b1
     try clear c7
     try clear c7b0
     try clear c7b1
     try clear c8
     try clear c8b0
     try clear c8b1
     try clear c9
     try clear c9b0
     try clear c9b1
     try clear c10
     try clear c12
     try clear c12b0
     try clear c12b1
     try clear c13
     try clear c13b0
     try clear c13b1
     try clear c14
     try clear c14b0
     try clear c14b1
     try clear p2
     obtain ⟨kq,x14_10,rfl,HA,HJ10,⟨mc10,rfl⟩⟩:=hcut
     cases kq with
     | zero=>exact absurd HA.out (by simp [contangoref05_Days.j1])
     | succ kj10 =>
      have H:=HA.out
      clear HA
      simp only [contangoref05_Days.j1] at H
      by_cases c15:x14_10=true
      ·subst c15
       have H1:(some 30)=some r:=by rw [if_pos rfl] at H;exact H
       clear H
       have H:=H1
       clear H1
       obtain rfl:=Option.some.inj H
       go_wp2
       go_ret
       exact ⟨by first|rfl|(simp;done)|(simp [*];done),by repeat (first|exact Drawn0.refl _|apply Drawn0.step)⟩
      ·replace c15:=Bool.eq_false_iff.mpr c15
       subst c15
       have H1:(if a1=2 then ((contangoref05_Leap.f a0).bind fun t101=>(if t101=true then (some 29) else (some 28))) else (some 0))=some r:=by rw [if_neg (show ¬ (false=true) by decide)] at H;exact H
       clear H
       have H:=H1
       clear H1
       by_cases c16:a1=2
       ·rw [if_pos c16] at H
        have c16b0:(a1 == 2)=true:=beq_iff_eq.mpr c16
        have c16b1:(a1 != 2)=false:=bne_eq_false_iff_eq.mpr c16
        clear c16
        replace H:=Option.bind_eq_some_iff.mp H
        obtain ⟨t101,A170,H⟩:=H
        replace H:(if t101=true then (some 29) else (some 28))=some r:=H
        have A17:=Aside0.mk A170
        clear A170
        by_cases c18:t101=true
        ·subst c18
         have H1:(some 29)=some r:=by rw [if_pos rfl] at H;exact H
         clear H
         have H:=H1
         clear H1
         obtain rfl:=Option.some.inj H
         go_wp2_with (first|((with_reducible refine gate_callee (f:=78) rfl ?_);refine goesL_ (some 22) rfl rfl Tryd.func78 (by kernel_rfl) rfl #[.int .i64 a0] rfl (by (try simp only [List.map_toArray,List.map_cons,List.map_nil]);first|done|rfl|(simp only [List.length_drop,List.length_take];rfl)) ?_;(with_reducible refine (contangoref05_Leap.calls a0 true _ A17.out).mono ?_);rintro e w' ⟨rfl,⟨nd,rfl⟩⟩;refine ⟨_,rfl,?_⟩))
         go_ret
         exact ⟨by first|rfl|(simp;done)|(simp [*];done),by repeat (first|exact Drawn0.refl _|apply Drawn0.step)⟩
        ·replace c18:=Bool.eq_false_iff.mpr c18
         subst c18
         have H1:(some 28)=some r:=by rw [if_neg (show ¬ (false=true) by decide)] at H;exact H
         clear H
         have H:=H1
         clear H1
         obtain rfl:=Option.some.inj H
         go_wp2_with (first|((with_reducible refine gate_callee (f:=78) rfl ?_);refine goesL_ (some 22) rfl rfl Tryd.func78 (by kernel_rfl) rfl #[.int .i64 a0] rfl (by (try simp only [List.map_toArray,List.map_cons,List.map_nil]);first|done|rfl|(simp only [List.length_drop,List.length_take];rfl)) ?_;(with_reducible refine (contangoref05_Leap.calls a0 false _ A17.out).mono ?_);rintro e w' ⟨rfl,⟨nd,rfl⟩⟩;refine ⟨_,rfl,?_⟩))
         go_ret
         exact ⟨by first|rfl|(simp;done)|(simp [*];done),by repeat (first|exact Drawn0.refl _|apply Drawn0.step)⟩
       ·rw [if_neg c16] at H
        have c16b0:(a1 == 2)=false:=beq_eq_false_iff_ne.mpr c16
        have c16b1:(a1 != 2)=true:=bne_iff_ne.mpr c16
        obtain rfl:=Option.some.inj H
        go_wp2
        go_ret
        exact ⟨by first|rfl|(simp;done)|(simp [*];done),by repeat (first|exact Drawn0.refl _|apply Drawn0.step)⟩
end Go.Proofs.YthpmmofleddpnaaDoor.X
end
section
namespace Go.Proofs.YthpmmofleddpnaaDoor.X
open Go.RowKit Go.Proofs.YthpmmofleddpnaaDoorW.PrintWords Go.Proofs.YthpmmofleddpnaaDoorW.PrintLast Go.Proofs.YthpmmofleddpnaaDoorW.PrintMore
attribute [local go_sem] max2_int min2_int max_two min_two max_three min_three max_four min_four
set_option linter.unusedVariables false
set_option linter.unusedSimpArgs false
mutual
def contangoref05_Of.j0:Nat→Int→Int→Int→Bool→Option (Int × Int)
 | 0,_,_,_,_=>none
 | k+1,x0,x1,x2,x27=>if x27=true then (some (0,15)) else (contangoref05_Of.l0 k x0 x1 (wrap64 (x2 - 1)) 1)
def contangoref05_Of.l0:Nat→Int→Int→Int→Int→Option (Int × Int)
 | 0,_,_,_,_=>none
 | k+1,x0,x1,x8,x9=>if x9 < x1 then ((contangoref05_Days.f k x0 x9).bind fun t102=>(contangoref05_Of.l0 k x0 x1 (wrap64 (x8+t102)) (wrap64 (x9+1)))) else (contangoref05_Of.l1 k x0 x8 2000)
def contangoref05_Of.l1:Nat→Int→Int→Int→Option (Int × Int)
 | 0,_,_,_=>none
 | k+1,x0,x8,x10=>if x10 < x0 then ((contangoref05_Leap.f x10).bind fun t103=>(if t103=true then (contangoref05_Of.l1 k x0 (wrap64 ((wrap64 (x8+365))+1)) (wrap64 (x10+1))) else (contangoref05_Of.l1 k x0 (wrap64 (x8+365)) (wrap64 (x10+1))))) else (some (x8,0))
end
def contangoref05_Of.f (k:Nat) (a0:Int) (a1:Int) (a2:Int):Option (Int × Int):=if a0 < 2000 then (contangoref05_Of.j0 k a0 a1 a2 true) else (if a0 > 2199 then (contangoref05_Of.j0 k a0 a1 a2 true) else (if a2 < 1 then (contangoref05_Of.j0 k a0 a1 a2 true) else ((contangoref05_Days.f k a0 a1).bind fun t101=>(contangoref05_Of.j0 k a0 a1 a2 (decide (a2 > t101))))))
set_option maxHeartbeats 8000000 in
set_option maxRecDepth 100000 in
theorem contangoref05_Of.calls (k:Nat) (a0:Int) (a1:Int) (a2:Int) (r1:Int) (r2:Int) (w:World) (h:contangoref05_Of.f k a0 a1 a2=some (r1,r2)) :
  Calls Tryd.prog 55 #[.int .i64 a0,.int .i64 a1,.int .i64 a2] w fun e w'=>e=.returned (.tuple #[.int .i64 r1,.int .i64 r2])∧Drawn0 w w':=by
 have H:(if a0 < 2000 then (contangoref05_Of.j0 k a0 a1 a2 true) else (if a0 > 2199 then (contangoref05_Of.j0 k a0 a1 a2 true) else (if a2 < 1 then (contangoref05_Of.j0 k a0 a1 a2 true) else ((contangoref05_Days.f k a0 a1).bind fun t101=>(contangoref05_Of.j0 k a0 a1 a2 (decide (a2 > t101)))))))=some (r1,r2):=h
 clear h
 have HC4:=Aside0.mk H
 clear H
 go_enter Tryd.func55,Tryd.ntmps55
 go_upto_region 1 with (fail)
 go_cut [27] (fun v27 wc=>∃ (kq:Nat) (x27_3:Bool),v27=.bool x27_3∧Aside0 (contangoref05_Of.j0 kq a0 a1 a2 x27_3=some (r1,r2))∧Aside0 (kq≤k)∧Drawn0 w wc)
 case first =>
  have H:=HC4.out
  clear HC4
  by_cases c5:a0 < 2000
  ·rw [if_pos c5] at H
   have c5b0:decide (a0 < 2000)=true:=decide_eq_true c5
   clear c5
   (first|rw [c5b0]|(simp only [i64_w,i32_w];rw [c5b0])|skip)
   have H':=Aside0.mk H
   clear H
   go_wp2
   go_meet
   case rel=>exact ⟨_,(true),(by first|rfl|(simp;done)|(simp [*];done)),H',⟨by first|omega|exact Nat.le_refl _⟩,by repeat (first|exact Drawn0.refl _|apply Drawn0.step)⟩
  ·rw [if_neg c5] at H
   have c5b0:decide (a0 < 2000)=false:=decide_eq_false c5
   clear c5
   (first|rw [c5b0]|(simp only [i64_w,i32_w];rw [c5b0])|skip)
   by_cases c6:a0 > 2199
   ·rw [if_pos c6] at H
    have c6b0:decide (2199 < a0)=true:=decide_eq_true c6
    clear c6
    have H':=Aside0.mk H
    clear H
    go_wp2
    go_meet
    case rel=>exact ⟨_,(true),(by first|rfl|(simp;done)|(simp [*];done)),H',⟨by first|omega|exact Nat.le_refl _⟩,by repeat (first|exact Drawn0.refl _|apply Drawn0.step)⟩
   ·rw [if_neg c6] at H
    have c6b0:decide (2199 < a0)=false:=decide_eq_false c6
    clear c6
    by_cases c7:a2 < 1
    ·rw [if_pos c7] at H
     have c7b0:decide (a2 < 1)=true:=decide_eq_true c7
     clear c7
     have H':=Aside0.mk H
     clear H
     go_wp2
     go_meet
     case rel=>exact ⟨_,(true),(by first|rfl|(simp;done)|(simp [*];done)),H',⟨by first|omega|exact Nat.le_refl _⟩,by repeat (first|exact Drawn0.refl _|apply Drawn0.step)⟩
    ·rw [if_neg c7] at H
     have c7b0:decide (a2 < 1)=false:=decide_eq_false c7
     clear c7
     replace H:=Option.bind_eq_some_iff.mp H
     obtain ⟨t101,A80,H⟩:=H
     replace H:(contangoref05_Of.j0 k a0 a1 a2 (decide (a2 > t101)))=some (r1,r2):=H
     have A8:=Aside0.mk A80
     clear A80
     have H':=Aside0.mk H
     clear H
     go_wp2_with (first|(go_at_call 77;(with_reducible refine (contangoref05_Days.calls k a0 a1 t101 _ A8.out).mono ?_);rintro e w' ⟨rfl,⟨nd,rfl⟩⟩))
     go_meet
     case rel=>exact ⟨_,(decide (a2 > t101)),(by first|rfl|(simp;done)|(simp [*];done)),H',⟨by first|omega|exact Nat.le_refl _⟩,by repeat (first|exact Drawn0.refl _|apply Drawn0.step)⟩
 case rest =>
  clear HC4
  try clear p2
  try clear c5
  try clear c5b0
  try clear c6
  try clear c6b0
  try clear c7
  try clear c7b0
  obtain ⟨kq,x27_3,rfl,HA,HJ3,⟨mc3,rfl⟩⟩:=hcut
  cases kq with
  | zero=>exact absurd HA.out (by simp [contangoref05_Of.j0])
  | succ kj3 =>
   have H:=HA.out
   clear HA
   simp only [contangoref05_Of.j0] at H
   by_cases c9:x27_3=true
   ·subst c9
    have H1:(some (0,15))=some (r1,r2):=by rw [if_pos rfl] at H;exact H
    clear H
    have H:=H1
    clear H1
    simp only [Option.some.injEq,Prod.mk.injEq] at H
    obtain ⟨rfl,rfl⟩:=H
    go_wp2
    go_ret2
    exact ⟨by first|rfl|(simp;done)|(simp [*];done),by repeat (first|exact Drawn0.refl _|apply Drawn0.step)⟩
   ·replace c9:=Bool.eq_false_iff.mpr c9
    subst c9
    have H1:(contangoref05_Of.l0 kj3 a0 a1 (wrap64 (a2 - 1)) 1)=some (r1,r2):=by rw [if_neg (show ¬ (false=true) by decide)] at H;exact H
    clear H
    have H:=H1
    clear H1
    have H':=Aside0.mk H
    clear H
    go_wp2
    go_loopg [8,9] kj3 (fun kq v8 v9 w'=>∃ (x8_2:Int) (x9_2:Int),v8=.int .i64 x8_2∧v9=.int .i64 x9_2∧Aside0 (contangoref05_Of.l0 kq a0 a1 x8_2 x9_2=some (r1,r2))∧Aside0 (kq≤kj3)∧Drawn0 w w')
    case atStart=>exact ⟨(wrap64 (a2 - 1)),(1),(by first|rfl|(simp;done)|(simp [*];done)),(by first|rfl|(simp;done)|(simp [*];done)),H',⟨Nat.le_refl _⟩,by repeat (first|exact Drawn0.refl _|apply Drawn0.step)⟩
    case round =>
     clear H'
     try clear p2
     try clear c3
     try clear c5
     try clear c5b0
     try clear c6
     try clear c6b0
     try clear p6
     try clear c7
     try clear c7b0
     try clear c9
     try clear p2
     obtain ⟨x8_2,x9_2,rfl,rfl,HA,HK2,⟨m2,rfl⟩⟩:=hrel
     cases gk with
     | zero=>exact absurd HA.out (by simp [contangoref05_Of.l0])
     | succ k2 =>
      have H:=HA.out
      clear HA
      simp only [contangoref05_Of.l0] at H
      by_cases c10:x9_2 < a1
      ·rw [if_pos c10] at H
       have c10b0:decide (x9_2 < a1)=true:=decide_eq_true c10
       clear c10
       replace H:=Option.bind_eq_some_iff.mp H
       obtain ⟨t102,A110,H⟩:=H
       replace H:(contangoref05_Of.l0 k2 a0 a1 (wrap64 (x8_2+t102)) (wrap64 (x9_2+1)))=some (r1,r2):=H
       have A11:=Aside0.mk A110
       clear A110
       have H':=Aside0.mk H
       clear H
       go_wp2_with (first|((with_reducible refine gate_callee (f:=77) rfl ?_);refine goesL_ (some 38) rfl rfl Tryd.func77 (by kernel_rfl) rfl #[.int .i64 a0,.int .i64 x9_2] rfl (by (try simp only [List.map_toArray,List.map_cons,List.map_nil]);first|done|rfl|(simp only [List.length_drop,List.length_take];rfl)) ?_;(with_reducible refine (contangoref05_Days.calls k2 a0 x9_2 t102 _ A11.out).mono ?_);rintro e w' ⟨rfl,⟨nd,rfl⟩⟩;refine ⟨_,rfl,?_⟩))
       go_roundg k2
       case measure=>have:=HJ3.out;have:=HK2.out;omega
       case rel=>exact ⟨(wrap64 (x8_2+t102)),(wrap64 (x9_2+1)),(by first|rfl|(simp;done)|(simp [*];done)),(by first|rfl|(simp;done)|(simp [*];done)),H',⟨by have:=HJ3.out;have:=HK2.out;omega⟩,by repeat (first|exact Drawn0.refl _|apply Drawn0.step)⟩
      ·rw [if_neg c10] at H
       have c10b0:decide (x9_2 < a1)=false:=decide_eq_false c10
       clear c10
       have H':=Aside0.mk H
       clear H
       go_wp2
       go_loopg [8,10] k2 (fun kq v8 v10 w'=>∃ (x8_3:Int) (x10_3:Int),v8=.int .i64 x8_3∧v10=.int .i64 x10_3∧Aside0 (contangoref05_Of.l1 kq a0 x8_3 x10_3=some (r1,r2))∧Aside0 (kq≤k2)∧Drawn0 w w')
       case atStart=>exact ⟨(x8_2),(2000),(by first|rfl|(simp;done)|(simp [*];done)),(by first|rfl|(simp;done)|(simp [*];done)),H',⟨Nat.le_refl _⟩,by repeat (first|exact Drawn0.refl _|apply Drawn0.step)⟩
       case round =>
        clear H'
        try clear c1
        try clear p2
        try clear c3
        try clear c5
        try clear c5b0
        try clear c6
        try clear c6b0
        try clear p6
        try clear c7
        try clear c7b0
        try clear c9
        try clear c10
        try clear c10b0
        try clear p2
        try clear p6
        obtain ⟨x8_3,x10_3,rfl,rfl,HA,HK3,⟨m3,rfl⟩⟩:=hrel
        cases gk with
        | zero=>exact absurd HA.out (by simp [contangoref05_Of.l1])
        | succ k3 =>
         have H:=HA.out
         clear HA
         simp only [contangoref05_Of.l1] at H
         by_cases c12:x10_3 < a0
         ·rw [if_pos c12] at H
          have c12b0:decide (x10_3 < a0)=true:=decide_eq_true c12
          clear c12
          replace H:=Option.bind_eq_some_iff.mp H
          obtain ⟨t103,A130,H⟩:=H
          replace H:(if t103=true then (contangoref05_Of.l1 k3 a0 (wrap64 ((wrap64 (x8_3+365))+1)) (wrap64 (x10_3+1))) else (contangoref05_Of.l1 k3 a0 (wrap64 (x8_3+365)) (wrap64 (x10_3+1))))=some (r1,r2):=H
          have A13:=Aside0.mk A130
          clear A130
          by_cases c14:t103=true
          ·subst c14
           have H1:(contangoref05_Of.l1 k3 a0 (wrap64 ((wrap64 (x8_3+365))+1)) (wrap64 (x10_3+1)))=some (r1,r2):=by rw [if_pos rfl] at H;exact H
           clear H
           have H:=H1
           clear H1
           have H':=Aside0.mk H
           clear H
           go_wp2_with (first|((with_reducible refine gate_callee (f:=78) rfl ?_);refine goesL_ (some 48) rfl rfl Tryd.func78 (by kernel_rfl) rfl #[.int .i64 x10_3] rfl (by (try simp only [List.map_toArray,List.map_cons,List.map_nil]);first|done|rfl|(simp only [List.length_drop,List.length_take];rfl)) ?_;(with_reducible refine (contangoref05_Leap.calls x10_3 true _ A13.out).mono ?_);rintro e w' ⟨rfl,⟨nd,rfl⟩⟩;refine ⟨_,rfl,?_⟩))
           go_roundg k3
           case measure=>have:=HJ3.out;have:=HK2.out;have:=HK3.out;omega
           case rel=>exact ⟨(wrap64 ((wrap64 (x8_3+365))+1)),(wrap64 (x10_3+1)),(by first|rfl|(simp;done)|(simp [*];done)),(by first|rfl|(simp;done)|(simp [*];done)),H',⟨by have:=HJ3.out;have:=HK2.out;have:=HK3.out;omega⟩,by repeat (first|exact Drawn0.refl _|apply Drawn0.step)⟩
          ·replace c14:=Bool.eq_false_iff.mpr c14
           subst c14
           have H1:(contangoref05_Of.l1 k3 a0 (wrap64 (x8_3+365)) (wrap64 (x10_3+1)))=some (r1,r2):=by rw [if_neg (show ¬ (false=true) by decide)] at H;exact H
           clear H
           have H:=H1
           clear H1
           have H':=Aside0.mk H
           clear H
           go_wp2_with (first|((with_reducible refine gate_callee (f:=78) rfl ?_);refine goesL_ (some 48) rfl rfl Tryd.func78 (by kernel_rfl) rfl #[.int .i64 x10_3] rfl (by (try simp only [List.map_toArray,List.map_cons,List.map_nil]);first|done|rfl|(simp only [List.length_drop,List.length_take];rfl)) ?_;(with_reducible refine (contangoref05_Leap.calls x10_3 false _ A13.out).mono ?_);rintro e w' ⟨rfl,⟨nd,rfl⟩⟩;refine ⟨_,rfl,?_⟩))
           go_roundg k3
           case measure=>have:=HJ3.out;have:=HK2.out;have:=HK3.out;omega
           case rel=>exact ⟨(wrap64 (x8_3+365)),(wrap64 (x10_3+1)),(by first|rfl|(simp;done)|(simp [*];done)),(by first|rfl|(simp;done)|(simp [*];done)),H',⟨by have:=HJ3.out;have:=HK2.out;have:=HK3.out;omega⟩,by repeat (first|exact Drawn0.refl _|apply Drawn0.step)⟩
         ·rw [if_neg c12] at H
          have c12b0:decide (x10_3 < a0)=false:=decide_eq_false c12
          clear c12
          simp only [Option.some.injEq,Prod.mk.injEq] at H
          obtain ⟨rfl,rfl⟩:=H
          go_wp2
          go_ret2
          exact ⟨by first|rfl|(simp;done)|(simp [*];done),by repeat (first|exact Drawn0.refl _|apply Drawn0.step)⟩
end Go.Proofs.YthpmmofleddpnaaDoor.X
end
section
namespace Go.Proofs.YthpmmofleddpnaaDoor.X
open Go.RowKit Go.Proofs.YthpmmofleddpnaaDoorW.PrintWords Go.Proofs.YthpmmofleddpnaaDoorW.PrintLast Go.Proofs.YthpmmofleddpnaaDoorW.PrintMore
attribute [local go_sem] max2_int min2_int max_two min_two max_three min_three max_four min_four
set_option linter.unusedVariables false
set_option linter.unusedSimpArgs false
def contangoref10_number.l0:Nat→ByteArray→Int→Int→Option (Int)
 | 0,_,_,_=>none
 | k+1,x0,x3,x4=>if x4 < (x0.size:Int) then (if 0≤x4 then (if (bt x0 x4) < 48 then (some (-1)) else (if (bt x0 x4) > 57 then (some (-1)) else (contangoref10_number.l0 k x0 (wrap64 ((wrap64 ((wrap64 (10*x3))+(wrap64 (bt x0 x4)))) - 48)) (wrap64 (x4+1))))) else (none)) else (some x3)
def contangoref10_number.f (k:Nat) (a0:ByteArray):Option (Int):=contangoref10_number.l0 k a0 0 0
set_option maxHeartbeats 8000000 in
set_option maxRecDepth 100000 in
theorem contangoref10_number.calls (k:Nat) (a0:ByteArray) (r:Int) (w:World) (h:contangoref10_number.f k a0=some r) :
  Calls Tryd.prog 54 #[.string a0] w fun e w'=>e=.returned (.int .i64 r)∧Drawn0 w w':=by
 have H:(contangoref10_number.l0 k a0 0 0)=some r:=h
 clear h
 have H':=Aside0.mk H
 clear H
 go_enter Tryd.func54,Tryd.ntmps54
 go_wp2
 go_loopg [3,4] k (fun kq v3 v4 w'=>∃ (x3_1:Int) (x4_1:Int),v3=.int .i64 x3_1∧v4=.int .i64 x4_1∧Aside0 (contangoref10_number.l0 kq a0 x3_1 x4_1=some r)∧Aside0 (kq≤k)∧Drawn0 w w')
 case atStart=>exact ⟨(0),(0),(by first|rfl|(simp;done)|(simp [*];done)),(by first|rfl|(simp;done)|(simp [*];done)),H',⟨Nat.le_refl _⟩,by repeat (first|exact Drawn0.refl _|apply Drawn0.step)⟩
 case round =>
  clear H'
  obtain ⟨x3_1,x4_1,rfl,rfl,HA,HK1,⟨m1,rfl⟩⟩:=hrel
  cases gk with
  | zero=>exact absurd HA.out (by simp [contangoref10_number.l0])
  | succ k1 =>
   have H:=HA.out
   clear HA
   simp only [contangoref10_number.l0] at H
   by_cases c2:x4_1 < (a0.size:Int)
   ·rw [if_pos c2] at H
    have c2b0:decide (x4_1 < (a0.size:Int))=true:=decide_eq_true c2
    clear c2
    by_cases c3:0≤x4_1
    ·rw [if_pos c3] at H
     have c3b0:decide (0≤x4_1)=true:=decide_eq_true c3
     clear c3
     by_cases c5:(bt a0 x4_1) < 48
     ·rw [if_pos c5] at H
      have c5b0:decide ((bt a0 x4_1) < 48)=true:=decide_eq_true c5
      clear c5
      obtain rfl:=Option.some.inj H
      have p4:0≤(x4_1:Int):=of_decide_eq_true (by first|(with_reducible assumption)|assumption)
      have q4:x4_1 < (a0.size:Int):=of_decide_eq_true (by first|(with_reducible assumption)|assumption)
      have hx4:=bt_at a0 x4_1
      replace p4:=eq_true p4
      replace q4:=eq_true q4
      go_wp2
      go_ret
      exact ⟨by first|rfl|(simp;done)|(simp [*];done),by repeat (first|exact Drawn0.refl _|apply Drawn0.step)⟩
     ·rw [if_neg c5] at H
      have c5b0:decide ((bt a0 x4_1) < 48)=false:=decide_eq_false c5
      clear c5
      by_cases c7:(bt a0 x4_1) > 57
      ·rw [if_pos c7] at H
       have c7b0:decide (57 < (bt a0 x4_1))=true:=decide_eq_true c7
       clear c7
       obtain rfl:=Option.some.inj H
       have p4:0≤(x4_1:Int):=of_decide_eq_true (by first|(with_reducible assumption)|assumption)
       have q4:x4_1 < (a0.size:Int):=of_decide_eq_true (by first|(with_reducible assumption)|assumption)
       have hx4:=bt_at a0 x4_1
       replace p4:=eq_true p4
       replace q4:=eq_true q4
       have p6:0≤(x4_1:Int):=of_decide_eq_true (by first|(with_reducible assumption)|assumption)
       have q6:x4_1 < (a0.size:Int):=of_decide_eq_true (by first|(with_reducible assumption)|assumption)
       have hx6:=bt_at a0 x4_1
       replace p6:=eq_true p6
       replace q6:=eq_true q6
       go_wp2
       go_ret
       exact ⟨by first|rfl|(simp;done)|(simp [*];done),by repeat (first|exact Drawn0.refl _|apply Drawn0.step)⟩
      ·rw [if_neg c7] at H
       have c7b0:decide (57 < (bt a0 x4_1))=false:=decide_eq_false c7
       clear c7
       have H':=Aside0.mk H
       clear H
       have p4:0≤(x4_1:Int):=of_decide_eq_true (by first|(with_reducible assumption)|assumption)
       have q4:x4_1 < (a0.size:Int):=of_decide_eq_true (by first|(with_reducible assumption)|assumption)
       have hx4:=bt_at a0 x4_1
       replace p4:=eq_true p4
       replace q4:=eq_true q4
       have p6:0≤(x4_1:Int):=of_decide_eq_true (by first|(with_reducible assumption)|assumption)
       have q6:x4_1 < (a0.size:Int):=of_decide_eq_true (by first|(with_reducible assumption)|assumption)
       have hx6:=bt_at a0 x4_1
       replace p6:=eq_true p6
       replace q6:=eq_true q6
       have p8:0≤(x4_1:Int):=of_decide_eq_true (by first|(with_reducible assumption)|assumption)
       have q8:x4_1 < (a0.size:Int):=of_decide_eq_true (by first|(with_reducible assumption)|assumption)
       have hx8:=bt_at a0 x4_1
       replace p8:=eq_true p8
       replace q8:=eq_true q8
       go_wp2
       go_roundg k1
       case measure=>have:=HK1.out;omega
       case rel=>exact ⟨(wrap64 ((wrap64 ((wrap64 (10*x3_1))+(wrap64 (bt a0 x4_1)))) - 48)),(wrap64 (x4_1+1)),(by first|rfl|(simp;done)|(simp [*];done)),(by first|rfl|(simp;done)|(simp [*];done)),H',⟨by have:=HK1.out;omega⟩,by repeat (first|exact Drawn0.refl _|apply Drawn0.step)⟩
    ·rw [if_neg c3] at H
     exact absurd H (by simp)
   ·rw [if_neg c2] at H
    have c2b0:decide (x4_1 < (a0.size:Int))=false:=decide_eq_false c2
    clear c2
    obtain rfl:=Option.some.inj H
    go_wp2
    go_ret
    exact ⟨by first|rfl|(simp;done)|(simp [*];done),by repeat (first|exact Drawn0.refl _|apply Drawn0.step)⟩
end Go.Proofs.YthpmmofleddpnaaDoor.X
end
section
namespace Go.Proofs.YthpmmofleddpnaaDoor.X
open Go.RowKit Go.Proofs.YthpmmofleddpnaaDoorW.PrintWords Go.Proofs.YthpmmofleddpnaaDoorW.PrintLast Go.Proofs.YthpmmofleddpnaaDoorW.PrintMore
attribute [local go_sem] max2_int min2_int max_two min_two max_three min_three max_four min_four
set_option linter.unusedVariables false
set_option linter.unusedSimpArgs false
def contangoref10_Pieces.l0:Nat→ByteArray→List ByteArray→Int→Int→Option (List ByteArray)
 | 0,_,_,_,_=>none
 | k+1,x0,x3,x4,x5=>if x5≤(x0.size:Int) then (if x5=(x0.size:Int) then (if 0≤x4 then (if x4≤x5 then (if x3.length < 8796093022208 then (contangoref10_Pieces.l0 k x0 (x3++[x0.extract (x4:Int).toNat (x5:Int).toNat]) (wrap64 (x5+1)) (wrap64 (x5+1))) else (none)) else (none)) else (none)) else (if 0≤x5 then (if x5 < (x0.size:Int) then (if (bt x0 x5)=46 then (if 0≤x4 then (if x4≤x5 then (if x3.length < 8796093022208 then (contangoref10_Pieces.l0 k x0 (x3++[x0.extract (x4:Int).toNat (x5:Int).toNat]) (wrap64 (x5+1)) (wrap64 (x5+1))) else (none)) else (none)) else (none)) else (contangoref10_Pieces.l0 k x0 x3 x4 (wrap64 (x5+1)))) else (none)) else (none))) else (some x3)
def contangoref10_Pieces.f (k:Nat) (a0:ByteArray):Option (List ByteArray):=contangoref10_Pieces.l0 k a0 (([]:List ByteArray)) 0 0
set_option maxHeartbeats 8000000 in
set_option maxRecDepth 100000 in
theorem contangoref10_Pieces.calls (k:Nat) (a0:ByteArray) (r:List ByteArray) (w:World) (h:contangoref10_Pieces.f k a0=some r) :
  Calls Tryd.prog 53 #[.string a0] w fun e w'=>∃ v0_:Value,e=.returned (v0_)∧Kd.R Kd.string 9 w' w.heap.size (fun _=>True) v0_ r∧Below w.heap.size w w':=by
 have HB:=Aside0.mk (Below.refl w.heap.size w)
 have H:(contangoref10_Pieces.l0 k a0 (([]:List ByteArray)) 0 0)=some r:=h
 clear h
 obtain ⟨y101,hy101⟩:∃ y_:List ByteArray,y_=(([]:List ByteArray)):=⟨_,rfl⟩
 replace H:(contangoref10_Pieces.l0 k a0 y101 0 0)=some r:=by first|(rw [hy101];with_reducible exact H)|(have H2_:=(Option.bind_some _ _).symm.trans H;rw [hy101];with_reducible exact H2_)|(have H2_:=(Option.bind_some _ _).symm.trans H;with_reducible exact H2_)|with_reducible exact H|(rw [hy101];exact H)|exact H
 have Ny101:=Aside0.mk hy101
 clear hy101
 have H':=Aside0.mk H
 clear H
 go_enter Tryd.func53,Tryd.ntmps53
 go_wp2_with (first|((with_reducible refine gate_dst (N:=6) rfl ?_);refine Kd.R_lit Kd.string _ 9 ?hg (N:=6) ?hd (xs:=([]:List ByteArray)) (inner:=[]) (ok:=fun _=>True) (okp:=fun _=>True) ?hr ?hp (fun _ hk=>hk) trivial (Below.refl _ _) (Nat.le_refl _) (by simp) ?_;(case hd=>rfl);(case hg=>rfl);(case hr=>first|(go_simp;done)|(go_simp;rfl));(case hp=>exact (Reps.none _ _));intro v102 w2 ho3 hb hg_ hnew_;clear hg_ hnew_;(first|rw [← Ny101.out] at ho3|(simp only [Int.reduceToNat] at ho3;rw [← Ny101.out] at ho3));have n0_:=Aside0.mk (Kd.R_lower ho3 (below_size (by repeat (first|(with_reducible first|exact HB.out|apply below_alloc|apply pw_below_drewN|apply below_drew1)|exact HB.out))));have n1_:=Aside0.mk (below_step (by repeat (first|(with_reducible first|exact HB.out|apply below_alloc|apply pw_below_drewN|apply below_drew1)|exact HB.out)) hb);clear HB;have HO103:=n0_;have HB:=n1_;clear n0_ n1_;clear hb ho3))
 go_loopg [3,4,5] k (fun kq v3 v4 v5 w'=>∃ (x3_1:List ByteArray) (x4_1:Int) (x5_1:Int),v4=.int .i64 x4_1∧v5=.int .i64 x5_1∧Aside0 (contangoref10_Pieces.l0 kq a0 x3_1 x4_1 x5_1=some r)∧Aside0 (kq≤k)∧Aside0 (Kd.R Kd.string 9 w' w.heap.size (fun _=>True) v3 x3_1)∧Aside0 (Below w.heap.size w w'))
 case atStart=>exact ⟨(y101),(0),(0),(by first|rfl|(simp;done)|(simp [*];done)),(by first|rfl|(simp;done)|(simp [*];done)),H',⟨Nat.le_refl _⟩,⟨by (with_reducible repeat (first|apply Kd.R_alloc|apply Kd.R_drewN|apply Kd.R_drew));exact HO103.out⟩,⟨by repeat (first|(with_reducible first|exact HB.out|apply below_alloc|apply pw_below_drewN|apply below_drew1)|exact HB.out)⟩⟩
 case round =>
  clear H'
  try clear p2
  obtain ⟨x3_1,x4_1,x5_1,rfl,rfl,HA,HK1,HO_3,HB⟩:=hrel
  cases gk with
  | zero=>exact absurd HA.out (by simp [contangoref10_Pieces.l0])
  | succ k1 =>
   have H:=HA.out
   clear HA
   simp only [contangoref10_Pieces.l0] at H
   by_cases c4:x5_1≤(a0.size:Int)
   ·rw [if_pos c4] at H
    have c4b0:decide (x5_1≤(a0.size:Int))=true:=decide_eq_true c4
    clear c4
    by_cases c5:x5_1=(a0.size:Int)
    ·rw [if_pos c5] at H
     have c5b0:(x5_1 == (a0.size:Int))=true:=beq_iff_eq.mpr c5
     have c5b1:(x5_1 != (a0.size:Int))=false:=bne_eq_false_iff_eq.mpr c5
     clear c5
     by_cases c6:0≤x4_1
     ·rw [if_pos c6] at H
      have c6b0:=eq_true c6
      have c6b1:decide (0≤x4_1)=true:=decide_eq_true c6
      clear c6
      by_cases c7:x4_1≤x5_1
      ·rw [if_pos c7] at H
       have c7b0:=eq_true c7
       have c7b1:decide (x4_1≤x5_1)=true:=decide_eq_true c7
       clear c7
       have c8b0:=eq_true (of_decide_eq_true (by first|(with_reducible assumption)|assumption):x5_1≤(a0.size:Int))
       by_cases c9:x3_1.length < 8796093022208
       ·rw [if_pos c9] at H
        have LMc9:=Aside0.mk c9
        clear c9
        obtain ⟨y104,hy104⟩:∃ y_:List ByteArray,y_=(x3_1++[a0.extract (x4_1:Int).toNat (x5_1:Int).toNat]):=⟨_,rfl⟩
        replace H:(contangoref10_Pieces.l0 k1 a0 y104 (wrap64 (x5_1+1)) (wrap64 (x5_1+1)))=some r:=by first|(rw [hy104];with_reducible exact H)|(have H2_:=(Option.bind_some _ _).symm.trans H;rw [hy104];with_reducible exact H2_)|(have H2_:=(Option.bind_some _ _).symm.trans H;with_reducible exact H2_)|with_reducible exact H|(rw [hy104];exact H)|exact H
        have Ny104:=Aside0.mk hy104
        clear hy104
        have H':=Aside0.mk H
        clear H
        go_wp2_with (first|((with_reducible refine gate_builtin (b:=.append) (xs:=#[.tmp 23,.tmp 28]) rfl ?_);at_builtin;refine Kd.R_append Kd.string (w0:=w) w.heap.size rfl (.tmp 23) (.tmp 28) 53 9 (.string ⟨#[]⟩) 16 rfl Tryd.underlying53 info9 rfl (by decide) (by omega) u3 x3_1 (a0.extract (x4_1:Int).toNat (x5_1:Int).toNat) [.string (a0.extract (x4_1:Int).toNat (x5_1:Int).toNat)] (fun _=>True) (fun _=>False) rfl rfl ?aP (fun _ hk=>hk.elim) ?aF ?aO ?aB ?aS ?aL ?_;(case aP=>exact rfl);(case aB=>exact (by repeat (first|(with_reducible first|exact HB.out|apply below_alloc|apply pw_below_drewN|apply below_drew1)|exact HB.out)));(case aF=>exact (fun _ _=>trivial));(case aO=>exact (by (with_reducible repeat (first|apply Kd.R_alloc|apply Kd.R_drewN|apply Kd.R_drew));exact HO_3.out));(case aS=>exact (below_size (by repeat (first|(with_reducible first|exact HB.out|apply below_alloc|apply pw_below_drewN|apply below_drew1)|exact HB.out))));(case aL=>have:=LMc9.out;omega);intro v105 w10 ho hb hg hat;rw [← Ny104.out] at ho;have n0_:=Aside0.mk (hb);have n1_:=Aside0.mk (ho);clear HB;clear HO_3;have HB:=n0_;have HO106:=n1_;clear n0_ n1_;clear ho hb hg hat))
        go_roundg k1
        case measure=>have:=HK1.out;omega
        case rel=>exact ⟨(y104),(wrap64 (x5_1+1)),(wrap64 (x5_1+1)),(by first|rfl|(simp;done)|(simp [*];done)),(by first|rfl|(simp;done)|(simp [*];done)),H',⟨by have:=HK1.out;omega⟩,⟨by (with_reducible repeat (first|apply Kd.R_alloc|apply Kd.R_drewN|apply Kd.R_drew));exact HO106.out⟩,⟨by repeat (first|(with_reducible first|exact HB.out|apply below_alloc|apply pw_below_drewN|apply below_drew1)|exact HB.out)⟩⟩
       ·rw [if_neg c9] at H
        exact absurd H (by simp)
      ·rw [if_neg c7] at H
       exact absurd H (by simp)
     ·rw [if_neg c6] at H
      exact absurd H (by simp)
    ·rw [if_neg c5] at H
     have c5b0:(x5_1 == (a0.size:Int))=false:=beq_eq_false_iff_ne.mpr c5
     have c5b1:(x5_1 != (a0.size:Int))=true:=bne_iff_ne.mpr c5
     by_cases c11:0≤x5_1
     ·rw [if_pos c11] at H
      have c11b0:decide (0≤x5_1)=true:=decide_eq_true c11
      clear c11
      by_cases c12:x5_1 < (a0.size:Int)
      ·rw [if_pos c12] at H
       have c12b0:decide (x5_1 < (a0.size:Int))=true:=decide_eq_true c12
       clear c12
       by_cases c14:(bt a0 x5_1)=46
       ·rw [if_pos c14] at H
        have c14b0:((bt a0 x5_1) == 46)=true:=beq_iff_eq.mpr c14
        have c14b1:((bt a0 x5_1) != 46)=false:=bne_eq_false_iff_eq.mpr c14
        clear c14
        by_cases c15:0≤x4_1
        ·rw [if_pos c15] at H
         have c15b0:=eq_true c15
         have c15b1:decide (0≤x4_1)=true:=decide_eq_true c15
         clear c15
         by_cases c16:x4_1≤x5_1
         ·rw [if_pos c16] at H
          have c16b0:=eq_true c16
          have c16b1:decide (x4_1≤x5_1)=true:=decide_eq_true c16
          clear c16
          have c17b0:=eq_true (of_decide_eq_true (by first|(with_reducible assumption)|assumption):x5_1≤(a0.size:Int))
          by_cases c18:x3_1.length < 8796093022208
          ·rw [if_pos c18] at H
           have LMc18:=Aside0.mk c18
           clear c18
           obtain ⟨y107,hy107⟩:∃ y_:List ByteArray,y_=(x3_1++[a0.extract (x4_1:Int).toNat (x5_1:Int).toNat]):=⟨_,rfl⟩
           replace H:(contangoref10_Pieces.l0 k1 a0 y107 (wrap64 (x5_1+1)) (wrap64 (x5_1+1)))=some r:=by first|(rw [hy107];with_reducible exact H)|(have H2_:=(Option.bind_some _ _).symm.trans H;rw [hy107];with_reducible exact H2_)|(have H2_:=(Option.bind_some _ _).symm.trans H;with_reducible exact H2_)|with_reducible exact H|(rw [hy107];exact H)|exact H
           have Ny107:=Aside0.mk hy107
           clear hy107
           have H':=Aside0.mk H
           clear H
           have p13:0≤(x5_1:Int):=of_decide_eq_true (by first|(with_reducible assumption)|assumption)
           have q13:x5_1 < (a0.size:Int):=of_decide_eq_true (by first|(with_reducible assumption)|assumption)
           have hx13:=bt_at a0 x5_1
           replace p13:=eq_true p13
           replace q13:=eq_true q13
           go_wp2_with (first|((with_reducible refine gate_builtin (b:=.append) (xs:=#[.tmp 23,.tmp 28]) rfl ?_);at_builtin;refine Kd.R_append Kd.string (w0:=w) w.heap.size rfl (.tmp 23) (.tmp 28) 53 9 (.string ⟨#[]⟩) 16 rfl Tryd.underlying53 info9 rfl (by decide) (by omega) u3 x3_1 (a0.extract (x4_1:Int).toNat (x5_1:Int).toNat) [.string (a0.extract (x4_1:Int).toNat (x5_1:Int).toNat)] (fun _=>True) (fun _=>False) rfl rfl ?aP (fun _ hk=>hk.elim) ?aF ?aO ?aB ?aS ?aL ?_;(case aP=>exact rfl);(case aB=>exact (by repeat (first|(with_reducible first|exact HB.out|apply below_alloc|apply pw_below_drewN|apply below_drew1)|exact HB.out)));(case aF=>exact (fun _ _=>trivial));(case aO=>exact (by (with_reducible repeat (first|apply Kd.R_alloc|apply Kd.R_drewN|apply Kd.R_drew));exact HO_3.out));(case aS=>exact (below_size (by repeat (first|(with_reducible first|exact HB.out|apply below_alloc|apply pw_below_drewN|apply below_drew1)|exact HB.out))));(case aL=>have:=LMc18.out;omega);intro v108 w19 ho hb hg hat;rw [← Ny107.out] at ho;have n0_:=Aside0.mk (hb);have n1_:=Aside0.mk (ho);clear HB;clear HO_3;have HB:=n0_;have HO109:=n1_;clear n0_ n1_;clear ho hb hg hat))
           go_roundg k1
           case measure=>have:=HK1.out;omega
           case rel=>exact ⟨(y107),(wrap64 (x5_1+1)),(wrap64 (x5_1+1)),(by first|rfl|(simp;done)|(simp [*];done)),(by first|rfl|(simp;done)|(simp [*];done)),H',⟨by have:=HK1.out;omega⟩,⟨by (with_reducible repeat (first|apply Kd.R_alloc|apply Kd.R_drewN|apply Kd.R_drew));exact HO109.out⟩,⟨by repeat (first|(with_reducible first|exact HB.out|apply below_alloc|apply pw_below_drewN|apply below_drew1)|exact HB.out)⟩⟩
          ·rw [if_neg c18] at H
           exact absurd H (by simp)
         ·rw [if_neg c16] at H
          exact absurd H (by simp)
        ·rw [if_neg c15] at H
         exact absurd H (by simp)
       ·rw [if_neg c14] at H
        have c14b0:((bt a0 x5_1) == 46)=false:=beq_eq_false_iff_ne.mpr c14
        have c14b1:((bt a0 x5_1) != 46)=true:=bne_iff_ne.mpr c14
        have H':=Aside0.mk H
        clear H
        have p13:0≤(x5_1:Int):=of_decide_eq_true (by first|(with_reducible assumption)|assumption)
        have q13:x5_1 < (a0.size:Int):=of_decide_eq_true (by first|(with_reducible assumption)|assumption)
        have hx13:=bt_at a0 x5_1
        replace p13:=eq_true p13
        replace q13:=eq_true q13
        go_wp2
        go_roundg k1
        case measure=>have:=HK1.out;omega
        case rel=>exact ⟨(x3_1),(x4_1),(wrap64 (x5_1+1)),(by first|rfl|(simp;done)|(simp [*];done)),(by first|rfl|(simp;done)|(simp [*];done)),H',⟨by have:=HK1.out;omega⟩,⟨by (with_reducible repeat (first|apply Kd.R_alloc|apply Kd.R_drewN|apply Kd.R_drew));exact HO_3.out⟩,⟨by repeat (first|(with_reducible first|exact HB.out|apply below_alloc|apply pw_below_drewN|apply below_drew1)|exact HB.out)⟩⟩
      ·rw [if_neg c12] at H
       exact absurd H (by simp)
     ·rw [if_neg c11] at H
      exact absurd H (by simp)
   ·rw [if_neg c4] at H
    have c4b0:decide (x5_1≤(a0.size:Int))=false:=decide_eq_false c4
    clear c4
    obtain rfl:=Option.some.inj H
    go_wp2
    go_ret
    exact ⟨_,by first|rfl|(simp [errW_none,errW_some]<;>rfl)|(simp [*,errW_none,errW_some]<;>rfl),by (with_reducible repeat (first|apply Kd.R_alloc|apply Kd.R_drewN|apply Kd.R_drew));exact HO_3.out,by repeat (first|(with_reducible first|exact HB.out|apply below_alloc|apply pw_below_drewN|apply below_drew1)|exact HB.out)⟩
end Go.Proofs.YthpmmofleddpnaaDoor.X
end
section
namespace Go.Proofs.YthpmmofleddpnaaDoor.X
open Go.RowKit Go.Proofs.YthpmmofleddpnaaDoorW.PrintWords Go.Proofs.YthpmmofleddpnaaDoorW.PrintLast Go.Proofs.YthpmmofleddpnaaDoorW.PrintMore
attribute [local go_sem] max2_int min2_int max_two min_two max_three min_three max_four min_four
set_option linter.unusedVariables false
set_option linter.unusedSimpArgs false
mutual
def contangoref10_Parse.j0:Nat→List ByteArray→Bool→Option (ByteArray × Int × Int × Int × Int)
 | 0,_,_=>none
 | k+1,x4,x43=>if x43=true then (some ((⟨#[]⟩:ByteArray),0,0,0,5)) else (if 2 < (x4.length:Int) then (if 0≤1 then (if 1≤((rdOf ByteArray.empty x4 2).size:Int) then (if ((rdOf ByteArray.empty x4 2).extract 0 1).toList=([99]:List UInt8) then (contangoref10_Parse.j1 k x4 ((rdOf ByteArray.empty x4 2).extract 0 1) false) else (if ((rdOf ByteArray.empty x4 2).extract 0 1).toList=([112]:List UInt8) then (contangoref10_Parse.j1 k x4 ((rdOf ByteArray.empty x4 2).extract 0 1) false) else (contangoref10_Parse.j1 k x4 ((rdOf ByteArray.empty x4 2).extract 0 1) ((rdOf ByteArray.empty x4 2).toList != ([102]:List UInt8))))) else (none)) else (none)) else (none))
def contangoref10_Parse.j1:Nat→List ByteArray→ByteArray→Bool→Option (ByteArray × Int × Int × Int × Int)
 | 0,_,_,_=>none
 | k+1,x4,x5,x60=>if x60=true then (some ((⟨#[]⟩:ByteArray),0,0,0,5)) else (if 1 < (x4.length:Int) then ((contangoref10_number.f k (rdOf ByteArray.empty x4 1)).bind fun t114=>((contangoref05_Of.f k (wrap64 (Int.tdiv t114 10000)) (Int.tmod (wrap64 (Int.tdiv t114 100)) 100) (Int.tmod t114 100)).bind fun bt115=>(if bt115.2=0 then (if x5.toList=([102]:List UInt8) then (if 0 < (x4.length:Int) then (some (rdOf ByteArray.empty x4 0,1,bt115.1,0,0)) else (none)) else (if 2 < (x4.length:Int) then (if 1≤((rdOf ByteArray.empty x4 2).size:Int) then ((contangoref03_Int.f k ((rdOf ByteArray.empty x4 2).extract 1 (rdOf ByteArray.empty x4 2).size)).bind fun bt119=>(if bt119.2=0 then (if bt119.1 < (-16777216) then (contangoref10_Parse.j2 k x4 x5 bt115.1 bt119.1 true) else (contangoref10_Parse.j2 k x4 x5 bt115.1 bt119.1 (decide (bt119.1 > 16777216)))) else (some ((⟨#[]⟩:ByteArray),0,0,0,bt119.2)))) else (none)) else (none))) else (some ((⟨#[]⟩:ByteArray),0,0,0,15))))) else (none))
def contangoref10_Parse.j2:Nat→List ByteArray→ByteArray→Int→Int→Bool→Option (ByteArray × Int × Int × Int × Int)
 | 0,_,_,_,_,_=>none
 | k+1,x4,x5,x7,x9,x104=>if x104=true then (some ((⟨#[]⟩:ByteArray),0,0,0,17)) else (if x5.toList=([99]:List UInt8) then (if 0 < (x4.length:Int) then (some (rdOf ByteArray.empty x4 0,2,x7,x9,0)) else (none)) else (if 0 < (x4.length:Int) then (some (rdOf ByteArray.empty x4 0,3,x7,x9,0)) else (none)))
end
def contangoref10_Parse.f (k:Nat) (a0:ByteArray):Option (ByteArray × Int × Int × Int × Int):=(contangoref10_Pieces.f k a0).bind fun t102=>(if (t102.length:Int)=3 then (if 0 < (t102.length:Int) then ((contangoref03_Name.f k (rdOf ByteArray.empty t102 0)).bind fun t106=>(if t106=true then (if 1 < (t102.length:Int) then (if ((rdOf ByteArray.empty t102 1).size:Int)=8 then ((contangoref10_number.f k (rdOf ByteArray.empty t102 1)).bind fun t109=>(if t109 < 0 then (contangoref10_Parse.j0 k t102 true) else (if 2 < (t102.length:Int) then (contangoref10_Parse.j0 k t102 (decide (((rdOf ByteArray.empty t102 2).size:Int) < 1))) else (none)))) else (contangoref10_Parse.j0 k t102 true)) else (none)) else (contangoref10_Parse.j0 k t102 true))) else (none)) else (contangoref10_Parse.j0 k t102 true))
set_option maxHeartbeats 8000000 in
set_option maxRecDepth 100000 in
theorem contangoref10_Parse.calls (k:Nat) (a0:ByteArray) (r1:ByteArray) (r2:Int) (r3:Int) (r4:Int) (r5:Int) (w:World) (h:contangoref10_Parse.f k a0=some (r1,r2,r3,r4,r5)) :
  Calls Tryd.prog 32 #[.string a0] w fun e w'=>e=.returned (.tuple #[.agg #[.string r1,.int .i64 r2,.int .i64 r3,.int .i64 r4],.int .i64 r5])∧Below w.heap.size w w':=by
 have hu23:=Tryd.underlying23
 have HB:=Aside0.mk (Below.refl w.heap.size w)
 have H:((contangoref10_Pieces.f k a0).bind fun t102=>(if (t102.length:Int)=3 then (if 0 < (t102.length:Int) then ((contangoref03_Name.f k (rdOf ByteArray.empty t102 0)).bind fun t106=>(if t106=true then (if 1 < (t102.length:Int) then (if ((rdOf ByteArray.empty t102 1).size:Int)=8 then ((contangoref10_number.f k (rdOf ByteArray.empty t102 1)).bind fun t109=>(if t109 < 0 then (contangoref10_Parse.j0 k t102 true) else (if 2 < (t102.length:Int) then (contangoref10_Parse.j0 k t102 (decide (((rdOf ByteArray.empty t102 2).size:Int) < 1))) else (none)))) else (contangoref10_Parse.j0 k t102 true)) else (none)) else (contangoref10_Parse.j0 k t102 true))) else (none)) else (contangoref10_Parse.j0 k t102 true)))=some (r1,r2,r3,r4,r5):=h
 clear h
 replace H:=Option.bind_eq_some_iff.mp H
 obtain ⟨t102,A20,H⟩:=H
 replace H:(if (t102.length:Int)=3 then (if 0 < (t102.length:Int) then ((contangoref03_Name.f k (rdOf ByteArray.empty t102 0)).bind fun t106=>(if t106=true then (if 1 < (t102.length:Int) then (if ((rdOf ByteArray.empty t102 1).size:Int)=8 then ((contangoref10_number.f k (rdOf ByteArray.empty t102 1)).bind fun t109=>(if t109 < 0 then (contangoref10_Parse.j0 k t102 true) else (if 2 < (t102.length:Int) then (contangoref10_Parse.j0 k t102 (decide (((rdOf ByteArray.empty t102 2).size:Int) < 1))) else (none)))) else (contangoref10_Parse.j0 k t102 true)) else (none)) else (contangoref10_Parse.j0 k t102 true))) else (none)) else (contangoref10_Parse.j0 k t102 true))=some (r1,r2,r3,r4,r5):=H
 have A2:=Aside0.mk A20
 clear A20
 have HC3:=Aside0.mk H
 clear H
 go_enter Tryd.func32,Tryd.ntmps32
 go_upto_region 2 with (first|((with_reducible refine gate_dst (N:=2) rfl ?_);(try (refine gate_guard (by rfl) ?_;dsimp only));refine box_event ?hg (N:=2) ?hd (cs:=#[.string (⟨#[]⟩:ByteArray),.int .i64 0,.int .i64 0,.int .i64 0]) (t:=23) ?hr ?_;(case hd=>rfl);(case hg=>rfl);(case hr=>first|(go_simp;done)|(go_simp;rfl));intro gb101 hg w4 hbox hb;have n0_:=Aside0.mk (below_step (by repeat (first|(with_reducible first|exact HB.out|apply below_alloc|apply pw_below_drewN|apply below_drew1)|exact HB.out)) hb);have n1_:=Aside0.mk (hbox);have n2_:=Aside0.mk ((by rw [hg];exact (below_size (by repeat (first|(with_reducible first|exact HB.out|apply below_alloc|apply pw_below_drewN|apply below_drew1)|exact HB.out))):w.heap.size≤gb101));have n3_:=Aside0.mk ((by rw [hg];exact (below_size (by repeat (first|(with_reducible first|exact HB.out|apply below_alloc|apply pw_below_drewN|apply below_drew1)|exact HB.out))):w.heap.size≤gb101));clear HB;have HB:=n0_;have BK101:=n1_;have GW101:=n2_;have GE101:=n3_;clear n0_ n1_ n2_ n3_;clear hb hbox hg)|((with_reducible refine gate_callee (f:=53) rfl ?_);refine goesL_ (some 12) rfl rfl Tryd.func53 (by kernel_rfl) rfl #[.string a0] rfl (by (try simp only [List.map_toArray,List.map_cons,List.map_nil]);first|done|rfl|(simp only [List.length_drop,List.length_take];rfl)) ?_;(with_reducible refine (contangoref10_Pieces.calls k a0 t102 _ A2.out).mono ?_);rintro e w5 ⟨v103,rfl,ho0,hb⟩;refine ⟨_,rfl,?_⟩;have n0_:=Aside0.mk (Kd.R_lower ho0 (below_size (by repeat (first|(with_reducible first|exact HB.out|apply below_alloc|apply pw_below_drewN|apply below_drew1|refine below_set ?_ GE101.out)|exact HB.out))));have n1_:=Aside0.mk (blk_below (g:=gb101) (o:=.cells #[.string (⟨#[]⟩:ByteArray),.int .i64 0,.int .i64 0,.int .i64 0] 23 (0,0)) (by (with_reducible repeat (first|refine blk_drewN ?_ _|refine blk_drew ?_|refine blk_alloc ?_ _));exact BK101.out) hb);have n2_:=Aside0.mk (below_step (by repeat (first|(with_reducible first|exact HB.out|apply below_alloc|apply pw_below_drewN|apply below_drew1|refine below_set ?_ GE101.out)|exact HB.out)) hb);clear BK101;clear HB;have HO104:=n0_;have BK101:=n1_;have HB:=n2_;clear n0_ n1_ n2_;(try clear hb);(try clear hb2);(try clear hk);(try clear hi);(try clear ho0)))
 (try simp only [Act.put,List.setIfInBounds_toArray,List.set_cons_zero,List.set_cons_succ])
 go_cut [43] (fun v43 wc=>∃ (kq:Nat) (x43_2:Bool),v43=.bool x43_2∧Aside0 (contangoref10_Parse.j0 kq t102 x43_2=some (r1,r2,r3,r4,r5))∧Aside0 (kq≤k)∧Aside0 (Kd.R Kd.string 9 wc w.heap.size (fun _=>True) v103 t102)∧Aside0 (wc.heap[gb101]? = some (.cells #[.string (⟨#[]⟩:ByteArray),.int .i64 0,.int .i64 0,.int .i64 0] 23 (0,0)))∧Aside0 (Below w.heap.size w wc))
 case first =>
  have H:=HC3.out
  clear HC3
  by_cases c6:(t102.length:Int)=3
  ·rw [if_pos c6] at H
   have c6b0:((t102.length:Int) == 3)=true:=beq_iff_eq.mpr c6
   have c6b1:((t102.length:Int) != 3)=false:=bne_eq_false_iff_eq.mpr c6
   clear c6
   (first|rw [c6b0]|(simp only [i64_w,i32_w];rw [c6b0])|skip)
   by_cases c7:0 < (t102.length:Int)
   ·rw [if_pos c7] at H
    have c7b0:decide (0 < (t102.length:Int))=true:=decide_eq_true c7
    have c7b1:decide (0 < t102.length)=true:=decide_eq_true (by omega)
    clear c7
    replace H:=Option.bind_eq_some_iff.mp H
    obtain ⟨t106,A80,H⟩:=H
    replace H:(if t106=true then (if 1 < (t102.length:Int) then (if ((rdOf ByteArray.empty t102 1).size:Int)=8 then ((contangoref10_number.f k (rdOf ByteArray.empty t102 1)).bind fun t109=>(if t109 < 0 then (contangoref10_Parse.j0 k t102 true) else (if 2 < (t102.length:Int) then (contangoref10_Parse.j0 k t102 (decide (((rdOf ByteArray.empty t102 2).size:Int) < 1))) else (none)))) else (contangoref10_Parse.j0 k t102 true)) else (none)) else (contangoref10_Parse.j0 k t102 true))=some (r1,r2,r3,r4,r5):=H
    have A8:=Aside0.mk A80
    clear A80
    by_cases c9:t106=true
    ·subst c9
     have H1:(if 1 < (t102.length:Int) then (if ((rdOf ByteArray.empty t102 1).size:Int)=8 then ((contangoref10_number.f k (rdOf ByteArray.empty t102 1)).bind fun t109=>(if t109 < 0 then (contangoref10_Parse.j0 k t102 true) else (if 2 < (t102.length:Int) then (contangoref10_Parse.j0 k t102 (decide (((rdOf ByteArray.empty t102 2).size:Int) < 1))) else (none)))) else (contangoref10_Parse.j0 k t102 true)) else (none))=some (r1,r2,r3,r4,r5):=by rw [if_pos rfl] at H;exact H
     clear H
     have H:=H1
     clear H1
     by_cases c10:1 < (t102.length:Int)
     ·rw [if_pos c10] at H
      have c10b0:decide (1 < (t102.length:Int))=true:=decide_eq_true c10
      have c10b1:decide (1 < t102.length)=true:=decide_eq_true (by omega)
      clear c10
      by_cases c11:((rdOf ByteArray.empty t102 1).size:Int)=8
      ·rw [if_pos c11] at H
       have c11b0:(((rdOf ByteArray.empty t102 1).size:Int) == 8)=true:=beq_iff_eq.mpr c11
       have c11b1:(((rdOf ByteArray.empty t102 1).size:Int) != 8)=false:=bne_eq_false_iff_eq.mpr c11
       clear c11
       replace H:=Option.bind_eq_some_iff.mp H
       obtain ⟨t109,A120,H⟩:=H
       replace H:(if t109 < 0 then (contangoref10_Parse.j0 k t102 true) else (if 2 < (t102.length:Int) then (contangoref10_Parse.j0 k t102 (decide (((rdOf ByteArray.empty t102 2).size:Int) < 1))) else (none)))=some (r1,r2,r3,r4,r5):=H
       have A12:=Aside0.mk A120
       clear A120
       by_cases c13:t109 < 0
       ·rw [if_pos c13] at H
        have c13b0:decide (t109 < 0)=true:=decide_eq_true c13
        clear c13
        have H':=Aside0.mk H
        clear H
        obtain ⟨Ao14,co14,eo14⟩:=Kd.R_slice HO104.out
        subst eo14
        have p105:0≤(0:Int):=(by omega)
        have q105:0 < (t102.length:Int):=of_decide_eq_true (by first|(with_reducible assumption)|assumption)
        obtain ⟨ad105,e105,hx105_0⟩:=Kd.at_string (Kd.R_reads' HO104.out).2.2 0 p105 q105
        cases e105
        have qi105:(0 < t102.length)=True:=eq_true (by omega)
        (try rw [show ((0:Int)).toNat=0 from rfl] at hx105_0)
        (try rw [Addr.add_zero'] at hx105_0)
        replace p105:=eq_true p105
        replace q105:=eq_true q105
        go_wp2_with (first|(go_at_call 31;(with_reducible refine (contangoref03_Name.calls k (rdOf ByteArray.empty t102 0) true _ A8.out).mono ?_);rintro e w' ⟨rfl,⟨nd,rfl⟩⟩;have p107:0≤(1:Int):=(by omega);have q107:1 < (t102.length:Int):=of_decide_eq_true (by first|(with_reducible assumption)|assumption);obtain ⟨ad107,e107,hx107_0⟩:=Kd.at_string (Kd.R_reads' HO104.out).2.2 1 p107 q107;obtain rfl:ad105=ad107:=(by injection e107);(try simp only [show (1:Int).toNat=1 from rfl,Nat.reduceMul,Nat.reduceEqDiff,Go.Addr.add,↓reduceIte] at hx107_0);have qi107:(1 < t102.length)=True:=eq_true (by omega);(try rw [show ((1:Int)).toNat=1 from rfl] at hx107_0);replace p107:=eq_true p107;replace q107:=eq_true q107;have p108:0≤(1:Int):=(by omega);have q108:1 < (t102.length:Int):=of_decide_eq_true (by first|(with_reducible assumption)|assumption);obtain ⟨ad108,e108,hx108_0⟩:=Kd.at_string (Kd.R_reads' HO104.out).2.2 1 p108 q108;obtain rfl:ad105=ad108:=(by injection e108);(try simp only [show (1:Int).toNat=1 from rfl,Nat.reduceMul,Nat.reduceEqDiff,Go.Addr.add,↓reduceIte] at hx108_0);have qi108:(1 < t102.length)=True:=eq_true (by omega);(try rw [show ((1:Int)).toNat=1 from rfl] at hx108_0);replace p108:=eq_true p108;replace q108:=eq_true q108)|(go_at_call 54;(with_reducible refine (contangoref10_number.calls k (rdOf ByteArray.empty t102 1) t109 _ A12.out).mono ?_);rintro e w' ⟨rfl,⟨nd,rfl⟩⟩))
        go_meet
        case rel=>exact ⟨_,(true),(by first|rfl|(simp;done)|(simp [*];done)),H',⟨by first|omega|exact Nat.le_refl _⟩,⟨by (with_reducible repeat (first|apply Kd.R_alloc|apply Kd.R_drewN|apply Kd.R_drew));exact HO104.out⟩,⟨by (with_reducible repeat (first|refine blk_drewN ?_ _|refine blk_drew ?_|refine blk_alloc ?_ _));exact BK101.out⟩,⟨by repeat (first|(with_reducible first|exact HB.out|apply below_alloc|apply pw_below_drewN|apply below_drew1|refine below_set ?_ GE101.out)|exact HB.out)⟩⟩
       ·rw [if_neg c13] at H
        have c13b0:decide (t109 < 0)=false:=decide_eq_false c13
        clear c13
        by_cases c15:2 < (t102.length:Int)
        ·rw [if_pos c15] at H
         have c15b0:decide (2 < (t102.length:Int))=true:=decide_eq_true c15
         have c15b1:decide (2 < t102.length)=true:=decide_eq_true (by omega)
         clear c15
         have H':=Aside0.mk H
         clear H
         obtain ⟨Ao16,co16,eo16⟩:=Kd.R_slice HO104.out
         subst eo16
         have p105:0≤(0:Int):=(by omega)
         have q105:0 < (t102.length:Int):=of_decide_eq_true (by first|(with_reducible assumption)|assumption)
         obtain ⟨ad105,e105,hx105_0⟩:=Kd.at_string (Kd.R_reads' HO104.out).2.2 0 p105 q105
         cases e105
         have qi105:(0 < t102.length)=True:=eq_true (by omega)
         (try rw [show ((0:Int)).toNat=0 from rfl] at hx105_0)
         (try rw [Addr.add_zero'] at hx105_0)
         replace p105:=eq_true p105
         replace q105:=eq_true q105
         go_wp2_with (first|(go_at_call 31;(with_reducible refine (contangoref03_Name.calls k (rdOf ByteArray.empty t102 0) true _ A8.out).mono ?_);rintro e w' ⟨rfl,⟨nd,rfl⟩⟩;have p107:0≤(1:Int):=(by omega);have q107:1 < (t102.length:Int):=of_decide_eq_true (by first|(with_reducible assumption)|assumption);obtain ⟨ad107,e107,hx107_0⟩:=Kd.at_string (Kd.R_reads' HO104.out).2.2 1 p107 q107;obtain rfl:ad105=ad107:=(by injection e107);(try simp only [show (1:Int).toNat=1 from rfl,Nat.reduceMul,Nat.reduceEqDiff,Go.Addr.add,↓reduceIte] at hx107_0);have qi107:(1 < t102.length)=True:=eq_true (by omega);(try rw [show ((1:Int)).toNat=1 from rfl] at hx107_0);replace p107:=eq_true p107;replace q107:=eq_true q107;have p108:0≤(1:Int):=(by omega);have q108:1 < (t102.length:Int):=of_decide_eq_true (by first|(with_reducible assumption)|assumption);obtain ⟨ad108,e108,hx108_0⟩:=Kd.at_string (Kd.R_reads' HO104.out).2.2 1 p108 q108;obtain rfl:ad105=ad108:=(by injection e108);(try simp only [show (1:Int).toNat=1 from rfl,Nat.reduceMul,Nat.reduceEqDiff,Go.Addr.add,↓reduceIte] at hx108_0);have qi108:(1 < t102.length)=True:=eq_true (by omega);(try rw [show ((1:Int)).toNat=1 from rfl] at hx108_0);replace p108:=eq_true p108;replace q108:=eq_true q108)|(go_at_call 54;(with_reducible refine (contangoref10_number.calls k (rdOf ByteArray.empty t102 1) t109 _ A12.out).mono ?_);rintro e w' ⟨rfl,⟨nd,rfl⟩⟩;have p110:0≤(2:Int):=(by omega);have q110:2 < (t102.length:Int):=of_decide_eq_true (by first|(with_reducible assumption)|assumption);obtain ⟨ad110,e110,hx110_0⟩:=Kd.at_string (Kd.R_reads' HO104.out).2.2 2 p110 q110;obtain rfl:ad105=ad110:=(by injection e110);(try simp only [show (2:Int).toNat=2 from rfl,Nat.reduceMul,Nat.reduceEqDiff,Go.Addr.add,↓reduceIte] at hx110_0);have qi110:(2 < t102.length)=True:=eq_true (by omega);(try rw [show ((2:Int)).toNat=2 from rfl] at hx110_0);replace p110:=eq_true p110;replace q110:=eq_true q110))
         go_meet
         case rel=>exact ⟨_,(decide (((rdOf ByteArray.empty t102 2).size:Int) < 1)),(by first|rfl|(simp;done)|(simp [*];done)),H',⟨by first|omega|exact Nat.le_refl _⟩,⟨by (with_reducible repeat (first|apply Kd.R_alloc|apply Kd.R_drewN|apply Kd.R_drew));exact HO104.out⟩,⟨by (with_reducible repeat (first|refine blk_drewN ?_ _|refine blk_drew ?_|refine blk_alloc ?_ _));exact BK101.out⟩,⟨by repeat (first|(with_reducible first|exact HB.out|apply below_alloc|apply pw_below_drewN|apply below_drew1|refine below_set ?_ GE101.out)|exact HB.out)⟩⟩
        ·rw [if_neg c15] at H
         exact absurd H (by simp)
      ·rw [if_neg c11] at H
       have c11b0:(((rdOf ByteArray.empty t102 1).size:Int) == 8)=false:=beq_eq_false_iff_ne.mpr c11
       have c11b1:(((rdOf ByteArray.empty t102 1).size:Int) != 8)=true:=bne_iff_ne.mpr c11
       have H':=Aside0.mk H
       clear H
       obtain ⟨Ao17,co17,eo17⟩:=Kd.R_slice HO104.out
       subst eo17
       have p105:0≤(0:Int):=(by omega)
       have q105:0 < (t102.length:Int):=of_decide_eq_true (by first|(with_reducible assumption)|assumption)
       obtain ⟨ad105,e105,hx105_0⟩:=Kd.at_string (Kd.R_reads' HO104.out).2.2 0 p105 q105
       cases e105
       have qi105:(0 < t102.length)=True:=eq_true (by omega)
       (try rw [show ((0:Int)).toNat=0 from rfl] at hx105_0)
       (try rw [Addr.add_zero'] at hx105_0)
       replace p105:=eq_true p105
       replace q105:=eq_true q105
       go_wp2_with (first|(go_at_call 31;(with_reducible refine (contangoref03_Name.calls k (rdOf ByteArray.empty t102 0) true _ A8.out).mono ?_);rintro e w' ⟨rfl,⟨nd,rfl⟩⟩;have p107:0≤(1:Int):=(by omega);have q107:1 < (t102.length:Int):=of_decide_eq_true (by first|(with_reducible assumption)|assumption);obtain ⟨ad107,e107,hx107_0⟩:=Kd.at_string (Kd.R_reads' HO104.out).2.2 1 p107 q107;obtain rfl:ad105=ad107:=(by injection e107);(try simp only [show (1:Int).toNat=1 from rfl,Nat.reduceMul,Nat.reduceEqDiff,Go.Addr.add,↓reduceIte] at hx107_0);have qi107:(1 < t102.length)=True:=eq_true (by omega);(try rw [show ((1:Int)).toNat=1 from rfl] at hx107_0);replace p107:=eq_true p107;replace q107:=eq_true q107))
       go_meet
       case rel=>exact ⟨_,(true),(by first|rfl|(simp;done)|(simp [*];done)),H',⟨by first|omega|exact Nat.le_refl _⟩,⟨by (with_reducible repeat (first|apply Kd.R_alloc|apply Kd.R_drewN|apply Kd.R_drew));exact HO104.out⟩,⟨by (with_reducible repeat (first|refine blk_drewN ?_ _|refine blk_drew ?_|refine blk_alloc ?_ _));exact BK101.out⟩,⟨by repeat (first|(with_reducible first|exact HB.out|apply below_alloc|apply pw_below_drewN|apply below_drew1|refine below_set ?_ GE101.out)|exact HB.out)⟩⟩
     ·rw [if_neg c10] at H
      exact absurd H (by simp)
    ·replace c9:=Bool.eq_false_iff.mpr c9
     subst c9
     have H1:(contangoref10_Parse.j0 k t102 true)=some (r1,r2,r3,r4,r5):=by rw [if_neg (show ¬ (false=true) by decide)] at H;exact H
     clear H
     have H:=H1
     clear H1
     have H':=Aside0.mk H
     clear H
     obtain ⟨Ao18,co18,eo18⟩:=Kd.R_slice HO104.out
     subst eo18
     have p105:0≤(0:Int):=(by omega)
     have q105:0 < (t102.length:Int):=of_decide_eq_true (by first|(with_reducible assumption)|assumption)
     obtain ⟨ad105,e105,hx105_0⟩:=Kd.at_string (Kd.R_reads' HO104.out).2.2 0 p105 q105
     cases e105
     have qi105:(0 < t102.length)=True:=eq_true (by omega)
     (try rw [show ((0:Int)).toNat=0 from rfl] at hx105_0)
     (try rw [Addr.add_zero'] at hx105_0)
     replace p105:=eq_true p105
     replace q105:=eq_true q105
     go_wp2_with (first|(go_at_call 31;(with_reducible refine (contangoref03_Name.calls k (rdOf ByteArray.empty t102 0) false _ A8.out).mono ?_);rintro e w' ⟨rfl,⟨nd,rfl⟩⟩))
     go_meet
     case rel=>exact ⟨_,(true),(by first|rfl|(simp;done)|(simp [*];done)),H',⟨by first|omega|exact Nat.le_refl _⟩,⟨by (with_reducible repeat (first|apply Kd.R_alloc|apply Kd.R_drewN|apply Kd.R_drew));exact HO104.out⟩,⟨by (with_reducible repeat (first|refine blk_drewN ?_ _|refine blk_drew ?_|refine blk_alloc ?_ _));exact BK101.out⟩,⟨by repeat (first|(with_reducible first|exact HB.out|apply below_alloc|apply pw_below_drewN|apply below_drew1|refine below_set ?_ GE101.out)|exact HB.out)⟩⟩
   ·rw [if_neg c7] at H
    exact absurd H (by simp)
  ·rw [if_neg c6] at H
   have c6b0:((t102.length:Int) == 3)=false:=beq_eq_false_iff_ne.mpr c6
   have c6b1:((t102.length:Int) != 3)=true:=bne_iff_ne.mpr c6
   (first|rw [c6b0]|(simp only [i64_w,i32_w];rw [c6b0])|skip)
   have H':=Aside0.mk H
   clear H
   obtain ⟨Ao19,co19,eo19⟩:=Kd.R_slice HO104.out
   subst eo19
   go_wp2
   go_meet
   case rel=>exact ⟨_,(true),(by first|rfl|(simp;done)|(simp [*];done)),H',⟨by first|omega|exact Nat.le_refl _⟩,⟨by (with_reducible repeat (first|apply Kd.R_alloc|apply Kd.R_drewN|apply Kd.R_drew));exact HO104.out⟩,⟨by (with_reducible repeat (first|refine blk_drewN ?_ _|refine blk_drew ?_|refine blk_alloc ?_ _));exact BK101.out⟩,⟨by repeat (first|(with_reducible first|exact HB.out|apply below_alloc|apply pw_below_drewN|apply below_drew1|refine below_set ?_ GE101.out)|exact HB.out)⟩⟩
 case rest =>
  clear HC3
  try clear c1
  try clear p1
  try clear q1
  try clear hx1
  try clear qi1
  try clear p2
  try clear c3
  try clear c5
  try clear c6
  try clear c6b0
  try clear c6b1
  try clear c7
  try clear c7b0
  try clear c7b1
  try clear c9
  try clear c10
  try clear c10b0
  try clear c10b1
  try clear p10
  try clear q10
  try clear hx10
  try clear qi10
  try clear c11
  try clear c11b0
  try clear c11b1
  try clear p11
  try clear q11
  try clear hx11
  try clear qi11
  try clear c13
  try clear c13b0
  try clear c15
  try clear c15b0
  try clear c15b1
  try clear hx105_0
  try clear hx107_0
  try clear hx108_0
  try clear hx110_0
  try clear p105
  try clear p107
  try clear p108
  try clear p110
  try clear q105
  try clear q107
  try clear q108
  try clear q110
  obtain ⟨kq,x43_2,rfl,HA,HJ2,HO_4,BK101,HB⟩:=hcut
  cases kq with
  | zero=>exact absurd HA.out (by simp [contangoref10_Parse.j0])
  | succ kj2 =>
   have H:=HA.out
   clear HA
   simp only [contangoref10_Parse.j0] at H
   by_cases c20:x43_2=true
   ·subst c20
    have H1:(some ((⟨#[]⟩:ByteArray),0,0,0,5))=some (r1,r2,r3,r4,r5):=by rw [if_pos rfl] at H;exact H
    clear H
    have H:=H1
    clear H1
    simp only [Option.some.injEq,Prod.mk.injEq] at H
    obtain ⟨rfl,rfl,rfl,rfl,rfl⟩:=H
    have hcz21_0:wc.cell? ⟨gb101,0,none⟩=some (.string (⟨#[]⟩:ByteArray)):=(blk_cell BK101.out 0).trans rfl
    have hcz21_1:wc.cell? ⟨gb101,1,none⟩=some (.int .i64 0):=(blk_cell BK101.out 1).trans rfl
    have hcz21_2:wc.cell? ⟨gb101,2,none⟩=some (.int .i64 0):=(blk_cell BK101.out 2).trans rfl
    have hcz21_3:wc.cell? ⟨gb101,3,none⟩=some (.int .i64 0):=(blk_cell BK101.out 3).trans rfl
    have hfz21_0:=blk_frozen BK101.out 0
    have hfz21_1:=blk_frozen BK101.out 1
    have hfz21_2:=blk_frozen BK101.out 2
    have hfz21_3:=blk_frozen BK101.out 3
    go_wp2
    refine bodyPost_ret (results_ct rfl _ _ gb101 23 #[.string (⟨#[]⟩:ByteArray),.int .i64 0,.int .i64 0,.int .i64 0] (0,0) _ rfl (by (with_reducible repeat (first|refine blk_drewN ?_ _|refine blk_drew ?_|refine blk_alloc ?_ _));refine blk_put (cs:=#[.string (⟨#[]⟩:ByteArray),.int .i64 0,.int .i64 0,.int .i64 0]) ?_ 3 _ rfl;(with_reducible repeat (first|refine blk_drewN ?_ _|refine blk_drew ?_|refine blk_alloc ?_ _));refine blk_put (cs:=#[.string (⟨#[]⟩:ByteArray),.int .i64 0,.int .i64 0,.int .i64 0]) ?_ 2 _ rfl;(with_reducible repeat (first|refine blk_drewN ?_ _|refine blk_drew ?_|refine blk_alloc ?_ _));refine blk_put (cs:=#[.string (⟨#[]⟩:ByteArray),.int .i64 0,.int .i64 0,.int .i64 0]) ?_ 1 _ rfl;(with_reducible repeat (first|refine blk_drewN ?_ _|refine blk_drew ?_|refine blk_alloc ?_ _));refine blk_put (cs:=#[.string (⟨#[]⟩:ByteArray),.int .i64 0,.int .i64 0,.int .i64 0]) ?_ 0 _ rfl;(with_reducible repeat (first|refine blk_drewN ?_ _|refine blk_drew ?_|refine blk_alloc ?_ _));exact BK101.out) Tryd.underlying23 rfl (by kernel_rfl)) rfl ?_
    exact ⟨by first|rfl|(simp [errW_none,errW_some]<;>rfl)|(simp [*,errW_none,errW_some]<;>rfl),by repeat (first|(with_reducible first|exact HB.out|apply below_alloc|apply pw_below_drewN|apply below_drew1|refine below_set ?_ GE101.out)|exact HB.out)⟩
   ·replace c20:=Bool.eq_false_iff.mpr c20
    subst c20
    have H1:(if 2 < (t102.length:Int) then (if 0≤1 then (if 1≤((rdOf ByteArray.empty t102 2).size:Int) then (if ((rdOf ByteArray.empty t102 2).extract 0 1).toList=([99]:List UInt8) then (contangoref10_Parse.j1 kj2 t102 ((rdOf ByteArray.empty t102 2).extract 0 1) false) else (if ((rdOf ByteArray.empty t102 2).extract 0 1).toList=([112]:List UInt8) then (contangoref10_Parse.j1 kj2 t102 ((rdOf ByteArray.empty t102 2).extract 0 1) false) else (contangoref10_Parse.j1 kj2 t102 ((rdOf ByteArray.empty t102 2).extract 0 1) ((rdOf ByteArray.empty t102 2).toList != ([102]:List UInt8))))) else (none)) else (none)) else (none))=some (r1,r2,r3,r4,r5):=by rw [if_neg (show ¬ (false=true) by decide)] at H;exact H
    clear H
    have H:=H1
    clear H1
    by_cases c22:2 < (t102.length:Int)
    ·rw [if_pos c22] at H
     have c22b0:decide (2 < (t102.length:Int))=true:=decide_eq_true c22
     have c22b1:decide (2 < t102.length)=true:=decide_eq_true (by omega)
     clear c22
     by_cases c23:0≤1
     ·rw [if_pos c23] at H
      have c23b0:=eq_true c23
      have c23b1:decide (0≤1)=true:=decide_eq_true c23
      clear c23
      by_cases c24:1≤((rdOf ByteArray.empty t102 2).size:Int)
      ·rw [if_pos c24] at H
       have c24b0:=eq_true c24
       have c24b1:decide (1≤((rdOf ByteArray.empty t102 2).size:Int))=true:=decide_eq_true c24
       clear c24
       have HC25:=Aside0.mk H
       clear H
       obtain ⟨Ao26,co26,eo26⟩:=Kd.R_slice HO_4.out
       subst eo26
       have p111:0≤(2:Int):=(by omega)
       have q111:2 < (t102.length:Int):=of_decide_eq_true (by first|(with_reducible assumption)|assumption)
       obtain ⟨ad111,e111,hx111_0⟩:=Kd.at_string (Kd.R_reads' HO_4.out).2.2 2 p111 q111
       cases e111
       (try simp only [show (2:Int).toNat=2 from rfl,Nat.reduceMul,Nat.reduceEqDiff,Go.Addr.add,↓reduceIte] at hx111_0)
       have qi111:(2 < t102.length)=True:=eq_true (by omega)
       (try rw [show ((2:Int)).toNat=2 from rfl] at hx111_0)
       replace p111:=eq_true p111
       replace q111:=eq_true q111
       go_upto_region 5 with (fail)
       go_cut [60] (fun v60 wc=>∃ (kq:Nat) (x60_24:Bool),v60=.bool x60_24∧Aside0 (contangoref10_Parse.j1 kq t102 ((rdOf ByteArray.empty t102 2).extract 0 1) x60_24=some (r1,r2,r3,r4,r5))∧Aside0 (kq≤kj2)∧Aside0 (Kd.R Kd.string 9 wc w.heap.size (fun _=>True) (.slice (some ad111) t102.length co26) t102)∧Aside0 (wc.heap[gb101]? = some (.cells #[.string (⟨#[]⟩:ByteArray),.int .i64 0,.int .i64 0,.int .i64 0] 23 (0,0)))∧Aside0 (Below w.heap.size w wc))
       case first =>
        have H:=HC25.out
        clear HC25
        by_cases c27:((rdOf ByteArray.empty t102 2).extract 0 1).toList=([99]:List UInt8)
        ·rw [if_pos c27] at H
         have c27b0:(((rdOf ByteArray.empty t102 2).extract 0 1).toList == ([99]:List UInt8))=true:=beq_iff_eq.mpr c27
         have c27b1:(((rdOf ByteArray.empty t102 2).extract 0 1).toList != ([99]:List UInt8))=false:=bne_eq_false_iff_eq.mpr c27
         clear c27
         (first|rw [c27b0]|(simp only [i64_w,i32_w];rw [c27b0])|skip)
         have H':=Aside0.mk H
         clear H
         go_wp2
         go_meet
         case rel=>exact ⟨_,(false),(by first|rfl|(simp;done)|(simp [*];done)),H',⟨by have:=HJ2.out;first|omega|exact Nat.le_refl _⟩,⟨by (with_reducible repeat (first|apply Kd.R_alloc|apply Kd.R_drewN|apply Kd.R_drew));exact HO_4.out⟩,⟨by (with_reducible repeat (first|refine blk_drewN ?_ _|refine blk_drew ?_|refine blk_alloc ?_ _));exact BK101.out⟩,⟨by repeat (first|(with_reducible first|exact HB.out|apply below_alloc|apply pw_below_drewN|apply below_drew1|refine below_set ?_ GE101.out)|exact HB.out)⟩⟩
        ·rw [if_neg c27] at H
         have c27b0:(((rdOf ByteArray.empty t102 2).extract 0 1).toList == ([99]:List UInt8))=false:=beq_eq_false_iff_ne.mpr c27
         have c27b1:(((rdOf ByteArray.empty t102 2).extract 0 1).toList != ([99]:List UInt8))=true:=bne_iff_ne.mpr c27
         (first|rw [c27b0]|(simp only [i64_w,i32_w];rw [c27b0])|skip)
         by_cases c28:((rdOf ByteArray.empty t102 2).extract 0 1).toList=([112]:List UInt8)
         ·rw [if_pos c28] at H
          have c28b0:(((rdOf ByteArray.empty t102 2).extract 0 1).toList == ([112]:List UInt8))=true:=beq_iff_eq.mpr c28
          have c28b1:(((rdOf ByteArray.empty t102 2).extract 0 1).toList != ([112]:List UInt8))=false:=bne_eq_false_iff_eq.mpr c28
          clear c28
          have H':=Aside0.mk H
          clear H
          go_wp2
          go_meet
          case rel=>exact ⟨_,(false),(by first|rfl|(simp;done)|(simp [*];done)),H',⟨by have:=HJ2.out;first|omega|exact Nat.le_refl _⟩,⟨by (with_reducible repeat (first|apply Kd.R_alloc|apply Kd.R_drewN|apply Kd.R_drew));exact HO_4.out⟩,⟨by (with_reducible repeat (first|refine blk_drewN ?_ _|refine blk_drew ?_|refine blk_alloc ?_ _));exact BK101.out⟩,⟨by repeat (first|(with_reducible first|exact HB.out|apply below_alloc|apply pw_below_drewN|apply below_drew1|refine below_set ?_ GE101.out)|exact HB.out)⟩⟩
         ·rw [if_neg c28] at H
          have c28b0:(((rdOf ByteArray.empty t102 2).extract 0 1).toList == ([112]:List UInt8))=false:=beq_eq_false_iff_ne.mpr c28
          have c28b1:(((rdOf ByteArray.empty t102 2).extract 0 1).toList != ([112]:List UInt8))=true:=bne_iff_ne.mpr c28
          have H':=Aside0.mk H
          clear H
          have p112:0≤(2:Int):=(by omega)
          have q112:2 < (t102.length:Int):=of_decide_eq_true (by first|(with_reducible assumption)|assumption)
          obtain ⟨ad112,e112,hx112_0⟩:=Kd.at_string (Kd.R_reads' HO_4.out).2.2 2 p112 q112
          obtain rfl:ad111=ad112:=(by injection e112)
          (try simp only [show (2:Int).toNat=2 from rfl,Nat.reduceMul,Nat.reduceEqDiff,Go.Addr.add,↓reduceIte] at hx112_0)
          have qi112:(2 < t102.length)=True:=eq_true (by omega)
          (try rw [show ((2:Int)).toNat=2 from rfl] at hx112_0)
          replace p112:=eq_true p112
          replace q112:=eq_true q112
          go_wp2
          go_meet
          case rel=>exact ⟨_,(((rdOf ByteArray.empty t102 2).toList != ([102]:List UInt8))),(by first|rfl|(simp;done)|(simp [*];done)),H',⟨by have:=HJ2.out;first|omega|exact Nat.le_refl _⟩,⟨by (with_reducible repeat (first|apply Kd.R_alloc|apply Kd.R_drewN|apply Kd.R_drew));exact HO_4.out⟩,⟨by (with_reducible repeat (first|refine blk_drewN ?_ _|refine blk_drew ?_|refine blk_alloc ?_ _));exact BK101.out⟩,⟨by repeat (first|(with_reducible first|exact HB.out|apply below_alloc|apply pw_below_drewN|apply below_drew1|refine below_set ?_ GE101.out)|exact HB.out)⟩⟩
       case rest =>
        clear HC25
        try clear c1
        try clear p1
        try clear q1
        try clear hx1
        try clear qi1
        try clear c2
        try clear p2
        try clear c3
        try clear c5
        try clear c6
        try clear c6b0
        try clear c6b1
        try clear c7
        try clear c7b0
        try clear c7b1
        try clear c9
        try clear c10
        try clear c10b0
        try clear c10b1
        try clear p10
        try clear q10
        try clear hx10
        try clear qi10
        try clear c11
        try clear c11b0
        try clear c11b1
        try clear p11
        try clear q11
        try clear hx11
        try clear qi11
        try clear c13
        try clear c13b0
        try clear c15
        try clear c15b0
        try clear c15b1
        try clear c20
        try clear c22
        try clear c22b0
        try clear c22b1
        try clear c23
        try clear c23b0
        try clear c23b1
        try clear c24
        try clear c24b0
        try clear c24b1
        try clear c27
        try clear c27b0
        try clear c27b1
        try clear c28
        try clear c28b0
        try clear c28b1
        try clear hcz21_0
        try clear hcz21_1
        try clear hcz21_2
        try clear hcz21_3
        try clear hfz21_0
        try clear hfz21_1
        try clear hfz21_2
        try clear hfz21_3
        try clear hx105_0
        try clear hx107_0
        try clear hx108_0
        try clear hx110_0
        try clear hx111_0
        try clear hx112_0
        try clear p1
        try clear p10
        try clear p105
        try clear p107
        try clear p108
        try clear p11
        try clear p110
        try clear p111
        try clear p112
        try clear p2
        try clear q1
        try clear q10
        try clear q105
        try clear q107
        try clear q108
        try clear q11
        try clear q110
        try clear q111
        try clear q112
        obtain ⟨kq,x60_24,rfl,HA,HJ24,HO_4,BK101,HB⟩:=hcut
        cases kq with
        | zero=>exact absurd HA.out (by simp [contangoref10_Parse.j1])
        | succ kj24 =>
         have H:=HA.out
         clear HA
         simp only [contangoref10_Parse.j1] at H
         by_cases c29:x60_24=true
         ·subst c29
          have H1:(some ((⟨#[]⟩:ByteArray),0,0,0,5))=some (r1,r2,r3,r4,r5):=by rw [if_pos rfl] at H;exact H
          clear H
          have H:=H1
          clear H1
          simp only [Option.some.injEq,Prod.mk.injEq] at H
          obtain ⟨rfl,rfl,rfl,rfl,rfl⟩:=H
          have hcz30_0:wc.cell? ⟨gb101,0,none⟩=some (.string (⟨#[]⟩:ByteArray)):=(blk_cell BK101.out 0).trans rfl
          have hcz30_1:wc.cell? ⟨gb101,1,none⟩=some (.int .i64 0):=(blk_cell BK101.out 1).trans rfl
          have hcz30_2:wc.cell? ⟨gb101,2,none⟩=some (.int .i64 0):=(blk_cell BK101.out 2).trans rfl
          have hcz30_3:wc.cell? ⟨gb101,3,none⟩=some (.int .i64 0):=(blk_cell BK101.out 3).trans rfl
          have hfz30_0:=blk_frozen BK101.out 0
          have hfz30_1:=blk_frozen BK101.out 1
          have hfz30_2:=blk_frozen BK101.out 2
          have hfz30_3:=blk_frozen BK101.out 3
          go_wp2
          refine bodyPost_ret (results_ct rfl _ _ gb101 23 #[.string (⟨#[]⟩:ByteArray),.int .i64 0,.int .i64 0,.int .i64 0] (0,0) _ rfl (by (with_reducible repeat (first|refine blk_drewN ?_ _|refine blk_drew ?_|refine blk_alloc ?_ _));refine blk_put (cs:=#[.string (⟨#[]⟩:ByteArray),.int .i64 0,.int .i64 0,.int .i64 0]) ?_ 3 _ rfl;(with_reducible repeat (first|refine blk_drewN ?_ _|refine blk_drew ?_|refine blk_alloc ?_ _));refine blk_put (cs:=#[.string (⟨#[]⟩:ByteArray),.int .i64 0,.int .i64 0,.int .i64 0]) ?_ 2 _ rfl;(with_reducible repeat (first|refine blk_drewN ?_ _|refine blk_drew ?_|refine blk_alloc ?_ _));refine blk_put (cs:=#[.string (⟨#[]⟩:ByteArray),.int .i64 0,.int .i64 0,.int .i64 0]) ?_ 1 _ rfl;(with_reducible repeat (first|refine blk_drewN ?_ _|refine blk_drew ?_|refine blk_alloc ?_ _));refine blk_put (cs:=#[.string (⟨#[]⟩:ByteArray),.int .i64 0,.int .i64 0,.int .i64 0]) ?_ 0 _ rfl;(with_reducible repeat (first|refine blk_drewN ?_ _|refine blk_drew ?_|refine blk_alloc ?_ _));exact BK101.out) Tryd.underlying23 rfl (by kernel_rfl)) rfl ?_
          exact ⟨by first|rfl|(simp [errW_none,errW_some]<;>rfl)|(simp [*,errW_none,errW_some]<;>rfl),by repeat (first|(with_reducible first|exact HB.out|apply below_alloc|apply pw_below_drewN|apply below_drew1|refine below_set ?_ GE101.out)|exact HB.out)⟩
         ·replace c29:=Bool.eq_false_iff.mpr c29
          subst c29
          have H1:(if 1 < (t102.length:Int) then ((contangoref10_number.f kj24 (rdOf ByteArray.empty t102 1)).bind fun t114=>((contangoref05_Of.f kj24 (wrap64 (Int.tdiv t114 10000)) (Int.tmod (wrap64 (Int.tdiv t114 100)) 100) (Int.tmod t114 100)).bind fun bt115=>(if bt115.2=0 then (if ((rdOf ByteArray.empty t102 2).extract 0 1).toList=([102]:List UInt8) then (if 0 < (t102.length:Int) then (some (rdOf ByteArray.empty t102 0,1,bt115.1,0,0)) else (none)) else (if 2 < (t102.length:Int) then (if 1≤((rdOf ByteArray.empty t102 2).size:Int) then ((contangoref03_Int.f kj24 ((rdOf ByteArray.empty t102 2).extract 1 (rdOf ByteArray.empty t102 2).size)).bind fun bt119=>(if bt119.2=0 then (if bt119.1 < (-16777216) then (contangoref10_Parse.j2 kj24 t102 ((rdOf ByteArray.empty t102 2).extract 0 1) bt115.1 bt119.1 true) else (contangoref10_Parse.j2 kj24 t102 ((rdOf ByteArray.empty t102 2).extract 0 1) bt115.1 bt119.1 (decide (bt119.1 > 16777216)))) else (some ((⟨#[]⟩:ByteArray),0,0,0,bt119.2)))) else (none)) else (none))) else (some ((⟨#[]⟩:ByteArray),0,0,0,15))))) else (none))=some (r1,r2,r3,r4,r5):=by rw [if_neg (show ¬ (false=true) by decide)] at H;exact H
          clear H
          have H:=H1
          clear H1
          by_cases c31:1 < (t102.length:Int)
          ·rw [if_pos c31] at H
           have c31b0:decide (1 < (t102.length:Int))=true:=decide_eq_true c31
           have c31b1:decide (1 < t102.length)=true:=decide_eq_true (by omega)
           clear c31
           replace H:=Option.bind_eq_some_iff.mp H
           obtain ⟨t114,A320,H⟩:=H
           replace H:((contangoref05_Of.f kj24 (wrap64 (Int.tdiv t114 10000)) (Int.tmod (wrap64 (Int.tdiv t114 100)) 100) (Int.tmod t114 100)).bind fun bt115=>(if bt115.2=0 then (if ((rdOf ByteArray.empty t102 2).extract 0 1).toList=([102]:List UInt8) then (if 0 < (t102.length:Int) then (some (rdOf ByteArray.empty t102 0,1,bt115.1,0,0)) else (none)) else (if 2 < (t102.length:Int) then (if 1≤((rdOf ByteArray.empty t102 2).size:Int) then ((contangoref03_Int.f kj24 ((rdOf ByteArray.empty t102 2).extract 1 (rdOf ByteArray.empty t102 2).size)).bind fun bt119=>(if bt119.2=0 then (if bt119.1 < (-16777216) then (contangoref10_Parse.j2 kj24 t102 ((rdOf ByteArray.empty t102 2).extract 0 1) bt115.1 bt119.1 true) else (contangoref10_Parse.j2 kj24 t102 ((rdOf ByteArray.empty t102 2).extract 0 1) bt115.1 bt119.1 (decide (bt119.1 > 16777216)))) else (some ((⟨#[]⟩:ByteArray),0,0,0,bt119.2)))) else (none)) else (none))) else (some ((⟨#[]⟩:ByteArray),0,0,0,15))))=some (r1,r2,r3,r4,r5):=H
           have A32:=Aside0.mk A320
           clear A320
           replace H:=Option.bind_eq_some_iff.mp H
           obtain ⟨⟨t115,t116⟩,A330,H⟩:=H
           replace H:(if t116=0 then (if ((rdOf ByteArray.empty t102 2).extract 0 1).toList=([102]:List UInt8) then (if 0 < (t102.length:Int) then (some (rdOf ByteArray.empty t102 0,1,t115,0,0)) else (none)) else (if 2 < (t102.length:Int) then (if 1≤((rdOf ByteArray.empty t102 2).size:Int) then ((contangoref03_Int.f kj24 ((rdOf ByteArray.empty t102 2).extract 1 (rdOf ByteArray.empty t102 2).size)).bind fun bt119=>(if bt119.2=0 then (if bt119.1 < (-16777216) then (contangoref10_Parse.j2 kj24 t102 ((rdOf ByteArray.empty t102 2).extract 0 1) t115 bt119.1 true) else (contangoref10_Parse.j2 kj24 t102 ((rdOf ByteArray.empty t102 2).extract 0 1) t115 bt119.1 (decide (bt119.1 > 16777216)))) else (some ((⟨#[]⟩:ByteArray),0,0,0,bt119.2)))) else (none)) else (none))) else (some ((⟨#[]⟩:ByteArray),0,0,0,15)))=some (r1,r2,r3,r4,r5):=H
           have A33:=Aside0.mk A330
           clear A330
           by_cases c34:t116=0
           ·rw [if_pos c34] at H
            have c34b0:(t116 == 0)=true:=beq_iff_eq.mpr c34
            have c34b1:(t116 != 0)=false:=bne_eq_false_iff_eq.mpr c34
            clear c34
            by_cases c35:((rdOf ByteArray.empty t102 2).extract 0 1).toList=([102]:List UInt8)
            ·rw [if_pos c35] at H
             have c35b0:(((rdOf ByteArray.empty t102 2).extract 0 1).toList == ([102]:List UInt8))=true:=beq_iff_eq.mpr c35
             have c35b1:(((rdOf ByteArray.empty t102 2).extract 0 1).toList != ([102]:List UInt8))=false:=bne_eq_false_iff_eq.mpr c35
             clear c35
             by_cases c36:0 < (t102.length:Int)
             ·rw [if_pos c36] at H
              have c36b0:decide (0 < (t102.length:Int))=true:=decide_eq_true c36
              have c36b1:decide (0 < t102.length)=true:=decide_eq_true (by omega)
              clear c36
              simp only [Option.some.injEq,Prod.mk.injEq] at H
              obtain ⟨rfl,rfl,rfl,rfl,rfl⟩:=H
              have p113:0≤(1:Int):=(by omega)
              have q113:1 < (t102.length:Int):=of_decide_eq_true (by first|(with_reducible assumption)|assumption)
              obtain ⟨ad113,e113,hx113_0⟩:=Kd.at_string (Kd.R_reads' HO_4.out).2.2 1 p113 q113
              obtain rfl:ad111=ad113:=(by injection e113)
              (try simp only [show (1:Int).toNat=1 from rfl,Nat.reduceMul,Nat.reduceEqDiff,Go.Addr.add,↓reduceIte] at hx113_0)
              have qi113:(1 < t102.length)=True:=eq_true (by omega)
              (try rw [show ((1:Int)).toNat=1 from rfl] at hx113_0)
              replace p113:=eq_true p113
              replace q113:=eq_true q113
              go_wp2_with (first|((with_reducible refine gate_callee (f:=54) rfl ?_);refine goesL_ (some 65) rfl rfl Tryd.func54 (by kernel_rfl) rfl #[.string (rdOf ByteArray.empty t102 1)] rfl (by (try simp only [List.map_toArray,List.map_cons,List.map_nil]);first|done|rfl|(simp only [List.length_drop,List.length_take];rfl)) ?_;(with_reducible refine (contangoref10_number.calls kj24 (rdOf ByteArray.empty t102 1) t114 _ A32.out).mono ?_);rintro e w' ⟨rfl,⟨nd,rfl⟩⟩;refine ⟨_,rfl,?_⟩;(try (rw [drewN_self wc];generalize hq_:World.drewN wc _=wc;have n0_:Aside0 (Kd.R Kd.string 9 wc w.heap.size (fun _=>True) (.slice (some ad111) t102.length co26) t102):=⟨by rw [← hq_];exact (by (with_reducible repeat (first|apply Kd.R_alloc|apply Kd.R_drewN|apply Kd.R_drew));exact HO_4.out)⟩;have n1_:Aside0 (wc.heap[gb101]? = some (.cells #[.string (⟨#[]⟩:ByteArray),.int .i64 0,.int .i64 0,.int .i64 0] 23 (0,0))):=⟨by rw [← hq_];exact (by (with_reducible repeat (first|refine blk_drewN ?_ _|refine blk_drew ?_|refine blk_alloc ?_ _));exact BK101.out)⟩;have n2_:Aside0 (Below w.heap.size w wc):=⟨by rw [← hq_];exact (by repeat (first|(with_reducible first|exact HB.out|apply below_alloc|apply pw_below_drewN|apply below_drew1|refine below_set ?_ GE101.out)|exact HB.out))⟩;clear HO_4 BK101 HB hq_;have HO_4:=n0_;have BK101:=n1_;have HB:=n2_;clear n0_ n1_ n2_)))|((with_reducible refine gate_callee (f:=55) rfl ?_);refine goesL_ (some 74) rfl rfl Tryd.func55 (by kernel_rfl) rfl #[.int .i64 (wrap64 (Int.tdiv t114 10000)),.int .i64 (Int.tmod (wrap64 (Int.tdiv t114 100)) 100),.int .i64 (Int.tmod t114 100)] rfl (by (try simp only [List.map_toArray,List.map_cons,List.map_nil]);first|done|rfl|(simp only [List.length_drop,List.length_take];rfl)) ?_;(with_reducible refine (contangoref05_Of.calls kj24 (wrap64 (Int.tdiv t114 10000)) (Int.tmod (wrap64 (Int.tdiv t114 100)) 100) (Int.tmod t114 100) t115 t116 _ A33.out).mono ?_);rintro e w' ⟨rfl,⟨nd,rfl⟩⟩;refine ⟨_,rfl,?_⟩;(try (rw [drewN_self wc];generalize hq_:World.drewN wc _=wc;have n0_:Aside0 (Kd.R Kd.string 9 wc w.heap.size (fun _=>True) (.slice (some ad111) t102.length co26) t102):=⟨by rw [← hq_];exact (by (with_reducible repeat (first|apply Kd.R_alloc|apply Kd.R_drewN|apply Kd.R_drew));exact HO_4.out)⟩;have n1_:Aside0 (wc.heap[gb101]? = some (.cells #[.string (⟨#[]⟩:ByteArray),.int .i64 0,.int .i64 0,.int .i64 0] 23 (0,0))):=⟨by rw [← hq_];exact (by (with_reducible repeat (first|refine blk_drewN ?_ _|refine blk_drew ?_|refine blk_alloc ?_ _));exact BK101.out)⟩;have n2_:Aside0 (Below w.heap.size w wc):=⟨by rw [← hq_];exact (by repeat (first|(with_reducible first|exact HB.out|apply below_alloc|apply pw_below_drewN|apply below_drew1|refine below_set ?_ GE101.out)|exact HB.out))⟩;clear HO_4 BK101 HB hq_;have HO_4:=n0_;have BK101:=n1_;have HB:=n2_;clear n0_ n1_ n2_));have p117:0≤(0:Int):=(by omega);have q117:0 < (t102.length:Int):=of_decide_eq_true (by first|(with_reducible assumption)|assumption);obtain ⟨ad117,e117,hx117_0⟩:=Kd.at_string (Kd.R_reads' HO_4.out).2.2 0 p117 q117;obtain rfl:ad111=ad117:=(by injection e117);have qi117:(0 < t102.length)=True:=eq_true (by omega);(try rw [show ((0:Int)).toNat=0 from rfl] at hx117_0);(try rw [Addr.add_zero'] at hx117_0);replace p117:=eq_true p117;replace q117:=eq_true q117;have hcz37_0:wc.cell? ⟨gb101,0,none⟩=some (.string (⟨#[]⟩:ByteArray)):=(blk_cell BK101.out 0).trans rfl;have hcz37_1:wc.cell? ⟨gb101,1,none⟩=some (.int .i64 0):=(blk_cell BK101.out 1).trans rfl;have hcz37_2:wc.cell? ⟨gb101,2,none⟩=some (.int .i64 0):=(blk_cell BK101.out 2).trans rfl;have hcz37_3:wc.cell? ⟨gb101,3,none⟩=some (.int .i64 0):=(blk_cell BK101.out 3).trans rfl;have hfz37_0:=blk_frozen BK101.out 0;have hfz37_1:=blk_frozen BK101.out 1;have hfz37_2:=blk_frozen BK101.out 2;have hfz37_3:=blk_frozen BK101.out 3))
              refine bodyPost_ret (results_ct rfl _ _ gb101 23 #[.string (rdOf ByteArray.empty t102 0),.int .i64 1,.int .i64 t115,.int .i64 0] (0,0) _ rfl (by (with_reducible repeat (first|refine blk_drewN ?_ _|refine blk_drew ?_|refine blk_alloc ?_ _));refine blk_put (cs:=#[.string (rdOf ByteArray.empty t102 0),.int .i64 1,.int .i64 t115,.int .i64 0]) ?_ 3 _ rfl;(with_reducible repeat (first|refine blk_drewN ?_ _|refine blk_drew ?_|refine blk_alloc ?_ _));refine blk_put (cs:=#[.string (rdOf ByteArray.empty t102 0),.int .i64 1,.int .i64 0,.int .i64 0]) ?_ 2 _ rfl;(with_reducible repeat (first|refine blk_drewN ?_ _|refine blk_drew ?_|refine blk_alloc ?_ _));refine blk_put (cs:=#[.string (rdOf ByteArray.empty t102 0),.int .i64 0,.int .i64 0,.int .i64 0]) ?_ 1 _ rfl;(with_reducible repeat (first|refine blk_drewN ?_ _|refine blk_drew ?_|refine blk_alloc ?_ _));refine blk_put (cs:=#[.string (⟨#[]⟩:ByteArray),.int .i64 0,.int .i64 0,.int .i64 0]) ?_ 0 _ rfl;(with_reducible repeat (first|refine blk_drewN ?_ _|refine blk_drew ?_|refine blk_alloc ?_ _));exact BK101.out) Tryd.underlying23 rfl (by kernel_rfl)) rfl ?_
              exact ⟨by first|rfl|(simp [errW_none,errW_some]<;>rfl)|(simp [*,errW_none,errW_some]<;>rfl),by repeat (first|(with_reducible first|exact HB.out|apply below_alloc|apply pw_below_drewN|apply below_drew1|refine below_set ?_ GE101.out)|exact HB.out)⟩
             ·rw [if_neg c36] at H
              exact absurd H (by simp)
            ·rw [if_neg c35] at H
             have c35b0:(((rdOf ByteArray.empty t102 2).extract 0 1).toList == ([102]:List UInt8))=false:=beq_eq_false_iff_ne.mpr c35
             have c35b1:(((rdOf ByteArray.empty t102 2).extract 0 1).toList != ([102]:List UInt8))=true:=bne_iff_ne.mpr c35
             by_cases c38:2 < (t102.length:Int)
             ·rw [if_pos c38] at H
              have c38b0:decide (2 < (t102.length:Int))=true:=decide_eq_true c38
              have c38b1:decide (2 < t102.length)=true:=decide_eq_true (by omega)
              clear c38
              by_cases c39:1≤((rdOf ByteArray.empty t102 2).size:Int)
              ·rw [if_pos c39] at H
               have c39b0:=eq_true c39
               have c39b1:decide (1≤((rdOf ByteArray.empty t102 2).size:Int))=true:=decide_eq_true c39
               clear c39
               replace H:=Option.bind_eq_some_iff.mp H
               obtain ⟨⟨t119,t120⟩,A400,H⟩:=H
               replace H:(if t120=0 then (if t119 < (-16777216) then (contangoref10_Parse.j2 kj24 t102 ((rdOf ByteArray.empty t102 2).extract 0 1) t115 t119 true) else (contangoref10_Parse.j2 kj24 t102 ((rdOf ByteArray.empty t102 2).extract 0 1) t115 t119 (decide (t119 > 16777216)))) else (some ((⟨#[]⟩:ByteArray),0,0,0,t120)))=some (r1,r2,r3,r4,r5):=H
               have A40:=Aside0.mk A400
               clear A400
               by_cases c41:t120=0
               ·rw [if_pos c41] at H
                have c41b0:(t120 == 0)=true:=beq_iff_eq.mpr c41
                have c41b1:(t120 != 0)=false:=bne_eq_false_iff_eq.mpr c41
                clear c41
                have HC42:=Aside0.mk H
                clear H
                have p113:0≤(1:Int):=(by omega)
                have q113:1 < (t102.length:Int):=of_decide_eq_true (by first|(with_reducible assumption)|assumption)
                obtain ⟨ad113,e113,hx113_0⟩:=Kd.at_string (Kd.R_reads' HO_4.out).2.2 1 p113 q113
                obtain rfl:ad111=ad113:=(by injection e113)
                (try simp only [show (1:Int).toNat=1 from rfl,Nat.reduceMul,Nat.reduceEqDiff,Go.Addr.add,↓reduceIte] at hx113_0)
                have qi113:(1 < t102.length)=True:=eq_true (by omega)
                (try rw [show ((1:Int)).toNat=1 from rfl] at hx113_0)
                replace p113:=eq_true p113
                replace q113:=eq_true q113
                go_upto_region 16 with (first|((with_reducible refine gate_callee (f:=54) rfl ?_);refine goesL_ (some 65) rfl rfl Tryd.func54 (by kernel_rfl) rfl #[.string (rdOf ByteArray.empty t102 1)] rfl (by (try simp only [List.map_toArray,List.map_cons,List.map_nil]);first|done|rfl|(simp only [List.length_drop,List.length_take];rfl)) ?_;(with_reducible refine (contangoref10_number.calls kj24 (rdOf ByteArray.empty t102 1) t114 _ A32.out).mono ?_);rintro e w' ⟨rfl,⟨nd,rfl⟩⟩;refine ⟨_,rfl,?_⟩)|((with_reducible refine gate_callee (f:=55) rfl ?_);refine goesL_ (some 74) rfl rfl Tryd.func55 (by kernel_rfl) rfl #[.int .i64 (wrap64 (Int.tdiv t114 10000)),.int .i64 (Int.tmod (wrap64 (Int.tdiv t114 100)) 100),.int .i64 (Int.tmod t114 100)] rfl (by (try simp only [List.map_toArray,List.map_cons,List.map_nil]);first|done|rfl|(simp only [List.length_drop,List.length_take];rfl)) ?_;(with_reducible refine (contangoref05_Of.calls kj24 (wrap64 (Int.tdiv t114 10000)) (Int.tmod (wrap64 (Int.tdiv t114 100)) 100) (Int.tmod t114 100) t115 t116 _ A33.out).mono ?_);rintro e w' ⟨rfl,⟨nd,rfl⟩⟩;refine ⟨_,rfl,?_⟩;have p118:0≤(2:Int):=(by omega);have q118:2 < (t102.length:Int):=of_decide_eq_true (by first|(with_reducible assumption)|assumption);obtain ⟨ad118,e118,hx118_0⟩:=Kd.at_string (Kd.R_reads' HO_4.out).2.2 2 p118 q118;obtain rfl:ad111=ad118:=(by injection e118);(try simp only [show (2:Int).toNat=2 from rfl,Nat.reduceMul,Nat.reduceEqDiff,Go.Addr.add,↓reduceIte] at hx118_0);have qi118:(2 < t102.length)=True:=eq_true (by omega);(try rw [show ((2:Int)).toNat=2 from rfl] at hx118_0);replace p118:=eq_true p118;replace q118:=eq_true q118)|((with_reducible refine gate_callee (f:=33) rfl ?_);refine goesL_ (some 92) rfl rfl Tryd.func33 (by kernel_rfl) rfl #[.string ((rdOf ByteArray.empty t102 2).extract 1 (rdOf ByteArray.empty t102 2).size)] rfl (by (try simp only [List.map_toArray,List.map_cons,List.map_nil]);first|done|rfl|(simp only [List.length_drop,List.length_take];rfl)) ?_;(with_reducible refine (contangoref03_Int.calls kj24 ((rdOf ByteArray.empty t102 2).extract 1 (rdOf ByteArray.empty t102 2).size) t119 t120 _ A40.out).mono ?_);rintro e w' ⟨rfl,⟨nd,rfl⟩⟩;refine ⟨_,rfl,?_⟩))
                (try simp only [Act.put,List.setIfInBounds_toArray,List.set_cons_zero,List.set_cons_succ])
                go_cut [104] (fun v104 wc=>∃ (kq:Nat) (x104_41:Bool),v104=.bool x104_41∧Aside0 (contangoref10_Parse.j2 kq t102 ((rdOf ByteArray.empty t102 2).extract 0 1) t115 t119 x104_41=some (r1,r2,r3,r4,r5))∧Aside0 (kq≤kj24)∧Aside0 (Kd.R Kd.string 9 wc w.heap.size (fun _=>True) (.slice (some ad111) t102.length co26) t102)∧Aside0 (wc.heap[gb101]? = some (.cells #[.string (⟨#[]⟩:ByteArray),.int .i64 0,.int .i64 0,.int .i64 0] 23 (0,0)))∧Aside0 (Below w.heap.size w wc))
                case first =>
                 have H:=HC42.out
                 clear HC42
                 by_cases c43:t119 < (-16777216)
                 ·rw [if_pos c43] at H
                  have c43b0:decide (t119 < (-16777216))=true:=decide_eq_true c43
                  clear c43
                  (first|rw [c43b0]|(simp only [i64_w,i32_w];rw [c43b0])|skip)
                  have H':=Aside0.mk H
                  clear H
                  go_wp2
                  go_meet
                  case rel=>exact ⟨_,(true),(by first|rfl|(simp;done)|(simp [*];done)),H',⟨by have:=HJ2.out;have:=HJ24.out;first|omega|exact Nat.le_refl _⟩,⟨by (with_reducible repeat (first|apply Kd.R_alloc|apply Kd.R_drewN|apply Kd.R_drew));exact HO_4.out⟩,⟨by (with_reducible repeat (first|refine blk_drewN ?_ _|refine blk_drew ?_|refine blk_alloc ?_ _));exact BK101.out⟩,⟨by repeat (first|(with_reducible first|exact HB.out|apply below_alloc|apply pw_below_drewN|apply below_drew1|refine below_set ?_ GE101.out)|exact HB.out)⟩⟩
                 ·rw [if_neg c43] at H
                  have c43b0:decide (t119 < (-16777216))=false:=decide_eq_false c43
                  clear c43
                  (first|rw [c43b0]|(simp only [i64_w,i32_w];rw [c43b0])|skip)
                  have H':=Aside0.mk H
                  clear H
                  go_wp2
                  go_meet
                  case rel=>exact ⟨_,(decide (t119 > 16777216)),(by first|rfl|(simp;done)|(simp [*];done)),H',⟨by have:=HJ2.out;have:=HJ24.out;first|omega|exact Nat.le_refl _⟩,⟨by (with_reducible repeat (first|apply Kd.R_alloc|apply Kd.R_drewN|apply Kd.R_drew));exact HO_4.out⟩,⟨by (with_reducible repeat (first|refine blk_drewN ?_ _|refine blk_drew ?_|refine blk_alloc ?_ _));exact BK101.out⟩,⟨by repeat (first|(with_reducible first|exact HB.out|apply below_alloc|apply pw_below_drewN|apply below_drew1|refine below_set ?_ GE101.out)|exact HB.out)⟩⟩
                case rest =>
                 clear HC42
                 try clear c1
                 try clear p1
                 try clear q1
                 try clear hx1
                 try clear qi1
                 try clear c2
                 try clear p2
                 try clear c3
                 try clear c4
                 try clear c5
                 try clear c6
                 try clear c6b0
                 try clear c6b1
                 try clear p6
                 try clear c7
                 try clear c7b0
                 try clear c7b1
                 try clear c9
                 try clear c10
                 try clear c10b0
                 try clear c10b1
                 try clear p10
                 try clear q10
                 try clear hx10
                 try clear qi10
                 try clear c11
                 try clear c11b0
                 try clear c11b1
                 try clear p11
                 try clear q11
                 try clear hx11
                 try clear qi11
                 try clear c13
                 try clear c13b0
                 try clear c15
                 try clear c15b0
                 try clear c15b1
                 try clear c20
                 try clear c22
                 try clear c22b0
                 try clear c22b1
                 try clear c23
                 try clear c23b0
                 try clear c23b1
                 try clear c24
                 try clear c24b0
                 try clear c24b1
                 try clear c27
                 try clear c27b0
                 try clear c27b1
                 try clear c28
                 try clear c28b0
                 try clear c28b1
                 try clear c29
                 try clear c31
                 try clear c31b0
                 try clear c31b1
                 try clear c32
                 try clear c33
                 try clear c34
                 try clear c34b0
                 try clear c34b1
                 try clear c35
                 try clear c35b0
                 try clear c35b1
                 try clear c36
                 try clear c36b0
                 try clear c36b1
                 try clear c38
                 try clear c38b0
                 try clear c38b1
                 try clear c39
                 try clear c39b0
                 try clear c39b1
                 try clear c41
                 try clear c41b0
                 try clear c41b1
                 try clear c43
                 try clear c43b0
                 try clear hcz21_0
                 try clear hcz21_1
                 try clear hcz21_2
                 try clear hcz21_3
                 try clear hcz30_0
                 try clear hcz30_1
                 try clear hcz30_2
                 try clear hcz30_3
                 try clear hcz37_0
                 try clear hcz37_1
                 try clear hcz37_2
                 try clear hcz37_3
                 try clear hfz21_0
                 try clear hfz21_1
                 try clear hfz21_2
                 try clear hfz21_3
                 try clear hfz30_0
                 try clear hfz30_1
                 try clear hfz30_2
                 try clear hfz30_3
                 try clear hfz37_0
                 try clear hfz37_1
                 try clear hfz37_2
                 try clear hfz37_3
                 try clear hx105_0
                 try clear hx107_0
                 try clear hx108_0
                 try clear hx110_0
                 try clear hx111_0
                 try clear hx112_0
                 try clear hx113_0
                 try clear hx117_0
                 try clear hx118_0
                 try clear p1
                 try clear p10
                 try clear p105
                 try clear p107
                 try clear p108
                 try clear p11
                 try clear p110
                 try clear p111
                 try clear p112
                 try clear p113
                 try clear p117
                 try clear p118
                 try clear p2
                 try clear q1
                 try clear q10
                 try clear q105
                 try clear q107
                 try clear q108
                 try clear q11
                 try clear q110
                 try clear q111
                 try clear q112
                 try clear q113
                 try clear q117
                 try clear q118
                 obtain ⟨kq,x104_41,rfl,HA,HJ41,HO_4,BK101,HB⟩:=hcut
                 cases kq with
                 | zero=>exact absurd HA.out (by simp [contangoref10_Parse.j2])
                 | succ kj41 =>
                  have H:=HA.out
                  clear HA
                  simp only [contangoref10_Parse.j2] at H
                  by_cases c44:x104_41=true
                  ·subst c44
                   have H1:(some ((⟨#[]⟩:ByteArray),0,0,0,17))=some (r1,r2,r3,r4,r5):=by rw [if_pos rfl] at H;exact H
                   clear H
                   have H:=H1
                   clear H1
                   simp only [Option.some.injEq,Prod.mk.injEq] at H
                   obtain ⟨rfl,rfl,rfl,rfl,rfl⟩:=H
                   have hcz45_0:wc.cell? ⟨gb101,0,none⟩=some (.string (⟨#[]⟩:ByteArray)):=(blk_cell BK101.out 0).trans rfl
                   have hcz45_1:wc.cell? ⟨gb101,1,none⟩=some (.int .i64 0):=(blk_cell BK101.out 1).trans rfl
                   have hcz45_2:wc.cell? ⟨gb101,2,none⟩=some (.int .i64 0):=(blk_cell BK101.out 2).trans rfl
                   have hcz45_3:wc.cell? ⟨gb101,3,none⟩=some (.int .i64 0):=(blk_cell BK101.out 3).trans rfl
                   have hfz45_0:=blk_frozen BK101.out 0
                   have hfz45_1:=blk_frozen BK101.out 1
                   have hfz45_2:=blk_frozen BK101.out 2
                   have hfz45_3:=blk_frozen BK101.out 3
                   go_wp2
                   refine bodyPost_ret (results_ct rfl _ _ gb101 23 #[.string (⟨#[]⟩:ByteArray),.int .i64 0,.int .i64 0,.int .i64 0] (0,0) _ rfl (by (with_reducible repeat (first|refine blk_drewN ?_ _|refine blk_drew ?_|refine blk_alloc ?_ _));refine blk_put (cs:=#[.string (⟨#[]⟩:ByteArray),.int .i64 0,.int .i64 0,.int .i64 0]) ?_ 3 _ rfl;(with_reducible repeat (first|refine blk_drewN ?_ _|refine blk_drew ?_|refine blk_alloc ?_ _));refine blk_put (cs:=#[.string (⟨#[]⟩:ByteArray),.int .i64 0,.int .i64 0,.int .i64 0]) ?_ 2 _ rfl;(with_reducible repeat (first|refine blk_drewN ?_ _|refine blk_drew ?_|refine blk_alloc ?_ _));refine blk_put (cs:=#[.string (⟨#[]⟩:ByteArray),.int .i64 0,.int .i64 0,.int .i64 0]) ?_ 1 _ rfl;(with_reducible repeat (first|refine blk_drewN ?_ _|refine blk_drew ?_|refine blk_alloc ?_ _));refine blk_put (cs:=#[.string (⟨#[]⟩:ByteArray),.int .i64 0,.int .i64 0,.int .i64 0]) ?_ 0 _ rfl;(with_reducible repeat (first|refine blk_drewN ?_ _|refine blk_drew ?_|refine blk_alloc ?_ _));exact BK101.out) Tryd.underlying23 rfl (by kernel_rfl)) rfl ?_
                   exact ⟨by first|rfl|(simp [errW_none,errW_some]<;>rfl)|(simp [*,errW_none,errW_some]<;>rfl),by repeat (first|(with_reducible first|exact HB.out|apply below_alloc|apply pw_below_drewN|apply below_drew1|refine below_set ?_ GE101.out)|exact HB.out)⟩
                  ·replace c44:=Bool.eq_false_iff.mpr c44
                   subst c44
                   have H1:(if ((rdOf ByteArray.empty t102 2).extract 0 1).toList=([99]:List UInt8) then (if 0 < (t102.length:Int) then (some (rdOf ByteArray.empty t102 0,2,t115,t119,0)) else (none)) else (if 0 < (t102.length:Int) then (some (rdOf ByteArray.empty t102 0,3,t115,t119,0)) else (none)))=some (r1,r2,r3,r4,r5):=by rw [if_neg (show ¬ (false=true) by decide)] at H;exact H
                   clear H
                   have H:=H1
                   clear H1
                   by_cases c46:((rdOf ByteArray.empty t102 2).extract 0 1).toList=([99]:List UInt8)
                   ·rw [if_pos c46] at H
                    have c46b0:(((rdOf ByteArray.empty t102 2).extract 0 1).toList == ([99]:List UInt8))=true:=beq_iff_eq.mpr c46
                    have c46b1:(((rdOf ByteArray.empty t102 2).extract 0 1).toList != ([99]:List UInt8))=false:=bne_eq_false_iff_eq.mpr c46
                    clear c46
                    by_cases c47:0 < (t102.length:Int)
                    ·rw [if_pos c47] at H
                     have c47b0:decide (0 < (t102.length:Int))=true:=decide_eq_true c47
                     have c47b1:decide (0 < t102.length)=true:=decide_eq_true (by omega)
                     clear c47
                     simp only [Option.some.injEq,Prod.mk.injEq] at H
                     obtain ⟨rfl,rfl,rfl,rfl,rfl⟩:=H
                     have p121:0≤(0:Int):=(by omega)
                     have q121:0 < (t102.length:Int):=of_decide_eq_true (by first|(with_reducible assumption)|assumption)
                     obtain ⟨ad121,e121,hx121_0⟩:=Kd.at_string (Kd.R_reads' HO_4.out).2.2 0 p121 q121
                     obtain rfl:ad111=ad121:=(by injection e121)
                     have qi121:(0 < t102.length)=True:=eq_true (by omega)
                     (try rw [show ((0:Int)).toNat=0 from rfl] at hx121_0)
                     (try rw [Addr.add_zero'] at hx121_0)
                     replace p121:=eq_true p121
                     replace q121:=eq_true q121
                     have hcz48_0:wc.cell? ⟨gb101,0,none⟩=some (.string (⟨#[]⟩:ByteArray)):=(blk_cell BK101.out 0).trans rfl
                     have hcz48_1:wc.cell? ⟨gb101,1,none⟩=some (.int .i64 0):=(blk_cell BK101.out 1).trans rfl
                     have hcz48_2:wc.cell? ⟨gb101,2,none⟩=some (.int .i64 0):=(blk_cell BK101.out 2).trans rfl
                     have hcz48_3:wc.cell? ⟨gb101,3,none⟩=some (.int .i64 0):=(blk_cell BK101.out 3).trans rfl
                     have hfz48_0:=blk_frozen BK101.out 0
                     have hfz48_1:=blk_frozen BK101.out 1
                     have hfz48_2:=blk_frozen BK101.out 2
                     have hfz48_3:=blk_frozen BK101.out 3
                     go_wp2
                     refine bodyPost_ret (results_ct rfl _ _ gb101 23 #[.string (rdOf ByteArray.empty t102 0),.int .i64 2,.int .i64 t115,.int .i64 t119] (0,0) _ rfl (by (with_reducible repeat (first|refine blk_drewN ?_ _|refine blk_drew ?_|refine blk_alloc ?_ _));refine blk_put (cs:=#[.string (rdOf ByteArray.empty t102 0),.int .i64 2,.int .i64 t115,.int .i64 0]) ?_ 3 _ rfl;(with_reducible repeat (first|refine blk_drewN ?_ _|refine blk_drew ?_|refine blk_alloc ?_ _));refine blk_put (cs:=#[.string (rdOf ByteArray.empty t102 0),.int .i64 2,.int .i64 0,.int .i64 0]) ?_ 2 _ rfl;(with_reducible repeat (first|refine blk_drewN ?_ _|refine blk_drew ?_|refine blk_alloc ?_ _));refine blk_put (cs:=#[.string (rdOf ByteArray.empty t102 0),.int .i64 0,.int .i64 0,.int .i64 0]) ?_ 1 _ rfl;(with_reducible repeat (first|refine blk_drewN ?_ _|refine blk_drew ?_|refine blk_alloc ?_ _));refine blk_put (cs:=#[.string (⟨#[]⟩:ByteArray),.int .i64 0,.int .i64 0,.int .i64 0]) ?_ 0 _ rfl;(with_reducible repeat (first|refine blk_drewN ?_ _|refine blk_drew ?_|refine blk_alloc ?_ _));exact BK101.out) Tryd.underlying23 rfl (by kernel_rfl)) rfl ?_
                     exact ⟨by first|rfl|(simp [errW_none,errW_some]<;>rfl)|(simp [*,errW_none,errW_some]<;>rfl),by repeat (first|(with_reducible first|exact HB.out|apply below_alloc|apply pw_below_drewN|apply below_drew1|refine below_set ?_ GE101.out)|exact HB.out)⟩
                    ·rw [if_neg c47] at H
                     exact absurd H (by simp)
                   ·rw [if_neg c46] at H
                    have c46b0:(((rdOf ByteArray.empty t102 2).extract 0 1).toList == ([99]:List UInt8))=false:=beq_eq_false_iff_ne.mpr c46
                    have c46b1:(((rdOf ByteArray.empty t102 2).extract 0 1).toList != ([99]:List UInt8))=true:=bne_iff_ne.mpr c46
                    by_cases c49:0 < (t102.length:Int)
                    ·rw [if_pos c49] at H
                     have c49b0:decide (0 < (t102.length:Int))=true:=decide_eq_true c49
                     have c49b1:decide (0 < t102.length)=true:=decide_eq_true (by omega)
                     clear c49
                     simp only [Option.some.injEq,Prod.mk.injEq] at H
                     obtain ⟨rfl,rfl,rfl,rfl,rfl⟩:=H
                     have p122:0≤(0:Int):=(by omega)
                     have q122:0 < (t102.length:Int):=of_decide_eq_true (by first|(with_reducible assumption)|assumption)
                     obtain ⟨ad122,e122,hx122_0⟩:=Kd.at_string (Kd.R_reads' HO_4.out).2.2 0 p122 q122
                     obtain rfl:ad111=ad122:=(by injection e122)
                     have qi122:(0 < t102.length)=True:=eq_true (by omega)
                     (try rw [show ((0:Int)).toNat=0 from rfl] at hx122_0)
                     (try rw [Addr.add_zero'] at hx122_0)
                     replace p122:=eq_true p122
                     replace q122:=eq_true q122
                     have hcz50_0:wc.cell? ⟨gb101,0,none⟩=some (.string (⟨#[]⟩:ByteArray)):=(blk_cell BK101.out 0).trans rfl
                     have hcz50_1:wc.cell? ⟨gb101,1,none⟩=some (.int .i64 0):=(blk_cell BK101.out 1).trans rfl
                     have hcz50_2:wc.cell? ⟨gb101,2,none⟩=some (.int .i64 0):=(blk_cell BK101.out 2).trans rfl
                     have hcz50_3:wc.cell? ⟨gb101,3,none⟩=some (.int .i64 0):=(blk_cell BK101.out 3).trans rfl
                     have hfz50_0:=blk_frozen BK101.out 0
                     have hfz50_1:=blk_frozen BK101.out 1
                     have hfz50_2:=blk_frozen BK101.out 2
                     have hfz50_3:=blk_frozen BK101.out 3
                     go_wp2
                     refine bodyPost_ret (results_ct rfl _ _ gb101 23 #[.string (rdOf ByteArray.empty t102 0),.int .i64 3,.int .i64 t115,.int .i64 t119] (0,0) _ rfl (by (with_reducible repeat (first|refine blk_drewN ?_ _|refine blk_drew ?_|refine blk_alloc ?_ _));refine blk_put (cs:=#[.string (rdOf ByteArray.empty t102 0),.int .i64 3,.int .i64 t115,.int .i64 0]) ?_ 3 _ rfl;(with_reducible repeat (first|refine blk_drewN ?_ _|refine blk_drew ?_|refine blk_alloc ?_ _));refine blk_put (cs:=#[.string (rdOf ByteArray.empty t102 0),.int .i64 3,.int .i64 0,.int .i64 0]) ?_ 2 _ rfl;(with_reducible repeat (first|refine blk_drewN ?_ _|refine blk_drew ?_|refine blk_alloc ?_ _));refine blk_put (cs:=#[.string (rdOf ByteArray.empty t102 0),.int .i64 0,.int .i64 0,.int .i64 0]) ?_ 1 _ rfl;(with_reducible repeat (first|refine blk_drewN ?_ _|refine blk_drew ?_|refine blk_alloc ?_ _));refine blk_put (cs:=#[.string (⟨#[]⟩:ByteArray),.int .i64 0,.int .i64 0,.int .i64 0]) ?_ 0 _ rfl;(with_reducible repeat (first|refine blk_drewN ?_ _|refine blk_drew ?_|refine blk_alloc ?_ _));exact BK101.out) Tryd.underlying23 rfl (by kernel_rfl)) rfl ?_
                     exact ⟨by first|rfl|(simp [errW_none,errW_some]<;>rfl)|(simp [*,errW_none,errW_some]<;>rfl),by repeat (first|(with_reducible first|exact HB.out|apply below_alloc|apply pw_below_drewN|apply below_drew1|refine below_set ?_ GE101.out)|exact HB.out)⟩
                    ·rw [if_neg c49] at H
                     exact absurd H (by simp)
               ·rw [if_neg c41] at H
                have c41b0:(t120 == 0)=false:=beq_eq_false_iff_ne.mpr c41
                have c41b1:(t120 != 0)=true:=bne_iff_ne.mpr c41
                simp only [Option.some.injEq,Prod.mk.injEq] at H
                obtain ⟨rfl,rfl,rfl,rfl,rfl⟩:=H
                have p113:0≤(1:Int):=(by omega)
                have q113:1 < (t102.length:Int):=of_decide_eq_true (by first|(with_reducible assumption)|assumption)
                obtain ⟨ad113,e113,hx113_0⟩:=Kd.at_string (Kd.R_reads' HO_4.out).2.2 1 p113 q113
                obtain rfl:ad111=ad113:=(by injection e113)
                (try simp only [show (1:Int).toNat=1 from rfl,Nat.reduceMul,Nat.reduceEqDiff,Go.Addr.add,↓reduceIte] at hx113_0)
                have qi113:(1 < t102.length)=True:=eq_true (by omega)
                (try rw [show ((1:Int)).toNat=1 from rfl] at hx113_0)
                replace p113:=eq_true p113
                replace q113:=eq_true q113
                go_wp2_with (first|((with_reducible refine gate_callee (f:=54) rfl ?_);refine goesL_ (some 65) rfl rfl Tryd.func54 (by kernel_rfl) rfl #[.string (rdOf ByteArray.empty t102 1)] rfl (by (try simp only [List.map_toArray,List.map_cons,List.map_nil]);first|done|rfl|(simp only [List.length_drop,List.length_take];rfl)) ?_;(with_reducible refine (contangoref10_number.calls kj24 (rdOf ByteArray.empty t102 1) t114 _ A32.out).mono ?_);rintro e w' ⟨rfl,⟨nd,rfl⟩⟩;refine ⟨_,rfl,?_⟩;(try (rw [drewN_self wc];generalize hq_:World.drewN wc _=wc;have n0_:Aside0 (Kd.R Kd.string 9 wc w.heap.size (fun _=>True) (.slice (some ad111) t102.length co26) t102):=⟨by rw [← hq_];exact (by (with_reducible repeat (first|apply Kd.R_alloc|apply Kd.R_drewN|apply Kd.R_drew));exact HO_4.out)⟩;have n1_:Aside0 (wc.heap[gb101]? = some (.cells #[.string (⟨#[]⟩:ByteArray),.int .i64 0,.int .i64 0,.int .i64 0] 23 (0,0))):=⟨by rw [← hq_];exact (by (with_reducible repeat (first|refine blk_drewN ?_ _|refine blk_drew ?_|refine blk_alloc ?_ _));exact BK101.out)⟩;have n2_:Aside0 (Below w.heap.size w wc):=⟨by rw [← hq_];exact (by repeat (first|(with_reducible first|exact HB.out|apply below_alloc|apply pw_below_drewN|apply below_drew1|refine below_set ?_ GE101.out)|exact HB.out))⟩;clear HO_4 BK101 HB hq_;have HO_4:=n0_;have BK101:=n1_;have HB:=n2_;clear n0_ n1_ n2_)))|((with_reducible refine gate_callee (f:=55) rfl ?_);refine goesL_ (some 74) rfl rfl Tryd.func55 (by kernel_rfl) rfl #[.int .i64 (wrap64 (Int.tdiv t114 10000)),.int .i64 (Int.tmod (wrap64 (Int.tdiv t114 100)) 100),.int .i64 (Int.tmod t114 100)] rfl (by (try simp only [List.map_toArray,List.map_cons,List.map_nil]);first|done|rfl|(simp only [List.length_drop,List.length_take];rfl)) ?_;(with_reducible refine (contangoref05_Of.calls kj24 (wrap64 (Int.tdiv t114 10000)) (Int.tmod (wrap64 (Int.tdiv t114 100)) 100) (Int.tmod t114 100) t115 t116 _ A33.out).mono ?_);rintro e w' ⟨rfl,⟨nd,rfl⟩⟩;refine ⟨_,rfl,?_⟩;(try (rw [drewN_self wc];generalize hq_:World.drewN wc _=wc;have n0_:Aside0 (Kd.R Kd.string 9 wc w.heap.size (fun _=>True) (.slice (some ad111) t102.length co26) t102):=⟨by rw [← hq_];exact (by (with_reducible repeat (first|apply Kd.R_alloc|apply Kd.R_drewN|apply Kd.R_drew));exact HO_4.out)⟩;have n1_:Aside0 (wc.heap[gb101]? = some (.cells #[.string (⟨#[]⟩:ByteArray),.int .i64 0,.int .i64 0,.int .i64 0] 23 (0,0))):=⟨by rw [← hq_];exact (by (with_reducible repeat (first|refine blk_drewN ?_ _|refine blk_drew ?_|refine blk_alloc ?_ _));exact BK101.out)⟩;have n2_:Aside0 (Below w.heap.size w wc):=⟨by rw [← hq_];exact (by repeat (first|(with_reducible first|exact HB.out|apply below_alloc|apply pw_below_drewN|apply below_drew1|refine below_set ?_ GE101.out)|exact HB.out))⟩;clear HO_4 BK101 HB hq_;have HO_4:=n0_;have BK101:=n1_;have HB:=n2_;clear n0_ n1_ n2_));have p118:0≤(2:Int):=(by omega);have q118:2 < (t102.length:Int):=of_decide_eq_true (by first|(with_reducible assumption)|assumption);obtain ⟨ad118,e118,hx118_0⟩:=Kd.at_string (Kd.R_reads' HO_4.out).2.2 2 p118 q118;obtain rfl:ad111=ad118:=(by injection e118);(try simp only [show (2:Int).toNat=2 from rfl,Nat.reduceMul,Nat.reduceEqDiff,Go.Addr.add,↓reduceIte] at hx118_0);have qi118:(2 < t102.length)=True:=eq_true (by omega);(try rw [show ((2:Int)).toNat=2 from rfl] at hx118_0);replace p118:=eq_true p118;replace q118:=eq_true q118)|((with_reducible refine gate_callee (f:=33) rfl ?_);refine goesL_ (some 92) rfl rfl Tryd.func33 (by kernel_rfl) rfl #[.string ((rdOf ByteArray.empty t102 2).extract 1 (rdOf ByteArray.empty t102 2).size)] rfl (by (try simp only [List.map_toArray,List.map_cons,List.map_nil]);first|done|rfl|(simp only [List.length_drop,List.length_take];rfl)) ?_;(with_reducible refine (contangoref03_Int.calls kj24 ((rdOf ByteArray.empty t102 2).extract 1 (rdOf ByteArray.empty t102 2).size) t119 t120 _ A40.out).mono ?_);rintro e w' ⟨rfl,⟨nd,rfl⟩⟩;refine ⟨_,rfl,?_⟩;(try (rw [drewN_self wc];generalize hq_:World.drewN wc _=wc;have n0_:Aside0 (Kd.R Kd.string 9 wc w.heap.size (fun _=>True) (.slice (some ad111) t102.length co26) t102):=⟨by rw [← hq_];exact (by (with_reducible repeat (first|apply Kd.R_alloc|apply Kd.R_drewN|apply Kd.R_drew));exact HO_4.out)⟩;have n1_:Aside0 (wc.heap[gb101]? = some (.cells #[.string (⟨#[]⟩:ByteArray),.int .i64 0,.int .i64 0,.int .i64 0] 23 (0,0))):=⟨by rw [← hq_];exact (by (with_reducible repeat (first|refine blk_drewN ?_ _|refine blk_drew ?_|refine blk_alloc ?_ _));exact BK101.out)⟩;have n2_:Aside0 (Below w.heap.size w wc):=⟨by rw [← hq_];exact (by repeat (first|(with_reducible first|exact HB.out|apply below_alloc|apply pw_below_drewN|apply below_drew1|refine below_set ?_ GE101.out)|exact HB.out))⟩;clear HO_4 BK101 HB hq_;have HO_4:=n0_;have BK101:=n1_;have HB:=n2_;clear n0_ n1_ n2_));have hcz51_0:wc.cell? ⟨gb101,0,none⟩=some (.string (⟨#[]⟩:ByteArray)):=(blk_cell BK101.out 0).trans rfl;have hcz51_1:wc.cell? ⟨gb101,1,none⟩=some (.int .i64 0):=(blk_cell BK101.out 1).trans rfl;have hcz51_2:wc.cell? ⟨gb101,2,none⟩=some (.int .i64 0):=(blk_cell BK101.out 2).trans rfl;have hcz51_3:wc.cell? ⟨gb101,3,none⟩=some (.int .i64 0):=(blk_cell BK101.out 3).trans rfl;have hfz51_0:=blk_frozen BK101.out 0;have hfz51_1:=blk_frozen BK101.out 1;have hfz51_2:=blk_frozen BK101.out 2;have hfz51_3:=blk_frozen BK101.out 3))
                refine bodyPost_ret (results_ct rfl _ _ gb101 23 #[.string (⟨#[]⟩:ByteArray),.int .i64 0,.int .i64 0,.int .i64 0] (0,0) _ rfl (by (with_reducible repeat (first|refine blk_drewN ?_ _|refine blk_drew ?_|refine blk_alloc ?_ _));refine blk_put (cs:=#[.string (⟨#[]⟩:ByteArray),.int .i64 0,.int .i64 0,.int .i64 0]) ?_ 3 _ rfl;(with_reducible repeat (first|refine blk_drewN ?_ _|refine blk_drew ?_|refine blk_alloc ?_ _));refine blk_put (cs:=#[.string (⟨#[]⟩:ByteArray),.int .i64 0,.int .i64 0,.int .i64 0]) ?_ 2 _ rfl;(with_reducible repeat (first|refine blk_drewN ?_ _|refine blk_drew ?_|refine blk_alloc ?_ _));refine blk_put (cs:=#[.string (⟨#[]⟩:ByteArray),.int .i64 0,.int .i64 0,.int .i64 0]) ?_ 1 _ rfl;(with_reducible repeat (first|refine blk_drewN ?_ _|refine blk_drew ?_|refine blk_alloc ?_ _));refine blk_put (cs:=#[.string (⟨#[]⟩:ByteArray),.int .i64 0,.int .i64 0,.int .i64 0]) ?_ 0 _ rfl;(with_reducible repeat (first|refine blk_drewN ?_ _|refine blk_drew ?_|refine blk_alloc ?_ _));exact BK101.out) Tryd.underlying23 rfl (by kernel_rfl)) rfl ?_
                exact ⟨by first|rfl|(simp [errW_none,errW_some]<;>rfl)|(simp [*,errW_none,errW_some]<;>rfl),by repeat (first|(with_reducible first|exact HB.out|apply below_alloc|apply pw_below_drewN|apply below_drew1|refine below_set ?_ GE101.out)|exact HB.out)⟩
              ·rw [if_neg c39] at H
               exact absurd H (by simp)
             ·rw [if_neg c38] at H
              exact absurd H (by simp)
           ·rw [if_neg c34] at H
            have c34b0:(t116 == 0)=false:=beq_eq_false_iff_ne.mpr c34
            have c34b1:(t116 != 0)=true:=bne_iff_ne.mpr c34
            simp only [Option.some.injEq,Prod.mk.injEq] at H
            obtain ⟨rfl,rfl,rfl,rfl,rfl⟩:=H
            have p113:0≤(1:Int):=(by omega)
            have q113:1 < (t102.length:Int):=of_decide_eq_true (by first|(with_reducible assumption)|assumption)
            obtain ⟨ad113,e113,hx113_0⟩:=Kd.at_string (Kd.R_reads' HO_4.out).2.2 1 p113 q113
            obtain rfl:ad111=ad113:=(by injection e113)
            (try simp only [show (1:Int).toNat=1 from rfl,Nat.reduceMul,Nat.reduceEqDiff,Go.Addr.add,↓reduceIte] at hx113_0)
            have qi113:(1 < t102.length)=True:=eq_true (by omega)
            (try rw [show ((1:Int)).toNat=1 from rfl] at hx113_0)
            replace p113:=eq_true p113
            replace q113:=eq_true q113
            go_wp2_with (first|((with_reducible refine gate_callee (f:=54) rfl ?_);refine goesL_ (some 65) rfl rfl Tryd.func54 (by kernel_rfl) rfl #[.string (rdOf ByteArray.empty t102 1)] rfl (by (try simp only [List.map_toArray,List.map_cons,List.map_nil]);first|done|rfl|(simp only [List.length_drop,List.length_take];rfl)) ?_;(with_reducible refine (contangoref10_number.calls kj24 (rdOf ByteArray.empty t102 1) t114 _ A32.out).mono ?_);rintro e w' ⟨rfl,⟨nd,rfl⟩⟩;refine ⟨_,rfl,?_⟩;(try (rw [drewN_self wc];generalize hq_:World.drewN wc _=wc;have n0_:Aside0 (Kd.R Kd.string 9 wc w.heap.size (fun _=>True) (.slice (some ad111) t102.length co26) t102):=⟨by rw [← hq_];exact (by (with_reducible repeat (first|apply Kd.R_alloc|apply Kd.R_drewN|apply Kd.R_drew));exact HO_4.out)⟩;have n1_:Aside0 (wc.heap[gb101]? = some (.cells #[.string (⟨#[]⟩:ByteArray),.int .i64 0,.int .i64 0,.int .i64 0] 23 (0,0))):=⟨by rw [← hq_];exact (by (with_reducible repeat (first|refine blk_drewN ?_ _|refine blk_drew ?_|refine blk_alloc ?_ _));exact BK101.out)⟩;have n2_:Aside0 (Below w.heap.size w wc):=⟨by rw [← hq_];exact (by repeat (first|(with_reducible first|exact HB.out|apply below_alloc|apply pw_below_drewN|apply below_drew1|refine below_set ?_ GE101.out)|exact HB.out))⟩;clear HO_4 BK101 HB hq_;have HO_4:=n0_;have BK101:=n1_;have HB:=n2_;clear n0_ n1_ n2_)))|((with_reducible refine gate_callee (f:=55) rfl ?_);refine goesL_ (some 74) rfl rfl Tryd.func55 (by kernel_rfl) rfl #[.int .i64 (wrap64 (Int.tdiv t114 10000)),.int .i64 (Int.tmod (wrap64 (Int.tdiv t114 100)) 100),.int .i64 (Int.tmod t114 100)] rfl (by (try simp only [List.map_toArray,List.map_cons,List.map_nil]);first|done|rfl|(simp only [List.length_drop,List.length_take];rfl)) ?_;(with_reducible refine (contangoref05_Of.calls kj24 (wrap64 (Int.tdiv t114 10000)) (Int.tmod (wrap64 (Int.tdiv t114 100)) 100) (Int.tmod t114 100) t115 t116 _ A33.out).mono ?_);rintro e w' ⟨rfl,⟨nd,rfl⟩⟩;refine ⟨_,rfl,?_⟩;(try (rw [drewN_self wc];generalize hq_:World.drewN wc _=wc;have n0_:Aside0 (Kd.R Kd.string 9 wc w.heap.size (fun _=>True) (.slice (some ad111) t102.length co26) t102):=⟨by rw [← hq_];exact (by (with_reducible repeat (first|apply Kd.R_alloc|apply Kd.R_drewN|apply Kd.R_drew));exact HO_4.out)⟩;have n1_:Aside0 (wc.heap[gb101]? = some (.cells #[.string (⟨#[]⟩:ByteArray),.int .i64 0,.int .i64 0,.int .i64 0] 23 (0,0))):=⟨by rw [← hq_];exact (by (with_reducible repeat (first|refine blk_drewN ?_ _|refine blk_drew ?_|refine blk_alloc ?_ _));exact BK101.out)⟩;have n2_:Aside0 (Below w.heap.size w wc):=⟨by rw [← hq_];exact (by repeat (first|(with_reducible first|exact HB.out|apply below_alloc|apply pw_below_drewN|apply below_drew1|refine below_set ?_ GE101.out)|exact HB.out))⟩;clear HO_4 BK101 HB hq_;have HO_4:=n0_;have BK101:=n1_;have HB:=n2_;clear n0_ n1_ n2_));have hcz52_0:wc.cell? ⟨gb101,0,none⟩=some (.string (⟨#[]⟩:ByteArray)):=(blk_cell BK101.out 0).trans rfl;have hcz52_1:wc.cell? ⟨gb101,1,none⟩=some (.int .i64 0):=(blk_cell BK101.out 1).trans rfl;have hcz52_2:wc.cell? ⟨gb101,2,none⟩=some (.int .i64 0):=(blk_cell BK101.out 2).trans rfl;have hcz52_3:wc.cell? ⟨gb101,3,none⟩=some (.int .i64 0):=(blk_cell BK101.out 3).trans rfl;have hfz52_0:=blk_frozen BK101.out 0;have hfz52_1:=blk_frozen BK101.out 1;have hfz52_2:=blk_frozen BK101.out 2;have hfz52_3:=blk_frozen BK101.out 3))
            refine bodyPost_ret (results_ct rfl _ _ gb101 23 #[.string (⟨#[]⟩:ByteArray),.int .i64 0,.int .i64 0,.int .i64 0] (0,0) _ rfl (by (with_reducible repeat (first|refine blk_drewN ?_ _|refine blk_drew ?_|refine blk_alloc ?_ _));refine blk_put (cs:=#[.string (⟨#[]⟩:ByteArray),.int .i64 0,.int .i64 0,.int .i64 0]) ?_ 3 _ rfl;(with_reducible repeat (first|refine blk_drewN ?_ _|refine blk_drew ?_|refine blk_alloc ?_ _));refine blk_put (cs:=#[.string (⟨#[]⟩:ByteArray),.int .i64 0,.int .i64 0,.int .i64 0]) ?_ 2 _ rfl;(with_reducible repeat (first|refine blk_drewN ?_ _|refine blk_drew ?_|refine blk_alloc ?_ _));refine blk_put (cs:=#[.string (⟨#[]⟩:ByteArray),.int .i64 0,.int .i64 0,.int .i64 0]) ?_ 1 _ rfl;(with_reducible repeat (first|refine blk_drewN ?_ _|refine blk_drew ?_|refine blk_alloc ?_ _));refine blk_put (cs:=#[.string (⟨#[]⟩:ByteArray),.int .i64 0,.int .i64 0,.int .i64 0]) ?_ 0 _ rfl;(with_reducible repeat (first|refine blk_drewN ?_ _|refine blk_drew ?_|refine blk_alloc ?_ _));exact BK101.out) Tryd.underlying23 rfl (by kernel_rfl)) rfl ?_
            exact ⟨by first|rfl|(simp [errW_none,errW_some]<;>rfl)|(simp [*,errW_none,errW_some]<;>rfl),by repeat (first|(with_reducible first|exact HB.out|apply below_alloc|apply pw_below_drewN|apply below_drew1|refine below_set ?_ GE101.out)|exact HB.out)⟩
          ·rw [if_neg c31] at H
           exact absurd H (by simp)
      ·rw [if_neg c24] at H
       exact absurd H (by simp)
     ·rw [if_neg c23] at H
      exact absurd H (by simp)
    ·rw [if_neg c22] at H
     exact absurd H (by simp)
end Go.Proofs.YthpmmofleddpnaaDoor.X
end
