/- For TradeTexts: contracts, and facts on lists and numbers, that it uses (part 7). -/
import Derived.Test.YthpmmofleddpnaaDoorTradeTextsUptoc6
section
namespace Go.Proofs.YthpmmofleddpnaaDoor.P
set_option linter.unusedVariables false
set_option linter.unusedSimpArgs false
open Go.RowKit Go.Proofs.YthpmmofleddpnaaDoorW.PrintWords Go.Proofs.YthpmmofleddpnaaDoorW.PrintMore Go.Proofs.YthpmmofleddpnaaDoor.X
theorem head_iff (s:ByteArray) (c:UInt8) (h:1≤s.size):(s.extract 0 1).toList=[c]↔bt s 0=(c.toNat:Int):=by
 rw [ext_one,bt_head s (by omega),Option.some.injEq]
theorem kind_of (s:ByteArray) (h:1≤s.size):kindI (bytesOf s)=if bytesOf s=[102] then 1 else if bt s 0=99 then 2 else if bt s 0=112 then 3 else 0:=by
 unfold kindI
 rw [bt_head s (by omega)]
 simp only [Option.some.injEq]
theorem rparse_j1 (l:List ByteArray) (hl:l.length=3) (hz:∀ x ∈ l,x.size≤4611686018427387904) (hf:okForm (rdOf ByteArray.empty l 0) (rdOf ByteArray.empty l 1) (rdOf ByteArray.empty l 2)) (h1:1≤(rdOf ByteArray.empty l 2).size) :
  Ev (fun k=>contangoref10_Parse.j1 k l ((rdOf ByteArray.empty l 2).extract 0 1) false) (tS (parse3 (rdOf ByteArray.empty l 0) (rdOf ByteArray.empty l 1) (rdOf ByteArray.empty l 2))):=by
 have hz2:(rdOf ByteArray.empty l 2).size≤4611686018427387904:=by
  have e:rdOf ByteArray.empty l 2=l[2]'(by omega):=rdOf_nat _ _ 2 _
  rw [e];exact hz _ (List.getElem_mem _)
 have hl0:(0:Int) < (l.length:Int):=by omega
 have hl1:(1:Int) < (l.length:Int):=by omega
 have hl2:(2:Int) < (l.length:Int):=by omega
 refine Ev_succ ?_
 simp only [contangoref10_Parse.j1,Bool.false_eq_true,if_false,if_pos hl1,if_pos hl2]
 generalize rdOf ByteArray.empty l 2=c at *
 generalize rdOf ByteArray.empty l 1=b at *
 obtain ⟨f1,f2,f3,f4⟩:=hf
 have hn:=num8 (by rw [by_len,f2]) (List.all_eq_true.1 f3)
 have hok:okForm (rdOf ByteArray.empty l 0) b c:=⟨f1,f2,f3,f4⟩
 unfold parse3
 rw [if_pos hok]
 have hnum:=rnum_f b f2
 rw [if_pos f3] at hnum
 refine Ev_bind hnum ?_
 generalize numV 0 (bytesOf b)=n at *
 have q1:wrap64 (Int.tdiv n 10000)=n / 10000:=by rw [Int.tdiv_eq_ediv_of_nonneg (by omega)];exact w_id (by omega) (by omega)
 have q2:wrap64 (Int.tdiv n 100)=n / 100:=by rw [Int.tdiv_eq_ediv_of_nonneg (by omega)];exact w_id (by omega) (by omega)
 have q3:Int.tmod (n / 100) 100=n / 100 % 100:=Int.tmod_eq_emod_of_nonneg (by omega)
 have q4:Int.tmod n 100=n % 100:=Int.tmod_eq_emod_of_nonneg (by omega)
 simp only [q1,q2,q3,q4]
 refine Ev_bind (ofR_f (n / 10000) (n / 100 % 100) (n % 100)) ?_
 show Ev _ (tS (if (dayOf n).2=0 then _ else _))
 have qd:ofV (n / 10000) (n / 100 % 100) (n % 100)=dayOf n:=rfl
 rw [qd]
 by_cases c1:(dayOf n).2=0
 case neg=>simp only [if_neg c1];exact Ev.now _
 simp only [if_pos c1]
 rw [kind_of c h1] at f4 ⊢
 have k102:=head_iff c 102 h1
 have k99:=head_iff c 99 h1
 have e102:((102:UInt8).toNat:Int)=102:=rfl
 have e99:((99:UInt8).toNat:Int)=99:=rfl
 rw [e102] at k102
 rw [e99] at k99
 by_cases c2:bytesOf c=[102]
 ·have hb:bt c 0=102:=by
   have:=bt_head c (by omega)
   rw [c2] at this
   exact (Option.some.inj this).symm
  rw [if_pos c2] at f4 ⊢
  simp only [if_pos (k102.2 hb),if_pos hl0,if_true]
  exact Ev.now _
 ·rw [if_neg c2] at f4 ⊢
  have hb:¬ bt c 0=102:=by
   intro h
   rw [h,if_neg (by decide),if_neg (by decide)] at f4
   exact f4 rfl
  have hk1:¬ (if bt c 0=99 then (2:Int) else if bt c 0=112 then 3 else 0)=1:=by repeat' first|split|omega
  simp only [if_neg (fun h=>hb (k102.1 h)),if_neg hk1,if_pos (show (1:Int)≤(c.size:Int) by omega)]
  have hi:=rint_f (c.extract 1 c.size) (by rw [ByteArray.size_extract];omega)
  rw [← int_same,tail_ext] at hi
  refine Ev_bind hi ?_
  by_cases c3:(intL (bytesOf c).tail).2=0
  case neg=>simp only [if_neg c3];exact Ev.now _
  simp only [if_pos c3]
  have bad:Ev (fun k=>contangoref10_Parse.j2 k l (c.extract 0 1) (dayOf n).1 (intL (bytesOf c).tail).1 true) (tS (zS,17)):=Ev_succ (by simp only [contangoref10_Parse.j2,if_true];exact Ev.now _)
  by_cases c4:(intL (bytesOf c).tail).1 < -16777216
  ·simp only [if_pos c4,if_pos (Or.inl c4:(intL (bytesOf c).tail).1 < -16777216∨(intL (bytesOf c).tail).1 > 16777216)];exact bad
  by_cases c5:(intL (bytesOf c).tail).1 > 16777216
  ·simp only [if_neg c4,decide_eq_true c5,if_pos (Or.inr c5:(intL (bytesOf c).tail).1 < -16777216∨(intL (bytesOf c).tail).1 > 16777216)];exact bad
  have c6:¬ ((intL (bytesOf c).tail).1 < -16777216∨(intL (bytesOf c).tail).1 > 16777216):=by omega
  simp only [if_neg c4,decide_eq_false c5,if_neg c6]
  refine Ev_succ ?_
  simp only [contangoref10_Parse.j2,Bool.false_eq_true,if_false,if_pos hl0]
  by_cases c7:bt c 0=99
  ·simp only [if_pos (k99.2 c7),if_pos c7]
   exact Ev.now _
  ·have c8:bt c 0=112:=by
    rw [if_neg c7] at f4
    by_cases h:bt c 0=112
    ·exact h
    ·rw [if_neg h] at f4;exact absurd rfl f4
   simp only [if_neg (fun h=>c7 (k99.1 h)),if_neg c7,if_pos c8]
   exact Ev.now _
theorem rparse_f10 (s:ByteArray) (hs:s.size≤4294967280):Ev (fun k=>contangoref10_Parse.f k s) (tS (parseS s)):=by
 unfold contangoref10_Parse.f parseS
 refine Ev_bind (rpieces_f s hs) ?_
 have hz:∀ x ∈ piecesS s,x.size≤4611686018427387904:=fun x hx=>by have:=pieces_sz hx;omega
 generalize piecesS s=l at *
 have bad:Ev (fun k=>contangoref10_Parse.j0 k l true) (tS (zS,5)):=Ev_succ (by simp only [contangoref10_Parse.j0,if_true];exact Ev.now _)
 unfold parseL
 by_cases c0:l.length=3
 case neg =>
  rw [if_neg c0]
  simp only [if_neg (show ¬ (l.length:Int)=3 by omega)]
  exact bad
 rw [if_pos c0]
 have hl0:(0:Int) < (l.length:Int):=by omega
 have hl1:(1:Int) < (l.length:Int):=by omega
 have hl2:(2:Int) < (l.length:Int):=by omega
 have hz0:(rdOf ByteArray.empty l 0).size≤4611686018427387904:=by
  have e:rdOf ByteArray.empty l 0=l[0]'(by omega):=rdOf_nat _ _ 0 _
  rw [e];exact hz _ (List.getElem_mem _)
 simp only [if_pos (show (l.length:Int)=3 by omega),if_pos hl0]
 refine Ev_bind (nameR_f (rdOf ByteArray.empty l 0) hz0) ?_
 have no:¬ okForm (rdOf ByteArray.empty l 0) (rdOf ByteArray.empty l 1) (rdOf ByteArray.empty l 2)→parse3 (rdOf ByteArray.empty l 0) (rdOf ByteArray.empty l 1) (rdOf ByteArray.empty l 2)=(zS,5):=fun h=>by unfold parse3;rw [if_neg h]
 by_cases c1:nameB (rdOf ByteArray.empty l 0)=true
 case neg=>simp only [if_neg c1];rw [no fun h=>c1 h.1];exact bad
 simp only [if_pos c1,if_pos hl1]
 by_cases c2:(rdOf ByteArray.empty l 1).size=8
 case neg =>
  rw [no fun h=>c2 h.2.1]
  simp only [if_neg (show ¬ ((rdOf ByteArray.empty l 1).size:Int)=8 by omega)]
  exact bad
 simp only [if_pos (show ((rdOf ByteArray.empty l 1).size:Int)=8 by omega)]
 refine Ev_bind (rnum_f _ c2) ?_
 by_cases c3:(bytesOf (rdOf ByteArray.empty l 1)).all digitB=true
 case neg =>
  rw [no fun h=>c3 h.2.2.1]
  simp only [if_neg c3,if_pos (show (-1:Int) < 0 by decide)]
  exact bad
 have hn:=num8 (by rw [by_len,c2]) (List.all_eq_true.1 c3)
 simp only [if_pos c3,if_neg (show ¬ numV 0 (bytesOf (rdOf ByteArray.empty l 1)) < 0 by omega),if_pos hl2]
 by_cases c5:(rdOf ByteArray.empty l 2).size < 1
 ·have e:bytesOf (rdOf ByteArray.empty l 2)=[]:=List.length_eq_zero_iff.1 (by rw [by_len];omega)
  rw [no fun h=>h.2.2.2 (by rw [e];rfl)]
  simp only [decide_eq_true (show ((rdOf ByteArray.empty l 2).size:Int) < 1 by omega)]
  exact bad
 have h1:1≤(rdOf ByteArray.empty l 2).size:=by omega
 simp only [decide_eq_false (show ¬ ((rdOf ByteArray.empty l 2).size:Int) < 1 by omega)]
 refine Ev_succ ?_
 have bad1:∀ q,Ev (fun k=>contangoref10_Parse.j1 k l q true) (tS (zS,5)):=fun q=>Ev_succ (by simp only [contangoref10_Parse.j1,if_true];exact Ev.now _)
 simp only [contangoref10_Parse.j0,Bool.false_eq_true,if_false,if_pos hl2,if_pos (show (0:Int)≤1 by decide),if_pos (show (1:Int)≤((rdOf ByteArray.empty l 2).size:Int) by omega)]
 have k99:=head_iff (rdOf ByteArray.empty l 2) 99 h1
 have k112:=head_iff (rdOf ByteArray.empty l 2) 112 h1
 have k102:=one_byte (rdOf ByteArray.empty l 2) 102
 have hk:=kind_of (rdOf ByteArray.empty l 2) h1
 have e102:((102:UInt8).toNat:Int)=102:=rfl
 have e99:((99:UInt8).toNat:Int)=99:=rfl
 have e112:((112:UInt8).toNat:Int)=112:=rfl
 rw [e99] at k99
 rw [e112] at k112
 rw [e102] at k102
 have go:kindI (bytesOf (rdOf ByteArray.empty l 2))≠0→Ev (fun k=>contangoref10_Parse.j1 k l ((rdOf ByteArray.empty l 2).extract 0 1) false) (tS (parse3 (rdOf ByteArray.empty l 0) (rdOf ByteArray.empty l 1) (rdOf ByteArray.empty l 2))):=fun h=>rparse_j1 l c0 hz ⟨c1,c2,c3,h⟩ h1
 by_cases d1:bt (rdOf ByteArray.empty l 2) 0=99
 ·simp only [if_pos (k99.2 d1)]
  refine go ?_
  rw [hk,if_pos d1]
  split<;>decide
 simp only [if_neg (fun h=>d1 (k99.1 h))]
 by_cases d2:bt (rdOf ByteArray.empty l 2) 0=112
 ·simp only [if_pos (k112.2 d2)]
  refine go ?_
  rw [hk,if_neg d1,if_pos d2]
  split<;>decide
 simp only [if_neg (fun h=>d2 (k112.1 h))]
 by_cases d3:bytesOf (rdOf ByteArray.empty l 2)=[102]
 ·have e:((rdOf ByteArray.empty l 2).toList != ([102]:List UInt8))=false:=by rw [bne_eq_false_iff_eq];exact k102.2 d3
  simp only [e]
  refine go ?_
  rw [hk,if_pos d3]
  decide
 ·have e:((rdOf ByteArray.empty l 2).toList != ([102]:List UInt8))=true:=by rw [bne_iff_ne];exact fun h=>d3 (k102.1 h)
  simp only [e]
  rw [no fun h=>h.2.2.2 (by rw [hk,if_neg d3,if_neg d1,if_neg d2])]
  exact bad1 _
def digsF:Int→Nat→List Int
 | _,0=>[]
 | n,d+1=>digsF (n / 10) d++[48+n % 10]
theorem rdig_loop (many:Nat) (hm:many≤100):∀ (d i:Nat) (n:Int) (s:ByteArray),i+d=many→0≤n→n≤1000000→s.size+d≤200→Ev (fun k=>contangoref10_digits.l0 k n (many:Int) s (i:Int)) (strOfNums (digsF n d)++s)
 | 0,i,n,s,hd,h0,h1,hs=>by
  refine Ev_succ ?_
  simp only [contangoref10_digits.l0,if_neg (show ¬ (i:Int) < (many:Int) by omega)]
  have e:strOfNums (digsF n 0)++s=s:=by apply by_inj;rw [by_app];rfl
  rw [e]
  exact Ev.now _
 | d+1,i,n,s,hd,h0,h1,hs=>by
  have w0:(wrap64 (48+Int.tmod n 10)) % 256=48+n % 10:=by rw [Int.tmod_eq_emod_of_nonneg h0,w_id (by omega) (by omega)];omega
  have w1:wrap64 (Int.tdiv n 10)=n / 10:=by rw [Int.tdiv_eq_ediv_of_nonneg h0];exact w_id (by omega) (by omega)
  have w2:wrap64 ((i:Int)+1)=((i+1:Nat):Int):=by rw [w_id (by omega) (by omega)];omega
  have z1:(strOfNums [48+n % 10]).size=1:=by rw [strOfNums_size];rfl
  refine Ev_succ ?_
  simp only [contangoref10_digits.l0,if_pos (show (i:Int) < (many:Int) by omega),Option.bind_some,w0,w1,w2,z1,if_pos (show 1+s.size≤9223372036854775807 by omega)]
  have ih:=rdig_loop many hm d (i+1) (n / 10) (strOfNums [48+n % 10]++s) (by omega) (by omega) (by omega) (by rw [ByteArray.size_append,z1];omega)
  have e:strOfNums (digsF (n / 10) d)++(strOfNums [48+n % 10]++s)=strOfNums (digsF n (d+1))++s:=by
   rw [← ByteArray.append_assoc,← str_app]
   rfl
  rw [e] at ih
  exact ih
theorem rdig_f (n:Int) (many:Nat) (hm:many≤100) (h0:0≤n) (h1:n≤1000000):Ev (fun k=>contangoref10_digits.f k n (many:Int)) (strOfNums (digsF n many)):=by
 have:=rdig_loop many hm many 0 n (⟨#[]⟩:ByteArray) (by omega) h0 h1 (by show 0+many≤200;omega)
 have e:strOfNums (digsF n many)++(⟨#[]⟩:ByteArray)=strOfNums (digsF n many):=by apply by_inj;rw [by_app];simp [bytesOf]
 rw [e] at this
 exact this
def dayL (day:Int):List Int:=digsF (splitV day).1 4++digsF (splitV day).2.1 2++digsF (splitV day).2.2.1 2
def dayS (day:Int):ByteArray:=strOfNums (dayL day)
def okPrint (s:Ser):Prop:=1≤s.f1∧s.f1≤3∧0≤s.f2∧s.f2≤73048
instance (s:Ser):Decidable (okPrint s):=inferInstanceAs (Decidable (_∧_∧_∧_))
def frontS (s:Ser):ByteArray:=((s.f0++(⟨#[46]⟩:ByteArray))++dayS s.f2)++(⟨#[46]⟩:ByteArray)
def printS (s:Ser):ByteArray:=if okPrint s then (if s.f1=2 then (frontS s++(⟨#[99]⟩:ByteArray))++textS s.f3 else if s.f1=3 then (frontS s++(⟨#[112]⟩:ByteArray))++textS s.f3 else frontS s++(⟨#[102]⟩:ByteArray)) else (⟨#[]⟩:ByteArray)
theorem dayS_size (day:Int):(dayS day).size=8:=by unfold dayS;rw [strOfNums_size];rfl
theorem day_print {day:Int} (h:0≤day∧day≤73048):strings_ReplaceAll.f (strOfNums (dateC (splitV day).1 (splitV day).2.1 (splitV day).2.2.1 false false false)) (⟨#[45]⟩:ByteArray) (⟨#[]⟩:ByteArray)=some (dayS day):=by
 obtain ⟨r1,r2,r3,r4,r5,r6⟩:=split_rng h
 have r7:=split_day h
 unfold strings_ReplaceAll.f
 rw [if_pos]
 ·have:=day_out (a:=48+(splitV day).1 / 1000 % 10) (b:=48+(splitV day).1 / 100 % 10) (c:=48+(splitV day).1 / 10 % 10) (d:=48+(splitV day).1 % 10) (e:=48+(splitV day).2.1 / 10 % 10) (f:=48+(splitV day).2.1 % 10) (g:=48+(splitV day).2.2.1 / 10 % 10) (h:=48+(splitV day).2.2.1 % 10) (by omega) (by omega) (by omega) (by omega) (by omega) (by omega) (by omega) (by omega)
  rw [show strOfNums (dateC (splitV day).1 (splitV day).2.1 (splitV day).2.2.1 false false false)=strOfNums [48+(splitV day).1 / 1000 % 10,48+(splitV day).1 / 100 % 10,48+(splitV day).1 / 10 % 10,48+(splitV day).1 % 10,45,48+(splitV day).2.1 / 10 % 10,48+(splitV day).2.1 % 10,45,48+(splitV day).2.2.1 / 10 % 10,48+(splitV day).2.2.1 % 10] from rfl]
  show some (⟨(Lib.replaceAll _ [45] []).toArray⟩:ByteArray)=_
  rw [this]
  unfold dayS dayL
  congr 2
  show _=[48+(splitV day).1 / 10 / 10 / 10 % 10,48+(splitV day).1 / 10 / 10 % 10,48+(splitV day).1 / 10 % 10,48+(splitV day).1 % 10,48+(splitV day).2.1 / 10 % 10,48+(splitV day).2.1 % 10,48+(splitV day).2.2.1 / 10 % 10,48+(splitV day).2.2.1 % 10]
  rw [show (splitV day).1 / 10 / 10 / 10=(splitV day).1 / 1000 by omega,show (splitV day).1 / 10 / 10=(splitV day).1 / 100 by omega]
 ·refine ⟨?_,by decide,?_⟩
  ·rw [strOfNums_size];show 10 < 4294967281;decide
  ·rw [strOfNums_size];show 10+_*0≤140737488355328;omega
theorem print_f10 (s:Ser) (h0:s.f0.size≤140737488351232) (h3:I64 s.f3):Ev (fun k=>series_Print.f k s.f0 s.f1 s.f2 s.f3) (printS s):=by
 unfold series_Print.f date_Print.f printS
 simp only [Option.bind_some]
 have bad:∀ t,¬ okPrint s→Ev (fun k=>series_Print.j0 k t true s.f0 s.f1 s.f2 s.f3) (if okPrint s then (if s.f1=2 then (frontS s++(⟨#[99]⟩:ByteArray))++textS s.f3 else if s.f1=3 then (frontS s++(⟨#[112]⟩:ByteArray))++textS s.f3 else frontS s++(⟨#[102]⟩:ByteArray)) else (⟨#[]⟩:ByteArray)):=fun t h=>by
  rw [if_neg h]
  refine Ev_succ ?_
  simp only [series_Print.j0,if_true]
  exact Ev.now _
 by_cases c1:s.f1 < 1
 ·simp only [if_pos c1];exact bad _ fun h=>by have:=h.1;omega
 by_cases c2:s.f1 > 3
 ·simp only [if_neg c1,if_pos c2];exact bad _ fun h=>by have:=h.2.1;omega
 simp only [if_neg c1,if_neg c2]
 by_cases c3:0≤s.f2∧s.f2≤73048
 case neg =>
  simp only [if_neg c3]
  have e:((⟨#[]⟩:ByteArray).toList == ([]:List UInt8))=true:=by rw [beq_iff_eq,by_emp];rfl
  rw [e]
  exact bad _ fun h=>c3 h.2.2
 simp only [if_pos c3]
 have hok:okPrint s:=⟨by omega,by omega,c3⟩
 rw [if_pos hok]
 have hne:((strOfNums (dateC (splitV s.f2).1 (splitV s.f2).2.1 (splitV s.f2).2.2.1 false false false)).toList == ([]:List UInt8))=false:=by
  rw [beq_eq_false_iff_ne]
  intro h
  have:=congrArg List.length ((by_emp _).1 h)
  rw [by_len,strOfNums_size] at this
  exact absurd this (by show ¬ (10:Nat)=0;decide)
 rw [hne]
 refine Ev_succ ?_
 have z:=dayS_size s.f2
 have zt:=textS_size s.f3 h3.1 h3.2
 have z46:(⟨#[46]⟩:ByteArray).size=1:=rfl
 have z99:(⟨#[99]⟩:ByteArray).size=1:=rfl
 have z112:(⟨#[112]⟩:ByteArray).size=1:=rfl
 have ht:words_Text.f s.f3=some (textS s.f3):=text_f s.f3 h3.1 h3.2
 simp only [series_Print.j0,Bool.false_eq_true,if_false,day_print c3,Option.bind_some,ByteArray.size_append,z,z46,z99,z112,ht,if_pos (show s.f0.size+1≤9223372036854775807 by omega),if_pos (show s.f0.size+1+8≤9223372036854775807 by omega),if_pos (show s.f0.size+1+8+1≤9223372036854775807 by omega),if_pos (show s.f0.size+1+8+1+1≤9223372036854775807 by omega),if_pos (show s.f0.size+1+8+1+1+(textS s.f3).size≤9223372036854775807 by omega)]
 unfold frontS
 by_cases d2:s.f1=2
 ·simp only [if_pos d2];exact Ev.now _
 by_cases d3:s.f1=3
 ·simp only [if_neg d2,if_pos d3];exact Ev.now _
 ·simp only [if_neg d2,if_neg d3];exact Ev.now _
theorem rprint_f10 (s:Ser) (h0:s.f0.size≤140737488351232) (h3:I64 s.f3):Ev (fun k=>contangoref10_Print.f k s.f0 s.f1 s.f2 s.f3) (printS s):=by
 unfold contangoref10_Print.f printS
 refine Ev_bind (splitR_f s.f2) ?_
 have bad:∀ y m d,¬ okPrint s→Ev (fun k=>contangoref10_Print.j0 k y m d true s.f0 s.f1 s.f2 s.f3) (if okPrint s then (if s.f1=2 then (frontS s++(⟨#[99]⟩:ByteArray))++textS s.f3 else if s.f1=3 then (frontS s++(⟨#[112]⟩:ByteArray))++textS s.f3 else frontS s++(⟨#[102]⟩:ByteArray)) else (⟨#[]⟩:ByteArray)):=fun y m d h=>by
  rw [if_neg h]
  refine Ev_succ ?_
  simp only [contangoref10_Print.j0,if_true]
  exact Ev.now _
 by_cases c3:0≤s.f2∧s.f2≤73048
 case neg =>
  have e:(splitV s.f2).2.2.2=15:=by unfold splitV;rw [if_neg c3]
  simp only [e,if_neg (show ¬ (15:Int)=0 by decide)]
  exact bad _ _ _ fun h=>c3 h.2.2
 obtain ⟨r1,r2,r3,r4,r5,r6⟩:=split_rng c3
 have r7:=split_day c3
 simp only [if_pos r6]
 by_cases c1:s.f1 < 1
 ·simp only [if_pos c1];exact bad _ _ _ fun h=>by have:=h.1;omega
 by_cases c2:s.f1 > 3
 ·simp only [if_neg c1,decide_eq_true c2];exact bad _ _ _ fun h=>by have:=h.2.1;omega
 simp only [if_neg c1,decide_eq_false c2]
 have hok:okPrint s:=⟨by omega,by omega,c3⟩
 rw [if_pos hok]
 refine Ev_succ ?_
 have zt:=textS_size s.f3 h3.1 h3.2
 have z46:(⟨#[46]⟩:ByteArray).size=1:=rfl
 have z99:(⟨#[99]⟩:ByteArray).size=1:=rfl
 have z112:(⟨#[112]⟩:ByteArray).size=1:=rfl
 have zy:(strOfNums (digsF (splitV s.f2).1 4)).size=4:=by rw [strOfNums_size];rfl
 have zm:(strOfNums (digsF (splitV s.f2).2.1 2)).size=2:=by rw [strOfNums_size];rfl
 have zd:(strOfNums (digsF (splitV s.f2).2.2.1 2)).size=2:=by rw [strOfNums_size];rfl
 simp only [contangoref10_Print.j0,Bool.false_eq_true,if_false,if_pos (show s.f0.size+1≤9223372036854775807 by omega)]
 refine Ev_bind (rdig_f (splitV s.f2).1 4 (by decide) (by omega) (by omega)) ?_
 simp only [ByteArray.size_append,z46,zy,if_pos (show s.f0.size+1+4≤9223372036854775807 by omega)]
 refine Ev_bind (rdig_f (splitV s.f2).2.1 2 (by decide) (by omega) (by omega)) ?_
 simp only [ByteArray.size_append,z46,zy,zm,if_pos (show s.f0.size+1+4+2≤9223372036854775807 by omega)]
 refine Ev_bind (rdig_f (splitV s.f2).2.2.1 2 (by decide) (by omega) (by omega)) ?_
 simp only [ByteArray.size_append,z46,z99,z112,zy,zm,zd,if_pos (show s.f0.size+1+4+2+2≤9223372036854775807 by omega),if_pos (show s.f0.size+1+4+2+2+1≤9223372036854775807 by omega),if_pos (show s.f0.size+1+4+2+2+1+1≤9223372036854775807 by omega)]
 have hfr:((((s.f0++(⟨#[46]⟩:ByteArray))++strOfNums (digsF (splitV s.f2).1 4))++strOfNums (digsF (splitV s.f2).2.1 2))++strOfNums (digsF (splitV s.f2).2.2.1 2))++(⟨#[46]⟩:ByteArray)=frontS s:=by
  unfold frontS dayS dayL
  rw [str_app,str_app]
  simp only [ByteArray.append_assoc]
 rw [hfr]
 by_cases d1:s.f1=1
 ·have d2:¬ s.f1=2:=by omega
  have d3:¬ s.f1=3:=by omega
  simp only [if_pos d1,if_neg d2,if_neg d3];exact Ev.now _
 by_cases d2:s.f1=2
 ·simp only [if_neg d1,if_pos d2]
  refine Ev_bind (rText_f s.f3 h3.1 h3.2) ?_
  simp only [show (strOfNums (textL s.f3)).size=(textS s.f3).size from rfl,if_pos (show s.f0.size+1+4+2+2+1+1+(textS s.f3).size≤9223372036854775807 by omega)]
  exact Ev.now _
 ·have d3:s.f1=3:=by omega
  simp only [if_neg d1,if_neg d2,if_pos d3]
  refine Ev_bind (rText_f s.f3 h3.1 h3.2) ?_
  simp only [show (strOfNums (textL s.f3)).size=(textS s.f3).size from rfl,if_pos (show s.f0.size+1+4+2+2+1+1+(textS s.f3).size≤9223372036854775807 by omega)]
  exact Ev.now _
end Go.Proofs.YthpmmofleddpnaaDoor.P
end
section
namespace Go.Proofs.YthpmmofleddpnaaDoor.P
set_option linter.unusedVariables false
set_option linter.unusedSimpArgs false
open Go.RowKit Go.Proofs.YthpmmofleddpnaaDoorW.PrintWords Go.Proofs.YthpmmofleddpnaaDoorW.PrintMore Go.Proofs.YthpmmofleddpnaaDoor.X
theorem digsF_dig:∀ (d:Nat) (n:Int),∀ x ∈ digsF n d,digitB x=true
 | 0,n,x,hx=>by cases hx
 | d+1,n,x,hx=>by
  rcases List.mem_append.1 hx with h|h
  ·exact digsF_dig d (n / 10) x h
  ·obtain rfl:=List.mem_singleton.1 h
   unfold digitB
   simp only [Bool.and_eq_true,decide_eq_true_eq]
   omega
theorem dayL_dig (day:Int):∀ x ∈ dayL day,digitB x=true:=by
 unfold dayL
 intro x hx
 rcases List.mem_append.1 hx with h|h
 ·rcases List.mem_append.1 h with h|h
  ·exact digsF_dig _ _ x h
  ·exact digsF_dig _ _ x h
 ·exact digsF_dig _ _ x h
theorem dayS_by (day:Int):bytesOf (dayS day)=dayL day:=by_str _ fun x hx=>by have:=dig_rng (dayL_dig day x hx);omega
def lastL (s:Ser):List Int:=if s.f1=2 then 99 :: textL s.f3 else if s.f1=3 then 112 :: textL s.f3 else [102]
theorem print_by {s:Ser} (h:okPrint s):bytesOf (printS s)=bytesOf s.f0++46 :: (dayL s.f2++46 :: lastL s):=by
 unfold printS lastL
 rw [if_pos h]
 have e46:bytesOf (⟨#[46]⟩:ByteArray)=[46]:=rfl
 have e99:bytesOf (⟨#[99]⟩:ByteArray)=[99]:=rfl
 have e112:bytesOf (⟨#[112]⟩:ByteArray)=[112]:=rfl
 have e102:bytesOf (⟨#[102]⟩:ByteArray)=[102]:=rfl
 by_cases c2:s.f1=2
 ·rw [if_pos c2,if_pos c2]
  unfold frontS
  simp only [by_app,e46,e99,dayS_by,textS_by,List.append_assoc,List.singleton_append,List.cons_append,List.nil_append]
 ·rw [if_neg c2,if_neg c2]
  by_cases c3:s.f1=3
  ·rw [if_pos c3,if_pos c3]
   unfold frontS
   simp only [by_app,e46,e112,dayS_by,textS_by,List.append_assoc,List.singleton_append,List.cons_append,List.nil_append]
  ·rw [if_neg c3,if_neg c3]
   unfold frontS
   simp only [by_app,e46,e102,dayS_by,textS_by,List.append_assoc,List.singleton_append,List.cons_append,List.nil_append]
end Go.Proofs.YthpmmofleddpnaaDoor.P
end
section
namespace Go.Proofs.YthpmmofleddpnaaDoor.P
set_option linter.unusedVariables false
set_option linter.unusedSimpArgs false
open Go.RowKit Go.Proofs.YthpmmofleddpnaaDoorW.PrintWords Go.Proofs.YthpmmofleddpnaaDoorW.PrintMore Go.Proofs.YthpmmofleddpnaaDoor.X
abbrev Trd:=S27
def tupE (t:Trd) (e:Int):Int × Int × Int × ByteArray × Int × Int × Int × Int × Int × ByteArray × ByteArray × ByteArray × ByteArray × Int:=(t.f0,t.f1,t.f2,t.f3.f0,t.f3.f1,t.f3.f2,t.f3.f3,t.f4,t.f5,t.f6.f0,t.f6.f1,t.f7.f0,t.f7.f1,e)
end Go.Proofs.YthpmmofleddpnaaDoor.P
end
section
namespace Go.Proofs.YthpmmofleddpnaaDoor.P
set_option linter.unusedVariables false
set_option linter.unusedSimpArgs false
open Go.RowKit Go.Proofs.YthpmmofleddpnaaDoorW.PrintWords Go.Proofs.YthpmmofleddpnaaDoorW.PrintMore Go.Proofs.YthpmmofleddpnaaDoor.X
theorem fields_512 {s:ByteArray}:∀ x ∈ (fieldsS s).1,x.size≤512:=by
 intro x hx
 unfold fieldsS fieldsE at hx
 by_cases c1:512 < (bytesOf s).length
 ·rw [if_pos c1] at hx;simp at hx
 rw [if_neg c1] at hx
 by_cases c2:bytesOf s=[]
 ·rw [if_pos c2] at hx;simp at hx
 rw [if_neg c2] at hx
 by_cases c3:(splitI 32 (bytesOf s)).all goodP=true
 case neg=>rw [if_neg c3] at hx;simp at hx
 rw [if_pos c3] at hx
 obtain ⟨p,hp,rfl⟩:=List.mem_map.1 hx
 rw [strOfNums_size]
 have:=(split_le 32 _ p hp).1
 omega
theorem rfS_eq (l:List ByteArray) (i:Nat) (h:i < l.length):rfS l i=l[i]:=rdOf_nat _ _ i h
theorem rfS_512 {s:ByteArray} (i:Nat) (h:i < (fieldsS s).1.length):(rfS (fieldsS s).1 i).size≤512:=by
 rw [rfS_eq _ i h]
 exact fields_512 _ (List.getElem_mem h)
def stI (x:ByteArray):Int × Int:=intL (bytesOf x)
def zT:Trd:=z27
def q5 (l:List ByteArray) (t:Trd):Trd × Int:=if (stI (rfS l 5)).2=0 then ({ t with f5:=(stI (rfS l 5)).1 },0) else (zT,(stI (rfS l 5)).2)
def q4 (l:List ByteArray) (t:Trd):Trd × Int:=if (stI (rfS l 4)).2=0 then q5 l { t with f4:=(stI (rfS l 4)).1 } else (zT,(stI (rfS l 4)).2)
def q3 (l:List ByteArray) (t:Trd):Trd × Int:=if (parseS (rfS l 3)).2=0 then q4 l { t with f3:=(parseS (rfS l 3)).1 } else (zT,(parseS (rfS l 3)).2)
def q2 (l:List ByteArray) (t:Trd):Trd × Int:=if (stI (rfS l 2)).2=0 then q3 l { t with f2:=(stI (rfS l 2)).1 } else (zT,(stI (rfS l 2)).2)
def q1 (l:List ByteArray) (t:Trd):Trd × Int:=if (stI (rfS l 1)).2=0 then q2 l { t with f1:=(stI (rfS l 1)).1 } else (zT,(stI (rfS l 1)).2)
def q0 (l:List ByteArray) (t:Trd):Trd × Int:=if (stI (rfS l 0)).2=0 then q1 l { t with f0:=(stI (rfS l 0)).1 } else (zT,(stI (rfS l 0)).2)
def parseT (s:ByteArray):Trd × Int:=if (fieldsS s).2=0 then (if (fieldsS s).1.length=10 then (if ((fieldsS s).1.drop 6).all nameB=true then q0 (fieldsS s).1 (t0T (fieldsS s).1) else (zT,5)) else (zT,5)) else (zT,(fieldsS s).2)
theorem Ev_q {α:Type} {g:Nat→Int × Int→Option α} {f:Nat→Option (Int × Int)} {v:Int × Int} {a b:α} (hf:Ev f v) (h1:v.2=0→Ev (fun k=>g k v) a) (h2:v.2≠0→Ev (fun k=>g k v) b):Ev (fun k=>(f k).bind (g k)) (if v.2=0 then a else b):=by
 refine Ev_bind hf ?_
 by_cases c:v.2=0
 ·rw [if_pos c];exact h1 c
 ·rw [if_neg c];exact h2 c
theorem int_fT (x:ByteArray) (h:x.size≤512):Ev (fun k=>words_Int.f k x) (stI x):=int_f x (by omega)
theorem rint_fT (x:ByteArray) (h:x.size≤512):Ev (fun k=>contangoref03_Int.f k x) (stI x):=by
 have:=rint_f x (by omega)
 rw [← int_same] at this
 exact this
theorem pr5_f (l:List ByteArray) (t:Trd) (h:∀ i,i < 10→(rfS l i).size≤512):Ev (fun k=>pr5 k l t) (q5 l t):=by
 unfold pr5 q5
 refine Ev_q (int_fT _ (h 5 (by omega))) (fun c=>?_) (fun c=>?_)
 ·simp only [if_pos c,pr6];exact Ev.now _
 ·simp only [if_neg c];exact Ev.now _
theorem pr4_f (l:List ByteArray) (t:Trd) (h:∀ i,i < 10→(rfS l i).size≤512):Ev (fun k=>pr4 k l t) (q4 l t):=by
 unfold pr4 q4
 refine Ev_q (int_fT _ (h 4 (by omega))) (fun c=>?_) (fun c=>?_)
 ·simp only [if_pos c];exact pr5_f l _ h
 ·simp only [if_neg c];exact Ev.now _
theorem pr3_f (l:List ByteArray) (t:Trd) (h:∀ i,i < 10→(rfS l i).size≤512):Ev (fun k=>pr3 k l t) (q3 l t):=by
 unfold pr3 q3
 refine Ev_bind (parse_f10 _ (by have:=h 3 (by omega);omega)) ?_
 by_cases c:(parseS (rfS l 3)).2=0
 ·simp only [if_pos c,if_pos (show (tS (parseS (rfS l 3))).2.2.2.2=0 from c)];exact pr4_f l _ h
 ·simp only [if_neg c,if_neg (show ¬ (tS (parseS (rfS l 3))).2.2.2.2=0 from c)];exact Ev.now _
theorem pr2_f (l:List ByteArray) (t:Trd) (h:∀ i,i < 10→(rfS l i).size≤512):Ev (fun k=>pr2 k l t) (q2 l t):=by
 unfold pr2 q2
 refine Ev_q (int_fT _ (h 2 (by omega))) (fun c=>?_) (fun c=>?_)
 ·simp only [if_pos c];exact pr3_f l _ h
 ·simp only [if_neg c];exact Ev.now _
theorem pr1_f (l:List ByteArray) (t:Trd) (h:∀ i,i < 10→(rfS l i).size≤512):Ev (fun k=>pr1 k l t) (q1 l t):=by
 unfold pr1 q1
 refine Ev_q (int_fT _ (h 1 (by omega))) (fun c=>?_) (fun c=>?_)
 ·simp only [if_pos c];exact pr2_f l _ h
 ·simp only [if_neg c];exact Ev.now _
theorem pr0_f (l:List ByteArray) (t:Trd) (h:∀ i,i < 10→(rfS l i).size≤512):Ev (fun k=>pr0 k l t) (q0 l t):=by
 unfold pr0 q0
 refine Ev_q (int_fT _ (h 0 (by omega))) (fun c=>?_) (fun c=>?_)
 ·simp only [if_pos c];exact pr1_f l _ h
 ·simp only [if_neg c];exact Ev.now _
theorem ixf_loop (l:List ByteArray) (hl:l.length≤100000):∀ (d i:Nat),i+d=l.length→∃ r,Ev (fun k=>slices_IndexFunc_string_string.l0 k l l.length (i:Int)) r∧decide (r ≥ 0) = !((l.drop i).all nameB)
 | 0,i,hd=>by
  refine ⟨-1,Ev_succ ?_,?_⟩
  ·simp only [slices_IndexFunc_string_string.l0,if_neg (show ¬ (i:Int) < (l.length:Int) by omega)]
   exact Ev.now _
  ·rw [List.drop_of_length_le (by omega)];rfl
 | d+1,i,hd=>by
  have hi:i < l.length:=by omega
  have hr:rdOf ByteArray.empty l (i:Int)=l[i]:=rdOf_nat _ _ i hi
  have hp:Ev (fun k=>trade_Parse_1.f k l[i]) (!nameB l[i]):=by
   unfold trade_Parse_1.f
   exact Ev_bind (name_f l[i]) (Ev.now _)
  obtain ⟨r,h1,h2⟩:=ixf_loop l hl d (i+1) (by omega)
  by_cases c:nameB l[i]=true
  ·refine ⟨r,Ev_succ ?_,?_⟩
   ·simp only [slices_IndexFunc_string_string.l0,if_pos (show (i:Int) < (l.length:Int) by omega),if_pos (show 0≤(i:Int) by omega),hr,w_succ hi (by omega)]
    refine Ev_bind hp ?_
    rw [c]
    simp only [Bool.not_true,Bool.false_eq_true,if_false]
    exact h1
   ·rw [h2,drop_cons l i hi,List.all_cons,c,Bool.true_and]
  ·have c':nameB l[i]=false:=by simpa using c
   refine ⟨(i:Int),Ev_succ ?_,?_⟩
   ·simp only [slices_IndexFunc_string_string.l0,if_pos (show (i:Int) < (l.length:Int) by omega),if_pos (show 0≤(i:Int) by omega),hr,w_succ hi (by omega)]
    refine Ev_bind hp ?_
    rw [c']
    simp only [Bool.not_false,if_true]
    exact Ev.now _
   ·rw [drop_cons l i hi,List.all_cons,c',Bool.false_and,decide_eq_true (by omega)]
    rfl
theorem contains_f (l:List ByteArray) (hl:l.length≤100000):Ev (fun k=>slices_ContainsFunc_string_string.f k l) (!(l.all nameB)):=by
 unfold slices_ContainsFunc_string_string.f
 obtain ⟨r,h1,h2⟩:=ixf_loop l hl l.length 0 (by omega)
 rw [List.drop_zero] at h2
 refine Ev_bind (g:=fun k=>slices_IndexFunc_string_string.f k l) h1 ?_
 rw [h2]
 exact Ev.now _
theorem prs_f (s:ByteArray):Ev (fun k=>prsT k s) (parseT s):=by
 unfold prsT parseT
 refine Ev_bind (fields_f s) ?_
 by_cases c1:(fieldsS s).2=0
 case neg=>simp only [if_neg c1];exact Ev.now _
 simp only [if_pos c1]
 by_cases c2:(fieldsS s).1.length=10
 case neg=>simp only [if_neg c2];exact Ev.now _
 simp only [if_pos c2]
 refine Ev_bind (contains_f _ (by rw [List.length_drop];omega)) ?_
 by_cases c3:((fieldsS s).1.drop 6).all nameB=true
 ·simp only [c3,Bool.not_true,Bool.false_eq_true,if_false,if_true]
  exact pr0_f _ _ fun i hi=>rfS_512 i (by omega)
 ·have c3':((fieldsS s).1.drop 6).all nameB=false:=by simpa using c3
  simp only [c3',Bool.not_false,if_true,Bool.false_eq_true,if_false]
  exact Ev.now _
theorem tparse_f (s:ByteArray):Ev (fun k=>trade_Parse.f k s) (tupE (parseT s).1 (parseT s).2):=by
 unfold trade_Parse.f
 exact Ev_bind (prs_f s) (Ev.now _)
theorem rr5_f (l:List ByteArray) (t:Trd) (h:∀ i,i < 10→(rfS l i).size≤512):Ev (fun k=>rr5 k l t) (q5 l t):=by
 unfold rr5 q5
 refine Ev_q (rint_fT _ (h 5 (by omega))) (fun c=>?_) (fun c=>?_)
 ·simp only [if_pos c,pr6];exact Ev.now _
 ·simp only [if_neg c];exact Ev.now _
theorem rr4_f (l:List ByteArray) (t:Trd) (h:∀ i,i < 10→(rfS l i).size≤512):Ev (fun k=>rr4 k l t) (q4 l t):=by
 unfold rr4 q4
 refine Ev_q (rint_fT _ (h 4 (by omega))) (fun c=>?_) (fun c=>?_)
 ·simp only [if_pos c];exact rr5_f l _ h
 ·simp only [if_neg c];exact Ev.now _
theorem rr3_f (l:List ByteArray) (t:Trd) (h:∀ i,i < 10→(rfS l i).size≤512):Ev (fun k=>rr3 k l t) (q3 l t):=by
 unfold rr3 q3
 refine Ev_bind (rparse_f10 _ (by have:=h 3 (by omega);omega)) ?_
 by_cases c:(parseS (rfS l 3)).2=0
 ·simp only [if_pos c,if_pos (show (tS (parseS (rfS l 3))).2.2.2.2=0 from c)];exact rr4_f l _ h
 ·simp only [if_neg c,if_neg (show ¬ (tS (parseS (rfS l 3))).2.2.2.2=0 from c)];exact Ev.now _
theorem rr2_f (l:List ByteArray) (t:Trd) (h:∀ i,i < 10→(rfS l i).size≤512):Ev (fun k=>rr2 k l t) (q2 l t):=by
 unfold rr2 q2
 refine Ev_q (rint_fT _ (h 2 (by omega))) (fun c=>?_) (fun c=>?_)
 ·simp only [if_pos c];exact rr3_f l _ h
 ·simp only [if_neg c];exact Ev.now _
theorem rr1_f (l:List ByteArray) (t:Trd) (h:∀ i,i < 10→(rfS l i).size≤512):Ev (fun k=>rr1 k l t) (q1 l t):=by
 unfold rr1 q1
 refine Ev_q (rint_fT _ (h 1 (by omega))) (fun c=>?_) (fun c=>?_)
 ·simp only [if_pos c];exact rr2_f l _ h
 ·simp only [if_neg c];exact Ev.now _
theorem rr0_f (l:List ByteArray) (t:Trd) (h:∀ i,i < 10→(rfS l i).size≤512):Ev (fun k=>rr0 k l t) (q0 l t):=by
 unfold rr0 q0
 refine Ev_q (rint_fT _ (h 0 (by omega))) (fun c=>?_) (fun c=>?_)
 ·simp only [if_pos c];exact rr1_f l _ h
 ·simp only [if_neg c];exact Ev.now _
theorem nmAt_f (l:List ByteArray) (h:∀ x ∈ l,x.size≤512):∀ (d i:Nat),i+d=l.length→Ev (fun k=>nmAt k l d i) ((l.drop i).all nameB)
 | 0,i,hd=>by
  rw [List.drop_of_length_le (by omega)]
  exact Ev.now _
 | d+1,i,hd=>by
  have hi:i < l.length:=by omega
  rw [drop_cons l i hi,List.all_cons]
  simp only [nmAt,rfS_eq l i hi]
  refine Ev_bind (nameR_f l[i] (by have:=h _ (List.getElem_mem hi);omega)) ?_
  by_cases c:nameB l[i]=true
  ·rw [c,Bool.true_and]
   simp only [if_true]
   exact nmAt_f l h d (i+1) (by omega)
  ·have c':nameB l[i]=false:=by simpa using c
   rw [c',Bool.false_and]
   simp only [Bool.false_eq_true,if_false]
   exact Ev.now _
theorem rrs_f (s:ByteArray):Ev (fun k=>rrsT k s) (parseT s):=by
 unfold rrsT parseT
 refine Ev_bind (rfields_f s) ?_
 by_cases c1:(fieldsS s).2=0
 case neg=>simp only [if_neg c1];exact Ev.now _
 simp only [if_pos c1]
 by_cases c2:(fieldsS s).1.length=10
 case neg=>simp only [if_neg c2];exact Ev.now _
 simp only [if_pos c2]
 refine Ev_bind (nmAt_f (fieldsS s).1 fields_512 4 6 (by omega)) ?_
 by_cases c3:((fieldsS s).1.drop 6).all nameB=true
 ·simp only [if_pos c3]
  exact rr0_f _ _ fun i hi=>rfS_512 i (by omega)
 ·simp only [if_neg c3]
  exact Ev.now _
theorem rtparse_f (s:ByteArray):Ev (fun k=>contangoref12_Parse.f k s) (tupE (parseT s).1 (parseT s).2):=by
 unfold contangoref12_Parse.f
 exact Ev_bind (rrs_f s) (Ev.now _)
def lineT (t:Trd):List ByteArray:=[textS t.f0,textS t.f1,textS t.f2,printS t.f3,textS t.f4,textS t.f5,t.f6.f0,t.f6.f1,t.f7.f0,t.f7.f1]
def I64T (t:Trd):Prop:=I64 t.f0∧I64 t.f1∧I64 t.f2∧I64 t.f3.f3∧I64 t.f4∧I64 t.f5
theorem tprint_f (t:Trd) (hI:I64T t) (h3:t.f3.f0.size≤140737488351232) (hs:sumZ (lineT t)≤140737488355328):Ev (fun k=>trade_Print.f k t.f0 t.f1 t.f2 t.f3.f0 t.f3.f1 t.f3.f2 t.f3.f3 t.f4 t.f5 t.f6.f0 t.f6.f1 t.f7.f0 t.f7.f1) (joinS (lineT t)):=by
 obtain ⟨i0,i1,i2,i3,i4,i5⟩:=hI
 unfold trade_Print.f
 have e0:words_Text.f t.f0=some (textS t.f0):=text_f _ i0.1 i0.2
 have e1:words_Text.f t.f1=some (textS t.f1):=text_f _ i1.1 i1.2
 have e2:words_Text.f t.f2=some (textS t.f2):=text_f _ i2.1 i2.2
 have e4:words_Text.f t.f4=some (textS t.f4):=text_f _ i4.1 i4.2
 have e5:words_Text.f t.f5=some (textS t.f5):=text_f _ i5.1 i5.2
 rw [e0,e1,e2,e4,e5]
 simp only [Option.bind_some]
 refine Ev_bind (print_f10 t.f3 h3 i3) ?_
 have hj:=join_f (lineT t) hs
 have hl:([textS t.f0,textS t.f1,textS t.f2,printS t.f3,textS t.f4,textS t.f5,t.f6.f0,t.f6.f1,t.f7.f0,t.f7.f1]:List ByteArray)=lineT t:=rfl
 rw [hl,hj]
 exact Ev.now _
theorem rtprint_f (t:Trd) (hI:I64T t) (h3:t.f3.f0.size≤140737488351232) (hs:sumZ (lineT t)≤140737488355328):Ev (fun k=>contangoref12_Print.f k t.f0 t.f1 t.f2 t.f3.f0 t.f3.f1 t.f3.f2 t.f3.f3 t.f4 t.f5 t.f6.f0 t.f6.f1 t.f7.f0 t.f7.f1) (joinS (lineT t)):=by
 obtain ⟨i0,i1,i2,i3,i4,i5⟩:=hI
 unfold contangoref12_Print.f
 refine Ev_bind (rText_f t.f0 i0.1 i0.2) ?_
 refine Ev_bind (rText_f t.f1 i1.1 i1.2) ?_
 refine Ev_bind (rText_f t.f2 i2.1 i2.2) ?_
 refine Ev_bind (rprint_f10 t.f3 h3 i3) ?_
 refine Ev_bind (rText_f t.f4 i4.1 i4.2) ?_
 refine Ev_bind (rText_f t.f5 i5.1 i5.2) ?_
 exact Ev_bind (rjoin_f (lineT t) hs) (Ev.now _)
end Go.Proofs.YthpmmofleddpnaaDoor.P
end
section
namespace Go.Proofs.YthpmmofleddpnaaDoor.P
open Go.RowKit Go.Proofs.YthpmmofleddpnaaDoorW.PrintWords Go.Proofs.YthpmmofleddpnaaDoorW.PrintMore Go.Proofs.YthpmmofleddpnaaDoor.X
set_option maxRecDepth 100000 in
theorem goes12:Ev (fun k=>contangolaw12_goes.f k) true:=Ev.of (k:=60) (contangolaw12_goes.mono) (by decide +kernel)
end Go.Proofs.YthpmmofleddpnaaDoor.P
end
section
namespace Go.Proofs.YthpmmofleddpnaaDoor.Pure
set_option linter.unusedVariables false
set_option linter.unusedSimpArgs false
open Go.RowKit Go.Proofs.YthpmmofleddpnaaDoorW.PrintWords Go.Proofs.YthpmmofleddpnaaDoorW.PrintMore Go.Proofs.YthpmmofleddpnaaDoor.X Go.Proofs.YthpmmofleddpnaaDoor.P
theorem printS_size (s:Ser) (h3:I64 s.f3):(printS s).size ≤ s.f0.size + 40:=by
  by_cases c:okPrint s
  · rw [← by_len,print_by c]
    have hl:(lastL s).length ≤ 22:=by
      have zt:=textS_size s.f3 h3.1 h3.2
      rw [← by_len,textS_by] at zt
      unfold lastL
      split
      · simp only [List.length_cons];omega
      · split
        · simp only [List.length_cons];omega
        · simp
    have hd:(dayL s.f2).length = 8:=rfl
    simp only [List.length_append,List.length_cons,by_len,hd]
    omega
  · unfold printS
    rw [if_neg c]
    show (0:Nat) ≤ _
    omega
theorem TradeTexts:∀ (x0:S27) (a1:ByteArray),(ok27 x0 ∧ x0.f3.f0.size ≤ 1048576 ∧ x0.f6.f0.size ≤ 1048576 ∧ x0.f6.f1.size ≤ 1048576 ∧ x0.f7.f0.size ≤ 1048576 ∧ x0.f7.f1.size ≤ 1048576) → a1.size ≤ 140737488351232 → ∃ k,X.contangolaw12_TradeTexts.f k x0.f0 x0.f1 x0.f2 x0.f3.f0 x0.f3.f1 x0.f3.f2 x0.f3.f3 x0.f4 x0.f5 x0.f6.f0 x0.f6.f1 x0.f7.f0 x0.f7.f1 a1 = some true:=by
  intro t s h0 h1
  obtain ⟨⟨o0,o1,o2,o3,o4,o5,o6,o7⟩,z0,z1,z2,z3,z4⟩:=h0
  have hI:I64T t:=⟨wf_rng o0,wf_rng o1,wf_rng o2,wf_rng o3.2.2.2,wf_rng o4,wf_rng o5⟩
  have hz:sumZ (lineT t) ≤ 140737488355328:=by
    obtain ⟨i0,i1,i2,i3,i4,i5⟩:=hI
    have y0:=textS_size t.f0 i0.1 i0.2
    have y1:=textS_size t.f1 i1.1 i1.2
    have y2:=textS_size t.f2 i2.1 i2.2
    have y3:=printS_size t.f3 i3
    have y4:=textS_size t.f4 i4.1 i4.2
    have y5:=textS_size t.f5 i5.1 i5.2
    simp only [sumZ,lineT,List.map_cons,List.map_nil,List.sum_cons,List.sum_nil]
    omega
  refine Ev.rounds ?_
  unfold contangolaw12_TradeTexts.f
  refine Ev_bind (tparse_f s) ?_
  refine Ev_bind (rtparse_f s) ?_
  refine Ev_bind (tprint_f t hI (by omega) hz) ?_
  refine Ev_bind (rtprint_f t hI (by omega) hz) ?_
  simp only [if_true,beq_self_eq_true,Bool.and_self]
  exact Ev_id goes12
end Go.Proofs.YthpmmofleddpnaaDoor.Pure
end
