/- For ScanLosses: contracts, and facts on lists and numbers, that it uses (part 7). -/
import Derived.Test.YtbgeceiddcokmaaScanLossesc6
section
namespace Go.Proofs.Ytbgeceiddcokmaa.P
set_option linter.unusedVariables false
set_option linter.unusedSimpArgs false
open Go.RowKit Go.Proofs.YtbgeceiddcokmaaW.PrintWords Go.Proofs.YtbgeceiddcokmaaW.PrintMore Go.Proofs.Ytbgeceiddcokmaa.X
structure PGood (l:List Pos) (o:List Arr) (n:Nat):Prop where
 len:o.length = l.length
 few:l.length ≤ 128
 lots:∀ p ∈ l,lots p.f1 = true ∧ lots p.f2 = true
 arr:∀ a ∈ o,a.f1.length = n ∧ (∀ x ∈ a.f1,lossBad x = false) ∧ deltaBad a.f2 = false
 scen:n ≤ 32
theorem posGo_zero:∀ (l:List Pos) (prev:Option Ser),posGo prev l = 0 → ∀ p ∈ l,posBad p = false
 | [],_,_,p,hp=>by simp at hp
 | q :: t,prev,h,p,hp=>by
  unfold posGo at h
  by_cases h1:behind prev q.f0 = true
  ·rw [if_pos h1] at h;omega
  ·rw [if_neg h1] at h
   by_cases h2:posBad q = true
   ·rw [if_pos h2] at h;omega
   ·rw [if_neg h2] at h
    rcases List.mem_cons.1 hp with rfl|hp
    ·simpa using h2
    ·exact posGo_zero t _ h p hp
theorem posCheck_zero {l:List Pos} (h:posCheck l = 0):l.length ≤ 128 ∧ ∀ p ∈ l,posBad p = false:=by
 unfold posCheck at h
 by_cases h1:l.length > 128
 ·rw [if_pos h1] at h;omega
 ·rw [if_neg h1] at h;exact ⟨by omega,posGo_zero l none h⟩
theorem posBad_lots {p:Pos} (h:posBad p = false):lots p.f1 = true ∧ lots p.f2 = true:=by
 simp only [posBad,Bool.or_eq_false_iff,Bool.not_eq_false'] at h
 exact ⟨h.1.1,h.1.2⟩
theorem scanGo_zero (n:Nat):∀ (l:List Arr) (prev:Option Ser),scanGo n prev l = 0 → ∀ a ∈ l,arrErr n a = 0
 | [],_,_,p,hp=>by simp at hp
 | q :: t,prev,h,p,hp=>by
  unfold scanGo at h
  by_cases h1:behind prev q.f0 = true
  ·rw [if_pos h1] at h;omega
  ·rw [if_neg h1] at h
   by_cases h2:arrErr n q ≠ 0
   ·rw [if_pos h2] at h;exact absurd h h2
   ·rw [if_neg h2] at h
    rcases List.mem_cons.1 hp with rfl|hp
    ·exact Decidable.not_not.1 h2
    ·exact scanGo_zero n t _ h p hp
theorem scanCheck_zero {l:List Arr} (h:scanCheck l = 0):l.length ≤ 128 ∧ ∀ a ∈ l,arrErr (scanN l) a = 0:=by
 unfold scanCheck at h
 by_cases h1:l.length > 128
 ·rw [if_pos h1] at h;omega
 ·rw [if_neg h1] at h;exact ⟨by omega,scanGo_zero _ l none h⟩
theorem arrErr_zero {n:Nat} {a:Arr} (h:arrErr n a = 0):a.f1.length = n ∧ n ≤ 32 ∧ 1 ≤ n ∧ (∀ x ∈ a.f1,lossBad x = false) ∧ deltaBad a.f2 = false:=by
 unfold arrErr at h
 by_cases h1:lenBad n a.f1.length = true
 ·rw [if_pos h1] at h;omega
 ·rw [if_neg h1] at h
  by_cases h2:a.f1.any lossBad = true
  ·rw [if_pos h2] at h;omega
  ·rw [if_neg h2] at h
   by_cases h3:deltaBad a.f2 = true
   ·rw [if_pos h3] at h;omega
   ·simp only [lenBad,Bool.or_eq_true,decide_eq_true_eq,Bool.not_eq_true',decide_eq_false_iff_not,not_or] at h1
    refine ⟨by omega,by omega,by omega,fun x hx=>?_,by simpa using h3⟩
    have h2':a.f1.any lossBad = false:=by simpa using h2
    have:=List.any_eq_false.1 h2' x hx
    simpa using this
theorem ownA_len (r:List Arr):∀ (l:List Pos) (o:List Arr),ownA r l = some o → o.length = l.length ∧ ∀ a ∈ o,a ∈ r
 | [],o,h=>by
  simp only [ownA,Option.some.injEq] at h
  subst h
  simp
 | p :: t,o,h=>by
  simp only [ownA,Option.bind_eq_some_iff,Option.map_eq_some_iff] at h
  obtain ⟨a,ha,o',ho,rfl⟩:=h
  obtain ⟨h1,h2⟩:=ownA_len r t o' ho
  refine ⟨by simp [h1],fun b hb=>?_⟩
  rcases List.mem_cons.1 hb with rfl|hb
  ·exact List.mem_of_find?_eq_some ha
  ·exact h2 b hb
theorem both_zero {l:List Pos} {r:List Arr} (h:both l r = 0):scanCheck r = 0 ∧ posCheck l = 0:=by
 unfold both at h
 by_cases h1:scanCheck r = 0
 ·rw [if_pos h1] at h;exact ⟨h1,h⟩
 ·rw [if_neg h1] at h;exact absurd h h1
theorem found_zero {l:List Pos} {r:List Arr} (h:(found l r).2 = 0):both l r = 0 ∧ ownA r l = some (found l r).1:=by
 unfold found at h ⊢
 by_cases h1:both l r = 0
 ·rw [if_pos h1] at h ⊢
  cases ho:ownA r l with
  | none=>rw [ho] at h;simp [foundE] at h
  | some o=>exact ⟨h1,by simp [foundE]⟩
 ·rw [if_neg h1] at h;exact absurd h h1
theorem found_good {l:List Pos} {r:List Arr} (h:(found l r).2 = 0):PGood l (found l r).1 (scanN r):=by
 obtain ⟨h1,ho⟩:=found_zero h
 obtain ⟨hs,hp⟩:=both_zero h1
 obtain ⟨hl,hb⟩:=posCheck_zero hp
 obtain ⟨hr,ha⟩:=scanCheck_zero hs
 obtain ⟨ho1,ho2⟩:=ownA_len r l _ ho
 refine ⟨ho1,hl,fun p hp=>posBad_lots (hb p hp),fun a hao=>?_,?_⟩
 ·have:=arrErr_zero (ha a (ho2 a hao));exact ⟨this.1,this.2.2.2.1,this.2.2.2.2⟩
 ·cases r with
  | nil=>simp [scanN]
  | cons a t=>exact (arrErr_zero (ha a (by simp))).2.1
theorem lots_rng {n:Int} (h:lots n = true):0 ≤ n ∧ n ≤ 1048576:=by simpa [lots] using h
theorem lossBad_rng {x:Int} (h:lossBad x = false):-68719476736 ≤ x ∧ x ≤ 68719476736:=by
 simp only [lossBad,Bool.or_eq_false_iff,decide_eq_false_iff_not] at h;omega
def termsAt (s:Nat):List Pos → List Arr → List Int
 | p :: t,a :: o=>(p.f1 - p.f2) * a.f1.getD s 0 :: termsAt s t o
 | _,_=>[]
def lossesFrom (l:List Pos) (o:List Arr):List Int → List Nat → List Int × Int
 | acc,[]=>(acc,0)
 | acc,s :: t=>if (sumE (termsAt s l o)).2 = 0 then lossesFrom l o (acc ++ [(sumE (termsAt s l o)).1]) t else ([],(sumE (termsAt s l o)).2)
theorem mul_rng {a b A B:Int} (ha:-A ≤ a ∧ a ≤ A) (hb:-B ≤ b ∧ b ≤ B):-(A * B) ≤ a * b ∧ a * b ≤ A * B:=by
 have hA:0 ≤ A:=by omega
 have hB:0 ≤ B:=by omega
 have h1:a.natAbs ≤ A.toNat:=by omega
 have h2:b.natAbs ≤ B.toNat:=by omega
 have h3:a.natAbs * b.natAbs ≤ A.toNat * B.toNat:=Nat.mul_le_mul h1 h2
 have h4:(a * b).natAbs ≤ A.toNat * B.toNat:=by rw [Int.natAbs_mul];exact h3
 have h5:((A.toNat * B.toNat:Nat):Int) = A * B:=by rw [Int.natCast_mul,Int.toNat_of_nonneg hA,Int.toNat_of_nonneg hB]
 generalize A.toNat * B.toNat = m at h4 h5
 generalize a * b = x at *
 generalize A * B = y at *
 omega
theorem lossL1 (l:List Pos) (o:List Arr) (n:Nat) (hg:PGood l o n) (s:Nat) (hs:s < n) (acc:List Int) (res:List Int × Int) :
  ∀ (d i:Nat) (done:List Int),i + d = l.length → done.length = i →
  Ev (fun k=>(cents_Sum.f k (done ++ termsAt s (l.drop i) (o.drop i))).bind fun b=>if b.2 = 0 then (if acc.length < 17592186044416 then scan_Losses.l0 k l (acc ++ [b.1]) o (n:Int) (wrap64 ((s:Int) + 1)) else none) else some ([],b.2)) res →
  Ev (fun k=>scan_Losses.l1 k l acc o s done (n:Int) s l (l.length:Int) i) res
 | 0,i,done,hd,hdone,h=>by
  rw [List.drop_of_length_le (by omega)] at h
  simp only [termsAt,List.append_nil] at h
  refine Ev_succ ?_
  simp only [scan_Losses.l1,if_neg (show ¬ ((i:Int) < (l.length:Int)) by omega)]
  exact h
 | d + 1,i,done,hd,hdone,h=>by
  have hi:i < l.length:=by omega
  have hio:i < o.length:=by rw [hg.len];exact hi
  have hp:=hg.lots l[i] (List.getElem_mem hi)
  have ha:=hg.arr o[i] (List.getElem_mem hio)
  have hf:=hg.few
  have b1:=lots_rng hp.1
  have b2:=lots_rng hp.2
  have hsl:s < o[i].f1.length:=by rw [ha.1];exact hs
  have b3:=lossBad_rng (ha.2.1 o[i].f1[s] (List.getElem_mem hsl))
  have e1:wrap64 (l[i].f1 - l[i].f2) = l[i].f1 - l[i].f2:=w_id (by omega) (by omega)
  have b4:=mul_rng (A:=1048576) (B:=68719476736) (a:=l[i].f1 - l[i].f2) (b:=o[i].f1[s]) (by omega) (by omega)
  have e2:wrap64 ((l[i].f1 - l[i].f2) * o[i].f1[s]) = (l[i].f1 - l[i].f2) * o[i].f1[s]:=w_id (by omega) (by omega)
  refine Ev_succ ?_
  simp only [scan_Losses.l1,if_pos (show (i:Int) < (l.length:Int) by omega),if_pos (show 0 ≤ (i:Int) by omega),if_pos (show (i:Int) < (o.length:Int) by omega),rdPos l i hi,rdArr o i hio,if_pos (show 0 ≤ (s:Int) by omega),if_pos (show (s:Int) < (o[i].f1.length:Int) by omega),rd_nat _ s hsl,e1,e2,if_pos (show done.length < 17592186044416 by omega),w_succ hi (by omega)]
  refine lossL1 l o n hg s hs acc res d (i + 1) _ (by omega) (by simp [hdone]) ?_
  rw [drop_cons l i hi,drop_cons o i hio] at h
  simp only [termsAt] at h
  rw [List.append_assoc]
  have eg:o[i].f1.getD s 0 = o[i].f1[s]:=by simp [List.getD,hsl]
  rw [eg] at h
  exact h
theorem termsAt_len (s:Nat):∀ (l:List Pos) (o:List Arr),(termsAt s l o).length ≤ l.length
 | [],_=>by simp [termsAt]
 | p :: t,[]=>by simp [termsAt]
 | p :: t,a :: o=>by have:=termsAt_len s t o;simp only [termsAt,List.length_cons];omega
theorem lossL0 (l:List Pos) (o:List Arr) (n:Nat) (hg:PGood l o n):∀ (d s:Nat) (acc:List Int),s + d = n → acc.length = s →
  Ev (fun k=>scan_Losses.l0 k l acc o (n:Int) s) (lossesFrom l o acc (List.range' s d))
 | 0,s,acc,hd,hacc=>by
  refine Ev_succ ?_
  simp only [scan_Losses.l0,if_neg (show ¬ ((s:Int) < (n:Int)) by omega)]
  exact Ev.now _
 | d + 1,s,acc,hd,hacc=>by
  have hn:=hg.scen
  have hf:=hg.few
  refine Ev_succ ?_
  simp only [scan_Losses.l0,if_pos (show (s:Int) < (n:Int) by omega)]
  refine lossL1 l o n hg s (by omega) acc _ l.length 0 [] (by omega) rfl ?_
  simp only [List.nil_append,List.drop_zero]
  refine Ev_bind (sum_f _ (by have:=termsAt_len s l o;omega)) ?_
  simp only [List.range'_succ,lossesFrom]
  by_cases h:(sumE (termsAt s l o)).2 = 0
  ·simp only [if_pos h,if_pos (show acc.length < 17592186044416 by omega),w_succ (show s < n by omega) (by omega)]
   exact lossL0 l o n hg d (s + 1) _ (by omega) (by simp [hacc])
  ·simp only [if_neg h]
   exact Ev.now _
def losses (l:List Pos) (r:List Arr):List Int × Int :=
 if (found l r).2 = 0 then (if r.length = 0 then ([],0) else lossesFrom l (found l r).1 [] (List.range' 0 (scanN r))) else ([],(found l r).2)
theorem losses_f (l:List Pos) (r:List Arr) (hl:l.length ≤ 4611686018427387904) (hr:r.length ≤ 4611686018427387904) (ha:∀ a ∈ r,a.f1.length ≤ 4611686018427387904):Ev (fun k=>scan_Losses.f k l r) (losses l r):=by
 unfold scan_Losses.f losses
 refine Ev_bind (found_f l r hl hr ha) ?_
 by_cases h:(found l r).2 = 0
 ·simp only [if_pos h]
  refine Ev_succ ?_
  simp only [scan_Losses.j0]
  by_cases h0:r.length = 0
  ·simp only [if_pos h0,show ((r.length:Int) == 0) = true by simp [h0],if_true,h]
   exact Ev.now _
  ·have hrn:(((rd_T91 r 0).f1).length:Int) = (scanN r:Int):=by
    cases r with
    | nil=>simp at h0
    | cons x t=>rfl
   simp only [if_neg h0,show ((r.length:Int) == 0) = false from beq_eq_false_iff_ne.2 (by omega),Bool.false_eq_true,if_false,if_pos (show 0 < (r.length:Int) by omega),hrn]
   exact lossL0 l _ _ (found_good h) (scanN r) 0 [] (by omega) rfl
 ·simp only [if_neg h]
  refine Ev_succ ?_
  simp only [scan_Losses.j0,if_true]
  exact Ev.now _
end Go.Proofs.Ytbgeceiddcokmaa.P
end
section
namespace Go.Proofs.Ytbgeceiddcokmaa.P
set_option linter.unusedVariables false
set_option linter.unusedSimpArgs false
open Go.RowKit Go.Proofs.YtbgeceiddcokmaaW.PrintWords Go.Proofs.YtbgeceiddcokmaaW.PrintMore Go.Proofs.Ytbgeceiddcokmaa.X
theorem sameLoop (a b:List Int) (hl:a.length = b.length) (hb:a.length ≤ 4611686018427387904):∀ (d i:Nat),i + d = a.length → Ev (fun k=>contangoref23_Same.l0 k a b i) (decide (a.drop i = b.drop i))
 | 0,i,hd=>by
  refine Ev_succ ?_
  rw [List.drop_of_length_le (by omega),List.drop_of_length_le (by omega)]
  simp only [contangoref23_Same.l0,if_neg (show ¬ ((i:Int) < (a.length:Int)) by omega)]
  exact Ev.now _
 | d + 1,i,hd=>by
  have hi:i < a.length:=by omega
  have hj:i < b.length:=by omega
  refine Ev_succ ?_
  rw [drop_cons a i hi,drop_cons b i hj]
  simp only [contangoref23_Same.l0,if_pos (show (i:Int) < (a.length:Int) by omega),if_pos (show (i:Int) < (b.length:Int) by omega),if_pos (show 0 ≤ (i:Int) by omega),rd_nat a i hi,rd_nat b i hj,w_succ hi (by omega)]
  by_cases h:a[i] = b[i]
  ·simp only [if_pos h]
   have ih:=sameLoop a b hl hb d (i + 1) (by omega)
   have e:decide (a[i] :: a.drop (i + 1) = b[i] :: b.drop (i + 1)) = decide (a.drop (i + 1) = b.drop (i + 1)):=by
    rw [decide_eq_decide,List.cons.injEq]
    exact ⟨fun x=>x.2,fun x=>⟨h,x⟩⟩
   rw [e]
   exact ih
  ·simp only [if_neg h]
   rw [decide_eq_false (by rw [List.cons.injEq];exact fun x=>h x.1)]
   exact Ev.now _
theorem same_f (a b:List Int) (hb:a.length ≤ 4611686018427387904):Ev (fun k=>contangoref23_Same.f k a b) (decide (a = b)):=by
 unfold contangoref23_Same.f
 by_cases h:a.length = b.length
 ·simp only [if_pos (show (a.length:Int) = (b.length:Int) by omega)]
  have:=sameLoop a b h hb a.length 0 (by omega)
  simpa using this
 ·simp only [if_neg (show ¬ (a.length:Int) = (b.length:Int) by omega)]
  rw [decide_eq_false (fun e=>h (by rw [e]))]
  exact Ev.now _
theorem fewLoop (l:List Pos) (r:List Arr) (hr:r.length ≤ 4611686018427387904):∀ (d i:Nat) (n:Int),i + d = r.length → ∃ b,Ev (fun k=>contangolaw23_few.l0 k l r n r.length i) b ∧ (b = true → l.length ≤ 200 ∧ r.length ≤ 200)
 | 0,i,n,hd=>by
  by_cases h1:l.length ≤ 200
  ·by_cases h2:r.length ≤ 200
   ·refine ⟨decide (n ≤ 5000),Ev_succ ?_,fun _=>⟨h1,h2⟩⟩
    simp only [contangolaw23_few.l0,if_neg (show ¬ ((i:Int) < (r.length:Int)) by omega),if_pos (show (l.length:Int) ≤ 200 by omega),if_pos (show (r.length:Int) ≤ 200 by omega)]
    exact Ev.now _
   ·refine ⟨false,Ev_succ ?_,fun h=>by cases h⟩
    simp only [contangolaw23_few.l0,if_neg (show ¬ ((i:Int) < (r.length:Int)) by omega),if_pos (show (l.length:Int) ≤ 200 by omega),if_neg (show ¬ (r.length:Int) ≤ 200 by omega)]
    exact Ev.now _
  ·refine ⟨false,Ev_succ ?_,fun h=>by cases h⟩
   simp only [contangolaw23_few.l0,if_neg (show ¬ ((i:Int) < (r.length:Int)) by omega),if_neg (show ¬ (l.length:Int) ≤ 200 by omega)]
   exact Ev.now _
 | d + 1,i,n,hd=>by
  have hi:i < r.length:=by omega
  obtain ⟨b,hb,h⟩:=fewLoop l r hr d (i + 1) (wrap64 (n + mn (((rd_T91 r i).f1).length:Int) 1000)) (by omega)
  refine ⟨b,Ev_succ ?_,h⟩
  simp only [contangolaw23_few.l0,if_pos (show (i:Int) < (r.length:Int) by omega),if_pos (show 0 ≤ (i:Int) by omega),w_succ hi (by omega)]
  exact hb
theorem few_f (l:List Pos) (r:List Arr) (hr:r.length ≤ 4611686018427387904):∃ b,Ev (fun k=>contangolaw23_few.f k l r) b ∧ (b = true → l.length ≤ 200 ∧ r.length ≤ 200):=fewLoop l r hr r.length 0 0 (by omega)
end Go.Proofs.Ytbgeceiddcokmaa.P
end
section
namespace Go.Proofs.Ytbgeceiddcokmaa.P
set_option linter.unusedVariables false
set_option linter.unusedSimpArgs false
open Go.RowKit Go.Proofs.YtbgeceiddcokmaaW.PrintWords Go.Proofs.YtbgeceiddcokmaaW.PrintMore Go.Proofs.Ytbgeceiddcokmaa.X
theorem bl_self:∀ a:List UInt8,Op.bytesLess a a = false
 | []=>rfl
 | x :: a=>by simp [Op.bytesLess,bl_self a]
theorem bl_not:∀ a b:List UInt8,(!(Op.bytesLess a b || a == b)) = Op.bytesLess b a
 | [],[]=>rfl
 | [],y :: b=>by simp [Op.bytesLess]
 | x :: a,[]=>by simp [Op.bytesLess]
 | x :: a,y :: b=>by
  have ih:=bl_not a b
  simp only [Op.bytesLess]
  by_cases h:x = y
  ·subst h
   have:¬ x < x:=by simp
   simp only [this,decide_false,Bool.false_or,beq_self_eq_true,Bool.true_and,← ih]
   congr 1
   simp
  ·have h1:(x == y) = false:=by simpa using h
   have h2:(y == x) = false:=by simpa using fun e=>h e.symm
   have h3:(x :: a == y :: b) = false:=by simp [h]
   rw [h1,h2,h3]
   simp only [Bool.false_and,Bool.or_false]
   have:decide (y < x) = !decide (x < y):=by
    rw [Bool.eq_iff_iff]
    simp only [decide_eq_true_eq,Bool.not_eq_true',decide_eq_false_iff_not,UInt8.lt_iff_toNat_lt]
    have:x.toNat ≠ y.toNat:=fun e=>h (UInt8.toNat_inj.1 e)
    omega
   rw [this]
theorem bl_eq {a b:List UInt8} (h:Op.bytesLess a b = false) (k:Op.bytesLess b a = false):a = b:=by
 have:=bl_not a b
 rw [h,k] at this
 simpa using this
theorem orderR_f (a b:Int):contangoref10_order.f a b = some (cmpI a b):=by
 unfold contangoref10_order.f cmpI
 split
 ·rfl
 ·split <;> rfl
theorem cmpR_f (a b:Ser):contangoref10_Compare.f a.f0 a.f1 a.f2 a.f3 b.f0 b.f1 b.f2 b.f3 = some (cmpS a b):=by
 unfold contangoref10_Compare.f cmpS cmpB
 simp only [orderR_f,Option.bind_some]
 by_cases h0:a.f0.toList = b.f0.toList
 ·rw [if_pos h0,h0]
  simp only [bl_self,Bool.false_eq_true,if_false]
  split
  ·split <;> rfl
  ·rfl
 ·rw [if_neg h0]
  cases h1:Op.bytesLess a.f0.toList b.f0.toList with
  | true=>simp
  | false =>
   cases h2:Op.bytesLess b.f0.toList a.f0.toList with
   | true=>simp
   | false=>exact absurd (bl_eq h1 h2) h0
theorem lotsR_f (n:Int):contangoref15_lots.f n = some (lots n):=by
 unfold contangoref15_lots.f lots
 by_cases h:n ≥ 0
 ·rw [if_pos h,decide_eq_true (show 0 ≤ n from h),Bool.true_and]
 ·rw [if_neg h,decide_eq_false (show ¬ 0 ≤ n from h),Bool.false_and]
theorem refPosJ (l:List Pos) (i:Nat) (hi:i < l.length) (b:Bool) (r:Int)
  (h:b = false → posBad l[i] = false → Ev (fun k=>contangoref15_Check.l0 k l (wrap64 ((i:Int) + 1))) r) :
  Ev (fun k=>contangoref15_Check.j1 k l i b) (if b = true then 19 else if posBad l[i] = true then 18 else r):=by
 refine Ev_succ ?_
 simp only [contangoref15_Check.j1,lotsR_f,Option.bind_some,if_pos (show 0 ≤ (i:Int) by omega),if_pos (show (i:Int) < (l.length:Int) by omega),rdPos l i hi]
 cases b with
 | true=>exact Ev.now _
 | false =>
  simp only [Bool.false_eq_true,if_false]
  cases h1:lots l[i].f1 with
  | false=>simp only [posBad,h1,Bool.not_false,Bool.true_or,if_true,Bool.false_eq_true,if_false];exact Ev.now _
  | true =>
   cases h2:lots l[i].f2 with
   | false=>simp only [posBad,h1,h2,Bool.not_false,Bool.not_true,Bool.true_or,Bool.or_true,if_true,Bool.false_eq_true,if_false];exact Ev.now _
   | true =>
    simp only [if_true]
    simp only [lots,Bool.and_eq_true,decide_eq_true_eq] at h1 h2
    rw [w_id (x:=l[i].f1 + l[i].f2) (by omega) (by omega)]
    by_cases z:l[i].f1 + l[i].f2 = 0
    ·have hb:posBad l[i] = true:=by simp [posBad,show l[i].f1 = 0 by omega,show l[i].f2 = 0 by omega]
     simp only [hb,if_true,if_pos z]
     exact Ev.now _
    ·have hb:posBad l[i] = false:=by simp [posBad,lots];omega
     simp only [hb,Bool.false_eq_true,if_false,if_neg z]
     exact h rfl hb
theorem refPosLoop (l:List Pos) (hl:l.length ≤ 4611686018427387904):∀ (d i:Nat),i + d = l.length → Ev (fun k=>contangoref15_Check.l0 k l i) (posGo (prevOf l i) (l.drop i))
 | 0,i,hd=>by
  refine Ev_succ ?_
  simp only [contangoref15_Check.l0,if_neg (show ¬ ((i:Int) < (l.length:Int)) by omega)]
  rw [List.drop_of_length_le (by omega)]
  exact Ev.now _
 | d + 1,i,hd=>by
  have hi:i < l.length:=by omega
  have ih:=refPosLoop l hl d (i + 1) (by omega)
  rw [← w_succ hi (by omega)] at ih
  have hprev:prevOf l (i + 1) = some l[i].f0:=by simp [prevOf,hi]
  rw [hprev] at ih
  rw [drop_cons l i hi]
  refine Ev_succ ?_
  simp only [contangoref15_Check.l0,if_pos (show (i:Int) < (l.length:Int) by omega),if_pos (show 0 ≤ (i:Int) by omega),rdPos l i hi]
  by_cases h0:i = 0
  ·subst h0
   simp only [if_neg (show ¬ (((0:Nat):Int) > 0) by omega)]
   exact refPosJ l 0 hi false _ (fun _ _=>ih)
  ·have hp:=w_pred (show 0 < i by omega) (by omega)
   simp only [if_pos (show ((i:Int) > 0) by omega),hp,if_pos (show 0 ≤ ((i - 1:Nat):Int) by omega),if_pos (show ((i - 1:Nat):Int) < (l.length:Int) by omega),rdPos l (i - 1) (by omega),cmpR_f,Option.bind_some]
   have hb:behind (prevOf l i) l[i].f0 = decide (cmpS l[i - 1].f0 l[i].f0 ≥ 0):=by
    simp [behind,prevOf,h0,show i - 1 < l.length by omega]
   simp only [posGo,hb]
   exact refPosJ l i hi _ _ (fun _ _=>ih)
theorem refPosCheck_f (l:List Pos) (hl:l.length ≤ 4611686018427387904):Ev (fun k=>contangoref15_Check.f k l) (posCheck l):=by
 unfold contangoref15_Check.f posCheck
 by_cases h:l.length > 128
 ·simp only [if_pos (show (l.length:Int) > 128 by omega),if_pos h]
  exact Ev.now _
 ·simp only [if_neg (show ¬ ((l.length:Int) > 128) by omega),if_neg h]
  exact refPosLoop l hl l.length 0 (by omega)
end Go.Proofs.Ytbgeceiddcokmaa.P
end
section
namespace Go.Proofs.Ytbgeceiddcokmaa.P
set_option linter.unusedVariables false
set_option linter.unusedSimpArgs false
open Go.RowKit Go.Proofs.YtbgeceiddcokmaaW.PrintWords Go.Proofs.YtbgeceiddcokmaaW.PrintMore Go.Proofs.Ytbgeceiddcokmaa.X
theorem fitsR_f (n:Int):contangoref01_Fits.f n = some (fits n):=by
 unfold contangoref01_Fits.f fits
 by_cases h:n ≥ -1152921504606846976
 ·rw [if_pos h,decide_eq_true (show -1152921504606846976 ≤ n from h),Bool.true_and]
 ·rw [if_neg h,decide_eq_false (show ¬ -1152921504606846976 ≤ n from h),Bool.false_and]
theorem td (n:Int):1073741824 * n.tdiv 1073741824 + n.tmod 1073741824 = n ∧ -1073741824 < n.tmod 1073741824 ∧ n.tmod 1073741824 < 1073741824 :=
 ⟨Int.mul_tdiv_add_tmod n 1073741824,Int.lt_tmod_of_pos n (by omega),Int.tmod_lt_of_pos n (by omega)⟩
theorem sumRLoop (l:List Int) (hl:l.length ≤ 1048576):∀ (d i:Nat) (hi lo:Int),i + d = l.length → -(1073741825 * (i:Int)) ≤ hi → hi ≤ 1073741825 * (i:Int) → -(1073741824 * (i:Int)) ≤ lo → lo ≤ 1073741824 * (i:Int) →
  Ev (fun k=>contangoref01_Sum.l0 k l hi lo i) (if (l.drop i).all fits = true then fitting (hi * 1073741824 + lo + (l.drop i).sum) else (0,2))
 | 0,i,hi,lo,hd,h1,h2,h3,h4=>by
  refine Ev_succ ?_
  rw [List.drop_of_length_le (by omega)]
  obtain ⟨t1,t2,t3⟩:=td lo
  have e0:wrap64 (lo.tdiv 1073741824) = lo.tdiv 1073741824:=w_id (by omega) (by omega)
  have e1:wrap64 (hi + lo.tdiv 1073741824) = hi + lo.tdiv 1073741824:=w_id (by omega) (by omega)
  simp only [contangoref01_Sum.l0,if_neg (show ¬ ((i:Int) < (l.length:Int)) by omega),e0,e1,List.all_nil,if_true,List.sum_nil,Int.add_zero]
  by_cases c1:hi + lo.tdiv 1073741824 < -1073741825
  ·simp only [if_pos c1]
   have:fitting (hi * 1073741824 + lo) = (0,3):=by
    unfold fitting
    rw [if_neg]
    rw [fits_iff]
    omega
   rw [this]
   exact Ev.now _
  ·by_cases c2:hi + lo.tdiv 1073741824 > 1073741825
   ·simp only [if_neg c1,if_pos c2]
    have:fitting (hi * 1073741824 + lo) = (0,3):=by
     unfold fitting
     rw [if_neg]
     rw [fits_iff]
     omega
    rw [this]
    exact Ev.now _
   ·have e2:wrap64 ((hi + lo.tdiv 1073741824) * 1073741824) = (hi + lo.tdiv 1073741824) * 1073741824:=w_id (by omega) (by omega)
    have e3:wrap64 ((hi + lo.tdiv 1073741824) * 1073741824 + lo.tmod 1073741824) = hi * 1073741824 + lo:=by rw [w_id (by omega) (by omega)];omega
    simp only [if_neg c1,if_neg c2,e2,e3,fitsR_f,Option.bind_some,fitting]
    by_cases c3:fits (hi * 1073741824 + lo) = true
    ·simp only [if_pos c3];exact Ev.now _
    ·simp only [if_neg c3];exact Ev.now _
 | d + 1,i,hi,lo,hd,h1,h2,h3,h4=>by
  have hlt:i < l.length:=by omega
  rw [drop_cons l i hlt]
  refine Ev_succ ?_
  simp only [contangoref01_Sum.l0,if_pos (show (i:Int) < (l.length:Int) by omega),if_pos (show 0 ≤ (i:Int) by omega),rd_nat l i hlt,fitsR_f,Option.bind_some,List.all_cons,List.sum_cons]
  by_cases hf:fits l[i] = true
  case neg =>
   have hf':fits l[i] = false:=by simpa using hf
   simp only [hf',Bool.false_eq_true,if_false,Bool.false_and];exact Ev.now _
  case pos =>
   have hb:=(fits_iff _).1 hf
   obtain ⟨t1,t2,t3⟩:=td l[i]
   have e0:wrap64 (l[i].tdiv 1073741824) = l[i].tdiv 1073741824:=w_id (by omega) (by omega)
   have e1:wrap64 (hi + l[i].tdiv 1073741824) = hi + l[i].tdiv 1073741824:=w_id (by omega) (by omega)
   have e2:wrap64 (lo + l[i].tmod 1073741824) = lo + l[i].tmod 1073741824:=w_id (by omega) (by omega)
   have ih:=sumRLoop l hl d (i + 1) (hi + l[i].tdiv 1073741824) (lo + l[i].tmod 1073741824) (by omega) (by omega) (by omega) (by omega) (by omega)
   rw [← w_succ hlt (by omega)] at ih
   simp only [hf,if_true,Bool.true_and,e0,e1,e2]
   have e4:(hi + l[i].tdiv 1073741824) * 1073741824 + (lo + l[i].tmod 1073741824) + (l.drop (i + 1)).sum = hi * 1073741824 + lo + (l[i] + (l.drop (i + 1)).sum):=by omega
   rw [e4] at ih
   exact ih
theorem sumR_f (l:List Int) (hl:l.length ≤ 1048576):Ev (fun k=>contangoref01_Sum.f k l) (sumE l):=by
 have:=sumRLoop l hl l.length 0 0 0 (by omega) (by omega) (by omega) (by omega) (by omega)
 simpa [contangoref01_Sum.f,sumE] using this
theorem oneL0 (a:Arr) (ha:a.f1.length ≤ 4611686018427387904):∀ (d j:Nat),j + d = a.f1.length →
  Ev (fun k=>contangoref23_one.l0 k j a.f0.f0 a.f0.f1 a.f0.f2 a.f0.f3 a.f1 a.f2) (if (a.f1.drop j).any lossBad = true then 3 else if deltaBad a.f2 = true then 2 else 0)
 | 0,j,hd=>by
  refine Ev_succ ?_
  rw [List.drop_of_length_le (by omega)]
  simp only [contangoref23_one.l0,if_neg (show ¬ ((j:Int) < (a.f1.length:Int)) by omega),List.any_nil,Bool.false_eq_true,if_false]
  by_cases c1:a.f2 < -1000
  ·simp only [if_pos c1,deltaBad,decide_eq_true c1,Bool.true_or,if_true];exact Ev.now _
  ·by_cases c2:a.f2 > 1000
   ·simp only [if_neg c1,if_pos c2,deltaBad,decide_eq_true c2,Bool.or_true,if_true];exact Ev.now _
   ·have hb:deltaBad a.f2 = false:=by simp only [deltaBad,decide_eq_false c1,decide_eq_false c2];rfl
    simp only [if_neg c1,if_neg c2,hb,Bool.false_eq_true,if_false]
    exact Ev.now _
 | d + 1,j,hd=>by
  have hj:j < a.f1.length:=by omega
  rw [drop_cons a.f1 j hj]
  refine Ev_succ ?_
  simp only [contangoref23_one.l0,if_pos (show (j:Int) < (a.f1.length:Int) by omega),if_pos (show 0 ≤ (j:Int) by omega),rd_nat a.f1 j hj,List.any_cons]
  by_cases c1:a.f1[j] < -68719476736
  ·simp only [if_pos c1,lossBad,decide_eq_true c1,Bool.true_or,if_true];exact Ev.now _
  ·by_cases c2:a.f1[j] > 68719476736
   ·simp only [if_neg c1,if_pos c2,lossBad,decide_eq_true c2,Bool.true_or,Bool.or_true,if_true];exact Ev.now _
   ·have hb:lossBad a.f1[j] = false:=by simp only [lossBad,decide_eq_false c1,decide_eq_false c2];rfl
    have ih:=oneL0 a ha d (j + 1) (by omega)
    rw [← w_succ hj (by omega)] at ih
    simp only [if_neg c1,if_neg c2,hb,Bool.false_or]
    exact ih
theorem one_f (a:Arr) (n:Nat) (ha:a.f1.length ≤ 4611686018427387904):Ev (fun k=>contangoref23_one.f k a.f0.f0 a.f0.f1 a.f0.f2 a.f0.f3 a.f1 a.f2 n) (arrErr n a):=by
 have hj:∀ b,lenBad n a.f1.length = b → Ev (fun k=>contangoref23_one.j0 k b a.f0.f0 a.f0.f1 a.f0.f2 a.f0.f3 a.f1 a.f2) (arrErr n a):=by
  intro b hb
  refine Ev_succ ?_
  unfold arrErr
  rw [hb]
  cases b with
  | true=>simp only [contangoref23_one.j0,if_true];exact Ev.now _
  | false =>
   simp only [contangoref23_one.j0,Bool.false_eq_true,if_false]
   exact oneL0 a ha a.f1.length 0 (by omega)
 unfold contangoref23_one.f
 by_cases c1:(a.f1.length:Int) < 1
 ·simp only [if_pos c1]
  exact hj true (by have e1:decide (a.f1.length < 1) = true:=decide_eq_true (by omega);simp only [lenBad,e1,Bool.true_or])
 ·by_cases c2:(a.f1.length:Int) > 32
  ·simp only [if_neg c1,if_pos c2]
   exact hj true (by have e1:decide (a.f1.length > 32) = true:=decide_eq_true (by omega);simp only [lenBad,e1,Bool.true_or,Bool.or_true])
  ·simp only [if_neg c1,if_neg c2]
   refine hj _ ?_
   have e1:decide (a.f1.length < 1) = false:=decide_eq_false (by omega)
   have e2:decide (a.f1.length > 32) = false:=decide_eq_false (by omega)
   simp only [lenBad,e1,e2,Bool.false_or]
   by_cases e:a.f1.length = n
   ·simp [e]
   ·have e':¬ ((a.f1.length:Int) = (n:Int)):=by omega
    rw [decide_eq_false e,bne_iff_ne.2 e']
    rfl
theorem refScanLoop (l:List Arr) (hl2:l.length ≤ 4611686018427387904) (ha:∀ a ∈ l,a.f1.length ≤ 4611686018427387904):∀ (d i:Nat),i + d = l.length → Ev (fun k=>contangoref23_Check.l0 k l i) (scanGo (scanN l) (prevOfA l i) (l.drop i))
 | 0,i,hd=>by
  refine Ev_succ ?_
  simp only [contangoref23_Check.l0,if_neg (show ¬ ((i:Int) < (l.length:Int)) by omega)]
  rw [List.drop_of_length_le (by omega)]
  exact Ev.now _
 | d + 1,i,hd=>by
  have hi:i < l.length:=by omega
  have ih:=refScanLoop l hl2 ha d (i + 1) (by omega)
  rw [← w_succ hi (by omega)] at ih
  have hprev:prevOfA l (i + 1) = some l[i].f0:=by simp [prevOfA,hi]
  rw [hprev] at ih
  rw [drop_cons l i hi]
  have hn:(((rd_T91 l 0).f1).length:Int) = (scanN l:Int):=by
   cases l with
   | nil=>simp at hi
   | cons x t=>rfl
  have hj:∀ b,Ev (fun k=>contangoref23_Check.j1 k l i b) (if b = true then 19 else if arrErr (scanN l) l[i] ≠ 0 then arrErr (scanN l) l[i] else scanGo (scanN l) (some l[i].f0) (l.drop (i + 1))):=by
   intro b
   refine Ev_succ ?_
   cases b with
   | true=>simp only [contangoref23_Check.j1,if_true];exact Ev.now _
   | false =>
    simp only [contangoref23_Check.j1,Bool.false_eq_true,if_false,if_pos (show 0 ≤ (i:Int) by omega),if_pos (show (i:Int) < (l.length:Int) by omega),if_pos (show 0 < (l.length:Int) by omega),rdArr l i hi,hn]
    refine Ev_bind (one_f l[i] (scanN l) (ha _ (List.getElem_mem hi))) ?_
    by_cases h:arrErr (scanN l) l[i] = 0
    ·simp only [if_pos h,if_neg (show ¬ (arrErr (scanN l) l[i] ≠ 0) by simp [h])]
     exact ih
    ·simp only [if_neg h,if_pos (show arrErr (scanN l) l[i] ≠ 0 from h)]
     exact Ev.now _
  refine Ev_succ ?_
  simp only [contangoref23_Check.l0,if_pos (show (i:Int) < (l.length:Int) by omega),if_pos (show 0 ≤ (i:Int) by omega),rdArr l i hi]
  by_cases h0:i = 0
  ·subst h0
   simp only [if_neg (show ¬ (((0:Nat):Int) > 0) by omega)]
   exact hj false
  ·have hp:=w_pred (show 0 < i by omega) (by omega)
   simp only [if_pos (show ((i:Int) > 0) by omega),hp,if_pos (show 0 ≤ ((i - 1:Nat):Int) by omega),if_pos (show ((i - 1:Nat):Int) < (l.length:Int) by omega),rdArr l (i - 1) (by omega),cmpR_f,Option.bind_some]
   have hb:behind (prevOfA l i) l[i].f0 = decide (cmpS l[i - 1].f0 l[i].f0 ≥ 0):=by
    simp [behind,prevOfA,h0,show i - 1 < l.length by omega]
   simp only [scanGo,hb]
   exact hj _
theorem refScanCheck_f (l:List Arr) (hl:l.length ≤ 4611686018427387904) (ha:∀ a ∈ l,a.f1.length ≤ 4611686018427387904):Ev (fun k=>contangoref23_Check.f k l) (scanCheck l):=by
 unfold contangoref23_Check.f scanCheck
 by_cases h:l.length > 128
 ·simp only [if_pos (show (l.length:Int) > 128 by omega),if_pos h]
  exact Ev.now _
 ·simp only [if_neg (show ¬ ((l.length:Int) > 128) by omega),if_neg h]
  exact refScanLoop l hl ha l.length 0 (by omega)
theorem findR_loop (r:List Arr) (hr:r.length ≤ 4611686018427387904) (s:Ser):∀ (d j:Nat),j + d = r.length →
  (∀ a,findA (r.drop j) s = some a → ∃ (m:Nat) (hm:m < r.length),r[m] = a ∧ Ev (fun k=>contangoref23_find.l0 k r j s.f0 s.f1 s.f2 s.f3) (m:Int)) ∧
  (findA (r.drop j) s = none → Ev (fun k=>contangoref23_find.l0 k r j s.f0 s.f1 s.f2 s.f3) (-1))
 | 0,j,hd=>by
  rw [List.drop_of_length_le (by omega)]
  refine ⟨fun a h=>by simp [findA] at h,fun _=>Ev_succ ?_⟩
  simp only [contangoref23_find.l0,if_neg (show ¬ ((j:Int) < (r.length:Int)) by omega)]
  exact Ev.now _
 | d + 1,j,hd=>by
  have hj:j < r.length:=by omega
  obtain ⟨i1,i2⟩:=findR_loop r hr s d (j + 1) (by omega)
  rw [drop_cons r j hj]
  cases he:eqS r[j].f0 s with
  | true =>
   have he2:(r[j].f0.f0.toList == s.f0.toList && (r[j].f0.f1 == s.f1 && (r[j].f0.f2 == s.f2 && (r[j].f0.f3 == s.f3)))) = true:=he
   refine ⟨fun a h=>⟨j,hj,?_,Ev_succ ?_⟩,fun h=>?_⟩
   ·simp only [findA,List.find?_cons,he,Option.some.injEq] at h;exact h
   ·simp only [contangoref23_find.l0,if_pos (show (j:Int) < (r.length:Int) by omega),if_pos (show 0 ≤ (j:Int) by omega),rdArr r j hj,he2,if_true]
    exact Ev.now _
   ·simp only [findA,List.find?_cons,he] at h;cases h
  | false =>
   have he2:(r[j].f0.f0.toList == s.f0.toList && (r[j].f0.f1 == s.f1 && (r[j].f0.f2 == s.f2 && (r[j].f0.f3 == s.f3)))) = false:=he
   have hf:findA (r[j] :: r.drop (j + 1)) s = findA (r.drop (j + 1)) s:=by simp only [findA,List.find?_cons,he]
   rw [hf]
   have st:∀ x,Ev (fun k=>contangoref23_find.l0 k r ((j + 1:Nat):Int) s.f0 s.f1 s.f2 s.f3) x → Ev (fun k=>contangoref23_find.l0 k r j s.f0 s.f1 s.f2 s.f3) x:=fun x hx=>by
    refine Ev_succ ?_
    simp only [contangoref23_find.l0,if_pos (show (j:Int) < (r.length:Int) by omega),if_pos (show 0 ≤ (j:Int) by omega),rdArr r j hj,he2,Bool.false_eq_true,if_false,w_succ hj (by omega)]
    exact hx
   refine ⟨fun a h=>?_,fun h=>st _ (i2 h)⟩
   obtain ⟨m,hm,e,hv⟩:=i1 a h
   exact ⟨m,hm,e,st _ hv⟩
theorem findR_some (r:List Arr) (hr:r.length ≤ 4611686018427387904) (s:Ser) (a:Arr) (h:findA r s = some a):∃ (m:Nat) (hm:m < r.length),r[m] = a ∧ Ev (fun k=>contangoref23_find.f k r s.f0 s.f1 s.f2 s.f3) (m:Int):=by
 have:=(findR_loop r hr s r.length 0 (by omega)).1 a (by simpa using h)
 exact this
theorem findR_none (r:List Arr) (hr:r.length ≤ 4611686018427387904) (s:Ser) (h:findA r s = none):Ev (fun k=>contangoref23_find.f k r s.f0 s.f1 s.f2 s.f3) (-1):=by
 have:=(findR_loop r hr s r.length 0 (by omega)).2 (by simpa using h)
 exact this
theorem checksLoop (l:List Pos) (r:List Arr) (hl:l.length ≤ 4611686018427387904) (hr:r.length ≤ 4611686018427387904):∀ (d i:Nat),i + d = l.length → Ev (fun k=>contangoref23_checks.l0 k l r i) (foundE [] (ownA r (l.drop i))).2
 | 0,i,hd=>by
  refine Ev_succ ?_
  rw [List.drop_of_length_le (by omega)]
  simp only [contangoref23_checks.l0,if_neg (show ¬ ((i:Int) < (l.length:Int)) by omega),ownA,foundE]
  exact Ev.now _
 | d + 1,i,hd=>by
  have hi:i < l.length:=by omega
  have ih:=checksLoop l r hl hr d (i + 1) (by omega)
  rw [← w_succ hi (by omega)] at ih
  rw [drop_cons l i hi]
  refine Ev_succ ?_
  simp only [contangoref23_checks.l0,if_pos (show (i:Int) < (l.length:Int) by omega),if_pos (show 0 ≤ (i:Int) by omega),rdPos l i hi]
  cases hf:findA r l[i].f0 with
  | none =>
   refine Ev_bind (findR_none r hr _ hf) ?_
   simp only [if_pos (show (-1:Int) < 0 by omega),ownA,hf,Option.bind_none,foundE]
   exact Ev.now _
  | some a =>
   obtain ⟨m,hm,e,hv⟩:=findR_some r hr _ a hf
   refine Ev_bind hv ?_
   simp only [if_neg (show ¬ ((m:Int) < 0) by omega),ownA,hf,Option.bind_some]
   cases ho:ownA r (l.drop (i + 1)) with
   | none=>rw [ho] at ih;exact ih
   | some o=>rw [ho] at ih;exact ih
theorem checks_f (l:List Pos) (r:List Arr) (hl:l.length ≤ 4611686018427387904) (hr:r.length ≤ 4611686018427387904) (ha:∀ a ∈ r,a.f1.length ≤ 4611686018427387904):Ev (fun k=>contangoref23_checks.f k l r) (found l r).2:=by
 unfold contangoref23_checks.f found both
 refine Ev_bind (refScanCheck_f r hr ha) ?_
 by_cases h:scanCheck r = 0
 ·simp only [if_pos h]
  refine Ev_bind (refPosCheck_f l hl) ?_
  by_cases h2:posCheck l = 0
  ·simp only [if_pos h2]
   have:=checksLoop l r hl hr l.length 0 (by omega)
   simpa using this
  ·simp only [if_neg h2];exact Ev.now _
 ·simp only [if_neg h];exact Ev.now _
theorem ownA_get (r:List Arr):∀ (l:List Pos) (o:List Arr),ownA r l = some o → ∀ (i:Nat) (h:i < l.length) (h':i < o.length),findA r l[i].f0 = some o[i]
 | [],o,h,i,hi,_=>by simp at hi
 | p :: t,o,h,i,hi,hi'=>by
  simp only [ownA,Option.bind_eq_some_iff,Option.map_eq_some_iff] at h
  obtain ⟨a,ha,o',ho,rfl⟩:=h
  cases i with
  | zero=>exact ha
  | succ j=>exact ownA_get r t o' ho j (by simpa using hi) (by simpa using hi')
theorem refLossL1 (l:List Pos) (r:List Arr) (hr:r.length ≤ 4611686018427387904) (o:List Arr) (ho:ownA r l = some o) (n:Nat) (hg:PGood l o n) (s:Nat) (hs:s < n) (acc:List Int) (res:List Int × Int) :
  ∀ (d i:Nat) (done:List Int),i + d = l.length → done.length = i →
  Ev (fun k=>(contangoref01_Sum.f k (done ++ termsAt s (l.drop i) (o.drop i))).bind fun b=>if b.2 = 0 then (if acc.length < 17592186044416 then contangoref23_Losses.l0 k l r (acc ++ [b.1]) (wrap64 ((s:Int) + 1)) else none) else some ([],b.2)) res →
  Ev (fun k=>contangoref23_Losses.l1 k l r acc s done i) res
 | 0,i,done,hd,hdone,h=>by
  rw [List.drop_of_length_le (by omega)] at h
  simp only [termsAt,List.append_nil] at h
  refine Ev_succ ?_
  simp only [contangoref23_Losses.l1,if_neg (show ¬ ((i:Int) < (l.length:Int)) by omega)]
  exact h
 | d + 1,i,done,hd,hdone,h=>by
  have hi:i < l.length:=by omega
  have hio:i < o.length:=by rw [hg.len];exact hi
  have hp:=hg.lots l[i] (List.getElem_mem hi)
  have ha:=hg.arr o[i] (List.getElem_mem hio)
  have hf:=hg.few
  have b1:=lots_rng hp.1
  have b2:=lots_rng hp.2
  have hsl:s < o[i].f1.length:=by rw [ha.1];exact hs
  have b3:=lossBad_rng (ha.2.1 o[i].f1[s] (List.getElem_mem hsl))
  have e1:wrap64 (l[i].f1 - l[i].f2) = l[i].f1 - l[i].f2:=w_id (by omega) (by omega)
  have b4:=mul_rng (A:=1048576) (B:=68719476736) (a:=l[i].f1 - l[i].f2) (b:=o[i].f1[s]) (by omega) (by omega)
  have e2:wrap64 ((l[i].f1 - l[i].f2) * o[i].f1[s]) = (l[i].f1 - l[i].f2) * o[i].f1[s]:=w_id (by omega) (by omega)
  obtain ⟨m,hm,em,hv⟩:=findR_some r hr _ _ (ownA_get r l o ho i hi hio)
  refine Ev_succ ?_
  simp only [contangoref23_Losses.l1,if_pos (show (i:Int) < (l.length:Int) by omega),if_pos (show 0 ≤ (i:Int) by omega),rdPos l i hi]
  refine Ev_bind hv ?_
  simp only [if_pos (show 0 ≤ (m:Int) by omega),if_pos (show (m:Int) < (r.length:Int) by omega),rdArr r m hm,em,if_pos (show 0 ≤ (s:Int) by omega),if_pos (show (s:Int) < (o[i].f1.length:Int) by omega),rd_nat _ s hsl,e1,e2,if_pos (show done.length < 17592186044416 by omega),w_succ hi (by omega)]
  refine refLossL1 l r hr o ho n hg s hs acc res d (i + 1) _ (by omega) (by simp [hdone]) ?_
  rw [drop_cons l i hi,drop_cons o i hio] at h
  simp only [termsAt] at h
  rw [List.append_assoc]
  have eg:o[i].f1.getD s 0 = o[i].f1[s]:=by simp [List.getD,hsl]
  rw [eg] at h
  exact h
theorem refLossL0 (l:List Pos) (r:List Arr) (hr:r.length ≤ 4611686018427387904) (h0:0 < r.length) (o:List Arr) (ho:ownA r l = some o) (hg:PGood l o (scanN r)):∀ (d s:Nat) (acc:List Int),s + d = scanN r → acc.length = s →
  Ev (fun k=>contangoref23_Losses.l0 k l r acc s) (lossesFrom l o acc (List.range' s d))
 | 0,s,acc,hd,hacc=>by
  have hrn:(((rd_T91 r 0).f1).length:Int) = (scanN r:Int):=by
   cases r with
   | nil=>simp at h0
   | cons x t=>rfl
  refine Ev_succ ?_
  simp only [contangoref23_Losses.l0,if_pos (show (r.length:Int) > 0 by omega),if_pos (show 0 < (r.length:Int) by omega),hrn,decide_eq_false (show ¬ ((s:Int) < (scanN r:Int)) by omega)]
  refine Ev_succ ?_
  simp only [contangoref23_Losses.j1,Bool.false_eq_true,if_false]
  exact Ev.now _
 | d + 1,s,acc,hd,hacc=>by
  have hrn:(((rd_T91 r 0).f1).length:Int) = (scanN r:Int):=by
   cases r with
   | nil=>simp at h0
   | cons x t=>rfl
  have hn:=hg.scen
  have hf:=hg.few
  refine Ev_succ ?_
  simp only [contangoref23_Losses.l0,if_pos (show (r.length:Int) > 0 by omega),if_pos (show 0 < (r.length:Int) by omega),hrn,decide_eq_true (show ((s:Int) < (scanN r:Int)) by omega)]
  refine Ev_succ ?_
  simp only [contangoref23_Losses.j1,if_true]
  refine refLossL1 l r hr o ho _ hg s (by omega) acc _ l.length 0 [] (by omega) rfl ?_
  simp only [List.nil_append,List.drop_zero]
  refine Ev_bind (sumR_f _ (by have:=termsAt_len s l o;omega)) ?_
  simp only [List.range'_succ,lossesFrom]
  by_cases h:(sumE (termsAt s l o)).2 = 0
  ·simp only [if_pos h,if_pos (show acc.length < 17592186044416 by omega),w_succ (show s < scanN r by omega) (by omega)]
   exact refLossL0 l r hr h0 o ho hg d (s + 1) _ (by omega) (by simp [hacc])
  ·simp only [if_neg h]
   exact Ev.now _
theorem refLosses_f (l:List Pos) (r:List Arr) (hl:l.length ≤ 4611686018427387904) (hr:r.length ≤ 4611686018427387904) (ha:∀ a ∈ r,a.f1.length ≤ 4611686018427387904):Ev (fun k=>contangoref23_Losses.f k l r) (losses l r):=by
 unfold contangoref23_Losses.f losses
 refine Ev_bind (checks_f l r hl hr ha) ?_
 by_cases h:(found l r).2 = 0
 ·simp only [if_pos h]
  by_cases h0:r.length = 0
  ·simp only [if_pos h0]
   refine Ev_succ ?_
   simp only [contangoref23_Losses.l0,if_neg (show ¬ ((r.length:Int) > 0) by omega)]
   refine Ev_succ ?_
   simp only [contangoref23_Losses.j1,Bool.false_eq_true,if_false]
   exact Ev.now _
  ·simp only [if_neg h0]
   exact refLossL0 l r hr (by omega) _ (found_zero h).2 (found_good h) (scanN r) 0 [] (by omega) rfl
 ·simp only [if_neg h]
  exact Ev.now _
theorem lossesFrom_len (l:List Pos) (o:List Arr):∀ (ss:List Nat) (acc:List Int),(lossesFrom l o acc ss).1.length ≤ acc.length + ss.length ∧ ((lossesFrom l o acc ss).2 ≠ 0 → (lossesFrom l o acc ss).1 = [])
 | [],acc=>by simp [lossesFrom]
 | s :: t,acc=>by
  unfold lossesFrom
  by_cases h:(sumE (termsAt s l o)).2 = 0
  ·rw [if_pos h]
   have:=lossesFrom_len l o t (acc ++ [(sumE (termsAt s l o)).1])
   refine ⟨?_,this.2⟩
   have h1:=this.1
   simp only [List.length_append,List.length_cons,List.length_nil] at h1 ⊢
   omega
  ·rw [if_neg h];simp
theorem losses_small (l:List Pos) (r:List Arr):(losses l r).1.length ≤ 32 ∧ ((losses l r).2 ≠ 0 → (losses l r).1 = []):=by
 unfold losses
 by_cases h:(found l r).2 = 0
 ·rw [if_pos h]
  by_cases h0:r.length = 0
  ·rw [if_pos h0];simp
  ·rw [if_neg h0]
   have:=lossesFrom_len l (found l r).1 (List.range' 0 (scanN r)) []
   have hs:=(found_good h).scen
   refine ⟨?_,this.2⟩
   have h1:=this.1
   simp only [List.length_nil,List.length_range'] at h1
   omega
 ·rw [if_neg h];simp
def riskGo:Int → Int → Nat → List Int → Int × Int
 | m,a,_,[]=>(m,a)
 | m,a,i,x :: t=>if x > m then riskGo x (i:Int) (i + 1) t else riskGo m a (i + 1) t
def risk (l:List Pos) (r:List Arr):Int × Int × Int:=((riskGo 0 0 0 (losses l r).1).1,(riskGo 0 0 0 (losses l r).1).2,(losses l r).2)
theorem riskLoop (v:List Int) (hv:v.length ≤ 4611686018427387904) (e:Int):∀ (d i:Nat) (m a:Int),i + d = v.length → Ev (fun k=>scan_Risk.l0 k m a e v v.length i) ((riskGo m a i (v.drop i)).1,(riskGo m a i (v.drop i)).2,e)
 | 0,i,m,a,hd=>by
  refine Ev_succ ?_
  rw [List.drop_of_length_le (by omega)]
  simp only [scan_Risk.l0,if_neg (show ¬ ((i:Int) < (v.length:Int)) by omega),riskGo]
  exact Ev.now _
 | d + 1,i,m,a,hd=>by
  have hi:i < v.length:=by omega
  rw [drop_cons v i hi]
  refine Ev_succ ?_
  simp only [scan_Risk.l0,if_pos (show (i:Int) < (v.length:Int) by omega),if_pos (show 0 ≤ (i:Int) by omega),rd_nat v i hi,w_succ hi (by omega),riskGo]
  by_cases c:v[i] > m
  ·simp only [if_pos c];exact riskLoop v hv e d (i + 1) _ _ (by omega)
  ·simp only [if_neg c];exact riskLoop v hv e d (i + 1) _ _ (by omega)
theorem risk_f (l:List Pos) (r:List Arr) (hl:l.length ≤ 4611686018427387904) (hr:r.length ≤ 4611686018427387904) (ha:∀ a ∈ r,a.f1.length ≤ 4611686018427387904):Ev (fun k=>scan_Risk.f k l r) (risk l r):=by
 unfold scan_Risk.f risk
 refine Ev_bind (losses_f l r hl hr ha) ?_
 have:=(losses_small l r).1
 exact riskLoop _ (by omega) _ (losses l r).1.length 0 0 0 (by omega)
theorem refRiskLoop (v:List Int) (hv:v.length ≤ 4611686018427387904):∀ (d i:Nat) (m a:Int),i + d = v.length → Ev (fun k=>contangoref23_Risk.l0 k v m a i) ((riskGo m a i (v.drop i)).1,(riskGo m a i (v.drop i)).2,0)
 | 0,i,m,a,hd=>by
  refine Ev_succ ?_
  rw [List.drop_of_length_le (by omega)]
  simp only [contangoref23_Risk.l0,if_neg (show ¬ ((i:Int) < (v.length:Int)) by omega),riskGo]
  exact Ev.now _
 | d + 1,i,m,a,hd=>by
  have hi:i < v.length:=by omega
  rw [drop_cons v i hi]
  refine Ev_succ ?_
  simp only [contangoref23_Risk.l0,if_pos (show (i:Int) < (v.length:Int) by omega),if_pos (show 0 ≤ (i:Int) by omega),rd_nat v i hi,w_succ hi (by omega),riskGo]
  by_cases c:v[i] > m
  ·simp only [if_pos c];exact refRiskLoop v hv d (i + 1) _ _ (by omega)
  ·simp only [if_neg c];exact refRiskLoop v hv d (i + 1) _ _ (by omega)
theorem refRisk_f (l:List Pos) (r:List Arr) (hl:l.length ≤ 4611686018427387904) (hr:r.length ≤ 4611686018427387904) (ha:∀ a ∈ r,a.f1.length ≤ 4611686018427387904):Ev (fun k=>contangoref23_Risk.f k l r) (risk l r):=by
 unfold contangoref23_Risk.f risk
 refine Ev_bind (refLosses_f l r hl hr ha) ?_
 have hs:=losses_small l r
 by_cases h:(losses l r).2 = 0
 ·simp only [if_pos h]
  have:=refRiskLoop (losses l r).1 (by omega) (losses l r).1.length 0 0 0 (by omega)
  simpa [h] using this
 ·simp only [if_neg h,hs.2 h,riskGo]
  exact Ev.now _
end Go.Proofs.Ytbgeceiddcokmaa.P
end
section
namespace Go.Proofs.Ytbgeceiddcokmaa.P
open Go.RowKit Go.Proofs.YtbgeceiddcokmaaW.PrintWords Go.Proofs.YtbgeceiddcokmaaW.PrintMore Go.Proofs.Ytbgeceiddcokmaa.X
theorem goes23:Ev (fun k=>contangolaw23_goes.f k) true:=Ev.of (k:=40) (contangolaw23_goes.mono) (by decide +kernel)
end Go.Proofs.Ytbgeceiddcokmaa.P
end
section
namespace Go.Proofs.Ytbgeceiddcokmaa.Pure
set_option linter.unusedVariables false
set_option linter.unusedSimpArgs false
open Go.RowKit Go.Proofs.YtbgeceiddcokmaaW.PrintWords Go.Proofs.YtbgeceiddcokmaaW.PrintMore Go.Proofs.Ytbgeceiddcokmaa.X Go.Proofs.Ytbgeceiddcokmaa.P
theorem posEqLoop (a:List Pos) (ha:a.length ≤ 4611686018427387904):∀ (d i:Nat),i + d = a.length → Ev (fun k=>contangoref23_Positions.l0 k a a i) true
  | 0,i,hd=>by
    refine Ev_succ ?_
    simp only [contangoref23_Positions.l0,if_neg (show ¬ ((i:Int) < (a.length:Int)) by omega)]
    exact Ev.now _
  | d + 1,i,hd=>by
    have hi:i < a.length:=by omega
    refine Ev_succ ?_
    simp only [contangoref23_Positions.l0,if_pos (show (i:Int) < (a.length:Int) by omega),if_pos (show 0 ≤ (i:Int) by omega),beq_self_eq_true,Bool.not_true,Bool.or_false,Bool.false_eq_true,if_false,w_succ hi (by omega)]
    exact posEqLoop a ha d (i + 1) (by omega)
theorem posEq_f (a:List Pos) (ha:a.length ≤ 4611686018427387904):Ev (fun k=>contangoref23_Positions.f k a a) true:=by
  unfold contangoref23_Positions.f
  simp only [if_true]
  exact posEqLoop a ha a.length 0 (by omega)
theorem keptLoop (a:List Arr) (ha:a.length ≤ 4611686018427387904) (hb:∀ x ∈ a,x.f1.length ≤ 4611686018427387904):∀ (d i:Nat),i + d = a.length → Ev (fun k=>contangolaw23_kept.l0 k a a a.length i) true
  | 0,i,hd=>by
    refine Ev_succ ?_
    simp only [contangolaw23_kept.l0,if_neg (show ¬ ((i:Int) < (a.length:Int)) by omega)]
    exact Ev.now _
  | d + 1,i,hd=>by
    have hi:i < a.length:=by omega
    refine Ev_succ ?_
    simp only [contangolaw23_kept.l0,if_pos (show (i:Int) < (a.length:Int) by omega),if_pos (show 0 ≤ (i:Int) by omega),beq_self_eq_true,Bool.not_true,Bool.or_false,Bool.false_eq_true,if_false,if_true,w_succ hi (by omega),rdArr a i hi]
    have hs:=same_f a[i].f1 a[i].f1 (hb _ (List.getElem_mem hi))
    rw [decide_eq_true rfl] at hs
    refine Ev_bind hs ?_
    simp only [if_true]
    exact keptLoop a ha hb d (i + 1) (by omega)
theorem ownLoop (a:List Arr) (ha:a.length ≤ 4611686018427387904) (hb:∀ x ∈ a,x.f1.length < 17592186044416):∀ (d i:Nat),i + d = a.length → Ev (fun k=>contangolaw23_own.l0 k a a.length i) a
  | 0,i,hd=>by
    refine Ev_succ ?_
    simp only [contangolaw23_own.l0,if_neg (show ¬ ((i:Int) < (a.length:Int)) by omega)]
    exact Ev.now _
  | d + 1,i,hd=>by
    have hi:i < a.length:=by omega
    have h1:=hb _ (List.getElem_mem hi)
    refine Ev_succ ?_
    simp only [contangolaw23_own.l0,if_pos (show (i:Int) < (a.length:Int) by omega),if_pos (show 0 ≤ (i:Int) by omega),Option.bind_some,rdArr a i hi,List.length_nil,Nat.zero_add,if_pos h1,List.nil_append,w_succ hi (by omega),Int.toNat_natCast]
    have:a.set i (⟨⟨a[i].f0.f0,a[i].f0.f1,a[i].f0.f2,a[i].f0.f3⟩,a[i].f1,a[i].f2⟩:Arr) = a:=List.set_getElem_self hi
    rw [this]
    exact ownLoop a ha hb d (i + 1) (by omega)
theorem own_f (a:List Arr) (ha:a.length < 1954687338268) (hb:∀ x ∈ a,x.f1.length < 17592186044416):Ev (fun k=>contangolaw23_own.f k a) a:=by
  unfold contangolaw23_own.f
  simp only [Option.bind_some,List.length_nil,Nat.zero_add,if_pos ha,List.nil_append]
  exact ownLoop a (by omega) hb a.length 0 (by omega)
theorem putLoop (l:List Pos) (r:List Arr) (hl:l.length ≤ 4611686018427387904) (hr:r.length ≤ 4611686018427387904) (hb:∀ x ∈ r,x.f1.length ≤ 4611686018427387904) (N:Nat) (hN:N ≤ 1000):∀ (d i:Nat) (v:List Int),i + d = N → v.length = N → Ev (fun k=>contangolaw23_ScanLosses.l0 k l r l r v N i) true
  | 0,i,v,hd,hv=>by
    refine Ev_succ ?_
    simp only [contangolaw23_ScanLosses.l0,if_neg (show ¬ ((i:Int) < (N:Int)) by omega)]
    refine Ev_bind (a:=true) (keptLoop r hr hb r.length 0 (by omega)) ?_
    simp only [if_true]
    refine Ev_bind (posEq_f l hl) ?_
    simp only [if_true]
    exact Ev_id goes23
  | d + 1,i,v,hd,hv=>by
    have hi:i < N:=by omega
    refine Ev_succ ?_
    simp only [contangolaw23_ScanLosses.l0,if_pos (show (i:Int) < (N:Int) by omega),if_pos (show 0 ≤ (i:Int) by omega),if_pos (show (i:Int) < (v.length:Int) by omega),w_succ hi (by omega)]
    exact putLoop l r hl hr hb N hN d (i + 1) _ (by omega) (by simp [hv])
theorem ScanLosses:∀ (l0:List (S73)) (l1:List (S91)),(l0.length ≤ maxLen ∧ l0.length * 56 ≤ 140737488351232 ∧ ∀ x ∈ l0,ok73 x) → (l1.length ≤ maxLen ∧ l1.length * 72 ≤ 140737488351232 ∧ ∀ x ∈ l1,ok91 x) → ∃ k,X.contangolaw23_ScanLosses.f k l0 l1 = some true:=by
  intro l r hl hr
  apply Ev.rounds
  have bl:l.length ≤ 4611686018427387904:=by omega
  have br:r.length ≤ 4611686018427387904:=by omega
  have brb:∀ a ∈ r,a.f1.length < 17592186044416:=by
    intro a har
    have:=(hr.2.2 a har).2.1.2.1
    omega
  have bra:∀ a ∈ r,a.f1.length ≤ 4611686018427387904:=fun a h=>by have:=brb a h;omega
  unfold contangolaw23_ScanLosses.f
  obtain ⟨b,hb,hfew⟩:=few_f l r br
  refine Ev_bind hb ?_
  cases b with
  | false=>simp only [Bool.false_eq_true,if_false];exact Ev_id goes23
  | true =>
    obtain ⟨few1,few2⟩:=hfew rfl
    obtain ⟨n1,_⟩:=losses_small l r
    simp only [if_true,Option.bind_some,List.length_nil,Nat.zero_add,if_pos (show l.length < 2513169434916 by omega),List.nil_append]
    refine Ev_bind (own_f r (by omega) brb) ?_
    refine Ev_bind (losses_f l r bl br bra) ?_
    refine Ev_bind (refLosses_f l r bl br bra) ?_
    refine Ev_bind (risk_f l r bl br bra) ?_
    refine Ev_bind (refRisk_f l r bl br bra) ?_
    refine Ev_bind (scanCheck_f r br bra) ?_
    refine Ev_bind (refScanCheck_f r br bra) ?_
    simp only [if_true]
    have hs:=same_f (losses l r).1 (losses l r).1 (by omega)
    rw [decide_eq_true rfl] at hs
    refine Ev_bind hs ?_
    simp only [if_true,bne_self_eq_false]
    refine Ev_succ ?_
    simp only [contangolaw23_ScanLosses.j0,Bool.false_eq_true,if_false]
    exact putLoop l r bl br bra _ (by omega) (losses l r).1.length 0 _ (by omega) rfl
end Go.Proofs.Ytbgeceiddcokmaa.Pure
end
