/- For SuspendCases: contracts, and facts on lists and numbers, that it uses (part 3). -/
import Derived.ChangeArms
import Derived.Deep.Slices
import Derived.Laws.BitsLemmas
import Derived.Laws.Strings
import Derived.Lib.Bytealg
import Derived.SizedLaws
import Derived.Test.YtgmelgkcoejknaaSuspendCasesc2
import Derived.WideShapes
section
namespace Go.Proofs.Ytgmelgkcoejknaa.Opn
open Go.ChangeShapes Go.WideShapes Go.Proofs.YtgmelgkcoejknaaW.PrintWords
set_option linter.unusedVariables false
set_option linter.unusedSimpArgs false
structure Opens (P:Program) (t:TypeId) {α:Type} (d:Kd α) (Ok:α → Prop):Prop where
  sz:d.sz = P.cellsOf t
  opens:∀ {H:Type} {enc:TypeId × Value → H} {w:World} {base:Nat} {spare:Nat → Bool} {held:Bool} {fuel:Nat} {cs:List Value} {x:DataW H × List MemPlace},
    DataW.trod enc P w base spare held fuel t cs = some x → (∀ n ∈ x.1.weights P t,n ≤ reachBytes) → ∃ v,d.K w v cs ∧ Ok v
theorem opens_int {P:Program} {t:TypeId} {k:IntKind} (ht:P.underlying t = some (.int k)) (hc:P.cellsOf t = 1):Opens P t (Kd.int k) (fun n=>(Lit.int k n).wf = true):=by
  refine ⟨hc.symm,fun h _=>?_⟩
  obtain ⟨n,rfl,_,hw⟩:=DataW.trod_int ht h
  exact ⟨n,rfl,hw⟩
theorem opens_string {P:Program} {t:TypeId} (ht:P.underlying t = some .string) (hc:P.cellsOf t = 1):Opens P t Kd.string (fun s=>s.size ≤ 140737488351232):=by
  refine ⟨hc.symm,fun h hw=>?_⟩
  obtain ⟨s,rfl,rfl,hs⟩:=DataW.trod_string ht h
  refine ⟨s,rfl,?_⟩
  have:=hw s.data.toList.length (by simp [DataW.weights])
  rw [Array.length_toList] at this
  exact this
theorem weights_all {H:Type} {P:Program} {e:TypeId}:∀ {ds:List (DataW H)} {j:Nat} {d:DataW H},ds[j]? = some d → ∀ n ∈ d.weights P e,n ∈ DataW.weightsAll P e ds
  | d0 :: ds,0,d,hd,n,hn=>by
    simp only [List.getElem?_cons_zero,Option.some.injEq] at hd
    subst hd
    simp only [DataW.weightsAll,List.mem_append]
    exact Or.inl hn
  | d0 :: ds,j + 1,d,hd,n,hn=>by
    simp only [List.getElem?_cons_succ] at hd
    simp only [DataW.weightsAll,List.mem_append]
    exact Or.inr (weights_all hd n hn)
  | [],_,_,hd,_,_=>by simp at hd
theorem list_of {α:Type} {n:Nat} {p:Nat → α → Prop} (h:∀ i,i < n → ∃ x,p i x):∃ l:List α,l.length = n ∧ ∀ i x,l[i]? = some x → p i x:=by
  induction n with
  | zero=>exact ⟨[],rfl,fun i x hx=>by simp at hx⟩
  | succ n ih =>
    obtain ⟨l,hl,hp⟩:=ih (fun i hi=>h i (by omega))
    obtain ⟨x,hx⟩:=h n (by omega)
    refine ⟨l ++ [x],by simp [hl],fun i y hy=>?_⟩
    by_cases hi:i < l.length
    · rw [List.getElem?_append_left hi] at hy
      exact hp i y hy
    · rw [List.getElem?_append_right (by omega)] at hy
      have:i - l.length = 0:=by
        cases hk:i - l.length with
        | zero=>rfl
        | succ m=>rw [hk] at hy;simp at hy
      rw [this] at hy
      simp at hy
      subst hy
      have:i = n:=by omega
      subst this
      exact hx
theorem opens_slice {P:Program} {t e:TypeId} {α:Type} {d:Kd α} {Ok:α → Prop} (h:Opens P e d Ok) (ht:P.underlying t = some (.slice e)) (hc:P.cellsOf t = 1) {B:Nat} (hB:P.bytesOf e = B) :
    Opens P t (Kd.slice e d) (fun l=>l.length ≤ maxLen ∧ l.length * B ≤ 140737488351232 ∧ ∀ x ∈ l,Ok x):=by
  subst hB
  refine ⟨hc.symm,fun {H enc w base spare held fuel cs x} hx hw=>?_⟩
  rcases DataW.trod_slice ht hx with ⟨rfl,rfl⟩|⟨a,len,cap,elems,rest,n,_,rfl,rfl,hb,hl,hm,hlen,hel,hsp,hns⟩
  · exact ⟨[],⟨none,0,rfl,Nat.le_refl _,Kd.C_nil _ _⟩,by simp⟩
  simp only [DataW.weights,ht] at hw
  have hw1:(elems.length + rest.length) * P.bytesOf e ≤ reachBytes:=by
    have:=hw ((elems.length + rest.length) * P.bytesOf e) (by simp)
    exact this
  have hone:∀ i,i < len → ∃ v:α,∃ c,w.cells? base (a.add (i * P.cellsOf e)) (P.cellsOf e) = some c ∧ d.K w v c ∧ Ok v:=by
    intro i hi
    have h1:=hel i hi
    rw [List.getElem?_eq_getElem (by omega)] at h1
    obtain ⟨c,hc1,hc2⟩:=Option.bind_eq_some_iff.1 h1
    obtain ⟨v,hv,hok⟩:=h.opens hc2 (fun n hn=>hw n (by
      simp only [List.mem_cons,List.mem_append]
      right;left
      refine weights_all (j:=i) ?_ n hn
      rw [List.getElem?_map,List.getElem?_eq_getElem (by omega)]
      rfl))
    exact ⟨v,c,hc1,hv,hok⟩
  obtain ⟨l,hl1,hl2⟩:=list_of hone
  subst hl1
  refine ⟨l,⟨some a,cap,rfl,hl,rfl,?_,fun _=>⟨a,rfl,fun j p hj=>?_⟩⟩,?_,?_,?_⟩
  · unfold maxLen at hm;omega
  · obtain ⟨c,hc1,hc2,_⟩:=hl2 j p hj
    obtain ⟨_,hlen2,hcell⟩:=World.cells?_some hc1
    refine ⟨c,by rw [h.sz];exact hlen2,hc2,fun i u hu=>?_⟩
    have hi:i < P.cellsOf e:=by
      have:=(List.getElem?_eq_some_iff.1 hu).1
      omega
    have:=hcell i hi
    rw [hu,← Deep.add_add,h.sz] at *
    exact this
  · exact Nat.le_trans hl hm
  · have h2:l.length * P.bytesOf e ≤ (elems.length + rest.length) * P.bytesOf e:=Nat.mul_le_mul_right _ (by omega)
    exact Nat.le_trans h2 hw1
  · intro x hx
    obtain ⟨j,hj⟩:=List.getElem?_of_mem hx
    obtain ⟨c,_,_,ho⟩:=hl2 j x hj
    exact ho
structure OpensF (P:Program) (fs:List Field) (off:Nat) {α:Type} (d:Kd α) (Ok:α → Prop):Prop where
  opens:∀ {H:Type} {enc:TypeId × Value → H} {w:World} {base:Nat} {spare:Nat → Bool} {held:Bool} {n:Nat} {cs:List Value} {xs:List (DataW H × List MemPlace)},
    xs.length = fs.length → (∀ (i:Nat) (f:Field),fs[i]? = some f → DataW.trod enc P w base spare held n f.type ((cs.drop f.offset).take (P.cellsOf f.type)) = xs[i]?) →
    (∀ m ∈ DataW.weightsEach P (fs.map (·.type)) (xs.map (·.1)),m ≤ reachBytes) → ∃ v,d.K w v ((cs.drop off).take d.sz) ∧ Ok v
theorem opensF_one {P:Program} {f:Field} {off:Nat} {α:Type} {d:Kd α} {Ok:α → Prop} (h:Opens P f.type d Ok) (ho:f.offset = off):OpensF P [f] off d Ok:=by
  refine ⟨fun {H enc w base spare held n cs xs} hl hx hw=>?_⟩
  match xs,hl with
  | [x],_ =>
    have h1:=hx 0 f rfl
    obtain ⟨v,hv,hok⟩:=h.opens h1 (fun n hn=>hw n (by simpa [DataW.weightsEach] using hn))
    refine ⟨v,?_,hok⟩
    rw [h.sz,← ho]
    exact hv
theorem opensF_cons {P:Program} {f:Field} {fs:List Field} {off:Nat} {α β:Type} {d:Kd α} {d':Kd β} {Ok:α → Prop} {Ok':β → Prop} (h:Opens P f.type d Ok) (ho:f.offset = off) (h':OpensF P fs (off + d.sz) d' Ok') :
    OpensF P (f :: fs) off (Kd.pair d d') (fun p=>Ok p.1 ∧ Ok' p.2):=by
  refine ⟨fun {H enc w base spare held n cs xs} hl hx hw=>?_⟩
  match xs,hl with
  | x :: xs,hl =>
    have h1:=hx 0 f rfl
    obtain ⟨v,hv,hok⟩:=h.opens h1 (fun n hn=>hw n (by
      simp only [List.map_cons,DataW.weightsEach,List.mem_append];exact Or.inl hn))
    obtain ⟨v',hv',hok'⟩:=h'.opens (cs:=cs) (xs:=xs) (by simpa using hl) (fun i g hg=>by
      have:=hx (i + 1) g (by simpa using hg)
      simpa using this) (fun m hm=>hw m (by simp only [List.map_cons,DataW.weightsEach,List.mem_append];exact Or.inr hm))
    refine ⟨(v,v'),⟨(cs.drop off).take d.sz,(cs.drop (off + d.sz)).take d'.sz,?_,?_,hv'⟩,hok,hok'⟩
    · show (cs.drop off).take (d.sz + d'.sz) = _
      rw [List.take_add,List.drop_drop]
    · rw [h.sz,← ho];exact hv
theorem opens_struct {P:Program} {t:TypeId} {fs:Array Field} {α β:Type} {d:Kd α} {Ok:α → Prop} (h:OpensF P fs.toList 0 d Ok) (ht:P.underlying t = some (.struct fs)) (hc:d.sz = P.cellsOf t) (f:β → α) (mk:α → β) (hf:∀ a,f (mk a) = a) :
    Opens P t (Kd.iso d f) (fun b=>Ok (f b)):=by
  refine ⟨hc,fun {H enc w base spare held fuel cs x} hx hw=>?_⟩
  obtain ⟨xs,n,_,rfl,hlen,hsz,hall⟩:=DataW.trod_struct ht hx
  simp only [DataW.weights,ht] at hw
  obtain ⟨v,hv,hok⟩:=h.opens (cs:=cs) (xs:=xs) (by simpa using hsz) (fun i f hf=>hall i f (by simpa using hf)) hw
  refine ⟨mk v,?_,by rw [hf];exact hok⟩
  show d.K w (f (mk v)) cs
  rw [hf]
  rw [List.drop_zero,hc,← hlen,List.take_length] at hv
  exact hv
theorem opens_imp {P:Program} {t:TypeId} {α:Type} {d:Kd α} {Ok Ok':α → Prop} (h:Opens P t d Ok) (hi:∀ v,Ok v → Ok' v):Opens P t d Ok' :=
  ⟨h.sz,fun hx hw=>let ⟨v,hv,ho⟩:=h.opens hx hw;⟨v,hv,hi v ho⟩⟩
end Go.Proofs.Ytgmelgkcoejknaa.Opn
end
section
namespace Go.Proofs.Ytgmelgkcoejknaa.X
open Go.RowKit Go.Proofs.YtgmelgkcoejknaaW.PrintWords Go.Proofs.YtgmelgkcoejknaaW.PrintLast Go.Proofs.YtgmelgkcoejknaaW.PrintMore
attribute [local go_sem] max2_int min2_int max_two min_two max_three min_three max_four min_four
set_option linter.unusedVariables false
set_option linter.unusedSimpArgs false
def ok41 (v:S41):Prop:=v.f0.size ≤ 140737488351232 ∧ ((Lit.int .i64 v.f1).wf = true ∧ ((Lit.int .i64 v.f2).wf = true))
theorem opens41:Opn.Opens Try.prog 41 k41 ok41:=by
 have hu:=Try.underlying41
 refine Opn.opens_imp (Opn.opens_struct (Ok:=fun (p:ByteArray × (Int × (Int)))=>p.1.size ≤ 140737488351232 ∧ ((Lit.int .i64 p.2.1).wf = true ∧ ((Lit.int .i64 p.2.2).wf = true))) ?hF hu (by kernel_rfl) (fun x:S41=>(x.f0,x.f1,x.f2)) (fun a=>⟨a.1,a.2.1,a.2.2⟩) (fun _=>rfl)) ?hI
 case hF =>
  refine Opn.opensF_cons (Ok:=fun (p:ByteArray)=>p.size ≤ 140737488351232) (Ok':=fun (p:Int × (Int))=>(Lit.int .i64 p.1).wf = true ∧ ((Lit.int .i64 p.2).wf = true)) (h:=?_) (ho:=?_) (h':=?_)
  ·exact Opn.opens_string Try.underlying9 (by kernel_rfl)
  ·rfl
  ·skip
   refine Opn.opensF_cons (Ok:=fun (p:Int)=>(Lit.int .i64 p).wf = true) (Ok':=fun (p:Int)=>(Lit.int .i64 p).wf = true) (h:=?_) (ho:=?_) (h':=?_)
   ·exact Opn.opens_int Try.underlying3 (by kernel_rfl)
   ·rfl
   ·skip
    refine Opn.opensF_one (Ok:=fun (p:Int)=>(Lit.int .i64 p).wf = true) (h:=?_) (ho:=?_)
    ·exact Opn.opens_int Try.underlying3 (by kernel_rfl)
    ·rfl
 case hI=>exact fun v h=>h
end Go.Proofs.Ytgmelgkcoejknaa.X
end
section
namespace Go.Proofs.Ytgmelgkcoejknaa.P
open Go.RowKit Go.Proofs.YtgmelgkcoejknaaW.PrintWords Go.Proofs.YtgmelgkcoejknaaW.PrintMore Go.Proofs.Ytgmelgkcoejknaa.X
theorem Ev_succ {α:Type} {g:Nat → Option α} {r:α} (h:Ev (fun k=>g (k + 1)) r):Ev g r:=Ev.step (fun _=>rfl) h
theorem Ev_bind {α β:Type} {g:Nat → Option α} {f:Nat → α → Option β} {a:α} {r:β} (h:Ev g a) (k:Ev (fun n=>f n a) r):Ev (fun n=>(g n).bind (f n)) r:=Ev.bind h k
theorem Ev_id {α:Type} {g:Nat → Option α} {r:α} (h:Ev g r):Ev (fun n=>(g n).bind fun x=>some x) r:=Ev.bind h (Ev.now _)
theorem w_id {x:Int} (h1:-9223372036854775808 ≤ x) (h2:x ≤ 9223372036854775807):wrap64 x = x:=by unfold wrap64;omega
theorem w_succ {i n:Nat} (h:i < n) (hn:n ≤ 9223372036854775807):wrap64 ((i:Int) + 1) = ((i + 1:Nat):Int):=by rw [w_id (by omega) (by omega)];omega
theorem w_pred {i:Nat} (h:0 < i) (hn:i ≤ 9223372036854775807):wrap64 ((i:Int) - 1) = ((i - 1:Nat):Int):=by rw [w_id (by omega) (by omega)];omega
theorem drop_cons {α:Type} (l:List α) (i:Nat) (h:i < l.length):l.drop i = l[i] :: l.drop (i + 1):=(List.getElem_cons_drop h).symm
end Go.Proofs.Ytgmelgkcoejknaa.P
end
section
namespace Go.Proofs.Ytgmelgkcoejknaa.P
set_option linter.unusedVariables false
set_option linter.unusedSimpArgs false
open Go.RowKit Go.Proofs.YtgmelgkcoejknaaW.PrintWords Go.Proofs.YtgmelgkcoejknaaW.PrintMore Go.Proofs.Ytgmelgkcoejknaa.X
theorem bl_self:∀ a:List UInt8,Op.bytesLess a a = false
 | []=>rfl
 | x :: a=>by simp [Op.bytesLess,bl_self a]
theorem bl_not:∀ a b:List UInt8,(!(Op.bytesLess a b || a == b)) = Op.bytesLess b a
 | [],[]=>rfl
 | [],y :: b=>by simp [Op.bytesLess]
 | x :: a,[]=>by simp [Op.bytesLess]
 | x :: a,y :: b=>by
  have ih:=bl_not a b
  simp only [Op.bytesLess]
  by_cases h:x = y
  ·subst h
   have:¬ x < x:=by simp
   simp only [this,decide_false,Bool.false_or,beq_self_eq_true,Bool.true_and,← ih]
   congr 1
   simp
  ·have h1:(x == y) = false:=by simpa using h
   have h2:(y == x) = false:=by simpa using fun e=>h e.symm
   have h3:(x :: a == y :: b) = false:=by simp [h]
   rw [h1,h2,h3]
   simp only [Bool.false_and,Bool.or_false]
   have:decide (y < x) = !decide (x < y):=by
    rw [Bool.eq_iff_iff]
    simp only [decide_eq_true_eq,Bool.not_eq_true',decide_eq_false_iff_not,UInt8.lt_iff_toNat_lt]
    have:x.toNat ≠ y.toNat:=fun e=>h (UInt8.toNat_inj.1 e)
    omega
   rw [this]
theorem bl_eq {a b:List UInt8} (h:Op.bytesLess a b = false) (k:Op.bytesLess b a = false):a = b:=by
 have:=bl_not a b
 rw [h,k] at this
 simpa using this
theorem bl_asymm {a b:List UInt8} (h:Op.bytesLess a b = true):Op.bytesLess b a = false:=by
 rw [← bl_not a b,h];rfl
theorem bl_trans:∀ a b c:List UInt8,Op.bytesLess a b = true → Op.bytesLess b c = true → Op.bytesLess a c = true
 | a,b,[],_,h=>by cases b <;> simp [Op.bytesLess] at h
 | a,[],z :: c,h,_=>by cases a <;> simp [Op.bytesLess] at h
 | [],y :: b,z :: c,_,_=>by simp [Op.bytesLess]
 | x :: a,y :: b,z :: c,h,k=>by
  simp only [Op.bytesLess,Bool.or_eq_true,Bool.and_eq_true,decide_eq_true_eq,beq_iff_eq] at h k ⊢
  rcases h with h|⟨h,h'⟩ <;> rcases k with k|⟨k,k'⟩
  ·exact Or.inl (UInt8.lt_trans h k)
  ·subst k;exact Or.inl h
  ·subst h;exact Or.inl k
  ·subst h k;exact Or.inr ⟨rfl,bl_trans a b c h' k'⟩
theorem cb_facts:∀ a b:List UInt8,(Lib.compareBytes a b < 0 ↔ Op.bytesLess a b = true) ∧ (Lib.compareBytes a b = 0 ↔ a = b)
 | [],[]=>by simp [Lib.compareBytes,Op.bytesLess]
 | [],y :: b=>by simp [Lib.compareBytes,Op.bytesLess]
 | x :: a,[]=>by simp [Lib.compareBytes,Op.bytesLess]
 | x :: a,y :: b=>by
  have ih:=cb_facts a b
  simp only [Lib.compareBytes,Op.bytesLess]
  by_cases h:x < y
  ·have hne:x ≠ y:=fun e=>by subst e;exact UInt8.lt_irrefl _ h
   simp [h,hne]
  ·by_cases h2:y < x
   ·have hne:x ≠ y:=fun e=>by subst e;exact UInt8.lt_irrefl _ h2
    simp [h,h2,hne]
   ·have e:x = y:=by
     rw [UInt8.lt_iff_toNat_lt] at h h2
     exact UInt8.toNat_inj.1 (by omega)
    subst e
    simp [ih.1,ih.2]
theorem cb_lt (a b:ByteArray):Lib.compareBytes a.data.toList b.data.toList < 0 ↔ Op.bytesLess a.toList b.toList = true:=by
 rw [ByteArray.toList_eq,ByteArray.toList_eq];exact (cb_facts _ _).1
theorem cb_eq (a b:ByteArray):Lib.compareBytes a.data.toList b.data.toList = 0 ↔ a.toList = b.toList:=by
 rw [ByteArray.toList_eq,ByteArray.toList_eq];exact (cb_facts _ _).2
end Go.Proofs.Ytgmelgkcoejknaa.P
end
section
namespace Go.Proofs.Ytgmelgkcoejknaa.P
set_option linter.unusedVariables false
set_option linter.unusedSimpArgs false
open Go.RowKit Go.Proofs.YtgmelgkcoejknaaW.PrintWords Go.Proofs.YtgmelgkcoejknaaW.PrintMore Go.Proofs.Ytgmelgkcoejknaa.X
def letterB (n:Int):Bool:=decide (97 ≤ n) && decide (n ≤ 122)
def digitB (n:Int):Bool:=decide (48 ≤ n) && decide (n ≤ 57)
theorem letter_f (n:Int):words_letter.f n = some (letterB n):=by
 unfold words_letter.f letterB
 by_cases h:97 ≤ n
 ·rw [if_pos h,decide_eq_true h,Bool.true_and]
 ·rw [if_neg h,decide_eq_false h,Bool.false_and]
theorem digit_f (n:Int):words_digit.f n = some (digitB n):=by
 unfold words_digit.f digitB
 by_cases h:48 ≤ n
 ·rw [if_pos h,decide_eq_true h,Bool.true_and]
 ·rw [if_neg h,decide_eq_false h,Bool.false_and]
def chB (s:ByteArray) (i:Nat):Bool:=letterB (bt s (i:Int)) || (!(i == 0) && digitB (bt s (i:Int)))
def nameFrom (s:ByteArray):Nat → Nat → Bool
 | 0,_=>true
 | d + 1,i=>chB s i && nameFrom s d (i + 1)
def nameB (s:ByteArray):Bool:=decide (0 < s.size) && decide (s.size ≤ 12) && nameFrom s s.size 0
theorem nameLoop (s:ByteArray) (hs:s.size ≤ 12) (h0:letterB (bt s 0) = true):∀ (d i:Nat),i + d = s.size → Ev (fun k=>words_Name.l0 k s s.size i) (nameFrom s d i)
 | 0,i,hd=>by
  refine Ev_succ ?_
  simp only [words_Name.l0,if_neg (show ¬ ((i:Int) < (s.size:Int)) by omega)]
  exact Ev.now _
 | d + 1,i,hd=>by
  have hi:i < s.size:=by omega
  have ih:=nameLoop s hs h0 d (i + 1) (by omega)
  refine Ev_succ ?_
  simp only [words_Name.l0,if_pos (show (i:Int) < (s.size:Int) by omega),if_pos (show 0 ≤ (i:Int) by omega),letter_f,digit_f,Option.bind_some,w_succ hi (by omega),nameFrom,chB]
  cases h1:letterB (bt s (i:Int)) with
  | true=>simp only [if_true,Bool.true_or,Bool.true_and];exact ih
  | false =>
   simp only [Bool.false_eq_true,if_false,Bool.false_or]
   have hi0:(i == 0) = false:=by
    rw [← Bool.not_eq_true,beq_iff_eq]
    rintro rfl
    rw [show ((0:Nat):Int) = 0 from rfl,h0] at h1
    cases h1
   simp only [hi0,Bool.not_false,Bool.true_and]
   cases h2:digitB (bt s (i:Int)) with
   | true=>simp only [if_true,Bool.true_and];exact ih
   | false=>simp only [Bool.false_eq_true,if_false,Bool.false_and];exact Ev.now _
theorem name_f (s:ByteArray):Ev (fun k=>words_Name.f k s) (nameB s):=by
 have hj:nameB s = false → Ev (fun k=>words_Name.j0 k s true) (nameB s):=by
  intro h
  rw [h]
  refine Ev_succ ?_
  simp only [words_Name.j0,if_true]
  exact Ev.now _
 unfold words_Name.f
 by_cases c0:s.toList = []
 ·simp only [if_pos c0]
  refine hj ?_
  have:s.size = 0:=by
   have e:s.toList = s.data.toList:=ByteArray.toList_eq s
   rw [e] at c0
   have:=congrArg List.length c0
   simpa using this
  simp [nameB,this]
 ·simp only [if_neg c0]
  by_cases c1:(s.size:Int) > 12
  ·simp only [if_pos c1]
   exact hj (by simp [nameB];omega)
  ·have hp:0 < s.size:=by
    rcases Nat.eq_zero_or_pos s.size with h|h
    ·exfalso
     apply c0
     have e:s.toList = s.data.toList:=ByteArray.toList_eq s
     rw [e]
     exact List.length_eq_zero_iff.1 (by simpa using h)
    ·exact h
   simp only [if_neg c1,if_pos (show 0 < (s.size:Int) by omega),letter_f,Option.bind_some]
   have hn:nameB s = nameFrom s s.size 0:=by
    unfold nameB
    rw [decide_eq_true hp,decide_eq_true (show s.size ≤ 12 by omega)]
    simp
   cases h1:letterB (bt s 0) with
   | false =>
    refine hj ?_
    rw [hn]
    obtain ⟨d,hd⟩:∃ d,s.size = d + 1:=⟨s.size - 1,by omega⟩
    rw [hd]
    simp [nameFrom,chB,h1]
   | true =>
    refine Ev_succ ?_
    simp only [words_Name.j0,Bool.not_true,Bool.false_eq_true,if_false]
    rw [hn]
    exact nameLoop s (by omega) h1 s.size 0 (by omega)
theorem nameRLoop (s:ByteArray) (hs:s.size ≤ 4611686018427387904):∀ (d i:Nat),i + d = s.size → Ev (fun k=>contangoref03_Name.l0 k s i) (nameFrom s d i && (decide (0 < s.size) && decide (s.size ≤ 12)))
 | 0,i,hd=>by
  refine Ev_succ ?_
  simp only [contangoref03_Name.l0,if_neg (show ¬ ((i:Int) < (s.size:Int)) by omega),nameFrom,Bool.true_and]
  by_cases c:(s.size:Int) > 0
  ·simp only [if_pos c,decide_eq_true (show 0 < s.size by omega),Bool.true_and]
   have:decide ((s.size:Int) ≤ 12) = decide (s.size ≤ 12):=by rw [decide_eq_decide];omega
   rw [this]
   exact Ev.now _
  ·simp only [if_neg c,decide_eq_false (show ¬ 0 < s.size by omega),Bool.false_and]
   exact Ev.now _
 | d + 1,i,hd=>by
  have hi:i < s.size:=by omega
  have ih:=nameRLoop s hs d (i + 1) (by omega)
  rw [← w_succ hi (by omega)] at ih
  refine Ev_succ ?_
  simp only [contangoref03_Name.l0,if_pos (show (i:Int) < (s.size:Int) by omega),if_pos (show 0 ≤ (i:Int) by omega),nameFrom]
  have step:chB s i = true → Ev (fun k=>contangoref03_Name.l0 k s (wrap64 ((i:Int) + 1))) (chB s i && nameFrom s d (i + 1) && (decide (0 < s.size) && decide (s.size ≤ 12))):=by
   intro h
   rw [h,Bool.true_and]
   exact ih
  have stop:chB s i = false → Ev (fun _=>(some false:Option Bool)) (chB s i && nameFrom s d (i + 1) && (decide (0 < s.size) && decide (s.size ≤ 12))):=by
   intro h
   rw [h,Bool.false_and,Bool.false_and]
   exact Ev.now _
  have rest:letterB (bt s (i:Int)) = false → Ev (fun k=>if (i:Int) = 0 then some false else if bt s (i:Int) < 48 then some false else if bt s (i:Int) > 57 then some false else contangoref03_Name.l0 k s (wrap64 ((i:Int) + 1))) (chB s i && nameFrom s d (i + 1) && (decide (0 < s.size) && decide (s.size ≤ 12))):=by
   intro hl
   by_cases c0:(i:Int) = 0
   ·have hi0:(i == 0) = true:=by rw [beq_iff_eq];omega
    simp only [if_pos c0]
    exact stop (by unfold chB;rw [hl,hi0];rfl)
   ·by_cases c1:bt s (i:Int) < 48
    ·simp only [if_neg c0,if_pos c1];exact stop (by simp [chB,hl,digitB];omega)
    ·by_cases c2:bt s (i:Int) > 57
     ·simp only [if_neg c0,if_neg c1,if_pos c2];exact stop (by simp [chB,hl,digitB];omega)
     ·simp only [if_neg c0,if_neg c1,if_neg c2];exact step (by simp [chB,hl,digitB];omega)
  by_cases g1:bt s (i:Int) ≥ 97
  ·by_cases g2:bt s (i:Int) ≤ 122
   ·simp only [if_pos g1,if_pos g2];exact step (by simp [chB,letterB];omega)
   ·simp only [if_pos g1,if_neg g2];exact rest (by simp [letterB];omega)
  ·simp only [if_neg g1];exact rest (by simp [letterB];omega)
theorem nameR_f (s:ByteArray) (hs:s.size ≤ 4611686018427387904):Ev (fun k=>contangoref03_Name.f k s) (nameB s):=by
 have h:=nameRLoop s hs s.size 0 (by omega)
 have e:nameB s = (nameFrom s s.size 0 && (decide (0 < s.size) && decide (s.size ≤ 12))):=by
  unfold nameB
  rw [Bool.and_comm]
 rw [e]
 exact h
end Go.Proofs.Ytgmelgkcoejknaa.P
end
section
namespace Go.Proofs.Ytgmelgkcoejknaa.P
set_option linter.unusedVariables false
set_option linter.unusedSimpArgs false
open Go.RowKit Go.Proofs.YtgmelgkcoejknaaW.PrintWords Go.Proofs.YtgmelgkcoejknaaW.PrintMore Go.Proofs.Ytgmelgkcoejknaa.X
abbrev RC:=S41
abbrev PC:=S37
def toC (c:RC):PC:=⟨c.f0,c.f1,c.f2⟩
theorem rdRC (l:List RC) (i:Nat) (h:i < l.length):rd_T41 l (i:Int) = l[i]:=by simp [rd_T41,h]
theorem rdPC (l:List PC) (i:Nat) (h:i < l.length):rd_T37 l (i:Int) = l[i]:=by simp [rd_T37,h]
theorem casesLoop (l:List RC) (hl:l.length ≤ 4398046511103):∀ (d i:Nat),i + d = l.length → Ev (fun k=>contangolaw41_Cases.l0 k l ((l.take i).map toC) i) (l.map toC)
 | 0,i,hd=>by
  refine Ev_succ ?_
  simp only [contangolaw41_Cases.l0,if_neg (show ¬ ((i:Int) < (l.length:Int)) by omega)]
  rw [List.take_of_length_le (by omega)]
  exact Ev.now _
 | d + 1,i,hd=>by
  have hi:i < l.length:=by omega
  have ih:=casesLoop l hl d (i + 1) (by omega)
  rw [List.take_succ_eq_append_getElem hi,List.map_append,List.map_cons,List.map_nil] at ih
  have hlen:((l.take i).map toC).length < 4398046511104:=by rw [List.length_map,List.length_take];omega
  refine Ev_succ ?_
  simp only [contangolaw41_Cases.l0,if_pos (show (i:Int) < (l.length:Int) by omega),if_pos (show 0 ≤ (i:Int) by omega),if_pos hlen,rdRC l i hi,w_succ hi (by omega)]
  exact ih
theorem cases_f (l:List RC) (hl:l.length ≤ 4398046511103):Ev (fun k=>contangolaw41_Cases.f k l) (l.map toC):=casesLoop l hl l.length 0 (by omega)
theorem sameCLoop (l:List RC) (hl:l.length ≤ 4611686018427387904):∀ (d i:Nat),i + d = l.length → Ev (fun k=>contangolaw41_same.l0 k (l.map toC) l i) true
 | 0,i,hd=>by
  refine Ev_succ ?_
  simp only [contangolaw41_same.l0,List.length_map,if_neg (show ¬ ((i:Int) < (l.length:Int)) by omega)]
  refine Ev_succ ?_
  simp only [contangolaw41_same.j1,Bool.false_eq_true,if_false,List.length_map,beq_self_eq_true]
  exact Ev.now _
 | d + 1,i,hd=>by
  have hi:i < l.length:=by omega
  have hm:(l.map toC)[i]'(by simpa using hi) = toC l[i]:=by simp
  refine Ev_succ ?_
  simp only [contangolaw41_same.l0,List.length_map,if_pos (show (i:Int) < (l.length:Int) by omega),decide_eq_true (show (i:Int) < (l.length:Int) by omega)]
  refine Ev_succ ?_
  simp only [contangolaw41_same.j1,if_true,List.length_map,if_pos (show 0 ≤ (i:Int) by omega),if_pos (show (i:Int) < (l.length:Int) by omega),rdRC l i hi,rdPC (l.map toC) i (by simpa using hi),hm,toC,w_succ hi (by omega)]
  exact sameCLoop l hl d (i + 1) (by omega)
theorem sameC_f (l:List RC) (hl:l.length ≤ 4611686018427387904):Ev (fun k=>contangolaw41_same.f k (l.map toC) l) true:=sameCLoop l hl l.length 0 (by omega)
end Go.Proofs.Ytgmelgkcoejknaa.P
end
section
namespace Go.Proofs.Ytgmelgkcoejknaa.P
set_option linter.unusedVariables false
set_option linter.unusedSimpArgs false
open Go.RowKit Go.Proofs.YtgmelgkcoejknaaW.PrintWords Go.Proofs.YtgmelgkcoejknaaW.PrintMore Go.Proofs.Ytgmelgkcoejknaa.X
def dayB (n:Int):Bool:=decide (0 ≤ n) && decide (n ≤ 73048)
theorem day_f (n:Int):suspend_day.f n = some (dayB n):=by
 unfold suspend_day.f dayB
 by_cases h:n ≥ 0
 ·rw [if_pos h,decide_eq_true (show 0 ≤ n from h),Bool.true_and]
 ·rw [if_neg h,decide_eq_false (show ¬ 0 ≤ n from h),Bool.false_and]
def behindN (prev:Option ByteArray) (n:ByteArray):Bool:=match prev with|some q=>!(Op.bytesLess q.toList n.toList)|none=>false
def restErr (c:PC):Int:=if c.f1 < 1 ∨ 7 < c.f1 then 13 else if dayB c.f2 = true then 0 else 15
def caseGo:Option ByteArray → List PC → Int
 | _,[]=>0
 | p,c :: t=>if nameB c.f0 = true then (if behindN p c.f0 = true then 12 else if restErr c = 0 then caseGo (some c.f0) t else restErr c) else 10
def caseCheck (l:List PC):Int:=if l.length > 32 then 8 else caseGo none l
def prevC (l:List PC) (i:Nat):Option ByteArray:=if i = 0 then none else (l[i - 1]?).map (·.f0)
theorem caseJ (l:List PC) (i:Nat) (b:Bool) (c:PC) (r:Int) (h:b = false → restErr c = 0 → Ev (fun k=>suspend_Check.l0 k l l l.length (wrap64 ((i:Int) + 1))) r) :
  Ev (fun k=>suspend_Check.j1 k l l l.length i b c.f0 c.f1 c.f2) (if b = true then 12 else if restErr c = 0 then r else restErr c):=by
 refine Ev_succ ?_
 cases b with
 | true=>simp only [suspend_Check.j1,if_true];exact Ev.now _
 | false =>
  simp only [suspend_Check.j1,Bool.false_eq_true,if_false]
  by_cases c1:c.f1 < 1
  ·have e:restErr c = 13:=by unfold restErr;rw [if_pos (Or.inl c1)]
   simp only [if_pos c1,e]
   refine Ev_succ ?_
   simp only [suspend_Check.j2,if_true]
   exact Ev.now _
  ·simp only [if_neg c1]
   refine Ev_succ ?_
   by_cases c2:c.f1 > 7
   ·have e:restErr c = 13:=by unfold restErr;rw [if_pos (Or.inr c2)]
    simp only [suspend_Check.j2,decide_eq_true c2,if_true,e]
    exact Ev.now _
   ·have e:restErr c = if dayB c.f2 = true then 0 else 15:=by unfold restErr;rw [if_neg (by omega)]
    simp only [suspend_Check.j2,decide_eq_false c2,Bool.false_eq_true,if_false,day_f,Option.bind_some,e]
    by_cases c3:dayB c.f2 = true
    ·simp only [if_pos c3,if_true]
     exact h rfl (by rw [e,if_pos c3])
    ·simp only [if_neg c3]
     exact Ev.now _
theorem caseLoop (l:List PC) (hl:l.length ≤ 4611686018427387904):∀ (d i:Nat),i + d = l.length → Ev (fun k=>suspend_Check.l0 k l l l.length i) (caseGo (prevC l i) (l.drop i))
 | 0,i,hd=>by
  refine Ev_succ ?_
  simp only [suspend_Check.l0,if_neg (show ¬ ((i:Int) < (l.length:Int)) by omega)]
  rw [List.drop_of_length_le (by omega)]
  exact Ev.now _
 | d + 1,i,hd=>by
  have hi:i < l.length:=by omega
  have ih:=caseLoop l hl d (i + 1) (by omega)
  rw [← w_succ hi (by omega)] at ih
  have hprev:prevC l (i + 1) = some l[i].f0:=by simp [prevC,hi]
  rw [hprev] at ih
  rw [drop_cons l i hi]
  refine Ev_succ ?_
  simp only [suspend_Check.l0,if_pos (show (i:Int) < (l.length:Int) by omega),if_pos (show 0 ≤ (i:Int) by omega),rdPC l i hi]
  refine Ev_bind (name_f _) ?_
  simp only [caseGo]
  by_cases hn:nameB l[i].f0 = true
  ·simp only [if_pos hn]
   by_cases h0:i = 0
   ·subst h0
    simp only [if_neg (show ¬ (((0:Nat):Int) > 0) by omega)]
    exact caseJ l 0 false l[0] _ (fun _ _=>ih)
   ·have hp:=w_pred (show 0 < i by omega) (by omega)
    simp only [if_pos (show ((i:Int) > 0) by omega),hp,if_pos (show 0 ≤ ((i - 1:Nat):Int) by omega),if_pos (show ((i - 1:Nat):Int) < (l.length:Int) by omega),rdPC l (i - 1) (by omega)]
    have hb:behindN (prevC l i) l[i].f0 = !(Op.bytesLess l[i - 1].f0.toList l[i].f0.toList):=by
     simp [behindN,prevC,h0,show i - 1 < l.length by omega]
    rw [hb]
    exact caseJ l i _ l[i] _ (fun _ _=>ih)
  ·simp only [if_neg hn]
   exact Ev.now _
theorem caseCheck_f (l:List PC) (hl:l.length ≤ 4611686018427387904):Ev (fun k=>suspend_Check.f k l) (caseCheck l):=by
 unfold suspend_Check.f caseCheck
 by_cases h:l.length > 32
 ·simp only [if_pos (show (l.length:Int) > 32 by omega),if_pos h]
  exact Ev.now _
 ·simp only [if_neg (show ¬ ((l.length:Int) > 32) by omega),if_neg h]
  exact caseLoop l hl l.length 0 (by omega)
end Go.Proofs.Ytgmelgkcoejknaa.P
end
section
namespace Go.Proofs.Ytgmelgkcoejknaa.P
set_option linter.unusedVariables false
set_option linter.unusedSimpArgs false
open Go.RowKit Go.Proofs.YtgmelgkcoejknaaW.PrintWords Go.Proofs.YtgmelgkcoejknaaW.PrintMore Go.Proofs.Ytgmelgkcoejknaa.X
theorem caseRJ (l:List RC) (i:Nat) (hi:i < l.length) (b:Bool) (r:Int) (h:b = false → restErr (toC l[i]) = 0 → Ev (fun k=>contangoref41_Check.l0 k l (wrap64 ((i:Int) + 1))) r) :
  Ev (fun k=>contangoref41_Check.j1 k l i b) (if b = true then 12 else if restErr (toC l[i]) = 0 then r else restErr (toC l[i])):=by
 refine Ev_succ ?_
 cases b with
 | true=>simp only [contangoref41_Check.j1,if_true];exact Ev.now _
 | false =>
  simp only [contangoref41_Check.j1,Bool.false_eq_true,if_false,if_pos (show 0 ≤ (i:Int) by omega),if_pos (show (i:Int) < (l.length:Int) by omega),rdRC l i hi]
  by_cases c1:l[i].f1 < 1
  ·have e:restErr (toC l[i]) = 13:=by unfold restErr;exact if_pos (Or.inl c1)
   simp only [if_pos c1,e]
   refine Ev_succ ?_
   simp only [contangoref41_Check.j2,if_true]
   exact Ev.now _
  ·simp only [if_neg c1]
   refine Ev_succ ?_
   by_cases c2:l[i].f1 > 7
   ·have e:restErr (toC l[i]) = 13:=by unfold restErr;exact if_pos (Or.inr c2)
    simp only [contangoref41_Check.j2,decide_eq_true c2,if_true,e]
    exact Ev.now _
   ·have e:restErr (toC l[i]) = if dayB l[i].f2 = true then 0 else 15:=by
     unfold restErr
     rw [if_neg (by simp only [toC];omega)]
     rfl
    simp only [contangoref41_Check.j2,decide_eq_false c2,Bool.false_eq_true,if_false,if_pos (show 0 ≤ (i:Int) by omega),if_pos (show (i:Int) < (l.length:Int) by omega),rdRC l i hi]
    by_cases c3:l[i].f2 < 0
    ·have e3:dayB l[i].f2 = false:=by simp [dayB];omega
     rw [e3] at e
     simp only [if_pos c3,e]
     exact Ev.now _
    ·by_cases c4:l[i].f2 > 73048
     ·have e3:dayB l[i].f2 = false:=by simp [dayB];omega
      rw [e3] at e
      simp only [if_neg c3,if_pos c4,e]
      exact Ev.now _
     ·have e3:dayB l[i].f2 = true:=by simp [dayB];omega
      rw [e3,if_pos rfl] at e
      simp only [if_neg c3,if_neg c4,e,if_true]
      exact h rfl e
theorem caseRLoop (l:List RC) (hl:l.length ≤ 4611686018427387904) (hs:∀ c ∈ l,c.f0.size ≤ 4611686018427387904):∀ (d i:Nat),i + d = l.length → Ev (fun k=>contangoref41_Check.l0 k l i) (caseGo (prevC (l.map toC) i) ((l.drop i).map toC))
 | 0,i,hd=>by
  refine Ev_succ ?_
  simp only [contangoref41_Check.l0,if_neg (show ¬ ((i:Int) < (l.length:Int)) by omega)]
  rw [List.drop_of_length_le (by omega)]
  exact Ev.now _
 | d + 1,i,hd=>by
  have hi:i < l.length:=by omega
  have ih:=caseRLoop l hl hs d (i + 1) (by omega)
  rw [← w_succ hi (by omega)] at ih
  have hprev:prevC (l.map toC) (i + 1) = some l[i].f0:=by simp [prevC,hi,toC]
  rw [hprev] at ih
  rw [drop_cons l i hi]
  refine Ev_succ ?_
  simp only [contangoref41_Check.l0,if_pos (show (i:Int) < (l.length:Int) by omega),if_pos (show 0 ≤ (i:Int) by omega),rdRC l i hi]
  refine Ev_bind (nameR_f _ (hs _ (List.getElem_mem hi))) ?_
  simp only [List.map_cons,caseGo]
  have et:(toC l[i]).f0 = l[i].f0:=rfl
  rw [et]
  by_cases hn:nameB l[i].f0 = true
  ·simp only [if_pos hn]
   by_cases h0:i = 0
   ·subst h0
    simp only [if_neg (show ¬ (((0:Nat):Int) > 0) by omega)]
    exact caseRJ l 0 hi false _ (fun _ _=>ih)
   ·have hp:=w_pred (show 0 < i by omega) (by omega)
    simp only [if_pos (show ((i:Int) > 0) by omega),hp,if_pos (show 0 ≤ ((i - 1:Nat):Int) by omega),if_pos (show ((i - 1:Nat):Int) < (l.length:Int) by omega),rdRC l (i - 1) (by omega)]
    have hb:behindN (prevC (l.map toC) i) l[i].f0 = !(Op.bytesLess l[i - 1].f0.toList l[i].f0.toList):=by
     simp [behindN,prevC,h0,show i - 1 < l.length by omega,toC]
    rw [hb]
    exact caseRJ l i hi _ _ (fun _ _=>ih)
  ·simp only [if_neg hn]
   exact Ev.now _
theorem caseRCheck_f (l:List RC) (hl:l.length ≤ 4611686018427387904) (hs:∀ c ∈ l,c.f0.size ≤ 4611686018427387904):Ev (fun k=>contangoref41_Check.f k l) (caseCheck (l.map toC)):=by
 unfold contangoref41_Check.f caseCheck
 rw [List.length_map]
 by_cases h:l.length > 32
 ·simp only [if_pos (show (l.length:Int) > 32 by omega),if_pos h]
  exact Ev.now _
 ·simp only [if_neg (show ¬ ((l.length:Int) > 32) by omega),if_neg h]
  exact caseRLoop l hl hs l.length 0 (by omega)
end Go.Proofs.Ytgmelgkcoejknaa.P
end
section
namespace Go.Proofs.Ytgmelgkcoejknaa.P
set_option linter.unusedVariables false
set_option linter.unusedSimpArgs false
open Go.RowKit Go.Proofs.YtgmelgkcoejknaaW.PrintWords Go.Proofs.YtgmelgkcoejknaaW.PrintMore Go.Proofs.Ytgmelgkcoejknaa.X
def ofR (m:ByteArray):List RC → ByteArray × Int × Int × Bool
 | []=>(⟨#[]⟩,0,0,false)
 | c :: t=>if c.f0.toList = m.toList then (c.f0,c.f1,c.f2,true) else ofR m t
theorem ofRLoop (l:List RC) (m:ByteArray) (hl:l.length ≤ 4611686018427387904):∀ (d i:Nat),i + d = l.length → Ev (fun k=>contangoref41_Of.l0 k l m i) (ofR m (l.drop i))
 | 0,i,hd=>by
  refine Ev_succ ?_
  simp only [contangoref41_Of.l0,if_neg (show ¬ ((i:Int) < (l.length:Int)) by omega)]
  rw [List.drop_of_length_le (by omega)]
  exact Ev.now _
 | d + 1,i,hd=>by
  have hi:i < l.length:=by omega
  have ih:=ofRLoop l m hl d (i + 1) (by omega)
  rw [drop_cons l i hi]
  refine Ev_succ ?_
  simp only [contangoref41_Of.l0,if_pos (show (i:Int) < (l.length:Int) by omega),if_pos (show 0 ≤ (i:Int) by omega),rdRC l i hi,w_succ hi (by omega),ofR]
  by_cases c:l[i].f0.toList = m.toList
  ·simp only [if_pos c];exact Ev.now _
  ·simp only [if_neg c];exact ih
theorem ofR_f (l:List RC) (m:ByteArray) (hl:l.length ≤ 4611686018427387904):Ev (fun k=>contangoref41_Of.f k l m) (ofR m l):=by
 have:=ofRLoop l m hl l.length 0 (by omega)
 rw [List.drop_zero] at this
 exact this
end Go.Proofs.Ytgmelgkcoejknaa.P
end
section
namespace Go.Proofs.Ytgmelgkcoejknaa.P
set_option linter.unusedVariables false
set_option linter.unusedSimpArgs false
open Go.RowKit Go.Proofs.YtgmelgkcoejknaaW.PrintWords Go.Proofs.YtgmelgkcoejknaaW.PrintMore Go.Proofs.Ytgmelgkcoejknaa.X
def LtC (a b:PC):Prop:=Op.bytesLess a.f0.toList b.f0.toList = true
theorem caseGo_cons {p:Option ByteArray} {c:PC} {t:List PC} (h:caseGo p (c :: t) = 0):nameB c.f0 = true ∧ behindN p c.f0 = false ∧ restErr c = 0 ∧ caseGo (some c.f0) t = 0:=by
 unfold caseGo at h
 by_cases h1:nameB c.f0 = true
 ·rw [if_pos h1] at h
  by_cases h2:behindN p c.f0 = true
  ·rw [if_pos h2] at h;exact absurd h (by decide)
  ·rw [if_neg h2] at h
   by_cases h3:restErr c = 0
   ·rw [if_pos h3] at h;exact ⟨h1,by simpa using h2,h3,h⟩
   ·rw [if_neg h3] at h;exact absurd h h3
 ·rw [if_neg h1] at h;exact absurd h (by decide)
theorem caseGo_sorted:∀ (l:List PC) (p:Option ByteArray),caseGo p l = 0 → l.Pairwise LtC ∧ (∀ q,p = some q → ∀ c ∈ l,Op.bytesLess q.toList c.f0.toList = true)
 | [],p,h=>⟨List.Pairwise.nil,fun q _ c hc=>by simp at hc⟩
 | c :: t,p,h=>by
  obtain ⟨_,h2,_,h4⟩:=caseGo_cons h
  obtain ⟨i1,i2⟩:=caseGo_sorted t _ h4
  refine ⟨List.Pairwise.cons (fun d hd=>i2 c.f0 rfl d hd) i1,?_⟩
  rintro q rfl d hd
  have hq:Op.bytesLess q.toList c.f0.toList = true:=by simpa [behindN] using h2
  rcases List.mem_cons.1 hd with rfl|hd
  ·exact hq
  ·exact bl_trans _ _ _ hq (i2 c.f0 rfl d hd)
theorem caseCheck_len {l:List PC} (h:caseCheck l = 0):l.length ≤ 32 ∧ caseGo none l = 0:=by
 unfold caseCheck at h
 by_cases c:l.length > 32
 ·rw [if_pos c] at h;exact absurd h (by decide)
 ·rw [if_neg c] at h;exact ⟨by omega,h⟩
theorem caseCheck_sorted {l:List PC} (h:caseCheck l = 0):l.Pairwise LtC:=(caseGo_sorted l none (caseCheck_len h).2).1
theorem sorted_lt {l:List PC} (h:l.Pairwise LtC) {i j:Nat} (hi:i < j) (hj:j < l.length):Op.bytesLess (l[i]'(by omega)).f0.toList l[j].f0.toList = true :=
 (List.pairwise_iff_getElem.1 h) i j (by omega) hj hi
theorem cmpN_lt (a b:ByteArray):cmpN a b < 0 ↔ Op.bytesLess a.toList b.toList = true:=cb_lt a b
theorem cmpN_eq (a b:ByteArray):cmpN a b = 0 ↔ a.toList = b.toList:=cb_eq a b
theorem bsAt_spec (l:List PC) (m:ByteArray) (hs:l.Pairwise LtC):∀ (k lo hi:Nat),lo ≤ hi → hi ≤ l.length → hi - lo ≤ k →
  (∀ i (h:i < l.length),i < lo → Op.bytesLess l[i].f0.toList m.toList = true) → (∀ i (h:i < l.length),hi ≤ i → Op.bytesLess l[i].f0.toList m.toList = false) →
  (∀ i (h:i < l.length),i < bsAt l m k lo hi → Op.bytesLess l[i].f0.toList m.toList = true) ∧ (∀ i (h:i < l.length),bsAt l m k lo hi ≤ i → Op.bytesLess l[i].f0.toList m.toList = false)
 | 0,lo,hi,h1,h2,h3,a,b=>by
  unfold bsAt
  exact ⟨a,fun i h hl=>b i h (by omega)⟩
 | k + 1,lo,hi,h1,h2,h3,a,b=>by
  unfold bsAt
  by_cases c:lo < hi
  ·have hm:(lo + hi) / 2 < l.length:=by omega
   rw [if_pos c,rdPC l _ hm]
   by_cases c2:cmpN l[(lo + hi) / 2].f0 m < 0
   ·rw [if_pos c2]
    have h':=(cmpN_lt _ _).1 c2
    refine bsAt_spec l m hs k _ _ (by omega) h2 (by omega) (fun i h hl=>?_) b
    by_cases e:i = (lo + hi) / 2
    ·subst e;exact h'
    ·exact bl_trans _ _ _ (sorted_lt hs (show i < (lo + hi) / 2 by omega) hm) h'
   ·rw [if_neg c2]
    have h':Op.bytesLess l[(lo + hi) / 2].f0.toList m.toList = false:=by
     rw [← Bool.not_eq_true];exact fun e=>c2 ((cmpN_lt _ _).2 e)
    refine bsAt_spec l m hs k _ _ (by omega) (by omega) (by omega) a (fun i h hl=>?_)
    by_cases e:i = (lo + hi) / 2
    ·subst e;exact h'
    ·rw [← Bool.not_eq_true]
     intro e2
     rw [bl_trans _ _ _ (sorted_lt hs (show (lo + hi) / 2 < i by omega) h) e2] at h'
     cases h'
  ·rw [if_neg c]
   exact ⟨a,fun i h hl=>b i h (by omega)⟩
theorem placeAt_le (l:List PC) (m:ByteArray):placeAt l m ≤ l.length:=(bsAt_le l m l.length 0 l.length (Nat.zero_le _)).2
theorem placeAt_spec (l:List PC) (m:ByteArray) (hs:l.Pairwise LtC) :
  (∀ i (h:i < l.length),i < placeAt l m → Op.bytesLess l[i].f0.toList m.toList = true) ∧ (∀ i (h:i < l.length),placeAt l m ≤ i → Op.bytesLess l[i].f0.toList m.toList = false) :=
 bsAt_spec l m hs l.length 0 l.length (Nat.zero_le _) (Nat.le_refl _) (by omega) (fun i h hl=>by omega) (fun i h hl=>by omega)
theorem placeIs_iff (l:List PC) (m:ByteArray):placeIs l m = true ↔ ∃ h:placeAt l m < l.length,l[placeAt l m].f0.toList = m.toList:=by
 unfold placeIs
 constructor
 ·intro h
  rw [Bool.and_eq_true,decide_eq_true_eq,beq_iff_eq] at h
  obtain ⟨h1,h2⟩:=h
  rw [rdPC l _ h1,cmpN_eq] at h2
  exact ⟨h1,h2⟩
 ·rintro ⟨h1,h2⟩
  rw [Bool.and_eq_true,decide_eq_true_eq,beq_iff_eq,rdPC l _ h1,cmpN_eq]
  exact ⟨h1,h2⟩
theorem place_of {l:List PC} {m:ByteArray} (hs:l.Pairwise LtC) {i:Nat} (h:i < l.length) (e:l[i].f0.toList = m.toList):placeAt l m = i:=by
 obtain ⟨s1,s2⟩:=placeAt_spec l m hs
 rcases Nat.lt_trichotomy (placeAt l m) i with c|c|c
 ·exfalso
  have:=s2 (placeAt l m) (by omega) (Nat.le_refl _)
  rw [← e,sorted_lt hs c h] at this
  cases this
 ·exact c
 ·exfalso
  have:=s1 i h c
  rw [e,bl_self] at this
  cases this
theorem ofR_none:∀ (l:List RC) (m:ByteArray),(∀ c ∈ l,c.f0.toList ≠ m.toList) → ofR m l = (⟨#[]⟩,0,0,false)
 | [],m,h=>rfl
 | c :: t,m,h=>by
  unfold ofR
  rw [if_neg (h c (by simp))]
  exact ofR_none t m (fun d hd=>h d (by simp [hd]))
theorem ofR_some:∀ (l:List RC) (m:ByteArray) (p:Nat) (hp:p < l.length),(∀ i (h:i < l.length),i < p → l[i].f0.toList ≠ m.toList) → l[p].f0.toList = m.toList → ofR m l = (l[p].f0,l[p].f1,l[p].f2,true)
 | [],m,p,hp,_,_=>by simp at hp
 | c :: t,m,0,hp,_,e=>by
  unfold ofR
  rw [if_pos (show c.f0.toList = m.toList from e)]
  rfl
 | c :: t,m,p + 1,hp,h,e=>by
  unfold ofR
  rw [if_neg (show ¬ c.f0.toList = m.toList from h 0 (by simp) (by omega))]
  exact ofR_some t m p (by simpa using hp) (fun i hi hl=>h (i + 1) (by simpa using hi) (by omega)) e
theorem ofR_place (l:List RC) (m:ByteArray) (hs:(l.map toC).Pairwise LtC) :
  ofR m l = if h:placeIs (l.map toC) m = true then (let p:=placeAt (l.map toC) m;have hp:p < l.length:=(by simpa using ((placeIs_iff _ _).1 h).1);(l[p].f0,l[p].f1,l[p].f2,true)) else (⟨#[]⟩,0,0,false):=by
 by_cases h:placeIs (l.map toC) m = true
 ·rw [dif_pos h]
  obtain ⟨h1,h2⟩:=(placeIs_iff _ _).1 h
  have h1':placeAt (l.map toC) m < l.length:=by simpa using h1
  refine ofR_some l m _ h1' (fun i hi hl e=>?_) (by simpa [toC] using h2)
  have:=place_of hs (i:=i) (by simpa using hi) (by simpa [toC] using e)
  omega
 ·rw [dif_neg h]
  refine ofR_none l m (fun c hc e=>h ?_)
  obtain ⟨i,hi,rfl⟩:=List.getElem_of_mem hc
  have hi':i < (l.map toC).length:=by simpa using hi
  have e':(l.map toC)[i].f0.toList = m.toList:=by simpa [toC] using e
  have hp:=place_of hs hi' e'
  exact (placeIs_iff _ _).2 (by rw [hp];exact ⟨hi',e'⟩)
end Go.Proofs.Ytgmelgkcoejknaa.P
end
section
namespace Go.Proofs.Ytgmelgkcoejknaa.X
open Go.RowKit Go.Proofs.YtgmelgkcoejknaaW.PrintWords Go.Proofs.YtgmelgkcoejknaaW.PrintLast Go.Proofs.YtgmelgkcoejknaaW.PrintMore
attribute [local go_sem] max2_int min2_int max_two min_two max_three min_three max_four min_four
set_option linter.unusedVariables false
set_option linter.unusedSimpArgs false
mutual
def contangoref41_Step.j0:Nat → List (S41) → ByteArray → Int → Bool → ByteArray → Int → Int → Option ((List (S41)) × Int)
 | 0,_,_,_,_,_,_,_=>none
 | k + 1,x0,x1,x2,x35,x107000,x107001,x107002=>if x35 = true then (some (([]:List (S41)),13)) else (contangoref41_Step.l0 k x0 x1 x2 (wrap64 (x107001 + 1)))
def contangoref41_Step.l0:Nat → List (S41) → ByteArray → Int → Int → Option ((List (S41)) × Int)
 | 0,_,_,_,_=>none
 | k + 1,x0,x1,x2,x11=>if x11 < x2 then (if x11 = 2 then (some (([]:List (S41)),13)) else (if x11 = 5 then (some (([]:List (S41)),13)) else (if x11 = 6 then (some (([]:List (S41)),13)) else (contangoref41_Step.l0 k x0 x1 x2 (wrap64 (x11 + 1)))))) else (contangoref41_Step.l1 k x0 x1 x2 ([]:List (S41)) 0)
def contangoref41_Step.l1:Nat → List (S41) → ByteArray → Int → List (S41) → Int → Option ((List (S41)) × Int)
 | 0,_,_,_,_,_=>none
 | k + 1,x0,x1,x2,x12,x13=>if x13 < (x0.length:Int) then (if 0 ≤ x13 then (if ((rd_T41 x0 x13).f0).toList = x1.toList then (if x12.length < 4398046511104 then (contangoref41_Step.l1 k x0 x1 x2 (x12 ++ [(⟨(rd_T41 x0 x13).f0,x2,(rd_T41 x0 x13).f2⟩:S41)]) (wrap64 (x13 + 1))) else (none)) else (if x12.length < 4398046511104 then (contangoref41_Step.l1 k x0 x1 x2 (x12 ++ [(⟨(rd_T41 x0 x13).f0,(rd_T41 x0 x13).f1,(rd_T41 x0 x13).f2⟩:S41)]) (wrap64 (x13 + 1))) else (none))) else (none)) else (some (x12,0))
end
def contangoref41_Step.f (k:Nat) (l0:List (S41)) (a1:ByteArray) (a2:Int):Option ((List (S41)) × Int):=(contangoref41_Check.f k l0).bind fun t101=>(if t101 = 0 then ((contangoref41_Of.f k l0 a1).bind fun bt102=>(if bt102.2.2.2 = true then (if a2 ≤ bt102.2.1 then (contangoref41_Step.j0 k l0 a1 a2 true bt102.1 bt102.2.1 bt102.2.2.1) else (contangoref41_Step.j0 k l0 a1 a2 (decide (a2 > 7)) bt102.1 bt102.2.1 bt102.2.2.1)) else (some (([]:List (S41)),11)))) else (some (([]:List (S41)),t101)))
theorem contangoref41_Step.mono_l:∀ k,(∀ y0 y1 y2 y3 y4 y5 y6,LeO (contangoref41_Step.j0 k y0 y1 y2 y3 y4 y5 y6) (contangoref41_Step.j0 (k + 1) y0 y1 y2 y3 y4 y5 y6)) ∧ (∀ y0 y1 y2 y3,LeO (contangoref41_Step.l0 k y0 y1 y2 y3) (contangoref41_Step.l0 (k + 1) y0 y1 y2 y3)) ∧ (∀ y0 y1 y2 y3 y4,LeO (contangoref41_Step.l1 k y0 y1 y2 y3 y4) (contangoref41_Step.l1 (k + 1) y0 y1 y2 y3 y4))
 | 0=>⟨fun _ _ _ _ _ _ _ r h=>by simp [contangoref41_Step.j0] at h,fun _ _ _ _ r h=>by simp [contangoref41_Step.l0] at h,fun _ _ _ _ _ r h=>by simp [contangoref41_Step.l1] at h⟩
 | k + 1=>by
  obtain ⟨ih0,ih1,ih2⟩:=contangoref41_Step.mono_l k
  refine ⟨?_,?_,?_⟩
  ·intro y0 y1 y2 y3 y4 y5 y6
   unfold contangoref41_Step.j0
   repeat' first
   | (with_reducible exact ih0 _ _ _ _ _ _ _)
   | (with_reducible exact ih1 _ _ _ _)
   | (with_reducible exact ih2 _ _ _ _ _)
   | (with_reducible exact contangoref41_Check.mono _ _)
   | (with_reducible exact contangoref41_Of.mono _ _ _)
   | (with_reducible exact LeO.refl _)
   | (with_reducible exact LeO.none _)
   | (with_reducible refine LeO.ite ?_ ?_)
   | (with_reducible refine LeO.bind ?_ (fun _=>?_))
   | exact ih0 _ _ _ _ _ _ _
   | exact ih1 _ _ _ _
   | exact ih2 _ _ _ _ _
   | exact contangoref41_Check.mono _ _
   | exact contangoref41_Of.mono _ _ _
   | exact LeO.none _
   | refine LeO.ite ?_ ?_
   | refine LeO.bind ?_ (fun _=>?_)
  ·intro y0 y1 y2 y3
   unfold contangoref41_Step.l0
   repeat' first
   | (with_reducible exact ih0 _ _ _ _ _ _ _)
   | (with_reducible exact ih1 _ _ _ _)
   | (with_reducible exact ih2 _ _ _ _ _)
   | (with_reducible exact contangoref41_Check.mono _ _)
   | (with_reducible exact contangoref41_Of.mono _ _ _)
   | (with_reducible exact LeO.refl _)
   | (with_reducible exact LeO.none _)
   | (with_reducible refine LeO.ite ?_ ?_)
   | (with_reducible refine LeO.bind ?_ (fun _=>?_))
   | exact ih0 _ _ _ _ _ _ _
   | exact ih1 _ _ _ _
   | exact ih2 _ _ _ _ _
   | exact contangoref41_Check.mono _ _
   | exact contangoref41_Of.mono _ _ _
   | exact LeO.none _
   | refine LeO.ite ?_ ?_
   | refine LeO.bind ?_ (fun _=>?_)
  ·intro y0 y1 y2 y3 y4
   unfold contangoref41_Step.l1
   repeat' first
   | (with_reducible exact ih0 _ _ _ _ _ _ _)
   | (with_reducible exact ih1 _ _ _ _)
   | (with_reducible exact ih2 _ _ _ _ _)
   | (with_reducible exact contangoref41_Check.mono _ _)
   | (with_reducible exact contangoref41_Of.mono _ _ _)
   | (with_reducible exact LeO.refl _)
   | (with_reducible exact LeO.none _)
   | (with_reducible refine LeO.ite ?_ ?_)
   | (with_reducible refine LeO.bind ?_ (fun _=>?_))
   | exact ih0 _ _ _ _ _ _ _
   | exact ih1 _ _ _ _
   | exact ih2 _ _ _ _ _
   | exact contangoref41_Check.mono _ _
   | exact contangoref41_Of.mono _ _ _
   | exact LeO.none _
   | refine LeO.ite ?_ ?_
   | refine LeO.bind ?_ (fun _=>?_)
theorem contangoref41_Step.mono:∀ a0 a1 a2 k,LeO (contangoref41_Step.f k a0 a1 a2) (contangoref41_Step.f (k + 1) a0 a1 a2):=by
 intro a0 a1 a2 k
 obtain ⟨ih0,ih1,ih2⟩:=contangoref41_Step.mono_l k
 unfold contangoref41_Step.f
 repeat' first
   | (with_reducible exact ih0 _ _ _ _ _ _ _)
   | (with_reducible exact ih1 _ _ _ _)
   | (with_reducible exact ih2 _ _ _ _ _)
   | (with_reducible exact contangoref41_Check.mono _ _)
   | (with_reducible exact contangoref41_Of.mono _ _ _)
   | (with_reducible exact LeO.refl _)
   | (with_reducible exact LeO.none _)
   | (with_reducible refine LeO.ite ?_ ?_)
   | (with_reducible refine LeO.bind ?_ (fun _=>?_))
   | exact ih0 _ _ _ _ _ _ _
   | exact ih1 _ _ _ _
   | exact ih2 _ _ _ _ _
   | exact contangoref41_Check.mono _ _
   | exact contangoref41_Of.mono _ _ _
   | exact LeO.none _
   | refine LeO.ite ?_ ?_
   | refine LeO.bind ?_ (fun _=>?_)
set_option maxHeartbeats 8000000 in
set_option maxRecDepth 100000 in
theorem contangoref41_Step.calls (k:Nat) (A0:Option Addr) (c0:Nat) (l0:List (S41)) (a1:ByteArray) (a2:Int) (r1:List (S41)) (r2:Int) (w:World) (hr0:Kd.C k41 w A0 l0.length l0) (hc0:l0.length ≤ c0) (h:contangoref41_Step.f k l0 a1 a2 = some (r1,r2)) :
  Calls Try.prog 9 #[.slice A0 l0.length c0,.string a1,.int .i64 a2] w fun e w'=>∃ v0_:Value,e = .returned (.tuple #[v0_,.int .i64 r2]) ∧ Kd.R k41 41 w' w.heap.size (fun _=>True) v0_ r1 ∧ Below w.heap.size w w':=by
 have hu41:=Try.underlying41
 have HR0:=Aside0.mk hr0
 have HC0:=Aside0.mk hc0
 clear hr0 hc0
 have HB:=Aside0.mk (Below.refl w.heap.size w)
 have H:((contangoref41_Check.f k l0).bind fun t101=>(if t101 = 0 then ((contangoref41_Of.f k l0 a1).bind fun bt102=>(if bt102.2.2.2 = true then (if a2 ≤ bt102.2.1 then (contangoref41_Step.j0 k l0 a1 a2 true bt102.1 bt102.2.1 bt102.2.2.1) else (contangoref41_Step.j0 k l0 a1 a2 (decide (a2 > 7)) bt102.1 bt102.2.1 bt102.2.2.1)) else (some (([]:List (S41)),11)))) else (some (([]:List (S41)),t101)))) = some (r1,r2):=h
 clear h
 replace H:=Option.bind_eq_some_iff.mp H
 obtain ⟨t101,A40,H⟩:=H
 replace H:(if t101 = 0 then ((contangoref41_Of.f k l0 a1).bind fun bt102=>(if bt102.2.2.2 = true then (if a2 ≤ bt102.2.1 then (contangoref41_Step.j0 k l0 a1 a2 true bt102.1 bt102.2.1 bt102.2.2.1) else (contangoref41_Step.j0 k l0 a1 a2 (decide (a2 > 7)) bt102.1 bt102.2.1 bt102.2.2.1)) else (some (([]:List (S41)),11)))) else (some (([]:List (S41)),t101))) = some (r1,r2):=H
 have A4:=Aside0.mk A40
 clear A40
 by_cases c5:t101 = 0
 ·rw [if_pos c5] at H
  have c5b0:(t101 == 0) = true:=beq_iff_eq.mpr c5
  have c5b1:(t101 != 0) = false:=bne_eq_false_iff_eq.mpr c5
  clear c5
  replace H:=Option.bind_eq_some_iff.mp H
  obtain ⟨⟨t102,t103,t104,t105⟩,A60,H⟩:=H
  replace H:(if t105 = true then (if a2 ≤ t103 then (contangoref41_Step.j0 k l0 a1 a2 true t102 t103 t104) else (contangoref41_Step.j0 k l0 a1 a2 (decide (a2 > 7)) t102 t103 t104)) else (some (([]:List (S41)),11))) = some (r1,r2):=H
  have A6:=Aside0.mk A60
  clear A60
  by_cases c7:t105 = true
  ·subst c7
   have H1:(if a2 ≤ t103 then (contangoref41_Step.j0 k l0 a1 a2 true t102 t103 t104) else (contangoref41_Step.j0 k l0 a1 a2 (decide (a2 > 7)) t102 t103 t104)) = some (r1,r2):=by rw [if_pos rfl] at H;exact H
   clear H
   have H:=H1
   clear H1
   have HC8:=Aside0.mk H
   clear H
   go_enter Try.func9,Try.ntmps9
   go_upto_region 7 with (first|((with_reducible refine gate_callee (f:=19) rfl ?_);refine goesL_ (some 16) rfl rfl Try.func19 (by kernel_rfl) rfl #[.slice A0 l0.length c0] rfl (by (try simp only [List.map_toArray,List.map_cons,List.map_nil]);first|done|rfl|(simp only [List.length_drop,List.length_take];rfl)) ?_;(with_reducible refine (contangoref41_Check.calls k _ _ l0 t101 _ ?side1 ?side2 A4.out).mono ?_);(case side1=>repeat (first|exact HR0.out|(with_reducible refine Kd.C_alloc ?_ _)|(with_reducible refine Kd.C_drewN ?_ _)|(with_reducible refine Kd.C_drew ?_)));(case side2=>exact HC0.out);rintro e w' ⟨rfl,⟨nd,rfl⟩⟩;refine ⟨_,rfl,?_⟩)|((with_reducible refine gate_callee (f:=18) rfl ?_);refine goesL_ (some 23) rfl rfl Try.func18 (by kernel_rfl) rfl #[.slice A0 l0.length c0,.string a1] rfl (by (try simp only [List.map_toArray,List.map_cons,List.map_nil]);first|done|rfl|(simp only [List.length_drop,List.length_take];rfl)) ?_;(with_reducible refine (contangoref41_Of.calls k _ _ l0 a1 t102 t103 t104 true _ ?side1 ?side2 A6.out).mono ?_);(case side1=>repeat (first|exact HR0.out|(with_reducible refine Kd.C_alloc ?_ _)|(with_reducible refine Kd.C_drewN ?_ _)|(with_reducible refine Kd.C_drew ?_)));(case side2=>exact HC0.out);rintro e w9 ⟨rfl,hb⟩;refine ⟨_,rfl,?_⟩;have n0_:=Aside0.mk (below_step (by repeat (first|(with_reducible first|exact HB.out|apply below_alloc|apply pw_below_drewN|apply below_drew1)|exact HB.out)) hb);clear HB;have HB:=n0_;clear n0_;(try clear hb);(try clear hb2);(try clear hk);(try clear hi))|((with_reducible refine gate_dst (N:=9) rfl ?_);refine box_event ?hg (N:=9) ?hd (cs:=#[.string (⟨#[]⟩:ByteArray),.int .i64 0,.int .i64 0]) (t:=41) ?hr ?_;(case hd=>rfl);(case hg=>rfl);(case hr=>first|(go_simp;done)|(go_simp;rfl));intro gb106 hg w10 hbox hb;have n0_:=Aside0.mk (below_step (by repeat (first|(with_reducible first|exact HB.out|apply below_alloc|apply pw_below_drewN|apply below_drew1)|exact HB.out)) hb);have n1_:=Aside0.mk (hbox);have n2_:=Aside0.mk ((by rw [hg];exact (below_size (by repeat (first|(with_reducible first|exact HB.out|apply below_alloc|apply pw_below_drewN|apply below_drew1)|exact HB.out))):w.heap.size ≤ gb106));have n3_:=Aside0.mk ((by rw [hg];exact (below_size (by repeat (first|(with_reducible first|exact HB.out|apply below_alloc|apply pw_below_drewN|apply below_drew1)|exact HB.out))):w.heap.size ≤ gb106));clear HB;have HB:=n0_;have BK106:=n1_;have GW106:=n2_;have GE106:=n3_;clear n0_ n1_ n2_ n3_;clear hb hbox hg;have hcz11_0:w10.cell? ⟨gb106,0,none⟩ = some (.string (⟨#[]⟩:ByteArray)):=(blk_cell BK106.out 0).trans rfl;have hcz11_1:w10.cell? ⟨gb106,1,none⟩ = some (.int .i64 0):=(blk_cell BK106.out 1).trans rfl;have hcz11_2:w10.cell? ⟨gb106,2,none⟩ = some (.int .i64 0):=(blk_cell BK106.out 2).trans rfl;have hfz11_0:=blk_frozen BK106.out 0;have hfz11_1:=blk_frozen BK106.out 1;have hfz11_2:=blk_frozen BK106.out 2;have hq11_0:∀ a b c d:Value,((((w10.setCell ⟨gb106,0,none⟩ a).setCell ⟨gb106,1,none⟩ b).setCell ⟨gb106,2,none⟩ c).setCell ⟨gb106,1,none⟩ d).cell? ⟨gb106,0,none⟩ = some a:=fun a b c d=>(blk_cell (blk_put (cs:=#[a,b,c]) (blk_put (cs:=#[a,b,.int .i64 0]) (blk_put (cs:=#[a,.int .i64 0,.int .i64 0]) (blk_put BK106.out 0 a rfl) 1 b rfl) 2 c rfl) 1 d rfl) 0).trans rfl;have hq11_1:∀ a b c d:Value,((((w10.setCell ⟨gb106,0,none⟩ a).setCell ⟨gb106,1,none⟩ b).setCell ⟨gb106,2,none⟩ c).setCell ⟨gb106,1,none⟩ d).cell? ⟨gb106,1,none⟩ = some d:=fun a b c d=>(blk_cell (blk_put (cs:=#[a,b,c]) (blk_put (cs:=#[a,b,.int .i64 0]) (blk_put (cs:=#[a,.int .i64 0,.int .i64 0]) (blk_put BK106.out 0 a rfl) 1 b rfl) 2 c rfl) 1 d rfl) 1).trans rfl;have hq11_2:∀ a b c d:Value,((((w10.setCell ⟨gb106,0,none⟩ a).setCell ⟨gb106,1,none⟩ b).setCell ⟨gb106,2,none⟩ c).setCell ⟨gb106,1,none⟩ d).cell? ⟨gb106,2,none⟩ = some c:=fun a b c d=>(blk_cell (blk_put (cs:=#[a,b,c]) (blk_put (cs:=#[a,b,.int .i64 0]) (blk_put (cs:=#[a,.int .i64 0,.int .i64 0]) (blk_put BK106.out 0 a rfl) 1 b rfl) 2 c rfl) 1 d rfl) 2).trans rfl))
   (try simp only [Act.put,List.setIfInBounds_toArray,List.set_cons_zero,List.set_cons_succ])
   go_cut [35] (fun v35 wc=>∃ (kq:Nat) (x35_7:Bool),v35 = .bool x35_7 ∧ Aside0 (contangoref41_Step.j0 kq l0 a1 a2 x35_7 t102 t103 t104 = some (r1,r2)) ∧ Aside0 (kq ≤ k) ∧ Aside0 (wc.heap[gb106]? = some (.cells #[.string t102,.int .i64 t103,.int .i64 t104] 41 (0,0))) ∧ Aside0 (Below w.heap.size w wc))
   case first =>
    have H:=HC8.out
    clear HC8
    by_cases c12:a2 ≤ t103
    ·rw [if_pos c12] at H
     have c12b0:decide (a2 ≤ t103) = true:=decide_eq_true c12
     clear c12
     (first|rw [c12b0]|(simp only [i64_w,i32_w];rw [c12b0])|skip)
     have H':=Aside0.mk H
     clear H
     have hcz13_0:w10.cell? ⟨gb106,0,none⟩ = some (.string (⟨#[]⟩:ByteArray)):=(blk_cell BK106.out 0).trans rfl
     have hcz13_1:w10.cell? ⟨gb106,1,none⟩ = some (.int .i64 0):=(blk_cell BK106.out 1).trans rfl
     have hcz13_2:w10.cell? ⟨gb106,2,none⟩ = some (.int .i64 0):=(blk_cell BK106.out 2).trans rfl
     have hfz13_0:=blk_frozen BK106.out 0
     have hfz13_1:=blk_frozen BK106.out 1
     have hfz13_2:=blk_frozen BK106.out 2
     go_wp2
     go_meet
     case rel=>exact ⟨_,(true),(by first|rfl|(simp;done)|(simp [*];done)),H',⟨by first|omega|exact Nat.le_refl _⟩,⟨by (with_reducible repeat (first|refine blk_drewN ?_ _|refine blk_drew ?_|refine blk_alloc ?_ _));refine blk_put (cs:=#[.string t102,.int .i64 t103,.int .i64 0]) ?_ 2 _ rfl;(with_reducible repeat (first|refine blk_drewN ?_ _|refine blk_drew ?_|refine blk_alloc ?_ _));refine blk_put (cs:=#[.string t102,.int .i64 0,.int .i64 0]) ?_ 1 _ rfl;(with_reducible repeat (first|refine blk_drewN ?_ _|refine blk_drew ?_|refine blk_alloc ?_ _));refine blk_put (cs:=#[.string (⟨#[]⟩:ByteArray),.int .i64 0,.int .i64 0]) ?_ 0 _ rfl;(with_reducible repeat (first|refine blk_drewN ?_ _|refine blk_drew ?_|refine blk_alloc ?_ _));exact BK106.out⟩,⟨by repeat (first|(with_reducible first|exact HB.out|apply below_alloc|apply pw_below_drewN|apply below_drew1|refine below_set ?_ GE106.out)|exact HB.out)⟩⟩
    ·rw [if_neg c12] at H
     have c12b0:decide (a2 ≤ t103) = false:=decide_eq_false c12
     clear c12
     (first|rw [c12b0]|(simp only [i64_w,i32_w];rw [c12b0])|skip)
     have H':=Aside0.mk H
     clear H
     have hcz14_0:w10.cell? ⟨gb106,0,none⟩ = some (.string (⟨#[]⟩:ByteArray)):=(blk_cell BK106.out 0).trans rfl
     have hcz14_1:w10.cell? ⟨gb106,1,none⟩ = some (.int .i64 0):=(blk_cell BK106.out 1).trans rfl
     have hcz14_2:w10.cell? ⟨gb106,2,none⟩ = some (.int .i64 0):=(blk_cell BK106.out 2).trans rfl
     have hfz14_0:=blk_frozen BK106.out 0
     have hfz14_1:=blk_frozen BK106.out 1
     have hfz14_2:=blk_frozen BK106.out 2
     go_wp2
     go_meet
     case rel=>exact ⟨_,(decide (a2 > 7)),(by first|rfl|(simp;done)|(simp [*];done)),H',⟨by first|omega|exact Nat.le_refl _⟩,⟨by (with_reducible repeat (first|refine blk_drewN ?_ _|refine blk_drew ?_|refine blk_alloc ?_ _));refine blk_put (cs:=#[.string t102,.int .i64 t103,.int .i64 0]) ?_ 2 _ rfl;(with_reducible repeat (first|refine blk_drewN ?_ _|refine blk_drew ?_|refine blk_alloc ?_ _));refine blk_put (cs:=#[.string t102,.int .i64 0,.int .i64 0]) ?_ 1 _ rfl;(with_reducible repeat (first|refine blk_drewN ?_ _|refine blk_drew ?_|refine blk_alloc ?_ _));refine blk_put (cs:=#[.string (⟨#[]⟩:ByteArray),.int .i64 0,.int .i64 0]) ?_ 0 _ rfl;(with_reducible repeat (first|refine blk_drewN ?_ _|refine blk_drew ?_|refine blk_alloc ?_ _));exact BK106.out⟩,⟨by repeat (first|(with_reducible first|exact HB.out|apply below_alloc|apply pw_below_drewN|apply below_drew1|refine below_set ?_ GE106.out)|exact HB.out)⟩⟩
   case rest =>
    clear HC8
    try clear c1
    try clear p2
    try clear c5
    try clear c5b0
    try clear c5b1
    try clear c7
    try clear c9
    try clear c12
    try clear c12b0
    try clear hcz11_0
    try clear hcz11_1
    try clear hcz11_2
    try clear hcz13_0
    try clear hcz13_1
    try clear hcz13_2
    try clear hcz14_0
    try clear hcz14_1
    try clear hcz14_2
    try clear hfz11_0
    try clear hfz11_1
    try clear hfz11_2
    try clear hfz13_0
    try clear hfz13_1
    try clear hfz13_2
    try clear hfz14_0
    try clear hfz14_1
    try clear hfz14_2
    obtain ⟨kq,x35_7,rfl,HA,HJ7,BK106,HB⟩:=hcut
    cases kq with
    | zero=>exact absurd HA.out (by simp [contangoref41_Step.j0])
    | succ kj7 =>
     have H:=HA.out
     clear HA
     simp only [contangoref41_Step.j0] at H
     by_cases c15:x35_7 = true
     ·subst c15
      have H1:(some (([]:List (S41)),13)) = some (r1,r2):=by rw [if_pos rfl] at H;exact H
      clear H
      have H:=H1
      clear H1
      simp only [Option.some.injEq,Prod.mk.injEq] at H
      obtain ⟨rfl,rfl⟩:=H
      go_wp2
      go_ret2
      exact ⟨_,by first|rfl|(simp [errW_none,errW_some] <;> rfl)|(simp [*,errW_none,errW_some] <;> rfl),by first|exact Kd.R_nil _ _ _ _ _|exact Kd.N_nil _ _ _ _ _|exact Kd.V_nil _ _ _ _ _|exact Kd.Q_nil _ _ _ _ _|exact Kd.S_nil _ _ _ _ _,by repeat (first|(with_reducible first|exact HB.out|apply below_alloc|apply pw_below_drewN|apply below_drew1|refine below_set ?_ GE106.out)|exact HB.out)⟩
     ·replace c15:=Bool.eq_false_iff.mpr c15
      subst c15
      have H1:(contangoref41_Step.l0 kj7 l0 a1 a2 (wrap64 (t103 + 1))) = some (r1,r2):=by rw [if_neg (show ¬ (false = true) by decide)] at H;exact H
      clear H
      have H:=H1
      clear H1
      have H':=Aside0.mk H
      clear H
      have hcz16_0:wc.cell? ⟨gb106,0,none⟩ = some (.string t102):=(blk_cell BK106.out 0).trans rfl
      have hcz16_1:wc.cell? ⟨gb106,1,none⟩ = some (.int .i64 t103):=(blk_cell BK106.out 1).trans rfl
      have hcz16_2:wc.cell? ⟨gb106,2,none⟩ = some (.int .i64 t104):=(blk_cell BK106.out 2).trans rfl
      have hfz16_0:=blk_frozen BK106.out 0
      have hfz16_1:=blk_frozen BK106.out 1
      have hfz16_2:=blk_frozen BK106.out 2
      go_wp2
      go_loopg [11] kj7 (fun kq v11 w'=>∃ (x11_2:Int),v11 = .int .i64 x11_2 ∧ Aside0 (contangoref41_Step.l0 kq l0 a1 a2 x11_2 = some (r1,r2)) ∧ Aside0 (kq ≤ kj7) ∧ Aside0 (w'.heap[gb106]? = some (.cells #[.string t102,.int .i64 t103,.int .i64 t104] 41 (0,0))) ∧ Aside0 (Below w.heap.size w w'))
      case atStart=>exact ⟨(wrap64 (t103 + 1)),(by first|rfl|(simp;done)|(simp [*];done)),H',⟨Nat.le_refl _⟩,⟨by (with_reducible repeat (first|refine blk_drewN ?_ _|refine blk_drew ?_|refine blk_alloc ?_ _));exact BK106.out⟩,⟨by repeat (first|(with_reducible first|exact HB.out|apply below_alloc|apply pw_below_drewN|apply below_drew1|refine below_set ?_ GE106.out)|exact HB.out)⟩⟩
      case round =>
       clear H'
       try clear c1
       try clear p2
       try clear c5
       try clear c5b0
       try clear c5b1
       try clear p6
       try clear c7
       try clear c9
       try clear c12
       try clear c12b0
       try clear c15
       try clear hcz11_0
       try clear hcz11_1
       try clear hcz11_2
       try clear hcz13_0
       try clear hcz13_1
       try clear hcz13_2
       try clear hcz14_0
       try clear hcz14_1
       try clear hcz14_2
       try clear hcz16_0
       try clear hcz16_1
       try clear hcz16_2
       try clear hfz11_0
       try clear hfz11_1
       try clear hfz11_2
       try clear hfz13_0
       try clear hfz13_1
       try clear hfz13_2
       try clear hfz14_0
       try clear hfz14_1
       try clear hfz14_2
       try clear hfz16_0
       try clear hfz16_1
       try clear hfz16_2
       try clear p2
       obtain ⟨x11_2,rfl,HA,HK2,BK106,HB⟩:=hrel
       cases gk with
       | zero=>exact absurd HA.out (by simp [contangoref41_Step.l0])
       | succ k2 =>
        have H:=HA.out
        clear HA
        simp only [contangoref41_Step.l0] at H
        by_cases c17:x11_2 < a2
        ·rw [if_pos c17] at H
         have c17b0:decide (x11_2 < a2) = true:=decide_eq_true c17
         clear c17
         by_cases c18:x11_2 = 2
         ·rw [if_pos c18] at H
          have c18b0:(x11_2 == 2) = true:=beq_iff_eq.mpr c18
          have c18b1:(x11_2 != 2) = false:=bne_eq_false_iff_eq.mpr c18
          clear c18
          simp only [Option.some.injEq,Prod.mk.injEq] at H
          obtain ⟨rfl,rfl⟩:=H
          go_wp2
          go_ret2
          exact ⟨_,by first|rfl|(simp [errW_none,errW_some] <;> rfl)|(simp [*,errW_none,errW_some] <;> rfl),by first|exact Kd.R_nil _ _ _ _ _|exact Kd.N_nil _ _ _ _ _|exact Kd.V_nil _ _ _ _ _|exact Kd.Q_nil _ _ _ _ _|exact Kd.S_nil _ _ _ _ _,by repeat (first|(with_reducible first|exact HB.out|apply below_alloc|apply pw_below_drewN|apply below_drew1|refine below_set ?_ GE106.out)|exact HB.out)⟩
         ·rw [if_neg c18] at H
          have c18b0:(x11_2 == 2) = false:=beq_eq_false_iff_ne.mpr c18
          have c18b1:(x11_2 != 2) = true:=bne_iff_ne.mpr c18
          by_cases c19:x11_2 = 5
          ·rw [if_pos c19] at H
           have c19b0:(x11_2 == 5) = true:=beq_iff_eq.mpr c19
           have c19b1:(x11_2 != 5) = false:=bne_eq_false_iff_eq.mpr c19
           clear c19
           simp only [Option.some.injEq,Prod.mk.injEq] at H
           obtain ⟨rfl,rfl⟩:=H
           go_wp2
           go_ret2
           exact ⟨_,by first|rfl|(simp [errW_none,errW_some] <;> rfl)|(simp [*,errW_none,errW_some] <;> rfl),by first|exact Kd.R_nil _ _ _ _ _|exact Kd.N_nil _ _ _ _ _|exact Kd.V_nil _ _ _ _ _|exact Kd.Q_nil _ _ _ _ _|exact Kd.S_nil _ _ _ _ _,by repeat (first|(with_reducible first|exact HB.out|apply below_alloc|apply pw_below_drewN|apply below_drew1|refine below_set ?_ GE106.out)|exact HB.out)⟩
          ·rw [if_neg c19] at H
           have c19b0:(x11_2 == 5) = false:=beq_eq_false_iff_ne.mpr c19
           have c19b1:(x11_2 != 5) = true:=bne_iff_ne.mpr c19
           by_cases c20:x11_2 = 6
           ·rw [if_pos c20] at H
            have c20b0:(x11_2 == 6) = true:=beq_iff_eq.mpr c20
            have c20b1:(x11_2 != 6) = false:=bne_eq_false_iff_eq.mpr c20
            clear c20
            simp only [Option.some.injEq,Prod.mk.injEq] at H
            obtain ⟨rfl,rfl⟩:=H
            go_wp2
            go_ret2
            exact ⟨_,by first|rfl|(simp [errW_none,errW_some] <;> rfl)|(simp [*,errW_none,errW_some] <;> rfl),by first|exact Kd.R_nil _ _ _ _ _|exact Kd.N_nil _ _ _ _ _|exact Kd.V_nil _ _ _ _ _|exact Kd.Q_nil _ _ _ _ _|exact Kd.S_nil _ _ _ _ _,by repeat (first|(with_reducible first|exact HB.out|apply below_alloc|apply pw_below_drewN|apply below_drew1|refine below_set ?_ GE106.out)|exact HB.out)⟩
           ·rw [if_neg c20] at H
            have c20b0:(x11_2 == 6) = false:=beq_eq_false_iff_ne.mpr c20
            have c20b1:(x11_2 != 6) = true:=bne_iff_ne.mpr c20
            have H':=Aside0.mk H
            clear H
            go_wp2
            go_roundg k2
            case measure=>have:=HJ7.out;have:=HK2.out;omega
            case rel=>exact ⟨(wrap64 (x11_2 + 1)),(by first|rfl|(simp;done)|(simp [*];done)),H',⟨by have:=HJ7.out;have:=HK2.out;omega⟩,⟨by (with_reducible repeat (first|refine blk_drewN ?_ _|refine blk_drew ?_|refine blk_alloc ?_ _));exact BK106.out⟩,⟨by repeat (first|(with_reducible first|exact HB.out|apply below_alloc|apply pw_below_drewN|apply below_drew1|refine below_set ?_ GE106.out)|exact HB.out)⟩⟩
        ·rw [if_neg c17] at H
         have c17b0:decide (x11_2 < a2) = false:=decide_eq_false c17
         clear c17
         have H':=Aside0.mk H
         clear H
         go_wp2
         go_loopg [12,13] k2 (fun kq v12 v13 w'=>∃ (x12_3:List (S41)) (x13_3:Int),v13 = .int .i64 x13_3 ∧ Aside0 (contangoref41_Step.l1 kq l0 a1 a2 x12_3 x13_3 = some (r1,r2)) ∧ Aside0 (kq ≤ k2) ∧ Aside0 (Kd.R k41 41 w' w.heap.size (fun k_=>k_ ≠ gb106) v12 x12_3) ∧ Aside0 (w'.heap[gb106]? = some (.cells #[.string t102,.int .i64 t103,.int .i64 t104] 41 (0,0))) ∧ Aside0 (Below w.heap.size w w'))
         case atStart=>exact ⟨(([]:List (S41))),(0),(by first|rfl|(simp;done)|(simp [*];done)),H',⟨Nat.le_refl _⟩,⟨by first|exact Kd.R_nil _ _ _ _ _|exact Kd.N_nil _ _ _ _ _|exact Kd.V_nil _ _ _ _ _|exact Kd.Q_nil _ _ _ _ _|exact Kd.S_nil _ _ _ _ _⟩,⟨by (with_reducible repeat (first|refine blk_drewN ?_ _|refine blk_drew ?_|refine blk_alloc ?_ _));exact BK106.out⟩,⟨by repeat (first|(with_reducible first|exact HB.out|apply below_alloc|apply pw_below_drewN|apply below_drew1|refine below_set ?_ GE106.out)|exact HB.out)⟩⟩
         case round =>
          clear H'
          try clear c1
          try clear c2
          try clear p2
          try clear c5
          try clear c5b0
          try clear c5b1
          try clear p6
          try clear c7
          try clear c9
          try clear c12
          try clear c12b0
          try clear c15
          try clear c17
          try clear c17b0
          try clear c18
          try clear c18b0
          try clear c18b1
          try clear c19
          try clear c19b0
          try clear c19b1
          try clear c20
          try clear c20b0
          try clear c20b1
          try clear hcz11_0
          try clear hcz11_1
          try clear hcz11_2
          try clear hcz13_0
          try clear hcz13_1
          try clear hcz13_2
          try clear hcz14_0
          try clear hcz14_1
          try clear hcz14_2
          try clear hcz16_0
          try clear hcz16_1
          try clear hcz16_2
          try clear hfz11_0
          try clear hfz11_1
          try clear hfz11_2
          try clear hfz13_0
          try clear hfz13_1
          try clear hfz13_2
          try clear hfz14_0
          try clear hfz14_1
          try clear hfz14_2
          try clear hfz16_0
          try clear hfz16_1
          try clear hfz16_2
          try clear p2
          try clear p6
          obtain ⟨x12_3,x13_3,rfl,HA,HK3,HO_12,BK106,HB⟩:=hrel
          cases gk with
          | zero=>exact absurd HA.out (by simp [contangoref41_Step.l1])
          | succ k3 =>
           have H:=HA.out
           clear HA
           simp only [contangoref41_Step.l1] at H
           by_cases c21:x13_3 < (l0.length:Int)
           ·rw [if_pos c21] at H
            have c21b0:decide (x13_3 < (l0.length:Int)) = true:=decide_eq_true c21
            clear c21
            by_cases c22:0 ≤ x13_3
            ·rw [if_pos c22] at H
             have c22b0:decide (0 ≤ x13_3) = true:=decide_eq_true c22
             clear c22
             by_cases c23:((rd_T41 l0 x13_3).f0).toList = a1.toList
             ·rw [if_pos c23] at H
              have c23b0:(((rd_T41 l0 x13_3).f0).toList == a1.toList) = true:=beq_iff_eq.mpr c23
              have c23b1:(((rd_T41 l0 x13_3).f0).toList != a1.toList) = false:=bne_eq_false_iff_eq.mpr c23
              clear c23
              by_cases c24:x12_3.length < 4398046511104
              ·rw [if_pos c24] at H
               have LMc24:=Aside0.mk c24
               clear c24
               obtain ⟨y109,hy109⟩:∃ y_:List (S41),y_ = (x12_3 ++ [(⟨(rd_T41 l0 x13_3).f0,a2,(rd_T41 l0 x13_3).f2⟩:S41)]):=⟨_,rfl⟩
               replace H:(contangoref41_Step.l1 k3 l0 a1 a2 y109 (wrap64 (x13_3 + 1))) = some (r1,r2):=by first|(rw [hy109];with_reducible exact H)|(have H2_:=(Option.bind_some _ _).symm.trans H;rw [hy109];with_reducible exact H2_)|(have H2_:=(Option.bind_some _ _).symm.trans H;with_reducible exact H2_)|with_reducible exact H|(rw [hy109];exact H)|exact H
               have Ny109:=Aside0.mk hy109
               clear hy109
               have H':=Aside0.mk H
               clear H
               have p107:0 ≤ (x13_3:Int):=of_decide_eq_true (by first|(with_reducible assumption)|assumption)
               have q107:x13_3 < (l0.length:Int):=of_decide_eq_true (by first|(with_reducible assumption)|assumption)
               obtain ⟨ad107,e107,hx107_0,hx107_1,hx107_2⟩:=at_T41 HR0.out x13_3 p107 q107
               cases e107
               replace hx107_0:=(HB.out.cell (World.block_lt_of_cell? w _ hx107_0)).trans hx107_0
               replace hx107_1:=(HB.out.cell (World.block_lt_of_cell? w _ hx107_1)).trans hx107_1
               replace hx107_2:=(HB.out.cell (World.block_lt_of_cell? w _ hx107_2)).trans hx107_2
               replace p107:=eq_true p107
               replace q107:=eq_true q107
               go_wp2_with (first|((with_reducible refine gate_dst (N:=14) rfl ?_);refine box_event ?hg (N:=14) ?hd (cs:=#[.string (⟨#[]⟩:ByteArray),.int .i64 0,.int .i64 0]) (t:=41) ?hr ?_;(case hd=>rfl);(case hg=>rfl);(case hr=>first|(go_simp;done)|(go_simp;rfl));intro gb108 hg w25 hbox hb;have n0_:=Aside0.mk (Kd.R_below (Kd.R_elderB (by (with_reducible repeat (first|apply Kd.R_alloc|apply Kd.R_drewN|apply Kd.R_drew));exact HO_12.out) gb108 (Nat.le_of_eq hg.symm)) hb);have n1_:=Aside0.mk (blk_below (g:=gb106) (o:=.cells #[.string t102,.int .i64 t103,.int .i64 t104] 41 (0,0)) (by (with_reducible repeat (first|refine blk_drewN ?_ _|refine blk_drew ?_|refine blk_alloc ?_ _));exact BK106.out) hb);have n2_:=Aside0.mk (below_step (by repeat (first|(with_reducible first|exact HB.out|apply below_alloc|apply pw_below_drewN|apply below_drew1|refine below_set ?_ GE106.out)|exact HB.out)) hb);have n3_:=Aside0.mk (hbox);have n4_:=Aside0.mk ((by rw [hg];exact (below_size (by repeat (first|(with_reducible first|exact HB.out|apply below_alloc|apply pw_below_drewN|apply below_drew1|refine below_set ?_ GE106.out)|exact HB.out))):w.heap.size ≤ gb108));have n5_:=Aside0.mk ((by rw [hg];exact (below_size (by repeat (first|(with_reducible first|exact HB.out|apply below_alloc|apply pw_below_drewN|apply below_drew1|refine below_set ?_ GE106.out)|exact HB.out))):w.heap.size ≤ gb108));have n6_:=Aside0.mk ((by rw [hg];exact Nat.ne_of_lt (blk_lt (g:=gb106) (o:=.cells #[.string t102,.int .i64 t103,.int .i64 t104] 41 (0,0)) (by (with_reducible repeat (first|refine blk_drewN ?_ _|refine blk_drew ?_|refine blk_alloc ?_ _));exact BK106.out)):gb106 ≠ gb108));have n7_:=Aside0.mk ((by rw [hg];exact Nat.ne_of_gt (blk_lt (g:=gb106) (o:=.cells #[.string t102,.int .i64 t103,.int .i64 t104] 41 (0,0)) (by (with_reducible repeat (first|refine blk_drewN ?_ _|refine blk_drew ?_|refine blk_alloc ?_ _));exact BK106.out)):gb108 ≠ gb106));clear HO_12;clear BK106;clear HB;have HO_12:=n0_;have BK106:=n1_;have HB:=n2_;have BK108:=n3_;have GW108:=n4_;have GE108:=n5_;have NB106_108:=n6_;have NB108_106:=n7_;clear n0_ n1_ n2_ n3_ n4_ n5_ n6_ n7_;clear hb hbox hg;have hnb26:=NB108_106.out;have hnc26:=NB106_108.out;have hcz27_0:w25.cell? ⟨gb108,0,none⟩ = some (.string (⟨#[]⟩:ByteArray)):=(blk_cell BK108.out 0).trans rfl;have hcz27_1:w25.cell? ⟨gb108,1,none⟩ = some (.int .i64 0):=(blk_cell BK108.out 1).trans rfl;have hcz27_2:w25.cell? ⟨gb108,2,none⟩ = some (.int .i64 0):=(blk_cell BK108.out 2).trans rfl;have hfz27_0:=blk_frozen BK108.out 0;have hfz27_1:=blk_frozen BK108.out 1;have hfz27_2:=blk_frozen BK108.out 2;have hq27_0:∀ a b c d:Value,((((w25.setCell ⟨gb108,0,none⟩ a).setCell ⟨gb108,1,none⟩ b).setCell ⟨gb108,2,none⟩ c).setCell ⟨gb108,1,none⟩ d).cell? ⟨gb108,0,none⟩ = some a:=fun a b c d=>(blk_cell (blk_put (cs:=#[a,b,c]) (blk_put (cs:=#[a,b,.int .i64 0]) (blk_put (cs:=#[a,.int .i64 0,.int .i64 0]) (blk_put BK108.out 0 a rfl) 1 b rfl) 2 c rfl) 1 d rfl) 0).trans rfl;have hq27_1:∀ a b c d:Value,((((w25.setCell ⟨gb108,0,none⟩ a).setCell ⟨gb108,1,none⟩ b).setCell ⟨gb108,2,none⟩ c).setCell ⟨gb108,1,none⟩ d).cell? ⟨gb108,1,none⟩ = some d:=fun a b c d=>(blk_cell (blk_put (cs:=#[a,b,c]) (blk_put (cs:=#[a,b,.int .i64 0]) (blk_put (cs:=#[a,.int .i64 0,.int .i64 0]) (blk_put BK108.out 0 a rfl) 1 b rfl) 2 c rfl) 1 d rfl) 1).trans rfl;have hq27_2:∀ a b c d:Value,((((w25.setCell ⟨gb108,0,none⟩ a).setCell ⟨gb108,1,none⟩ b).setCell ⟨gb108,2,none⟩ c).setCell ⟨gb108,1,none⟩ d).cell? ⟨gb108,2,none⟩ = some c:=fun a b c d=>(blk_cell (blk_put (cs:=#[a,b,c]) (blk_put (cs:=#[a,b,.int .i64 0]) (blk_put (cs:=#[a,.int .i64 0,.int .i64 0]) (blk_put BK108.out 0 a rfl) 1 b rfl) 2 c rfl) 1 d rfl) 2).trans rfl)|((with_reducible refine gate_builtin (b:=.append) (xs:=#[.tmp 70,.tmp 72]) rfl ?_);at_builtin;refine Kd.R_append k41 (w0:=w) w.heap.size rfl (.tmp 70) (.tmp 72) 22 41 (.agg #[(.string ⟨#[]⟩),(.int .i64 0),(.int .i64 0)]) 32 rfl Try.underlying22 info41 rfl (by decide) (by omega) u12 x12_3 (⟨(rd_T41 l0 x13_3).f0,a2,(rd_T41 l0 x13_3).f2⟩:S41) [.string ((rd_T41 l0 x13_3).f0),.int .i64 a2,.int .i64 ((rd_T41 l0 x13_3).f2)] (fun k_=>k_ ≠ gb106 ∧ k_ ≠ gb108) (fun _=>False) rfl (by first|(go_simp;done)|(go_simp;rfl)) ?aP (fun _ hk=>hk.elim) ?aF ?aO ?aB ?aS ?aL ?_;(case aP=>exact k41_mkM _ _ _ (⟨(rd_T41 l0 x13_3).f0,a2,(rd_T41 l0 x13_3).f2⟩:S41));(case aB=>exact (by repeat (first|(with_reducible first|exact HB.out|apply below_alloc|apply pw_below_drewN|apply below_drew1|refine below_set ?_ GE106.out|refine below_set ?_ GE108.out)|exact HB.out)));(case aF=>exact (fun k_ hk=>⟨Kd.freshB (g:=gb106) (o:=.cells #[.string t102,.int .i64 t103,.int .i64 t104] 41 (0,0)) (by (with_reducible repeat (first|refine blk_drewN ?_ _|refine blk_drew ?_|refine blk_alloc ?_ _));refine blk_far ?_ NB106_108.out _;(with_reducible repeat (first|refine blk_drewN ?_ _|refine blk_drew ?_|refine blk_alloc ?_ _));refine blk_far ?_ NB106_108.out _;(with_reducible repeat (first|refine blk_drewN ?_ _|refine blk_drew ?_|refine blk_alloc ?_ _));refine blk_far ?_ NB106_108.out _;(with_reducible repeat (first|refine blk_drewN ?_ _|refine blk_drew ?_|refine blk_alloc ?_ _));refine blk_far ?_ NB106_108.out _;(with_reducible repeat (first|refine blk_drewN ?_ _|refine blk_drew ?_|refine blk_alloc ?_ _));exact BK106.out) k_ hk,Kd.freshB (g:=gb108) (o:=.cells #[.string ((rd_T41 l0 x13_3).f0),.int .i64 a2,.int .i64 ((rd_T41 l0 x13_3).f2)] 41 (0,0)) (by (with_reducible repeat (first|refine blk_drewN ?_ _|refine blk_drew ?_|refine blk_alloc ?_ _));refine blk_put (cs:=#[.string ((rd_T41 l0 x13_3).f0),.int .i64 ((rd_T41 l0 x13_3).f1),.int .i64 ((rd_T41 l0 x13_3).f2)]) ?_ 1 _ rfl;(with_reducible repeat (first|refine blk_drewN ?_ _|refine blk_drew ?_|refine blk_alloc ?_ _));refine blk_put (cs:=#[.string ((rd_T41 l0 x13_3).f0),.int .i64 ((rd_T41 l0 x13_3).f1),.int .i64 0]) ?_ 2 _ rfl;(with_reducible repeat (first|refine blk_drewN ?_ _|refine blk_drew ?_|refine blk_alloc ?_ _));refine blk_put (cs:=#[.string ((rd_T41 l0 x13_3).f0),.int .i64 0,.int .i64 0]) ?_ 1 _ rfl;(with_reducible repeat (first|refine blk_drewN ?_ _|refine blk_drew ?_|refine blk_alloc ?_ _));refine blk_put (cs:=#[.string (⟨#[]⟩:ByteArray),.int .i64 0,.int .i64 0]) ?_ 0 _ rfl;(with_reducible repeat (first|refine blk_drewN ?_ _|refine blk_drew ?_|refine blk_alloc ?_ _));exact BK108.out) k_ hk⟩));(case aO=>exact (by (with_reducible repeat (first|apply Kd.R_alloc|apply Kd.R_drewN|apply Kd.R_drew));exact Kd.R_mono (Kd.R_far (p:=⟨gb108,1,none⟩) (Kd.R_far (p:=⟨gb108,2,none⟩) (Kd.R_far (p:=⟨gb108,1,none⟩) (Kd.R_far (p:=⟨gb108,0,none⟩) (Kd.R_mono HO_12.out (fun k_ hk=>(⟨hk,hk.2⟩:_ ∧ k_ ≠ gb108))) (fun _ hk=>hk.2) (.string ((rd_T41 l0 x13_3).f0))) (fun _ hk=>hk.2) (.int .i64 ((rd_T41 l0 x13_3).f1))) (fun _ hk=>hk.2) (.int .i64 ((rd_T41 l0 x13_3).f2))) (fun _ hk=>hk.2) (.int .i64 a2)) (fun _ hk=>⟨hk.1.1,hk.1.2⟩)));(case aS=>exact (below_size (by repeat (first|(with_reducible first|exact HB.out|apply below_alloc|apply pw_below_drewN|apply below_drew1|refine below_set ?_ GE106.out|refine below_set ?_ GE108.out)|exact HB.out))));(case aL=>have:=LMc24.out;omega);intro v110 w28 ho hb hg hat;rw [← Ny109.out] at ho;have n0_:=Aside0.mk (blk_grown (g:=gb106) (o:=.cells #[.string t102,.int .i64 t103,.int .i64 t104] 41 (0,0)) (by (with_reducible repeat (first|refine blk_drewN ?_ _|refine blk_drew ?_|refine blk_alloc ?_ _));refine blk_far ?_ NB106_108.out _;(with_reducible repeat (first|refine blk_drewN ?_ _|refine blk_drew ?_|refine blk_alloc ?_ _));refine blk_far ?_ NB106_108.out _;(with_reducible repeat (first|refine blk_drewN ?_ _|refine blk_drew ?_|refine blk_alloc ?_ _));refine blk_far ?_ NB106_108.out _;(with_reducible repeat (first|refine blk_drewN ?_ _|refine blk_drew ?_|refine blk_alloc ?_ _));refine blk_far ?_ NB106_108.out _;(with_reducible repeat (first|refine blk_drewN ?_ _|refine blk_drew ?_|refine blk_alloc ?_ _));exact BK106.out) hg (Kd.R_away HO_12.out (fun _ hk=>hk.1)));have n1_:=Aside0.mk (blk_grown (g:=gb108) (o:=.cells #[.string ((rd_T41 l0 x13_3).f0),.int .i64 a2,.int .i64 ((rd_T41 l0 x13_3).f2)] 41 (0,0)) (by (with_reducible repeat (first|refine blk_drewN ?_ _|refine blk_drew ?_|refine blk_alloc ?_ _));refine blk_put (cs:=#[.string ((rd_T41 l0 x13_3).f0),.int .i64 ((rd_T41 l0 x13_3).f1),.int .i64 ((rd_T41 l0 x13_3).f2)]) ?_ 1 _ rfl;(with_reducible repeat (first|refine blk_drewN ?_ _|refine blk_drew ?_|refine blk_alloc ?_ _));refine blk_put (cs:=#[.string ((rd_T41 l0 x13_3).f0),.int .i64 ((rd_T41 l0 x13_3).f1),.int .i64 0]) ?_ 2 _ rfl;(with_reducible repeat (first|refine blk_drewN ?_ _|refine blk_drew ?_|refine blk_alloc ?_ _));refine blk_put (cs:=#[.string ((rd_T41 l0 x13_3).f0),.int .i64 0,.int .i64 0]) ?_ 1 _ rfl;(with_reducible repeat (first|refine blk_drewN ?_ _|refine blk_drew ?_|refine blk_alloc ?_ _));refine blk_put (cs:=#[.string (⟨#[]⟩:ByteArray),.int .i64 0,.int .i64 0]) ?_ 0 _ rfl;(with_reducible repeat (first|refine blk_drewN ?_ _|refine blk_drew ?_|refine blk_alloc ?_ _));exact BK108.out) hg (Kd.R_away HO_12.out (fun _ hk=>hk.2)));have n2_:=Aside0.mk (hb);have n3_:=Aside0.mk (ho);clear BK106;clear BK108;clear HB;clear HO_12;have BK106:=n0_;have BK108:=n1_;have HB:=n2_;have HO111:=n3_;clear n0_ n1_ n2_ n3_;clear ho hb hg hat))
               go_roundg k3
               case measure=>have:=HJ7.out;have:=HK2.out;have:=HK3.out;omega
               case rel=>exact ⟨(y109),(wrap64 (x13_3 + 1)),(by first|rfl|(simp;done)|(simp [*];done)),H',⟨by have:=HJ7.out;have:=HK2.out;have:=HK3.out;omega⟩,⟨by (with_reducible repeat (first|apply Kd.R_alloc|apply Kd.R_drewN|apply Kd.R_drew));exact Kd.R_mono HO111.out (fun _ hk=>hk.1)⟩,⟨by (with_reducible repeat (first|refine blk_drewN ?_ _|refine blk_drew ?_|refine blk_alloc ?_ _));exact BK106.out⟩,⟨by repeat (first|(with_reducible first|exact HB.out|apply below_alloc|apply pw_below_drewN|apply below_drew1|refine below_set ?_ GE106.out|refine below_set ?_ GE108.out)|exact HB.out)⟩⟩
              ·rw [if_neg c24] at H
               exact absurd H (by simp)
             ·rw [if_neg c23] at H
              have c23b0:(((rd_T41 l0 x13_3).f0).toList == a1.toList) = false:=beq_eq_false_iff_ne.mpr c23
              have c23b1:(((rd_T41 l0 x13_3).f0).toList != a1.toList) = true:=bne_iff_ne.mpr c23
              by_cases c29:x12_3.length < 4398046511104
              ·rw [if_pos c29] at H
               have LMc29:=Aside0.mk c29
               clear c29
               obtain ⟨y112,hy112⟩:∃ y_:List (S41),y_ = (x12_3 ++ [(⟨(rd_T41 l0 x13_3).f0,(rd_T41 l0 x13_3).f1,(rd_T41 l0 x13_3).f2⟩:S41)]):=⟨_,rfl⟩
               replace H:(contangoref41_Step.l1 k3 l0 a1 a2 y112 (wrap64 (x13_3 + 1))) = some (r1,r2):=by first|(rw [hy112];with_reducible exact H)|(have H2_:=(Option.bind_some _ _).symm.trans H;rw [hy112];with_reducible exact H2_)|(have H2_:=(Option.bind_some _ _).symm.trans H;with_reducible exact H2_)|with_reducible exact H|(rw [hy112];exact H)|exact H
               have Ny112:=Aside0.mk hy112
               clear hy112
               have H':=Aside0.mk H
               clear H
               have p107:0 ≤ (x13_3:Int):=of_decide_eq_true (by first|(with_reducible assumption)|assumption)
               have q107:x13_3 < (l0.length:Int):=of_decide_eq_true (by first|(with_reducible assumption)|assumption)
               obtain ⟨ad107,e107,hx107_0,hx107_1,hx107_2⟩:=at_T41 HR0.out x13_3 p107 q107
               cases e107
               replace hx107_0:=(HB.out.cell (World.block_lt_of_cell? w _ hx107_0)).trans hx107_0
               replace hx107_1:=(HB.out.cell (World.block_lt_of_cell? w _ hx107_1)).trans hx107_1
               replace hx107_2:=(HB.out.cell (World.block_lt_of_cell? w _ hx107_2)).trans hx107_2
               replace p107:=eq_true p107
               replace q107:=eq_true q107
               go_wp2_with (first|((with_reducible refine gate_dst (N:=14) rfl ?_);refine box_event ?hg (N:=14) ?hd (cs:=#[.string (⟨#[]⟩:ByteArray),.int .i64 0,.int .i64 0]) (t:=41) ?hr ?_;(case hd=>rfl);(case hg=>rfl);(case hr=>first|(go_simp;done)|(go_simp;rfl));intro gb108 hg w30 hbox hb;have n0_:=Aside0.mk (Kd.R_below (Kd.R_elderB (by (with_reducible repeat (first|apply Kd.R_alloc|apply Kd.R_drewN|apply Kd.R_drew));exact HO_12.out) gb108 (Nat.le_of_eq hg.symm)) hb);have n1_:=Aside0.mk (blk_below (g:=gb106) (o:=.cells #[.string t102,.int .i64 t103,.int .i64 t104] 41 (0,0)) (by (with_reducible repeat (first|refine blk_drewN ?_ _|refine blk_drew ?_|refine blk_alloc ?_ _));exact BK106.out) hb);have n2_:=Aside0.mk (below_step (by repeat (first|(with_reducible first|exact HB.out|apply below_alloc|apply pw_below_drewN|apply below_drew1|refine below_set ?_ GE106.out)|exact HB.out)) hb);have n3_:=Aside0.mk (hbox);have n4_:=Aside0.mk ((by rw [hg];exact (below_size (by repeat (first|(with_reducible first|exact HB.out|apply below_alloc|apply pw_below_drewN|apply below_drew1|refine below_set ?_ GE106.out)|exact HB.out))):w.heap.size ≤ gb108));have n5_:=Aside0.mk ((by rw [hg];exact (below_size (by repeat (first|(with_reducible first|exact HB.out|apply below_alloc|apply pw_below_drewN|apply below_drew1|refine below_set ?_ GE106.out)|exact HB.out))):w.heap.size ≤ gb108));have n6_:=Aside0.mk ((by rw [hg];exact Nat.ne_of_lt (blk_lt (g:=gb106) (o:=.cells #[.string t102,.int .i64 t103,.int .i64 t104] 41 (0,0)) (by (with_reducible repeat (first|refine blk_drewN ?_ _|refine blk_drew ?_|refine blk_alloc ?_ _));exact BK106.out)):gb106 ≠ gb108));have n7_:=Aside0.mk ((by rw [hg];exact Nat.ne_of_gt (blk_lt (g:=gb106) (o:=.cells #[.string t102,.int .i64 t103,.int .i64 t104] 41 (0,0)) (by (with_reducible repeat (first|refine blk_drewN ?_ _|refine blk_drew ?_|refine blk_alloc ?_ _));exact BK106.out)):gb108 ≠ gb106));clear HO_12;clear BK106;clear HB;have HO_12:=n0_;have BK106:=n1_;have HB:=n2_;have BK108:=n3_;have GW108:=n4_;have GE108:=n5_;have NB106_108:=n6_;have NB108_106:=n7_;clear n0_ n1_ n2_ n3_ n4_ n5_ n6_ n7_;clear hb hbox hg;have hnb31:=NB108_106.out;have hnc31:=NB106_108.out;have hcz32_0:w30.cell? ⟨gb108,0,none⟩ = some (.string (⟨#[]⟩:ByteArray)):=(blk_cell BK108.out 0).trans rfl;have hcz32_1:w30.cell? ⟨gb108,1,none⟩ = some (.int .i64 0):=(blk_cell BK108.out 1).trans rfl;have hcz32_2:w30.cell? ⟨gb108,2,none⟩ = some (.int .i64 0):=(blk_cell BK108.out 2).trans rfl;have hfz32_0:=blk_frozen BK108.out 0;have hfz32_1:=blk_frozen BK108.out 1;have hfz32_2:=blk_frozen BK108.out 2;have hq32_0:∀ a b c d:Value,((((w30.setCell ⟨gb108,0,none⟩ a).setCell ⟨gb108,1,none⟩ b).setCell ⟨gb108,2,none⟩ c).setCell ⟨gb108,1,none⟩ d).cell? ⟨gb108,0,none⟩ = some a:=fun a b c d=>(blk_cell (blk_put (cs:=#[a,b,c]) (blk_put (cs:=#[a,b,.int .i64 0]) (blk_put (cs:=#[a,.int .i64 0,.int .i64 0]) (blk_put BK108.out 0 a rfl) 1 b rfl) 2 c rfl) 1 d rfl) 0).trans rfl;have hq32_1:∀ a b c d:Value,((((w30.setCell ⟨gb108,0,none⟩ a).setCell ⟨gb108,1,none⟩ b).setCell ⟨gb108,2,none⟩ c).setCell ⟨gb108,1,none⟩ d).cell? ⟨gb108,1,none⟩ = some d:=fun a b c d=>(blk_cell (blk_put (cs:=#[a,b,c]) (blk_put (cs:=#[a,b,.int .i64 0]) (blk_put (cs:=#[a,.int .i64 0,.int .i64 0]) (blk_put BK108.out 0 a rfl) 1 b rfl) 2 c rfl) 1 d rfl) 1).trans rfl;have hq32_2:∀ a b c d:Value,((((w30.setCell ⟨gb108,0,none⟩ a).setCell ⟨gb108,1,none⟩ b).setCell ⟨gb108,2,none⟩ c).setCell ⟨gb108,1,none⟩ d).cell? ⟨gb108,2,none⟩ = some c:=fun a b c d=>(blk_cell (blk_put (cs:=#[a,b,c]) (blk_put (cs:=#[a,b,.int .i64 0]) (blk_put (cs:=#[a,.int .i64 0,.int .i64 0]) (blk_put BK108.out 0 a rfl) 1 b rfl) 2 c rfl) 1 d rfl) 2).trans rfl)|((with_reducible refine gate_builtin (b:=.append) (xs:=#[.tmp 70,.tmp 72]) rfl ?_);at_builtin;refine Kd.R_append k41 (w0:=w) w.heap.size rfl (.tmp 70) (.tmp 72) 22 41 (.agg #[(.string ⟨#[]⟩),(.int .i64 0),(.int .i64 0)]) 32 rfl Try.underlying22 info41 rfl (by decide) (by omega) u12 x12_3 (⟨(rd_T41 l0 x13_3).f0,(rd_T41 l0 x13_3).f1,(rd_T41 l0 x13_3).f2⟩:S41) [.string ((rd_T41 l0 x13_3).f0),.int .i64 ((rd_T41 l0 x13_3).f1),.int .i64 ((rd_T41 l0 x13_3).f2)] (fun k_=>k_ ≠ gb106 ∧ k_ ≠ gb108) (fun _=>False) rfl (by first|(go_simp;done)|(go_simp;rfl)) ?aP (fun _ hk=>hk.elim) ?aF ?aO ?aB ?aS ?aL ?_;(case aP=>exact k41_mkM _ _ _ (⟨(rd_T41 l0 x13_3).f0,(rd_T41 l0 x13_3).f1,(rd_T41 l0 x13_3).f2⟩:S41));(case aB=>exact (by repeat (first|(with_reducible first|exact HB.out|apply below_alloc|apply pw_below_drewN|apply below_drew1|refine below_set ?_ GE106.out|refine below_set ?_ GE108.out)|exact HB.out)));(case aF=>exact (fun k_ hk=>⟨Kd.freshB (g:=gb106) (o:=.cells #[.string t102,.int .i64 t103,.int .i64 t104] 41 (0,0)) (by (with_reducible repeat (first|refine blk_drewN ?_ _|refine blk_drew ?_|refine blk_alloc ?_ _));refine blk_far ?_ NB106_108.out _;(with_reducible repeat (first|refine blk_drewN ?_ _|refine blk_drew ?_|refine blk_alloc ?_ _));refine blk_far ?_ NB106_108.out _;(with_reducible repeat (first|refine blk_drewN ?_ _|refine blk_drew ?_|refine blk_alloc ?_ _));refine blk_far ?_ NB106_108.out _;(with_reducible repeat (first|refine blk_drewN ?_ _|refine blk_drew ?_|refine blk_alloc ?_ _));exact BK106.out) k_ hk,Kd.freshB (g:=gb108) (o:=.cells #[.string ((rd_T41 l0 x13_3).f0),.int .i64 ((rd_T41 l0 x13_3).f1),.int .i64 ((rd_T41 l0 x13_3).f2)] 41 (0,0)) (by (with_reducible repeat (first|refine blk_drewN ?_ _|refine blk_drew ?_|refine blk_alloc ?_ _));refine blk_put (cs:=#[.string ((rd_T41 l0 x13_3).f0),.int .i64 ((rd_T41 l0 x13_3).f1),.int .i64 0]) ?_ 2 _ rfl;(with_reducible repeat (first|refine blk_drewN ?_ _|refine blk_drew ?_|refine blk_alloc ?_ _));refine blk_put (cs:=#[.string ((rd_T41 l0 x13_3).f0),.int .i64 0,.int .i64 0]) ?_ 1 _ rfl;(with_reducible repeat (first|refine blk_drewN ?_ _|refine blk_drew ?_|refine blk_alloc ?_ _));refine blk_put (cs:=#[.string (⟨#[]⟩:ByteArray),.int .i64 0,.int .i64 0]) ?_ 0 _ rfl;(with_reducible repeat (first|refine blk_drewN ?_ _|refine blk_drew ?_|refine blk_alloc ?_ _));exact BK108.out) k_ hk⟩));(case aO=>exact (by (with_reducible repeat (first|apply Kd.R_alloc|apply Kd.R_drewN|apply Kd.R_drew));exact Kd.R_mono (Kd.R_far (p:=⟨gb108,2,none⟩) (Kd.R_far (p:=⟨gb108,1,none⟩) (Kd.R_far (p:=⟨gb108,0,none⟩) (Kd.R_mono HO_12.out (fun k_ hk=>(⟨hk,hk.2⟩:_ ∧ k_ ≠ gb108))) (fun _ hk=>hk.2) (.string ((rd_T41 l0 x13_3).f0))) (fun _ hk=>hk.2) (.int .i64 ((rd_T41 l0 x13_3).f1))) (fun _ hk=>hk.2) (.int .i64 ((rd_T41 l0 x13_3).f2))) (fun _ hk=>⟨hk.1.1,hk.1.2⟩)));(case aS=>exact (below_size (by repeat (first|(with_reducible first|exact HB.out|apply below_alloc|apply pw_below_drewN|apply below_drew1|refine below_set ?_ GE106.out|refine below_set ?_ GE108.out)|exact HB.out))));(case aL=>have:=LMc29.out;omega);intro v113 w33 ho hb hg hat;rw [← Ny112.out] at ho;have n0_:=Aside0.mk (blk_grown (g:=gb106) (o:=.cells #[.string t102,.int .i64 t103,.int .i64 t104] 41 (0,0)) (by (with_reducible repeat (first|refine blk_drewN ?_ _|refine blk_drew ?_|refine blk_alloc ?_ _));refine blk_far ?_ NB106_108.out _;(with_reducible repeat (first|refine blk_drewN ?_ _|refine blk_drew ?_|refine blk_alloc ?_ _));refine blk_far ?_ NB106_108.out _;(with_reducible repeat (first|refine blk_drewN ?_ _|refine blk_drew ?_|refine blk_alloc ?_ _));refine blk_far ?_ NB106_108.out _;(with_reducible repeat (first|refine blk_drewN ?_ _|refine blk_drew ?_|refine blk_alloc ?_ _));exact BK106.out) hg (Kd.R_away HO_12.out (fun _ hk=>hk.1)));have n1_:=Aside0.mk (blk_grown (g:=gb108) (o:=.cells #[.string ((rd_T41 l0 x13_3).f0),.int .i64 ((rd_T41 l0 x13_3).f1),.int .i64 ((rd_T41 l0 x13_3).f2)] 41 (0,0)) (by (with_reducible repeat (first|refine blk_drewN ?_ _|refine blk_drew ?_|refine blk_alloc ?_ _));refine blk_put (cs:=#[.string ((rd_T41 l0 x13_3).f0),.int .i64 ((rd_T41 l0 x13_3).f1),.int .i64 0]) ?_ 2 _ rfl;(with_reducible repeat (first|refine blk_drewN ?_ _|refine blk_drew ?_|refine blk_alloc ?_ _));refine blk_put (cs:=#[.string ((rd_T41 l0 x13_3).f0),.int .i64 0,.int .i64 0]) ?_ 1 _ rfl;(with_reducible repeat (first|refine blk_drewN ?_ _|refine blk_drew ?_|refine blk_alloc ?_ _));refine blk_put (cs:=#[.string (⟨#[]⟩:ByteArray),.int .i64 0,.int .i64 0]) ?_ 0 _ rfl;(with_reducible repeat (first|refine blk_drewN ?_ _|refine blk_drew ?_|refine blk_alloc ?_ _));exact BK108.out) hg (Kd.R_away HO_12.out (fun _ hk=>hk.2)));have n2_:=Aside0.mk (hb);have n3_:=Aside0.mk (ho);clear BK106;clear BK108;clear HB;clear HO_12;have BK106:=n0_;have BK108:=n1_;have HB:=n2_;have HO114:=n3_;clear n0_ n1_ n2_ n3_;clear ho hb hg hat))
               go_roundg k3
               case measure=>have:=HJ7.out;have:=HK2.out;have:=HK3.out;omega
               case rel=>exact ⟨(y112),(wrap64 (x13_3 + 1)),(by first|rfl|(simp;done)|(simp [*];done)),H',⟨by have:=HJ7.out;have:=HK2.out;have:=HK3.out;omega⟩,⟨by (with_reducible repeat (first|apply Kd.R_alloc|apply Kd.R_drewN|apply Kd.R_drew));exact Kd.R_mono HO114.out (fun _ hk=>hk.1)⟩,⟨by (with_reducible repeat (first|refine blk_drewN ?_ _|refine blk_drew ?_|refine blk_alloc ?_ _));exact BK106.out⟩,⟨by repeat (first|(with_reducible first|exact HB.out|apply below_alloc|apply pw_below_drewN|apply below_drew1|refine below_set ?_ GE106.out|refine below_set ?_ GE108.out)|exact HB.out)⟩⟩
              ·rw [if_neg c29] at H
               exact absurd H (by simp)
            ·rw [if_neg c22] at H
             exact absurd H (by simp)
           ·rw [if_neg c21] at H
            have c21b0:decide (x13_3 < (l0.length:Int)) = false:=decide_eq_false c21
            clear c21
            simp only [Option.some.injEq,Prod.mk.injEq] at H
            obtain ⟨rfl,rfl⟩:=H
            go_wp2
            go_ret2
            exact ⟨_,by first|rfl|(simp [errW_none,errW_some] <;> rfl)|(simp [*,errW_none,errW_some] <;> rfl),by (with_reducible repeat (first|apply Kd.R_alloc|apply Kd.R_drewN|apply Kd.R_drew));exact Kd.R_mono HO_12.out (fun _ hk=>trivial),by repeat (first|(with_reducible first|exact HB.out|apply below_alloc|apply pw_below_drewN|apply below_drew1|refine below_set ?_ GE106.out)|exact HB.out)⟩
  ·replace c7:=Bool.eq_false_iff.mpr c7
   subst c7
   have H1:(some (([]:List (S41)),11)) = some (r1,r2):=by rw [if_neg (show ¬ (false = true) by decide)] at H;exact H
   clear H
   have H:=H1
   clear H1
   simp only [Option.some.injEq,Prod.mk.injEq] at H
   obtain ⟨rfl,rfl⟩:=H
   go_enter Try.func9,Try.ntmps9
   go_wp2_with (first|((with_reducible refine gate_callee (f:=19) rfl ?_);refine goesL_ (some 16) rfl rfl Try.func19 (by kernel_rfl) rfl #[.slice A0 l0.length c0] rfl (by (try simp only [List.map_toArray,List.map_cons,List.map_nil]);first|done|rfl|(simp only [List.length_drop,List.length_take];rfl)) ?_;(with_reducible refine (contangoref41_Check.calls k _ _ l0 t101 _ ?side1 ?side2 A4.out).mono ?_);(case side1=>repeat (first|exact HR0.out|(with_reducible refine Kd.C_alloc ?_ _)|(with_reducible refine Kd.C_drewN ?_ _)|(with_reducible refine Kd.C_drew ?_)));(case side2=>exact HC0.out);rintro e w' ⟨rfl,⟨nd,rfl⟩⟩;refine ⟨_,rfl,?_⟩)|((with_reducible refine gate_callee (f:=18) rfl ?_);refine goesL_ (some 23) rfl rfl Try.func18 (by kernel_rfl) rfl #[.slice A0 l0.length c0,.string a1] rfl (by (try simp only [List.map_toArray,List.map_cons,List.map_nil]);first|done|rfl|(simp only [List.length_drop,List.length_take];rfl)) ?_;(with_reducible refine (contangoref41_Of.calls k _ _ l0 a1 t102 t103 t104 false _ ?side1 ?side2 A6.out).mono ?_);(case side1=>repeat (first|exact HR0.out|(with_reducible refine Kd.C_alloc ?_ _)|(with_reducible refine Kd.C_drewN ?_ _)|(with_reducible refine Kd.C_drew ?_)));(case side2=>exact HC0.out);rintro e w34 ⟨rfl,hb⟩;refine ⟨_,rfl,?_⟩;have n0_:=Aside0.mk (below_step (by repeat (first|(with_reducible first|exact HB.out|apply below_alloc|apply pw_below_drewN|apply below_drew1)|exact HB.out)) hb);clear HB;have HB:=n0_;clear n0_;(try clear hb);(try clear hb2);(try clear hk);(try clear hi))|((with_reducible refine gate_dst (N:=9) rfl ?_);refine box_event ?hg (N:=9) ?hd (cs:=#[.string (⟨#[]⟩:ByteArray),.int .i64 0,.int .i64 0]) (t:=41) ?hr ?_;(case hd=>rfl);(case hg=>rfl);(case hr=>first|(go_simp;done)|(go_simp;rfl));intro gb106 hg w35 hbox hb;have n0_:=Aside0.mk (below_step (by repeat (first|(with_reducible first|exact HB.out|apply below_alloc|apply pw_below_drewN|apply below_drew1)|exact HB.out)) hb);have n1_:=Aside0.mk (hbox);have n2_:=Aside0.mk ((by rw [hg];exact (below_size (by repeat (first|(with_reducible first|exact HB.out|apply below_alloc|apply pw_below_drewN|apply below_drew1)|exact HB.out))):w.heap.size ≤ gb106));have n3_:=Aside0.mk ((by rw [hg];exact (below_size (by repeat (first|(with_reducible first|exact HB.out|apply below_alloc|apply pw_below_drewN|apply below_drew1)|exact HB.out))):w.heap.size ≤ gb106));clear HB;have HB:=n0_;have BK106:=n1_;have GW106:=n2_;have GE106:=n3_;clear n0_ n1_ n2_ n3_;clear hb hbox hg;have hcz36_0:w35.cell? ⟨gb106,0,none⟩ = some (.string (⟨#[]⟩:ByteArray)):=(blk_cell BK106.out 0).trans rfl;have hcz36_1:w35.cell? ⟨gb106,1,none⟩ = some (.int .i64 0):=(blk_cell BK106.out 1).trans rfl;have hcz36_2:w35.cell? ⟨gb106,2,none⟩ = some (.int .i64 0):=(blk_cell BK106.out 2).trans rfl;have hfz36_0:=blk_frozen BK106.out 0;have hfz36_1:=blk_frozen BK106.out 1;have hfz36_2:=blk_frozen BK106.out 2;have hq36_0:∀ a b c d:Value,((((w35.setCell ⟨gb106,0,none⟩ a).setCell ⟨gb106,1,none⟩ b).setCell ⟨gb106,2,none⟩ c).setCell ⟨gb106,1,none⟩ d).cell? ⟨gb106,0,none⟩ = some a:=fun a b c d=>(blk_cell (blk_put (cs:=#[a,b,c]) (blk_put (cs:=#[a,b,.int .i64 0]) (blk_put (cs:=#[a,.int .i64 0,.int .i64 0]) (blk_put BK106.out 0 a rfl) 1 b rfl) 2 c rfl) 1 d rfl) 0).trans rfl;have hq36_1:∀ a b c d:Value,((((w35.setCell ⟨gb106,0,none⟩ a).setCell ⟨gb106,1,none⟩ b).setCell ⟨gb106,2,none⟩ c).setCell ⟨gb106,1,none⟩ d).cell? ⟨gb106,1,none⟩ = some d:=fun a b c d=>(blk_cell (blk_put (cs:=#[a,b,c]) (blk_put (cs:=#[a,b,.int .i64 0]) (blk_put (cs:=#[a,.int .i64 0,.int .i64 0]) (blk_put BK106.out 0 a rfl) 1 b rfl) 2 c rfl) 1 d rfl) 1).trans rfl;have hq36_2:∀ a b c d:Value,((((w35.setCell ⟨gb106,0,none⟩ a).setCell ⟨gb106,1,none⟩ b).setCell ⟨gb106,2,none⟩ c).setCell ⟨gb106,1,none⟩ d).cell? ⟨gb106,2,none⟩ = some c:=fun a b c d=>(blk_cell (blk_put (cs:=#[a,b,c]) (blk_put (cs:=#[a,b,.int .i64 0]) (blk_put (cs:=#[a,.int .i64 0,.int .i64 0]) (blk_put BK106.out 0 a rfl) 1 b rfl) 2 c rfl) 1 d rfl) 2).trans rfl))
   go_ret2
   exact ⟨_,by first|rfl|(simp [errW_none,errW_some] <;> rfl)|(simp [*,errW_none,errW_some] <;> rfl),by first|exact Kd.R_nil _ _ _ _ _|exact Kd.N_nil _ _ _ _ _|exact Kd.V_nil _ _ _ _ _|exact Kd.Q_nil _ _ _ _ _|exact Kd.S_nil _ _ _ _ _,by repeat (first|(with_reducible first|exact HB.out|apply below_alloc|apply pw_below_drewN|apply below_drew1|refine below_set ?_ GE106.out)|exact HB.out)⟩
 ·rw [if_neg c5] at H
  have c5b0:(t101 == 0) = false:=beq_eq_false_iff_ne.mpr c5
  have c5b1:(t101 != 0) = true:=bne_iff_ne.mpr c5
  simp only [Option.some.injEq,Prod.mk.injEq] at H
  obtain ⟨rfl,rfl⟩:=H
  go_enter Try.func9,Try.ntmps9
  go_wp2_with (first|((with_reducible refine gate_callee (f:=19) rfl ?_);refine goesL_ (some 16) rfl rfl Try.func19 (by kernel_rfl) rfl #[.slice A0 l0.length c0] rfl (by (try simp only [List.map_toArray,List.map_cons,List.map_nil]);first|done|rfl|(simp only [List.length_drop,List.length_take];rfl)) ?_;(with_reducible refine (contangoref41_Check.calls k _ _ l0 t101 _ ?side1 ?side2 A4.out).mono ?_);(case side1=>repeat (first|exact HR0.out|(with_reducible refine Kd.C_alloc ?_ _)|(with_reducible refine Kd.C_drewN ?_ _)|(with_reducible refine Kd.C_drew ?_)));(case side2=>exact HC0.out);rintro e w' ⟨rfl,⟨nd,rfl⟩⟩;refine ⟨_,rfl,?_⟩))
  go_ret2
  exact ⟨_,by first|rfl|(simp [errW_none,errW_some] <;> rfl)|(simp [*,errW_none,errW_some] <;> rfl),by first|exact Kd.R_nil _ _ _ _ _|exact Kd.N_nil _ _ _ _ _|exact Kd.V_nil _ _ _ _ _|exact Kd.Q_nil _ _ _ _ _|exact Kd.S_nil _ _ _ _ _,by repeat (first|(with_reducible first|exact HB.out|apply below_alloc|apply pw_below_drewN|apply below_drew1)|exact HB.out)⟩
end Go.Proofs.Ytgmelgkcoejknaa.X
end
section
namespace Go.Proofs.Ytgmelgkcoejknaa.P
set_option linter.unusedVariables false
set_option linter.unusedSimpArgs false
open Go.RowKit Go.Proofs.YtgmelgkcoejknaaW.PrintWords Go.Proofs.YtgmelgkcoejknaaW.PrintMore Go.Proofs.Ytgmelgkcoejknaa.X
theorem clone_f (l:List PC) (hl:l.length < 137438953472):suspend_Case_25.f l = some l:=by
 unfold suspend_Case_25.f
 rw [if_pos hl]
theorem place_f (l:List PC) (m:ByteArray) (hl:l.length ≤ 4611686018427387903):suspend_place.f l m = some ((placeAt l m:Int),placeIs l m):=by
 unfold suspend_place.f
 rw [if_pos hl]
end Go.Proofs.Ytgmelgkcoejknaa.P
end
section
namespace Go.Proofs.Ytgmelgkcoejknaa.P
set_option linter.unusedVariables false
set_option linter.unusedSimpArgs false
open Go.RowKit Go.Proofs.YtgmelgkcoejknaaW.PrintWords Go.Proofs.YtgmelgkcoejknaaW.PrintMore Go.Proofs.Ytgmelgkcoejknaa.X
def toR (c:PC):RC:=⟨c.f0,c.f1,c.f2⟩
theorem toR_toC (l:List RC):(l.map toC).map toR = l:=by
 rw [List.map_map]
 have:(toR ∘ toC) = id:=rfl
 rw [this,List.map_id]
theorem ofLoop (l:List PC) (m:ByteArray) (hl:l.length ≤ 4611686018427387904):∀ (d i:Nat),i + d = l.length → Ev (fun k=>suspend_Of.l0 k m l l.length i) (ofR m ((l.map toR).drop i))
 | 0,i,hd=>by
  refine Ev_succ ?_
  simp only [suspend_Of.l0,if_neg (show ¬ ((i:Int) < (l.length:Int)) by omega)]
  rw [List.drop_of_length_le (by rw [List.length_map];omega)]
  exact Ev.now _
 | d + 1,i,hd=>by
  have hi:i < l.length:=by omega
  have ih:=ofLoop l m hl d (i + 1) (by omega)
  have hi':i < (l.map toR).length:=by simpa using hi
  rw [drop_cons (l.map toR) i hi']
  have e:(l.map toR)[i] = toR l[i]:=by simp
  rw [e]
  refine Ev_succ ?_
  by_cases c:l[i].f0.toList = m.toList
  ·have e2:ofR m (toR l[i] :: (l.map toR).drop (i + 1)) = (l[i].f0,l[i].f1,l[i].f2,true):=by
    unfold ofR
    rw [if_pos (show (toR l[i]).f0.toList = m.toList from c)]
    rfl
   rw [e2]
   simp only [suspend_Of.l0,if_pos (show (i:Int) < (l.length:Int) by omega),if_pos (show 0 ≤ (i:Int) by omega),rdPC l i hi,if_pos c]
   exact Ev.now _
  ·have e2:ofR m (toR l[i] :: (l.map toR).drop (i + 1)) = ofR m ((l.map toR).drop (i + 1)):=by
    show (if (toR l[i]).f0.toList = m.toList then _ else _) = _
    rw [if_neg (show ¬ (toR l[i]).f0.toList = m.toList from c)]
   rw [e2]
   simp only [suspend_Of.l0,if_pos (show (i:Int) < (l.length:Int) by omega),if_pos (show 0 ≤ (i:Int) by omega),rdPC l i hi,w_succ hi (by omega),if_neg c]
   exact ih
theorem of_f (l:List PC) (m:ByteArray) (hl:l.length ≤ 4611686018427387904):Ev (fun k=>suspend_Of.f k l m) (ofR m (l.map toR)):=by
 have:=ofLoop l m hl l.length 0 (by omega)
 rw [List.drop_zero] at this
 exact this
end Go.Proofs.Ytgmelgkcoejknaa.P
end
section
namespace Go.Proofs.Ytgmelgkcoejknaa.P
set_option linter.unusedVariables false
set_option linter.unusedSimpArgs false
open Go.RowKit Go.Proofs.YtgmelgkcoejknaaW.PrintWords Go.Proofs.YtgmelgkcoejknaaW.PrintMore Go.Proofs.Ytgmelgkcoejknaa.X
def decR (l:List PC) (m:ByteArray) (t:Int):List PC × Int :=
 if caseCheck l = 0 then (if nameB m = true then (if placeIs l m = true then ([],12) else if dayB t = true then (if l.length ≥ 32 then ([],8) else (l.take (placeAt l m) ++ [⟨m,1,t⟩] ++ l.drop (placeAt l m),0)) else ([],15)) else ([],10)) else ([],caseCheck l)
theorem insert_f (l:List PC) (p:Nat) (hp:p ≤ l.length) (hl:l.length ≤ 32) (c:PC):suspend_Case_28.f l (p:Int) [c] = some (l.take p ++ [c] ++ l.drop p):=by
 unfold suspend_Case_28.f
 rw [if_pos ⟨by omega,by omega,by omega,rfl⟩,Int.toNat_natCast]
theorem declare_f (l:List PC) (m:ByteArray) (t:Int) (hl:l.length ≤ 4611686018427387903):Ev (fun k=>suspend_Declare.f k l m t) (decR l m t):=by
 unfold suspend_Declare.f decR
 refine Ev_bind (caseCheck_f l (by omega)) ?_
 by_cases hc:caseCheck l = 0
 ·obtain ⟨hlen,_⟩:=caseCheck_len hc
  simp only [if_pos hc,place_f l m hl,Option.bind_some]
  refine Ev_bind (name_f m) ?_
  by_cases hn:nameB m = true
  ·simp only [if_pos hn]
   by_cases hi:placeIs l m = true
   ·simp only [if_pos hi];exact Ev.now _
   ·simp only [if_neg hi,day_f,Option.bind_some]
    by_cases hd:dayB t = true
    ·simp only [if_pos hd]
     by_cases h32:l.length ≥ 32
     ·simp only [if_pos h32,if_pos (show (l.length:Int) ≥ 32 by omega)];exact Ev.now _
     ·simp only [if_neg h32,if_neg (show ¬ (l.length:Int) ≥ 32 by omega),clone_f l (by omega),Option.bind_some,insert_f l _ (placeAt_le l m) hlen]
      exact Ev.now _
    ·simp only [if_neg hd];exact Ev.now _
  ·simp only [if_neg hn];exact Ev.now _
 ·simp only [if_neg hc];exact Ev.now _
theorem declDone (l:List RC) (hl:l.length ≤ 32) (m n:ByteArray) (s t:Int):∀ (d i:Nat) (acc:List RC),i + d = l.length → acc.length + d ≤ 100 → Ev (fun k=>contangoref41_Declare.l0 k l m acc true i n s t) (acc ++ l.drop i,0)
 | 0,i,acc,hd,ha=>by
  refine Ev_succ ?_
  simp only [contangoref41_Declare.l0,if_neg (show ¬ ((i:Int) < (l.length:Int)) by omega),if_true]
  rw [List.drop_of_length_le (by omega),List.append_nil]
  exact Ev.now _
 | d + 1,i,acc,hd,ha=>by
  have hi:i < l.length:=by omega
  have ih:=declDone l hl m n s t d (i + 1) (acc ++ [l[i]]) (by omega) (by rw [List.length_append,List.length_singleton];omega)
  rw [List.append_assoc,List.singleton_append,← drop_cons l i hi] at ih
  refine Ev_succ ?_
  simp only [contangoref41_Declare.l0,if_pos (show (i:Int) < (l.length:Int) by omega),if_true,if_pos (show 0 ≤ (i:Int) by omega),if_pos (show acc.length < 4398046511104 by omega),rdRC l i hi,w_succ hi (by omega)]
  exact ih
theorem declNot (l:List RC) (hl:l.length ≤ 32) (m n:ByteArray) (s t:Int) (p:Nat) (hp:p ≤ l.length) (h1:∀ i (h:i < l.length),i < p → Op.bytesLess m.toList l[i].f0.toList = false) (h2:∀ (h:p < l.length),Op.bytesLess m.toList l[p].f0.toList = true) :
  ∀ (d i:Nat),i + d = p → Ev (fun k=>contangoref41_Declare.l0 k l m (l.take i) false i n s t) (l.take p ++ [⟨n,s,t⟩] ++ l.drop p,0)
 | 0,i,hd=>by
  have hip:i = p:=by omega
  subst hip
  have hlen:(l.take i).length < 4398046511104:=by rw [List.length_take];omega
  refine Ev_succ ?_
  by_cases hi:i < l.length
  ·have hlen2:(l.take i ++ [(⟨n,s,t⟩:RC)]).length < 4398046511104:=by rw [List.length_append,List.length_take,List.length_singleton];omega
   have hd':=declDone l hl m n s t (l.length - (i + 1)) (i + 1) (l.take i ++ [⟨n,s,t⟩] ++ [l[i]]) (by omega) (by simp only [List.length_append,List.length_take,List.length_singleton];omega)
   rw [show (l.take i ++ [(⟨n,s,t⟩:RC)] ++ [l[i]]) ++ l.drop (i + 1) = l.take i ++ [⟨n,s,t⟩] ++ l.drop i by rw [List.append_assoc (l.take i ++ [(⟨n,s,t⟩:RC)]) [l[i]],List.singleton_append,← drop_cons l i hi]] at hd'
   simp only [contangoref41_Declare.l0,if_pos (show (i:Int) < (l.length:Int) by omega),Bool.false_eq_true,if_false,if_pos (show 0 ≤ (i:Int) by omega),rdRC l i hi,if_pos (h2 hi),if_pos hlen,Option.bind_some,if_pos hlen2,w_succ hi (by omega)]
   exact hd'
  ·simp only [contangoref41_Declare.l0,if_neg (show ¬ ((i:Int) < (l.length:Int)) by omega),Bool.false_eq_true,if_false,if_pos hlen]
   rw [List.drop_of_length_le (by omega),List.append_nil]
   exact Ev.now _
 | d + 1,i,hd=>by
  have hi:i < l.length:=by omega
  have ih:=declNot l hl m n s t p hp h1 h2 d (i + 1) (by omega)
  rw [List.take_succ_eq_append_getElem hi] at ih
  have hlen:(l.take i).length < 4398046511104:=by rw [List.length_take];omega
  refine Ev_succ ?_
  simp only [contangoref41_Declare.l0,if_pos (show (i:Int) < (l.length:Int) by omega),Bool.false_eq_true,if_false,if_pos (show 0 ≤ (i:Int) by omega),rdRC l i hi,h1 i hi (by omega),if_pos hlen,w_succ hi (by omega)]
  exact ih
theorem declareRef_f (l:List RC) (m:ByteArray) (t:Int) (hl:l.length ≤ 4611686018427387904) (hs:∀ c ∈ l,c.f0.size ≤ 4611686018427387904) (hm:m.size ≤ 4611686018427387904) :
  ∃ r:List RC × Int,Ev (fun k=>contangoref41_Declare.f k l m t) r ∧ r.1.map toC = (decR (l.map toC) m t).1 ∧ r.2 = (decR (l.map toC) m t).2 ∧ r.1.length ≤ l.length + 1:=by
 unfold decR
 by_cases hc:caseCheck (l.map toC) = 0
 ·have hsort:=caseCheck_sorted hc
  obtain ⟨hlen,_⟩:=caseCheck_len hc
  rw [List.length_map] at hlen
  have hofR:=ofR_place l m hsort
  rw [if_pos hc]
  by_cases hn:nameB m = true
  ·rw [if_pos hn]
   have hbase:∀ r,Ev (fun k=>if (ofR m l).2.2.2 = true then some (([]:List RC),(12:Int)) else (if t < 0 then contangoref41_Declare.j0 k l m t true else contangoref41_Declare.j0 k l m t (decide (t > 73048)))) r → Ev (fun k=>contangoref41_Declare.f k l m t) r:=by
    intro r h
    unfold contangoref41_Declare.f
    refine Ev_bind (caseRCheck_f l hl hs) ?_
    simp only [if_pos hc]
    refine Ev_bind (nameR_f m hm) ?_
    simp only [if_pos hn]
    refine Ev_bind (ofR_f l m hl) ?_
    exact h
   by_cases hi:placeIs (l.map toC) m = true
   ·rw [dif_pos hi] at hofR
    refine ⟨([],12),hbase _ ?_,?_⟩
    ·simp only [hofR,if_true];exact Ev.now _
    ·rw [if_pos hi];exact ⟨rfl,rfl,by simp⟩
   ·rw [dif_neg hi] at hofR
    rw [if_neg hi]
    have hJ:∀ (b:Bool) (r:List RC × Int),Ev (fun k=>if b = true then some (([]:List RC),(15:Int)) else if (l.length:Int) = 32 then some ([],8) else contangoref41_Declare.l0 k l m [] false 0 m 1 t) r → Ev (fun k=>contangoref41_Declare.j0 k l m t b) r:=by
     intro b r h
     refine Ev_succ ?_
     simp only [contangoref41_Declare.j0]
     exact h
    have hJ2:∀ r,Ev (fun k=>if (dayB t) = false then some (([]:List RC),(15:Int)) else if (l.length:Int) = 32 then some ([],8) else contangoref41_Declare.l0 k l m [] false 0 m 1 t) r → Ev (fun k=>contangoref41_Declare.f k l m t) r:=by
     intro r h
     refine hbase r ?_
     simp only [hofR,Bool.false_eq_true,if_false]
     by_cases h0:t < 0
     ·have hd:dayB t = false:=by unfold dayB;rw [decide_eq_false (show ¬ 0 ≤ t by omega),Bool.false_and]
      simp only [if_pos h0]
      refine hJ _ _ ?_
      simp only [hd,if_true] at h ⊢
      exact h
     ·simp only [if_neg h0]
      refine hJ _ _ ?_
      by_cases h7:t > 73048
      ·have hd:dayB t = false:=by unfold dayB;rw [decide_eq_false (show ¬ t ≤ 73048 by omega),Bool.and_false]
       simp only [hd,if_true,decide_eq_true h7] at h ⊢
       exact h
      ·have hd:dayB t = true:=by unfold dayB;rw [decide_eq_true (show 0 ≤ t by omega),decide_eq_true (show t ≤ 73048 by omega)];rfl
       simp only [hd,Bool.true_eq_false,if_false] at h
       simp only [decide_eq_false h7,Bool.false_eq_true,if_false]
       exact h
    by_cases hd:dayB t = true
    ·rw [if_pos hd]
     by_cases h32:l.length = 32
     ·refine ⟨([],8),hJ2 _ ?_,?_⟩
      ·simp only [hd,Bool.true_eq_false,if_false,if_pos (show (l.length:Int) = 32 by omega)];exact Ev.now _
      ·rw [if_pos (by rw [List.length_map];omega)];exact ⟨rfl,rfl,by simp⟩
     ·obtain ⟨s1,s2⟩:=placeAt_spec (l.map toC) m hsort
      have hple:=placeAt_le (l.map toC) m
      rw [List.length_map] at hple
      have hfill:=declNot l hlen m m 1 t (placeAt (l.map toC) m) hple (fun i h hlt=>by
        have:=s1 i (by simpa using h) hlt
        rw [List.getElem_map] at this
        exact bl_asymm this) (fun h=>by
        have h':placeAt (l.map toC) m < (l.map toC).length:=by simpa using h
        have:=s2 _ h' (Nat.le_refl _)
        rw [List.getElem_map] at this
        rw [← Bool.not_eq_false]
        intro h3
        apply hi
        refine (placeIs_iff _ _).2 ⟨h',?_⟩
        rw [List.getElem_map]
        exact bl_eq this h3) (placeAt (l.map toC) m) 0 (by omega)
      refine ⟨(l.take (placeAt (l.map toC) m) ++ [⟨m,1,t⟩] ++ l.drop (placeAt (l.map toC) m),0),hJ2 _ ?_,?_⟩
      ·simp only [hd,Bool.true_eq_false,if_false,if_neg (show ¬ (l.length:Int) = 32 by omega)]
       exact hfill
      ·rw [if_neg (by rw [List.length_map];omega)]
       refine ⟨by simp [toC,List.map_take,List.map_drop],rfl,?_⟩
       simp only [List.length_append,List.length_take,List.length_drop,List.length_singleton]
       omega
    ·refine ⟨([],15),hJ2 _ ?_,?_⟩
     ·simp only [show dayB t = false by simpa using hd,if_true];exact Ev.now _
     ·rw [if_neg hd];exact ⟨rfl,rfl,by simp⟩
  ·refine ⟨([],10),?_,?_⟩
   ·unfold contangoref41_Declare.f
    refine Ev_bind (caseRCheck_f l hl hs) ?_
    simp only [if_pos hc]
    refine Ev_bind (nameR_f m hm) ?_
    simp only [if_neg hn]
    exact Ev.now _
   ·rw [if_neg hn];exact ⟨rfl,rfl,by simp⟩
 ·refine ⟨([],caseCheck (l.map toC)),?_,?_⟩
  ·unfold contangoref41_Declare.f
   refine Ev_bind (caseRCheck_f l hl hs) ?_
   simp only [if_neg hc]
   exact Ev.now _
  ·rw [if_neg hc];exact ⟨rfl,rfl,by simp⟩
def openN:List PC → List ByteArray
 | []=>[]
 | c :: t=>if c.f1 = 7 then openN t else c.f0 :: openN t
theorem openN_len:∀ l,(openN l).length ≤ l.length
 | []=>Nat.le_refl _
 | c :: t=>by
  have:=openN_len t
  unfold openN
  by_cases h:c.f1 = 7
  ·rw [if_pos h];simp;omega
  ·rw [if_neg h];simp;omega
theorem openLoop (l:List PC) (hl:l.length ≤ 4398046511103):∀ (d i:Nat) (acc:List ByteArray),i + d = l.length → acc.length ≤ i → Ev (fun k=>suspend_Open.l0 k acc l l.length i) (acc ++ openN (l.drop i))
 | 0,i,acc,hd,ha=>by
  refine Ev_succ ?_
  simp only [suspend_Open.l0,if_neg (show ¬ ((i:Int) < (l.length:Int)) by omega)]
  rw [List.drop_of_length_le (by omega)]
  simp only [openN,List.append_nil]
  exact Ev.now _
 | d + 1,i,acc,hd,ha=>by
  have hi:i < l.length:=by omega
  rw [drop_cons l i hi]
  refine Ev_succ ?_
  simp only [suspend_Open.l0,if_pos (show (i:Int) < (l.length:Int) by omega),if_pos (show 0 ≤ (i:Int) by omega),rdPC l i hi,w_succ hi (by omega),openN]
  by_cases h:l[i].f1 = 7
  ·simp only [if_pos h]
   exact openLoop l hl d (i + 1) acc (by omega) (by omega)
  ·simp only [if_neg h,if_pos (show acc.length < 8796093022208 by omega)]
   have:=openLoop l hl d (i + 1) (acc ++ [l[i].f0]) (by omega) (by rw [List.length_append,List.length_singleton];omega)
   rw [List.append_assoc,List.singleton_append] at this
   exact this
theorem open_f (l:List PC) (hl:l.length ≤ 4398046511103):Ev (fun k=>suspend_Open.f k l) (openN l):=by
 have:=openLoop l hl l.length 0 [] (by omega) (by simp)
 rw [List.drop_zero,List.nil_append] at this
 exact this
theorem openRLoop (l:List RC) (hl:l.length ≤ 4398046511103):∀ (d i:Nat) (acc:List ByteArray),i + d = l.length → acc.length ≤ i → Ev (fun k=>contangoref41_Open.l0 k l acc i) (acc ++ openN ((l.map toC).drop i))
 | 0,i,acc,hd,ha=>by
  refine Ev_succ ?_
  simp only [contangoref41_Open.l0,if_neg (show ¬ ((i:Int) < (l.length:Int)) by omega)]
  rw [List.drop_of_length_le (by rw [List.length_map];omega)]
  simp only [openN,List.append_nil]
  exact Ev.now _
 | d + 1,i,acc,hd,ha=>by
  have hi:i < l.length:=by omega
  have hi':i < (l.map toC).length:=by simpa using hi
  rw [drop_cons (l.map toC) i hi',List.getElem_map]
  have e:openN (toC l[i] :: (l.map toC).drop (i + 1)) = if l[i].f1 = 7 then openN ((l.map toC).drop (i + 1)) else l[i].f0 :: openN ((l.map toC).drop (i + 1)):=rfl
  rw [e]
  refine Ev_succ ?_
  simp only [contangoref41_Open.l0,if_pos (show (i:Int) < (l.length:Int) by omega),if_pos (show 0 ≤ (i:Int) by omega),rdRC l i hi,w_succ hi (by omega)]
  by_cases h:l[i].f1 = 7
  ·simp only [if_pos h]
   exact openRLoop l hl d (i + 1) acc (by omega) (by omega)
  ·simp only [if_neg h,if_pos (show acc.length < 8796093022208 by omega)]
   have:=openRLoop l hl d (i + 1) (acc ++ [l[i].f0]) (by omega) (by rw [List.length_append,List.length_singleton];omega)
   rw [List.append_assoc,List.singleton_append] at this
   exact this
theorem openR_f (l:List RC) (hl:l.length ≤ 4398046511103):Ev (fun k=>contangoref41_Open.f k l) (openN (l.map toC)):=by
 have:=openRLoop l hl l.length 0 [] (by omega) (by simp)
 rw [List.drop_zero,List.nil_append] at this
 exact this
theorem sameNLoop (l:List ByteArray) (hl:l.length ≤ 4611686018427387904):∀ (d i:Nat),i + d = l.length → Ev (fun k=>contangoref03_Same.l0 k l l i) true
 | 0,i,hd=>by
  refine Ev_succ ?_
  simp only [contangoref03_Same.l0,if_neg (show ¬ ((i:Int) < (l.length:Int)) by omega)]
  refine Ev_succ ?_
  simp only [contangoref03_Same.j1,Bool.false_eq_true,if_false,beq_self_eq_true]
  exact Ev.now _
 | d + 1,i,hd=>by
  have hi:i < l.length:=by omega
  refine Ev_succ ?_
  simp only [contangoref03_Same.l0,if_pos (show (i:Int) < (l.length:Int) by omega),decide_eq_true (show (i:Int) < (l.length:Int) by omega)]
  refine Ev_succ ?_
  simp only [contangoref03_Same.j1,if_true,if_pos (show 0 ≤ (i:Int) by omega),if_pos (show (i:Int) < (l.length:Int) by omega),w_succ hi (by omega)]
  exact sameNLoop l hl d (i + 1) (by omega)
theorem sameN_f (l:List ByteArray) (hl:l.length ≤ 4611686018427387904):Ev (fun k=>contangoref03_Same.f k l l) true:=sameNLoop l hl l.length 0 (by omega)
end Go.Proofs.Ytgmelgkcoejknaa.P
end
section
namespace Go.Proofs.Ytgmelgkcoejknaa.P
open Go.RowKit Go.Proofs.YtgmelgkcoejknaaW.PrintWords Go.Proofs.YtgmelgkcoejknaaW.PrintMore Go.Proofs.Ytgmelgkcoejknaa.X
set_option maxRecDepth 100000 in
theorem goes41:Ev (fun k=>contangolaw41_goes.f k) true:=Ev.of (k:=40) (contangolaw41_goes.mono) (by decide +kernel)
end Go.Proofs.Ytgmelgkcoejknaa.P
end
section
namespace Go.Proofs.Ytgmelgkcoejknaa.Pure
set_option linter.unusedVariables false
set_option linter.unusedSimpArgs false
open Go.RowKit Go.Proofs.YtgmelgkcoejknaaW.PrintWords Go.Proofs.YtgmelgkcoejknaaW.PrintMore Go.Proofs.Ytgmelgkcoejknaa.X Go.Proofs.Ytgmelgkcoejknaa.P
theorem ok_sizeC {l:List RC} (h:∀ x ∈ l,ok41 x):∀ c ∈ l,c.f0.size ≤ 4611686018427387904:=by
  intro c hc
  have:=h c hc
  simp only [ok41] at this
  omega
theorem SuspendCases:∀ (l0:List (S41)) (a1:ByteArray) (a2:Int),(l0.length ≤ maxLen ∧ l0.length * 32 ≤ 140737488351232 ∧ ∀ x ∈ l0,ok41 x) → a1.size ≤ 140737488351232 → (Lit.int .i64 a2).wf = true → ∃ k,X.contangolaw41_SuspendCases.f k l0 a1 a2 = some true:=by
  intro l m t hl hm ht
  have hlen:l.length ≤ 4398046511102:=by have:=hl.2.1;omega
  obtain ⟨r,h1,h2,h3,h4⟩:=declareRef_f l m t (by omega) (ok_sizeC hl.2.2) (by omega)
  apply Ev.rounds
  unfold contangolaw41_SuspendCases.f
  refine Ev_bind (cases_f l (by omega)) ?_
  refine Ev_bind (declare_f (l.map toC) m t (by rw [List.length_map];omega)) ?_
  refine Ev_bind h1 ?_
  refine Ev_bind (of_f (l.map toC) m (by rw [List.length_map];omega)) ?_
  refine Ev_bind (ofR_f l m (by omega)) ?_
  refine Ev_bind (caseCheck_f (l.map toC) (by rw [List.length_map];omega)) ?_
  refine Ev_bind (caseRCheck_f l (by omega) (ok_sizeC hl.2.2)) ?_
  simp only [if_true,toR_toC]
  rw [← h2,← h3]
  refine Ev_bind (sameC_f r.1 (by omega)) ?_
  simp only [if_true]
  refine Ev_bind (sameC_f [(⟨(ofR m l).1,(ofR m l).2.1,(ofR m l).2.2.1⟩:RC)] (by simp)) ?_
  simp only [if_true,beq_self_eq_true]
  refine Ev_bind (open_f (l.map toC) (by rw [List.length_map];omega)) ?_
  refine Ev_bind (openR_f l (by omega)) ?_
  refine Ev_bind (sameN_f _ (by have:=openN_len (l.map toC);rw [List.length_map] at this;omega)) ?_
  simp only [if_true]
  exact Ev_id goes41
end Go.Proofs.Ytgmelgkcoejknaa.Pure
end
