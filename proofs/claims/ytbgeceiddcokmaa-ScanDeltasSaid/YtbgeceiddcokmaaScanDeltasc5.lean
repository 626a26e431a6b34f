/- For ScanDeltas: contracts, and facts on lists and numbers, that it uses (part 5). -/
import Derived.ChangeArms
import Derived.Deep.RegionLaw
import Derived.Deep.Slices
import Derived.Laws.BitsLemmas
import Derived.Laws.CopyOwn
import Derived.Laws.CopyRow
import Derived.Laws.Strings
import Derived.Lib.AppendZerosOnto
import Derived.Lib.Bytealg
import Derived.Lib.Overlaps
import Derived.Lib.Walk
import Derived.SizedLaws
import Derived.Test.YtbgeceiddcokmaaScanDeltasc4
import Derived.WideShapes
section
namespace Go.Proofs.Ytbgeceiddcokmaa.X
open Go.RowKit Go.Proofs.YtbgeceiddcokmaaW.PrintWords
theorem run_copy_rows {P:Program} (w:World) (dT sT ty elem:TypeId) (g o dLen dCap:Nat) (a:Addr) (sLen sCap sz:Nat) (cur:Array Value) (t:TypeId) (cs:List Value)
    (hu:P.underlying dT = some (.slice elem)) (hs:(P.info? elem).map (·.size) = some sz)
    (hg:w.heap[g]? = some (.cells cur t (0,0))) (hn:cs.length = Nat.min sLen dLen * sz)
    (hsrc:∀ j v,cs[j]? = some v → w.cell? (a.add j) = some v) (hfit:o + cs.length ≤ cur.size) (h1:∀ v ∈ cs,v.oneCell' = true) :
    (Builtin.copy_ #[dT,sT] ty #[.slice (some ⟨g,o,none⟩) dLen dCap,.slice (some a) sLen sCap]).run P w =
      .ok (goInt (Nat.min sLen dLen)) (w.setRow g (cur.toList.take o ++ cs ++ cur.toList.drop (o + cs.length)).toArray):=by
  have hl:=run_loadCells_list (P:=P) w a cs hsrc
  have hst:=run_storeCells_at P g o t cs 0 cur w hg (by simpa using hfit) h1
  cases hq:P.info? elem with
  | none=>simp [hq] at hs
  | some i =>
    have hi:i.size = sz:=by simpa [hq] using hs
    rw [hn] at hl
    simp [Builtin.copy_,run_underlying hu,Builtin.lenOf,Builtin.firstCells,sizeOf,typeInfo,hq,hi,hl,hst]
theorem R_cap {α:Type} (d:Kd α) {e base:Nat} {w:World} {ok:Nat → Prop} {A:Option Addr} {n c:Nat} {xs:List α} (h:d.R e w base ok (.slice A n c) xs):c ≤ 9223372036854775807:=by
  obtain ⟨_,inner,⟨_,h2⟩,_⟩:=h
  rcases h2 with ⟨he,_⟩|⟨g,cap,cur,he,_,_,_,hc,_⟩
  · injection he with _ _ h3;omega
  · injection he with _ _ h3;unfold maxLen at hc;omega
theorem below_drew {B:Nat} {w0 w:World} (h:Below B w0 w):Below B w0 w.drew:=⟨h.os,h.tape,h.output,h.size,h.block⟩
theorem kept_setRow {w W:World} {S:Nat → Prop} (h:Kept w W S) {g:Nat} (hg:S g ∨ w.heap.size ≤ g) (cs:Array Value):Kept w (W.setRow g cs) S :=
  ⟨by rw [setRow_size];exact h.1,fun i hi hn=>by
    rw [setRow_other W g i cs (by
      rintro rfl
      rcases hg with hg|hg
      · exact hn hg
      · omega)]
    exact h.2 i hi hn⟩
theorem read_apart {α:Type} (d:Kd α) (hs:0 < d.sz) {w:World} {S:Nat → Prop} {ad:Addr} {x:α} (h:∀ W',Kept w W' S → d.C W' (some ad) 1 [x]) {g:Nat} {cur:Array Value} {t:TypeId} (hg:w.heap[g]? = some (.cells cur t (0,0))) (hS:S g):ad.block ≠ g:=by
  rintro rfl
  obtain ⟨_,_,h3⟩:=h (w.setRow ad.block #[]) (kept_setRow (Kept.refl _ _) (.inl hS) _)
  obtain ⟨ad',he,h4⟩:=h3 (by omega)
  obtain ⟨c,hc,_,hcell⟩:=h4 0 x rfl
  injection he with he
  subst he
  have h0:=hcell 0 (c[0]'(by omega)) (List.getElem?_eq_getElem (by omega))
  have e:((ad.add (0 * d.sz + 0)):Addr).block = ad.block:=by unfold Addr.add;split <;> rfl
  unfold World.cell? at h0
  rw [e,setRow_heap w ad.block cur #[] t _ hg] at h0
  simp at h0
theorem run_overlaps_row {P:Program} (w:World) (tS tR e:TypeId) (ht:P.underlying tS = some (.slice e)) (size:Nat) (hz:∀ w,(Go.sizeOf e).run P w = .ok size w)
    (a:Addr) (g o la ca lb cb:Nat) (cur:Array Value) (t:TypeId) (v:Value) (hne:a.block ≠ g) (ha:w.cell? a = some v) (hg:w.heap[g]? = some (.cells cur t (0,0))) (hc:0 < cur.size) :
    (Extern.SlicesOverlaps.overlaps #[tS,tS] #[tR] #[.slice (some a) la ca,.slice (some ⟨g,o,none⟩) lb cb]).run P w = .ok (.bool false) w:=by
  have hnb:(a.block != g) = true:=by simpa using hne
  have hnb':(a.block == g) = false:=by simpa using hne
  have hsb:w.shape? g = some (t,cur.size):=by simp [World.shape?,hg]
  have hfb:∀ k,w.frozen? ⟨g,k,none⟩ = false:=fun k=>by simp [World.frozen?,hg]
  obtain ⟨tA,kA,hsa⟩:∃ tA kA,w.shape? a.block = some (tA,kA + 1):=by
    unfold World.cell? at ha
    split at ha
    · rename_i c el fr hh
      split at ha
      · cases ha
      · have hlt:a.off < c.size:=(Array.getElem?_eq_some_iff.1 ha).1
        exact ⟨el,c.size - 1,by simp [World.shape?,hh];omega⟩
    · cases ha
  obtain ⟨kB,hkB⟩:∃ kB,cur.size = kB + 1:=⟨cur.size - 1,by omega⟩
  rw [hkB] at hsb
  have hb:∀ {β γ:Type} (x:Sem β) (f:β → Sem γ),Sem.bind x f = x >>= f:=fun _ _=>rfl
  conv=>lhs;arg 2;whnf
  by_cases h0:la = 0 ∨ lb = 0 ∨ size = 0
  · simp [Sem.run,hb,ht,hz,h0]
  · simp [Sem.run,hb,ht,hz,h0,hnb,hnb',frozen,noView,viewAt,mayBeOne,stringish,shape,hsa,hsb,hfb]
section
variable {α:Type} (d:Kd α) (hE:d.E = [])
include hE
theorem M_any {w w1:World} {base:Nat} {ok ok':Nat → Prop} {x:α} {cs:List Value} (h:d.M w base ok x cs):d.M w1 base ok' x cs:=by
  have h1:d.M w base (fun _=>False) x cs:=d.M_mono (fun k hk=>by
    obtain ⟨_,_,_,q,hq,_⟩:=hk
    rw [hE] at hq
    simp at hq) (d.M_bound h)
  exact d.M_mono (fun k hk=>hk.elim) (d.M_move (fun k hk=>hk.elim) h1)
theorem R_row {e base:Nat} {W w0:World} {ok ok0:Nat → Prop} (g cap:Nat) (cur:Array Value) (ys:List α) (inner:List Value) (hg:W.heap[g]? = some (.cells cur e (0,0))) (hb:base ≤ g) (ho:ok g)
    (hn:ys.length ≤ cap) (hc:cap ≤ maxLen) (hs:cur.size = cap * d.sz) (ht:cur.toList.take (ys.length * d.sz) = inner) (hr:Reps (d.M w0 base ok0) d.sz ys inner):d.R e W base ok (.slice (some ⟨g,0,none⟩) ys.length cap) ys :=
  ⟨fun k hk=>by
    have:g = k:=by simpa [Value.ownBlock] using hk
    exact this ▸ ho,inner,⟨hr.1,.inr ⟨g,cap,cur,rfl,hb,hg,hn,hc,hs,ht⟩⟩,hr.imp_ (fun _ _ hp=>M_any d hE hp)⟩
end
theorem R_row_open {α:Type} (d:Kd α) {e base:Nat} {w:World} {ok:Nat → Prop} {v:Value} {xs:List α} (h:d.R e w base ok v xs) (hn:0 < xs.length) :
    ∃ g cap cur,v = .slice (some ⟨g,0,none⟩) xs.length cap ∧ base ≤ g ∧ ok g ∧ w.heap[g]? = some (.cells cur e (0,0)) ∧ xs.length ≤ cap ∧ cap ≤ maxLen ∧ cur.size = cap * d.sz ∧ Reps (d.M w base (fun _=>True)) d.sz xs (cur.toList.take (xs.length * d.sz)):=by
  obtain ⟨h0,inner,⟨h1,h2⟩,hr⟩:=h
  rcases h2 with ⟨_,he⟩|⟨g,cap,cur,rfl,hb,hg,hnc,hc,hs,ht⟩
  · omega
  · exact ⟨g,cap,cur,rfl,hb,h0 g (by simp [Value.ownBlock]),hg,hnc,hc,hs,by rw [ht];exact hr.imp_ (fun _ _ hp=>d.M_mono (fun _ _=>trivial) hp)⟩
theorem C_one {α:Type} (d:Kd α) {w:World} {A:Option Addr} {x:α} (h:d.C w A 1 [x]):∃ ad vcs,A = some ad ∧ vcs.length = d.sz ∧ d.K w x vcs ∧ ∀ i u,vcs[i]? = some u → w.cell? (ad.add i) = some u:=by
  obtain ⟨_,_,h3⟩:=h
  obtain ⟨ad,rfl,h4⟩:=h3 (by omega)
  obtain ⟨c,hc,hR,hcell⟩:=h4 0 x rfl
  exact ⟨ad,c,rfl,hc,hR,fun i u hi=>by have:=hcell i u hi;rwa [Nat.zero_mul,Nat.zero_add] at this⟩
theorem reps_single {α:Type} {R:α → List Value → Prop} {size:Nat} {x:α} {c:List Value} (h:R x c) (hc:c.length = size):Reps R size [x] c:=by
  have:=(Reps.none R size).snoc h hc
  simpa using this
theorem reps_ins {α:Type} {R:α → List Value → Prop} {size i:Nat} {xs:List α} {x:α} {inner vcs:List Value} (h:Reps R size xs inner) (hi:i ≤ xs.length) (hx:R x vcs) (hc:vcs.length = size) :
    Reps R size (xs.take i ++ [x] ++ xs.drop i) (inner.take (i * size) ++ vcs ++ inner.drop (i * size)) :=
  Kd.reps_append (Kd.reps_append (Kd.reps_take h hi) (reps_single hx hc)) (Kd.reps_drop h)
theorem ins_cells (cur inner vcs:List Value) (n i sz cap:Nat) (hi:i < n) (hn:n + 1 ≤ cap) (hl:cur.length = cap * sz) (hin:cur.take (n * sz) = inner) (hv:vcs.length = sz) :
    let cs:=inner.drop (i * sz)
    let c1:=cur.take ((i + 1) * sz) ++ cs ++ cur.drop ((i + 1) * sz + cs.length)
    let c2:=c1.take (i * sz) ++ vcs ++ c1.drop (i * sz + vcs.length)
    cs.length = (n - i) * sz ∧ (i + 1) * sz + cs.length = (n + 1) * sz ∧ (n + 1) * sz ≤ cur.length ∧ c1.length = cur.length ∧ c2.length = cur.length ∧ c2.take ((n + 1) * sz) = inner.take (i * sz) ++ vcs ++ cs:=by
  intro cs c1 c2
  have hm:∀ {a b:Nat},a ≤ b → a * sz ≤ b * sz:=fun h=>Nat.mul_le_mul_right _ h
  have e1:(i + 1) * sz = i * sz + sz:=by rw [Nat.add_mul,Nat.one_mul]
  have e2:(n + 1) * sz = n * sz + sz:=by rw [Nat.add_mul,Nat.one_mul]
  have e3:(n - i) * sz = n * sz - i * sz:=Nat.mul_sub_right_distrib n i sz
  have h1:=hm (show i ≤ n by omega)
  have h2:=hm hn
  have hil:inner.length = n * sz:=by rw [← hin,List.length_take,hl];omega
  have hcs:cs.length = (n - i) * sz:=by show (inner.drop (i * sz)).length = _;rw [List.length_drop,hil,e3]
  have a1:(i + 1) * sz + cs.length = (n + 1) * sz:=by rw [hcs,e1,e2,e3];omega
  have a2:(n + 1) * sz ≤ cur.length:=by rw [hl];exact h2
  have b1:(i + 1) * sz ≤ cur.length:=by omega
  have l1:c1.length = cur.length:=by
    show (cur.take ((i + 1) * sz) ++ inner.drop (i * sz) ++ cur.drop ((i + 1) * sz + (inner.drop (i * sz)).length)).length = _
    simp only [List.length_append,List.length_take,List.length_drop,hil]
    omega
  have b2:i * sz ≤ cur.length:=by omega
  have t1:c1.take (i * sz) = inner.take (i * sz):=by
    show (cur.take ((i + 1) * sz) ++ cs ++ cur.drop ((i + 1) * sz + cs.length)).take (i * sz) = _
    rw [List.append_assoc,List.take_append_of_le_length (by rw [List.length_take];omega),List.take_take,← hin,List.take_take]
    congr 1
    omega
  have t2:c1.drop (i * sz + vcs.length) = cs ++ cur.drop ((i + 1) * sz + cs.length):=by
    show (cur.take ((i + 1) * sz) ++ cs ++ cur.drop ((i + 1) * sz + cs.length)).drop (i * sz + vcs.length) = _
    rw [hv,← e1,List.append_assoc,List.drop_append_of_le_length (by rw [List.length_take];omega),List.drop_of_length_le (by rw [List.length_take];omega),List.nil_append]
  have c2e:c2 = inner.take (i * sz) ++ vcs ++ (cs ++ cur.drop ((i + 1) * sz + cs.length)):=by
    show c1.take (i * sz) ++ vcs ++ c1.drop (i * sz + vcs.length) = _
    rw [t1,t2]
  refine ⟨hcs,a1,a2,l1,?_,?_⟩
  · rw [c2e]
    simp only [List.length_append,List.length_take,List.length_drop,hil,hv]
    omega
  · rw [c2e,← List.append_assoc,List.take_append_of_le_length (by simp only [List.length_append,List.length_take,hil,hv];omega),List.take_of_length_le (by simp only [List.length_append,List.length_take,hil,hv];omega)]
theorem ins_new (inner vcs Z:List Value) (n i sz cap:Nat) (hi:i < n) (hn:n + 1 ≤ cap) (hil:inner.length = n * sz) (hl:(inner.take (i * sz) ++ Z).length = cap * sz) (hv:vcs.length = sz) :
    let c0:=inner.take (i * sz) ++ Z
    let c1:=c0.take (i * sz) ++ vcs ++ c0.drop (i * sz + vcs.length)
    let cs:=inner.drop (i * sz)
    let c2:=c1.take ((i + 1) * sz) ++ cs ++ c1.drop ((i + 1) * sz + cs.length)
    cs.length = (n - i) * sz ∧ i * sz + vcs.length ≤ c0.length ∧ (i + 1) * sz + cs.length = (n + 1) * sz ∧ (n + 1) * sz ≤ c1.length ∧ c1.length = c0.length ∧ c2.length = c0.length ∧ c2.take ((n + 1) * sz) = inner.take (i * sz) ++ vcs ++ cs:=by
  intro c0 c1 cs c2
  have hm:∀ {a b:Nat},a ≤ b → a * sz ≤ b * sz:=fun h=>Nat.mul_le_mul_right _ h
  have e1:(i + 1) * sz = i * sz + sz:=by rw [Nat.add_mul,Nat.one_mul]
  have e2:(n + 1) * sz = n * sz + sz:=by rw [Nat.add_mul,Nat.one_mul]
  have e3:(n - i) * sz = n * sz - i * sz:=Nat.mul_sub_right_distrib n i sz
  have h1:=hm (show i ≤ n by omega)
  have h3:=hm (show i + 1 ≤ n by omega)
  have h2:=hm hn
  have hcs:cs.length = (n - i) * sz:=by show (inner.drop (i * sz)).length = _;rw [List.length_drop,hil,e3]
  have a1:(i + 1) * sz + cs.length = (n + 1) * sz:=by rw [hcs,e1,e2,e3];omega
  have l0:c0.length = cap * sz:=hl
  have a0:i * sz + vcs.length ≤ c0.length:=by omega
  have ht:(inner.take (i * sz)).length = i * sz:=by rw [List.length_take];omega
  have t0:c0.take (i * sz) = inner.take (i * sz):=by
    show (inner.take (i * sz) ++ Z).take (i * sz) = _
    rw [List.take_append_of_le_length (by omega),List.take_of_length_le (by omega)]
  have l1:c1.length = c0.length:=by
    show (c0.take (i * sz) ++ vcs ++ c0.drop (i * sz + vcs.length)).length = _
    rw [List.length_append,List.length_append,List.length_take,List.length_drop];omega
  have t1:c1.take ((i + 1) * sz) = inner.take (i * sz) ++ vcs:=by
    show (c0.take (i * sz) ++ vcs ++ c0.drop (i * sz + vcs.length)).take ((i + 1) * sz) = _
    rw [t0,List.take_append_of_le_length (by rw [List.length_append];omega),List.take_of_length_le (by rw [List.length_append];omega)]
  refine ⟨hcs,a0,a1,by omega,l1,?_,?_⟩
  · show (c1.take ((i + 1) * sz) ++ inner.drop (i * sz) ++ c1.drop ((i + 1) * sz + (inner.drop (i * sz)).length)).length = _
    simp only [List.length_append,List.length_take,List.length_drop,hil]
    omega
  · show (c1.take ((i + 1) * sz) ++ cs ++ c1.drop ((i + 1) * sz + cs.length)).take ((n + 1) * sz) = _
    rw [t1,List.take_append_of_le_length (by rw [List.length_append,List.length_append];omega),List.take_of_length_le (by rw [List.length_append,List.length_append];omega)]
section
variable {P:Program}
theorem sizeOf_of {e:TypeId} {sz:Nat} (hs:(P.info? e).map (·.size) = some sz) (w:World):(Go.sizeOf e).run P w = .ok sz w:=by
  cases hq:P.info? e with
  | none=>simp [hq] at hs
  | some i =>
    have hi:i.size = sz:=by simpa [hq] using hs
    simp [Go.sizeOf,typeInfo,hq,hi]
theorem add_block (a:Addr) (j:Nat):(a.add j).block = a.block:=by unfold Addr.add;split <;> rfl
theorem ins_room (t e:TypeId) (sz:Nat) (hu:P.underlying t = some (.slice e)) (hs:(P.info? e).map (·.size) = some sz) (_hs0:0 < sz)
    (g cap n i:Nat) (cur:Array Value) (inner:List Value) (ad:Addr) (c2:Nat) (vcs:List Value) (w:World) (hi:i < n) (hroom:n + 1 ≤ cap)
    (hg:w.heap[g]? = some (.cells cur e (0,0))) (hsz:cur.size = cap * sz) (hin:cur.toList.take (n * sz) = inner) (hione:∀ u ∈ inner,u.oneCell' = true)
    (hvl:vcs.length = sz) (hvone:∀ u ∈ vcs,u.oneCell' = true) (hvc:∀ i u,vcs[i]? = some u → w.cell? (ad.add i) = some u) (hne:ad.block ≠ g) :
    ∃ d1 d2:List Value,
      (∀ ty,(Builtin.copy_ #[t,t] ty #[.slice (some ⟨g,(i + 1) * sz,none⟩) (n - i) (cap - (i + 1)),.slice (some ⟨g,i * sz,none⟩) (n + 1 - i) (cap - i)]).run P w.drew = .ok (goInt (n - i:Nat)) (w.drew.setRow g d1.toArray)) ∧
      (∀ ty,(Builtin.copy_ #[t,t] ty #[.slice (some ⟨g,i * sz,none⟩) (n + 1 - i) (cap - i),.slice (some ad) 1 c2]).run P (w.drew.setRow g d1.toArray) = .ok (goInt (1:Nat)) ((w.drew.setRow g d1.toArray).setRow g d2.toArray)) ∧
      d2.length = cur.size ∧ d2.take ((n + 1) * sz) = inner.take (i * sz) ++ vcs ++ inner.drop (i * sz):=by
  obtain ⟨k1,k2,k3,k4,k5,k6⟩:=ins_cells cur.toList inner vcs n i sz cap hi hroom (by simpa using hsz) hin hvl
  have hcl:cur.toList.length = cur.size:=by simp
  have hil:inner.length = n * sz:=by rw [← hin,List.length_take,hcl,hsz];exact Nat.min_eq_left (Nat.mul_le_mul_right _ (by omega))
  have hw:w.drew.heap[g]? = some (.cells cur e (0,0)):=hg
  have hcell:∀ j v,(inner.drop (i * sz))[j]? = some v → w.drew.cell? ⟨g,i * sz + j,none⟩ = some v:=by
    intro j v hj
    rw [List.getElem?_drop,← hin,List.getElem?_take] at hj
    split at hj
    · simpa [World.cell?,hw] using hj
    · cases hj
  refine ⟨cur.toList.take ((i + 1) * sz) ++ inner.drop (i * sz) ++ cur.toList.drop ((i + 1) * sz + (inner.drop (i * sz)).length),_,fun ty=>?_,fun ty=>?_,k5.trans hcl,k6⟩
  · have h:=run_copy_rows w.drew t t ty e g ((i + 1) * sz) (n - i) (cap - (i + 1)) ⟨g,i * sz,none⟩ (n + 1 - i) (cap - i) sz cur e (inner.drop (i * sz)) hu hs hw
      (by rw [k1,show Nat.min (n + 1 - i) (n - i) = n - i from Nat.min_eq_right (by omega)]) (fun j v hj=>by rw [Addr.add_lit];exact hcell j v hj) (by rw [k2,← hcl];exact k3) (fun v hv=>hione v (List.mem_of_mem_drop hv))
    rw [show Nat.min (n + 1 - i) (n - i) = n - i from Nat.min_eq_right (by omega)] at h
    exact h
  · have h:=run_copy_rows (w.drew.setRow g (cur.toList.take ((i + 1) * sz) ++ inner.drop (i * sz) ++ cur.toList.drop ((i + 1) * sz + (inner.drop (i * sz)).length)).toArray) t t ty e g (i * sz) (n + 1 - i) (cap - i) ad 1 c2 sz _ e vcs hu hs
      (setRow_heap w.drew g cur _ e _ hw) (by rw [hvl,show Nat.min 1 (n + 1 - i) = 1 from Nat.min_eq_left (by omega),Nat.one_mul])
      (fun j v hj=>by rw [cell_setRow_other _ g _ _ (by rw [add_block];exact hne)];exact hvc j v hj)
      (by rw [List.size_toArray,k4,hvl];have e1:(i + 1) * sz = i * sz + sz:=by rw [Nat.add_mul,Nat.one_mul]
          omega) hvone
    rw [show Nat.min 1 (n + 1 - i) = 1 from Nat.min_eq_left (by omega)] at h
    exact h
theorem ins_grow (t ti e:TypeId) (sz bytes:Nat) (z:Value) (hu:P.underlying t = some (.slice e)) (hti:P.underlying ti = some (.int .i64)) (hinfo:(P.info? e).map (fun i=>(i.zero,i.size,i.bytes)) = some (some z,sz,bytes))
    (hzs:z.cells.size = sz) (hs0:0 < sz) (hb0:0 < bytes) (g cap n i:Nat) (cur:Array Value) (inner:List Value) (ad:Addr) (c2:Nat) (vcs:List Value) (w:World) (hi:i < n) (hncap:n ≤ cap) (hroom:cap < n + 1) (hbig:(n + 1) * bytes ≤ 140737488355328)
    (hg:w.heap[g]? = some (.cells cur e (0,0))) (hsz:cur.size = cap * sz) (hin:cur.toList.take (n * sz) = inner) (hione:∀ u ∈ inner,u.oneCell' = true)
    (hvl:vcs.length = sz) (hvone:∀ u ∈ vcs,u.oneCell' = true) (hvc:∀ i u,vcs[i]? = some u → w.cell? (ad.add i) = some u) :
    ∃ (G:Nat) (W1:World) (d1 d2:List Value),n + 1 ≤ G ∧ G ≤ maxLen ∧ Below w.heap.size w W1 ∧ (∃ d0,W1.heap[w.heap.size]? = some (.cells d0 e (0,0))) ∧
      (∀ ty,(Builtin.append_ #[t,ti] ty #[.slice (some ⟨g,0,none⟩) i cap,.int .i64 ((n:Int) + 1 - i)]).run P w = .ok (.slice (some ⟨w.heap.size,0,none⟩) (n + 1) G) W1) ∧
      (∀ ty,(Builtin.copy_ #[t,t] ty #[.slice (some ⟨w.heap.size,i * sz,none⟩) (n + 1 - i) (G - i),.slice (some ad) 1 c2]).run P W1 = .ok (goInt (1:Nat)) (W1.setRow w.heap.size d1.toArray)) ∧
      (∀ ty,(Builtin.copy_ #[t,t] ty #[.slice (some ⟨w.heap.size,(i + 1) * sz,none⟩) (n - i) (G - (i + 1)),.slice (some ⟨g,i * sz,none⟩) (n - i) (cap - i)]).run P (W1.setRow w.heap.size d1.toArray).drew = .ok (goInt (n - i:Nat)) ((W1.setRow w.heap.size d1.toArray).drew.setRow w.heap.size d2.toArray)) ∧
      d2.length = G * sz ∧ d2.take ((n + 1) * sz) = inner.take (i * sz) ++ vcs ++ inner.drop (i * sz):=by
  obtain ⟨i0,hi0,hzz⟩:=Option.map_eq_some_iff.1 hinfo
  simp only [Prod.mk.injEq] at hzz
  obtain ⟨hz0,hz1,hz2⟩:=hzz
  have hs:(P.info? e).map (·.size) = some sz:=by rw [hi0];simp [hz1]
  have hcl:cur.toList.length = cur.size:=by simp
  have hil:inner.length = n * sz:=by rw [← hin,List.length_take,hcl,hsz];exact Nat.min_eq_left (Nat.mul_le_mul_right _ hncap)
  have hle:n + 1 ≤ 140737488355328:=Nat.le_trans (Nat.le_mul_of_pos_right _ hb0) hbig
  have hgl:g < w.heap.size:=(Array.getElem?_eq_some_iff.1 hg).1
  have hcell:∀ j v,inner[j]? = some v → w.cell? ⟨g,j,none⟩ = some v:=by
    intro j v hj
    rw [← hin,List.getElem?_take] at hj
    split at hj
    · simpa [World.cell?,hg] using hj
    · cases hj
  have hold:(Builtin.firstCells i0.size i (.slice (some ⟨g,0,none⟩) i cap)).run P w.drew = .ok (inner.take (i * sz)).toArray w.drew:=by
    rw [hz1]
    exact run_firstCells_some (P:=P) w.drew sz i ⟨g,0,none⟩ i cap (inner.take (i * sz)) (by rw [List.length_take,hil];exact Nat.min_eq_left (Nat.mul_le_mul_right _ (by omega))) (fun j v hj=>by
      rw [Addr.add_lit,Nat.zero_add]
      rw [List.getElem?_take] at hj
      split at hj
      · exact hcell j v hj
      · cases hj)
  have hkk:(n:Int) + 1 - (i:Int) = ((n + 1 - i:Nat):Int):=by omega
  have hik:i + (n + 1 - i) = n + 1:=by omega
  have hgr:=fun ty=>Lib.run_append_grow_zeros (P:=P) w t ti ty e i0 z .i64 .i64 hu hti hi0 hz0 (some ⟨g,0,none⟩) i cap (inner.take (i * sz)) hold (n + 1 - i) (by omega) (by omega) (by omega) (by omega) (by rw [hz2];exact Nat.le_trans (Nat.mul_le_mul_right bytes (show n + 1 - i ≤ n + 1 by omega)) (by omega)) (by rw [hz2,hik];exact growslice_fits hroom hbig)
  rw [hik] at hgr
  obtain ⟨G,hG⟩:∃ G,G = grownCap w (n + 1) cap e:=⟨_,rfl⟩
  have hGn:n + 1 ≤ G:=by rw [hG];exact grownCap_ge w _ _ _
  have hG63:G ≤ maxLen:=by rw [hG];exact grownCap_le_maxLen w (n + 1) cap e (by unfold maxLen;omega)
  rw [← hG] at hgr
  obtain ⟨Z,hZ⟩:∃ Z,Z = (Builtin.zeroCells z.cells (n + 1 - i)).toList ++ (Builtin.zeroCells z.cells (G - (n + 1))).toList:=⟨_,rfl⟩
  have hrow:(inner.take (i * sz)).toArray ++ Builtin.zeroCells z.cells (n + 1 - i) ++ Builtin.zeroCells z.cells (G - (n + 1)) = (inner.take (i * sz) ++ Z).toArray:=by
    rw [hZ];apply Array.toList_inj.1;simp
  rw [hrow] at hgr
  have hlen:(inner.take (i * sz) ++ Z).length = G * sz:=by
    rw [List.length_append,List.length_take,hil,Nat.min_eq_left (Nat.mul_le_mul_right _ (show i ≤ n by omega)),hZ,List.length_append,Array.length_toList,Array.length_toList,size_zeroCells,size_zeroCells,hzs,← Nat.add_mul,← Nat.add_mul]
    congr 1;omega
  obtain ⟨k1,k2,k3,k4,k5,k6,k7⟩:=ins_new inner vcs Z n i sz G hi hGn hil hlen hvl
  have hnew:(w.drew.alloc (.cells (inner.take (i * sz) ++ Z).toArray e)).heap[w.heap.size]? = some (.cells (inner.take (i * sz) ++ Z).toArray e (0,0)):=heap_alloc_new w.drew _
  have hbel:Below w.heap.size w (w.drew.alloc (.cells (inner.take (i * sz) ++ Z).toArray e)):=⟨rfl,rfl,rfl,by simp,fun k hk=>heap_alloc_old w.drew _ hk⟩
  have hcellW:∀ a v,w.cell? a = some v → (w.drew.alloc (.cells (inner.take (i * sz) ++ Z).toArray e)).cell? a = some v:=by
    intro a v ha
    have hlt:a.block < w.heap.size:=block_lt_of_cell ha
    unfold World.cell? at ha ⊢
    rw [hbel.block _ hlt]
    exact ha
  refine ⟨G,w.drew.alloc (.cells (inner.take (i * sz) ++ Z).toArray e),(inner.take (i * sz) ++ Z).take (i * sz) ++ vcs ++ (inner.take (i * sz) ++ Z).drop (i * sz + vcs.length),_,hGn,hG63,hbel,⟨_,hnew⟩,fun ty=>by rw [hkk];exact hgr ty,fun ty=>?_,fun ty=>?_,by rw [k6,hlen],k7⟩
  · have h:=run_copy_rows (w.drew.alloc (.cells (inner.take (i * sz) ++ Z).toArray e)) t t ty e w.heap.size (i * sz) (n + 1 - i) (G - i) ad 1 c2 sz _ e vcs hu hs hnew (by rw [hvl,show Nat.min 1 (n + 1 - i) = 1 from Nat.min_eq_left (by omega),Nat.one_mul])
      (fun j v hj=>hcellW _ v (hvc j v hj)) (by rw [List.size_toArray];exact k2) hvone
    rw [show Nat.min 1 (n + 1 - i) = 1 from Nat.min_eq_left (by omega)] at h
    exact h
  · have hne:g ≠ w.heap.size:=by omega
    have h:=run_copy_rows ((w.drew.alloc (.cells (inner.take (i * sz) ++ Z).toArray e)).setRow w.heap.size ((inner.take (i * sz) ++ Z).take (i * sz) ++ vcs ++ (inner.take (i * sz) ++ Z).drop (i * sz + vcs.length)).toArray).drew t t ty e w.heap.size ((i + 1) * sz) (n - i) (G - (i + 1)) ⟨g,i * sz,none⟩ (n - i) (cap - i) sz _ e (inner.drop (i * sz)) hu hs
      (setRow_heap _ w.heap.size _ _ e _ hnew) (by rw [k1,show Nat.min (n - i) (n - i) = n - i from Nat.min_self _])
      (fun j v hj=>by
        rw [Addr.add_lit]
        rw [List.getElem?_drop] at hj
        have:=hcellW _ v (hcell _ v hj)
        rw [← this]
        exact cell_setRow_other _ w.heap.size _ ⟨g,i * sz + j,none⟩ hne) (by rw [List.size_toArray,k3];exact k4) (fun v hv=>hione v (List.mem_of_mem_drop hv))
    rw [show Nat.min (n - i) (n - i) = n - i from Nat.min_self _] at h
    exact h
end
end Go.Proofs.Ytbgeceiddcokmaa.X
end
section
namespace Go.Proofs.Ytbgeceiddcokmaa.X
open Go.RowKit Go.Proofs.YtbgeceiddcokmaaW.PrintWords Go.Proofs.YtbgeceiddcokmaaW.PrintLast Go.Proofs.YtbgeceiddcokmaaW.PrintMore
attribute [local go_sem] max2_int min2_int max_two min_two max_three min_three max_four min_four
set_option linter.unusedVariables false
set_option linter.unusedSimpArgs false
def slices_Insert_int_int.f (l:List Int) (i:Int) (v:List Int):Option (List Int):=if 0 ≤ i ∧ i ≤ (l.length:Int) ∧ l.length < 137438953471 ∧ v.length = 1 then some (l.take i.toNat ++ v ++ l.drop i.toNat) else none
set_option maxHeartbeats 1600000 in
set_option maxRecDepth 100000 in
theorem slices_Insert_int_int.end_ (P0_:Nat → Prop) (u9000_:Value) (l0:List Int) (A2:Option Addr) (c2:Nat) (l2:List Int) (w0 w:World) (hB:Below w0.heap.size w0 w) (ho0:Kd.R (Kd.int .i64) 3 w w0.heap.size P0_ u9000_ l0) (hr2:∀ W',Kept w W' (fun k_=>P0_ k_) → Kd.C (Kd.int .i64) W' A2 l2.length l2) (hc2:l2.length ≤ c2) (hlim:l0.length < 137438953471) (hv1:l2.length = 1) :
  Calls Try.prog 68 #[u9000_,.int .i64 (l0.length:Int),.slice A2 l2.length c2] w fun e w'=>∃ v0_:Value,e = .returned (v0_) ∧ Kd.R (Kd.int .i64) 3 w' w0.heap.size (fun k_=>(P0_ k_ ∨ w.heap.size ≤ k_)) v0_ (l0 ++ l2) ∧ Below w0.heap.size w0 w' ∧ Kept w w' (fun k_=>P0_ k_):=by
 obtain ⟨A0,c0,rfl⟩:=Kd.R_slice ho0
 have HO:=Aside0.mk (Kd.R_mono ho0 (ok':=fun k_=>P0_ k_ ∨ w.heap.size ≤ k_) (fun k hk=>.inl hk))
 have hblk:∀ k,(Value.slice A0 l0.length c0).ownBlock = some k → P0_ k:=ho0.1
 have HR:=Aside0.mk hr2
 have HB:=Aside0.mk hB
 have HV:=Aside0.mk hblk
 have hle:l0.length ≤ c0:=by
  obtain ⟨A,c,he,hl,_⟩:=Kd.R_reads ho0
  injection he with _ _ h3
  omega
 have h64:=R_cap (Kd.int .i64) ho0
 clear hr2 hB ho0 hblk
 have hm:¬ ((l2.length:Int) = 0):=by omega
 go_enter Try.func68,Try.ntmps68
 go_wp2_with (first
  | ((with_reducible refine gate_builtin (b:=.append) (xs:=#[.tmp 23,.tmp 24]) rfl ?_);at_builtin;refine Kd.R_append_rows (Kd.int .i64) (w0:=w0) w0.heap.size rfl (.tmp 23) (.tmp 24) 23 3 _ _ rfl Try.underlying23 info3 rfl (by decide) (by omega) _ l0 l2 _ _ _ (fun k_=>P0_ k_ ∨ w.heap.size ≤ k_) (fun _=>False) rfl rfl ?aO ?aR (fun _ _ h=>h) (fun _ h=>h.elim) (fun _ hk=>.inr hk) ?aB ?aS ?aL ?_;(case aO=>exact HO.out);(case aR=>exact (HR.out _ (Kept.refl _ _)));(case aB=>exact HB.out);(case aS=>exact (below_size HB.out));(case aL=>have:=hlim;simp;omega);intro v2 w2 ho hb hg hat;have HO2:=Aside0.mk ho;have HB2:=Aside0.mk hb;have HG2:=Aside0.mk hg;clear ho hb hg hat))
 all_goals go_ret
 all_goals exact ⟨_,rfl,HO2.out,HB2.out,Kept.of_grown HG2.out (Kept.refl _ _) (fun k hk=>.inl (HV.out k hk))⟩
set_option maxHeartbeats 1600000 in
set_option maxRecDepth 100000 in
theorem slices_Insert_int_int.room (g cap n i:Nat) (cur:Array Value) (inner:List Value) (ad:Addr) (c2:Nat) (vcs:List Value) (w:World) (hi:i < n) (hroom:n + 1 ≤ cap) (hcap:cap ≤ 9223372036854775807)
  (hg:w.heap[g]? = some (.cells cur 3 (0,0))) (hsz:cur.size = cap * 1) (hin:cur.toList.take (n * 1) = inner) (hione:∀ u ∈ inner,u.oneCell' = true)
  (hvl:vcs.length = 1) (hvone:∀ u ∈ vcs,u.oneCell' = true) (hvc:∀ i u,vcs[i]? = some u → w.cell? (ad.add i) = some u) (hne:ad.block ≠ g) (h2:1 ≤ c2) :
  Calls Try.prog 68 #[.slice (some ⟨g,0,none⟩) n cap,.int .i64 (i:Int),.slice (some ad) 1 c2] w fun e w'=>e = .returned (.slice (some ⟨g,0,none⟩) (n + 1) cap) ∧ ∃ cs:List Value,w' = w.drew.setRow g cs.toArray ∧ cs.length = cap * 1 ∧ cs.take ((n + 1) * 1) = inner.take (i * 1) ++ vcs ++ inner.drop (i * 1):=by
 have hs:(Try.prog.info? 3).map (·.size) = some 1:=by kernel_rfl
 obtain ⟨d1,d2,hc1,hc2,K5,K6⟩:=ins_room (P:=Try.prog) 23 3 1 Try.underlying23 hs (by omega) g cap n i cur inner ad c2 vcs w hi hroom hg hsz hin hione hvl hvone hvc hne
 have hc1:=hc1 3
 have hc2:=hc2 3
 simp only [Nat.mul_one] at hc1 hc2
 have K5:=Aside0.mk (K5.trans hsz)
 have K6:=Aside0.mk K6
 obtain ⟨v0,hv0⟩:∃ v,w.cell? ad = some v:=⟨vcs[0]'(by omega),by have:=hvc 0 _ (List.getElem?_eq_getElem (by omega));rwa [show ad.add 0 = ad from by unfold Addr.add;split <;> simp_all] at this⟩
 have hov:∀ o lb cb,(callFunc 90 #[.slice (some ad) 1 c2,.slice (some ⟨g,o,none⟩) lb cb]).run Try.prog w = .ok (.value (.bool false)) w:=fun o lb cb=>by
  rw [run_callFunc_extern Try.func90 (by kernel_rfl) (by kernel_rfl) (by kernel_rfl) (e:=Extern.SlicesOverlaps.overlaps #[23,23] #[4]) (by kernel_rfl),
   run_overlaps_row w 23 4 3 Try.underlying23 1 (sizeOf_of hs) ad g o 1 c2 lb cb cur 3 v0 hne hv0 hg (by omega)]
  rfl
 clear hsz hin hione hvl hvone hvc hg hv0 hs
 have hw1:IntKind.i64.wrap ((i:Int) + 1) = (i:Int) + 1:=by rw [IntKind.wrap_i64];omega
 have hz2:¬ ((i:Int) = (n:Int)):=by omega
 have hb1:(0:Int) ≤ (i:Int) + 1:=by omega
 have hin':i ≤ n:=by omega
 have htn:((i:Int) + 1).toNat = i + 1:=by omega
 have hb2:¬ (cap = i + 1):=by omega
 have hb3:(i:Int) ≤ (n:Int) + 1:=by omega
 have hb4:¬ (cap = i):=by omega
 go_enter Try.func68,Try.ntmps68
 go_wp2_with (simp only [hov])
 go_region
 go_wp2
 go_ret
 exact ⟨rfl,d2,by rw [setRow_setRow],K5.out,K6.out⟩
set_option maxHeartbeats 1600000 in
set_option maxRecDepth 100000 in
theorem slices_Insert_int_int.grow (g cap n i:Nat) (cur:Array Value) (inner:List Value) (ad:Addr) (c2:Nat) (vcs:List Value) (w:World) (hi:i < n) (hncap:n ≤ cap) (hroom:cap < n + 1) (hlim:n < 137438953471)
  (hg:w.heap[g]? = some (.cells cur 3 (0,0))) (hsz:cur.size = cap * 1) (hin:cur.toList.take (n * 1) = inner) (hione:∀ u ∈ inner,u.oneCell' = true)
  (hvl:vcs.length = 1) (hvone:∀ u ∈ vcs,u.oneCell' = true) (hvc:∀ i u,vcs[i]? = some u → w.cell? (ad.add i) = some u) (h2:1 ≤ c2) :
  Calls Try.prog 68 #[.slice (some ⟨g,0,none⟩) n cap,.int .i64 (i:Int),.slice (some ad) 1 c2] w fun e w'=>∃ G,e = .returned (.slice (some ⟨w.heap.size,0,none⟩) (n + 1) G) ∧ n + 1 ≤ G ∧ G ≤ maxLen ∧ Below w.heap.size w w' ∧ ∃ cs:List Value,w'.heap[w.heap.size]? = some (.cells cs.toArray 3 (0,0)) ∧ cs.length = G * 1 ∧ cs.take ((n + 1) * 1) = inner.take (i * 1) ++ vcs ++ inner.drop (i * 1):=by
 obtain ⟨G,W1,d1,d2,hGn,hG63,HB,HN,ha,hc1,hc2,K5,K6⟩:=ins_grow (P:=Try.prog) 23 3 3 1 _ _ Try.underlying23 (by kernel_rfl) info3 rfl (by omega) (by omega) g cap n i cur inner ad c2 vcs w hi hncap hroom (by omega) hg hsz hin hione hvl hvone hvc
 have ha:=ha 23
 have hc1:=hc1 3
 have hc2:=hc2 3
 simp only [Nat.mul_one] at hc1 hc2
 have K5:=Aside0.mk K5
 have K6:=Aside0.mk K6
 have HB:=Aside0.mk HB
 have HN:=Aside0.mk HN
 have HG:=Aside0.mk hG63
 have hG':G ≤ 9223372036854775807:=hG63
 obtain ⟨H,hH⟩:∃ H,H = w.heap.size:=⟨_,rfl⟩
 rw [← hH] at HB HN ha hc1 hc2 ⊢
 clear hsz hin hione hvl hvone hvc hg hG63 hH
 have hw1:IntKind.i64.wrap ((i:Int) + 1) = (i:Int) + 1:=by rw [IntKind.wrap_i64];omega
 have hz2:¬ ((i:Int) = (n:Int)):=by omega
 have hb1:(0:Int) ≤ (i:Int) + 1:=by omega
 have hin':i ≤ n:=by omega
 have htn:((i:Int) + 1).toNat = i + 1:=by omega
 have hb2:¬ (G = i + 1):=by omega
 have hb3:(i:Int) ≤ (n:Int) + 1:=by omega
 have hb4:¬ (G = i):=by omega
 have hb5:¬ (cap = i):=by omega
 have hz3:(cap:Int) < (n:Int) + 1:=by omega
 go_enter Try.func68,Try.ntmps68
 go_wp2_with (at_builtin;refine Lib.wpList_append_run _ rfl _ _ _ _ rfl _ _ rfl rfl _ _ ha ?_)
 go_region
 go_wp2
 go_ret
 obtain ⟨d0,hd0⟩:=HN.out
 refine ⟨G,rfl,hGn,HG.out,?_,d2,setRow_heap _ H d1.toArray _ 3 _ (setRow_heap _ H d0 _ 3 _ hd0),K5.out,K6.out⟩
 exact below_setRow (below_drew (below_setRow HB.out (Nat.le_refl _) _)) (Nat.le_refl _) _
theorem slices_Insert_int_int.calls (P0_:Nat → Prop) (u9000_:Value) (l0:List Int) (a1:Int) (A2:Option Addr) (c2:Nat) (l2:List Int) (r:List Int) (w0 w:World) (hB:Below w0.heap.size w0 w) (ho0:Kd.R (Kd.int .i64) 3 w w0.heap.size P0_ u9000_ l0) (hr2:∀ W',Kept w W' (fun k_=>P0_ k_) → Kd.C (Kd.int .i64) W' A2 l2.length l2) (hc2:l2.length ≤ c2) (h:slices_Insert_int_int.f l0 a1 l2 = some r) :
  Calls Try.prog 68 #[u9000_,.int .i64 a1,.slice A2 l2.length c2] w fun e w'=>∃ v0_:Value,e = .returned (v0_) ∧ Kd.R (Kd.int .i64) 3 w' w0.heap.size (fun k_=>(P0_ k_ ∨ w.heap.size ≤ k_)) v0_ r ∧ Below w0.heap.size w0 w' ∧ Kept w w' (fun k_=>P0_ k_):=by
 unfold slices_Insert_int_int.f at h
 by_cases hc:0 ≤ a1 ∧ a1 ≤ (l0.length:Int) ∧ l0.length < 137438953471 ∧ l2.length = 1
 case neg=>rw [if_neg hc] at h;exact absurd h (by simp)
 case pos =>
  rw [if_pos hc] at h
  obtain rfl:=Option.some.inj h
  obtain ⟨h1,h2,h3,h4⟩:=hc
  obtain ⟨i,rfl⟩:=Int.eq_ofNat_of_zero_le h1
  by_cases he:i = l0.length
  ·subst he
   have e:l0.take (l0.length:Int).toNat ++ l2 ++ l0.drop (l0.length:Int).toNat = l0 ++ l2:=by simp
   rw [e]
   exact slices_Insert_int_int.end_ P0_ u9000_ l0 A2 c2 l2 w0 w hB ho0 hr2 hc2 h3 h4
  ·obtain ⟨x,rfl⟩:=List.length_eq_one_iff.1 h4
   obtain ⟨ad,vcs,rfl,hvl,hvK,hvc⟩:=C_one (Kd.int .i64) (hr2 w (Kept.refl _ _))
   obtain ⟨g,cap,cur,rfl,hbg,hok,hg,hnc,hcm,hsz,hrep⟩:=R_row_open (Kd.int .i64) ho0 (by omega)
   have hM:(Kd.int .i64).M w w0.heap.size (fun _=>True) x vcs:=hvK
   have hione:=Kd.reps_one hrep (by decide) (fun _ _ hp=>(Kd.int .i64).K_one ((Kd.int .i64).K_of_M hp))
   have hcm':cap ≤ 9223372036854775807:=hcm
   have hreps:=reps_ins hrep (i:=i) (by omega) hM hvl
   have hlen:(l0.take i ++ [x] ++ l0.drop i).length = l0.length + 1:=by simp;omega
   rw [show ((i:Nat):Int).toNat = i from Int.toNat_natCast i]
   by_cases hroom:l0.length + 1 ≤ cap
   ·have hne:=read_apart (Kd.int .i64) (by decide) hr2 hg hok
    refine (slices_Insert_int_int.room g cap l0.length i cur _ ad c2 vcs w (by omega) hroom hcm' hg hsz rfl hione hvl ((Kd.int .i64).K_one hvK) hvc hne hc2).mono ?_
    rintro e w' ⟨rfl,cs,rfl,hcl,hct⟩
    refine ⟨_,rfl,?_,?_,?_⟩
    ·have:=R_row (Kd.int .i64) rfl (e:=3) (base:=w0.heap.size) (W:=w.drew.setRow g cs.toArray) (ok:=fun k_=>(P0_ k_ ∨ w.heap.size ≤ k_)) g cap cs.toArray (l0.take i ++ [x] ++ l0.drop i) _ (setRow_heap w.drew g cur _ 3 _ hg) hbg (.inl hok) (by omega) hcm (by rw [List.size_toArray];exact hcl) (by rw [hlen];exact hct) hreps
     rw [hlen] at this
     exact this
    ·exact below_setRow (below_drew hB) hbg _
    ·exact kept_setRow (Kept.refl w _) (.inl hok) _
   ·refine (slices_Insert_int_int.grow g cap l0.length i cur _ ad c2 vcs w (by omega) hnc (by omega) h3 hg hsz rfl hione hvl ((Kd.int .i64).K_one hvK) hvc hc2).mono ?_
    rintro e w' ⟨G,rfl,hGn,hG,hbel,cs,hnew,hcl,hct⟩
    refine ⟨_,rfl,?_,hB.trans (hbel.mono hB.size),Kept.of_below hbel _⟩
    have:=R_row (Kd.int .i64) rfl (e:=3) (base:=w0.heap.size) (W:=w') (ok:=fun k_=>(P0_ k_ ∨ w.heap.size ≤ k_)) w.heap.size G cs.toArray (l0.take i ++ [x] ++ l0.drop i) _ hnew hB.size (.inr (Nat.le_refl _)) (by omega) hG (by rw [List.size_toArray];exact hcl) (by rw [hlen];exact hct) hreps
    rw [hlen] at this
    exact this
end Go.Proofs.Ytbgeceiddcokmaa.X
end
section
namespace Go.Proofs.Ytbgeceiddcokmaa.X
open Go.RowKit Go.Proofs.YtbgeceiddcokmaaW.PrintWords Go.Proofs.YtbgeceiddcokmaaW.PrintLast Go.Proofs.YtbgeceiddcokmaaW.PrintMore
attribute [local go_sem] max2_int min2_int max_two min_two max_three min_three max_four min_four
set_option linter.unusedVariables false
set_option linter.unusedSimpArgs false
def scan_Expiries.l0:Nat → List Int → List Int → List (S91) → List (S73) → Int → Int → Option (List Int × List Int × Int)
 | 0,_,_,_,_,_,_=>none
 | k + 1,x4,x5,x7,x21,x22,x23=>if x23 < x22 then (if 0 ≤ x23 then (if x23 < (x21.length:Int) then ((slices_BinarySearch_int_int.f k x4 ((rd_T73 x21 x23).f0.f2)).bind fun bt107=>(if bt107.2 = true then (if 0 ≤ bt107.1 then (if bt107.1 < (x5.length:Int) then (if x23 < (x7.length:Int) then (scan_Expiries.l0 k x4 (x5.set (bt107.1:Int).toNat (wrap64 ((rd x5 bt107.1) + (wrap64 ((wrap64 (((rd_T73 x21 x23).f1) - ((rd_T73 x21 x23).f2))) * ((rd_T91 x7 x23).f2)))))) x7 x21 x22 (wrap64 (x23 + 1))) else (none)) else (none)) else (none)) else ((slices_Insert_int_int.f x4 bt107.1 (([(rd_T73 x21 x23).f0.f2]:List Int))).bind fun t115=>((slices_Insert_int_int.f x5 bt107.1 (([0]:List Int))).bind fun t121=>(if 0 ≤ bt107.1 then (if bt107.1 < (t121.length:Int) then (if x23 < (x7.length:Int) then (scan_Expiries.l0 k t115 (t121.set (bt107.1:Int).toNat (wrap64 ((rd t121 bt107.1) + (wrap64 ((wrap64 (((rd_T73 x21 x23).f1) - ((rd_T73 x21 x23).f2))) * ((rd_T91 x7 x23).f2)))))) x7 x21 x22 (wrap64 (x23 + 1))) else (none)) else (none)) else (none)))))) else (none)) else (none)) else (some (x4,x5,0))
def scan_Expiries.f (k:Nat) (l0:List (S73)) (l1:List (S91)):Option (List Int × List Int × Int):=(scan_found.f k l0 l1).bind fun bt101=>(if bt101.2 = 0 then (scan_Expiries.l0 k ([]:List Int) ([]:List Int) bt101.1 l0 (l0.length:Int) 0) else (some (([]:List Int),([]:List Int),bt101.2)))
def scan_Expiries.T11:Bool × List (List Nat × List Nat):=(true,[([],[]),([],[]),([0,1],[0,1]),([2],[2]),([],[]),([4],[4]),([],[]),([6],[6]),([5,7],[5,7]),([],[]),([],[]),([9,10],[9,10]),([11],[11]),([12],[12]),([8,13],[8,13]),([3,14],[3,14]),([0,1,0,1,2,3,4,5,6,7,8,9,10,11,12,13,14,15],[0,1]),([16,15,0,1,2,3,4,5,6,7,8,9,10,11,12,13,14,15],[15,16])])
def scan_Expiries.B11:List Nat:=[0,0,3,7,0,16,0,64,240,0,0,1536,3584,7680,16368,32767,65535,131071]
theorem scan_Expiries.tab11:rtab .any (opsOf Try.f43 11) = scan_Expiries.T11:=by kernel_rfl
theorem scan_Expiries.bits11:waitsOk scan_Expiries.T11.2 scan_Expiries.B11 = true:=by kernel_rfl
set_option maxHeartbeats 8000000 in
set_option maxRecDepth 100000 in
theorem scan_Expiries.calls (k:Nat) (A0:Option Addr) (c0:Nat) (l0:List (S73)) (A1:Option Addr) (c1:Nat) (l1:List (S91)) (r1:List Int) (r2:List Int) (r3:Int) (w:World) (hr0:Kd.C k73 w A0 l0.length l0) (hc0:l0.length ≤ c0) (hr1:Kd.C k91 w A1 l1.length l1) (hc1:l1.length ≤ c1) (h:scan_Expiries.f k l0 l1 = some (r1,r2,r3)) :
  Calls Try.prog 43 #[.slice A0 l0.length c0,.slice A1 l1.length c1] w fun e w'=>∃ v0_ v1_:Value,e = .returned (.tuple #[v0_,v1_,.int .i64 r3]) ∧ Kd.R (Kd.int .i64) 3 w' w.heap.size (fun k_=>some k_ ≠ (v1_:Value).ownBlock) v0_ r1 ∧ Kd.R (Kd.int .i64) 3 w' w.heap.size (fun k_=>some k_ ≠ (v0_:Value).ownBlock) v1_ r2 ∧ Below w.heap.size w w':=by
 have hu73:=Try.underlying73
 have HR0:=Aside0.mk hr0
 have HC0:=Aside0.mk hc0
 clear hr0 hc0
 have HR1:=Aside0.mk hr1
 have HC1:=Aside0.mk hc1
 clear hr1 hc1
 have HB:=Aside0.mk (Below.refl w.heap.size w)
 have H:((scan_found.f k l0 l1).bind fun bt101=>(if bt101.2 = 0 then (scan_Expiries.l0 k ([]:List Int) ([]:List Int) bt101.1 l0 (l0.length:Int) 0) else (some (([]:List Int),([]:List Int),bt101.2)))) = some (r1,r2,r3):=h
 clear h
 replace H:=Option.bind_eq_some_iff.mp H
 obtain ⟨⟨t101,t104⟩,A30,H⟩:=H
 replace H:(if t104 = 0 then (scan_Expiries.l0 k ([]:List Int) ([]:List Int) t101 l0 (l0.length:Int) 0) else (some (([]:List Int),([]:List Int),t104))) = some (r1,r2,r3):=H
 have A3:=Aside0.mk A30
 clear A30
 by_cases c4:t104 = 0
 ·rw [if_pos c4] at H
  have c4b0:(t104 == 0) = true:=beq_iff_eq.mpr c4
  have c4b1:(t104 != 0) = false:=bne_eq_false_iff_eq.mpr c4
  clear c4
  have H':=Aside0.mk H
  clear H
  go_enter Try.func43,Try.ntmps43
  go_wp2_with (first|((with_reducible refine gate_callee (f:=57) rfl ?_);refine goesL_ (some 15) rfl rfl Try.func57 (by kernel_rfl) rfl #[.slice A0 l0.length c0,.slice A1 l1.length c1] rfl (by (try simp only [List.map_toArray,List.map_cons,List.map_nil]);first|done|rfl|(simp only [List.length_drop,List.length_take];rfl)) ?_;(with_reducible refine (scan_found.calls k _ _ l0 (fun k_=>k_ < w.heap.size) _ _ l1 t101 t104 _ ?side1 ?side2 ?side3 A3.out).mono ?_);(case side1=>repeat (first|exact HR0.out|(with_reducible refine Kd.C_alloc ?_ _)|(with_reducible refine Kd.C_drewN ?_ _)|(with_reducible refine Kd.C_drew ?_)));(case side2=>exact HC0.out);(case side3=>exact Kd.V_mk HC1.out (Kd.F_below (Kd.C_F k91_heap HR1.out) (by repeat (first|(with_reducible first|exact HB.out|apply below_alloc|apply pw_below_drewN|apply below_drew1)|exact HB.out))));rintro e w5 ⟨v102,rfl,ho0,hb⟩;refine ⟨_,rfl,?_⟩;have n0_:=Aside0.mk (Kd.N_lower (Kd.N_mono (ok':=fun k_=>True) ho0 (fun k_ hk_=>trivial)) (below_size (by repeat (first|(with_reducible first|exact HB.out|apply below_alloc|apply pw_below_drewN|apply below_drew1)|exact HB.out))));have n1_:=Aside0.mk (below_step (by repeat (first|(with_reducible first|exact HB.out|apply below_alloc|apply pw_below_drewN|apply below_drew1)|exact HB.out)) hb);clear HB;have HO103:=n0_;have HB:=n1_;clear n0_ n1_;(try clear hb);(try clear hb2);(try clear hk);(try clear hi);(try clear ho0)))
  go_loopg [4,5,23] k (fun kq v4 v5 v23 w'=>∃ (x4_1:List Int) (x5_1:List Int) (x23_1:Int),v23 = .int .i64 x23_1 ∧ Aside0 (scan_Expiries.l0 kq x4_1 x5_1 t101 l0 (l0.length:Int) x23_1 = some (r1,r2,r3)) ∧ Aside0 (kq ≤ k) ∧ Aside0 (Kd.R (Kd.int .i64) 3 w' w.heap.size (fun k_=>some k_ ≠ (v5:Value).ownBlock) v4 x4_1) ∧ Aside0 (Kd.R (Kd.int .i64) 3 w' w.heap.size (fun k_=>some k_ ≠ (v4:Value).ownBlock) v5 x5_1) ∧ Aside0 (Kd.N k91 91 w' w.heap.size (fun k_=>some k_ ≠ (v4:Value).ownBlock ∧ some k_ ≠ (v5:Value).ownBlock) v102 t101) ∧ Aside0 (Below w.heap.size w w'))
  case atStart=>exact ⟨(([]:List Int)),(([]:List Int)),(0),(by first|rfl|(simp;done)|(simp [*];done)),H',⟨Nat.le_refl _⟩,⟨by first|exact Kd.R_nil _ _ _ _ _|exact Kd.N_nil _ _ _ _ _|exact Kd.V_nil _ _ _ _ _|exact Kd.Q_nil _ _ _ _ _|exact Kd.S_nil _ _ _ _ _⟩,⟨by first|exact Kd.R_nil _ _ _ _ _|exact Kd.N_nil _ _ _ _ _|exact Kd.V_nil _ _ _ _ _|exact Kd.Q_nil _ _ _ _ _|exact Kd.S_nil _ _ _ _ _⟩,⟨by (with_reducible repeat (first|apply Kd.N_alloc|apply Kd.N_drewN|apply Kd.N_drew));exact Kd.N_mono HO103.out (fun _ hk=>⟨(by simp [Value.ownBlock]),(by simp [Value.ownBlock])⟩)⟩,⟨by repeat (first|(with_reducible first|exact HB.out|apply below_alloc|apply pw_below_drewN|apply below_drew1)|exact HB.out)⟩⟩
  case round =>
   clear H'
   try clear c1
   try clear p2
   try clear c4
   try clear c4b0
   try clear c4b1
   try clear c5
   obtain ⟨x4_1,x5_1,x23_1,rfl,HA,HK1,HO_4,HO_5,HO_7,HB⟩:=hrel
   cases gk with
   | zero=>exact absurd HA.out (by simp [scan_Expiries.l0])
   | succ k1 =>
    have H:=HA.out
    clear HA
    simp only [scan_Expiries.l0] at H
    by_cases c6:x23_1 < (l0.length:Int)
    ·rw [if_pos c6] at H
     have c6b0:decide (x23_1 < (l0.length:Int)) = true:=decide_eq_true c6
     clear c6
     by_cases c7:0 ≤ x23_1
     ·rw [if_pos c7] at H
      have c7b0:decide (0 ≤ x23_1) = true:=decide_eq_true c7
      clear c7
      by_cases c8:x23_1 < (l0.length:Int)
      ·rw [if_pos c8] at H
       have c8b0:decide (x23_1 < (l0.length:Int)) = true:=decide_eq_true c8
       clear c8
       replace H:=Option.bind_eq_some_iff.mp H
       obtain ⟨⟨t107,t108⟩,A90,H⟩:=H
       replace H:(if t108 = true then (if 0 ≤ t107 then (if t107 < (x5_1.length:Int) then (if x23_1 < (t101.length:Int) then (scan_Expiries.l0 k1 x4_1 (x5_1.set (t107:Int).toNat (wrap64 ((rd x5_1 t107) + (wrap64 ((wrap64 (((rd_T73 l0 x23_1).f1) - ((rd_T73 l0 x23_1).f2))) * ((rd_T91 t101 x23_1).f2)))))) t101 l0 (l0.length:Int) (wrap64 (x23_1 + 1))) else (none)) else (none)) else (none)) else ((slices_Insert_int_int.f x4_1 t107 (([(rd_T73 l0 x23_1).f0.f2]:List Int))).bind fun t115=>((slices_Insert_int_int.f x5_1 t107 (([0]:List Int))).bind fun t121=>(if 0 ≤ t107 then (if t107 < (t121.length:Int) then (if x23_1 < (t101.length:Int) then (scan_Expiries.l0 k1 t115 (t121.set (t107:Int).toNat (wrap64 ((rd t121 t107) + (wrap64 ((wrap64 (((rd_T73 l0 x23_1).f1) - ((rd_T73 l0 x23_1).f2))) * ((rd_T91 t101 x23_1).f2)))))) t101 l0 (l0.length:Int) (wrap64 (x23_1 + 1))) else (none)) else (none)) else (none))))) = some (r1,r2,r3):=H
       have A9:=Aside0.mk A90
       clear A90
       by_cases c10:t108 = true
       ·subst c10
        have H1:(if 0 ≤ t107 then (if t107 < (x5_1.length:Int) then (if x23_1 < (t101.length:Int) then (scan_Expiries.l0 k1 x4_1 (x5_1.set (t107:Int).toNat (wrap64 ((rd x5_1 t107) + (wrap64 ((wrap64 (((rd_T73 l0 x23_1).f1) - ((rd_T73 l0 x23_1).f2))) * ((rd_T91 t101 x23_1).f2)))))) t101 l0 (l0.length:Int) (wrap64 (x23_1 + 1))) else (none)) else (none)) else (none)) = some (r1,r2,r3):=by rw [if_pos rfl] at H;exact H
        clear H
        have H:=H1
        clear H1
        by_cases c11:0 ≤ t107
        ·rw [if_pos c11] at H
         have c11b0:decide (0 ≤ t107) = true:=decide_eq_true c11
         clear c11
         by_cases c12:t107 < (x5_1.length:Int)
         ·rw [if_pos c12] at H
          have c12b0:decide (t107 < (x5_1.length:Int)) = true:=decide_eq_true c12
          clear c12
          by_cases c13:x23_1 < (t101.length:Int)
          ·rw [if_pos c13] at H
           have c13b0:decide (x23_1 < (t101.length:Int)) = true:=decide_eq_true c13
           clear c13
           obtain ⟨y111,hy111⟩:∃ y_:List Int,y_ = (x5_1.set (t107:Int).toNat (wrap64 ((rd x5_1 t107) + (wrap64 ((wrap64 (((rd_T73 l0 x23_1).f1) - ((rd_T73 l0 x23_1).f2))) * ((rd_T91 t101 x23_1).f2)))))):=⟨_,rfl⟩
           replace H:(scan_Expiries.l0 k1 x4_1 y111 t101 l0 (l0.length:Int) (wrap64 (x23_1 + 1))) = some (r1,r2,r3):=by first|(rw [hy111];with_reducible exact H)|(have H2_:=(Option.bind_some _ _).symm.trans H;rw [hy111];with_reducible exact H2_)|(have H2_:=(Option.bind_some _ _).symm.trans H;with_reducible exact H2_)|with_reducible exact H|(rw [hy111];exact H)|exact H
           have Ny111:=Aside0.mk hy111
           clear hy111
           have H':=Aside0.mk H
           clear H
           have p105:0 ≤ (x23_1:Int):=of_decide_eq_true (by first|(with_reducible assumption)|assumption)
           have q105:x23_1 < (l0.length:Int):=of_decide_eq_true (by first|(with_reducible assumption)|assumption)
           obtain ⟨ad105,e105,hx105_0,hx105_1,hx105_2,hx105_3,hx105_4,hx105_5⟩:=at_T73 HR0.out x23_1 p105 q105
           cases e105
           replace hx105_0:=(HB.out.cell (World.block_lt_of_cell? w _ hx105_0)).trans hx105_0
           replace hx105_1:=(HB.out.cell (World.block_lt_of_cell? w _ hx105_1)).trans hx105_1
           replace hx105_2:=(HB.out.cell (World.block_lt_of_cell? w _ hx105_2)).trans hx105_2
           replace hx105_3:=(HB.out.cell (World.block_lt_of_cell? w _ hx105_3)).trans hx105_3
           replace hx105_4:=(HB.out.cell (World.block_lt_of_cell? w _ hx105_4)).trans hx105_4
           replace hx105_5:=(HB.out.cell (World.block_lt_of_cell? w _ hx105_5)).trans hx105_5
           replace p105:=eq_true p105
           replace q105:=eq_true q105
           try go_wp2_with (first|((with_reducible refine gate_dst (N:=9) rfl ?_);refine box_event ?hg (N:=9) ?hd (cs:=#[.string (⟨#[]⟩:ByteArray),.int .i64 0,.int .i64 0,.int .i64 0,.int .i64 0,.int .i64 0]) (t:=73) ?hr ?_;(case hd=>rfl);(case hg=>rfl);(case hr=>first|(go_simp;done)|(go_simp;rfl));intro gb106 hg w15 hbox hb;have n0_:=Aside0.mk (Kd.R_below (by (with_reducible repeat (first|apply Kd.R_alloc|apply Kd.R_drewN|apply Kd.R_drew));exact HO_4.out) hb);have n1_:=Aside0.mk (Kd.R_below (by (with_reducible repeat (first|apply Kd.R_alloc|apply Kd.R_drewN|apply Kd.R_drew));exact HO_5.out) hb);have n2_:=Aside0.mk (Kd.N_below (Kd.N_elderB (by (with_reducible repeat (first|apply Kd.N_alloc|apply Kd.N_drewN|apply Kd.N_drew));exact HO_7.out) gb106 (Nat.le_of_eq hg.symm)) hb);have n3_:=Aside0.mk (below_step (by repeat (first|(with_reducible first|exact HB.out|apply below_alloc|apply pw_below_drewN|apply below_drew1)|exact HB.out)) hb);have n4_:=Aside0.mk (hbox);have n5_:=Aside0.mk ((by rw [hg];exact (below_size (by repeat (first|(with_reducible first|exact HB.out|apply below_alloc|apply pw_below_drewN|apply below_drew1)|exact HB.out))):w.heap.size ≤ gb106));have n6_:=Aside0.mk ((by rw [hg];exact (below_size (by repeat (first|(with_reducible first|exact HB.out|apply below_alloc|apply pw_below_drewN|apply below_drew1)|exact HB.out))):w.heap.size ≤ gb106));clear HO_4;clear HO_5;clear HO_7;clear HB;have HO_4:=n0_;have HO_5:=n1_;have HO_7:=n2_;have HB:=n3_;have BK106:=n4_;have GW106:=n5_;have GE106:=n6_;clear n0_ n1_ n2_ n3_ n4_ n5_ n6_;clear hb hbox hg;have hcz16_0:w15.cell? ⟨gb106,0,none⟩ = some (.string (⟨#[]⟩:ByteArray)):=(blk_cell BK106.out 0).trans rfl;have hcz16_1:w15.cell? ⟨gb106,1,none⟩ = some (.int .i64 0):=(blk_cell BK106.out 1).trans rfl;have hcz16_2:w15.cell? ⟨gb106,2,none⟩ = some (.int .i64 0):=(blk_cell BK106.out 2).trans rfl;have hcz16_3:w15.cell? ⟨gb106,3,none⟩ = some (.int .i64 0):=(blk_cell BK106.out 3).trans rfl;have hcz16_4:w15.cell? ⟨gb106,4,none⟩ = some (.int .i64 0):=(blk_cell BK106.out 4).trans rfl;have hcz16_5:w15.cell? ⟨gb106,5,none⟩ = some (.int .i64 0):=(blk_cell BK106.out 5).trans rfl;have hfz16_0:=blk_frozen BK106.out 0;have hfz16_1:=blk_frozen BK106.out 1;have hfz16_2:=blk_frozen BK106.out 2;have hfz16_3:=blk_frozen BK106.out 3;have hfz16_4:=blk_frozen BK106.out 4;have hfz16_5:=blk_frozen BK106.out 5;obtain ⟨Ao17,co17,eo17⟩:=Kd.R_slice HO_4.out;subst eo17)|((with_reducible refine gate_callee (f:=67) rfl ?_);refine goesL_ (some 33) rfl rfl Try.func67 (by kernel_rfl) rfl #[.slice Ao17 x4_1.length co17,.int .i64 ((rd_T73 l0 x23_1).f0.f2)] rfl (by (try simp only [List.map_toArray,List.map_cons,List.map_nil]);first|done|rfl|(simp only [List.length_drop,List.length_take];rfl)) ?_;(with_reducible refine (slices_BinarySearch_int_int.calls k1 _ _ x4_1 ((rd_T73 l0 x23_1).f0.f2) t107 true _ ?side1 ?side2 A9.out).mono ?_);(case side1=>refine (Kd.R_reads' (e:=3) (base:=w.heap.size) (ok:=fun k_=>some k_ ≠ (u5:Value).ownBlock) (n:=x4_1.length) (c:=co17) ?_).2.2;exact (by (with_reducible repeat (first|apply Kd.R_alloc|apply Kd.R_drewN|apply Kd.R_drew));exact (Kd.R_mono (Kd.R_far (p:=⟨gb106,5,none⟩) (Kd.R_far (p:=⟨gb106,4,none⟩) (Kd.R_far (p:=⟨gb106,3,none⟩) (Kd.R_far (p:=⟨gb106,2,none⟩) (Kd.R_far (p:=⟨gb106,1,none⟩) (Kd.R_far (p:=⟨gb106,0,none⟩) (Kd.R_types HO_4.out BK106.out (by decide)) (fun _ hk=>hk.2) (.string ((rd_T73 l0 x23_1).f0.f0))) (fun _ hk=>hk.2) (.int .i64 ((rd_T73 l0 x23_1).f0.f1))) (fun _ hk=>hk.2) (.int .i64 ((rd_T73 l0 x23_1).f0.f2))) (fun _ hk=>hk.2) (.int .i64 ((rd_T73 l0 x23_1).f0.f3))) (fun _ hk=>hk.2) (.int .i64 ((rd_T73 l0 x23_1).f1))) (fun _ hk=>hk.2) (.int .i64 ((rd_T73 l0 x23_1).f2))) (fun _ h_=>h_.1))));(case side2=>exact (Kd.R_reads' HO_4.out).2.1);rintro e w' ⟨rfl,⟨nd,rfl⟩⟩;refine ⟨_,rfl,?_⟩))
           have n0_:Aside0 (Kd.R (Kd.int .i64) 3 ((((((w15.setCell ⟨gb106,0,none⟩ (.string ((rd_T73 l0 x23_1).f0.f0))).setCell ⟨gb106,1,none⟩ (.int .i64 ((rd_T73 l0 x23_1).f0.f1))).setCell ⟨gb106,2,none⟩ (.int .i64 ((rd_T73 l0 x23_1).f0.f2))).setCell ⟨gb106,3,none⟩ (.int .i64 ((rd_T73 l0 x23_1).f0.f3))).setCell ⟨gb106,4,none⟩ (.int .i64 ((rd_T73 l0 x23_1).f1))).setCell ⟨gb106,5,none⟩ (.int .i64 ((rd_T73 l0 x23_1).f2))) w.heap.size (fun k_=>some k_ ≠ (u5:Value).ownBlock) (.slice Ao17 x4_1.length co17) x4_1):=⟨by (with_reducible repeat (first|apply Kd.R_alloc|apply Kd.R_drewN|apply Kd.R_drew));exact Kd.R_mono (Kd.R_far (p:=⟨gb106,5,none⟩) (Kd.R_far (p:=⟨gb106,4,none⟩) (Kd.R_far (p:=⟨gb106,3,none⟩) (Kd.R_far (p:=⟨gb106,2,none⟩) (Kd.R_far (p:=⟨gb106,1,none⟩) (Kd.R_far (p:=⟨gb106,0,none⟩) (Kd.R_types HO_4.out BK106.out (by decide)) (fun _ hk=>hk.2) (.string ((rd_T73 l0 x23_1).f0.f0))) (fun _ hk=>hk.2) (.int .i64 ((rd_T73 l0 x23_1).f0.f1))) (fun _ hk=>hk.2) (.int .i64 ((rd_T73 l0 x23_1).f0.f2))) (fun _ hk=>hk.2) (.int .i64 ((rd_T73 l0 x23_1).f0.f3))) (fun _ hk=>hk.2) (.int .i64 ((rd_T73 l0 x23_1).f1))) (fun _ hk=>hk.2) (.int .i64 ((rd_T73 l0 x23_1).f2))) (fun _ hk=>hk.1)⟩
           have n1_:Aside0 (Kd.R (Kd.int .i64) 3 ((((((w15.setCell ⟨gb106,0,none⟩ (.string ((rd_T73 l0 x23_1).f0.f0))).setCell ⟨gb106,1,none⟩ (.int .i64 ((rd_T73 l0 x23_1).f0.f1))).setCell ⟨gb106,2,none⟩ (.int .i64 ((rd_T73 l0 x23_1).f0.f2))).setCell ⟨gb106,3,none⟩ (.int .i64 ((rd_T73 l0 x23_1).f0.f3))).setCell ⟨gb106,4,none⟩ (.int .i64 ((rd_T73 l0 x23_1).f1))).setCell ⟨gb106,5,none⟩ (.int .i64 ((rd_T73 l0 x23_1).f2))) w.heap.size (fun k_=>some k_ ≠ (.slice Ao17 x4_1.length co17:Value).ownBlock) u5 x5_1):=⟨by (with_reducible repeat (first|apply Kd.R_alloc|apply Kd.R_drewN|apply Kd.R_drew));exact Kd.R_mono (Kd.R_far (p:=⟨gb106,5,none⟩) (Kd.R_far (p:=⟨gb106,4,none⟩) (Kd.R_far (p:=⟨gb106,3,none⟩) (Kd.R_far (p:=⟨gb106,2,none⟩) (Kd.R_far (p:=⟨gb106,1,none⟩) (Kd.R_far (p:=⟨gb106,0,none⟩) (Kd.R_types HO_5.out BK106.out (by decide)) (fun _ hk=>hk.2) (.string ((rd_T73 l0 x23_1).f0.f0))) (fun _ hk=>hk.2) (.int .i64 ((rd_T73 l0 x23_1).f0.f1))) (fun _ hk=>hk.2) (.int .i64 ((rd_T73 l0 x23_1).f0.f2))) (fun _ hk=>hk.2) (.int .i64 ((rd_T73 l0 x23_1).f0.f3))) (fun _ hk=>hk.2) (.int .i64 ((rd_T73 l0 x23_1).f1))) (fun _ hk=>hk.2) (.int .i64 ((rd_T73 l0 x23_1).f2))) (fun _ hk=>hk.1)⟩
           have n2_:Aside0 (Kd.N k91 91 ((((((w15.setCell ⟨gb106,0,none⟩ (.string ((rd_T73 l0 x23_1).f0.f0))).setCell ⟨gb106,1,none⟩ (.int .i64 ((rd_T73 l0 x23_1).f0.f1))).setCell ⟨gb106,2,none⟩ (.int .i64 ((rd_T73 l0 x23_1).f0.f2))).setCell ⟨gb106,3,none⟩ (.int .i64 ((rd_T73 l0 x23_1).f0.f3))).setCell ⟨gb106,4,none⟩ (.int .i64 ((rd_T73 l0 x23_1).f1))).setCell ⟨gb106,5,none⟩ (.int .i64 ((rd_T73 l0 x23_1).f2))) w.heap.size (fun k_=>some k_ ≠ (.slice Ao17 x4_1.length co17:Value).ownBlock ∧ some k_ ≠ (u5:Value).ownBlock ∧ k_ ≠ gb106) v102 t101):=⟨by (with_reducible repeat (first|apply Kd.N_alloc|apply Kd.N_drewN|apply Kd.N_drew));exact Kd.N_mono (Kd.N_far (p:=⟨gb106,5,none⟩) (Kd.N_far (p:=⟨gb106,4,none⟩) (Kd.N_far (p:=⟨gb106,3,none⟩) (Kd.N_far (p:=⟨gb106,2,none⟩) (Kd.N_far (p:=⟨gb106,1,none⟩) (Kd.N_far (p:=⟨gb106,0,none⟩) (Kd.N_mono HO_7.out (fun k_ hk=>(⟨hk,hk.2⟩:_ ∧ k_ ≠ gb106))) (fun _ hk=>hk.2) (.string ((rd_T73 l0 x23_1).f0.f0))) (fun _ hk=>hk.2) (.int .i64 ((rd_T73 l0 x23_1).f0.f1))) (fun _ hk=>hk.2) (.int .i64 ((rd_T73 l0 x23_1).f0.f2))) (fun _ hk=>hk.2) (.int .i64 ((rd_T73 l0 x23_1).f0.f3))) (fun _ hk=>hk.2) (.int .i64 ((rd_T73 l0 x23_1).f1))) (fun _ hk=>hk.2) (.int .i64 ((rd_T73 l0 x23_1).f2))) (fun _ hk=>⟨hk.1.1.1,⟨hk.1.1.2,hk.1.2⟩⟩)⟩
           have n3_:Aside0 (((((((w15.setCell ⟨gb106,0,none⟩ (.string ((rd_T73 l0 x23_1).f0.f0))).setCell ⟨gb106,1,none⟩ (.int .i64 ((rd_T73 l0 x23_1).f0.f1))).setCell ⟨gb106,2,none⟩ (.int .i64 ((rd_T73 l0 x23_1).f0.f2))).setCell ⟨gb106,3,none⟩ (.int .i64 ((rd_T73 l0 x23_1).f0.f3))).setCell ⟨gb106,4,none⟩ (.int .i64 ((rd_T73 l0 x23_1).f1))).setCell ⟨gb106,5,none⟩ (.int .i64 ((rd_T73 l0 x23_1).f2))).heap[gb106]? = some (.cells #[.string ((rd_T73 l0 x23_1).f0.f0),.int .i64 ((rd_T73 l0 x23_1).f0.f1),.int .i64 ((rd_T73 l0 x23_1).f0.f2),.int .i64 ((rd_T73 l0 x23_1).f0.f3),.int .i64 ((rd_T73 l0 x23_1).f1),.int .i64 ((rd_T73 l0 x23_1).f2)] 73 (0,0))):=⟨by (with_reducible repeat (first|refine blk_drewN ?_ _|refine blk_drew ?_|refine blk_alloc ?_ _));refine blk_put (cs:=#[.string ((rd_T73 l0 x23_1).f0.f0),.int .i64 ((rd_T73 l0 x23_1).f0.f1),.int .i64 ((rd_T73 l0 x23_1).f0.f2),.int .i64 ((rd_T73 l0 x23_1).f0.f3),.int .i64 ((rd_T73 l0 x23_1).f1),.int .i64 0]) ?_ 5 _ rfl;(with_reducible repeat (first|refine blk_drewN ?_ _|refine blk_drew ?_|refine blk_alloc ?_ _));refine blk_put (cs:=#[.string ((rd_T73 l0 x23_1).f0.f0),.int .i64 ((rd_T73 l0 x23_1).f0.f1),.int .i64 ((rd_T73 l0 x23_1).f0.f2),.int .i64 ((rd_T73 l0 x23_1).f0.f3),.int .i64 0,.int .i64 0]) ?_ 4 _ rfl;(with_reducible repeat (first|refine blk_drewN ?_ _|refine blk_drew ?_|refine blk_alloc ?_ _));refine blk_put (cs:=#[.string ((rd_T73 l0 x23_1).f0.f0),.int .i64 ((rd_T73 l0 x23_1).f0.f1),.int .i64 ((rd_T73 l0 x23_1).f0.f2),.int .i64 0,.int .i64 0,.int .i64 0]) ?_ 3 _ rfl;(with_reducible repeat (first|refine blk_drewN ?_ _|refine blk_drew ?_|refine blk_alloc ?_ _));refine blk_put (cs:=#[.string ((rd_T73 l0 x23_1).f0.f0),.int .i64 ((rd_T73 l0 x23_1).f0.f1),.int .i64 0,.int .i64 0,.int .i64 0,.int .i64 0]) ?_ 2 _ rfl;(with_reducible repeat (first|refine blk_drewN ?_ _|refine blk_drew ?_|refine blk_alloc ?_ _));refine blk_put (cs:=#[.string ((rd_T73 l0 x23_1).f0.f0),.int .i64 0,.int .i64 0,.int .i64 0,.int .i64 0,.int .i64 0]) ?_ 1 _ rfl;(with_reducible repeat (first|refine blk_drewN ?_ _|refine blk_drew ?_|refine blk_alloc ?_ _));refine blk_put (cs:=#[.string (⟨#[]⟩:ByteArray),.int .i64 0,.int .i64 0,.int .i64 0,.int .i64 0,.int .i64 0]) ?_ 0 _ rfl;(with_reducible repeat (first|refine blk_drewN ?_ _|refine blk_drew ?_|refine blk_alloc ?_ _));exact BK106.out⟩
           have n4_:Aside0 (Below w.heap.size w ((((((w15.setCell ⟨gb106,0,none⟩ (.string ((rd_T73 l0 x23_1).f0.f0))).setCell ⟨gb106,1,none⟩ (.int .i64 ((rd_T73 l0 x23_1).f0.f1))).setCell ⟨gb106,2,none⟩ (.int .i64 ((rd_T73 l0 x23_1).f0.f2))).setCell ⟨gb106,3,none⟩ (.int .i64 ((rd_T73 l0 x23_1).f0.f3))).setCell ⟨gb106,4,none⟩ (.int .i64 ((rd_T73 l0 x23_1).f1))).setCell ⟨gb106,5,none⟩ (.int .i64 ((rd_T73 l0 x23_1).f2)))):=⟨by repeat (first|(with_reducible first|exact HB.out|apply below_alloc|apply pw_below_drewN|apply below_drew1|refine below_set ?_ GE106.out)|exact HB.out)⟩
           (try clear HO_4)
           (try clear HO_5)
           (try clear HO_7)
           (try clear BK106)
           (try clear HB)
           generalize ((((((w15.setCell ⟨gb106,0,none⟩ (.string ((rd_T73 l0 x23_1).f0.f0))).setCell ⟨gb106,1,none⟩ (.int .i64 ((rd_T73 l0 x23_1).f0.f1))).setCell ⟨gb106,2,none⟩ (.int .i64 ((rd_T73 l0 x23_1).f0.f2))).setCell ⟨gb106,3,none⟩ (.int .i64 ((rd_T73 l0 x23_1).f0.f3))).setCell ⟨gb106,4,none⟩ (.int .i64 ((rd_T73 l0 x23_1).f1))).setCell ⟨gb106,5,none⟩ (.int .i64 ((rd_T73 l0 x23_1).f2))) = w18 at n0_ n1_ n2_ n3_ n4_ ⊢
           have HO_4:=n0_
           have HO_5:=n1_
           have HO_7:=n2_
           have BK106:=n3_
           have HB:=n4_
           clear n0_ n1_ n2_ n3_ n4_
           (try (rw [drewN_self w18];generalize hq_:World.drewN w18 _ = w18;have n0_:Aside0 (Kd.R (Kd.int .i64) 3 w18 w.heap.size (fun k_=>some k_ ≠ (u5:Value).ownBlock) (.slice Ao17 x4_1.length co17) x4_1):=⟨by rw [← hq_];exact (by (with_reducible repeat (first|apply Kd.R_alloc|apply Kd.R_drewN|apply Kd.R_drew));exact HO_4.out)⟩;have n1_:Aside0 (Kd.R (Kd.int .i64) 3 w18 w.heap.size (fun k_=>some k_ ≠ (.slice Ao17 x4_1.length co17:Value).ownBlock) u5 x5_1):=⟨by rw [← hq_];exact (by (with_reducible repeat (first|apply Kd.R_alloc|apply Kd.R_drewN|apply Kd.R_drew));exact HO_5.out)⟩;have n2_:Aside0 (Kd.N k91 91 w18 w.heap.size (fun k_=>some k_ ≠ (.slice Ao17 x4_1.length co17:Value).ownBlock ∧ some k_ ≠ (u5:Value).ownBlock ∧ k_ ≠ gb106) v102 t101):=⟨by rw [← hq_];exact (by (with_reducible repeat (first|apply Kd.N_alloc|apply Kd.N_drewN|apply Kd.N_drew));exact HO_7.out)⟩;have n3_:Aside0 (w18.heap[gb106]? = some (.cells #[.string ((rd_T73 l0 x23_1).f0.f0),.int .i64 ((rd_T73 l0 x23_1).f0.f1),.int .i64 ((rd_T73 l0 x23_1).f0.f2),.int .i64 ((rd_T73 l0 x23_1).f0.f3),.int .i64 ((rd_T73 l0 x23_1).f1),.int .i64 ((rd_T73 l0 x23_1).f2)] 73 (0,0))):=⟨by rw [← hq_];exact (by (with_reducible repeat (first|refine blk_drewN ?_ _|refine blk_drew ?_|refine blk_alloc ?_ _));exact BK106.out)⟩;have n4_:Aside0 (Below w.heap.size w w18):=⟨by rw [← hq_];exact (by repeat (first|(with_reducible first|exact HB.out|apply below_alloc|apply pw_below_drewN|apply below_drew1|refine below_set ?_ GE106.out)|exact HB.out))⟩;clear HO_4 HO_5 HO_7 BK106 HB hq_;have HO_4:=n0_;have HO_5:=n1_;have HO_7:=n2_;have BK106:=n3_;have HB:=n4_;clear n0_ n1_ n2_ n3_ n4_))
           have n0_:=Aside0.mk (Kd.R_drew HO_4.out)
           have n1_:=Aside0.mk (Kd.R_drew HO_5.out)
           have n2_:=Aside0.mk (Kd.N_drew HO_7.out)
           have n3_:=Aside0.mk (blk_drew BK106.out)
           have n4_:=Aside0.mk (below_drew1 HB.out)
           clear HO_4
           clear HO_5
           clear HO_7
           clear BK106
           clear HB
           have HO_4:=n0_
           have HO_5:=n1_
           have HO_7:=n2_
           have BK106:=n3_
           have HB:=n4_
           clear n0_ n1_ n2_ n3_ n4_
           obtain ⟨Ao20,co20,eo20⟩:=Kd.R_slice HO_5.out
           (first|subst eo20|(injection eo20 with f1_ f2_ f3_;have f4_:=f1_.symm;have f5_:=f3_.symm;clear f1_ f2_ f3_;subst f4_;subst f5_))
           have p109:0 ≤ (t107:Int):=of_decide_eq_true (by first|(with_reducible assumption)|assumption)
           have q109:t107 < (x5_1.length:Int):=of_decide_eq_true (by first|(with_reducible assumption)|assumption)
           obtain ⟨ad109,e109,hx109_0⟩:=Kd.at_int (Kd.R_reads' HO_5.out).2.2 t107 p109 q109
           cases e109
           replace p109:=eq_true p109
           replace q109:=eq_true q109
           obtain ⟨Ao21,co21,eo21⟩:=Kd.N_slice HO_7.out
           (first|subst eo21|(injection eo21 with f1_ f2_ f3_;have f4_:=f1_.symm;have f5_:=f3_.symm;clear f1_ f2_ f3_;subst f4_;subst f5_))
           have p110:0 ≤ (x23_1:Int):=of_decide_eq_true (by first|(with_reducible assumption)|assumption)
           have q110:x23_1 < (t101.length:Int):=of_decide_eq_true (by first|(with_reducible assumption)|assumption)
           obtain ⟨ad110,A110_4,c110_4,e110,hx110_0,hx110_1,hx110_2,hx110_3,hx110_4,hx110_5,hl110_4,hi110_4⟩:=at_T91 (Kd.N_reads' HO_7.out).2.2 x23_1 p110 q110
           cases e110
           obtain ⟨ce110,hce110,hMe110,hcc110⟩:=Kd.N_get HO_7.out z91 x23_1 p110 (by first|exact q110|exact of_decide_eq_true (by first|(with_reducible assumption)|assumption)|(have e_:=(Kd.N_reads' HO_7.out).1;omega))
           obtain ⟨ua110_4,uc110_4,rfl,ul110_4,ge110_4⟩:=k91_openF hMe110
           have hv110_4:=hcc110 4 _ rfl
           rw [add_field _ _ 4 (by omega)] at hv110_4
           replace hv110_4:=Option.some.inj (hv110_4.symm.trans hx110_4)
           injection hv110_4 with hva_ hvn_ hvc_
           rw [hva_] at ge110_4
           rw [hvc_] at ul110_4
           have HL110_4:=Aside0.mk (show Kd.V (Kd.int .i64) 3 _ w.heap.size _ _ ((rd_T91 t101 x23_1).f1) from Kd.V_mk ul110_4 ge110_4)
           clear hva_ hvn_ hvc_ ge110_4 ul110_4
           clear hcc110 hce110
           have HR110_4:=Aside0.mk hi110_4
           have HC110_4:=Aside0.mk hl110_4
           clear hi110_4 hl110_4
           replace p110:=eq_true p110
           replace q110:=eq_true q110
           have p14:0 ≤ (t107:Int):=of_decide_eq_true (by first|(with_reducible assumption)|assumption)
           have q14:(t107:Int) < ((x5_1.length:Int):Int):=of_decide_eq_true (by first|(with_reducible assumption)|assumption)
           obtain ⟨go14,co14,eo14,gb14,gl14,cl14,HG14⟩:=Kd.R_form HO_5.out (by omega)
           (first|cases eo14|(injection eo14 with ea_ en_ ec_;(first|subst ea_|(injection ea_ with ea_;subst ea_));subst ec_;clear en_))
           have GB14:=Aside0.mk gb14
           have GG14:=Aside0.mk HG14
           clear gb14 gl14 HG14
           (first|simp only [add_plain] at hx109_0|skip)
           obtain ⟨hx14_0,hf14_0⟩:=Kd.R_celln 0 HO_5.out (t107:Int) p14 q14
           replace p14:=eq_true p14
           replace q14:=eq_true q14
           have HP22:=Kd.R_putn HO_5.out (t107:Int) (wrap64 ((rd x5_1 t107) + (wrap64 ((wrap64 (((rd_T73 l0 x23_1).f1) - ((rd_T73 l0 x23_1).f2))) * ((rd_T91 t101 x23_1).f2)))))
           rw [← Ny111.out] at HP22
           have HQ22:=Aside0.mk HP22
           clear HP22
           refine start_ (n:=18) (S:=fun w'=>w'.cell? ⟨gb106,0,none⟩ = some (.string ((rd_T73 l0 x23_1).f0.f0)) ∧ w'.cell? ⟨gb106,1,none⟩ = some (.int .i64 ((rd_T73 l0 x23_1).f0.f1)) ∧ w'.cell? ⟨gb106,2,none⟩ = some (.int .i64 ((rd_T73 l0 x23_1).f0.f2)) ∧ w'.cell? ⟨gb106,3,none⟩ = some (.int .i64 ((rd_T73 l0 x23_1).f0.f3)) ∧ w'.cell? ⟨gb106,4,none⟩ = some (.int .i64 ((rd_T73 l0 x23_1).f1)) ∧ w'.cell? ⟨gb106,5,none⟩ = some (.int .i64 ((rd_T73 l0 x23_1).f2)) ∧ w'.cell? ⟨go14,(t107).toNat,none⟩ = some (.int .i64 (rd x5_1 t107)) ∧ w'.cell? (ad110.add ((x23_1).toNat * 6)) = some (.string ((rd_T91 t101 x23_1).f0.f0)) ∧ w'.cell? ⟨(ad110.add ((x23_1).toNat * 6)).block,(ad110.add ((x23_1).toNat * 6)).off + 1,none⟩ = some (.int .i64 ((rd_T91 t101 x23_1).f0.f1)) ∧ w'.cell? ⟨(ad110.add ((x23_1).toNat * 6)).block,(ad110.add ((x23_1).toNat * 6)).off + 2,none⟩ = some (.int .i64 ((rd_T91 t101 x23_1).f0.f2)) ∧ w'.cell? ⟨(ad110.add ((x23_1).toNat * 6)).block,(ad110.add ((x23_1).toNat * 6)).off + 3,none⟩ = some (.int .i64 ((rd_T91 t101 x23_1).f0.f3)) ∧ w'.cell? ⟨(ad110.add ((x23_1).toNat * 6)).block,(ad110.add ((x23_1).toNat * 6)).off + 4,none⟩ = some (.slice A110_4 ((rd_T91 t101 x23_1).f1).length c110_4) ∧ w'.cell? ⟨(ad110.add ((x23_1).toNat * 6)).block,(ad110.add ((x23_1).toNat * 6)).off + 5,none⟩ = some (.int .i64 ((rd_T91 t101 x23_1).f2))) (ds:=[17]) #[Z,Z,Z,Z,Z,Z,Z,Z,Z,Z,Z,Z,Z,Z,Z,Z,Z,Z] (by kernel_rfl) rfl rfl ⟨(blk_cell BK106.out 0).trans rfl,(blk_cell BK106.out 1).trans rfl,(blk_cell BK106.out 2).trans rfl,(blk_cell BK106.out 3).trans rfl,(blk_cell BK106.out 4).trans rfl,(blk_cell BK106.out 5).trans rfl,hx109_0,hx110_0,hx110_1,hx110_2,hx110_3,hx110_4,hx110_5⟩ (fun hHeld=>?_);refine with_tabW scan_Expiries.tab11 scan_Expiries.bits11 (fun HT_ HW_=>?_)
           generalize w18.drew = w19 at HO_4 HO_5 HO_7 BK106 HB GG14 HL110_4 HQ22 HR110_4 hf14_0 hx109_0 hx110_0 hx110_1 hx110_2 hx110_3 hx110_4 hx110_5 hx14_0 hHeld ⊢
           refine pure_ (i:=0) (N:=some 49) (v:=?_) (a':=?_) #[Y,Z,Z,Z,Z,Z,Z,Z,Z,Z,Z,Z,Z,Z,Z,Z,Z,Z] rfl rfl (any_of HT_.out (by kernel_rfl)) (fun _ _ _ h=>h) (Or.inl ⟨by rfl,?_⟩) ?_ ?_
           rotate_left
           ·intro w'
            go_simp
            with_reducible rfl
           rotate_left
           ·simp only [Act.put,List.setIfInBounds_toArray,List.set_cons_zero,List.set_cons_succ,i64_w,i32_w]
            rfl
           refine pure_ (i:=1) (N:=some 50) (v:=?_) (a':=?_) #[Y,Y,Z,Z,Z,Z,Z,Z,Z,Z,Z,Z,Z,Z,Z,Z,Z,Z] rfl rfl (any_of HT_.out (by kernel_rfl)) (fun _ _ _ h=>h) (Or.inl ⟨by rfl,?_⟩) ?_ ?_
           rotate_left
           ·intro w'
            go_simp
            with_reducible rfl
           rotate_left
           ·simp only [Act.put,List.setIfInBounds_toArray,List.set_cons_zero,List.set_cons_succ,i64_w,i32_w]
            rfl
           refine pure_ (i:=2) (N:=some 51) (v:=?_) (a':=?_) #[Y,Y,Y,Z,Z,Z,Z,Z,Z,Z,Z,Z,Z,Z,Z,Z,Z,Z] rfl rfl (any_of HT_.out (by kernel_rfl)) (fun _ _ _ h=>h) (Or.inl ⟨by rfl,?_⟩) ?_ ?_
           rotate_left
           ·intro w'
            go_simp
            with_reducible rfl
           rotate_left
           ·simp only [Act.put,List.setIfInBounds_toArray,List.set_cons_zero,List.set_cons_succ,i64_w,i32_w]
            rfl
           refine pure_ (i:=4) (N:=some 53) (v:=?_) (a':=?_) #[Y,Y,Y,Z,Y,Z,Z,Z,Z,Z,Z,Z,Z,Z,Z,Z,Z,Z] rfl rfl (any_of HT_.out (by kernel_rfl)) (fun _ _ _ h=>h) (Or.inl ⟨by rfl,?_⟩) ?_ ?_
           rotate_left
           ·intro w'
            go_simp
            with_reducible rfl
           rotate_left
           ·simp only [Act.put,List.setIfInBounds_toArray,List.set_cons_zero,List.set_cons_succ,i64_w,i32_w]
            rfl
           refine pure_ (i:=6) (N:=some 55) (v:=?_) (a':=?_) #[Y,Y,Y,Z,Y,Z,Y,Z,Z,Z,Z,Z,Z,Z,Z,Z,Z,Z] rfl rfl (any_of HT_.out (by kernel_rfl)) (fun _ _ _ h=>h) (Or.inl ⟨by rfl,?_⟩) ?_ ?_
           rotate_left
           ·intro w'
            go_simp
            with_reducible rfl
           rotate_left
           ·simp only [Act.put,List.setIfInBounds_toArray,List.set_cons_zero,List.set_cons_succ,i64_w,i32_w]
            rfl
           refine pure_ (i:=9) (N:=some 58) (v:=?_) (a':=?_) #[Y,Y,Y,Z,Y,Z,Y,Z,Z,Y,Z,Z,Z,Z,Z,Z,Z,Z] rfl rfl (any_of HT_.out (by kernel_rfl)) (fun _ _ _ h=>h) (Or.inl ⟨by rfl,?_⟩) ?_ ?_
           rotate_left
           ·intro w'
            go_simp
            with_reducible rfl
           rotate_left
           ·simp only [Act.put,List.setIfInBounds_toArray,List.set_cons_zero,List.set_cons_succ,i64_w,i32_w]
            rfl
           refine pure_ (i:=10) (N:=some 59) (v:=?_) (a':=?_) #[Y,Y,Y,Z,Y,Z,Y,Z,Z,Y,Y,Z,Z,Z,Z,Z,Z,Z] rfl rfl (any_of HT_.out (by kernel_rfl)) (fun _ _ _ h=>h) (Or.inl ⟨by rfl,?_⟩) ?_ ?_
           rotate_left
           ·intro w'
            go_simp
            with_reducible rfl
           rotate_left
           ·simp only [Act.put,List.setIfInBounds_toArray,List.set_cons_zero,List.set_cons_succ,i64_w,i32_w]
            rfl
           refine pure_ (i:=11) (N:=some 60) (v:=?_) (a':=?_) #[Y,Y,Y,Z,Y,Z,Y,Z,Z,Y,Y,Y,Z,Z,Z,Z,Z,Z] rfl rfl (any_of HT_.out (by kernel_rfl)) (fun _ _ _ h=>h) (Or.inl ⟨by rfl,?_⟩) ?_ ?_
           rotate_left
           ·intro w'
            go_simp
            with_reducible rfl
           rotate_left
           ·simp only [Act.put,List.setIfInBounds_toArray,List.set_cons_zero,List.set_cons_succ,i64_w,i32_w]
            rfl
           refine pure_ (i:=12) (N:=some 61) (v:=?_) (a':=?_) #[Y,Y,Y,Z,Y,Z,Y,Z,Z,Y,Y,Y,Y,Z,Z,Z,Z,Z] rfl rfl (any_of HT_.out (by kernel_rfl)) (fun _ _ _ h=>h) (Or.inl ⟨by rfl,?_⟩) ?_ ?_
           rotate_left
           ·intro w'
            go_simp
            with_reducible rfl
           rotate_left
           ·simp only [Act.put,List.setIfInBounds_toArray,List.set_cons_zero,List.set_cons_succ,i64_w,i32_w]
            rfl
           refine take_ (i:=3) (N:=some 52) (v:=?_) (a':=?_) #[Y,Y,Y,Y,Y,Z,Y,Z,Z,Y,Y,Y,Y,Z,Z,Z,Z,Z] rfl rfl (take_ofW HT_.out HW_.out (by kernel_rfl)) (fun _ _ _ h=>h) (Or.inl ⟨by rfl,?_⟩) hHeld ?_ ?_
           rotate_left
           ·rintro w' ⟨s0,s1,s2,s3,s4,s5,s6,s7,s8,s9,s10,s11,s12⟩
            go_simp
            with_reducible rfl
           rotate_left
           ·simp only [Act.put,List.setIfInBounds_toArray,List.set_cons_zero,List.set_cons_succ,i64_w,i32_w]
            rfl
           refine take_ (i:=5) (N:=some 54) (v:=?_) (a':=?_) #[Y,Y,Y,Y,Y,Y,Y,Z,Z,Y,Y,Y,Y,Z,Z,Z,Z,Z] rfl rfl (take_ofW HT_.out HW_.out (by kernel_rfl)) (fun _ _ _ h=>h) (Or.inl ⟨by rfl,?_⟩) hHeld ?_ ?_
           rotate_left
           ·rintro w' ⟨s0,s1,s2,s3,s4,s5,s6,s7,s8,s9,s10,s11,s12⟩
            go_simp
            with_reducible rfl
           rotate_left
           ·simp only [Act.put,List.setIfInBounds_toArray,List.set_cons_zero,List.set_cons_succ,i64_w,i32_w]
            rfl
           refine take_ (i:=7) (N:=some 56) (v:=?_) (a':=?_) #[Y,Y,Y,Y,Y,Y,Y,Y,Z,Y,Y,Y,Y,Z,Z,Z,Z,Z] rfl rfl (take_ofW HT_.out HW_.out (by kernel_rfl)) (fun _ _ _ h=>h) (Or.inl ⟨by rfl,?_⟩) hHeld ?_ ?_
           rotate_left
           ·rintro w' ⟨s0,s1,s2,s3,s4,s5,s6,s7,s8,s9,s10,s11,s12⟩
            go_simp
            with_reducible rfl
           rotate_left
           ·simp only [Act.put,List.setIfInBounds_toArray,List.set_cons_zero,List.set_cons_succ,i64_w,i32_w]
            rfl
           refine pure_ (i:=8) (N:=some 57) (v:=?_) (a':=?_) #[Y,Y,Y,Y,Y,Y,Y,Y,Y,Y,Y,Y,Y,Z,Z,Z,Z,Z] rfl rfl (any_of HT_.out (by kernel_rfl)) (fun _ _ _ h=>h) (Or.inl ⟨by rfl,?_⟩) ?_ ?_
           rotate_left
           ·intro w'
            go_simp
            with_reducible rfl
           rotate_left
           ·simp only [Act.put,List.setIfInBounds_toArray,List.set_cons_zero,List.set_cons_succ,i64_w,i32_w]
            rfl
           refine take_ (i:=13) (N:=some 62) (v:=?_) (a':=?_) #[Y,Y,Y,Y,Y,Y,Y,Y,Y,Y,Y,Y,Y,Y,Z,Z,Z,Z] rfl rfl (take_ofW HT_.out HW_.out (by kernel_rfl)) (fun _ _ _ h=>h) (Or.inl ⟨by rfl,?_⟩) hHeld ?_ ?_
           rotate_left
           ·rintro w' ⟨s0,s1,s2,s3,s4,s5,s6,s7,s8,s9,s10,s11,s12⟩
            go_simp
            with_reducible rfl
           rotate_left
           ·simp only [Act.put,List.setIfInBounds_toArray,List.set_cons_zero,List.set_cons_succ,i64_w,i32_w]
            rfl
           refine pure_ (i:=14) (N:=some 63) (v:=?_) (a':=?_) #[Y,Y,Y,Y,Y,Y,Y,Y,Y,Y,Y,Y,Y,Y,Y,Z,Z,Z] rfl rfl (any_of HT_.out (by kernel_rfl)) (fun _ _ _ h=>h) (Or.inl ⟨by rfl,?_⟩) ?_ ?_
           rotate_left
           ·intro w'
            go_simp
            with_reducible rfl
           rotate_left
           ·simp only [Act.put,List.setIfInBounds_toArray,List.set_cons_zero,List.set_cons_succ,i64_w,i32_w]
            rfl
           refine pure_ (i:=15) (N:=some 64) (v:=?_) (a':=?_) #[Y,Y,Y,Y,Y,Y,Y,Y,Y,Y,Y,Y,Y,Y,Y,Y,Z,Z] rfl rfl (any_of HT_.out (by kernel_rfl)) (fun _ _ _ h=>h) (Or.inl ⟨by rfl,?_⟩) ?_ ?_
           rotate_left
           ·intro w'
            go_simp
            with_reducible rfl
           rotate_left
           ·simp only [Act.put,List.setIfInBounds_toArray,List.set_cons_zero,List.set_cons_succ,i64_w,i32_w]
            rfl
           refine pure_ (i:=16) (N:=some 65) (v:=?_) (a':=?_) #[Y,Y,Y,Y,Y,Y,Y,Y,Y,Y,Y,Y,Y,Y,Y,Y,Y,Z] rfl rfl (any_of HT_.out (by kernel_rfl)) (fun _ _ _ h=>h) (Or.inl ⟨by rfl,?_⟩) ?_ ?_
           rotate_left
           ·intro w'
            go_simp
            with_reducible rfl
           rotate_left
           ·simp only [Act.put,List.setIfInBounds_toArray,List.set_cons_zero,List.set_cons_succ,i64_w,i32_w]
            rfl
           refine last_ (i:=17) (N:=none) #[Y,Y,Y,Y,Y,Y,Y,Y,Y,Y,Y,Y,Y,Y,Y,Y,Y,Y] rfl rfl (one_of HT_.out (by kernel_rfl)) (by decide) (fun K hK=>?_)
           refine skip_ (w1:=?_) (by rfl) rfl ?_ ?_
           rotate_left
           ·go_simp
            rfl
           refine hK.out _ _ ?_
           clear hK K
           refine done_ (done_of HT_.out (by kernel_rfl)) ?_
           try go_wp2
           go_roundg k1
           case measure=>have:=HK1.out;omega
           case rel=>exact ⟨(x4_1),(y111),(wrap64 (x23_1 + 1)),(by first|rfl|(simp;done)|(simp [*];done)),H',⟨by have:=HK1.out;omega⟩,⟨by (with_reducible repeat (first|apply Kd.R_alloc|apply Kd.R_drewN|apply Kd.R_drew));exact Kd.R_mono (Kd.R_far (p:=⟨go14,(t107:Int).toNat,none⟩) (Kd.R_mono HO_4.out (fun k_ hk=>(⟨hk,fun e_=>hk (by rw [e_];rfl)⟩:_ ∧ k_ ≠ go14))) (fun _ hk=>hk.2) (.int .i64 (wrap64 ((rd x5_1 t107) + (wrap64 ((wrap64 (((rd_T73 l0 x23_1).f1) - ((rd_T73 l0 x23_1).f2))) * ((rd_T91 t101 x23_1).f2))))))) (fun _ hk=>hk.1)⟩,⟨by (with_reducible repeat (first|apply Kd.R_alloc|apply Kd.R_drewN|apply Kd.R_drew));exact HQ22.out⟩,⟨by (with_reducible repeat (first|apply Kd.N_alloc|apply Kd.N_drewN|apply Kd.N_drew));exact Kd.N_mono (Kd.N_far (p:=⟨go14,(t107:Int).toNat,none⟩) (Kd.N_mono HO_7.out (fun k_ hk=>(⟨hk,fun e_=>hk.2.1 (by rw [e_];rfl)⟩:_ ∧ k_ ≠ go14))) (fun _ hk=>hk.2) (.int .i64 (wrap64 ((rd x5_1 t107) + (wrap64 ((wrap64 (((rd_T73 l0 x23_1).f1) - ((rd_T73 l0 x23_1).f2))) * ((rd_T91 t101 x23_1).f2))))))) (fun _ hk=>⟨hk.1.1,hk.1.2.1⟩)⟩,⟨by repeat (first|(with_reducible first|exact HB.out|apply below_alloc|apply pw_below_drewN|apply below_drew1|refine below_set ?_ GB14.out|refine below_set ?_ GE106.out)|exact HB.out)⟩⟩
          ·rw [if_neg c13] at H
           exact absurd H (by simp)
         ·rw [if_neg c12] at H
          exact absurd H (by simp)
        ·rw [if_neg c11] at H
         exact absurd H (by simp)
       ·replace c10:=Bool.eq_false_iff.mpr c10
        subst c10
        have H1:((slices_Insert_int_int.f x4_1 t107 (([(rd_T73 l0 x23_1).f0.f2]:List Int))).bind fun t115=>((slices_Insert_int_int.f x5_1 t107 (([0]:List Int))).bind fun t121=>(if 0 ≤ t107 then (if t107 < (t121.length:Int) then (if x23_1 < (t101.length:Int) then (scan_Expiries.l0 k1 t115 (t121.set (t107:Int).toNat (wrap64 ((rd t121 t107) + (wrap64 ((wrap64 (((rd_T73 l0 x23_1).f1) - ((rd_T73 l0 x23_1).f2))) * ((rd_T91 t101 x23_1).f2)))))) t101 l0 (l0.length:Int) (wrap64 (x23_1 + 1))) else (none)) else (none)) else (none)))) = some (r1,r2,r3):=by rw [if_neg (show ¬ (false = true) by decide)] at H;exact H
        clear H
        have H:=H1
        clear H1
        obtain ⟨y112,hy112⟩:∃ y_:List Int,y_ = (([(rd_T73 l0 x23_1).f0.f2]:List Int)):=⟨_,rfl⟩
        replace H:((slices_Insert_int_int.f x4_1 t107 y112).bind fun t115=>((slices_Insert_int_int.f x5_1 t107 (([0]:List Int))).bind fun t121=>(if 0 ≤ t107 then (if t107 < (t121.length:Int) then (if x23_1 < (t101.length:Int) then (scan_Expiries.l0 k1 t115 (t121.set (t107:Int).toNat (wrap64 ((rd t121 t107) + (wrap64 ((wrap64 (((rd_T73 l0 x23_1).f1) - ((rd_T73 l0 x23_1).f2))) * ((rd_T91 t101 x23_1).f2)))))) t101 l0 (l0.length:Int) (wrap64 (x23_1 + 1))) else (none)) else (none)) else (none)))) = some (r1,r2,r3):=by first|(rw [hy112];with_reducible exact H)|(have H2_:=(Option.bind_some _ _).symm.trans H;rw [hy112];with_reducible exact H2_)|(have H2_:=(Option.bind_some _ _).symm.trans H;with_reducible exact H2_)|with_reducible exact H|(rw [hy112];exact H)|exact H
        have Ny112:=Aside0.mk hy112
        clear hy112
        replace H:=Option.bind_eq_some_iff.mp H
        obtain ⟨t115,A230,H⟩:=H
        replace H:((slices_Insert_int_int.f x5_1 t107 (([0]:List Int))).bind fun t121=>(if 0 ≤ t107 then (if t107 < (t121.length:Int) then (if x23_1 < (t101.length:Int) then (scan_Expiries.l0 k1 t115 (t121.set (t107:Int).toNat (wrap64 ((rd t121 t107) + (wrap64 ((wrap64 (((rd_T73 l0 x23_1).f1) - ((rd_T73 l0 x23_1).f2))) * ((rd_T91 t101 x23_1).f2)))))) t101 l0 (l0.length:Int) (wrap64 (x23_1 + 1))) else (none)) else (none)) else (none))) = some (r1,r2,r3):=H
        have A23:=Aside0.mk A230
        clear A230
        obtain ⟨y118,hy118⟩:∃ y_:List Int,y_ = (([0]:List Int)):=⟨_,rfl⟩
        replace H:((slices_Insert_int_int.f x5_1 t107 y118).bind fun t121=>(if 0 ≤ t107 then (if t107 < (t121.length:Int) then (if x23_1 < (t101.length:Int) then (scan_Expiries.l0 k1 t115 (t121.set (t107:Int).toNat (wrap64 ((rd t121 t107) + (wrap64 ((wrap64 (((rd_T73 l0 x23_1).f1) - ((rd_T73 l0 x23_1).f2))) * ((rd_T91 t101 x23_1).f2)))))) t101 l0 (l0.length:Int) (wrap64 (x23_1 + 1))) else (none)) else (none)) else (none))) = some (r1,r2,r3):=by first|(rw [hy118];with_reducible exact H)|(have H2_:=(Option.bind_some _ _).symm.trans H;rw [hy118];with_reducible exact H2_)|(have H2_:=(Option.bind_some _ _).symm.trans H;with_reducible exact H2_)|with_reducible exact H|(rw [hy118];exact H)|exact H
        have Ny118:=Aside0.mk hy118
        clear hy118
        replace H:=Option.bind_eq_some_iff.mp H
        obtain ⟨t121,A240,H⟩:=H
        replace H:(if 0 ≤ t107 then (if t107 < (t121.length:Int) then (if x23_1 < (t101.length:Int) then (scan_Expiries.l0 k1 t115 (t121.set (t107:Int).toNat (wrap64 ((rd t121 t107) + (wrap64 ((wrap64 (((rd_T73 l0 x23_1).f1) - ((rd_T73 l0 x23_1).f2))) * ((rd_T91 t101 x23_1).f2)))))) t101 l0 (l0.length:Int) (wrap64 (x23_1 + 1))) else (none)) else (none)) else (none)) = some (r1,r2,r3):=H
        have A24:=Aside0.mk A240
        clear A240
        by_cases c25:0 ≤ t107
        ·rw [if_pos c25] at H
         have c25b0:decide (0 ≤ t107) = true:=decide_eq_true c25
         clear c25
         by_cases c26:t107 < (t121.length:Int)
         ·rw [if_pos c26] at H
          have c26b0:decide (t107 < (t121.length:Int)) = true:=decide_eq_true c26
          clear c26
          by_cases c27:x23_1 < (t101.length:Int)
          ·rw [if_pos c27] at H
           have c27b0:decide (x23_1 < (t101.length:Int)) = true:=decide_eq_true c27
           clear c27
           obtain ⟨y126,hy126⟩:∃ y_:List Int,y_ = (t121.set (t107:Int).toNat (wrap64 ((rd t121 t107) + (wrap64 ((wrap64 (((rd_T73 l0 x23_1).f1) - ((rd_T73 l0 x23_1).f2))) * ((rd_T91 t101 x23_1).f2)))))):=⟨_,rfl⟩
           replace H:(scan_Expiries.l0 k1 t115 y126 t101 l0 (l0.length:Int) (wrap64 (x23_1 + 1))) = some (r1,r2,r3):=by first|(rw [hy126];with_reducible exact H)|(have H2_:=(Option.bind_some _ _).symm.trans H;rw [hy126];with_reducible exact H2_)|(have H2_:=(Option.bind_some _ _).symm.trans H;with_reducible exact H2_)|with_reducible exact H|(rw [hy126];exact H)|exact H
           have Ny126:=Aside0.mk hy126
           clear hy126
           have H':=Aside0.mk H
           clear H
           have p105:0 ≤ (x23_1:Int):=of_decide_eq_true (by first|(with_reducible assumption)|assumption)
           have q105:x23_1 < (l0.length:Int):=of_decide_eq_true (by first|(with_reducible assumption)|assumption)
           obtain ⟨ad105,e105,hx105_0,hx105_1,hx105_2,hx105_3,hx105_4,hx105_5⟩:=at_T73 HR0.out x23_1 p105 q105
           cases e105
           replace hx105_0:=(HB.out.cell (World.block_lt_of_cell? w _ hx105_0)).trans hx105_0
           replace hx105_1:=(HB.out.cell (World.block_lt_of_cell? w _ hx105_1)).trans hx105_1
           replace hx105_2:=(HB.out.cell (World.block_lt_of_cell? w _ hx105_2)).trans hx105_2
           replace hx105_3:=(HB.out.cell (World.block_lt_of_cell? w _ hx105_3)).trans hx105_3
           replace hx105_4:=(HB.out.cell (World.block_lt_of_cell? w _ hx105_4)).trans hx105_4
           replace hx105_5:=(HB.out.cell (World.block_lt_of_cell? w _ hx105_5)).trans hx105_5
           replace p105:=eq_true p105
           replace q105:=eq_true q105
           try go_wp2_with (first|((with_reducible refine gate_dst (N:=9) rfl ?_);refine box_event ?hg (N:=9) ?hd (cs:=#[.string (⟨#[]⟩:ByteArray),.int .i64 0,.int .i64 0,.int .i64 0,.int .i64 0,.int .i64 0]) (t:=73) ?hr ?_;(case hd=>rfl);(case hg=>rfl);(case hr=>first|(go_simp;done)|(go_simp;rfl));intro gb106 hg w29 hbox hb;have n0_:=Aside0.mk (Kd.R_below (by (with_reducible repeat (first|apply Kd.R_alloc|apply Kd.R_drewN|apply Kd.R_drew));exact HO_4.out) hb);have n1_:=Aside0.mk (Kd.R_below (by (with_reducible repeat (first|apply Kd.R_alloc|apply Kd.R_drewN|apply Kd.R_drew));exact HO_5.out) hb);have n2_:=Aside0.mk (Kd.N_below (Kd.N_elderB (by (with_reducible repeat (first|apply Kd.N_alloc|apply Kd.N_drewN|apply Kd.N_drew));exact HO_7.out) gb106 (Nat.le_of_eq hg.symm)) hb);have n3_:=Aside0.mk (below_step (by repeat (first|(with_reducible first|exact HB.out|apply below_alloc|apply pw_below_drewN|apply below_drew1)|exact HB.out)) hb);have n4_:=Aside0.mk (hbox);have n5_:=Aside0.mk ((by rw [hg];exact (below_size (by repeat (first|(with_reducible first|exact HB.out|apply below_alloc|apply pw_below_drewN|apply below_drew1)|exact HB.out))):w.heap.size ≤ gb106));have n6_:=Aside0.mk ((by rw [hg];exact (below_size (by repeat (first|(with_reducible first|exact HB.out|apply below_alloc|apply pw_below_drewN|apply below_drew1)|exact HB.out))):w.heap.size ≤ gb106));clear HO_4;clear HO_5;clear HO_7;clear HB;have HO_4:=n0_;have HO_5:=n1_;have HO_7:=n2_;have HB:=n3_;have BK106:=n4_;have GW106:=n5_;have GE106:=n6_;clear n0_ n1_ n2_ n3_ n4_ n5_ n6_;clear hb hbox hg;have hcz30_0:w29.cell? ⟨gb106,0,none⟩ = some (.string (⟨#[]⟩:ByteArray)):=(blk_cell BK106.out 0).trans rfl;have hcz30_1:w29.cell? ⟨gb106,1,none⟩ = some (.int .i64 0):=(blk_cell BK106.out 1).trans rfl;have hcz30_2:w29.cell? ⟨gb106,2,none⟩ = some (.int .i64 0):=(blk_cell BK106.out 2).trans rfl;have hcz30_3:w29.cell? ⟨gb106,3,none⟩ = some (.int .i64 0):=(blk_cell BK106.out 3).trans rfl;have hcz30_4:w29.cell? ⟨gb106,4,none⟩ = some (.int .i64 0):=(blk_cell BK106.out 4).trans rfl;have hcz30_5:w29.cell? ⟨gb106,5,none⟩ = some (.int .i64 0):=(blk_cell BK106.out 5).trans rfl;have hfz30_0:=blk_frozen BK106.out 0;have hfz30_1:=blk_frozen BK106.out 1;have hfz30_2:=blk_frozen BK106.out 2;have hfz30_3:=blk_frozen BK106.out 3;have hfz30_4:=blk_frozen BK106.out 4;have hfz30_5:=blk_frozen BK106.out 5;obtain ⟨Ao31,co31,eo31⟩:=Kd.R_slice HO_4.out;subst eo31)|((with_reducible refine gate_callee (f:=67) rfl ?_);refine goesL_ (some 33) rfl rfl Try.func67 (by kernel_rfl) rfl #[.slice Ao31 x4_1.length co31,.int .i64 ((rd_T73 l0 x23_1).f0.f2)] rfl (by (try simp only [List.map_toArray,List.map_cons,List.map_nil]);first|done|rfl|(simp only [List.length_drop,List.length_take];rfl)) ?_;(with_reducible refine (slices_BinarySearch_int_int.calls k1 _ _ x4_1 ((rd_T73 l0 x23_1).f0.f2) t107 false _ ?side1 ?side2 A9.out).mono ?_);(case side1=>refine (Kd.R_reads' (e:=3) (base:=w.heap.size) (ok:=fun k_=>some k_ ≠ (u5:Value).ownBlock) (n:=x4_1.length) (c:=co31) ?_).2.2;exact (by (with_reducible repeat (first|apply Kd.R_alloc|apply Kd.R_drewN|apply Kd.R_drew));exact (Kd.R_mono (Kd.R_far (p:=⟨gb106,5,none⟩) (Kd.R_far (p:=⟨gb106,4,none⟩) (Kd.R_far (p:=⟨gb106,3,none⟩) (Kd.R_far (p:=⟨gb106,2,none⟩) (Kd.R_far (p:=⟨gb106,1,none⟩) (Kd.R_far (p:=⟨gb106,0,none⟩) (Kd.R_types HO_4.out BK106.out (by decide)) (fun _ hk=>hk.2) (.string ((rd_T73 l0 x23_1).f0.f0))) (fun _ hk=>hk.2) (.int .i64 ((rd_T73 l0 x23_1).f0.f1))) (fun _ hk=>hk.2) (.int .i64 ((rd_T73 l0 x23_1).f0.f2))) (fun _ hk=>hk.2) (.int .i64 ((rd_T73 l0 x23_1).f0.f3))) (fun _ hk=>hk.2) (.int .i64 ((rd_T73 l0 x23_1).f1))) (fun _ hk=>hk.2) (.int .i64 ((rd_T73 l0 x23_1).f2))) (fun _ h_=>h_.1))));(case side2=>exact (Kd.R_reads' HO_4.out).2.1);rintro e w' ⟨rfl,⟨nd,rfl⟩⟩;refine ⟨_,rfl,?_⟩)|((with_reducible refine gate_dst (N:=43) rfl ?_);refine Kd.R_lit (Kd.int .i64) _ 3 ?hg (N:=43) ?hd (xs:=([(rd_T73 l0 x23_1).f0.f2]:List Int)) (inner:=[.int .i64 ((rd_T73 l0 x23_1).f0.f2)]) (ok:=fun _=>True) (okp:=fun _=>True) ?hr ?hp (fun _ hk=>hk) trivial (Below.refl _ _) (Nat.le_refl _) (by simp) ?_;(case hd=>rfl);(case hg=>rfl);(case hr=>first|(go_simp;done)|(go_simp;rfl));(case hp=>exact (Reps.one (show Kd.M (Kd.int .i64) _ _ _ ((rd_T73 l0 x23_1).f0.f2) [.int .i64 ((rd_T73 l0 x23_1).f0.f2)] from rfl) (Reps.none _ _)));intro v113 w32 ho33 hb hg_ hnew_;clear hg_ hnew_;(first|rw [← Ny112.out] at ho33|(simp only [Int.reduceToNat] at ho33;rw [← Ny112.out] at ho33));have n0_:=Aside0.mk (Kd.R_elder' (by (with_reducible repeat (first|apply Kd.R_alloc|apply Kd.R_drewN|apply Kd.R_drew));exact (Kd.R_mono (Kd.R_far (p:=⟨gb106,5,none⟩) (Kd.R_far (p:=⟨gb106,4,none⟩) (Kd.R_far (p:=⟨gb106,3,none⟩) (Kd.R_far (p:=⟨gb106,2,none⟩) (Kd.R_far (p:=⟨gb106,1,none⟩) (Kd.R_far (p:=⟨gb106,0,none⟩) (Kd.R_types HO_4.out BK106.out (by decide)) (fun _ hk=>hk.2) (.string ((rd_T73 l0 x23_1).f0.f0))) (fun _ hk=>hk.2) (.int .i64 ((rd_T73 l0 x23_1).f0.f1))) (fun _ hk=>hk.2) (.int .i64 ((rd_T73 l0 x23_1).f0.f2))) (fun _ hk=>hk.2) (.int .i64 ((rd_T73 l0 x23_1).f0.f3))) (fun _ hk=>hk.2) (.int .i64 ((rd_T73 l0 x23_1).f1))) (fun _ hk=>hk.2) (.int .i64 ((rd_T73 l0 x23_1).f2))) (fun _ h_=>h_.1))) (Kd.R_base ho33) hb);have n1_:=Aside0.mk (Kd.R_elder' (by (with_reducible repeat (first|apply Kd.R_alloc|apply Kd.R_drewN|apply Kd.R_drew));exact (Kd.R_mono (Kd.R_far (p:=⟨gb106,5,none⟩) (Kd.R_far (p:=⟨gb106,4,none⟩) (Kd.R_far (p:=⟨gb106,3,none⟩) (Kd.R_far (p:=⟨gb106,2,none⟩) (Kd.R_far (p:=⟨gb106,1,none⟩) (Kd.R_far (p:=⟨gb106,0,none⟩) (Kd.R_types HO_5.out BK106.out (by decide)) (fun _ hk=>hk.2) (.string ((rd_T73 l0 x23_1).f0.f0))) (fun _ hk=>hk.2) (.int .i64 ((rd_T73 l0 x23_1).f0.f1))) (fun _ hk=>hk.2) (.int .i64 ((rd_T73 l0 x23_1).f0.f2))) (fun _ hk=>hk.2) (.int .i64 ((rd_T73 l0 x23_1).f0.f3))) (fun _ hk=>hk.2) (.int .i64 ((rd_T73 l0 x23_1).f1))) (fun _ hk=>hk.2) (.int .i64 ((rd_T73 l0 x23_1).f2))) (fun _ h_=>h_.1))) (Kd.R_base ho33) hb);have n2_:=Aside0.mk (Kd.N_elder' (by (with_reducible repeat (first|apply Kd.N_alloc|apply Kd.N_drewN|apply Kd.N_drew));exact (Kd.N_mono (Kd.N_far (p:=⟨gb106,5,none⟩) (Kd.N_far (p:=⟨gb106,4,none⟩) (Kd.N_far (p:=⟨gb106,3,none⟩) (Kd.N_far (p:=⟨gb106,2,none⟩) (Kd.N_far (p:=⟨gb106,1,none⟩) (Kd.N_far (p:=⟨gb106,0,none⟩) (Kd.N_mono HO_7.out (fun k_ hk=>(⟨hk,hk.2⟩:_ ∧ k_ ≠ gb106))) (fun _ hk=>hk.2) (.string ((rd_T73 l0 x23_1).f0.f0))) (fun _ hk=>hk.2) (.int .i64 ((rd_T73 l0 x23_1).f0.f1))) (fun _ hk=>hk.2) (.int .i64 ((rd_T73 l0 x23_1).f0.f2))) (fun _ hk=>hk.2) (.int .i64 ((rd_T73 l0 x23_1).f0.f3))) (fun _ hk=>hk.2) (.int .i64 ((rd_T73 l0 x23_1).f1))) (fun _ hk=>hk.2) (.int .i64 ((rd_T73 l0 x23_1).f2))) (fun _ h_=>h_.1))) (Kd.R_base ho33) hb);have n3_:=Aside0.mk (Kd.R_lower (Kd.R_new' (Kd.R_new' ho33 (Kd.R_lt (by (with_reducible repeat (first|apply Kd.R_alloc|apply Kd.R_drewN|apply Kd.R_drew));exact (Kd.R_mono (Kd.R_far (p:=⟨gb106,5,none⟩) (Kd.R_far (p:=⟨gb106,4,none⟩) (Kd.R_far (p:=⟨gb106,3,none⟩) (Kd.R_far (p:=⟨gb106,2,none⟩) (Kd.R_far (p:=⟨gb106,1,none⟩) (Kd.R_far (p:=⟨gb106,0,none⟩) (Kd.R_types HO_4.out BK106.out (by decide)) (fun _ hk=>hk.2) (.string ((rd_T73 l0 x23_1).f0.f0))) (fun _ hk=>hk.2) (.int .i64 ((rd_T73 l0 x23_1).f0.f1))) (fun _ hk=>hk.2) (.int .i64 ((rd_T73 l0 x23_1).f0.f2))) (fun _ hk=>hk.2) (.int .i64 ((rd_T73 l0 x23_1).f0.f3))) (fun _ hk=>hk.2) (.int .i64 ((rd_T73 l0 x23_1).f1))) (fun _ hk=>hk.2) (.int .i64 ((rd_T73 l0 x23_1).f2))) (fun _ h_=>h_.1))))) (Kd.R_lt (by (with_reducible repeat (first|apply Kd.R_alloc|apply Kd.R_drewN|apply Kd.R_drew));exact (Kd.R_mono (Kd.R_far (p:=⟨gb106,5,none⟩) (Kd.R_far (p:=⟨gb106,4,none⟩) (Kd.R_far (p:=⟨gb106,3,none⟩) (Kd.R_far (p:=⟨gb106,2,none⟩) (Kd.R_far (p:=⟨gb106,1,none⟩) (Kd.R_far (p:=⟨gb106,0,none⟩) (Kd.R_types HO_5.out BK106.out (by decide)) (fun _ hk=>hk.2) (.string ((rd_T73 l0 x23_1).f0.f0))) (fun _ hk=>hk.2) (.int .i64 ((rd_T73 l0 x23_1).f0.f1))) (fun _ hk=>hk.2) (.int .i64 ((rd_T73 l0 x23_1).f0.f2))) (fun _ hk=>hk.2) (.int .i64 ((rd_T73 l0 x23_1).f0.f3))) (fun _ hk=>hk.2) (.int .i64 ((rd_T73 l0 x23_1).f1))) (fun _ hk=>hk.2) (.int .i64 ((rd_T73 l0 x23_1).f2))) (fun _ h_=>h_.1))))) (below_size (by repeat (first|(with_reducible first|exact HB.out|apply below_alloc|apply pw_below_drewN|apply below_drew1|refine below_set ?_ GE106.out)|exact HB.out))));have n4_:=Aside0.mk (blk_below (g:=gb106) (o:=.cells #[.string ((rd_T73 l0 x23_1).f0.f0),.int .i64 ((rd_T73 l0 x23_1).f0.f1),.int .i64 ((rd_T73 l0 x23_1).f0.f2),.int .i64 ((rd_T73 l0 x23_1).f0.f3),.int .i64 ((rd_T73 l0 x23_1).f1),.int .i64 ((rd_T73 l0 x23_1).f2)] 73 (0,0)) (by (with_reducible repeat (first|refine blk_drewN ?_ _|refine blk_drew ?_|refine blk_alloc ?_ _));refine blk_put (cs:=#[.string ((rd_T73 l0 x23_1).f0.f0),.int .i64 ((rd_T73 l0 x23_1).f0.f1),.int .i64 ((rd_T73 l0 x23_1).f0.f2),.int .i64 ((rd_T73 l0 x23_1).f0.f3),.int .i64 ((rd_T73 l0 x23_1).f1),.int .i64 0]) ?_ 5 _ rfl;(with_reducible repeat (first|refine blk_drewN ?_ _|refine blk_drew ?_|refine blk_alloc ?_ _));refine blk_put (cs:=#[.string ((rd_T73 l0 x23_1).f0.f0),.int .i64 ((rd_T73 l0 x23_1).f0.f1),.int .i64 ((rd_T73 l0 x23_1).f0.f2),.int .i64 ((rd_T73 l0 x23_1).f0.f3),.int .i64 0,.int .i64 0]) ?_ 4 _ rfl;(with_reducible repeat (first|refine blk_drewN ?_ _|refine blk_drew ?_|refine blk_alloc ?_ _));refine blk_put (cs:=#[.string ((rd_T73 l0 x23_1).f0.f0),.int .i64 ((rd_T73 l0 x23_1).f0.f1),.int .i64 ((rd_T73 l0 x23_1).f0.f2),.int .i64 0,.int .i64 0,.int .i64 0]) ?_ 3 _ rfl;(with_reducible repeat (first|refine blk_drewN ?_ _|refine blk_drew ?_|refine blk_alloc ?_ _));refine blk_put (cs:=#[.string ((rd_T73 l0 x23_1).f0.f0),.int .i64 ((rd_T73 l0 x23_1).f0.f1),.int .i64 0,.int .i64 0,.int .i64 0,.int .i64 0]) ?_ 2 _ rfl;(with_reducible repeat (first|refine blk_drewN ?_ _|refine blk_drew ?_|refine blk_alloc ?_ _));refine blk_put (cs:=#[.string ((rd_T73 l0 x23_1).f0.f0),.int .i64 0,.int .i64 0,.int .i64 0,.int .i64 0,.int .i64 0]) ?_ 1 _ rfl;(with_reducible repeat (first|refine blk_drewN ?_ _|refine blk_drew ?_|refine blk_alloc ?_ _));refine blk_put (cs:=#[.string (⟨#[]⟩:ByteArray),.int .i64 0,.int .i64 0,.int .i64 0,.int .i64 0,.int .i64 0]) ?_ 0 _ rfl;(with_reducible repeat (first|refine blk_drewN ?_ _|refine blk_drew ?_|refine blk_alloc ?_ _));exact BK106.out) hb);have n5_:=Aside0.mk (below_step (by repeat (first|(with_reducible first|exact HB.out|apply below_alloc|apply pw_below_drewN|apply below_drew1|refine below_set ?_ GE106.out)|exact HB.out)) hb);clear HO_4;clear HO_5;clear HO_7;clear BK106;clear HB;have HO_4:=n0_;have HO_5:=n1_;have HO_7:=n2_;have HO114:=n3_;have BK106:=n4_;have HB:=n5_;clear n0_ n1_ n2_ n3_ n4_ n5_;clear hb ho33;obtain ⟨Ao34,co34,eo34⟩:=Kd.R_slice HO114.out;subst eo34)|((with_reducible refine gate_callee (f:=68) rfl ?_);refine goesL_ (some 44) rfl rfl Try.func68 (by kernel_rfl) rfl #[.slice Ao31 x4_1.length co31,.int .i64 t107,.slice Ao34 y112.length co34] rfl (by (try simp only [List.map_toArray,List.map_cons,List.map_nil]);first|done|rfl|(simp only [List.length_drop,List.length_take];rfl)) ?_;(with_reducible refine (slices_Insert_int_int.calls (fun k_=>some k_ = (.slice Ao31 x4_1.length co31:Value).ownBlock) (.slice Ao31 x4_1.length co31) x4_1 t107 _ _ y112 t115 w _ ?side1 ?side2 ?side3 ?side4 A23.out).mono ?_);(case side1=>repeat (first|(with_reducible first|exact HB.out|apply below_alloc|apply pw_below_drewN|apply below_drew1|refine below_set ?_ GE106.out)|exact HB.out));(case side2=>exact Kd.R_tight rfl HO_4.out);(case side3=>exact Kd.C_kept_own (HO114.out) (fun k_ hk_ hs_=>(hk_.1.2) hs_));(case side4=>exact (Kd.R_reads' HO114.out).2.1);rintro e w35 ⟨v116,rfl,ho0,hb,hkp⟩;refine ⟨_,rfl,?_⟩;have n0_:=Aside0.mk (Kd.R_mono (ok':=fun k_=>some k_ ≠ (.slice Ao34 y112.length co34:Value).ownBlock ∧ some k_ ≠ (v116:Value).ownBlock) (Kd.R_keptB (HO_5.out) hkp (fun k_ hk_ hs_=>(hk_.1) hs_)) (fun k_ hk_=>⟨hk_.1.2,fun e_=>Or.elim (ho0.1 k_ e_.symm) (fun hs_=>hk_.2.1 hs_) (fun hn_=>Nat.not_le.2 hk_.2.2 hn_)⟩));have n1_:=Aside0.mk (Kd.N_mono (ok':=fun k_=>some k_ ≠ (u5:Value).ownBlock ∧ some k_ ≠ (.slice Ao34 y112.length co34:Value).ownBlock ∧ k_ ≠ gb106 ∧ some k_ ≠ (v116:Value).ownBlock) (Kd.N_keptB (HO_7.out) hkp (fun k_ hk_ hs_=>(hk_.1.1.1) hs_)) (fun k_ hk_=>⟨hk_.1.1.1.2,hk_.1.2,hk_.1.1.2,fun e_=>Or.elim (ho0.1 k_ e_.symm) (fun hs_=>hk_.2.1 hs_) (fun hn_=>Nat.not_le.2 hk_.2.2 hn_)⟩));have n2_:=Aside0.mk (blk_kept (by (with_reducible repeat (first|refine blk_drewN ?_ _|refine blk_drew ?_|refine blk_alloc ?_ _));exact BK106.out) hkp (fun hs_=>(fun e_=>(Kd.R_ne HO_4.out BK106.out (by decide)) e_) hs_));have n3_:=Aside0.mk (Kd.R_mono (ok':=fun k_=>some k_ ≠ (u5:Value).ownBlock ∧ some k_ ≠ (v116:Value).ownBlock) (Kd.R_keptB (HO114.out) hkp (fun k_ hk_ hs_=>(hk_.1.2) hs_)) (fun k_ hk_=>⟨hk_.1.2,fun e_=>Or.elim (ho0.1 k_ e_.symm) (fun hs_=>hk_.2.1 hs_) (fun hn_=>Nat.not_le.2 hk_.2.2 hn_)⟩));have n4_:=Aside0.mk (Kd.R_mono (ok':=fun k_=>some k_ ≠ (u5:Value).ownBlock ∧ some k_ ≠ (.slice Ao34 y112.length co34:Value).ownBlock) ho0 (fun k_ hk_=>⟨Or.elim hk_ (fun hs_=>fun e_=>(((HO_5.out).1 k_ e_.symm).1) hs_) (fun hn_=>(Kd.fresh' (Kd.R_lt (by (with_reducible repeat (first|apply Kd.R_alloc|apply Kd.R_drewN|apply Kd.R_drew));exact HO_5.out)) k_ hn_)),Or.elim hk_ (fun hs_=>fun e_=>(((HO114.out).1 k_ e_.symm).1.2) hs_) (fun hn_=>(Kd.fresh' (Kd.R_lt (by (with_reducible repeat (first|apply Kd.R_alloc|apply Kd.R_drewN|apply Kd.R_drew));exact HO114.out)) k_ hn_))⟩));have n5_:=Aside0.mk (hb);clear HO_5;clear HO_7;clear BK106;clear HO114;clear HB;clear HO_4;have HO_5:=n0_;have HO_7:=n1_;have BK106:=n2_;have HO114:=n3_;have HO117:=n4_;have HB:=n5_;clear n0_ n1_ n2_ n3_ n4_ n5_;(try clear hb);(try clear hkp);(try clear ho0))|((with_reducible refine gate_dst (N:=47) rfl ?_);refine Kd.R_lit (Kd.int .i64) _ 3 ?hg (N:=47) ?hd (xs:=([0]:List Int)) (inner:=[.int .i64 0]) (ok:=fun _=>True) (okp:=fun _=>True) ?hr ?hp (fun _ hk=>hk) trivial (Below.refl _ _) (Nat.le_refl _) (by simp) ?_;(case hd=>rfl);(case hg=>rfl);(case hr=>first|(go_simp;done)|(go_simp;rfl));(case hp=>exact (Reps.one (show Kd.M (Kd.int .i64) _ _ _ 0 [.int .i64 0] from rfl) (Reps.none _ _)));intro v119 w36 ho37 hb hg_ hnew_;clear hg_ hnew_;(first|rw [← Ny118.out] at ho37|(simp only [Int.reduceToNat] at ho37;rw [← Ny118.out] at ho37));have n0_:=Aside0.mk (Kd.R_elder' (by (with_reducible repeat (first|apply Kd.R_alloc|apply Kd.R_drewN|apply Kd.R_drew));exact HO_5.out) (Kd.R_base ho37) hb);have n1_:=Aside0.mk (Kd.N_elder' (by (with_reducible repeat (first|apply Kd.N_alloc|apply Kd.N_drewN|apply Kd.N_drew));exact HO_7.out) (Kd.R_base ho37) hb);have n2_:=Aside0.mk (Kd.R_elder' (by (with_reducible repeat (first|apply Kd.R_alloc|apply Kd.R_drewN|apply Kd.R_drew));exact HO114.out) (Kd.R_base ho37) hb);have n3_:=Aside0.mk (Kd.R_elder' (by (with_reducible repeat (first|apply Kd.R_alloc|apply Kd.R_drewN|apply Kd.R_drew));exact HO117.out) (Kd.R_base ho37) hb);have n4_:=Aside0.mk (Kd.R_lower (Kd.R_new' (Kd.R_new' (Kd.R_new' ho37 (Kd.R_lt (by (with_reducible repeat (first|apply Kd.R_alloc|apply Kd.R_drewN|apply Kd.R_drew));exact HO_5.out))) (Kd.R_lt (by (with_reducible repeat (first|apply Kd.R_alloc|apply Kd.R_drewN|apply Kd.R_drew));exact HO114.out))) (Kd.R_lt (by (with_reducible repeat (first|apply Kd.R_alloc|apply Kd.R_drewN|apply Kd.R_drew));exact HO117.out))) (below_size (by repeat (first|(with_reducible first|exact HB.out|apply below_alloc|apply pw_below_drewN|apply below_drew1|refine below_set ?_ GE106.out)|exact HB.out))));have n5_:=Aside0.mk (blk_below (g:=gb106) (o:=.cells #[.string ((rd_T73 l0 x23_1).f0.f0),.int .i64 ((rd_T73 l0 x23_1).f0.f1),.int .i64 ((rd_T73 l0 x23_1).f0.f2),.int .i64 ((rd_T73 l0 x23_1).f0.f3),.int .i64 ((rd_T73 l0 x23_1).f1),.int .i64 ((rd_T73 l0 x23_1).f2)] 73 (0,0)) (by (with_reducible repeat (first|refine blk_drewN ?_ _|refine blk_drew ?_|refine blk_alloc ?_ _));exact BK106.out) hb);have n6_:=Aside0.mk (below_step (by repeat (first|(with_reducible first|exact HB.out|apply below_alloc|apply pw_below_drewN|apply below_drew1|refine below_set ?_ GE106.out)|exact HB.out)) hb);clear HO_5;clear HO_7;clear HO114;clear HO117;clear BK106;clear HB;have HO_5:=n0_;have HO_7:=n1_;have HO114:=n2_;have HO117:=n3_;have HO120:=n4_;have BK106:=n5_;have HB:=n6_;clear n0_ n1_ n2_ n3_ n4_ n5_ n6_;clear hb ho37;obtain ⟨Ao38,co38,eo38⟩:=Kd.R_slice HO_5.out;subst eo38;obtain ⟨Ao39,co39,eo39⟩:=Kd.R_slice HO120.out;subst eo39)|((with_reducible refine gate_callee (f:=68) rfl ?_);refine goesL_ (some 48) rfl rfl Try.func68 (by kernel_rfl) rfl #[.slice Ao38 x5_1.length co38,.int .i64 t107,.slice Ao39 y118.length co39] rfl (by (try simp only [List.map_toArray,List.map_cons,List.map_nil]);first|done|rfl|(simp only [List.length_drop,List.length_take];rfl)) ?_;(with_reducible refine (slices_Insert_int_int.calls (fun k_=>some k_ = (.slice Ao38 x5_1.length co38:Value).ownBlock) (.slice Ao38 x5_1.length co38) x5_1 t107 _ _ y118 t121 w _ ?side1 ?side2 ?side3 ?side4 A24.out).mono ?_);(case side1=>repeat (first|(with_reducible first|exact HB.out|apply below_alloc|apply pw_below_drewN|apply below_drew1|refine below_set ?_ GE106.out)|exact HB.out));(case side2=>exact Kd.R_tight rfl HO_5.out);(case side3=>exact Kd.C_kept_own (HO120.out) (fun k_ hk_ hs_=>(hk_.1.1.2) hs_));(case side4=>exact (Kd.R_reads' HO120.out).2.1);rintro e w40 ⟨v122,rfl,ho0,hb,hkp⟩;refine ⟨_,rfl,?_⟩;have n0_:=Aside0.mk (Kd.N_mono (ok':=fun k_=>some k_ ≠ (.slice Ao34 y112.length co34:Value).ownBlock ∧ some k_ ≠ (v116:Value).ownBlock ∧ some k_ ≠ (.slice Ao39 y118.length co39:Value).ownBlock ∧ k_ ≠ gb106 ∧ some k_ ≠ (v122:Value).ownBlock) (Kd.N_keptB (HO_7.out) hkp (fun k_ hk_ hs_=>(hk_.1.1) hs_)) (fun k_ hk_=>⟨hk_.1.1.2.1,hk_.1.1.2.2.2,hk_.1.2,hk_.1.1.2.2.1,fun e_=>Or.elim (ho0.1 k_ e_.symm) (fun hs_=>hk_.2.1 hs_) (fun hn_=>Nat.not_le.2 hk_.2.2 hn_)⟩));have n1_:=Aside0.mk (blk_kept (by (with_reducible repeat (first|refine blk_drewN ?_ _|refine blk_drew ?_|refine blk_alloc ?_ _));exact BK106.out) hkp (fun hs_=>(fun e_=>(Kd.R_ne HO_5.out BK106.out (by decide)) e_) hs_));have n2_:=Aside0.mk (Kd.R_mono (ok':=fun k_=>some k_ ≠ (v116:Value).ownBlock ∧ some k_ ≠ (.slice Ao39 y118.length co39:Value).ownBlock ∧ some k_ ≠ (v122:Value).ownBlock) (Kd.R_keptB (HO114.out) hkp (fun k_ hk_ hs_=>(hk_.1.1) hs_)) (fun k_ hk_=>⟨hk_.1.1.2,hk_.1.2,fun e_=>Or.elim (ho0.1 k_ e_.symm) (fun hs_=>hk_.2.1 hs_) (fun hn_=>Nat.not_le.2 hk_.2.2 hn_)⟩));have n3_:=Aside0.mk (Kd.R_mono (ok':=fun k_=>some k_ ≠ (.slice Ao34 y112.length co34:Value).ownBlock ∧ some k_ ≠ (.slice Ao39 y118.length co39:Value).ownBlock ∧ some k_ ≠ (v122:Value).ownBlock) (Kd.R_keptB (HO117.out) hkp (fun k_ hk_ hs_=>(hk_.1.1) hs_)) (fun k_ hk_=>⟨hk_.1.1.2,hk_.1.2,fun e_=>Or.elim (ho0.1 k_ e_.symm) (fun hs_=>hk_.2.1 hs_) (fun hn_=>Nat.not_le.2 hk_.2.2 hn_)⟩));have n4_:=Aside0.mk (Kd.R_mono (ok':=fun k_=>some k_ ≠ (.slice Ao34 y112.length co34:Value).ownBlock ∧ some k_ ≠ (v116:Value).ownBlock ∧ some k_ ≠ (v122:Value).ownBlock) (Kd.R_keptB (HO120.out) hkp (fun k_ hk_ hs_=>(hk_.1.1.2) hs_)) (fun k_ hk_=>⟨hk_.1.1.2,hk_.1.2,fun e_=>Or.elim (ho0.1 k_ e_.symm) (fun hs_=>hk_.2.1 hs_) (fun hn_=>Nat.not_le.2 hk_.2.2 hn_)⟩));have n5_:=Aside0.mk (Kd.R_mono (ok':=fun k_=>some k_ ≠ (.slice Ao34 y112.length co34:Value).ownBlock ∧ some k_ ≠ (v116:Value).ownBlock ∧ some k_ ≠ (.slice Ao39 y118.length co39:Value).ownBlock) ho0 (fun k_ hk_=>⟨Or.elim hk_ (fun hs_=>fun e_=>(((HO114.out).1 k_ e_.symm).1.1) hs_) (fun hn_=>(Kd.fresh' (Kd.R_lt (by (with_reducible repeat (first|apply Kd.R_alloc|apply Kd.R_drewN|apply Kd.R_drew));exact HO114.out)) k_ hn_)),Or.elim hk_ (fun hs_=>fun e_=>(((HO117.out).1 k_ e_.symm).1.1) hs_) (fun hn_=>(Kd.fresh' (Kd.R_lt (by (with_reducible repeat (first|apply Kd.R_alloc|apply Kd.R_drewN|apply Kd.R_drew));exact HO117.out)) k_ hn_)),Or.elim hk_ (fun hs_=>fun e_=>(((HO120.out).1 k_ e_.symm).1.1.2) hs_) (fun hn_=>(Kd.fresh' (Kd.R_lt (by (with_reducible repeat (first|apply Kd.R_alloc|apply Kd.R_drewN|apply Kd.R_drew));exact HO120.out)) k_ hn_))⟩));have n6_:=Aside0.mk (hb);clear HO_7;clear BK106;clear HO114;clear HO117;clear HO120;clear HB;clear HO_5;have HO_7:=n0_;have BK106:=n1_;have HO114:=n2_;have HO117:=n3_;have HO120:=n4_;have HO123:=n5_;have HB:=n6_;clear n0_ n1_ n2_ n3_ n4_ n5_ n6_;(try clear hb);(try clear hkp);(try clear ho0)))
           have n0_:=Aside0.mk (Kd.N_drew HO_7.out)
           have n1_:=Aside0.mk (Kd.R_drew HO114.out)
           have n2_:=Aside0.mk (Kd.R_drew HO117.out)
           have n3_:=Aside0.mk (Kd.R_drew HO120.out)
           have n4_:=Aside0.mk (Kd.R_drew HO123.out)
           have n5_:=Aside0.mk (blk_drew BK106.out)
           have n6_:=Aside0.mk (below_drew1 HB.out)
           clear HO_7
           clear HO114
           clear HO117
           clear HO120
           clear HO123
           clear BK106
           clear HB
           have HO_7:=n0_
           have HO114:=n1_
           have HO117:=n2_
           have HO120:=n3_
           have HO123:=n4_
           have BK106:=n5_
           have HB:=n6_
           clear n0_ n1_ n2_ n3_ n4_ n5_ n6_
           obtain ⟨Ao42,co42,eo42⟩:=Kd.R_slice HO123.out
           (first|subst eo42|(injection eo42 with f1_ f2_ f3_;have f4_:=f1_.symm;have f5_:=f3_.symm;clear f1_ f2_ f3_;subst f4_;subst f5_))
           have p124:0 ≤ (t107:Int):=of_decide_eq_true (by first|(with_reducible assumption)|assumption)
           have q124:t107 < (t121.length:Int):=of_decide_eq_true (by first|(with_reducible assumption)|assumption)
           obtain ⟨ad124,e124,hx124_0⟩:=Kd.at_int (Kd.R_reads' HO123.out).2.2 t107 p124 q124
           cases e124
           replace p124:=eq_true p124
           replace q124:=eq_true q124
           obtain ⟨Ao43,co43,eo43⟩:=Kd.N_slice HO_7.out
           (first|subst eo43|(injection eo43 with f1_ f2_ f3_;have f4_:=f1_.symm;have f5_:=f3_.symm;clear f1_ f2_ f3_;subst f4_;subst f5_))
           have p125:0 ≤ (x23_1:Int):=of_decide_eq_true (by first|(with_reducible assumption)|assumption)
           have q125:x23_1 < (t101.length:Int):=of_decide_eq_true (by first|(with_reducible assumption)|assumption)
           obtain ⟨ad125,A125_4,c125_4,e125,hx125_0,hx125_1,hx125_2,hx125_3,hx125_4,hx125_5,hl125_4,hi125_4⟩:=at_T91 (Kd.N_reads' HO_7.out).2.2 x23_1 p125 q125
           cases e125
           obtain ⟨ce125,hce125,hMe125,hcc125⟩:=Kd.N_get HO_7.out z91 x23_1 p125 (by first|exact q125|exact of_decide_eq_true (by first|(with_reducible assumption)|assumption)|(have e_:=(Kd.N_reads' HO_7.out).1;omega))
           obtain ⟨ua125_4,uc125_4,rfl,ul125_4,ge125_4⟩:=k91_openF hMe125
           have hv125_4:=hcc125 4 _ rfl
           rw [add_field _ _ 4 (by omega)] at hv125_4
           replace hv125_4:=Option.some.inj (hv125_4.symm.trans hx125_4)
           injection hv125_4 with hva_ hvn_ hvc_
           rw [hva_] at ge125_4
           rw [hvc_] at ul125_4
           have HL125_4:=Aside0.mk (show Kd.V (Kd.int .i64) 3 _ w.heap.size _ _ ((rd_T91 t101 x23_1).f1) from Kd.V_mk ul125_4 ge125_4)
           clear hva_ hvn_ hvc_ ge125_4 ul125_4
           clear hcc125 hce125
           have HR125_4:=Aside0.mk hi125_4
           have HC125_4:=Aside0.mk hl125_4
           clear hi125_4 hl125_4
           replace p125:=eq_true p125
           replace q125:=eq_true q125
           have p28:0 ≤ (t107:Int):=of_decide_eq_true (by first|(with_reducible assumption)|assumption)
           have q28:(t107:Int) < ((t121.length:Int):Int):=of_decide_eq_true (by first|(with_reducible assumption)|assumption)
           obtain ⟨go28,co28,eo28,gb28,gl28,cl28,HG28⟩:=Kd.R_form HO123.out (by omega)
           (first|cases eo28|(injection eo28 with ea_ en_ ec_;(first|subst ea_|(injection ea_ with ea_;subst ea_));subst ec_;clear en_))
           have GB28:=Aside0.mk gb28
           have GG28:=Aside0.mk HG28
           clear gb28 gl28 HG28
           (first|simp only [add_plain] at hx124_0|skip)
           obtain ⟨hx28_0,hf28_0⟩:=Kd.R_celln 0 HO123.out (t107:Int) p28 q28
           replace p28:=eq_true p28
           replace q28:=eq_true q28
           have HP44:=Kd.R_putn HO123.out (t107:Int) (wrap64 ((rd t121 t107) + (wrap64 ((wrap64 (((rd_T73 l0 x23_1).f1) - ((rd_T73 l0 x23_1).f2))) * ((rd_T91 t101 x23_1).f2)))))
           rw [← Ny126.out] at HP44
           have HQ44:=Aside0.mk HP44
           clear HP44
           refine start_ (n:=18) (S:=fun w'=>w'.cell? ⟨gb106,0,none⟩ = some (.string ((rd_T73 l0 x23_1).f0.f0)) ∧ w'.cell? ⟨gb106,1,none⟩ = some (.int .i64 ((rd_T73 l0 x23_1).f0.f1)) ∧ w'.cell? ⟨gb106,2,none⟩ = some (.int .i64 ((rd_T73 l0 x23_1).f0.f2)) ∧ w'.cell? ⟨gb106,3,none⟩ = some (.int .i64 ((rd_T73 l0 x23_1).f0.f3)) ∧ w'.cell? ⟨gb106,4,none⟩ = some (.int .i64 ((rd_T73 l0 x23_1).f1)) ∧ w'.cell? ⟨gb106,5,none⟩ = some (.int .i64 ((rd_T73 l0 x23_1).f2)) ∧ w'.cell? ⟨go28,(t107).toNat,none⟩ = some (.int .i64 (rd t121 t107)) ∧ w'.cell? (ad125.add ((x23_1).toNat * 6)) = some (.string ((rd_T91 t101 x23_1).f0.f0)) ∧ w'.cell? ⟨(ad125.add ((x23_1).toNat * 6)).block,(ad125.add ((x23_1).toNat * 6)).off + 1,none⟩ = some (.int .i64 ((rd_T91 t101 x23_1).f0.f1)) ∧ w'.cell? ⟨(ad125.add ((x23_1).toNat * 6)).block,(ad125.add ((x23_1).toNat * 6)).off + 2,none⟩ = some (.int .i64 ((rd_T91 t101 x23_1).f0.f2)) ∧ w'.cell? ⟨(ad125.add ((x23_1).toNat * 6)).block,(ad125.add ((x23_1).toNat * 6)).off + 3,none⟩ = some (.int .i64 ((rd_T91 t101 x23_1).f0.f3)) ∧ w'.cell? ⟨(ad125.add ((x23_1).toNat * 6)).block,(ad125.add ((x23_1).toNat * 6)).off + 4,none⟩ = some (.slice A125_4 ((rd_T91 t101 x23_1).f1).length c125_4) ∧ w'.cell? ⟨(ad125.add ((x23_1).toNat * 6)).block,(ad125.add ((x23_1).toNat * 6)).off + 5,none⟩ = some (.int .i64 ((rd_T91 t101 x23_1).f2))) (ds:=[17]) #[Z,Z,Z,Z,Z,Z,Z,Z,Z,Z,Z,Z,Z,Z,Z,Z,Z,Z] (by kernel_rfl) rfl rfl ⟨(blk_cell BK106.out 0).trans rfl,(blk_cell BK106.out 1).trans rfl,(blk_cell BK106.out 2).trans rfl,(blk_cell BK106.out 3).trans rfl,(blk_cell BK106.out 4).trans rfl,(blk_cell BK106.out 5).trans rfl,hx124_0,hx125_0,hx125_1,hx125_2,hx125_3,hx125_4,hx125_5⟩ (fun hHeld=>?_);refine with_tabW scan_Expiries.tab11 scan_Expiries.bits11 (fun HT_ HW_=>?_)
           generalize w40.drew = w41 at HO_7 HO114 HO117 HO120 HO123 BK106 HB GG28 HL125_4 HQ44 HR125_4 hf28_0 hx124_0 hx125_0 hx125_1 hx125_2 hx125_3 hx125_4 hx125_5 hx28_0 hHeld ⊢
           refine pure_ (i:=0) (N:=some 49) (v:=?_) (a':=?_) #[Y,Z,Z,Z,Z,Z,Z,Z,Z,Z,Z,Z,Z,Z,Z,Z,Z,Z] rfl rfl (any_of HT_.out (by kernel_rfl)) (fun _ _ _ h=>h) (Or.inl ⟨by rfl,?_⟩) ?_ ?_
           rotate_left
           ·intro w'
            go_simp
            with_reducible rfl
           rotate_left
           ·simp only [Act.put,List.setIfInBounds_toArray,List.set_cons_zero,List.set_cons_succ,i64_w,i32_w]
            rfl
           refine pure_ (i:=1) (N:=some 50) (v:=?_) (a':=?_) #[Y,Y,Z,Z,Z,Z,Z,Z,Z,Z,Z,Z,Z,Z,Z,Z,Z,Z] rfl rfl (any_of HT_.out (by kernel_rfl)) (fun _ _ _ h=>h) (Or.inl ⟨by rfl,?_⟩) ?_ ?_
           rotate_left
           ·intro w'
            go_simp
            with_reducible rfl
           rotate_left
           ·simp only [Act.put,List.setIfInBounds_toArray,List.set_cons_zero,List.set_cons_succ,i64_w,i32_w]
            rfl
           refine pure_ (i:=2) (N:=some 51) (v:=?_) (a':=?_) #[Y,Y,Y,Z,Z,Z,Z,Z,Z,Z,Z,Z,Z,Z,Z,Z,Z,Z] rfl rfl (any_of HT_.out (by kernel_rfl)) (fun _ _ _ h=>h) (Or.inl ⟨by rfl,?_⟩) ?_ ?_
           rotate_left
           ·intro w'
            go_simp
            with_reducible rfl
           rotate_left
           ·simp only [Act.put,List.setIfInBounds_toArray,List.set_cons_zero,List.set_cons_succ,i64_w,i32_w]
            rfl
           refine pure_ (i:=4) (N:=some 53) (v:=?_) (a':=?_) #[Y,Y,Y,Z,Y,Z,Z,Z,Z,Z,Z,Z,Z,Z,Z,Z,Z,Z] rfl rfl (any_of HT_.out (by kernel_rfl)) (fun _ _ _ h=>h) (Or.inl ⟨by rfl,?_⟩) ?_ ?_
           rotate_left
           ·intro w'
            go_simp
            with_reducible rfl
           rotate_left
           ·simp only [Act.put,List.setIfInBounds_toArray,List.set_cons_zero,List.set_cons_succ,i64_w,i32_w]
            rfl
           refine pure_ (i:=6) (N:=some 55) (v:=?_) (a':=?_) #[Y,Y,Y,Z,Y,Z,Y,Z,Z,Z,Z,Z,Z,Z,Z,Z,Z,Z] rfl rfl (any_of HT_.out (by kernel_rfl)) (fun _ _ _ h=>h) (Or.inl ⟨by rfl,?_⟩) ?_ ?_
           rotate_left
           ·intro w'
            go_simp
            with_reducible rfl
           rotate_left
           ·simp only [Act.put,List.setIfInBounds_toArray,List.set_cons_zero,List.set_cons_succ,i64_w,i32_w]
            rfl
           refine pure_ (i:=9) (N:=some 58) (v:=?_) (a':=?_) #[Y,Y,Y,Z,Y,Z,Y,Z,Z,Y,Z,Z,Z,Z,Z,Z,Z,Z] rfl rfl (any_of HT_.out (by kernel_rfl)) (fun _ _ _ h=>h) (Or.inl ⟨by rfl,?_⟩) ?_ ?_
           rotate_left
           ·intro w'
            go_simp
            with_reducible rfl
           rotate_left
           ·simp only [Act.put,List.setIfInBounds_toArray,List.set_cons_zero,List.set_cons_succ,i64_w,i32_w]
            rfl
           refine pure_ (i:=10) (N:=some 59) (v:=?_) (a':=?_) #[Y,Y,Y,Z,Y,Z,Y,Z,Z,Y,Y,Z,Z,Z,Z,Z,Z,Z] rfl rfl (any_of HT_.out (by kernel_rfl)) (fun _ _ _ h=>h) (Or.inl ⟨by rfl,?_⟩) ?_ ?_
           rotate_left
           ·intro w'
            go_simp
            with_reducible rfl
           rotate_left
           ·simp only [Act.put,List.setIfInBounds_toArray,List.set_cons_zero,List.set_cons_succ,i64_w,i32_w]
            rfl
           refine pure_ (i:=11) (N:=some 60) (v:=?_) (a':=?_) #[Y,Y,Y,Z,Y,Z,Y,Z,Z,Y,Y,Y,Z,Z,Z,Z,Z,Z] rfl rfl (any_of HT_.out (by kernel_rfl)) (fun _ _ _ h=>h) (Or.inl ⟨by rfl,?_⟩) ?_ ?_
           rotate_left
           ·intro w'
            go_simp
            with_reducible rfl
           rotate_left
           ·simp only [Act.put,List.setIfInBounds_toArray,List.set_cons_zero,List.set_cons_succ,i64_w,i32_w]
            rfl
           refine pure_ (i:=12) (N:=some 61) (v:=?_) (a':=?_) #[Y,Y,Y,Z,Y,Z,Y,Z,Z,Y,Y,Y,Y,Z,Z,Z,Z,Z] rfl rfl (any_of HT_.out (by kernel_rfl)) (fun _ _ _ h=>h) (Or.inl ⟨by rfl,?_⟩) ?_ ?_
           rotate_left
           ·intro w'
            go_simp
            with_reducible rfl
           rotate_left
           ·simp only [Act.put,List.setIfInBounds_toArray,List.set_cons_zero,List.set_cons_succ,i64_w,i32_w]
            rfl
           refine take_ (i:=3) (N:=some 52) (v:=?_) (a':=?_) #[Y,Y,Y,Y,Y,Z,Y,Z,Z,Y,Y,Y,Y,Z,Z,Z,Z,Z] rfl rfl (take_ofW HT_.out HW_.out (by kernel_rfl)) (fun _ _ _ h=>h) (Or.inl ⟨by rfl,?_⟩) hHeld ?_ ?_
           rotate_left
           ·rintro w' ⟨s0,s1,s2,s3,s4,s5,s6,s7,s8,s9,s10,s11,s12⟩
            go_simp
            with_reducible rfl
           rotate_left
           ·simp only [Act.put,List.setIfInBounds_toArray,List.set_cons_zero,List.set_cons_succ,i64_w,i32_w]
            rfl
           refine take_ (i:=5) (N:=some 54) (v:=?_) (a':=?_) #[Y,Y,Y,Y,Y,Y,Y,Z,Z,Y,Y,Y,Y,Z,Z,Z,Z,Z] rfl rfl (take_ofW HT_.out HW_.out (by kernel_rfl)) (fun _ _ _ h=>h) (Or.inl ⟨by rfl,?_⟩) hHeld ?_ ?_
           rotate_left
           ·rintro w' ⟨s0,s1,s2,s3,s4,s5,s6,s7,s8,s9,s10,s11,s12⟩
            go_simp
            with_reducible rfl
           rotate_left
           ·simp only [Act.put,List.setIfInBounds_toArray,List.set_cons_zero,List.set_cons_succ,i64_w,i32_w]
            rfl
           refine take_ (i:=7) (N:=some 56) (v:=?_) (a':=?_) #[Y,Y,Y,Y,Y,Y,Y,Y,Z,Y,Y,Y,Y,Z,Z,Z,Z,Z] rfl rfl (take_ofW HT_.out HW_.out (by kernel_rfl)) (fun _ _ _ h=>h) (Or.inl ⟨by rfl,?_⟩) hHeld ?_ ?_
           rotate_left
           ·rintro w' ⟨s0,s1,s2,s3,s4,s5,s6,s7,s8,s9,s10,s11,s12⟩
            go_simp
            with_reducible rfl
           rotate_left
           ·simp only [Act.put,List.setIfInBounds_toArray,List.set_cons_zero,List.set_cons_succ,i64_w,i32_w]
            rfl
           refine pure_ (i:=8) (N:=some 57) (v:=?_) (a':=?_) #[Y,Y,Y,Y,Y,Y,Y,Y,Y,Y,Y,Y,Y,Z,Z,Z,Z,Z] rfl rfl (any_of HT_.out (by kernel_rfl)) (fun _ _ _ h=>h) (Or.inl ⟨by rfl,?_⟩) ?_ ?_
           rotate_left
           ·intro w'
            go_simp
            with_reducible rfl
           rotate_left
           ·simp only [Act.put,List.setIfInBounds_toArray,List.set_cons_zero,List.set_cons_succ,i64_w,i32_w]
            rfl
           refine take_ (i:=13) (N:=some 62) (v:=?_) (a':=?_) #[Y,Y,Y,Y,Y,Y,Y,Y,Y,Y,Y,Y,Y,Y,Z,Z,Z,Z] rfl rfl (take_ofW HT_.out HW_.out (by kernel_rfl)) (fun _ _ _ h=>h) (Or.inl ⟨by rfl,?_⟩) hHeld ?_ ?_
           rotate_left
           ·rintro w' ⟨s0,s1,s2,s3,s4,s5,s6,s7,s8,s9,s10,s11,s12⟩
            go_simp
            with_reducible rfl
           rotate_left
           ·simp only [Act.put,List.setIfInBounds_toArray,List.set_cons_zero,List.set_cons_succ,i64_w,i32_w]
            rfl
           refine pure_ (i:=14) (N:=some 63) (v:=?_) (a':=?_) #[Y,Y,Y,Y,Y,Y,Y,Y,Y,Y,Y,Y,Y,Y,Y,Z,Z,Z] rfl rfl (any_of HT_.out (by kernel_rfl)) (fun _ _ _ h=>h) (Or.inl ⟨by rfl,?_⟩) ?_ ?_
           rotate_left
           ·intro w'
            go_simp
            with_reducible rfl
           rotate_left
           ·simp only [Act.put,List.setIfInBounds_toArray,List.set_cons_zero,List.set_cons_succ,i64_w,i32_w]
            rfl
           refine pure_ (i:=15) (N:=some 64) (v:=?_) (a':=?_) #[Y,Y,Y,Y,Y,Y,Y,Y,Y,Y,Y,Y,Y,Y,Y,Y,Z,Z] rfl rfl (any_of HT_.out (by kernel_rfl)) (fun _ _ _ h=>h) (Or.inl ⟨by rfl,?_⟩) ?_ ?_
           rotate_left
           ·intro w'
            go_simp
            with_reducible rfl
           rotate_left
           ·simp only [Act.put,List.setIfInBounds_toArray,List.set_cons_zero,List.set_cons_succ,i64_w,i32_w]
            rfl
           refine pure_ (i:=16) (N:=some 65) (v:=?_) (a':=?_) #[Y,Y,Y,Y,Y,Y,Y,Y,Y,Y,Y,Y,Y,Y,Y,Y,Y,Z] rfl rfl (any_of HT_.out (by kernel_rfl)) (fun _ _ _ h=>h) (Or.inl ⟨by rfl,?_⟩) ?_ ?_
           rotate_left
           ·intro w'
            go_simp
            with_reducible rfl
           rotate_left
           ·simp only [Act.put,List.setIfInBounds_toArray,List.set_cons_zero,List.set_cons_succ,i64_w,i32_w]
            rfl
           refine last_ (i:=17) (N:=none) #[Y,Y,Y,Y,Y,Y,Y,Y,Y,Y,Y,Y,Y,Y,Y,Y,Y,Y] rfl rfl (one_of HT_.out (by kernel_rfl)) (by decide) (fun K hK=>?_)
           refine skip_ (w1:=?_) (by rfl) rfl ?_ ?_
           rotate_left
           ·go_simp
            rfl
           refine hK.out _ _ ?_
           clear hK K
           refine done_ (done_of HT_.out (by kernel_rfl)) ?_
           try go_wp2
           go_roundg k1
           case measure=>have:=HK1.out;omega
           case rel=>exact ⟨(t115),(y126),(wrap64 (x23_1 + 1)),(by first|rfl|(simp;done)|(simp [*];done)),H',⟨by have:=HK1.out;omega⟩,⟨by (with_reducible repeat (first|apply Kd.R_alloc|apply Kd.R_drewN|apply Kd.R_drew));exact Kd.R_mono (Kd.R_far (p:=⟨go28,(t107:Int).toNat,none⟩) (Kd.R_mono HO117.out (fun k_ hk=>(⟨hk,fun e_=>hk.2.2 (by rw [e_];rfl)⟩:_ ∧ k_ ≠ go28))) (fun _ hk=>hk.2) (.int .i64 (wrap64 ((rd t121 t107) + (wrap64 ((wrap64 (((rd_T73 l0 x23_1).f1) - ((rd_T73 l0 x23_1).f2))) * ((rd_T91 t101 x23_1).f2))))))) (fun _ hk=>hk.1.2.2)⟩,⟨by (with_reducible repeat (first|apply Kd.R_alloc|apply Kd.R_drewN|apply Kd.R_drew));exact Kd.R_mono HQ44.out (fun _ hk=>hk.2.1)⟩,⟨by (with_reducible repeat (first|apply Kd.N_alloc|apply Kd.N_drewN|apply Kd.N_drew));exact Kd.N_mono (Kd.N_far (p:=⟨go28,(t107:Int).toNat,none⟩) (Kd.N_mono HO_7.out (fun k_ hk=>(⟨hk,fun e_=>hk.2.2.2.2 (by rw [e_];rfl)⟩:_ ∧ k_ ≠ go28))) (fun _ hk=>hk.2) (.int .i64 (wrap64 ((rd t121 t107) + (wrap64 ((wrap64 (((rd_T73 l0 x23_1).f1) - ((rd_T73 l0 x23_1).f2))) * ((rd_T91 t101 x23_1).f2))))))) (fun _ hk=>⟨hk.1.2.1,hk.1.2.2.2.2⟩)⟩,⟨by repeat (first|(with_reducible first|exact HB.out|apply below_alloc|apply pw_below_drewN|apply below_drew1|refine below_set ?_ GB28.out|refine below_set ?_ GE106.out)|exact HB.out)⟩⟩
          ·rw [if_neg c27] at H
           exact absurd H (by simp)
         ·rw [if_neg c26] at H
          exact absurd H (by simp)
        ·rw [if_neg c25] at H
         exact absurd H (by simp)
      ·rw [if_neg c8] at H
       exact absurd H (by simp)
     ·rw [if_neg c7] at H
      exact absurd H (by simp)
    ·rw [if_neg c6] at H
     have c6b0:decide (x23_1 < (l0.length:Int)) = false:=decide_eq_false c6
     clear c6
     simp only [Option.some.injEq,Prod.mk.injEq] at H
     obtain ⟨rfl,rfl,rfl⟩:=H
     go_wp2
     go_ret3
     exact ⟨_,_,by first|rfl|(simp [errW_none,errW_some] <;> rfl)|(simp [*,errW_none,errW_some] <;> rfl),by (with_reducible repeat (first|apply Kd.R_alloc|apply Kd.R_drewN|apply Kd.R_drew));exact HO_4.out,by (with_reducible repeat (first|apply Kd.R_alloc|apply Kd.R_drewN|apply Kd.R_drew));exact HO_5.out,by repeat (first|(with_reducible first|exact HB.out|apply below_alloc|apply pw_below_drewN|apply below_drew1)|exact HB.out)⟩
 ·rw [if_neg c4] at H
  have c4b0:(t104 == 0) = false:=beq_eq_false_iff_ne.mpr c4
  have c4b1:(t104 != 0) = true:=bne_iff_ne.mpr c4
  simp only [Option.some.injEq,Prod.mk.injEq] at H
  obtain ⟨rfl,rfl,rfl⟩:=H
  go_enter Try.func43,Try.ntmps43
  go_wp2_with (first|((with_reducible refine gate_callee (f:=57) rfl ?_);refine goesL_ (some 15) rfl rfl Try.func57 (by kernel_rfl) rfl #[.slice A0 l0.length c0,.slice A1 l1.length c1] rfl (by (try simp only [List.map_toArray,List.map_cons,List.map_nil]);first|done|rfl|(simp only [List.length_drop,List.length_take];rfl)) ?_;(with_reducible refine (scan_found.calls k _ _ l0 (fun k_=>k_ < w.heap.size) _ _ l1 t101 t104 _ ?side1 ?side2 ?side3 A3.out).mono ?_);(case side1=>repeat (first|exact HR0.out|(with_reducible refine Kd.C_alloc ?_ _)|(with_reducible refine Kd.C_drewN ?_ _)|(with_reducible refine Kd.C_drew ?_)));(case side2=>exact HC0.out);(case side3=>exact Kd.V_mk HC1.out (Kd.F_below (Kd.C_F k91_heap HR1.out) (by repeat (first|(with_reducible first|exact HB.out|apply below_alloc|apply pw_below_drewN|apply below_drew1)|exact HB.out))));rintro e w45 ⟨v102,rfl,ho0,hb⟩;refine ⟨_,rfl,?_⟩;have n0_:=Aside0.mk (Kd.N_lower (Kd.N_mono (ok':=fun k_=>True) ho0 (fun k_ hk_=>trivial)) (below_size (by repeat (first|(with_reducible first|exact HB.out|apply below_alloc|apply pw_below_drewN|apply below_drew1)|exact HB.out))));have n1_:=Aside0.mk (below_step (by repeat (first|(with_reducible first|exact HB.out|apply below_alloc|apply pw_below_drewN|apply below_drew1)|exact HB.out)) hb);clear HB;have HO103:=n0_;have HB:=n1_;clear n0_ n1_;(try clear hb);(try clear hb2);(try clear hk);(try clear hi);(try clear ho0)))
  go_ret3
  exact ⟨_,_,by first|rfl|(simp [errW_none,errW_some] <;> rfl)|(simp [*,errW_none,errW_some] <;> rfl),by first|exact Kd.R_nil _ _ _ _ _|exact Kd.N_nil _ _ _ _ _|exact Kd.V_nil _ _ _ _ _|exact Kd.Q_nil _ _ _ _ _|exact Kd.S_nil _ _ _ _ _,by first|exact Kd.R_nil _ _ _ _ _|exact Kd.N_nil _ _ _ _ _|exact Kd.V_nil _ _ _ _ _|exact Kd.Q_nil _ _ _ _ _|exact Kd.S_nil _ _ _ _ _,by repeat (first|(with_reducible first|exact HB.out|apply below_alloc|apply pw_below_drewN|apply below_drew1)|exact HB.out)⟩
end Go.Proofs.Ytbgeceiddcokmaa.X
end
section
namespace Go.Proofs.Ytbgeceiddcokmaa.X
open Go.RowKit Go.Proofs.YtbgeceiddcokmaaW.PrintWords Go.Proofs.YtbgeceiddcokmaaW.PrintLast Go.Proofs.YtbgeceiddcokmaaW.PrintMore
attribute [local go_sem] max2_int min2_int max_two min_two max_three min_three max_four min_four
set_option linter.unusedVariables false
set_option linter.unusedSimpArgs false
def contangolaw23_ScanDeltas.f (k:Nat) (l0:List (S73)) (l1:List (S91)):Option (Bool):=(contangolaw23_few.f k l0 l1).bind fun t101=>(if t101 = true then ((scan_Delta.f k l0 l1).bind fun bt103=>((contangoref23_Delta.f k l0 l1).bind fun bt105=>((scan_Expiries.f k l0 l1).bind fun bt107=>((contangoref23_Expiries.f k l0 l1).bind fun bt114=>(if bt103.1 = bt105.1 then (if bt103.2 = bt105.2 then ((contangoref23_Same.f k bt107.1 bt114.1).bind fun t121=>(if t121 = true then ((contangoref23_Same.f k bt107.2.1 bt114.2.1).bind fun t122=>(if t122 = true then (if bt107.2.2 = bt114.2.2 then ((contangolaw23_goes.f k).bind fun t123=>(some t123)) else (none)) else (none))) else (none))) else (none)) else (none)))))) else ((contangolaw23_goes.f k).bind fun t102=>(some t102)))
set_option maxHeartbeats 8000000 in
set_option maxRecDepth 100000 in
theorem contangolaw23_ScanDeltas.calls (k:Nat) (A0:Option Addr) (c0:Nat) (l0:List (S73)) (A1:Option Addr) (c1:Nat) (l1:List (S91)) (r:Bool) (w:World) (hr0:Kd.C k73 w A0 l0.length l0) (hc0:l0.length ≤ c0) (hr1:Kd.C k91 w A1 l1.length l1) (hc1:l1.length ≤ c1) (h:contangolaw23_ScanDeltas.f k l0 l1 = some r) :
  Calls Try.prog 11 #[.slice A0 l0.length c0,.slice A1 l1.length c1] w fun e w'=>e = .returned (.bool r) ∧ Below w.heap.size w w':=by
 have HR0:=Aside0.mk hr0
 have HC0:=Aside0.mk hc0
 clear hr0 hc0
 have HR1:=Aside0.mk hr1
 have HC1:=Aside0.mk hc1
 clear hr1 hc1
 have HB:=Aside0.mk (Below.refl w.heap.size w)
 have H:((contangolaw23_few.f k l0 l1).bind fun t101=>(if t101 = true then ((scan_Delta.f k l0 l1).bind fun bt103=>((contangoref23_Delta.f k l0 l1).bind fun bt105=>((scan_Expiries.f k l0 l1).bind fun bt107=>((contangoref23_Expiries.f k l0 l1).bind fun bt114=>(if bt103.1 = bt105.1 then (if bt103.2 = bt105.2 then ((contangoref23_Same.f k bt107.1 bt114.1).bind fun t121=>(if t121 = true then ((contangoref23_Same.f k bt107.2.1 bt114.2.1).bind fun t122=>(if t122 = true then (if bt107.2.2 = bt114.2.2 then ((contangolaw23_goes.f k).bind fun t123=>(some t123)) else (none)) else (none))) else (none))) else (none)) else (none)))))) else ((contangolaw23_goes.f k).bind fun t102=>(some t102)))) = some r:=h
 clear h
 replace H:=Option.bind_eq_some_iff.mp H
 obtain ⟨t101,A30,H⟩:=H
 replace H:(if t101 = true then ((scan_Delta.f k l0 l1).bind fun bt103=>((contangoref23_Delta.f k l0 l1).bind fun bt105=>((scan_Expiries.f k l0 l1).bind fun bt107=>((contangoref23_Expiries.f k l0 l1).bind fun bt114=>(if bt103.1 = bt105.1 then (if bt103.2 = bt105.2 then ((contangoref23_Same.f k bt107.1 bt114.1).bind fun t121=>(if t121 = true then ((contangoref23_Same.f k bt107.2.1 bt114.2.1).bind fun t122=>(if t122 = true then (if bt107.2.2 = bt114.2.2 then ((contangolaw23_goes.f k).bind fun t123=>(some t123)) else (none)) else (none))) else (none))) else (none)) else (none)))))) else ((contangolaw23_goes.f k).bind fun t102=>(some t102))) = some r:=H
 have A3:=Aside0.mk A30
 clear A30
 by_cases c4:t101 = true
 ·subst c4
  have H1:((scan_Delta.f k l0 l1).bind fun bt103=>((contangoref23_Delta.f k l0 l1).bind fun bt105=>((scan_Expiries.f k l0 l1).bind fun bt107=>((contangoref23_Expiries.f k l0 l1).bind fun bt114=>(if bt103.1 = bt105.1 then (if bt103.2 = bt105.2 then ((contangoref23_Same.f k bt107.1 bt114.1).bind fun t121=>(if t121 = true then ((contangoref23_Same.f k bt107.2.1 bt114.2.1).bind fun t122=>(if t122 = true then (if bt107.2.2 = bt114.2.2 then ((contangolaw23_goes.f k).bind fun t123=>(some t123)) else (none)) else (none))) else (none))) else (none)) else (none)))))) = some r:=by rw [if_pos rfl] at H;exact H
  clear H
  have H:=H1
  clear H1
  replace H:=Option.bind_eq_some_iff.mp H
  obtain ⟨⟨t103,t104⟩,A50,H⟩:=H
  replace H:((contangoref23_Delta.f k l0 l1).bind fun bt105=>((scan_Expiries.f k l0 l1).bind fun bt107=>((contangoref23_Expiries.f k l0 l1).bind fun bt114=>(if t103 = bt105.1 then (if t104 = bt105.2 then ((contangoref23_Same.f k bt107.1 bt114.1).bind fun t121=>(if t121 = true then ((contangoref23_Same.f k bt107.2.1 bt114.2.1).bind fun t122=>(if t122 = true then (if bt107.2.2 = bt114.2.2 then ((contangolaw23_goes.f k).bind fun t123=>(some t123)) else (none)) else (none))) else (none))) else (none)) else (none))))) = some r:=H
  have A5:=Aside0.mk A50
  clear A50
  replace H:=Option.bind_eq_some_iff.mp H
  obtain ⟨⟨t105,t106⟩,A60,H⟩:=H
  replace H:((scan_Expiries.f k l0 l1).bind fun bt107=>((contangoref23_Expiries.f k l0 l1).bind fun bt114=>(if t103 = t105 then (if t104 = t106 then ((contangoref23_Same.f k bt107.1 bt114.1).bind fun t121=>(if t121 = true then ((contangoref23_Same.f k bt107.2.1 bt114.2.1).bind fun t122=>(if t122 = true then (if bt107.2.2 = bt114.2.2 then ((contangolaw23_goes.f k).bind fun t123=>(some t123)) else (none)) else (none))) else (none))) else (none)) else (none)))) = some r:=H
  have A6:=Aside0.mk A60
  clear A60
  replace H:=Option.bind_eq_some_iff.mp H
  obtain ⟨⟨t107,t108,t109⟩,A70,H⟩:=H
  replace H:((contangoref23_Expiries.f k l0 l1).bind fun bt114=>(if t103 = t105 then (if t104 = t106 then ((contangoref23_Same.f k t107 bt114.1).bind fun t121=>(if t121 = true then ((contangoref23_Same.f k t108 bt114.2.1).bind fun t122=>(if t122 = true then (if t109 = bt114.2.2 then ((contangolaw23_goes.f k).bind fun t123=>(some t123)) else (none)) else (none))) else (none))) else (none)) else (none))) = some r:=H
  have A7:=Aside0.mk A70
  clear A70
  replace H:=Option.bind_eq_some_iff.mp H
  obtain ⟨⟨t114,t115,t116⟩,A80,H⟩:=H
  replace H:(if t103 = t105 then (if t104 = t106 then ((contangoref23_Same.f k t107 t114).bind fun t121=>(if t121 = true then ((contangoref23_Same.f k t108 t115).bind fun t122=>(if t122 = true then (if t109 = t116 then ((contangolaw23_goes.f k).bind fun t123=>(some t123)) else (none)) else (none))) else (none))) else (none)) else (none)) = some r:=H
  have A8:=Aside0.mk A80
  clear A80
  by_cases c9:t103 = t105
  ·rw [if_pos c9] at H
   have c9b0:(t103 == t105) = true:=beq_iff_eq.mpr c9
   have c9b1:(t103 != t105) = false:=bne_eq_false_iff_eq.mpr c9
   clear c9
   by_cases c10:t104 = t106
   ·rw [if_pos c10] at H
    have c10b0:(t104 == t106) = true:=beq_iff_eq.mpr c10
    have c10b1:(t104 != t106) = false:=bne_eq_false_iff_eq.mpr c10
    clear c10
    replace H:=Option.bind_eq_some_iff.mp H
    obtain ⟨t121,A110,H⟩:=H
    replace H:(if t121 = true then ((contangoref23_Same.f k t108 t115).bind fun t122=>(if t122 = true then (if t109 = t116 then ((contangolaw23_goes.f k).bind fun t123=>(some t123)) else (none)) else (none))) else (none)) = some r:=H
    have A11:=Aside0.mk A110
    clear A110
    by_cases c12:t121 = true
    ·subst c12
     have H1:((contangoref23_Same.f k t108 t115).bind fun t122=>(if t122 = true then (if t109 = t116 then ((contangolaw23_goes.f k).bind fun t123=>(some t123)) else (none)) else (none))) = some r:=by rw [if_pos rfl] at H;exact H
     clear H
     have H:=H1
     clear H1
     replace H:=Option.bind_eq_some_iff.mp H
     obtain ⟨t122,A130,H⟩:=H
     replace H:(if t122 = true then (if t109 = t116 then ((contangolaw23_goes.f k).bind fun t123=>(some t123)) else (none)) else (none)) = some r:=H
     have A13:=Aside0.mk A130
     clear A130
     by_cases c14:t122 = true
     ·subst c14
      have H1:(if t109 = t116 then ((contangolaw23_goes.f k).bind fun t123=>(some t123)) else (none)) = some r:=by rw [if_pos rfl] at H;exact H
      clear H
      have H:=H1
      clear H1
      by_cases c15:t109 = t116
      ·rw [if_pos c15] at H
       have c15b0:(t109 == t116) = true:=beq_iff_eq.mpr c15
       have c15b1:(t109 != t116) = false:=bne_eq_false_iff_eq.mpr c15
       clear c15
       replace H:=Option.bind_eq_some_iff.mp H
       obtain ⟨t123,A160,H⟩:=H
       replace H:(some t123) = some r:=H
       have A16:=Aside0.mk A160
       clear A160
       obtain rfl:=Option.some.inj H
       go_enter Try.func11,Try.ntmps11
       go_wp2_with (first|((with_reducible refine gate_callee (f:=24) rfl ?_);refine goesL_ (some 17) rfl rfl Try.func24 (by kernel_rfl) rfl #[.slice A0 l0.length c0,.slice A1 l1.length c1] rfl (by (try simp only [List.map_toArray,List.map_cons,List.map_nil]);first|done|rfl|(simp only [List.length_drop,List.length_take];rfl)) ?_;(with_reducible refine (contangolaw23_few.calls k _ _ l0 _ _ l1 true _ ?side1 ?side2 ?side3 ?side4 A3.out).mono ?_);(case side1=>repeat (first|exact HR0.out|(with_reducible refine Kd.C_alloc ?_ _)|(with_reducible refine Kd.C_drewN ?_ _)|(with_reducible refine Kd.C_drew ?_)));(case side2=>exact HC0.out);(case side3=>repeat (first|exact HR1.out|(with_reducible refine Kd.C_alloc ?_ _)|(with_reducible refine Kd.C_drewN ?_ _)|(with_reducible refine Kd.C_drew ?_)));(case side4=>exact HC1.out);rintro e w17 ⟨rfl,hb⟩;refine ⟨_,rfl,?_⟩;have n0_:=Aside0.mk (below_step (by repeat (first|(with_reducible first|exact HB.out|apply below_alloc|apply pw_below_drewN|apply below_drew1)|exact HB.out)) hb);clear HB;have HB:=n0_;clear n0_;(try clear hb);(try clear hb2);(try clear hk);(try clear hi))|((with_reducible refine gate_callee (f:=36) rfl ?_);refine goesL_ (some 23) rfl rfl Try.func36 (by kernel_rfl) rfl #[.slice A0 l0.length c0,.slice A1 l1.length c1] rfl (by (try simp only [List.map_toArray,List.map_cons,List.map_nil]);first|done|rfl|(simp only [List.length_drop,List.length_take];rfl)) ?_;(with_reducible refine (scan_Delta.calls k _ _ l0 _ _ l1 t103 t104 _ ?side1 ?side2 ?side3 ?side4 A5.out).mono ?_);(case side1=>repeat (first|exact (Kd.C_below HR0.out HB.out)|(with_reducible refine Kd.C_alloc ?_ _)|(with_reducible refine Kd.C_drewN ?_ _)|(with_reducible refine Kd.C_drew ?_)));(case side2=>exact HC0.out);(case side3=>repeat (first|exact (Kd.C_below HR1.out HB.out)|(with_reducible refine Kd.C_alloc ?_ _)|(with_reducible refine Kd.C_drewN ?_ _)|(with_reducible refine Kd.C_drew ?_)));(case side4=>exact HC1.out);rintro e w18 ⟨rfl,hb⟩;refine ⟨_,rfl,?_⟩;have n0_:=Aside0.mk (below_step (by repeat (first|(with_reducible first|exact HB.out|apply below_alloc|apply pw_below_drewN|apply below_drew1)|exact HB.out)) hb);clear HB;have HB:=n0_;clear n0_;(try clear hb);(try clear hb2);(try clear hk);(try clear hi))|((with_reducible refine gate_callee (f:=42) rfl ?_);refine goesL_ (some 29) rfl rfl Try.func42 (by kernel_rfl) rfl #[.slice A0 l0.length c0,.slice A1 l1.length c1] rfl (by (try simp only [List.map_toArray,List.map_cons,List.map_nil]);first|done|rfl|(simp only [List.length_drop,List.length_take];rfl)) ?_;(with_reducible refine (contangoref23_Delta.calls k _ _ l0 _ _ l1 t105 t106 _ ?side1 ?side2 ?side3 ?side4 A6.out).mono ?_);(case side1=>repeat (first|exact (Kd.C_below HR0.out HB.out)|(with_reducible refine Kd.C_alloc ?_ _)|(with_reducible refine Kd.C_drewN ?_ _)|(with_reducible refine Kd.C_drew ?_)));(case side2=>exact HC0.out);(case side3=>repeat (first|exact (Kd.C_below HR1.out HB.out)|(with_reducible refine Kd.C_alloc ?_ _)|(with_reducible refine Kd.C_drewN ?_ _)|(with_reducible refine Kd.C_drew ?_)));(case side4=>exact HC1.out);rintro e w19 ⟨rfl,hb⟩;refine ⟨_,rfl,?_⟩;have n0_:=Aside0.mk (below_step (by repeat (first|(with_reducible first|exact HB.out|apply below_alloc|apply pw_below_drewN|apply below_drew1)|exact HB.out)) hb);clear HB;have HB:=n0_;clear n0_;(try clear hb);(try clear hb2);(try clear hk);(try clear hi))|((with_reducible refine gate_callee (f:=43) rfl ?_);refine goesL_ (some 35) rfl rfl Try.func43 (by kernel_rfl) rfl #[.slice A0 l0.length c0,.slice A1 l1.length c1] rfl (by (try simp only [List.map_toArray,List.map_cons,List.map_nil]);first|done|rfl|(simp only [List.length_drop,List.length_take];rfl)) ?_;(with_reducible refine (scan_Expiries.calls k _ _ l0 _ _ l1 t107 t108 t109 _ ?side1 ?side2 ?side3 ?side4 A7.out).mono ?_);(case side1=>repeat (first|exact (Kd.C_below HR0.out HB.out)|(with_reducible refine Kd.C_alloc ?_ _)|(with_reducible refine Kd.C_drewN ?_ _)|(with_reducible refine Kd.C_drew ?_)));(case side2=>exact HC0.out);(case side3=>repeat (first|exact (Kd.C_below HR1.out HB.out)|(with_reducible refine Kd.C_alloc ?_ _)|(with_reducible refine Kd.C_drewN ?_ _)|(with_reducible refine Kd.C_drew ?_)));(case side4=>exact HC1.out);rintro e w20 ⟨v110,v112,rfl,ho0,ho1,hb⟩;refine ⟨_,rfl,?_⟩;have n0_:=Aside0.mk (Kd.R_lower ho0 (below_size (by repeat (first|(with_reducible first|exact HB.out|apply below_alloc|apply pw_below_drewN|apply below_drew1)|exact HB.out))));have n1_:=Aside0.mk (Kd.R_lower ho1 (below_size (by repeat (first|(with_reducible first|exact HB.out|apply below_alloc|apply pw_below_drewN|apply below_drew1)|exact HB.out))));have n2_:=Aside0.mk (below_step (by repeat (first|(with_reducible first|exact HB.out|apply below_alloc|apply pw_below_drewN|apply below_drew1)|exact HB.out)) hb);clear HB;have HO111:=n0_;have HO113:=n1_;have HB:=n2_;clear n0_ n1_ n2_;(try clear hb);(try clear hb2);(try clear hk);(try clear hi);(try clear ho0);(try clear ho1))|((with_reducible refine gate_callee (f:=44) rfl ?_);refine goesL_ (some 42) rfl rfl Try.func44 (by kernel_rfl) rfl #[.slice A0 l0.length c0,.slice A1 l1.length c1] rfl (by (try simp only [List.map_toArray,List.map_cons,List.map_nil]);first|done|rfl|(simp only [List.length_drop,List.length_take];rfl)) ?_;(with_reducible refine (contangoref23_Expiries.calls k _ _ l0 _ _ l1 t114 t115 t116 _ ?side1 ?side2 ?side3 ?side4 A8.out).mono ?_);(case side1=>repeat (first|exact (Kd.C_below HR0.out HB.out)|(with_reducible refine Kd.C_alloc ?_ _)|(with_reducible refine Kd.C_drewN ?_ _)|(with_reducible refine Kd.C_drew ?_)));(case side2=>exact HC0.out);(case side3=>repeat (first|exact (Kd.C_below HR1.out HB.out)|(with_reducible refine Kd.C_alloc ?_ _)|(with_reducible refine Kd.C_drewN ?_ _)|(with_reducible refine Kd.C_drew ?_)));(case side4=>exact HC1.out);rintro e w21 ⟨v117,v119,rfl,ho0,ho1,hb⟩;refine ⟨_,rfl,?_⟩;have n0_:=Aside0.mk (Kd.R_mono (Kd.R_told (Kd.R_told (Kd.R_old (by (with_reducible repeat (first|apply Kd.R_alloc|apply Kd.R_drewN|apply Kd.R_drew));exact HO111.out) hb) (Kd.R_base ho0)) (Kd.R_base ho1)) (fun _ h_=>h_.1));have n1_:=Aside0.mk (Kd.R_mono (Kd.R_told (Kd.R_told (Kd.R_old (by (with_reducible repeat (first|apply Kd.R_alloc|apply Kd.R_drewN|apply Kd.R_drew));exact HO113.out) hb) (Kd.R_base ho0)) (Kd.R_base ho1)) (fun _ h_=>h_.1));have n2_:=Aside0.mk (Kd.R_lower (Kd.R_new' (Kd.R_new' ho0 (Kd.R_lt (by (with_reducible repeat (first|apply Kd.R_alloc|apply Kd.R_drewN|apply Kd.R_drew));exact HO111.out))) (Kd.R_lt (by (with_reducible repeat (first|apply Kd.R_alloc|apply Kd.R_drewN|apply Kd.R_drew));exact HO113.out))) (below_size (by repeat (first|(with_reducible first|exact HB.out|apply below_alloc|apply pw_below_drewN|apply below_drew1)|exact HB.out))));have n3_:=Aside0.mk (Kd.R_lower (Kd.R_new' (Kd.R_new' ho1 (Kd.R_lt (by (with_reducible repeat (first|apply Kd.R_alloc|apply Kd.R_drewN|apply Kd.R_drew));exact HO111.out))) (Kd.R_lt (by (with_reducible repeat (first|apply Kd.R_alloc|apply Kd.R_drewN|apply Kd.R_drew));exact HO113.out))) (below_size (by repeat (first|(with_reducible first|exact HB.out|apply below_alloc|apply pw_below_drewN|apply below_drew1)|exact HB.out))));have n4_:=Aside0.mk (below_step (by repeat (first|(with_reducible first|exact HB.out|apply below_alloc|apply pw_below_drewN|apply below_drew1)|exact HB.out)) hb);clear HO111;clear HO113;clear HB;have HO111:=n0_;have HO113:=n1_;have HO118:=n2_;have HO120:=n3_;have HB:=n4_;clear n0_ n1_ n2_ n3_ n4_;(try clear hb);(try clear hb2);(try clear hk);(try clear hi);(try clear ho0);(try clear ho1);obtain ⟨Ao22,co22,eo22⟩:=Kd.R_slice HO111.out;subst eo22;obtain ⟨Ao23,co23,eo23⟩:=Kd.R_slice HO118.out;subst eo23)|(go_at_call 33;(with_reducible refine (contangoref23_Same.calls k _ _ t107 _ _ t114 true _ ?side1 ?side2 ?side3 ?side4 A11.out).mono ?_);(case side1=>repeat (first|exact (Kd.R_reads' HO111.out).2.2|(with_reducible refine Kd.C_alloc ?_ _)|(with_reducible refine Kd.C_drewN ?_ _)|(with_reducible refine Kd.C_drew ?_)));(case side2=>exact (Kd.R_reads' HO111.out).2.1);(case side3=>repeat (first|exact (Kd.R_reads' HO118.out).2.2|(with_reducible refine Kd.C_alloc ?_ _)|(with_reducible refine Kd.C_drewN ?_ _)|(with_reducible refine Kd.C_drew ?_)));(case side4=>exact (Kd.R_reads' HO118.out).2.1);rintro e w' ⟨rfl,⟨nd,rfl⟩⟩;obtain ⟨Ao24,co24,eo24⟩:=Kd.R_slice HO113.out;subst eo24;obtain ⟨Ao25,co25,eo25⟩:=Kd.R_slice HO120.out;subst eo25)|(go_at_call 33;(with_reducible refine (contangoref23_Same.calls k _ _ t108 _ _ t115 true _ ?side1 ?side2 ?side3 ?side4 A13.out).mono ?_);(case side1=>repeat (first|exact (Kd.R_reads' HO113.out).2.2|(with_reducible refine Kd.C_alloc ?_ _)|(with_reducible refine Kd.C_drewN ?_ _)|(with_reducible refine Kd.C_drew ?_)));(case side2=>exact (Kd.R_reads' HO113.out).2.1);(case side3=>repeat (first|exact (Kd.R_reads' HO120.out).2.2|(with_reducible refine Kd.C_alloc ?_ _)|(with_reducible refine Kd.C_drewN ?_ _)|(with_reducible refine Kd.C_drew ?_)));(case side4=>exact (Kd.R_reads' HO120.out).2.1);rintro e w' ⟨rfl,⟨nd,rfl⟩⟩)|(go_at_call 25;(with_reducible refine (contangolaw23_goes.calls k  t123 _ A16.out).mono ?_);rintro e w26 ⟨rfl,hb⟩;have n0_:=Aside0.mk (Kd.R_below (by (with_reducible repeat (first|apply Kd.R_alloc|apply Kd.R_drewN|apply Kd.R_drew));exact HO111.out) hb);have n1_:=Aside0.mk (Kd.R_below (by (with_reducible repeat (first|apply Kd.R_alloc|apply Kd.R_drewN|apply Kd.R_drew));exact HO113.out) hb);have n2_:=Aside0.mk (Kd.R_below (by (with_reducible repeat (first|apply Kd.R_alloc|apply Kd.R_drewN|apply Kd.R_drew));exact HO118.out) hb);have n3_:=Aside0.mk (Kd.R_below (by (with_reducible repeat (first|apply Kd.R_alloc|apply Kd.R_drewN|apply Kd.R_drew));exact HO120.out) hb);have n4_:=Aside0.mk (below_step (by repeat (first|(with_reducible first|exact HB.out|apply below_alloc|apply pw_below_drewN|apply below_drew1)|exact HB.out)) hb);clear HO111;clear HO113;clear HO118;clear HO120;clear HB;have HO111:=n0_;have HO113:=n1_;have HO118:=n2_;have HO120:=n3_;have HB:=n4_;clear n0_ n1_ n2_ n3_ n4_;(try clear hb);(try clear hb2);(try clear hk);(try clear hi)))
       go_ret
       exact ⟨by first|rfl|(simp [errW_none,errW_some] <;> rfl)|(simp [*,errW_none,errW_some] <;> rfl),by repeat (first|(with_reducible first|exact HB.out|apply below_alloc|apply pw_below_drewN|apply below_drew1)|exact HB.out)⟩
      ·rw [if_neg c15] at H
       exact absurd H (by simp)
     ·replace c14:=Bool.eq_false_iff.mpr c14
      subst c14
      have H1:(none) = some r:=by rw [if_neg (show ¬ (false = true) by decide)] at H;exact H
      clear H
      have H:=H1
      clear H1
      exact absurd H (by simp)
    ·replace c12:=Bool.eq_false_iff.mpr c12
     subst c12
     have H1:(none) = some r:=by rw [if_neg (show ¬ (false = true) by decide)] at H;exact H
     clear H
     have H:=H1
     clear H1
     exact absurd H (by simp)
   ·rw [if_neg c10] at H
    exact absurd H (by simp)
  ·rw [if_neg c9] at H
   exact absurd H (by simp)
 ·replace c4:=Bool.eq_false_iff.mpr c4
  subst c4
  have H1:((contangolaw23_goes.f k).bind fun t102=>(some t102)) = some r:=by rw [if_neg (show ¬ (false = true) by decide)] at H;exact H
  clear H
  have H:=H1
  clear H1
  replace H:=Option.bind_eq_some_iff.mp H
  obtain ⟨t102,A270,H⟩:=H
  replace H:(some t102) = some r:=H
  have A27:=Aside0.mk A270
  clear A270
  obtain rfl:=Option.some.inj H
  go_enter Try.func11,Try.ntmps11
  go_wp2_with (first|((with_reducible refine gate_callee (f:=24) rfl ?_);refine goesL_ (some 17) rfl rfl Try.func24 (by kernel_rfl) rfl #[.slice A0 l0.length c0,.slice A1 l1.length c1] rfl (by (try simp only [List.map_toArray,List.map_cons,List.map_nil]);first|done|rfl|(simp only [List.length_drop,List.length_take];rfl)) ?_;(with_reducible refine (contangolaw23_few.calls k _ _ l0 _ _ l1 false _ ?side1 ?side2 ?side3 ?side4 A3.out).mono ?_);(case side1=>repeat (first|exact HR0.out|(with_reducible refine Kd.C_alloc ?_ _)|(with_reducible refine Kd.C_drewN ?_ _)|(with_reducible refine Kd.C_drew ?_)));(case side2=>exact HC0.out);(case side3=>repeat (first|exact HR1.out|(with_reducible refine Kd.C_alloc ?_ _)|(with_reducible refine Kd.C_drewN ?_ _)|(with_reducible refine Kd.C_drew ?_)));(case side4=>exact HC1.out);rintro e w28 ⟨rfl,hb⟩;refine ⟨_,rfl,?_⟩;have n0_:=Aside0.mk (below_step (by repeat (first|(with_reducible first|exact HB.out|apply below_alloc|apply pw_below_drewN|apply below_drew1)|exact HB.out)) hb);clear HB;have HB:=n0_;clear n0_;(try clear hb);(try clear hb2);(try clear hk);(try clear hi))|((with_reducible refine gate_callee (f:=25) rfl ?_);refine goesL_ (some 19) rfl rfl Try.func25 (by kernel_rfl) rfl #[] rfl (by (try simp only [List.map_toArray,List.map_cons,List.map_nil]);first|done|rfl|(simp only [List.length_drop,List.length_take];rfl)) ?_;(with_reducible refine (contangolaw23_goes.calls k  t102 _ A27.out).mono ?_);rintro e w29 ⟨rfl,hb⟩;refine ⟨_,rfl,?_⟩;have n0_:=Aside0.mk (below_step (by repeat (first|(with_reducible first|exact HB.out|apply below_alloc|apply pw_below_drewN|apply below_drew1)|exact HB.out)) hb);clear HB;have HB:=n0_;clear n0_;(try clear hb);(try clear hb2);(try clear hk);(try clear hi)))
  go_ret
  exact ⟨by first|rfl|(simp [errW_none,errW_some] <;> rfl)|(simp [*,errW_none,errW_some] <;> rfl),by repeat (first|(with_reducible first|exact HB.out|apply below_alloc|apply pw_below_drewN|apply below_drew1)|exact HB.out)⟩
end Go.Proofs.Ytbgeceiddcokmaa.X
end
section
namespace Go.Proofs.Ytbgeceiddcokmaa.Opn
open Go.ChangeShapes Go.WideShapes Go.Proofs.YtbgeceiddcokmaaW.PrintWords
set_option linter.unusedVariables false
set_option linter.unusedSimpArgs false
structure Opens (P:Program) (t:TypeId) {α:Type} (d:Kd α) (Ok:α → Prop):Prop where
  sz:d.sz = P.cellsOf t
  opens:∀ {H:Type} {enc:TypeId × Value → H} {w:World} {base:Nat} {spare:Nat → Bool} {held:Bool} {fuel:Nat} {cs:List Value} {x:DataW H × List MemPlace},
    DataW.trod enc P w base spare held fuel t cs = some x → (∀ n ∈ x.1.weights P t,n ≤ reachBytes) → ∃ v,d.K w v cs ∧ Ok v
theorem opens_int {P:Program} {t:TypeId} {k:IntKind} (ht:P.underlying t = some (.int k)) (hc:P.cellsOf t = 1):Opens P t (Kd.int k) (fun n=>(Lit.int k n).wf = true):=by
  refine ⟨hc.symm,fun h _=>?_⟩
  obtain ⟨n,rfl,_,hw⟩:=DataW.trod_int ht h
  exact ⟨n,rfl,hw⟩
theorem opens_string {P:Program} {t:TypeId} (ht:P.underlying t = some .string) (hc:P.cellsOf t = 1):Opens P t Kd.string (fun s=>s.size ≤ 140737488351232):=by
  refine ⟨hc.symm,fun h hw=>?_⟩
  obtain ⟨s,rfl,rfl,hs⟩:=DataW.trod_string ht h
  refine ⟨s,rfl,?_⟩
  have:=hw s.data.toList.length (by simp [DataW.weights])
  rw [Array.length_toList] at this
  exact this
theorem weights_all {H:Type} {P:Program} {e:TypeId}:∀ {ds:List (DataW H)} {j:Nat} {d:DataW H},ds[j]? = some d → ∀ n ∈ d.weights P e,n ∈ DataW.weightsAll P e ds
  | d0 :: ds,0,d,hd,n,hn=>by
    simp only [List.getElem?_cons_zero,Option.some.injEq] at hd
    subst hd
    simp only [DataW.weightsAll,List.mem_append]
    exact Or.inl hn
  | d0 :: ds,j + 1,d,hd,n,hn=>by
    simp only [List.getElem?_cons_succ] at hd
    simp only [DataW.weightsAll,List.mem_append]
    exact Or.inr (weights_all hd n hn)
  | [],_,_,hd,_,_=>by simp at hd
theorem list_of {α:Type} {n:Nat} {p:Nat → α → Prop} (h:∀ i,i < n → ∃ x,p i x):∃ l:List α,l.length = n ∧ ∀ i x,l[i]? = some x → p i x:=by
  induction n with
  | zero=>exact ⟨[],rfl,fun i x hx=>by simp at hx⟩
  | succ n ih =>
    obtain ⟨l,hl,hp⟩:=ih (fun i hi=>h i (by omega))
    obtain ⟨x,hx⟩:=h n (by omega)
    refine ⟨l ++ [x],by simp [hl],fun i y hy=>?_⟩
    by_cases hi:i < l.length
    · rw [List.getElem?_append_left hi] at hy
      exact hp i y hy
    · rw [List.getElem?_append_right (by omega)] at hy
      have:i - l.length = 0:=by
        cases hk:i - l.length with
        | zero=>rfl
        | succ m=>rw [hk] at hy;simp at hy
      rw [this] at hy
      simp at hy
      subst hy
      have:i = n:=by omega
      subst this
      exact hx
theorem opens_slice {P:Program} {t e:TypeId} {α:Type} {d:Kd α} {Ok:α → Prop} (h:Opens P e d Ok) (ht:P.underlying t = some (.slice e)) (hc:P.cellsOf t = 1) {B:Nat} (hB:P.bytesOf e = B) :
    Opens P t (Kd.slice e d) (fun l=>l.length ≤ maxLen ∧ l.length * B ≤ 140737488351232 ∧ ∀ x ∈ l,Ok x):=by
  subst hB
  refine ⟨hc.symm,fun {H enc w base spare held fuel cs x} hx hw=>?_⟩
  rcases DataW.trod_slice ht hx with ⟨rfl,rfl⟩|⟨a,len,cap,elems,rest,n,_,rfl,rfl,hb,hl,hm,hlen,hel,hsp,hns⟩
  · exact ⟨[],⟨none,0,rfl,Nat.le_refl _,Kd.C_nil _ _⟩,by simp⟩
  simp only [DataW.weights,ht] at hw
  have hw1:(elems.length + rest.length) * P.bytesOf e ≤ reachBytes:=by
    have:=hw ((elems.length + rest.length) * P.bytesOf e) (by simp)
    exact this
  have hone:∀ i,i < len → ∃ v:α,∃ c,w.cells? base (a.add (i * P.cellsOf e)) (P.cellsOf e) = some c ∧ d.K w v c ∧ Ok v:=by
    intro i hi
    have h1:=hel i hi
    rw [List.getElem?_eq_getElem (by omega)] at h1
    obtain ⟨c,hc1,hc2⟩:=Option.bind_eq_some_iff.1 h1
    obtain ⟨v,hv,hok⟩:=h.opens hc2 (fun n hn=>hw n (by
      simp only [List.mem_cons,List.mem_append]
      right;left
      refine weights_all (j:=i) ?_ n hn
      rw [List.getElem?_map,List.getElem?_eq_getElem (by omega)]
      rfl))
    exact ⟨v,c,hc1,hv,hok⟩
  obtain ⟨l,hl1,hl2⟩:=list_of hone
  subst hl1
  refine ⟨l,⟨some a,cap,rfl,hl,rfl,?_,fun _=>⟨a,rfl,fun j p hj=>?_⟩⟩,?_,?_,?_⟩
  · unfold maxLen at hm;omega
  · obtain ⟨c,hc1,hc2,_⟩:=hl2 j p hj
    obtain ⟨_,hlen2,hcell⟩:=World.cells?_some hc1
    refine ⟨c,by rw [h.sz];exact hlen2,hc2,fun i u hu=>?_⟩
    have hi:i < P.cellsOf e:=by
      have:=(List.getElem?_eq_some_iff.1 hu).1
      omega
    have:=hcell i hi
    rw [hu,← Deep.add_add,h.sz] at *
    exact this
  · exact Nat.le_trans hl hm
  · have h2:l.length * P.bytesOf e ≤ (elems.length + rest.length) * P.bytesOf e:=Nat.mul_le_mul_right _ (by omega)
    exact Nat.le_trans h2 hw1
  · intro x hx
    obtain ⟨j,hj⟩:=List.getElem?_of_mem hx
    obtain ⟨c,_,_,ho⟩:=hl2 j x hj
    exact ho
structure OpensF (P:Program) (fs:List Field) (off:Nat) {α:Type} (d:Kd α) (Ok:α → Prop):Prop where
  opens:∀ {H:Type} {enc:TypeId × Value → H} {w:World} {base:Nat} {spare:Nat → Bool} {held:Bool} {n:Nat} {cs:List Value} {xs:List (DataW H × List MemPlace)},
    xs.length = fs.length → (∀ (i:Nat) (f:Field),fs[i]? = some f → DataW.trod enc P w base spare held n f.type ((cs.drop f.offset).take (P.cellsOf f.type)) = xs[i]?) →
    (∀ m ∈ DataW.weightsEach P (fs.map (·.type)) (xs.map (·.1)),m ≤ reachBytes) → ∃ v,d.K w v ((cs.drop off).take d.sz) ∧ Ok v
theorem opensF_one {P:Program} {f:Field} {off:Nat} {α:Type} {d:Kd α} {Ok:α → Prop} (h:Opens P f.type d Ok) (ho:f.offset = off):OpensF P [f] off d Ok:=by
  refine ⟨fun {H enc w base spare held n cs xs} hl hx hw=>?_⟩
  match xs,hl with
  | [x],_ =>
    have h1:=hx 0 f rfl
    obtain ⟨v,hv,hok⟩:=h.opens h1 (fun n hn=>hw n (by simpa [DataW.weightsEach] using hn))
    refine ⟨v,?_,hok⟩
    rw [h.sz,← ho]
    exact hv
theorem opensF_cons {P:Program} {f:Field} {fs:List Field} {off:Nat} {α β:Type} {d:Kd α} {d':Kd β} {Ok:α → Prop} {Ok':β → Prop} (h:Opens P f.type d Ok) (ho:f.offset = off) (h':OpensF P fs (off + d.sz) d' Ok') :
    OpensF P (f :: fs) off (Kd.pair d d') (fun p=>Ok p.1 ∧ Ok' p.2):=by
  refine ⟨fun {H enc w base spare held n cs xs} hl hx hw=>?_⟩
  match xs,hl with
  | x :: xs,hl =>
    have h1:=hx 0 f rfl
    obtain ⟨v,hv,hok⟩:=h.opens h1 (fun n hn=>hw n (by
      simp only [List.map_cons,DataW.weightsEach,List.mem_append];exact Or.inl hn))
    obtain ⟨v',hv',hok'⟩:=h'.opens (cs:=cs) (xs:=xs) (by simpa using hl) (fun i g hg=>by
      have:=hx (i + 1) g (by simpa using hg)
      simpa using this) (fun m hm=>hw m (by simp only [List.map_cons,DataW.weightsEach,List.mem_append];exact Or.inr hm))
    refine ⟨(v,v'),⟨(cs.drop off).take d.sz,(cs.drop (off + d.sz)).take d'.sz,?_,?_,hv'⟩,hok,hok'⟩
    · show (cs.drop off).take (d.sz + d'.sz) = _
      rw [List.take_add,List.drop_drop]
    · rw [h.sz,← ho];exact hv
theorem opens_struct {P:Program} {t:TypeId} {fs:Array Field} {α β:Type} {d:Kd α} {Ok:α → Prop} (h:OpensF P fs.toList 0 d Ok) (ht:P.underlying t = some (.struct fs)) (hc:d.sz = P.cellsOf t) (f:β → α) (mk:α → β) (hf:∀ a,f (mk a) = a) :
    Opens P t (Kd.iso d f) (fun b=>Ok (f b)):=by
  refine ⟨hc,fun {H enc w base spare held fuel cs x} hx hw=>?_⟩
  obtain ⟨xs,n,_,rfl,hlen,hsz,hall⟩:=DataW.trod_struct ht hx
  simp only [DataW.weights,ht] at hw
  obtain ⟨v,hv,hok⟩:=h.opens (cs:=cs) (xs:=xs) (by simpa using hsz) (fun i f hf=>hall i f (by simpa using hf)) hw
  refine ⟨mk v,?_,by rw [hf];exact hok⟩
  show d.K w (f (mk v)) cs
  rw [hf]
  rw [List.drop_zero,hc,← hlen,List.take_length] at hv
  exact hv
theorem opens_imp {P:Program} {t:TypeId} {α:Type} {d:Kd α} {Ok Ok':α → Prop} (h:Opens P t d Ok) (hi:∀ v,Ok v → Ok' v):Opens P t d Ok' :=
  ⟨h.sz,fun hx hw=>let ⟨v,hv,ho⟩:=h.opens hx hw;⟨v,hv,hi v ho⟩⟩
end Go.Proofs.Ytbgeceiddcokmaa.Opn
end
section
namespace Go.Proofs.Ytbgeceiddcokmaa.X
open Go.RowKit Go.Proofs.YtbgeceiddcokmaaW.PrintWords Go.Proofs.YtbgeceiddcokmaaW.PrintLast Go.Proofs.YtbgeceiddcokmaaW.PrintMore
attribute [local go_sem] max2_int min2_int max_two min_two max_three min_three max_four min_four
set_option linter.unusedVariables false
set_option linter.unusedSimpArgs false
def ok39 (v:S39):Prop:=v.f0.size ≤ 140737488351232 ∧ ((Lit.int .i64 v.f1).wf = true ∧ ((Lit.int .i64 v.f2).wf = true ∧ ((Lit.int .i64 v.f3).wf = true)))
theorem opens39:Opn.Opens Try.prog 39 k39 ok39:=by
 have hu:=Try.underlying39
 refine Opn.opens_imp (Opn.opens_struct (Ok:=fun (p:ByteArray × (Int × (Int × (Int))))=>p.1.size ≤ 140737488351232 ∧ ((Lit.int .i64 p.2.1).wf = true ∧ ((Lit.int .i64 p.2.2.1).wf = true ∧ ((Lit.int .i64 p.2.2.2).wf = true)))) ?hF hu (by kernel_rfl) (fun x:S39=>(x.f0,x.f1,x.f2,x.f3)) (fun a=>⟨a.1,a.2.1,a.2.2.1,a.2.2.2⟩) (fun _=>rfl)) ?hI
 case hF =>
  refine Opn.opensF_cons (Ok:=fun (p:ByteArray)=>p.size ≤ 140737488351232) (Ok':=fun (p:Int × (Int × (Int)))=>(Lit.int .i64 p.1).wf = true ∧ ((Lit.int .i64 p.2.1).wf = true ∧ ((Lit.int .i64 p.2.2).wf = true))) (h:=?_) (ho:=?_) (h':=?_)
  ·exact Opn.opens_string Try.underlying9 (by kernel_rfl)
  ·rfl
  ·skip
   refine Opn.opensF_cons (Ok:=fun (p:Int)=>(Lit.int .i64 p).wf = true) (Ok':=fun (p:Int × (Int))=>(Lit.int .i64 p.1).wf = true ∧ ((Lit.int .i64 p.2).wf = true)) (h:=?_) (ho:=?_) (h':=?_)
   ·exact Opn.opens_int Try.underlying3 (by kernel_rfl)
   ·rfl
   ·skip
    refine Opn.opensF_cons (Ok:=fun (p:Int)=>(Lit.int .i64 p).wf = true) (Ok':=fun (p:Int)=>(Lit.int .i64 p).wf = true) (h:=?_) (ho:=?_) (h':=?_)
    ·exact Opn.opens_int Try.underlying3 (by kernel_rfl)
    ·rfl
    ·skip
     refine Opn.opensF_one (Ok:=fun (p:Int)=>(Lit.int .i64 p).wf = true) (h:=?_) (ho:=?_)
     ·exact Opn.opens_int Try.underlying3 (by kernel_rfl)
     ·rfl
 case hI=>exact fun v h=>h
def ok91 (v:S91):Prop:=ok39 v.f0 ∧ ((v.f1.length ≤ maxLen ∧ v.f1.length * 8 ≤ 140737488351232 ∧ ∀ x ∈ v.f1,(Lit.int .i64 x).wf = true) ∧ ((Lit.int .i64 v.f2).wf = true))
theorem opens91:Opn.Opens Try.prog 91 k91 ok91:=by
 have hu:=Try.underlying91
 refine Opn.opens_imp (Opn.opens_struct (Ok:=fun (p:S39 × (List Int × (Int)))=>ok39 p.1 ∧ ((p.2.1.length ≤ maxLen ∧ p.2.1.length * 8 ≤ 140737488351232 ∧ ∀ x ∈ p.2.1,(Lit.int .i64 x).wf = true) ∧ ((Lit.int .i64 p.2.2).wf = true))) ?hF hu (by kernel_rfl) (fun x:S91=>(x.f0,x.f1,x.f2)) (fun a=>⟨a.1,a.2.1,a.2.2⟩) (fun _=>rfl)) ?hI
 case hF =>
  refine Opn.opensF_cons (Ok:=fun (p:S39)=>ok39 p) (Ok':=fun (p:List Int × (Int))=>(p.1.length ≤ maxLen ∧ p.1.length * 8 ≤ 140737488351232 ∧ ∀ x ∈ p.1,(Lit.int .i64 x).wf = true) ∧ ((Lit.int .i64 p.2).wf = true)) (h:=?_) (ho:=?_) (h':=?_)
  ·exact opens39
  ·rfl
  ·skip
   refine Opn.opensF_cons (Ok:=fun (p:List Int)=>(p.length ≤ maxLen ∧ p.length * 8 ≤ 140737488351232 ∧ ∀ x ∈ p,(Lit.int .i64 x).wf = true)) (Ok':=fun (p:Int)=>(Lit.int .i64 p).wf = true) (h:=?_) (ho:=?_) (h':=?_)
   ·exact Opn.opens_slice (Opn.opens_int Try.underlying3 (by kernel_rfl)) Try.underlying23 (by kernel_rfl) (B:=8) (by kernel_rfl)
   ·rfl
   ·skip
    refine Opn.opensF_one (Ok:=fun (p:Int)=>(Lit.int .i64 p).wf = true) (h:=?_) (ho:=?_)
    ·exact Opn.opens_int Try.underlying3 (by kernel_rfl)
    ·rfl
 case hI=>exact fun v h=>h
def ok73 (v:S73):Prop:=ok39 v.f0 ∧ ((Lit.int .i64 v.f1).wf = true ∧ ((Lit.int .i64 v.f2).wf = true))
theorem opens73:Opn.Opens Try.prog 73 k73 ok73:=by
 have hu:=Try.underlying73
 refine Opn.opens_imp (Opn.opens_struct (Ok:=fun (p:S39 × (Int × (Int)))=>ok39 p.1 ∧ ((Lit.int .i64 p.2.1).wf = true ∧ ((Lit.int .i64 p.2.2).wf = true))) ?hF hu (by kernel_rfl) (fun x:S73=>(x.f0,x.f1,x.f2)) (fun a=>⟨a.1,a.2.1,a.2.2⟩) (fun _=>rfl)) ?hI
 case hF =>
  refine Opn.opensF_cons (Ok:=fun (p:S39)=>ok39 p) (Ok':=fun (p:Int × (Int))=>(Lit.int .i64 p.1).wf = true ∧ ((Lit.int .i64 p.2).wf = true)) (h:=?_) (ho:=?_) (h':=?_)
  ·exact opens39
  ·rfl
  ·skip
   refine Opn.opensF_cons (Ok:=fun (p:Int)=>(Lit.int .i64 p).wf = true) (Ok':=fun (p:Int)=>(Lit.int .i64 p).wf = true) (h:=?_) (ho:=?_) (h':=?_)
   ·exact Opn.opens_int Try.underlying3 (by kernel_rfl)
   ·rfl
   ·skip
    refine Opn.opensF_one (Ok:=fun (p:Int)=>(Lit.int .i64 p).wf = true) (h:=?_) (ho:=?_)
    ·exact Opn.opens_int Try.underlying3 (by kernel_rfl)
    ·rfl
 case hI=>exact fun v h=>h
end Go.Proofs.Ytbgeceiddcokmaa.X
end
section
namespace Go.Proofs.Ytbgeceiddcokmaa.P
open Go.RowKit Go.Proofs.YtbgeceiddcokmaaW.PrintWords Go.Proofs.YtbgeceiddcokmaaW.PrintMore Go.Proofs.Ytbgeceiddcokmaa.X
theorem Ev_succ {α:Type} {g:Nat → Option α} {r:α} (h:Ev (fun k=>g (k + 1)) r):Ev g r:=Ev.step (fun _=>rfl) h
theorem Ev_bind {α β:Type} {g:Nat → Option α} {f:Nat → α → Option β} {a:α} {r:β} (h:Ev g a) (k:Ev (fun n=>f n a) r):Ev (fun n=>(g n).bind (f n)) r:=Ev.bind h k
theorem Ev_id {α:Type} {g:Nat → Option α} {r:α} (h:Ev g r):Ev (fun n=>(g n).bind fun x=>some x) r:=Ev.bind h (Ev.now _)
theorem w_id {x:Int} (h1:-9223372036854775808 ≤ x) (h2:x ≤ 9223372036854775807):wrap64 x = x:=by unfold wrap64;omega
theorem w_succ {i n:Nat} (h:i < n) (hn:n ≤ 9223372036854775807):wrap64 ((i:Int) + 1) = ((i + 1:Nat):Int):=by rw [w_id (by omega) (by omega)];omega
theorem w_pred {i:Nat} (h:0 < i) (hn:i ≤ 9223372036854775807):wrap64 ((i:Int) - 1) = ((i - 1:Nat):Int):=by rw [w_id (by omega) (by omega)];omega
theorem rd_nat (xs:List Int) (i:Nat) (h:i < xs.length):rd xs (i:Int) = xs[i]:=by simp [rd,h]
theorem drop_cons {α:Type} (l:List α) (i:Nat) (h:i < l.length):l.drop i = l[i] :: l.drop (i + 1):=(List.getElem_cons_drop h).symm
end Go.Proofs.Ytbgeceiddcokmaa.P
end
section
namespace Go.Proofs.Ytbgeceiddcokmaa.P
set_option linter.unusedVariables false
set_option linter.unusedSimpArgs false
open Go.RowKit Go.Proofs.YtbgeceiddcokmaaW.PrintWords Go.Proofs.YtbgeceiddcokmaaW.PrintMore Go.Proofs.Ytbgeceiddcokmaa.X
abbrev Ser:=S39
abbrev Pos:=S73
def cmpI (a b:Int):Int:=if a < b then -1 else if a > b then 1 else 0
def cmpB (a b:ByteArray):Int:=if (Op.bytesLess a.toList b.toList) = true then -1 else if (Op.bytesLess b.toList a.toList) = true then 1 else 0
def cmpS (a b:Ser):Int :=
 if a.f0.toList = b.f0.toList then (if a.f2 = b.f2 then (if a.f1 = b.f1 then cmpI a.f3 b.f3 else cmpI a.f1 b.f1) else cmpI a.f2 b.f2) else cmpB a.f0 b.f0
theorem cmpI_f (a b:Int):cmp_Compare_int.f a b = some (cmpI a b):=by
 unfold cmp_Compare_int.f cmp_isNaN_int.f cmpI
 simp only [bne_self_eq_false,Option.bind_some,Bool.false_eq_true,if_false]
 split
 ·rfl
 ·split <;> rfl
theorem cmpB_f (a b:ByteArray):cmp_Compare_string.f a b = some (cmpB a b):=by
 unfold cmp_Compare_string.f cmp_isNaN_string.f cmpB
 simp only [bne_self_eq_false,Option.bind_some,Bool.false_eq_true,if_false]
 split
 ·rfl
 ·split <;> rfl
theorem cmpS_f (a b:Ser):series_Compare.f a.f0 a.f1 a.f2 a.f3 b.f0 b.f1 b.f2 b.f3 = some (cmpS a b):=by
 unfold series_Compare.f cmpS
 simp only [cmpI_f,cmpB_f,Option.bind_some]
 by_cases h0:a.f0.toList = b.f0.toList
 ·by_cases h2:a.f2 = b.f2
  ·by_cases h1:a.f1 = b.f1
   ·by_cases h3:a.f3 = b.f3
    ·simp [h0,h1,h2,h3,cmpI]
    ·simp [h0,h1,h2,h3]
   ·simp [h0,h1,h2]
  ·simp [h0,h2]
 ·simp [h0]
def eqS (a b:Ser):Bool:=a.f0.toList == b.f0.toList && (a.f1 == b.f1 && (a.f2 == b.f2 && a.f3 == b.f3))
def lots (n:Int):Bool:=decide (0 ≤ n) && decide (n ≤ 1048576)
theorem lots_f (n:Int):position_lots.f n = some (lots n):=by
 unfold position_lots.f lots
 by_cases h:n ≥ 0
 ·rw [if_pos h,decide_eq_true (show 0 ≤ n from h),Bool.true_and]
 ·rw [if_neg h,decide_eq_false (show ¬ 0 ≤ n from h),Bool.false_and]
def posBad (p:Pos):Bool:=!(lots p.f1) || !(lots p.f2) || (decide (p.f1 = 0) && decide (p.f2 = 0))
def behind (prev:Option Ser) (s:Ser):Bool:=match prev with|some q=>decide (cmpS q s ≥ 0)|none=>false
def posGo:Option Ser → List Pos → Int
 | _,[]=>0
 | prev,p :: r=>if behind prev p.f0 = true then 19 else if posBad p = true then 18 else posGo (some p.f0) r
def posCheck (l:List Pos):Int:=if l.length > 128 then 8 else posGo none l
def prevOf (l:List Pos) (i:Nat):Option Ser:=if i = 0 then none else (l[i - 1]?).map (·.f0)
theorem rdPos (l:List Pos) (i:Nat) (h:i < l.length):rd_T73 l (i:Int) = l[i]:=by simp [rd_T73,h]
theorem posJ (l:List Pos) (i:Nat) (b:Bool) (p:Pos) (r:Int)
  (h:b = false → posBad p = false → Ev (fun k=>position_Check.l0 k l l l.length (wrap64 ((i:Int) + 1))) r) :
  Ev (fun k=>position_Check.j1 k l l l.length i b p.f0.f0 p.f0.f1 p.f0.f2 p.f0.f3 p.f1 p.f2) (if b = true then 19 else if posBad p = true then 18 else r):=by
 refine Ev_succ ?_
 simp only [position_Check.j1,lots_f,Option.bind_some]
 cases b with
 | true=>exact Ev.now _
 | false =>
  simp only [Bool.false_eq_true,if_false]
  cases h1:lots p.f1 with
  | false=>simp only [posBad,h1,Bool.not_false,Bool.true_or,if_true,Bool.false_eq_true,if_false];exact Ev.now _
  | true =>
   cases h2:lots p.f2 with
   | false=>simp only [posBad,h1,h2,Bool.not_false,Bool.not_true,Bool.true_or,Bool.or_true,if_true,Bool.false_eq_true,if_false];exact Ev.now _
   | true =>
    simp only [if_true]
    by_cases z1:p.f1 = 0
    ·by_cases z2:p.f2 = 0
     ·have hb:posBad p = true:=by simp [posBad,z1,z2]
      simp only [hb,if_true,if_pos z1,if_pos z2]
      exact Ev.now _
     ·have hb:posBad p = false:=by simp only [posBad,h1,h2];simp [z2]
      simp only [hb,Bool.false_eq_true,if_false,if_neg z2,ite_self]
      exact h rfl hb
    ·have hb:posBad p = false:=by simp only [posBad,h1,h2];simp [z1]
     simp only [hb,Bool.false_eq_true,if_false,if_neg z1]
     exact h rfl hb
theorem posLoop (l:List Pos) (hl:l.length ≤ 4611686018427387904):∀ (d i:Nat),i + d = l.length → Ev (fun k=>position_Check.l0 k l l l.length i) (posGo (prevOf l i) (l.drop i))
 | 0,i,hd=>by
  refine Ev_succ ?_
  simp only [position_Check.l0,if_neg (show ¬ ((i:Int) < (l.length:Int)) by omega)]
  rw [List.drop_of_length_le (by omega)]
  exact Ev.now _
 | d + 1,i,hd=>by
  have hi:i < l.length:=by omega
  have ih:=posLoop l hl d (i + 1) (by omega)
  rw [← w_succ hi (by omega)] at ih
  have hprev:prevOf l (i + 1) = some l[i].f0:=by simp [prevOf,hi]
  rw [hprev] at ih
  rw [drop_cons l i hi]
  refine Ev_succ ?_
  simp only [position_Check.l0,if_pos (show (i:Int) < (l.length:Int) by omega),if_pos (show 0 ≤ (i:Int) by omega),rdPos l i hi]
  by_cases h0:i = 0
  ·subst h0
   simp only [if_neg (show ¬ (((0:Nat):Int) > 0) by omega)]
   exact posJ l 0 false l[0] _ (fun _ _=>ih)
  ·have hp:=w_pred (show 0 < i by omega) (by omega)
   simp only [if_pos (show ((i:Int) > 0) by omega),hp,if_pos (show 0 ≤ ((i - 1:Nat):Int) by omega),if_pos (show ((i - 1:Nat):Int) < (l.length:Int) by omega),rdPos l (i - 1) (by omega),cmpS_f,Option.bind_some]
   have hb:behind (prevOf l i) l[i].f0 = decide (cmpS l[i - 1].f0 l[i].f0 ≥ 0):=by
    simp [behind,prevOf,h0,show i - 1 < l.length by omega]
   simp only [posGo,hb]
   exact posJ l i _ l[i] _ (fun _ _=>ih)
theorem posCheck_f (l:List Pos) (hl:l.length ≤ 4611686018427387904):Ev (fun k=>position_Check.f k l) (posCheck l):=by
 unfold position_Check.f posCheck
 by_cases h:l.length > 128
 ·simp only [if_pos (show (l.length:Int) > 128 by omega),if_pos h]
  exact Ev.now _
 ·simp only [if_neg (show ¬ ((l.length:Int) > 128) by omega),if_neg h]
  exact posLoop l hl l.length 0 (by omega)
end Go.Proofs.Ytbgeceiddcokmaa.P
end
section
namespace Go.Proofs.Ytbgeceiddcokmaa.P
set_option linter.unusedVariables false
set_option linter.unusedSimpArgs false
open Go.RowKit Go.Proofs.YtbgeceiddcokmaaW.PrintWords Go.Proofs.YtbgeceiddcokmaaW.PrintMore Go.Proofs.Ytbgeceiddcokmaa.X
abbrev Arr:=S91
theorem rdArr (l:List Arr) (i:Nat) (h:i < l.length):rd_T91 l (i:Int) = l[i]:=by simp [rd_T91,h]
def lossBad (x:Int):Bool:=decide (x < -68719476736) || decide (x > 68719476736)
def deltaBad (x:Int):Bool:=decide (x < -1000) || decide (x > 1000)
def lenBad (n m:Nat):Bool:=decide (m < 1) || decide (m > 32) || !(decide (m = n))
def arrErr (n:Nat) (a:Arr):Int:=if lenBad n a.f1.length = true then 27 else if a.f1.any lossBad = true then 3 else if deltaBad a.f2 = true then 2 else 0
def scanGo (n:Nat):Option Ser → List Arr → Int
 | _,[]=>0
 | prev,a :: r=>if behind prev a.f0 = true then 19 else if arrErr n a ≠ 0 then arrErr n a else scanGo n (some a.f0) r
def scanN (l:List Arr):Nat:=match l with|[]=>0|a :: _=>a.f1.length
def scanCheck (l:List Arr):Int:=if l.length > 128 then 8 else scanGo (scanN l) none l
def prevOfA (l:List Arr) (i:Nat):Option Ser:=if i = 0 then none else (l[i - 1]?).map (·.f0)
theorem scanL1 (l:List Arr) (i:Nat) (ls ls':List Int) (b0:ByteArray) (b1 b2 b3 dl:Int) (r:Int) (hl:ls.length ≤ 4611686018427387904)
  (h:ls.any lossBad = false → deltaBad dl = false → Ev (fun k=>scan_Check.l0 k l l l.length (wrap64 ((i:Int) + 1))) r):∀ (d j:Nat),j + d = ls.length → (ls.take j).any lossBad = false →
  Ev (fun k=>scan_Check.l1 k l l l.length i ls ls.length j b0 b1 b2 b3 ls' dl) (if (ls.drop j).any lossBad = true then 3 else if deltaBad dl = true then 2 else r)
 | 0,j,hd,ht=>by
  refine Ev_succ ?_
  rw [List.drop_of_length_le (by omega)]
  simp only [scan_Check.l1,if_neg (show ¬ ((j:Int) < (ls.length:Int)) by omega),List.any_nil,Bool.false_eq_true,if_false]
  have hall:ls.any lossBad = false:=by rw [List.take_of_length_le (by omega)] at ht;exact ht
  by_cases c1:dl < -1000
  ·simp only [if_pos c1,deltaBad,decide_eq_true c1,Bool.true_or,if_true];exact Ev.now _
  ·by_cases c2:dl > 1000
   ·simp only [if_neg c1,if_pos c2,deltaBad,decide_eq_true c2,Bool.or_true,if_true];exact Ev.now _
   ·have hb:deltaBad dl = false:=by simp only [deltaBad,decide_eq_false c1,decide_eq_false c2];rfl
    simp only [if_neg c1,if_neg c2,hb,Bool.false_eq_true,if_false]
    exact h hall hb
 | d + 1,j,hd,ht=>by
  have hj:j < ls.length:=by omega
  rw [drop_cons ls j hj]
  refine Ev_succ ?_
  simp only [scan_Check.l1,if_pos (show (j:Int) < (ls.length:Int) by omega),if_pos (show 0 ≤ (j:Int) by omega),rd_nat ls j hj,List.any_cons]
  by_cases c1:ls[j] < -68719476736
  ·simp only [if_pos c1,lossBad,decide_eq_true c1,Bool.true_or,if_true];exact Ev.now _
  ·by_cases c2:ls[j] > 68719476736
   ·simp only [if_neg c1,if_pos c2,lossBad,decide_eq_true c2,Bool.true_or,Bool.or_true,if_true];exact Ev.now _
   ·have hb:lossBad ls[j] = false:=by simp only [lossBad,decide_eq_false c1,decide_eq_false c2];rfl
    have ih:=scanL1 l i ls ls' b0 b1 b2 b3 dl r hl h d (j + 1) (by omega) (by rw [List.take_succ_eq_append_getElem hj,List.any_append,ht];simp [hb])
    rw [← w_succ hj (by omega)] at ih
    simp only [if_neg c1,if_neg c2,hb,Bool.false_or]
    exact ih
theorem scanJ (l:List Arr) (hl:0 < l.length) (hl2:l.length ≤ 4611686018427387904) (i:Nat) (b:Bool) (a:Arr) (ha:a.f1.length ≤ 4611686018427387904) (r:Int)
  (h:b = false → arrErr (scanN l) a = 0 → Ev (fun k=>scan_Check.l0 k l l l.length (wrap64 ((i:Int) + 1))) r) :
  Ev (fun k=>scan_Check.j1 k l l l.length i b a.f0.f0 a.f0.f1 a.f0.f2 a.f0.f3 a.f1 a.f2) (if b = true then 19 else if arrErr (scanN l) a ≠ 0 then arrErr (scanN l) a else r):=by
 have hn:(((rd_T91 l 0).f1).length:Int) = (scanN l:Int):=by
  cases l with
  | nil=>simp at hl
  | cons x t=>rfl
 have hj2:∀ c:Bool,c = lenBad (scanN l) a.f1.length → b = false → Ev (fun k=>scan_Check.j2 k l l l.length i c a.f0.f0 a.f0.f1 a.f0.f2 a.f0.f3 a.f1 a.f2) (if arrErr (scanN l) a ≠ 0 then arrErr (scanN l) a else r):=by
  intro c hc hb
  refine Ev_succ ?_
  simp only [scan_Check.j2]
  cases hcc:lenBad (scanN l) a.f1.length with
  | true =>
   have:arrErr (scanN l) a = 27:=by simp [arrErr,hcc]
   simp only [hc,hcc,if_true,this]
   exact Ev.now _
  | false =>
   simp only [hc,hcc,Bool.false_eq_true,if_false]
   have key:=scanL1 l i a.f1 a.f1 a.f0.f0 a.f0.f1 a.f0.f2 a.f0.f3 a.f2 r ha (fun h1 h2=>h hb (by simp [arrErr,hcc,h1,h2])) a.f1.length 0 (by omega) (by simp)
   rw [List.drop_zero] at key
   have e:(if a.f1.any lossBad = true then (3:Int) else if deltaBad a.f2 = true then 2 else r) = (if arrErr (scanN l) a ≠ 0 then arrErr (scanN l) a else r):=by
    unfold arrErr
    simp only [hcc,Bool.false_eq_true,if_false]
    by_cases h1:a.f1.any lossBad = true
    ·simp [h1]
    ·by_cases h2:deltaBad a.f2 = true
     ·simp [h1,h2]
     ·simp [h1,h2]
   rw [e] at key
   exact key
 refine Ev_succ ?_
 simp only [scan_Check.j1]
 cases hb:b with
 | true=>exact Ev.now _
 | false =>
  simp only [Bool.false_eq_true,if_false,hn]
  by_cases c1:(a.f1.length:Int) < 1
  ·simp only [if_pos c1]
   exact hj2 true (by have e1:decide (a.f1.length < 1) = true:=decide_eq_true (by omega);simp only [lenBad,e1,Bool.true_or]) hb
  ·by_cases c2:(a.f1.length:Int) > 32
   ·simp only [if_neg c1,if_pos c2]
    exact hj2 true (by have e1:decide (a.f1.length > 32) = true:=decide_eq_true (by omega);simp only [lenBad,e1,Bool.true_or,Bool.or_true]) hb
   ·simp only [if_neg c1,if_neg c2,if_pos (show 0 < (l.length:Int) by omega)]
    refine hj2 _ ?_ hb
    have e1:decide (a.f1.length < 1) = false:=decide_eq_false (by omega)
    have e2:decide (a.f1.length > 32) = false:=decide_eq_false (by omega)
    simp only [lenBad,e1,e2,Bool.false_or]
    by_cases e:a.f1.length = scanN l
    ·simp [e]
    ·have e':¬ ((a.f1.length:Int) = (scanN l:Int)):=by omega
     rw [decide_eq_false e,bne_iff_ne.2 e']
     rfl
theorem scanLoop (l:List Arr) (hl2:l.length ≤ 4611686018427387904) (ha:∀ a ∈ l,a.f1.length ≤ 4611686018427387904):∀ (d i:Nat),i + d = l.length → Ev (fun k=>scan_Check.l0 k l l l.length i) (scanGo (scanN l) (prevOfA l i) (l.drop i))
 | 0,i,hd=>by
  refine Ev_succ ?_
  simp only [scan_Check.l0,if_neg (show ¬ ((i:Int) < (l.length:Int)) by omega)]
  rw [List.drop_of_length_le (by omega)]
  exact Ev.now _
 | d + 1,i,hd=>by
  have hi:i < l.length:=by omega
  have ih:=scanLoop l hl2 ha d (i + 1) (by omega)
  rw [← w_succ hi (by omega)] at ih
  have hprev:prevOfA l (i + 1) = some l[i].f0:=by simp [prevOfA,hi]
  rw [hprev] at ih
  rw [drop_cons l i hi]
  refine Ev_succ ?_
  simp only [scan_Check.l0,if_pos (show (i:Int) < (l.length:Int) by omega),if_pos (show 0 ≤ (i:Int) by omega),rdArr l i hi]
  by_cases h0:i = 0
  ·subst h0
   simp only [if_neg (show ¬ (((0:Nat):Int) > 0) by omega)]
   exact scanJ l hi hl2 0 false l[0] (ha _ (List.getElem_mem hi)) _ (fun _ _=>ih)
  ·have hp:=w_pred (show 0 < i by omega) (by omega)
   simp only [if_pos (show ((i:Int) > 0) by omega),hp,if_pos (show 0 ≤ ((i - 1:Nat):Int) by omega),if_pos (show ((i - 1:Nat):Int) < (l.length:Int) by omega),rdArr l (i - 1) (by omega),cmpS_f,Option.bind_some]
   have hb:behind (prevOfA l i) l[i].f0 = decide (cmpS l[i - 1].f0 l[i].f0 ≥ 0):=by
    simp [behind,prevOfA,h0,show i - 1 < l.length by omega]
   simp only [scanGo,hb]
   exact scanJ l (by omega) hl2 i _ l[i] (ha _ (List.getElem_mem hi)) _ (fun _ _=>ih)
theorem scanCheck_f (l:List Arr) (hl:l.length ≤ 4611686018427387904) (ha:∀ a ∈ l,a.f1.length ≤ 4611686018427387904):Ev (fun k=>scan_Check.f k l) (scanCheck l):=by
 unfold scan_Check.f scanCheck
 by_cases h:l.length > 128
 ·simp only [if_pos (show (l.length:Int) > 128 by omega),if_pos h]
  exact Ev.now _
 ·simp only [if_neg (show ¬ ((l.length:Int) > 128) by omega),if_neg h]
  exact scanLoop l hl ha l.length 0 (by omega)
def both (l:List Pos) (arrays:List Arr):Int:=if scanCheck arrays = 0 then posCheck l else scanCheck arrays
theorem both_f (l:List Pos) (r:List Arr) (hl:l.length ≤ 4611686018427387904) (hr:r.length ≤ 4611686018427387904) (ha:∀ a ∈ r,a.f1.length ≤ 4611686018427387904):Ev (fun k=>scan_both.f k l r) (both l r):=by
 unfold scan_both.f both
 refine Ev_bind (scanCheck_f r hr ha) ?_
 by_cases h:scanCheck r = 0
 ·simp only [if_pos h];exact Ev_id (posCheck_f l hl)
 ·simp only [if_neg h];exact Ev.now _
def findA (r:List Arr) (s:Ser):Option Arr:=r.find? (fun a=>eqS a.f0 s)
def ownA (r:List Arr):List Pos → Option (List Arr)
 | []=>some []
 | p :: t=>(findA r p.f0).bind fun a=>(ownA r t).map fun o=>a :: o
def foundE (acc:List Arr):Option (List Arr) → List Arr × Int
 | some o=>(acc ++ o,0)
 | none=>([],11)
theorem foundL1 (r:List Arr) (hr:r.length ≤ 4611686018427387904) (acc:List Arr) (hacc:acc.length < 1954687338268) (l:List Pos) (i:Nat) (p:Pos) (res:List Arr × Int) (hn:findA r p.f0 = none → res = ([],11))
  (h:∀ a,findA r p.f0 = some a → Ev (fun k=>scan_found.l0 k r (acc ++ [a]) l l.length (wrap64 ((i:Int) + 1))) res):∀ (d j:Nat),j + d = r.length → findA r p.f0 = findA (r.drop j) p.f0 →
  Ev (fun k=>scan_found.l1 k r acc l l.length i r r.length j p.f0.f0 p.f0.f1 p.f0.f2 p.f0.f3 p.f1 p.f2) res
 | 0,j,hd,hf=>by
  refine Ev_succ ?_
  simp only [scan_found.l1,if_neg (show ¬ ((j:Int) < (r.length:Int)) by omega)]
  rw [List.drop_of_length_le (by omega)] at hf
  rw [hn (by rw [hf];rfl)]
  exact Ev.now _
 | d + 1,j,hd,hf=>by
  have hj:j < r.length:=by omega
  refine Ev_succ ?_
  simp only [scan_found.l1,if_pos (show (j:Int) < (r.length:Int) by omega),if_pos (show 0 ≤ (j:Int) by omega),rdArr r j hj]
  rw [drop_cons r j hj] at hf
  cases he:eqS r[j].f0 p.f0 with
  | true =>
   have he2:(r[j].f0.f0.toList == p.f0.f0.toList && (r[j].f0.f1 == p.f0.f1 && (r[j].f0.f2 == p.f0.f2 && (r[j].f0.f3 == p.f0.f3)))) = true:=he
   simp only [he2,if_true,if_pos hacc]
   have hs:findA r p.f0 = some r[j]:=by rw [hf];simp only [findA,List.find?_cons,he]
   exact h _ hs
  | false =>
   have he2:(r[j].f0.f0.toList == p.f0.f0.toList && (r[j].f0.f1 == p.f0.f1 && (r[j].f0.f2 == p.f0.f2 && (r[j].f0.f3 == p.f0.f3)))) = false:=he
   simp only [he2,Bool.false_eq_true,if_false]
   have ih:=foundL1 r hr acc hacc l i p res hn h d (j + 1) (by omega) (by rw [hf];simp only [findA,List.find?_cons,he])
   rw [← w_succ hj (by omega)] at ih
   exact ih
theorem foundLoop (r:List Arr) (hr:r.length ≤ 4611686018427387904) (l:List Pos) (hl:l.length ≤ 1000000000):∀ (d i:Nat) (acc:List Arr),i + d = l.length → acc.length = i → Ev (fun k=>scan_found.l0 k r acc l l.length i) (foundE acc (ownA r (l.drop i)))
 | 0,i,acc,hd,hacc=>by
  refine Ev_succ ?_
  simp only [scan_found.l0,if_neg (show ¬ ((i:Int) < (l.length:Int)) by omega)]
  rw [List.drop_of_length_le (by omega)]
  simp only [ownA,foundE,List.append_nil]
  exact Ev.now _
 | d + 1,i,acc,hd,hacc=>by
  have hi:i < l.length:=by omega
  refine Ev_succ ?_
  simp only [scan_found.l0,if_pos (show (i:Int) < (l.length:Int) by omega),if_pos (show 0 ≤ (i:Int) by omega),rdPos l i hi]
  rw [drop_cons l i hi]
  refine foundL1 r hr acc (by omega) l i l[i] _ ?_ ?_ r.length 0 (by omega) (by simp)
  ·intro hn
   simp only [ownA,hn,Option.bind_none,foundE]
  ·intro a ha
   have ih:=foundLoop r hr l hl d (i + 1) (acc ++ [a]) (by omega) (by simp [hacc])
   rw [← w_succ hi (by omega)] at ih
   simp only [ownA,ha,Option.bind_some]
   cases ho:ownA r (l.drop (i + 1)) with
   | none=>rw [ho] at ih;exact ih
   | some o=>rw [ho] at ih;simpa [foundE] using ih
def found (l:List Pos) (r:List Arr):List Arr × Int:=if both l r = 0 then foundE [] (ownA r l) else ([],both l r)
theorem found_f (l:List Pos) (r:List Arr) (hl:l.length ≤ 4611686018427387904) (hr:r.length ≤ 4611686018427387904) (ha:∀ a ∈ r,a.f1.length ≤ 4611686018427387904):Ev (fun k=>scan_found.f k l r) (found l r):=by
 unfold scan_found.f found
 refine Ev_bind (both_f l r hl hr ha) ?_
 by_cases h:both l r = 0
 ·have h128:l.length ≤ 128:=by
   unfold both at h
   by_cases h1:scanCheck r = 0
   ·rw [if_pos h1] at h
    unfold posCheck at h
    by_cases h2:l.length > 128
    ·rw [if_pos h2] at h;omega
    ·omega
   ·rw [if_neg h1] at h;exact absurd h h1
  simp only [if_pos h]
  exact foundLoop r hr l (by omega) l.length 0 [] (by omega) rfl
 ·simp only [if_neg h];exact Ev.now _
end Go.Proofs.Ytbgeceiddcokmaa.P
end
section
namespace Go.Proofs.Ytbgeceiddcokmaa.P
set_option linter.unusedVariables false
set_option linter.unusedSimpArgs false
open Go.RowKit Go.Proofs.YtbgeceiddcokmaaW.PrintWords Go.Proofs.YtbgeceiddcokmaaW.PrintMore Go.Proofs.Ytbgeceiddcokmaa.X
structure PGood (l:List Pos) (o:List Arr) (n:Nat):Prop where
 len:o.length = l.length
 few:l.length ≤ 128
 lots:∀ p ∈ l,lots p.f1 = true ∧ lots p.f2 = true
 arr:∀ a ∈ o,a.f1.length = n ∧ (∀ x ∈ a.f1,lossBad x = false) ∧ deltaBad a.f2 = false
 scen:n ≤ 32
theorem posGo_zero:∀ (l:List Pos) (prev:Option Ser),posGo prev l = 0 → ∀ p ∈ l,posBad p = false
 | [],_,_,p,hp=>by simp at hp
 | q :: t,prev,h,p,hp=>by
  unfold posGo at h
  by_cases h1:behind prev q.f0 = true
  ·rw [if_pos h1] at h;omega
  ·rw [if_neg h1] at h
   by_cases h2:posBad q = true
   ·rw [if_pos h2] at h;omega
   ·rw [if_neg h2] at h
    rcases List.mem_cons.1 hp with rfl|hp
    ·simpa using h2
    ·exact posGo_zero t _ h p hp
theorem posCheck_zero {l:List Pos} (h:posCheck l = 0):l.length ≤ 128 ∧ ∀ p ∈ l,posBad p = false:=by
 unfold posCheck at h
 by_cases h1:l.length > 128
 ·rw [if_pos h1] at h;omega
 ·rw [if_neg h1] at h;exact ⟨by omega,posGo_zero l none h⟩
theorem posBad_lots {p:Pos} (h:posBad p = false):lots p.f1 = true ∧ lots p.f2 = true:=by
 simp only [posBad,Bool.or_eq_false_iff,Bool.not_eq_false'] at h
 exact ⟨h.1.1,h.1.2⟩
theorem scanGo_zero (n:Nat):∀ (l:List Arr) (prev:Option Ser),scanGo n prev l = 0 → ∀ a ∈ l,arrErr n a = 0
 | [],_,_,p,hp=>by simp at hp
 | q :: t,prev,h,p,hp=>by
  unfold scanGo at h
  by_cases h1:behind prev q.f0 = true
  ·rw [if_pos h1] at h;omega
  ·rw [if_neg h1] at h
   by_cases h2:arrErr n q ≠ 0
   ·rw [if_pos h2] at h;exact absurd h h2
   ·rw [if_neg h2] at h
    rcases List.mem_cons.1 hp with rfl|hp
    ·exact Decidable.not_not.1 h2
    ·exact scanGo_zero n t _ h p hp
theorem scanCheck_zero {l:List Arr} (h:scanCheck l = 0):l.length ≤ 128 ∧ ∀ a ∈ l,arrErr (scanN l) a = 0:=by
 unfold scanCheck at h
 by_cases h1:l.length > 128
 ·rw [if_pos h1] at h;omega
 ·rw [if_neg h1] at h;exact ⟨by omega,scanGo_zero _ l none h⟩
theorem arrErr_zero {n:Nat} {a:Arr} (h:arrErr n a = 0):a.f1.length = n ∧ n ≤ 32 ∧ 1 ≤ n ∧ (∀ x ∈ a.f1,lossBad x = false) ∧ deltaBad a.f2 = false:=by
 unfold arrErr at h
 by_cases h1:lenBad n a.f1.length = true
 ·rw [if_pos h1] at h;omega
 ·rw [if_neg h1] at h
  by_cases h2:a.f1.any lossBad = true
  ·rw [if_pos h2] at h;omega
  ·rw [if_neg h2] at h
   by_cases h3:deltaBad a.f2 = true
   ·rw [if_pos h3] at h;omega
   ·simp only [lenBad,Bool.or_eq_true,decide_eq_true_eq,Bool.not_eq_true',decide_eq_false_iff_not,not_or] at h1
    refine ⟨by omega,by omega,by omega,fun x hx=>?_,by simpa using h3⟩
    have h2':a.f1.any lossBad = false:=by simpa using h2
    have:=List.any_eq_false.1 h2' x hx
    simpa using this
theorem ownA_len (r:List Arr):∀ (l:List Pos) (o:List Arr),ownA r l = some o → o.length = l.length ∧ ∀ a ∈ o,a ∈ r
 | [],o,h=>by
  simp only [ownA,Option.some.injEq] at h
  subst h
  simp
 | p :: t,o,h=>by
  simp only [ownA,Option.bind_eq_some_iff,Option.map_eq_some_iff] at h
  obtain ⟨a,ha,o',ho,rfl⟩:=h
  obtain ⟨h1,h2⟩:=ownA_len r t o' ho
  refine ⟨by simp [h1],fun b hb=>?_⟩
  rcases List.mem_cons.1 hb with rfl|hb
  ·exact List.mem_of_find?_eq_some ha
  ·exact h2 b hb
theorem both_zero {l:List Pos} {r:List Arr} (h:both l r = 0):scanCheck r = 0 ∧ posCheck l = 0:=by
 unfold both at h
 by_cases h1:scanCheck r = 0
 ·rw [if_pos h1] at h;exact ⟨h1,h⟩
 ·rw [if_neg h1] at h;exact absurd h h1
theorem found_zero {l:List Pos} {r:List Arr} (h:(found l r).2 = 0):both l r = 0 ∧ ownA r l = some (found l r).1:=by
 unfold found at h ⊢
 by_cases h1:both l r = 0
 ·rw [if_pos h1] at h ⊢
  cases ho:ownA r l with
  | none=>rw [ho] at h;simp [foundE] at h
  | some o=>exact ⟨h1,by simp [foundE]⟩
 ·rw [if_neg h1] at h;exact absurd h h1
theorem found_good {l:List Pos} {r:List Arr} (h:(found l r).2 = 0):PGood l (found l r).1 (scanN r):=by
 obtain ⟨h1,ho⟩:=found_zero h
 obtain ⟨hs,hp⟩:=both_zero h1
 obtain ⟨hl,hb⟩:=posCheck_zero hp
 obtain ⟨hr,ha⟩:=scanCheck_zero hs
 obtain ⟨ho1,ho2⟩:=ownA_len r l _ ho
 refine ⟨ho1,hl,fun p hp=>posBad_lots (hb p hp),fun a hao=>?_,?_⟩
 ·have:=arrErr_zero (ha a (ho2 a hao));exact ⟨this.1,this.2.2.2.1,this.2.2.2.2⟩
 ·cases r with
  | nil=>simp [scanN]
  | cons a t=>exact (arrErr_zero (ha a (by simp))).2.1
theorem found_bad {l:List Pos} {r:List Arr} (h:(found l r).2 ≠ 0):(found l r).1 = []:=by
 unfold found at h ⊢
 by_cases h1:both l r = 0
 ·rw [if_pos h1] at h ⊢
  cases ho:ownA r l with
  | none=>rfl
  | some o=>rw [ho] at h;simp [foundE] at h
 ·rw [if_neg h1]
theorem lots_rng {n:Int} (h:lots n = true):0 ≤ n ∧ n ≤ 1048576:=by simpa [lots] using h
theorem deltaBad_rng {x:Int} (h:deltaBad x = false):-1000 ≤ x ∧ x ≤ 1000:=by
 simp only [deltaBad,Bool.or_eq_false_iff,decide_eq_false_iff_not] at h;omega
theorem mul_rng {a b A B:Int} (ha:-A ≤ a ∧ a ≤ A) (hb:-B ≤ b ∧ b ≤ B):-(A * B) ≤ a * b ∧ a * b ≤ A * B:=by
 have hA:0 ≤ A:=by omega
 have hB:0 ≤ B:=by omega
 have h1:a.natAbs ≤ A.toNat:=by omega
 have h2:b.natAbs ≤ B.toNat:=by omega
 have h3:a.natAbs * b.natAbs ≤ A.toNat * B.toNat:=Nat.mul_le_mul h1 h2
 have h4:(a * b).natAbs ≤ A.toNat * B.toNat:=by rw [Int.natAbs_mul];exact h3
 have h5:((A.toNat * B.toNat:Nat):Int) = A * B:=by rw [Int.natCast_mul,Int.toNat_of_nonneg hA,Int.toNat_of_nonneg hB]
 generalize A.toNat * B.toNat = m at h4 h5
 generalize a * b = x at *
 generalize A * B = y at *
 omega
def deltaOf:List Pos → List Arr → Int
 | p :: t,a :: o=>(p.f1 - p.f2) * a.f2 + deltaOf t o
 | _,_=>0
theorem deltaL0 (l:List Pos) (o:List Arr) (n:Nat) (hg:PGood l o n) (e:Int):∀ (d i:Nat) (acc:Int),i + d = l.length → -(1048576000 * (i:Int)) ≤ acc → acc ≤ 1048576000 * (i:Int) →
  Ev (fun k=>scan_Delta.l0 k l acc e o (o.length:Int) i) (acc + deltaOf (l.drop i) (o.drop i),e)
 | 0,i,acc,hd,h1,h2=>by
  have:=hg.len
  rw [List.drop_of_length_le (by omega)]
  refine Ev_succ ?_
  simp only [scan_Delta.l0,if_neg (show ¬ ((i:Int) < (o.length:Int)) by omega),deltaOf,Int.add_zero]
  exact Ev.now _
 | d + 1,i,acc,hd,h1,h2=>by
  have hi:i < l.length:=by omega
  have hlen:=hg.len
  have hio:i < o.length:=by omega
  have hf:=hg.few
  have hp:=hg.lots l[i] (List.getElem_mem hi)
  have ha:=hg.arr o[i] (List.getElem_mem hio)
  have b1:=lots_rng hp.1
  have b2:=lots_rng hp.2
  have b3:=deltaBad_rng ha.2.2
  have e1:wrap64 (l[i].f1 - l[i].f2) = l[i].f1 - l[i].f2:=w_id (by omega) (by omega)
  have b4:=mul_rng (A:=1048576) (B:=1000) (a:=l[i].f1 - l[i].f2) (b:=o[i].f2) (by omega) (by omega)
  have e2:wrap64 ((l[i].f1 - l[i].f2) * o[i].f2) = (l[i].f1 - l[i].f2) * o[i].f2:=w_id (by omega) (by omega)
  have e3:wrap64 (acc + (l[i].f1 - l[i].f2) * o[i].f2) = acc + (l[i].f1 - l[i].f2) * o[i].f2:=w_id (by omega) (by omega)
  refine Ev_succ ?_
  simp only [scan_Delta.l0,if_pos (show (i:Int) < (o.length:Int) by omega),if_pos (show 0 ≤ (i:Int) by omega),if_pos (show (i:Int) < (l.length:Int) by omega),rdPos l i hi,rdArr o i hio,e1,e2,e3,w_succ hi (by omega)]
  have ih:=deltaL0 l o n hg e d (i + 1) (acc + (l[i].f1 - l[i].f2) * o[i].f2) (by omega) (by omega) (by omega)
  rw [drop_cons l i hi,drop_cons o i hio]
  simp only [deltaOf]
  rw [Int.add_assoc] at ih
  rw [← Int.add_assoc] at ih ⊢
  exact ih
def delta (l:List Pos) (r:List Arr):Int × Int:=if (found l r).2 = 0 then (deltaOf l (found l r).1,0) else (0,(found l r).2)
theorem delta_f (l:List Pos) (r:List Arr) (hl:l.length ≤ 4611686018427387904) (hr:r.length ≤ 4611686018427387904) (ha:∀ a ∈ r,a.f1.length ≤ 4611686018427387904):Ev (fun k=>scan_Delta.f k l r) (delta l r):=by
 unfold scan_Delta.f delta
 refine Ev_bind (found_f l r hl hr ha) ?_
 by_cases h:(found l r).2 = 0
 ·simp only [if_pos h]
  have:=deltaL0 l _ _ (found_good h) (found l r).2 l.length 0 0 (by omega) (by omega) (by omega)
  simp only [Int.zero_add,List.drop_zero,h] at this
  simp only [h]
  exact this
 ·simp only [if_neg h,found_bad h]
  refine Ev_succ ?_
  simp only [scan_Delta.l0,List.length_nil]
  exact Ev.now _
end Go.Proofs.Ytbgeceiddcokmaa.P
end
section
namespace Go.Proofs.Ytbgeceiddcokmaa.P
set_option linter.unusedVariables false
set_option linter.unusedSimpArgs false
open Go.RowKit Go.Proofs.YtbgeceiddcokmaaW.PrintWords Go.Proofs.YtbgeceiddcokmaaW.PrintMore Go.Proofs.Ytbgeceiddcokmaa.X
theorem sameLoop (a b:List Int) (hl:a.length = b.length) (hb:a.length ≤ 4611686018427387904):∀ (d i:Nat),i + d = a.length → Ev (fun k=>contangoref23_Same.l0 k a b i) (decide (a.drop i = b.drop i))
 | 0,i,hd=>by
  refine Ev_succ ?_
  rw [List.drop_of_length_le (by omega),List.drop_of_length_le (by omega)]
  simp only [contangoref23_Same.l0,if_neg (show ¬ ((i:Int) < (a.length:Int)) by omega)]
  exact Ev.now _
 | d + 1,i,hd=>by
  have hi:i < a.length:=by omega
  have hj:i < b.length:=by omega
  refine Ev_succ ?_
  rw [drop_cons a i hi,drop_cons b i hj]
  simp only [contangoref23_Same.l0,if_pos (show (i:Int) < (a.length:Int) by omega),if_pos (show (i:Int) < (b.length:Int) by omega),if_pos (show 0 ≤ (i:Int) by omega),rd_nat a i hi,rd_nat b i hj,w_succ hi (by omega)]
  by_cases h:a[i] = b[i]
  ·simp only [if_pos h]
   have ih:=sameLoop a b hl hb d (i + 1) (by omega)
   have e:decide (a[i] :: a.drop (i + 1) = b[i] :: b.drop (i + 1)) = decide (a.drop (i + 1) = b.drop (i + 1)):=by
    rw [decide_eq_decide,List.cons.injEq]
    exact ⟨fun x=>x.2,fun x=>⟨h,x⟩⟩
   rw [e]
   exact ih
  ·simp only [if_neg h]
   rw [decide_eq_false (by rw [List.cons.injEq];exact fun x=>h x.1)]
   exact Ev.now _
theorem same_f (a b:List Int) (hb:a.length ≤ 4611686018427387904):Ev (fun k=>contangoref23_Same.f k a b) (decide (a = b)):=by
 unfold contangoref23_Same.f
 by_cases h:a.length = b.length
 ·simp only [if_pos (show (a.length:Int) = (b.length:Int) by omega)]
  have:=sameLoop a b h hb a.length 0 (by omega)
  simpa using this
 ·simp only [if_neg (show ¬ (a.length:Int) = (b.length:Int) by omega)]
  rw [decide_eq_false (fun e=>h (by rw [e]))]
  exact Ev.now _
theorem fewLoop (l:List Pos) (r:List Arr) (hr:r.length ≤ 4611686018427387904):∀ (d i:Nat) (n:Int),i + d = r.length → ∃ b,Ev (fun k=>contangolaw23_few.l0 k l r n r.length i) b ∧ (b = true → l.length ≤ 200 ∧ r.length ≤ 200)
 | 0,i,n,hd=>by
  by_cases h1:l.length ≤ 200
  ·by_cases h2:r.length ≤ 200
   ·refine ⟨decide (n ≤ 5000),Ev_succ ?_,fun _=>⟨h1,h2⟩⟩
    simp only [contangolaw23_few.l0,if_neg (show ¬ ((i:Int) < (r.length:Int)) by omega),if_pos (show (l.length:Int) ≤ 200 by omega),if_pos (show (r.length:Int) ≤ 200 by omega)]
    exact Ev.now _
   ·refine ⟨false,Ev_succ ?_,fun h=>by cases h⟩
    simp only [contangolaw23_few.l0,if_neg (show ¬ ((i:Int) < (r.length:Int)) by omega),if_pos (show (l.length:Int) ≤ 200 by omega),if_neg (show ¬ (r.length:Int) ≤ 200 by omega)]
    exact Ev.now _
  ·refine ⟨false,Ev_succ ?_,fun h=>by cases h⟩
   simp only [contangolaw23_few.l0,if_neg (show ¬ ((i:Int) < (r.length:Int)) by omega),if_neg (show ¬ (l.length:Int) ≤ 200 by omega)]
   exact Ev.now _
 | d + 1,i,n,hd=>by
  have hi:i < r.length:=by omega
  obtain ⟨b,hb,h⟩:=fewLoop l r hr d (i + 1) (wrap64 (n + mn (((rd_T91 r i).f1).length:Int) 1000)) (by omega)
  refine ⟨b,Ev_succ ?_,h⟩
  simp only [contangolaw23_few.l0,if_pos (show (i:Int) < (r.length:Int) by omega),if_pos (show 0 ≤ (i:Int) by omega),w_succ hi (by omega)]
  exact hb
theorem few_f (l:List Pos) (r:List Arr) (hr:r.length ≤ 4611686018427387904):∃ b,Ev (fun k=>contangolaw23_few.f k l r) b ∧ (b = true → l.length ≤ 200 ∧ r.length ≤ 200):=fewLoop l r hr r.length 0 0 (by omega)
end Go.Proofs.Ytbgeceiddcokmaa.P
end
section
namespace Go.Proofs.Ytbgeceiddcokmaa.P
set_option linter.unusedVariables false
set_option linter.unusedSimpArgs false
open Go.RowKit Go.Proofs.YtbgeceiddcokmaaW.PrintWords Go.Proofs.YtbgeceiddcokmaaW.PrintMore Go.Proofs.Ytbgeceiddcokmaa.X
theorem bl_self:∀ a:List UInt8,Op.bytesLess a a = false
 | []=>rfl
 | x :: a=>by simp [Op.bytesLess,bl_self a]
theorem bl_not:∀ a b:List UInt8,(!(Op.bytesLess a b || a == b)) = Op.bytesLess b a
 | [],[]=>rfl
 | [],y :: b=>by simp [Op.bytesLess]
 | x :: a,[]=>by simp [Op.bytesLess]
 | x :: a,y :: b=>by
  have ih:=bl_not a b
  simp only [Op.bytesLess]
  by_cases h:x = y
  ·subst h
   have:¬ x < x:=by simp
   simp only [this,decide_false,Bool.false_or,beq_self_eq_true,Bool.true_and,← ih]
   congr 1
   simp
  ·have h1:(x == y) = false:=by simpa using h
   have h2:(y == x) = false:=by simpa using fun e=>h e.symm
   have h3:(x :: a == y :: b) = false:=by simp [h]
   rw [h1,h2,h3]
   simp only [Bool.false_and,Bool.or_false]
   have:decide (y < x) = !decide (x < y):=by
    rw [Bool.eq_iff_iff]
    simp only [decide_eq_true_eq,Bool.not_eq_true',decide_eq_false_iff_not,UInt8.lt_iff_toNat_lt]
    have:x.toNat ≠ y.toNat:=fun e=>h (UInt8.toNat_inj.1 e)
    omega
   rw [this]
theorem bl_eq {a b:List UInt8} (h:Op.bytesLess a b = false) (k:Op.bytesLess b a = false):a = b:=by
 have:=bl_not a b
 rw [h,k] at this
 simpa using this
end Go.Proofs.Ytbgeceiddcokmaa.P
end
section
namespace Go.Proofs.Ytbgeceiddcokmaa.P
set_option linter.unusedVariables false
set_option linter.unusedSimpArgs false
open Go.RowKit Go.Proofs.YtbgeceiddcokmaaW.PrintWords Go.Proofs.YtbgeceiddcokmaaW.PrintMore Go.Proofs.Ytbgeceiddcokmaa.X
theorem orderR_f (a b:Int):contangoref10_order.f a b = some (cmpI a b):=by
 unfold contangoref10_order.f cmpI
 split
 ·rfl
 ·split <;> rfl
theorem cmpR_f (a b:Ser):contangoref10_Compare.f a.f0 a.f1 a.f2 a.f3 b.f0 b.f1 b.f2 b.f3 = some (cmpS a b):=by
 unfold contangoref10_Compare.f cmpS cmpB
 simp only [orderR_f,Option.bind_some]
 by_cases h0:a.f0.toList = b.f0.toList
 ·rw [if_pos h0,h0]
  simp only [bl_self,Bool.false_eq_true,if_false]
  split
  ·split <;> rfl
  ·rfl
 ·rw [if_neg h0]
  cases h1:Op.bytesLess a.f0.toList b.f0.toList with
  | true=>simp
  | false =>
   cases h2:Op.bytesLess b.f0.toList a.f0.toList with
   | true=>simp
   | false=>exact absurd (bl_eq h1 h2) h0
theorem lotsR_f (n:Int):contangoref15_lots.f n = some (lots n):=by
 unfold contangoref15_lots.f lots
 by_cases h:n ≥ 0
 ·rw [if_pos h,decide_eq_true (show 0 ≤ n from h),Bool.true_and]
 ·rw [if_neg h,decide_eq_false (show ¬ 0 ≤ n from h),Bool.false_and]
theorem refPosJ (l:List Pos) (i:Nat) (hi:i < l.length) (b:Bool) (r:Int)
  (h:b = false → posBad l[i] = false → Ev (fun k=>contangoref15_Check.l0 k l (wrap64 ((i:Int) + 1))) r) :
  Ev (fun k=>contangoref15_Check.j1 k l i b) (if b = true then 19 else if posBad l[i] = true then 18 else r):=by
 refine Ev_succ ?_
 simp only [contangoref15_Check.j1,lotsR_f,Option.bind_some,if_pos (show 0 ≤ (i:Int) by omega),if_pos (show (i:Int) < (l.length:Int) by omega),rdPos l i hi]
 cases b with
 | true=>exact Ev.now _
 | false =>
  simp only [Bool.false_eq_true,if_false]
  cases h1:lots l[i].f1 with
  | false=>simp only [posBad,h1,Bool.not_false,Bool.true_or,if_true,Bool.false_eq_true,if_false];exact Ev.now _
  | true =>
   cases h2:lots l[i].f2 with
   | false=>simp only [posBad,h1,h2,Bool.not_false,Bool.not_true,Bool.true_or,Bool.or_true,if_true,Bool.false_eq_true,if_false];exact Ev.now _
   | true =>
    simp only [if_true]
    simp only [lots,Bool.and_eq_true,decide_eq_true_eq] at h1 h2
    rw [w_id (x:=l[i].f1 + l[i].f2) (by omega) (by omega)]
    by_cases z:l[i].f1 + l[i].f2 = 0
    ·have hb:posBad l[i] = true:=by simp [posBad,show l[i].f1 = 0 by omega,show l[i].f2 = 0 by omega]
     simp only [hb,if_true,if_pos z]
     exact Ev.now _
    ·have hb:posBad l[i] = false:=by simp [posBad,lots];omega
     simp only [hb,Bool.false_eq_true,if_false,if_neg z]
     exact h rfl hb
theorem refPosLoop (l:List Pos) (hl:l.length ≤ 4611686018427387904):∀ (d i:Nat),i + d = l.length → Ev (fun k=>contangoref15_Check.l0 k l i) (posGo (prevOf l i) (l.drop i))
 | 0,i,hd=>by
  refine Ev_succ ?_
  simp only [contangoref15_Check.l0,if_neg (show ¬ ((i:Int) < (l.length:Int)) by omega)]
  rw [List.drop_of_length_le (by omega)]
  exact Ev.now _
 | d + 1,i,hd=>by
  have hi:i < l.length:=by omega
  have ih:=refPosLoop l hl d (i + 1) (by omega)
  rw [← w_succ hi (by omega)] at ih
  have hprev:prevOf l (i + 1) = some l[i].f0:=by simp [prevOf,hi]
  rw [hprev] at ih
  rw [drop_cons l i hi]
  refine Ev_succ ?_
  simp only [contangoref15_Check.l0,if_pos (show (i:Int) < (l.length:Int) by omega),if_pos (show 0 ≤ (i:Int) by omega),rdPos l i hi]
  by_cases h0:i = 0
  ·subst h0
   simp only [if_neg (show ¬ (((0:Nat):Int) > 0) by omega)]
   exact refPosJ l 0 hi false _ (fun _ _=>ih)
  ·have hp:=w_pred (show 0 < i by omega) (by omega)
   simp only [if_pos (show ((i:Int) > 0) by omega),hp,if_pos (show 0 ≤ ((i - 1:Nat):Int) by omega),if_pos (show ((i - 1:Nat):Int) < (l.length:Int) by omega),rdPos l (i - 1) (by omega),cmpR_f,Option.bind_some]
   have hb:behind (prevOf l i) l[i].f0 = decide (cmpS l[i - 1].f0 l[i].f0 ≥ 0):=by
    simp [behind,prevOf,h0,show i - 1 < l.length by omega]
   simp only [posGo,hb]
   exact refPosJ l i hi _ _ (fun _ _=>ih)
theorem refPosCheck_f (l:List Pos) (hl:l.length ≤ 4611686018427387904):Ev (fun k=>contangoref15_Check.f k l) (posCheck l):=by
 unfold contangoref15_Check.f posCheck
 by_cases h:l.length > 128
 ·simp only [if_pos (show (l.length:Int) > 128 by omega),if_pos h]
  exact Ev.now _
 ·simp only [if_neg (show ¬ ((l.length:Int) > 128) by omega),if_neg h]
  exact refPosLoop l hl l.length 0 (by omega)
end Go.Proofs.Ytbgeceiddcokmaa.P
end
section
namespace Go.Proofs.Ytbgeceiddcokmaa.P
set_option linter.unusedVariables false
set_option linter.unusedSimpArgs false
open Go.RowKit Go.Proofs.YtbgeceiddcokmaaW.PrintWords Go.Proofs.YtbgeceiddcokmaaW.PrintMore Go.Proofs.Ytbgeceiddcokmaa.X
theorem oneL0 (a:Arr) (ha:a.f1.length ≤ 4611686018427387904):∀ (d j:Nat),j + d = a.f1.length →
  Ev (fun k=>contangoref23_one.l0 k j a.f0.f0 a.f0.f1 a.f0.f2 a.f0.f3 a.f1 a.f2) (if (a.f1.drop j).any lossBad = true then 3 else if deltaBad a.f2 = true then 2 else 0)
 | 0,j,hd=>by
  refine Ev_succ ?_
  rw [List.drop_of_length_le (by omega)]
  simp only [contangoref23_one.l0,if_neg (show ¬ ((j:Int) < (a.f1.length:Int)) by omega),List.any_nil,Bool.false_eq_true,if_false]
  by_cases c1:a.f2 < -1000
  ·simp only [if_pos c1,deltaBad,decide_eq_true c1,Bool.true_or,if_true];exact Ev.now _
  ·by_cases c2:a.f2 > 1000
   ·simp only [if_neg c1,if_pos c2,deltaBad,decide_eq_true c2,Bool.or_true,if_true];exact Ev.now _
   ·have hb:deltaBad a.f2 = false:=by simp only [deltaBad,decide_eq_false c1,decide_eq_false c2];rfl
    simp only [if_neg c1,if_neg c2,hb,Bool.false_eq_true,if_false]
    exact Ev.now _
 | d + 1,j,hd=>by
  have hj:j < a.f1.length:=by omega
  rw [drop_cons a.f1 j hj]
  refine Ev_succ ?_
  simp only [contangoref23_one.l0,if_pos (show (j:Int) < (a.f1.length:Int) by omega),if_pos (show 0 ≤ (j:Int) by omega),rd_nat a.f1 j hj,List.any_cons]
  by_cases c1:a.f1[j] < -68719476736
  ·simp only [if_pos c1,lossBad,decide_eq_true c1,Bool.true_or,if_true];exact Ev.now _
  ·by_cases c2:a.f1[j] > 68719476736
   ·simp only [if_neg c1,if_pos c2,lossBad,decide_eq_true c2,Bool.true_or,Bool.or_true,if_true];exact Ev.now _
   ·have hb:lossBad a.f1[j] = false:=by simp only [lossBad,decide_eq_false c1,decide_eq_false c2];rfl
    have ih:=oneL0 a ha d (j + 1) (by omega)
    rw [← w_succ hj (by omega)] at ih
    simp only [if_neg c1,if_neg c2,hb,Bool.false_or]
    exact ih
theorem one_f (a:Arr) (n:Nat) (ha:a.f1.length ≤ 4611686018427387904):Ev (fun k=>contangoref23_one.f k a.f0.f0 a.f0.f1 a.f0.f2 a.f0.f3 a.f1 a.f2 n) (arrErr n a):=by
 have hj:∀ b,lenBad n a.f1.length = b → Ev (fun k=>contangoref23_one.j0 k b a.f0.f0 a.f0.f1 a.f0.f2 a.f0.f3 a.f1 a.f2) (arrErr n a):=by
  intro b hb
  refine Ev_succ ?_
  unfold arrErr
  rw [hb]
  cases b with
  | true=>simp only [contangoref23_one.j0,if_true];exact Ev.now _
  | false =>
   simp only [contangoref23_one.j0,Bool.false_eq_true,if_false]
   exact oneL0 a ha a.f1.length 0 (by omega)
 unfold contangoref23_one.f
 by_cases c1:(a.f1.length:Int) < 1
 ·simp only [if_pos c1]
  exact hj true (by have e1:decide (a.f1.length < 1) = true:=decide_eq_true (by omega);simp only [lenBad,e1,Bool.true_or])
 ·by_cases c2:(a.f1.length:Int) > 32
  ·simp only [if_neg c1,if_pos c2]
   exact hj true (by have e1:decide (a.f1.length > 32) = true:=decide_eq_true (by omega);simp only [lenBad,e1,Bool.true_or,Bool.or_true])
  ·simp only [if_neg c1,if_neg c2]
   refine hj _ ?_
   have e1:decide (a.f1.length < 1) = false:=decide_eq_false (by omega)
   have e2:decide (a.f1.length > 32) = false:=decide_eq_false (by omega)
   simp only [lenBad,e1,e2,Bool.false_or]
   by_cases e:a.f1.length = n
   ·simp [e]
   ·have e':¬ ((a.f1.length:Int) = (n:Int)):=by omega
    rw [decide_eq_false e,bne_iff_ne.2 e']
    rfl
theorem refScanLoop (l:List Arr) (hl2:l.length ≤ 4611686018427387904) (ha:∀ a ∈ l,a.f1.length ≤ 4611686018427387904):∀ (d i:Nat),i + d = l.length → Ev (fun k=>contangoref23_Check.l0 k l i) (scanGo (scanN l) (prevOfA l i) (l.drop i))
 | 0,i,hd=>by
  refine Ev_succ ?_
  simp only [contangoref23_Check.l0,if_neg (show ¬ ((i:Int) < (l.length:Int)) by omega)]
  rw [List.drop_of_length_le (by omega)]
  exact Ev.now _
 | d + 1,i,hd=>by
  have hi:i < l.length:=by omega
  have ih:=refScanLoop l hl2 ha d (i + 1) (by omega)
  rw [← w_succ hi (by omega)] at ih
  have hprev:prevOfA l (i + 1) = some l[i].f0:=by simp [prevOfA,hi]
  rw [hprev] at ih
  rw [drop_cons l i hi]
  have hn:(((rd_T91 l 0).f1).length:Int) = (scanN l:Int):=by
   cases l with
   | nil=>simp at hi
   | cons x t=>rfl
  have hj:∀ b,Ev (fun k=>contangoref23_Check.j1 k l i b) (if b = true then 19 else if arrErr (scanN l) l[i] ≠ 0 then arrErr (scanN l) l[i] else scanGo (scanN l) (some l[i].f0) (l.drop (i + 1))):=by
   intro b
   refine Ev_succ ?_
   cases b with
   | true=>simp only [contangoref23_Check.j1,if_true];exact Ev.now _
   | false =>
    simp only [contangoref23_Check.j1,Bool.false_eq_true,if_false,if_pos (show 0 ≤ (i:Int) by omega),if_pos (show (i:Int) < (l.length:Int) by omega),if_pos (show 0 < (l.length:Int) by omega),rdArr l i hi,hn]
    refine Ev_bind (one_f l[i] (scanN l) (ha _ (List.getElem_mem hi))) ?_
    by_cases h:arrErr (scanN l) l[i] = 0
    ·simp only [if_pos h,if_neg (show ¬ (arrErr (scanN l) l[i] ≠ 0) by simp [h])]
     exact ih
    ·simp only [if_neg h,if_pos (show arrErr (scanN l) l[i] ≠ 0 from h)]
     exact Ev.now _
  refine Ev_succ ?_
  simp only [contangoref23_Check.l0,if_pos (show (i:Int) < (l.length:Int) by omega),if_pos (show 0 ≤ (i:Int) by omega),rdArr l i hi]
  by_cases h0:i = 0
  ·subst h0
   simp only [if_neg (show ¬ (((0:Nat):Int) > 0) by omega)]
   exact hj false
  ·have hp:=w_pred (show 0 < i by omega) (by omega)
   simp only [if_pos (show ((i:Int) > 0) by omega),hp,if_pos (show 0 ≤ ((i - 1:Nat):Int) by omega),if_pos (show ((i - 1:Nat):Int) < (l.length:Int) by omega),rdArr l (i - 1) (by omega),cmpR_f,Option.bind_some]
   have hb:behind (prevOfA l i) l[i].f0 = decide (cmpS l[i - 1].f0 l[i].f0 ≥ 0):=by
    simp [behind,prevOfA,h0,show i - 1 < l.length by omega]
   simp only [scanGo,hb]
   exact hj _
theorem refScanCheck_f (l:List Arr) (hl:l.length ≤ 4611686018427387904) (ha:∀ a ∈ l,a.f1.length ≤ 4611686018427387904):Ev (fun k=>contangoref23_Check.f k l) (scanCheck l):=by
 unfold contangoref23_Check.f scanCheck
 by_cases h:l.length > 128
 ·simp only [if_pos (show (l.length:Int) > 128 by omega),if_pos h]
  exact Ev.now _
 ·simp only [if_neg (show ¬ ((l.length:Int) > 128) by omega),if_neg h]
  exact refScanLoop l hl ha l.length 0 (by omega)
theorem findR_loop (r:List Arr) (hr:r.length ≤ 4611686018427387904) (s:Ser):∀ (d j:Nat),j + d = r.length →
  (∀ a,findA (r.drop j) s = some a → ∃ (m:Nat) (hm:m < r.length),r[m] = a ∧ Ev (fun k=>contangoref23_find.l0 k r j s.f0 s.f1 s.f2 s.f3) (m:Int)) ∧
  (findA (r.drop j) s = none → Ev (fun k=>contangoref23_find.l0 k r j s.f0 s.f1 s.f2 s.f3) (-1))
 | 0,j,hd=>by
  rw [List.drop_of_length_le (by omega)]
  refine ⟨fun a h=>by simp [findA] at h,fun _=>Ev_succ ?_⟩
  simp only [contangoref23_find.l0,if_neg (show ¬ ((j:Int) < (r.length:Int)) by omega)]
  exact Ev.now _
 | d + 1,j,hd=>by
  have hj:j < r.length:=by omega
  obtain ⟨i1,i2⟩:=findR_loop r hr s d (j + 1) (by omega)
  rw [drop_cons r j hj]
  cases he:eqS r[j].f0 s with
  | true =>
   have he2:(r[j].f0.f0.toList == s.f0.toList && (r[j].f0.f1 == s.f1 && (r[j].f0.f2 == s.f2 && (r[j].f0.f3 == s.f3)))) = true:=he
   refine ⟨fun a h=>⟨j,hj,?_,Ev_succ ?_⟩,fun h=>?_⟩
   ·simp only [findA,List.find?_cons,he,Option.some.injEq] at h;exact h
   ·simp only [contangoref23_find.l0,if_pos (show (j:Int) < (r.length:Int) by omega),if_pos (show 0 ≤ (j:Int) by omega),rdArr r j hj,he2,if_true]
    exact Ev.now _
   ·simp only [findA,List.find?_cons,he] at h;cases h
  | false =>
   have he2:(r[j].f0.f0.toList == s.f0.toList && (r[j].f0.f1 == s.f1 && (r[j].f0.f2 == s.f2 && (r[j].f0.f3 == s.f3)))) = false:=he
   have hf:findA (r[j] :: r.drop (j + 1)) s = findA (r.drop (j + 1)) s:=by simp only [findA,List.find?_cons,he]
   rw [hf]
   have st:∀ x,Ev (fun k=>contangoref23_find.l0 k r ((j + 1:Nat):Int) s.f0 s.f1 s.f2 s.f3) x → Ev (fun k=>contangoref23_find.l0 k r j s.f0 s.f1 s.f2 s.f3) x:=fun x hx=>by
    refine Ev_succ ?_
    simp only [contangoref23_find.l0,if_pos (show (j:Int) < (r.length:Int) by omega),if_pos (show 0 ≤ (j:Int) by omega),rdArr r j hj,he2,Bool.false_eq_true,if_false,w_succ hj (by omega)]
    exact hx
   refine ⟨fun a h=>?_,fun h=>st _ (i2 h)⟩
   obtain ⟨m,hm,e,hv⟩:=i1 a h
   exact ⟨m,hm,e,st _ hv⟩
theorem findR_some (r:List Arr) (hr:r.length ≤ 4611686018427387904) (s:Ser) (a:Arr) (h:findA r s = some a):∃ (m:Nat) (hm:m < r.length),r[m] = a ∧ Ev (fun k=>contangoref23_find.f k r s.f0 s.f1 s.f2 s.f3) (m:Int):=by
 have:=(findR_loop r hr s r.length 0 (by omega)).1 a (by simpa using h)
 exact this
theorem findR_none (r:List Arr) (hr:r.length ≤ 4611686018427387904) (s:Ser) (h:findA r s = none):Ev (fun k=>contangoref23_find.f k r s.f0 s.f1 s.f2 s.f3) (-1):=by
 have:=(findR_loop r hr s r.length 0 (by omega)).2 (by simpa using h)
 exact this
theorem checksLoop (l:List Pos) (r:List Arr) (hl:l.length ≤ 4611686018427387904) (hr:r.length ≤ 4611686018427387904):∀ (d i:Nat),i + d = l.length → Ev (fun k=>contangoref23_checks.l0 k l r i) (foundE [] (ownA r (l.drop i))).2
 | 0,i,hd=>by
  refine Ev_succ ?_
  rw [List.drop_of_length_le (by omega)]
  simp only [contangoref23_checks.l0,if_neg (show ¬ ((i:Int) < (l.length:Int)) by omega),ownA,foundE]
  exact Ev.now _
 | d + 1,i,hd=>by
  have hi:i < l.length:=by omega
  have ih:=checksLoop l r hl hr d (i + 1) (by omega)
  rw [← w_succ hi (by omega)] at ih
  rw [drop_cons l i hi]
  refine Ev_succ ?_
  simp only [contangoref23_checks.l0,if_pos (show (i:Int) < (l.length:Int) by omega),if_pos (show 0 ≤ (i:Int) by omega),rdPos l i hi]
  cases hf:findA r l[i].f0 with
  | none =>
   refine Ev_bind (findR_none r hr _ hf) ?_
   simp only [if_pos (show (-1:Int) < 0 by omega),ownA,hf,Option.bind_none,foundE]
   exact Ev.now _
  | some a =>
   obtain ⟨m,hm,e,hv⟩:=findR_some r hr _ a hf
   refine Ev_bind hv ?_
   simp only [if_neg (show ¬ ((m:Int) < 0) by omega),ownA,hf,Option.bind_some]
   cases ho:ownA r (l.drop (i + 1)) with
   | none=>rw [ho] at ih;exact ih
   | some o=>rw [ho] at ih;exact ih
theorem checks_f (l:List Pos) (r:List Arr) (hl:l.length ≤ 4611686018427387904) (hr:r.length ≤ 4611686018427387904) (ha:∀ a ∈ r,a.f1.length ≤ 4611686018427387904):Ev (fun k=>contangoref23_checks.f k l r) (found l r).2:=by
 unfold contangoref23_checks.f found both
 refine Ev_bind (refScanCheck_f r hr ha) ?_
 by_cases h:scanCheck r = 0
 ·simp only [if_pos h]
  refine Ev_bind (refPosCheck_f l hl) ?_
  by_cases h2:posCheck l = 0
  ·simp only [if_pos h2]
   have:=checksLoop l r hl hr l.length 0 (by omega)
   simpa using this
  ·simp only [if_neg h2];exact Ev.now _
 ·simp only [if_neg h];exact Ev.now _
theorem ownA_get (r:List Arr):∀ (l:List Pos) (o:List Arr),ownA r l = some o → ∀ (i:Nat) (h:i < l.length) (h':i < o.length),findA r l[i].f0 = some o[i]
 | [],o,h,i,hi,_=>by simp at hi
 | p :: t,o,h,i,hi,hi'=>by
  simp only [ownA,Option.bind_eq_some_iff,Option.map_eq_some_iff] at h
  obtain ⟨a,ha,o',ho,rfl⟩:=h
  cases i with
  | zero=>exact ha
  | succ j=>exact ownA_get r t o' ho j (by simpa using hi) (by simpa using hi')
end Go.Proofs.Ytbgeceiddcokmaa.P
end
section
namespace Go.Proofs.Ytbgeceiddcokmaa.P
set_option linter.unusedVariables false
set_option linter.unusedSimpArgs false
open Go.RowKit Go.Proofs.YtbgeceiddcokmaaW.PrintWords Go.Proofs.YtbgeceiddcokmaaW.PrintMore Go.Proofs.Ytbgeceiddcokmaa.X
theorem refDeltaL0 (l:List Pos) (r:List Arr) (hr:r.length ≤ 4611686018427387904) (o:List Arr) (ho:ownA r l = some o) (n:Nat) (hg:PGood l o n):∀ (d i:Nat) (acc:Int),i + d = l.length → -(1048576000 * (i:Int)) ≤ acc → acc ≤ 1048576000 * (i:Int) →
  Ev (fun k=>contangoref23_Delta.l0 k l r acc i) (acc + deltaOf (l.drop i) (o.drop i),0)
 | 0,i,acc,hd,h1,h2=>by
  have:=hg.len
  rw [List.drop_of_length_le (by omega)]
  refine Ev_succ ?_
  simp only [contangoref23_Delta.l0,if_neg (show ¬ ((i:Int) < (l.length:Int)) by omega),deltaOf,Int.add_zero]
  exact Ev.now _
 | d + 1,i,acc,hd,h1,h2=>by
  have hi:i < l.length:=by omega
  have hlen:=hg.len
  have hio:i < o.length:=by omega
  have hf:=hg.few
  have hp:=hg.lots l[i] (List.getElem_mem hi)
  have ha:=hg.arr o[i] (List.getElem_mem hio)
  have b1:=lots_rng hp.1
  have b2:=lots_rng hp.2
  have b3:=deltaBad_rng ha.2.2
  have e1:wrap64 (l[i].f1 - l[i].f2) = l[i].f1 - l[i].f2:=w_id (by omega) (by omega)
  have b4:=mul_rng (A:=1048576) (B:=1000) (a:=l[i].f1 - l[i].f2) (b:=o[i].f2) (by omega) (by omega)
  have e2:wrap64 ((l[i].f1 - l[i].f2) * o[i].f2) = (l[i].f1 - l[i].f2) * o[i].f2:=w_id (by omega) (by omega)
  have e3:wrap64 (acc + (l[i].f1 - l[i].f2) * o[i].f2) = acc + (l[i].f1 - l[i].f2) * o[i].f2:=w_id (by omega) (by omega)
  obtain ⟨m,hm,em,hv⟩:=findR_some r hr _ _ (ownA_get r l o ho i hi hio)
  have ih:=refDeltaL0 l r hr o ho n hg d (i + 1) (acc + (l[i].f1 - l[i].f2) * o[i].f2) (by omega) (by omega) (by omega)
  refine Ev_succ ?_
  simp only [contangoref23_Delta.l0,if_pos (show (i:Int) < (l.length:Int) by omega),if_pos (show 0 ≤ (i:Int) by omega),rdPos l i hi]
  refine Ev_bind hv ?_
  simp only [if_pos (show 0 ≤ (m:Int) by omega),if_pos (show (m:Int) < (r.length:Int) by omega),rdArr r m hm,em,e1,e2,e3,w_succ hi (by omega)]
  rw [drop_cons l i hi,drop_cons o i hio]
  simp only [deltaOf]
  rw [Int.add_assoc] at ih
  rw [← Int.add_assoc] at ih ⊢
  exact ih
theorem refDelta_f (l:List Pos) (r:List Arr) (hl:l.length ≤ 4611686018427387904) (hr:r.length ≤ 4611686018427387904) (ha:∀ a ∈ r,a.f1.length ≤ 4611686018427387904):Ev (fun k=>contangoref23_Delta.f k l r) (delta l r):=by
 unfold contangoref23_Delta.f delta
 refine Ev_bind (checks_f l r hl hr ha) ?_
 by_cases h:(found l r).2 = 0
 ·simp only [if_pos h]
  obtain ⟨_,ho⟩:=found_zero h
  have:=refDeltaL0 l r hr _ ho _ (found_good h) l.length 0 0 (by omega) (by simp) (by simp)
  simp only [List.drop_zero,Int.zero_add] at this
  exact this
 ·simp only [if_neg h]
  exact Ev.now _
end Go.Proofs.Ytbgeceiddcokmaa.P
end
section
namespace Go.Proofs.Ytbgeceiddcokmaa.P
set_option linter.unusedVariables false
set_option linter.unusedSimpArgs false
open Go.RowKit Go.Proofs.YtbgeceiddcokmaaW.PrintWords Go.Proofs.YtbgeceiddcokmaaW.PrintMore Go.Proofs.Ytbgeceiddcokmaa.X
theorem mid_w {lo hi:Nat} (h:lo + hi ≤ 9223372036854775807):wrap64 (IntKind.u64.wrap (wrap64 ((lo:Int) + (hi:Int))) / 2) = (((lo + hi) / 2:Nat):Int):=by
 rw [w_id (x:=(lo:Int) + (hi:Int)) (by omega) (by omega)]
 have e:IntKind.u64.wrap ((lo:Int) + (hi:Int)) = (lo:Int) + (hi:Int):=by rw [IntKind.wrap_u64];omega
 rw [e,w_id (by omega) (by omega)]
 omega
end Go.Proofs.Ytbgeceiddcokmaa.P
end
section
namespace Go.Proofs.Ytbgeceiddcokmaa.P
set_option linter.unusedVariables false
set_option linter.unusedSimpArgs false
open Go.RowKit Go.Proofs.YtbgeceiddcokmaaW.PrintWords Go.Proofs.YtbgeceiddcokmaaW.PrintMore Go.Proofs.Ytbgeceiddcokmaa.X
def terms:List Pos → List Arr → List (Int × Int)
 | p :: t,a :: o=>(p.f0.f2,(p.f1 - p.f2) * a.f2) :: terms t o
 | _,_=>[]
def sumAt:List (Int × Int) → Int → Int
 | [],_=>0
 | t :: r,d=>(if t.1 = d then t.2 else 0) + sumAt r d
theorem sumAt_snoc (a:List (Int × Int)) (t:Int × Int) (d:Int):sumAt (a ++ [t]) d = sumAt a d + if t.1 = d then t.2 else 0:=by
 induction a with
 | nil=>simp [sumAt]
 | cons x r ih=>simp only [List.cons_append,sumAt,ih];omega
theorem sumAt_none {a:List (Int × Int)} {d:Int} (h:¬ ∃ t ∈ a,t.1 = d):sumAt a d = 0:=by
 induction a with
 | nil=>rfl
 | cons x r ih =>
  have h1:¬ x.1 = d:=fun e=>h ⟨x,by simp,e⟩
  have h2:¬ ∃ t ∈ r,t.1 = d:=fun ⟨t,ht,e⟩=>h ⟨t,by simp [ht],e⟩
  simp only [sumAt,if_neg h1,ih h2];rfl
theorem sumAt_rng {a:List (Int × Int)} (h:∀ t ∈ a,-1048576000 ≤ t.2 ∧ t.2 ≤ 1048576000) (d:Int):-(1048576000 * (a.length:Int)) ≤ sumAt a d ∧ sumAt a d ≤ 1048576000 * (a.length:Int):=by
 induction a with
 | nil=>simp [sumAt]
 | cons x r ih =>
  have h1:=h x (by simp)
  have h2:=ih fun t ht=>h t (by simp [ht])
  simp only [sumAt,List.length_cons]
  split <;> omega
def AscI (D:List Int):Prop:=D.Pairwise (· < ·)
theorem ascI_lt {D:List Int} (h:AscI D) {i j:Nat} (hij:i < j) (hj:j < D.length):D[i]'(by omega) < D[j]:=(List.pairwise_iff_getElem.1 h) i j (by omega) hj hij
theorem ascI_same:∀ (a b:List Int),AscI a → AscI b → (∀ x,x ∈ a ↔ x ∈ b) → a = b
 | [],[],_,_,_=>rfl
 | [],y :: t,_,_,h=>by have:=(h y).2 (by simp);simp at this
 | x :: s,[],_,_,h=>by have:=(h x).1 (by simp);simp at this
 | x :: s,y :: t,ha,hb,h=>by
  obtain ⟨ha1,ha2⟩:=List.pairwise_cons.1 ha
  obtain ⟨hb1,hb2⟩:=List.pairwise_cons.1 hb
  have e:x = y:=by
   have h1:=(h x).1 (by simp)
   have h2:=(h y).2 (by simp)
   rcases List.mem_cons.1 h1 with h1|h1
   ·exact h1
   ·rcases List.mem_cons.1 h2 with h2|h2
    ·exact h2.symm
    ·have:=ha1 y h2
     have:=hb1 x h1
     omega
  subst e
  congr 1
  refine ascI_same s t ha2 hb2 fun z=>⟨fun hz=>?_,fun hz=>?_⟩
  ·rcases List.mem_cons.1 ((h z).1 (by simp [hz])) with e|e
   ·have:=ha1 z hz;omega
   ·exact e
  ·rcases List.mem_cons.1 ((h z).2 (by simp [hz])) with e|e
   ·have:=hb1 z hz;omega
   ·exact e
theorem bsI_loop (D:List Int) (p:Int) (hs:AscI D) (hl:D.length ≤ 4611686018427387903):∀ (d lo hi:Nat),lo ≤ hi → hi ≤ D.length → hi - lo ≤ d →
  (∀ i (h:i < D.length),i < lo → D[i] < p) → (∀ i (h:i < D.length),hi ≤ i → p ≤ D[i]) →
  ∃ (q:Nat),q ≤ D.length ∧ Ev (fun k=>slices_BinarySearch_int_int.l0 k D p D.length lo hi) ((q:Int),decide (D[q]? = some p)) ∧ (∀ i (h:i < D.length),i < q → D[i] < p) ∧ (∀ i (h:i < D.length),q ≤ i → p ≤ D[i])
 | d,lo,hi,h1,h2,h3,a,b=>by
  by_cases c:lo < hi
  ·cases d with
   | zero=>omega
   | succ d =>
    have hm:(lo + hi) / 2 < D.length:=by omega
    have step:∀ r,Ev (fun k=>if D[(lo + hi) / 2] < p then slices_BinarySearch_int_int.l0 k D p D.length (((lo + hi) / 2 + 1:Nat):Int) hi else slices_BinarySearch_int_int.l0 k D p D.length lo (((lo + hi) / 2:Nat):Int)) r → Ev (fun k=>slices_BinarySearch_int_int.l0 k D p D.length lo hi) r:=by
     intro r h
     have hless:cmp_Less_int.f D[(lo + hi) / 2] p = some (decide (D[(lo + hi) / 2] < p)):=by
      simp [cmp_Less_int.f,cmp_isNaN_int.f]
     refine Ev_succ ?_
     simp only [slices_BinarySearch_int_int.l0,if_pos (show (lo:Int) < (hi:Int) by omega),mid_w (show lo + hi ≤ 9223372036854775807 by omega),if_pos (show 0 ≤ (((lo + hi) / 2:Nat):Int) by omega),if_pos (show (((lo + hi) / 2:Nat):Int) < (D.length:Int) by omega),rd_nat D _ hm,hless,Option.bind_some,w_succ hm (by omega),decide_eq_true_eq]
     exact h
    by_cases c2:D[(lo + hi) / 2] < p
    ·obtain ⟨q,hq,e,q1,q2⟩:=bsI_loop D p hs hl d ((lo + hi) / 2 + 1) hi (by omega) h2 (by omega) (fun i h hl=>by
      by_cases e:i = (lo + hi) / 2
      ·subst e;exact c2
      ·have:=ascI_lt hs (show i < (lo + hi) / 2 by omega) hm;omega) b
     refine ⟨q,hq,step _ ?_,q1,q2⟩
     simp only [if_pos c2]
     exact e
    ·obtain ⟨q,hq,e,q1,q2⟩:=bsI_loop D p hs hl d lo ((lo + hi) / 2) (by omega) (by omega) (by omega) a (fun i h hl=>by
      by_cases e:i = (lo + hi) / 2
      ·subst e;omega
      ·have:=ascI_lt hs (show (lo + hi) / 2 < i by omega) h;omega)
     refine ⟨q,hq,step _ ?_,q1,q2⟩
     simp only [if_neg c2]
     exact e
  ·have hlo:lo = hi:=by omega
   subst hlo
   refine ⟨lo,h2,Ev_succ ?_,a,b⟩
   simp only [slices_BinarySearch_int_int.l0,if_neg (show ¬ (lo:Int) < (lo:Int) by omega)]
   by_cases hlt:lo < D.length
   ·simp only [if_pos (show (lo:Int) < (D.length:Int) by omega),if_pos (show 0 ≤ (lo:Int) by omega),rd_nat D _ hlt,List.getElem?_eq_getElem hlt,Option.some.injEq]
    by_cases e:D[lo] = p
    ·simp only [if_pos e,decide_eq_true e]
     exact Ev.now _
    ·simp only [if_neg e,decide_eq_false e,slices_isNaN_int.f,bne_self_eq_false,Option.bind_some,Bool.false_eq_true,if_false]
     exact Ev.now _
   ·simp only [if_neg (show ¬ (lo:Int) < (D.length:Int) by omega),List.getElem?_eq_none (show D.length ≤ lo by omega),decide_eq_false (show ¬ (none:Option Int) = some p by simp)]
    exact Ev.now _
theorem bsI_f (D:List Int) (p:Int) (hs:AscI D) (hl:D.length ≤ 4611686018427387903) :
  ∃ (q:Nat),q ≤ D.length ∧ Ev (fun k=>slices_BinarySearch_int_int.f k D p) ((q:Int),decide (D[q]? = some p)) ∧ (∀ i (h:i < D.length),i < q → D[i] < p) ∧ (∀ i (h:i < D.length),q ≤ i → p ≤ D[i]) :=
 bsI_loop D p hs hl D.length 0 D.length (by omega) (by omega) (by omega) (fun i h hl=>by omega) (fun i h hl=>by omega)
structure Told (ts:List (Int × Int)) (D:List Int):Prop where
 asc:AscI D
 mem:∀ x,x ∈ D ↔ ∃ t ∈ ts,t.1 = x
 len:D.length ≤ ts.length
theorem told_hit {ts:List (Int × Int)} {D:List Int} (h:Told ts D) {q:Nat} (hq:q < D.length) (a:Int):Told (ts ++ [(D[q],a)]) D ∧ (D.map (sumAt ts)).set q (sumAt ts D[q] + a) = D.map (sumAt (ts ++ [(D[q],a)])):=by
 refine ⟨⟨h.asc,fun x=>?_,by have:=h.len;simp;omega⟩,?_⟩
 ·rw [h.mem x]
  constructor
  ·rintro ⟨t,ht,e⟩;exact ⟨t,by simp [ht],e⟩
  ·rintro ⟨t,ht,e⟩
   rcases List.mem_append.1 ht with ht|ht
   ·exact ⟨t,ht,e⟩
   ·rw [List.mem_singleton.1 ht] at e
    exact (h.mem x).1 (by rw [← e];exact List.getElem_mem hq)
 ·refine List.ext_getElem (by simp) fun i h1 h2=>?_
  have hi:i < D.length:=by simpa using h2
  rw [List.getElem_set,List.getElem_map,List.getElem_map,sumAt_snoc]
  by_cases e:q = i
  ·subst e;simp
  ·rw [if_neg e,if_neg,Int.add_zero]
   dsimp only
   rcases Nat.lt_or_gt_of_ne e with e|e
   ·have:=ascI_lt h.asc e hi;omega
   ·have:=ascI_lt h.asc e hq;omega
theorem told_new {ts:List (Int × Int)} {D:List Int} (h:Told ts D) {q:Nat} (hq:q ≤ D.length) (p a:Int) (q1:∀ i (h:i < D.length),i < q → D[i] < p) (q2:∀ i (h:i < D.length),q ≤ i → p < D[i]) :
  Told (ts ++ [(p,a)]) (D.take q ++ [p] ++ D.drop q) ∧ ((D.map (sumAt ts)).take q ++ [a] ++ (D.map (sumAt ts)).drop q) = (D.take q ++ [p] ++ D.drop q).map (sumAt (ts ++ [(p,a)])):=by
 have t1:∀ x ∈ D.take q,x < p:=fun x hx=>by
  obtain ⟨i,hi,rfl⟩:=List.getElem_of_mem hx
  rw [List.length_take] at hi
  rw [List.getElem_take]
  exact q1 i (by omega) (by omega)
 have t2:∀ x ∈ D.drop q,p < x:=fun x hx=>by
  obtain ⟨i,hi,rfl⟩:=List.getElem_of_mem hx
  rw [List.length_drop] at hi
  rw [List.getElem_drop]
  exact q2 (q + i) (by omega) (by omega)
 have hD:D.take q ++ D.drop q = D:=List.take_append_drop q D
 have hnot:p ∉ D:=fun hp=>by
  rw [← hD] at hp
  rcases List.mem_append.1 hp with hp|hp
  ·have:=t1 p hp;omega
  ·have:=t2 p hp;omega
 have hmem:∀ x,x ∈ D.take q ++ [p] ++ D.drop q ↔ x = p ∨ x ∈ D:=fun x=>by
  have:x ∈ D ↔ x ∈ D.take q ∨ x ∈ D.drop q:=by rw [← List.mem_append,hD]
  rw [this]
  simp only [List.mem_append,List.mem_singleton]
  constructor
  ·rintro ((h|h)|h) <;> simp [h]
  ·rintro (h|h|h) <;> simp [h]
 have hpz:sumAt ts p = 0:=sumAt_none fun hx=>hnot ((h.mem p).2 hx)
 refine ⟨⟨?_,fun x=>?_,?_⟩,?_⟩
 ·have hp:=h.asc
  unfold AscI at hp ⊢
  rw [← hD,List.pairwise_append] at hp
  obtain ⟨p1,p2,p3⟩:=hp
  rw [List.append_assoc,List.pairwise_append]
  refine ⟨p1,List.pairwise_cons.2 ⟨t2,p2⟩,fun x hx y hy=>?_⟩
  rcases List.mem_cons.1 hy with e|e
  ·rw [e];exact t1 x hx
  ·exact p3 x hx y e
 ·rw [hmem,h.mem]
  constructor
  ·rintro (e|⟨t,ht,e⟩)
   ·exact ⟨(p,a),by simp,e.symm⟩
   ·exact ⟨t,by simp [ht],e⟩
  ·rintro ⟨t,ht,e⟩
   rcases List.mem_append.1 ht with ht|ht
   ·exact Or.inr ⟨t,ht,e⟩
   ·rw [List.mem_singleton.1 ht] at e;exact Or.inl e.symm
 ·have:=h.len
  simp only [List.length_append,List.length_take,List.length_drop,List.length_cons,List.length_nil]
  omega
 ·have key:∀ x ∈ D,sumAt (ts ++ [(p,a)]) x = sumAt ts x:=fun x hx=>by
   rw [sumAt_snoc,if_neg,Int.add_zero]
   intro e
   exact hnot (by rw [show p = x from e];exact hx)
  have hp:sumAt (ts ++ [(p,a)]) p = a:=by rw [sumAt_snoc,if_pos rfl,hpz];omega
  rw [List.map_append,List.map_append,List.map_cons,List.map_nil,hp,← List.map_take,← List.map_drop]
  congr 1
  ·congr 1
   exact List.map_congr_left fun x hx=>(key x (List.mem_of_mem_take hx)).symm
  ·exact List.map_congr_left fun x hx=>(key x (List.mem_of_mem_drop hx)).symm
theorem set_mid {α:Type} (A B:List α) (x y:α) (q:Nat) (h:A.length = q):(A ++ [x] ++ B).set q y = A ++ [y] ++ B:=by
 subst h
 rw [List.append_assoc,List.append_assoc,List.set_append_right _ _ (Nat.le_refl _),Nat.sub_self]
 rfl
theorem get_mid (A B:List Int) (x:Int) (q:Nat) (h:A.length = q):rd (A ++ [x] ++ B) (q:Int) = x:=by
 subst h
 rw [rd_nat _ _ (by simp)]
 rw [List.getElem_append_left (by simp),List.getElem_append_right (Nat.le_refl _)]
 simp
theorem expL0 (l:List Pos) (o:List Arr) (n:Nat) (hg:PGood l o n):∀ (d i:Nat) (ts:List (Int × Int)) (D:List Int),i + d = l.length → ts.length = i → (∀ t ∈ ts,-1048576000 ≤ t.2 ∧ t.2 ≤ 1048576000) → Told ts D →
  ∃ D',Ev (fun k=>scan_Expiries.l0 k D (D.map (sumAt ts)) o l l.length i) (D',D'.map (sumAt (ts ++ terms (l.drop i) (o.drop i))),0) ∧ Told (ts ++ terms (l.drop i) (o.drop i)) D'
 | 0,i,ts,D,hd,hts,hr,ht=>by
  have:=hg.len
  rw [List.drop_of_length_le (by omega),terms,List.append_nil]
  refine ⟨D,Ev_succ ?_,ht⟩
  simp only [scan_Expiries.l0,if_neg (show ¬ ((i:Int) < (l.length:Int)) by omega)]
  exact Ev.now _
  all_goals simp
 | d + 1,i,ts,D,hd,hts,hr,ht=>by
  have hi:i < l.length:=by omega
  have hlen:=hg.len
  have hio:i < o.length:=by omega
  have hf:=hg.few
  have hp:=hg.lots l[i] (List.getElem_mem hi)
  have ha:=hg.arr o[i] (List.getElem_mem hio)
  have b1:=lots_rng hp.1
  have b2:=lots_rng hp.2
  have b3:=deltaBad_rng ha.2.2
  have e1:wrap64 (l[i].f1 - l[i].f2) = l[i].f1 - l[i].f2:=w_id (by omega) (by omega)
  have b4:=mul_rng (A:=1048576) (B:=1000) (a:=l[i].f1 - l[i].f2) (b:=o[i].f2) (by omega) (by omega)
  have e2:wrap64 ((l[i].f1 - l[i].f2) * o[i].f2) = (l[i].f1 - l[i].f2) * o[i].f2:=w_id (by omega) (by omega)
  have hDl:=ht.len
  obtain ⟨q,hq,hb,q1,q2⟩:=bsI_f D l[i].f0.f2 ht.asc (by omega)
  have hr':∀ t ∈ ts ++ [(l[i].f0.f2,(l[i].f1 - l[i].f2) * o[i].f2)],-1048576000 ≤ t.2 ∧ t.2 ≤ 1048576000:=fun t h=>by
   rcases List.mem_append.1 h with h|h
   ·exact hr t h
   ·rw [List.mem_singleton.1 h];dsimp only;omega
  have happ:ts ++ terms (l.drop i) (o.drop i) = (ts ++ [(l[i].f0.f2,(l[i].f1 - l[i].f2) * o[i].f2)]) ++ terms (l.drop (i + 1)) (o.drop (i + 1)):=by
   rw [drop_cons l i hi,drop_cons o i hio,terms,List.append_assoc];rfl
  rw [happ]
  by_cases c:D[q]? = some l[i].f0.f2
  ·obtain ⟨hql,hqe⟩:=List.getElem?_eq_some_iff.1 c
   have hh:=told_hit ht hql ((l[i].f1 - l[i].f2) * o[i].f2)
   rw [hqe] at hh
   have hs:=sumAt_rng hr l[i].f0.f2
   have e3:wrap64 (sumAt ts l[i].f0.f2 + (l[i].f1 - l[i].f2) * o[i].f2) = sumAt ts l[i].f0.f2 + (l[i].f1 - l[i].f2) * o[i].f2:=w_id (by omega) (by omega)
   have hrd:rd (D.map (sumAt ts)) (q:Int) = sumAt ts l[i].f0.f2:=by rw [rd_nat _ _ (by simpa using hql),List.getElem_map,hqe]
   obtain ⟨D',hD',hT'⟩:=expL0 l o n hg d (i + 1) _ D (by omega) (by simp [hts]) hr' hh.1
   refine ⟨D',Ev_succ ?_,hT'⟩
   simp only [scan_Expiries.l0,if_pos (show (i:Int) < (l.length:Int) by omega),if_pos (show 0 ≤ (i:Int) by omega),rdPos l i hi]
   refine Ev_bind hb ?_
   simp only [decide_eq_true c,if_true,if_pos (show 0 ≤ (q:Int) by omega),List.length_map,if_pos (show (q:Int) < (D.length:Int) by omega),if_pos (show (i:Int) < (o.length:Int) by omega),rdArr o i hio,e1,e2,hrd,e3,Int.toNat_natCast,w_succ hi (by omega),hh.2]
   exact hD'
  ·have q2':∀ j (h:j < D.length),q ≤ j → l[i].f0.f2 < D[j]:=fun j h hj=>by
    have h1:=q2 j h hj
    have h2:D[j] ≠ l[i].f0.f2:=fun e=>by
     by_cases e2:j = q
     ·subst e2;exact c (by rw [List.getElem?_eq_getElem h,e])
     ·have:=ascI_lt ht.asc (show q < j by omega) h
      have:=q2 q (by omega) (Nat.le_refl _)
      omega
    omega
   have hh:=told_new ht hq l[i].f0.f2 ((l[i].f1 - l[i].f2) * o[i].f2) q1 q2'
   obtain ⟨D',hD',hT'⟩:=expL0 l o n hg d (i + 1) _ _ (by omega) (by simp [hts]) hr' hh.1
   refine ⟨D',Ev_succ ?_,hT'⟩
   have hins1:slices_Insert_int_int.f D (q:Int) [l[i].f0.f2] = some (D.take q ++ [l[i].f0.f2] ++ D.drop q):=by
    unfold slices_Insert_int_int.f
    rw [if_pos ⟨by omega,by omega,by omega,rfl⟩,Int.toNat_natCast]
   have hins2:slices_Insert_int_int.f (D.map (sumAt ts)) (q:Int) [0] = some ((D.map (sumAt ts)).take q ++ [0] ++ (D.map (sumAt ts)).drop q):=by
    unfold slices_Insert_int_int.f
    rw [if_pos ⟨by omega,by rw [List.length_map];omega,by rw [List.length_map];omega,rfl⟩,Int.toNat_natCast]
   have htk:((D.map (sumAt ts)).take q).length = q:=by rw [List.length_take,List.length_map];omega
   have hlen2:((D.map (sumAt ts)).take q ++ [0] ++ (D.map (sumAt ts)).drop q).length = D.length + 1:=by
    simp only [List.length_append,List.length_take,List.length_drop,List.length_map,List.length_cons,List.length_nil];omega
   have e4:wrap64 (0 + (l[i].f1 - l[i].f2) * o[i].f2) = (l[i].f1 - l[i].f2) * o[i].f2:=by rw [Int.zero_add];exact e2
   simp only [scan_Expiries.l0,if_pos (show (i:Int) < (l.length:Int) by omega),if_pos (show 0 ≤ (i:Int) by omega),rdPos l i hi]
   refine Ev_bind hb ?_
   simp only [decide_eq_false c,Bool.false_eq_true,if_false,hins1,hins2,Option.bind_some,hlen2,if_pos (show 0 ≤ (q:Int) by omega),if_pos (show (q:Int) < ((D.length + 1:Nat):Int) by omega),if_pos (show (i:Int) < (o.length:Int) by omega),rdArr o i hio,get_mid _ _ _ q htk,e1,e2,e4,Int.toNat_natCast,set_mid _ _ _ _ q htk,w_succ hi (by omega),hh.2]
   exact hD'
def toldOf (l:List Pos) (r:List Arr) (D:List Int):List Int × List Int × Int:=if (found l r).2 = 0 then (D,D.map (sumAt (terms l (found l r).1)),0) else ([],[],(found l r).2)
theorem expiries_f (l:List Pos) (r:List Arr) (hl:l.length ≤ 4611686018427387904) (hr:r.length ≤ 4611686018427387904) (ha:∀ a ∈ r,a.f1.length ≤ 4611686018427387904) :
  ∃ D,Ev (fun k=>scan_Expiries.f k l r) (toldOf l r D) ∧ ((found l r).2 = 0 → Told (terms l (found l r).1) D):=by
 unfold scan_Expiries.f toldOf
 by_cases h:(found l r).2 = 0
 ·obtain ⟨D,hD,hT⟩:=expL0 l _ _ (found_good h) l.length 0 [] [] (by omega) rfl (by simp) ⟨by unfold AscI;simp,by simp,by simp⟩
  rw [List.drop_zero,List.drop_zero,List.nil_append] at hT hD
  refine ⟨D,Ev_bind (found_f l r hl hr ha) ?_,fun _=>hT⟩
  simp only [if_pos h]
  exact hD
 ·refine ⟨[],Ev_bind (found_f l r hl hr ha) ?_,fun e=>absurd e h⟩
  simp only [if_neg h]
  exact Ev.now _
end Go.Proofs.Ytbgeceiddcokmaa.P
end
section
namespace Go.Proofs.Ytbgeceiddcokmaa.P
set_option linter.unusedVariables false
set_option linter.unusedSimpArgs false
open Go.RowKit Go.Proofs.YtbgeceiddcokmaaW.PrintWords Go.Proofs.YtbgeceiddcokmaaW.PrintMore Go.Proofs.Ytbgeceiddcokmaa.X
def later (D:List Int) (x:Int):Bool:=D.all fun y=>decide (y < x)
theorem later_iff (D:List Int) (x:Int):later D x = true ↔ ∀ y ∈ D,y < x:=by simp [later]
theorem later_last {D:List Int} (h:AscI D) (h0:0 < D.length) (x:Int):(x > D[D.length - 1]) ↔ later D x = true:=by
 rw [later_iff]
 constructor
 ·intro hx y hy
  obtain ⟨i,hi,rfl⟩:=List.getElem_of_mem hy
  by_cases e:i = D.length - 1
  ·subst e;exact hx
  ·have:=ascI_lt h (show i < D.length - 1 by omega) (by omega)
   omega
 ·intro hx
  exact hx _ (List.getElem_mem _)
def nextOf (D:List Int):Bool × Int → List (Int × Int) → Bool × Int
 | st,[]=>st
 | st,t :: r=>nextOf D (if later D t.1 = true then (if st.1 = true then (if t.1 < st.2 then (true,t.1) else st) else (true,t.1)) else st) r
theorem nextOf_spec (D:List Int):∀ (r:List (Int × Int)) (st:Bool × Int),
  ((nextOf D st r).1 = false → st.1 = false ∧ ∀ t ∈ r,later D t.1 = false) ∧
  ((nextOf D st r).1 = true → ((st.1 = true ∧ (nextOf D st r).2 = st.2) ∨ ∃ t ∈ r,later D t.1 = true ∧ t.1 = (nextOf D st r).2) ∧ (st.1 = true → (nextOf D st r).2 ≤ st.2) ∧ ∀ t ∈ r,later D t.1 = true → (nextOf D st r).2 ≤ t.1)
 | [],st=>by
  refine ⟨fun h=>⟨h,by simp⟩,fun h=>⟨Or.inl ⟨h,rfl⟩,fun _=>Int.le_refl _,by simp⟩⟩
 | t :: r,st=>by
  unfold nextOf
  by_cases c:later D t.1 = true
  ·rw [if_pos c]
   by_cases c1:st.1 = true
   ·rw [if_pos c1]
    by_cases c2:t.1 < st.2
    ·rw [if_pos c2]
     obtain ⟨h1,h2⟩:=nextOf_spec D r (true,t.1)
     refine ⟨fun h=>(by have:=(h1 h).1;cases this),fun h=>?_⟩
     obtain ⟨a1,a2,a3⟩:=h2 h
     have:=a2 rfl
     refine ⟨?_,fun _=>by omega,fun s hs hl=>?_⟩
     ·rcases a1 with ⟨_,e⟩|⟨s,hs,hl,e⟩
      ·exact Or.inr ⟨t,by simp,c,e.symm⟩
      ·exact Or.inr ⟨s,by simp [hs],hl,e⟩
     ·rcases List.mem_cons.1 hs with e|e
      ·rw [e];exact this
      ·exact a3 s e hl
    ·rw [if_neg c2]
     obtain ⟨h1,h2⟩:=nextOf_spec D r st
     refine ⟨fun h=>(by have:=(h1 h).1;rw [c1] at this;cases this),fun h=>?_⟩
     obtain ⟨a1,a2,a3⟩:=h2 h
     have:=a2 c1
     refine ⟨?_,a2,fun s hs hl=>?_⟩
     ·rcases a1 with a1|⟨s,hs,hl,e⟩
      ·exact Or.inl a1
      ·exact Or.inr ⟨s,by simp [hs],hl,e⟩
     ·rcases List.mem_cons.1 hs with e|e
      ·rw [e];omega
      ·exact a3 s e hl
   ·rw [if_neg c1]
    obtain ⟨h1,h2⟩:=nextOf_spec D r (true,t.1)
    refine ⟨fun h=>(by have:=(h1 h).1;cases this),fun h=>?_⟩
    obtain ⟨a1,a2,a3⟩:=h2 h
    have:=a2 rfl
    refine ⟨?_,fun e=>absurd e c1,fun s hs hl=>?_⟩
    ·rcases a1 with ⟨_,e⟩|⟨s,hs,hl,e⟩
     ·exact Or.inr ⟨t,by simp,c,e.symm⟩
     ·exact Or.inr ⟨s,by simp [hs],hl,e⟩
    ·rcases List.mem_cons.1 hs with e|e
     ·rw [e];exact this
     ·exact a3 s e hl
  ·rw [if_neg c]
   obtain ⟨h1,h2⟩:=nextOf_spec D r st
   refine ⟨fun h=>⟨(h1 h).1,fun s hs=>?_⟩,fun h=>?_⟩
   ·rcases List.mem_cons.1 hs with e|e
    ·rw [e];simpa using c
    ·exact (h1 h).2 s e
   ·obtain ⟨a1,a2,a3⟩:=h2 h
    refine ⟨?_,a2,fun s hs hl=>?_⟩
    ·rcases a1 with a1|⟨s,hs,hl,e⟩
     ·exact Or.inl a1
     ·exact Or.inr ⟨s,by simp [hs],hl,e⟩
    ·rcases List.mem_cons.1 hs with e|e
     ·rw [e] at hl;exact absurd hl c
     ·exact a3 s e hl
theorem count_lt {α:Type} (p q:α → Bool):∀ (l:List α),(∀ t ∈ l,p t = true → q t = true) → (∃ t ∈ l,q t = true ∧ p t = false) → l.countP p < l.countP q
 | [],_,h=>by obtain ⟨t,ht,_⟩:=h;simp at ht
 | x :: r,h,h2=>by
  have hle:r.countP p ≤ r.countP q:=List.countP_mono_left fun t ht=>h t (by simp [ht])
  rw [List.countP_cons,List.countP_cons]
  by_cases hx:q x = true ∧ p x = false
  ·rw [hx.1,hx.2];simp;omega
  ·have h3:∃ t ∈ r,q t = true ∧ p t = false:=by
    obtain ⟨t,ht,hq⟩:=h2
    rcases List.mem_cons.1 ht with e|e
    ·rw [e] at hq;exact absurd hq hx
    ·exact ⟨t,e,hq⟩
   have ih:=count_lt p q r (fun t ht=>h t (by simp [ht])) h3
   have hx1:=h x (by simp)
   cases hp:p x with
   | true=>rw [hx1 hp];simp;omega
   | false=>split <;> split <;> simp at * <;> omega
theorem terms_len:∀ (a:List Pos) (b:List Arr),(terms a b).length ≤ a.length
 | [],_=>by simp [terms]
 | p :: t,[]=>by simp [terms]
 | p :: t,x :: y=>by have:=terms_len t y;simp only [terms,List.length_cons];omega
section
variable (l:List Pos) (r:List Arr) (hr:r.length ≤ 4611686018427387904) (o:List Arr) (ho:ownA r l = some o) (n:Nat) (hg:PGood l o n)
include hg
theorem refExpL1 (D S:List Int) (hD:AscI D) (hDl:D.length ≤ 200) (res:List Int × List Int × Int):∀ (d i:Nat) (st:Bool × Int),i + d = l.length →
  Ev (fun k=>contangoref23_Expiries.l2 k l r D S (nextOf D st (terms (l.drop i) (o.drop i))).1 (nextOf D st (terms (l.drop i) (o.drop i))).2 0 0) res →
  Ev (fun k=>contangoref23_Expiries.l1 k l r D S st.1 st.2 i) res
 | 0,i,st,hd,H=>by
  rw [List.drop_of_length_le (show l.length ≤ i by omega),terms,nextOf] at H
  refine Ev_succ ?_
  simp only [contangoref23_Expiries.l1,if_neg (show ¬ ((i:Int) < (l.length:Int)) by omega)]
  exact H
  all_goals simp
 | d + 1,i,st,hd,H=>by
  have hi:i < l.length:=by omega
  have hlen:=hg.len
  have hio:i < o.length:=by omega
  have hf:=hg.few
  rw [drop_cons l i hi,drop_cons o i hio,terms,nextOf] at H
  dsimp only at H
  have ih:=fun s hs=>refExpL1 D S hD hDl res d (i + 1) s (by omega) hs
  refine Ev_succ ?_
  simp only [contangoref23_Expiries.l1,if_pos (show (i:Int) < (l.length:Int) by omega),if_pos (show 0 ≤ (i:Int) by omega),rdPos l i hi,w_succ hi (show l.length ≤ 9223372036854775807 by omega)]
  by_cases h0:D.length = 0
  ·have hD0:D = []:=List.eq_nil_of_length_eq_zero h0
   have hl:later D l[i].f0.f2 = true:=by rw [hD0];rfl
   simp only [if_pos hl] at H
   simp only [if_pos (show (D.length:Int) = 0 by omega)]
   by_cases c1:st.1 = true
   ·simp only [if_pos c1] at H ⊢
    by_cases c2:l[i].f0.f2 < st.2
    ·simp only [if_pos c2] at H ⊢
     exact ih (true,l[i].f0.f2) H
    ·simp only [if_neg c2] at H ⊢
     exact ih st H
   ·simp only [if_neg c1] at H ⊢
    exact ih (true,l[i].f0.f2) H
  ·have hw:=w_pred (show 0 < D.length by omega) (by omega)
   have hll:=later_last hD (show 0 < D.length by omega) l[i].f0.f2
   simp only [if_neg (show ¬ (D.length:Int) = 0 by omega),hw,if_pos (show 0 ≤ ((D.length - 1:Nat):Int) by omega),if_pos (show ((D.length - 1:Nat):Int) < (D.length:Int) by omega),rd_nat D (D.length - 1) (by omega)]
   by_cases hl:later D l[i].f0.f2 = true
   ·simp only [if_pos hl] at H
    simp only [if_pos (hll.2 hl)]
    by_cases c1:st.1 = true
    ·simp only [if_pos c1] at H ⊢
     by_cases c2:l[i].f0.f2 < st.2
     ·simp only [if_pos c2] at H ⊢
      exact ih (true,l[i].f0.f2) H
     ·simp only [if_neg c2] at H ⊢
      exact ih st H
    ·simp only [if_neg c1] at H ⊢
     exact ih (true,l[i].f0.f2) H
   ·simp only [if_neg hl] at H
    simp only [if_neg (fun e=>hl (hll.1 e))]
    exact ih st H
include hr ho
theorem refExpL2 (D S:List Int) (b:Bool) (v:Int) (res:List Int × List Int × Int):∀ (d i:Nat) (acc:Int),i + d = l.length → -(1048576000 * (i:Int)) ≤ acc → acc ≤ 1048576000 * (i:Int) →
  Ev (fun k=>if b = true then (if D.length < 17592186044416 then (if S.length < 17592186044416 then contangoref23_Expiries.l0 k l r (D ++ [v]) (S ++ [acc + sumAt (terms (l.drop i) (o.drop i)) v]) b else none) else none) else contangoref23_Expiries.l0 k l r D S b) res →
  Ev (fun k=>contangoref23_Expiries.l2 k l r D S b v acc i) res
 | 0,i,acc,hd,h1,h2,H=>by
  have:=hg.len
  rw [List.drop_of_length_le (show l.length ≤ i by omega),terms,sumAt,Int.add_zero] at H
  refine Ev_succ ?_
  simp only [contangoref23_Expiries.l2,if_neg (show ¬ ((i:Int) < (l.length:Int)) by omega)]
  exact H
  all_goals simp
 | d + 1,i,acc,hd,h1,h2,H=>by
  have hi:i < l.length:=by omega
  have hlen:=hg.len
  have hio:i < o.length:=by omega
  have hf:=hg.few
  have hp:=hg.lots l[i] (List.getElem_mem hi)
  have ha:=hg.arr o[i] (List.getElem_mem hio)
  have b1:=lots_rng hp.1
  have b2:=lots_rng hp.2
  have b3:=deltaBad_rng ha.2.2
  have e1:wrap64 (l[i].f1 - l[i].f2) = l[i].f1 - l[i].f2:=w_id (by omega) (by omega)
  have b4:=mul_rng (A:=1048576) (B:=1000) (a:=l[i].f1 - l[i].f2) (b:=o[i].f2) (by omega) (by omega)
  have e2:wrap64 ((l[i].f1 - l[i].f2) * o[i].f2) = (l[i].f1 - l[i].f2) * o[i].f2:=w_id (by omega) (by omega)
  have e3:wrap64 (acc + (l[i].f1 - l[i].f2) * o[i].f2) = acc + (l[i].f1 - l[i].f2) * o[i].f2:=w_id (by omega) (by omega)
  rw [drop_cons l i hi,drop_cons o i hio,terms,sumAt] at H
  refine Ev_succ ?_
  simp only [contangoref23_Expiries.l2,if_pos (show (i:Int) < (l.length:Int) by omega),if_pos (show 0 ≤ (i:Int) by omega),rdPos l i hi]
  by_cases c:l[i].f0.f2 = v
  ·simp only [if_pos c] at H ⊢
   obtain ⟨m,hm,em,hv⟩:=findR_some r hr _ _ (ownA_get r l o ho i hi hio)
   refine Ev_bind hv ?_
   simp only [if_pos (show 0 ≤ (m:Int) by omega),if_pos (show (m:Int) < (r.length:Int) by omega),rdArr r m hm,em,e1,e2,e3,w_succ hi (by omega)]
   refine refExpL2 D S b v res d (i + 1) _ (by omega) (by omega) (by omega) ?_
   rw [← Int.add_assoc] at H
   exact H
  ·simp only [if_neg c,Int.zero_add] at H ⊢
   simp only [w_succ hi (show l.length ≤ 9223372036854775807 by omega)]
   exact refExpL2 D S b v res d (i + 1) _ (by omega) (by omega) (by omega) H
theorem refExpMain:∀ (f:Nat) (D:List Int),AscI D → (∀ x ∈ D,∃ t ∈ terms l o,t.1 = x) → (∀ t ∈ terms l o,later D t.1 = false → t.1 ∈ D) → (terms l o).countP (fun t=>later D t.1) ≤ f → D.length + f ≤ 200 →
  ∃ D',Ev (fun k=>contangoref23_Expiries.l0 k l r D (D.map (sumAt (terms l o))) true) (D',D'.map (sumAt (terms l o)),0) ∧ AscI D' ∧ ∀ x,x ∈ D' ↔ ∃ t ∈ terms l o,t.1 = x:=by
 intro f
 induction f with
 | zero =>
  intro D hD h1 h2 hc hl
  have hz:∀ t ∈ terms l o,later D t.1 = false:=fun t ht=>by
   have:=List.countP_eq_zero.1 (Nat.le_zero.1 hc) t ht
   simpa using this
  have hn:=(nextOf_spec D (terms l o) (false,0))
  have hfl:(nextOf D (false,0) (terms l o)).1 = false:=by
   rw [← Bool.not_eq_true]
   intro e
   rcases (hn.2 e).1 with ⟨e2,_⟩|⟨t,ht,e2,_⟩
   ·cases e2
   ·rw [hz t ht] at e2;cases e2
  refine ⟨D,Ev_succ ?_,hD,fun x=>⟨h1 x,fun ⟨t,ht,e⟩=>by rw [← e];exact h2 t ht (hz t ht)⟩⟩
  simp only [contangoref23_Expiries.l0,if_true]
  have:=refExpL1 l r o n hg D (D.map (sumAt (terms l o))) hD (by omega) (D,D.map (sumAt (terms l o)),0) l.length 0 (false,0) (by omega)
  rw [List.drop_zero,List.drop_zero,hfl] at this
  refine this (refExpL2 l r hr o ho n hg D _ false _ _ l.length 0 0 (by omega) (by simp) (by simp) ?_)
  simp only [Bool.false_eq_true,if_false]
  refine Ev_succ ?_
  simp only [contangoref23_Expiries.l0,Bool.false_eq_true,if_false]
  exact Ev.now _
 | succ f ih =>
  intro D hD h1 h2 hc hl
  have hn:=(nextOf_spec D (terms l o) (false,0))
  have hstep:=refExpL1 l r o n hg D (D.map (sumAt (terms l o))) hD (by omega)
  cases hfl:(nextOf D (false,0) (terms l o)).1 with
  | false =>
   have hz:=(hn.1 hfl).2
   refine ⟨D,Ev_succ ?_,hD,fun x=>⟨h1 x,fun ⟨t,ht,e⟩=>by rw [← e];exact h2 t ht (hz t ht)⟩⟩
   simp only [contangoref23_Expiries.l0,if_true]
   have:=hstep (D,D.map (sumAt (terms l o)),0) l.length 0 (false,0) (by omega)
   rw [List.drop_zero,List.drop_zero,hfl] at this
   refine this (refExpL2 l r hr o ho n hg D _ false _ _ l.length 0 0 (by omega) (by simp) (by simp) ?_)
   simp only [Bool.false_eq_true,if_false]
   refine Ev_succ ?_
   simp only [contangoref23_Expiries.l0,Bool.false_eq_true,if_false]
   exact Ev.now _
  | true =>
   obtain ⟨a1,_,a3⟩:=hn.2 hfl
   obtain ⟨v,hv⟩:∃ v,nextOf D (false,0) (terms l o) = (true,v):=⟨_,Prod.ext hfl rfl⟩
   rw [hv] at a1 a3
   obtain ⟨t0,ht0,hl0,e0⟩:=a1.resolve_left (fun h=>by cases h.1)
   dsimp only at e0 a3
   have hlv:∀ y ∈ D,y < v:=by rw [← e0];exact (later_iff D _).1 hl0
   have hsnoc:∀ x,later (D ++ [v]) x = true ↔ later D x = true ∧ v < x:=fun x=>by
    rw [later_iff,later_iff]
    constructor
    ·intro h;exact ⟨fun y hy=>h y (by simp [hy]),h v (by simp)⟩
    ·rintro ⟨h,h'⟩ y hy
     rcases List.mem_append.1 hy with e|e
     ·exact h y e
     ·rw [List.mem_singleton.1 e];exact h'
   have hA:AscI (D ++ [v]):=by
    unfold AscI at hD ⊢
    rw [List.pairwise_append]
    refine ⟨hD,by simp,fun x hx y hy=>?_⟩
    rw [List.mem_singleton.1 hy];exact hlv x hx
   have hcl:=count_lt (fun t:Int × Int=>later (D ++ [v]) t.1) (fun t=>later D t.1) (terms l o) (fun t _ h=>((hsnoc t.1).1 h).1) ⟨t0,ht0,hl0,by
    rw [← Bool.not_eq_true]
    intro e
    have:=((hsnoc t0.1).1 e).2
    omega⟩
   obtain ⟨D',hD',hA',hm'⟩:=ih (D ++ [v]) hA (fun x hx=>by
    rcases List.mem_append.1 hx with e|e
    ·exact h1 x e
    ·rw [List.mem_singleton.1 e];exact ⟨t0,ht0,e0⟩) (fun t ht h=>by
    by_cases c:later D t.1 = true
    ·have:=a3 t ht c
     have h3:¬ v < t.1:=fun h3=>by rw [(hsnoc t.1).2 ⟨c,h3⟩] at h;cases h
     have:t.1 = v:=by omega
     rw [this];simp
    ·have:=h2 t ht (by simpa using c)
     simp [this]) (by omega) (by simp;omega)
   refine ⟨D',Ev_succ ?_,hA',hm'⟩
   simp only [contangoref23_Expiries.l0,if_true]
   have:=hstep (D',D'.map (sumAt (terms l o)),0) l.length 0 (false,0) (by omega)
   rw [List.drop_zero,List.drop_zero,hv] at this
   refine this (refExpL2 l r hr o ho n hg D _ true v _ l.length 0 0 (by omega) (by simp) (by simp) ?_)
   simp only [if_true,if_pos (show D.length < 17592186044416 by omega),List.length_map,List.drop_zero,Int.zero_add]
   rw [List.map_append,List.map_cons,List.map_nil] at hD'
   exact hD'
end
theorem refExpiries_f (l:List Pos) (r:List Arr) (hl:l.length ≤ 4611686018427387904) (hr:r.length ≤ 4611686018427387904) (ha:∀ a ∈ r,a.f1.length ≤ 4611686018427387904) (D:List Int) (hT:(found l r).2 = 0 → Told (terms l (found l r).1) D) :
  Ev (fun k=>contangoref23_Expiries.f k l r) (toldOf l r D):=by
 unfold contangoref23_Expiries.f toldOf
 refine Ev_bind (checks_f l r hl hr ha) ?_
 by_cases h:(found l r).2 = 0
 ·simp only [if_pos h]
  obtain ⟨_,ho⟩:=found_zero h
  have hg:=found_good h
  have hf:=hg.few
  have hlen:=terms_len l (found l r).1
  have hc:=List.countP_le_length (p:=fun t:Int × Int=>later [] t.1) (l:=terms l (found l r).1)
  obtain ⟨D',h1,h2,h3⟩:=refExpMain l r hr _ ho _ hg 128 [] (by unfold AscI;simp) (by simp) (fun t _ h=>by cases h) (by omega) (by simp)
  have ht:=hT h
  have e:D' = D:=ascI_same _ _ h2 ht.asc fun x=>by rw [h3,ht.mem]
  subst e
  exact h1
 ·simp only [if_neg h]
  exact Ev.now _
end Go.Proofs.Ytbgeceiddcokmaa.P
end
section
namespace Go.Proofs.Ytbgeceiddcokmaa.P
open Go.RowKit Go.Proofs.YtbgeceiddcokmaaW.PrintWords Go.Proofs.YtbgeceiddcokmaaW.PrintMore Go.Proofs.Ytbgeceiddcokmaa.X
theorem goes23:Ev (fun k=>contangolaw23_goes.f k) true:=Ev.of (k:=40) (contangolaw23_goes.mono) (by decide +kernel)
end Go.Proofs.Ytbgeceiddcokmaa.P
end
section
namespace Go.Proofs.Ytbgeceiddcokmaa.Pure
set_option linter.unusedVariables false
set_option linter.unusedSimpArgs false
open Go.RowKit Go.Proofs.YtbgeceiddcokmaaW.PrintWords Go.Proofs.YtbgeceiddcokmaaW.PrintMore Go.Proofs.Ytbgeceiddcokmaa.X Go.Proofs.Ytbgeceiddcokmaa.P
theorem told_len {l:List Pos} {r:List Arr} {D:List Int} (hT:(found l r).2 = 0 → P.Told (terms l (found l r).1) D):(toldOf l r D).1.length ≤ 128 ∧ (toldOf l r D).2.1.length ≤ 128:=by
  unfold toldOf
  by_cases h:(found l r).2 = 0
  · rw [if_pos h]
    have h1:=(hT h).len
    have h2:=terms_len l (found l r).1
    have h3:=(found_good h).few
    show D.length ≤ 128 ∧ (D.map _).length ≤ 128
    rw [List.length_map]
    omega
  · rw [if_neg h];simp
theorem ScanDeltas:∀ (l0:List (S73)) (l1:List (S91)),(l0.length ≤ maxLen ∧ l0.length * 56 ≤ 140737488351232 ∧ ∀ x ∈ l0,ok73 x) → (l1.length ≤ maxLen ∧ l1.length * 72 ≤ 140737488351232 ∧ ∀ x ∈ l1,ok91 x) → ∃ k,X.contangolaw23_ScanDeltas.f k l0 l1 = some true:=by
  intro l r hl hr
  apply Ev.rounds
  have bl:l.length ≤ 4611686018427387904:=by omega
  have br:r.length ≤ 4611686018427387904:=by omega
  have bra:∀ a ∈ r,a.f1.length ≤ 4611686018427387904:=by
    intro a har
    have:=(hr.2.2 a har).2.1.2.1
    omega
  unfold contangolaw23_ScanDeltas.f
  obtain ⟨b,hb,hfew⟩:=few_f l r br
  refine Ev_bind hb ?_
  cases b with
  | false=>simp only [Bool.false_eq_true,if_false];exact Ev_id goes23
  | true =>
    obtain ⟨D,hD,hT⟩:=expiries_f l r bl br bra
    obtain ⟨n1,n2⟩:=told_len hT
    simp only [if_true]
    refine Ev_bind (delta_f l r bl br bra) ?_
    refine Ev_bind (refDelta_f l r bl br bra) ?_
    refine Ev_bind hD ?_
    refine Ev_bind (refExpiries_f l r bl br bra D hT) ?_
    simp only [if_true]
    have s1:=same_f (toldOf l r D).1 (toldOf l r D).1 (by omega)
    have s2:=same_f (toldOf l r D).2.1 (toldOf l r D).2.1 (by omega)
    rw [decide_eq_true rfl] at s1 s2
    refine Ev_bind s1 ?_
    simp only [if_true]
    refine Ev_bind s2 ?_
    simp only [if_true]
    exact Ev_id goes23
end Go.Proofs.Ytbgeceiddcokmaa.Pure
end
