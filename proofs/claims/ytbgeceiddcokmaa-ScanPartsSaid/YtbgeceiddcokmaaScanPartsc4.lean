/- For ScanParts: contracts, and facts on lists and numbers, that it uses (part 4). -/
import Derived.Deep.RegionLaw
import Derived.Laws.CopyOwn
import Derived.Laws.CopyRow
import Derived.Lib.AppendZerosOnto
import Derived.Lib.Overlaps
import Derived.Lib.Walk
import Derived.Test.YtbgeceiddcokmaaScanPartsc3
section
namespace Go.Proofs.Ytbgeceiddcokmaa.X
open Go.RowKit Go.Proofs.YtbgeceiddcokmaaW.PrintWords
theorem run_copy_rows {P:Program} (w:World) (dT sT ty elem:TypeId) (g o dLen dCap:Nat) (a:Addr) (sLen sCap sz:Nat) (cur:Array Value) (t:TypeId) (cs:List Value)
    (hu:P.underlying dT = some (.slice elem)) (hs:(P.info? elem).map (·.size) = some sz)
    (hg:w.heap[g]? = some (.cells cur t (0,0))) (hn:cs.length = Nat.min sLen dLen * sz)
    (hsrc:∀ j v,cs[j]? = some v → w.cell? (a.add j) = some v) (hfit:o + cs.length ≤ cur.size) (h1:∀ v ∈ cs,v.oneCell' = true) :
    (Builtin.copy_ #[dT,sT] ty #[.slice (some ⟨g,o,none⟩) dLen dCap,.slice (some a) sLen sCap]).run P w =
      .ok (goInt (Nat.min sLen dLen)) (w.setRow g (cur.toList.take o ++ cs ++ cur.toList.drop (o + cs.length)).toArray):=by
  have hl:=run_loadCells_list (P:=P) w a cs hsrc
  have hst:=run_storeCells_at P g o t cs 0 cur w hg (by simpa using hfit) h1
  cases hq:P.info? elem with
  | none=>simp [hq] at hs
  | some i =>
    have hi:i.size = sz:=by simpa [hq] using hs
    rw [hn] at hl
    simp [Builtin.copy_,run_underlying hu,Builtin.lenOf,Builtin.firstCells,sizeOf,typeInfo,hq,hi,hl,hst]
theorem R_cap {α:Type} (d:Kd α) {e base:Nat} {w:World} {ok:Nat → Prop} {A:Option Addr} {n c:Nat} {xs:List α} (h:d.R e w base ok (.slice A n c) xs):c ≤ 9223372036854775807:=by
  obtain ⟨_,inner,⟨_,h2⟩,_⟩:=h
  rcases h2 with ⟨he,_⟩|⟨g,cap,cur,he,_,_,_,hc,_⟩
  · injection he with _ _ h3;omega
  · injection he with _ _ h3;unfold maxLen at hc;omega
theorem below_drew {B:Nat} {w0 w:World} (h:Below B w0 w):Below B w0 w.drew:=⟨h.os,h.tape,h.output,h.size,h.block⟩
theorem kept_setRow {w W:World} {S:Nat → Prop} (h:Kept w W S) {g:Nat} (hg:S g ∨ w.heap.size ≤ g) (cs:Array Value):Kept w (W.setRow g cs) S :=
  ⟨by rw [setRow_size];exact h.1,fun i hi hn=>by
    rw [setRow_other W g i cs (by
      rintro rfl
      rcases hg with hg|hg
      · exact hn hg
      · omega)]
    exact h.2 i hi hn⟩
theorem read_apart {α:Type} (d:Kd α) (hs:0 < d.sz) {w:World} {S:Nat → Prop} {ad:Addr} {x:α} (h:∀ W',Kept w W' S → d.C W' (some ad) 1 [x]) {g:Nat} {cur:Array Value} {t:TypeId} (hg:w.heap[g]? = some (.cells cur t (0,0))) (hS:S g):ad.block ≠ g:=by
  rintro rfl
  obtain ⟨_,_,h3⟩:=h (w.setRow ad.block #[]) (kept_setRow (Kept.refl _ _) (.inl hS) _)
  obtain ⟨ad',he,h4⟩:=h3 (by omega)
  obtain ⟨c,hc,_,hcell⟩:=h4 0 x rfl
  injection he with he
  subst he
  have h0:=hcell 0 (c[0]'(by omega)) (List.getElem?_eq_getElem (by omega))
  have e:((ad.add (0 * d.sz + 0)):Addr).block = ad.block:=by unfold Addr.add;split <;> rfl
  unfold World.cell? at h0
  rw [e,setRow_heap w ad.block cur #[] t _ hg] at h0
  simp at h0
theorem run_overlaps_row {P:Program} (w:World) (tS tR e:TypeId) (ht:P.underlying tS = some (.slice e)) (size:Nat) (hz:∀ w,(Go.sizeOf e).run P w = .ok size w)
    (a:Addr) (g o la ca lb cb:Nat) (cur:Array Value) (t:TypeId) (v:Value) (hne:a.block ≠ g) (ha:w.cell? a = some v) (hg:w.heap[g]? = some (.cells cur t (0,0))) (hc:0 < cur.size) :
    (Extern.SlicesOverlaps.overlaps #[tS,tS] #[tR] #[.slice (some a) la ca,.slice (some ⟨g,o,none⟩) lb cb]).run P w = .ok (.bool false) w:=by
  have hnb:(a.block != g) = true:=by simpa using hne
  have hnb':(a.block == g) = false:=by simpa using hne
  have hsb:w.shape? g = some (t,cur.size):=by simp [World.shape?,hg]
  have hfb:∀ k,w.frozen? ⟨g,k,none⟩ = false:=fun k=>by simp [World.frozen?,hg]
  obtain ⟨tA,kA,hsa⟩:∃ tA kA,w.shape? a.block = some (tA,kA + 1):=by
    unfold World.cell? at ha
    split at ha
    · rename_i c el fr hh
      split at ha
      · cases ha
      · have hlt:a.off < c.size:=(Array.getElem?_eq_some_iff.1 ha).1
        exact ⟨el,c.size - 1,by simp [World.shape?,hh];omega⟩
    · cases ha
  obtain ⟨kB,hkB⟩:∃ kB,cur.size = kB + 1:=⟨cur.size - 1,by omega⟩
  rw [hkB] at hsb
  have hb:∀ {β γ:Type} (x:Sem β) (f:β → Sem γ),Sem.bind x f = x >>= f:=fun _ _=>rfl
  conv=>lhs;arg 2;whnf
  by_cases h0:la = 0 ∨ lb = 0 ∨ size = 0
  · simp [Sem.run,hb,ht,hz,h0]
  · simp [Sem.run,hb,ht,hz,h0,hnb,hnb',frozen,noView,viewAt,mayBeOne,stringish,shape,hsa,hsb,hfb]
section
variable {α:Type} (d:Kd α) (hE:d.E = [])
include hE
theorem M_any {w w1:World} {base:Nat} {ok ok':Nat → Prop} {x:α} {cs:List Value} (h:d.M w base ok x cs):d.M w1 base ok' x cs:=by
  have h1:d.M w base (fun _=>False) x cs:=d.M_mono (fun k hk=>by
    obtain ⟨_,_,_,q,hq,_⟩:=hk
    rw [hE] at hq
    simp at hq) (d.M_bound h)
  exact d.M_mono (fun k hk=>hk.elim) (d.M_move (fun k hk=>hk.elim) h1)
theorem R_row {e base:Nat} {W w0:World} {ok ok0:Nat → Prop} (g cap:Nat) (cur:Array Value) (ys:List α) (inner:List Value) (hg:W.heap[g]? = some (.cells cur e (0,0))) (hb:base ≤ g) (ho:ok g)
    (hn:ys.length ≤ cap) (hc:cap ≤ maxLen) (hs:cur.size = cap * d.sz) (ht:cur.toList.take (ys.length * d.sz) = inner) (hr:Reps (d.M w0 base ok0) d.sz ys inner):d.R e W base ok (.slice (some ⟨g,0,none⟩) ys.length cap) ys :=
  ⟨fun k hk=>by
    have:g = k:=by simpa [Value.ownBlock] using hk
    exact this ▸ ho,inner,⟨hr.1,.inr ⟨g,cap,cur,rfl,hb,hg,hn,hc,hs,ht⟩⟩,hr.imp_ (fun _ _ hp=>M_any d hE hp)⟩
end
theorem R_row_open {α:Type} (d:Kd α) {e base:Nat} {w:World} {ok:Nat → Prop} {v:Value} {xs:List α} (h:d.R e w base ok v xs) (hn:0 < xs.length) :
    ∃ g cap cur,v = .slice (some ⟨g,0,none⟩) xs.length cap ∧ base ≤ g ∧ ok g ∧ w.heap[g]? = some (.cells cur e (0,0)) ∧ xs.length ≤ cap ∧ cap ≤ maxLen ∧ cur.size = cap * d.sz ∧ Reps (d.M w base (fun _=>True)) d.sz xs (cur.toList.take (xs.length * d.sz)):=by
  obtain ⟨h0,inner,⟨h1,h2⟩,hr⟩:=h
  rcases h2 with ⟨_,he⟩|⟨g,cap,cur,rfl,hb,hg,hnc,hc,hs,ht⟩
  · omega
  · exact ⟨g,cap,cur,rfl,hb,h0 g (by simp [Value.ownBlock]),hg,hnc,hc,hs,by rw [ht];exact hr.imp_ (fun _ _ hp=>d.M_mono (fun _ _=>trivial) hp)⟩
theorem C_one {α:Type} (d:Kd α) {w:World} {A:Option Addr} {x:α} (h:d.C w A 1 [x]):∃ ad vcs,A = some ad ∧ vcs.length = d.sz ∧ d.K w x vcs ∧ ∀ i u,vcs[i]? = some u → w.cell? (ad.add i) = some u:=by
  obtain ⟨_,_,h3⟩:=h
  obtain ⟨ad,rfl,h4⟩:=h3 (by omega)
  obtain ⟨c,hc,hR,hcell⟩:=h4 0 x rfl
  exact ⟨ad,c,rfl,hc,hR,fun i u hi=>by have:=hcell i u hi;rwa [Nat.zero_mul,Nat.zero_add] at this⟩
theorem reps_single {α:Type} {R:α → List Value → Prop} {size:Nat} {x:α} {c:List Value} (h:R x c) (hc:c.length = size):Reps R size [x] c:=by
  have:=(Reps.none R size).snoc h hc
  simpa using this
theorem reps_ins {α:Type} {R:α → List Value → Prop} {size i:Nat} {xs:List α} {x:α} {inner vcs:List Value} (h:Reps R size xs inner) (hi:i ≤ xs.length) (hx:R x vcs) (hc:vcs.length = size) :
    Reps R size (xs.take i ++ [x] ++ xs.drop i) (inner.take (i * size) ++ vcs ++ inner.drop (i * size)) :=
  Kd.reps_append (Kd.reps_append (Kd.reps_take h hi) (reps_single hx hc)) (Kd.reps_drop h)
theorem ins_cells (cur inner vcs:List Value) (n i sz cap:Nat) (hi:i < n) (hn:n + 1 ≤ cap) (hl:cur.length = cap * sz) (hin:cur.take (n * sz) = inner) (hv:vcs.length = sz) :
    let cs:=inner.drop (i * sz)
    let c1:=cur.take ((i + 1) * sz) ++ cs ++ cur.drop ((i + 1) * sz + cs.length)
    let c2:=c1.take (i * sz) ++ vcs ++ c1.drop (i * sz + vcs.length)
    cs.length = (n - i) * sz ∧ (i + 1) * sz + cs.length = (n + 1) * sz ∧ (n + 1) * sz ≤ cur.length ∧ c1.length = cur.length ∧ c2.length = cur.length ∧ c2.take ((n + 1) * sz) = inner.take (i * sz) ++ vcs ++ cs:=by
  intro cs c1 c2
  have hm:∀ {a b:Nat},a ≤ b → a * sz ≤ b * sz:=fun h=>Nat.mul_le_mul_right _ h
  have e1:(i + 1) * sz = i * sz + sz:=by rw [Nat.add_mul,Nat.one_mul]
  have e2:(n + 1) * sz = n * sz + sz:=by rw [Nat.add_mul,Nat.one_mul]
  have e3:(n - i) * sz = n * sz - i * sz:=Nat.mul_sub_right_distrib n i sz
  have h1:=hm (show i ≤ n by omega)
  have h2:=hm hn
  have hil:inner.length = n * sz:=by rw [← hin,List.length_take,hl];omega
  have hcs:cs.length = (n - i) * sz:=by show (inner.drop (i * sz)).length = _;rw [List.length_drop,hil,e3]
  have a1:(i + 1) * sz + cs.length = (n + 1) * sz:=by rw [hcs,e1,e2,e3];omega
  have a2:(n + 1) * sz ≤ cur.length:=by rw [hl];exact h2
  have b1:(i + 1) * sz ≤ cur.length:=by omega
  have l1:c1.length = cur.length:=by
    show (cur.take ((i + 1) * sz) ++ inner.drop (i * sz) ++ cur.drop ((i + 1) * sz + (inner.drop (i * sz)).length)).length = _
    simp only [List.length_append,List.length_take,List.length_drop,hil]
    omega
  have b2:i * sz ≤ cur.length:=by omega
  have t1:c1.take (i * sz) = inner.take (i * sz):=by
    show (cur.take ((i + 1) * sz) ++ cs ++ cur.drop ((i + 1) * sz + cs.length)).take (i * sz) = _
    rw [List.append_assoc,List.take_append_of_le_length (by rw [List.length_take];omega),List.take_take,← hin,List.take_take]
    congr 1
    omega
  have t2:c1.drop (i * sz + vcs.length) = cs ++ cur.drop ((i + 1) * sz + cs.length):=by
    show (cur.take ((i + 1) * sz) ++ cs ++ cur.drop ((i + 1) * sz + cs.length)).drop (i * sz + vcs.length) = _
    rw [hv,← e1,List.append_assoc,List.drop_append_of_le_length (by rw [List.length_take];omega),List.drop_of_length_le (by rw [List.length_take];omega),List.nil_append]
  have c2e:c2 = inner.take (i * sz) ++ vcs ++ (cs ++ cur.drop ((i + 1) * sz + cs.length)):=by
    show c1.take (i * sz) ++ vcs ++ c1.drop (i * sz + vcs.length) = _
    rw [t1,t2]
  refine ⟨hcs,a1,a2,l1,?_,?_⟩
  · rw [c2e]
    simp only [List.length_append,List.length_take,List.length_drop,hil,hv]
    omega
  · rw [c2e,← List.append_assoc,List.take_append_of_le_length (by simp only [List.length_append,List.length_take,hil,hv];omega),List.take_of_length_le (by simp only [List.length_append,List.length_take,hil,hv];omega)]
theorem ins_new (inner vcs Z:List Value) (n i sz cap:Nat) (hi:i < n) (hn:n + 1 ≤ cap) (hil:inner.length = n * sz) (hl:(inner.take (i * sz) ++ Z).length = cap * sz) (hv:vcs.length = sz) :
    let c0:=inner.take (i * sz) ++ Z
    let c1:=c0.take (i * sz) ++ vcs ++ c0.drop (i * sz + vcs.length)
    let cs:=inner.drop (i * sz)
    let c2:=c1.take ((i + 1) * sz) ++ cs ++ c1.drop ((i + 1) * sz + cs.length)
    cs.length = (n - i) * sz ∧ i * sz + vcs.length ≤ c0.length ∧ (i + 1) * sz + cs.length = (n + 1) * sz ∧ (n + 1) * sz ≤ c1.length ∧ c1.length = c0.length ∧ c2.length = c0.length ∧ c2.take ((n + 1) * sz) = inner.take (i * sz) ++ vcs ++ cs:=by
  intro c0 c1 cs c2
  have hm:∀ {a b:Nat},a ≤ b → a * sz ≤ b * sz:=fun h=>Nat.mul_le_mul_right _ h
  have e1:(i + 1) * sz = i * sz + sz:=by rw [Nat.add_mul,Nat.one_mul]
  have e2:(n + 1) * sz = n * sz + sz:=by rw [Nat.add_mul,Nat.one_mul]
  have e3:(n - i) * sz = n * sz - i * sz:=Nat.mul_sub_right_distrib n i sz
  have h1:=hm (show i ≤ n by omega)
  have h3:=hm (show i + 1 ≤ n by omega)
  have h2:=hm hn
  have hcs:cs.length = (n - i) * sz:=by show (inner.drop (i * sz)).length = _;rw [List.length_drop,hil,e3]
  have a1:(i + 1) * sz + cs.length = (n + 1) * sz:=by rw [hcs,e1,e2,e3];omega
  have l0:c0.length = cap * sz:=hl
  have a0:i * sz + vcs.length ≤ c0.length:=by omega
  have ht:(inner.take (i * sz)).length = i * sz:=by rw [List.length_take];omega
  have t0:c0.take (i * sz) = inner.take (i * sz):=by
    show (inner.take (i * sz) ++ Z).take (i * sz) = _
    rw [List.take_append_of_le_length (by omega),List.take_of_length_le (by omega)]
  have l1:c1.length = c0.length:=by
    show (c0.take (i * sz) ++ vcs ++ c0.drop (i * sz + vcs.length)).length = _
    rw [List.length_append,List.length_append,List.length_take,List.length_drop];omega
  have t1:c1.take ((i + 1) * sz) = inner.take (i * sz) ++ vcs:=by
    show (c0.take (i * sz) ++ vcs ++ c0.drop (i * sz + vcs.length)).take ((i + 1) * sz) = _
    rw [t0,List.take_append_of_le_length (by rw [List.length_append];omega),List.take_of_length_le (by rw [List.length_append];omega)]
  refine ⟨hcs,a0,a1,by omega,l1,?_,?_⟩
  · show (c1.take ((i + 1) * sz) ++ inner.drop (i * sz) ++ c1.drop ((i + 1) * sz + (inner.drop (i * sz)).length)).length = _
    simp only [List.length_append,List.length_take,List.length_drop,hil]
    omega
  · show (c1.take ((i + 1) * sz) ++ cs ++ c1.drop ((i + 1) * sz + cs.length)).take ((n + 1) * sz) = _
    rw [t1,List.take_append_of_le_length (by rw [List.length_append,List.length_append];omega),List.take_of_length_le (by rw [List.length_append,List.length_append];omega)]
section
variable {P:Program}
theorem sizeOf_of {e:TypeId} {sz:Nat} (hs:(P.info? e).map (·.size) = some sz) (w:World):(Go.sizeOf e).run P w = .ok sz w:=by
  cases hq:P.info? e with
  | none=>simp [hq] at hs
  | some i =>
    have hi:i.size = sz:=by simpa [hq] using hs
    simp [Go.sizeOf,typeInfo,hq,hi]
theorem add_block (a:Addr) (j:Nat):(a.add j).block = a.block:=by unfold Addr.add;split <;> rfl
theorem ins_room (t e:TypeId) (sz:Nat) (hu:P.underlying t = some (.slice e)) (hs:(P.info? e).map (·.size) = some sz) (_hs0:0 < sz)
    (g cap n i:Nat) (cur:Array Value) (inner:List Value) (ad:Addr) (c2:Nat) (vcs:List Value) (w:World) (hi:i < n) (hroom:n + 1 ≤ cap)
    (hg:w.heap[g]? = some (.cells cur e (0,0))) (hsz:cur.size = cap * sz) (hin:cur.toList.take (n * sz) = inner) (hione:∀ u ∈ inner,u.oneCell' = true)
    (hvl:vcs.length = sz) (hvone:∀ u ∈ vcs,u.oneCell' = true) (hvc:∀ i u,vcs[i]? = some u → w.cell? (ad.add i) = some u) (hne:ad.block ≠ g) :
    ∃ d1 d2:List Value,
      (∀ ty,(Builtin.copy_ #[t,t] ty #[.slice (some ⟨g,(i + 1) * sz,none⟩) (n - i) (cap - (i + 1)),.slice (some ⟨g,i * sz,none⟩) (n + 1 - i) (cap - i)]).run P w.drew = .ok (goInt (n - i:Nat)) (w.drew.setRow g d1.toArray)) ∧
      (∀ ty,(Builtin.copy_ #[t,t] ty #[.slice (some ⟨g,i * sz,none⟩) (n + 1 - i) (cap - i),.slice (some ad) 1 c2]).run P (w.drew.setRow g d1.toArray) = .ok (goInt (1:Nat)) ((w.drew.setRow g d1.toArray).setRow g d2.toArray)) ∧
      d2.length = cur.size ∧ d2.take ((n + 1) * sz) = inner.take (i * sz) ++ vcs ++ inner.drop (i * sz):=by
  obtain ⟨k1,k2,k3,k4,k5,k6⟩:=ins_cells cur.toList inner vcs n i sz cap hi hroom (by simpa using hsz) hin hvl
  have hcl:cur.toList.length = cur.size:=by simp
  have hil:inner.length = n * sz:=by rw [← hin,List.length_take,hcl,hsz];exact Nat.min_eq_left (Nat.mul_le_mul_right _ (by omega))
  have hw:w.drew.heap[g]? = some (.cells cur e (0,0)):=hg
  have hcell:∀ j v,(inner.drop (i * sz))[j]? = some v → w.drew.cell? ⟨g,i * sz + j,none⟩ = some v:=by
    intro j v hj
    rw [List.getElem?_drop,← hin,List.getElem?_take] at hj
    split at hj
    · simpa [World.cell?,hw] using hj
    · cases hj
  refine ⟨cur.toList.take ((i + 1) * sz) ++ inner.drop (i * sz) ++ cur.toList.drop ((i + 1) * sz + (inner.drop (i * sz)).length),_,fun ty=>?_,fun ty=>?_,k5.trans hcl,k6⟩
  · have h:=run_copy_rows w.drew t t ty e g ((i + 1) * sz) (n - i) (cap - (i + 1)) ⟨g,i * sz,none⟩ (n + 1 - i) (cap - i) sz cur e (inner.drop (i * sz)) hu hs hw
      (by rw [k1,show Nat.min (n + 1 - i) (n - i) = n - i from Nat.min_eq_right (by omega)]) (fun j v hj=>by rw [Addr.add_lit];exact hcell j v hj) (by rw [k2,← hcl];exact k3) (fun v hv=>hione v (List.mem_of_mem_drop hv))
    rw [show Nat.min (n + 1 - i) (n - i) = n - i from Nat.min_eq_right (by omega)] at h
    exact h
  · have h:=run_copy_rows (w.drew.setRow g (cur.toList.take ((i + 1) * sz) ++ inner.drop (i * sz) ++ cur.toList.drop ((i + 1) * sz + (inner.drop (i * sz)).length)).toArray) t t ty e g (i * sz) (n + 1 - i) (cap - i) ad 1 c2 sz _ e vcs hu hs
      (setRow_heap w.drew g cur _ e _ hw) (by rw [hvl,show Nat.min 1 (n + 1 - i) = 1 from Nat.min_eq_left (by omega),Nat.one_mul])
      (fun j v hj=>by rw [cell_setRow_other _ g _ _ (by rw [add_block];exact hne)];exact hvc j v hj)
      (by rw [List.size_toArray,k4,hvl];have e1:(i + 1) * sz = i * sz + sz:=by rw [Nat.add_mul,Nat.one_mul]
          omega) hvone
    rw [show Nat.min 1 (n + 1 - i) = 1 from Nat.min_eq_left (by omega)] at h
    exact h
theorem ins_grow (t ti e:TypeId) (sz bytes:Nat) (z:Value) (hu:P.underlying t = some (.slice e)) (hti:P.underlying ti = some (.int .i64)) (hinfo:(P.info? e).map (fun i=>(i.zero,i.size,i.bytes)) = some (some z,sz,bytes))
    (hzs:z.cells.size = sz) (hs0:0 < sz) (hb0:0 < bytes) (g cap n i:Nat) (cur:Array Value) (inner:List Value) (ad:Addr) (c2:Nat) (vcs:List Value) (w:World) (hi:i < n) (hncap:n ≤ cap) (hroom:cap < n + 1) (hbig:(n + 1) * bytes ≤ 140737488355328)
    (hg:w.heap[g]? = some (.cells cur e (0,0))) (hsz:cur.size = cap * sz) (hin:cur.toList.take (n * sz) = inner) (hione:∀ u ∈ inner,u.oneCell' = true)
    (hvl:vcs.length = sz) (hvone:∀ u ∈ vcs,u.oneCell' = true) (hvc:∀ i u,vcs[i]? = some u → w.cell? (ad.add i) = some u) :
    ∃ (G:Nat) (W1:World) (d1 d2:List Value),n + 1 ≤ G ∧ G ≤ maxLen ∧ Below w.heap.size w W1 ∧ (∃ d0,W1.heap[w.heap.size]? = some (.cells d0 e (0,0))) ∧
      (∀ ty,(Builtin.append_ #[t,ti] ty #[.slice (some ⟨g,0,none⟩) i cap,.int .i64 ((n:Int) + 1 - i)]).run P w = .ok (.slice (some ⟨w.heap.size,0,none⟩) (n + 1) G) W1) ∧
      (∀ ty,(Builtin.copy_ #[t,t] ty #[.slice (some ⟨w.heap.size,i * sz,none⟩) (n + 1 - i) (G - i),.slice (some ad) 1 c2]).run P W1 = .ok (goInt (1:Nat)) (W1.setRow w.heap.size d1.toArray)) ∧
      (∀ ty,(Builtin.copy_ #[t,t] ty #[.slice (some ⟨w.heap.size,(i + 1) * sz,none⟩) (n - i) (G - (i + 1)),.slice (some ⟨g,i * sz,none⟩) (n - i) (cap - i)]).run P (W1.setRow w.heap.size d1.toArray).drew = .ok (goInt (n - i:Nat)) ((W1.setRow w.heap.size d1.toArray).drew.setRow w.heap.size d2.toArray)) ∧
      d2.length = G * sz ∧ d2.take ((n + 1) * sz) = inner.take (i * sz) ++ vcs ++ inner.drop (i * sz):=by
  obtain ⟨i0,hi0,hzz⟩:=Option.map_eq_some_iff.1 hinfo
  simp only [Prod.mk.injEq] at hzz
  obtain ⟨hz0,hz1,hz2⟩:=hzz
  have hs:(P.info? e).map (·.size) = some sz:=by rw [hi0];simp [hz1]
  have hcl:cur.toList.length = cur.size:=by simp
  have hil:inner.length = n * sz:=by rw [← hin,List.length_take,hcl,hsz];exact Nat.min_eq_left (Nat.mul_le_mul_right _ hncap)
  have hle:n + 1 ≤ 140737488355328:=Nat.le_trans (Nat.le_mul_of_pos_right _ hb0) hbig
  have hgl:g < w.heap.size:=(Array.getElem?_eq_some_iff.1 hg).1
  have hcell:∀ j v,inner[j]? = some v → w.cell? ⟨g,j,none⟩ = some v:=by
    intro j v hj
    rw [← hin,List.getElem?_take] at hj
    split at hj
    · simpa [World.cell?,hg] using hj
    · cases hj
  have hold:(Builtin.firstCells i0.size i (.slice (some ⟨g,0,none⟩) i cap)).run P w.drew = .ok (inner.take (i * sz)).toArray w.drew:=by
    rw [hz1]
    exact run_firstCells_some (P:=P) w.drew sz i ⟨g,0,none⟩ i cap (inner.take (i * sz)) (by rw [List.length_take,hil];exact Nat.min_eq_left (Nat.mul_le_mul_right _ (by omega))) (fun j v hj=>by
      rw [Addr.add_lit,Nat.zero_add]
      rw [List.getElem?_take] at hj
      split at hj
      · exact hcell j v hj
      · cases hj)
  have hkk:(n:Int) + 1 - (i:Int) = ((n + 1 - i:Nat):Int):=by omega
  have hik:i + (n + 1 - i) = n + 1:=by omega
  have hgr:=fun ty=>Lib.run_append_grow_zeros (P:=P) w t ti ty e i0 z .i64 .i64 hu hti hi0 hz0 (some ⟨g,0,none⟩) i cap (inner.take (i * sz)) hold (n + 1 - i) (by omega) (by omega) (by omega) (by omega) (by rw [hz2];exact Nat.le_trans (Nat.mul_le_mul_right bytes (show n + 1 - i ≤ n + 1 by omega)) (by omega)) (by rw [hz2,hik];exact growslice_fits hroom hbig)
  rw [hik] at hgr
  obtain ⟨G,hG⟩:∃ G,G = grownCap w (n + 1) cap e:=⟨_,rfl⟩
  have hGn:n + 1 ≤ G:=by rw [hG];exact grownCap_ge w _ _ _
  have hG63:G ≤ maxLen:=by rw [hG];exact grownCap_le_maxLen w (n + 1) cap e (by unfold maxLen;omega)
  rw [← hG] at hgr
  obtain ⟨Z,hZ⟩:∃ Z,Z = (Builtin.zeroCells z.cells (n + 1 - i)).toList ++ (Builtin.zeroCells z.cells (G - (n + 1))).toList:=⟨_,rfl⟩
  have hrow:(inner.take (i * sz)).toArray ++ Builtin.zeroCells z.cells (n + 1 - i) ++ Builtin.zeroCells z.cells (G - (n + 1)) = (inner.take (i * sz) ++ Z).toArray:=by
    rw [hZ];apply Array.toList_inj.1;simp
  rw [hrow] at hgr
  have hlen:(inner.take (i * sz) ++ Z).length = G * sz:=by
    rw [List.length_append,List.length_take,hil,Nat.min_eq_left (Nat.mul_le_mul_right _ (show i ≤ n by omega)),hZ,List.length_append,Array.length_toList,Array.length_toList,size_zeroCells,size_zeroCells,hzs,← Nat.add_mul,← Nat.add_mul]
    congr 1;omega
  obtain ⟨k1,k2,k3,k4,k5,k6,k7⟩:=ins_new inner vcs Z n i sz G hi hGn hil hlen hvl
  have hnew:(w.drew.alloc (.cells (inner.take (i * sz) ++ Z).toArray e)).heap[w.heap.size]? = some (.cells (inner.take (i * sz) ++ Z).toArray e (0,0)):=heap_alloc_new w.drew _
  have hbel:Below w.heap.size w (w.drew.alloc (.cells (inner.take (i * sz) ++ Z).toArray e)):=⟨rfl,rfl,rfl,by simp,fun k hk=>heap_alloc_old w.drew _ hk⟩
  have hcellW:∀ a v,w.cell? a = some v → (w.drew.alloc (.cells (inner.take (i * sz) ++ Z).toArray e)).cell? a = some v:=by
    intro a v ha
    have hlt:a.block < w.heap.size:=block_lt_of_cell ha
    unfold World.cell? at ha ⊢
    rw [hbel.block _ hlt]
    exact ha
  refine ⟨G,w.drew.alloc (.cells (inner.take (i * sz) ++ Z).toArray e),(inner.take (i * sz) ++ Z).take (i * sz) ++ vcs ++ (inner.take (i * sz) ++ Z).drop (i * sz + vcs.length),_,hGn,hG63,hbel,⟨_,hnew⟩,fun ty=>by rw [hkk];exact hgr ty,fun ty=>?_,fun ty=>?_,by rw [k6,hlen],k7⟩
  · have h:=run_copy_rows (w.drew.alloc (.cells (inner.take (i * sz) ++ Z).toArray e)) t t ty e w.heap.size (i * sz) (n + 1 - i) (G - i) ad 1 c2 sz _ e vcs hu hs hnew (by rw [hvl,show Nat.min 1 (n + 1 - i) = 1 from Nat.min_eq_left (by omega),Nat.one_mul])
      (fun j v hj=>hcellW _ v (hvc j v hj)) (by rw [List.size_toArray];exact k2) hvone
    rw [show Nat.min 1 (n + 1 - i) = 1 from Nat.min_eq_left (by omega)] at h
    exact h
  · have hne:g ≠ w.heap.size:=by omega
    have h:=run_copy_rows ((w.drew.alloc (.cells (inner.take (i * sz) ++ Z).toArray e)).setRow w.heap.size ((inner.take (i * sz) ++ Z).take (i * sz) ++ vcs ++ (inner.take (i * sz) ++ Z).drop (i * sz + vcs.length)).toArray).drew t t ty e w.heap.size ((i + 1) * sz) (n - i) (G - (i + 1)) ⟨g,i * sz,none⟩ (n - i) (cap - i) sz _ e (inner.drop (i * sz)) hu hs
      (setRow_heap _ w.heap.size _ _ e _ hnew) (by rw [k1,show Nat.min (n - i) (n - i) = n - i from Nat.min_self _])
      (fun j v hj=>by
        rw [Addr.add_lit]
        rw [List.getElem?_drop] at hj
        have:=hcellW _ v (hcell _ v hj)
        rw [← this]
        exact cell_setRow_other _ w.heap.size _ ⟨g,i * sz + j,none⟩ hne) (by rw [List.size_toArray,k3];exact k4) (fun v hv=>hione v (List.mem_of_mem_drop hv))
    rw [show Nat.min (n - i) (n - i) = n - i from Nat.min_self _] at h
    exact h
end
end Go.Proofs.Ytbgeceiddcokmaa.X
end
section
namespace Go.Proofs.Ytbgeceiddcokmaa.X
open Go.RowKit Go.Proofs.YtbgeceiddcokmaaW.PrintWords Go.Proofs.YtbgeceiddcokmaaW.PrintLast Go.Proofs.YtbgeceiddcokmaaW.PrintMore
attribute [local go_sem] max2_int min2_int max_two min_two max_three min_three max_four min_four
set_option linter.unusedVariables false
set_option linter.unusedSimpArgs false
def slices_Insert_int_int.f (l:List Int) (i:Int) (v:List Int):Option (List Int):=if 0 ≤ i ∧ i ≤ (l.length:Int) ∧ l.length < 137438953471 ∧ v.length = 1 then some (l.take i.toNat ++ v ++ l.drop i.toNat) else none
set_option maxHeartbeats 1600000 in
set_option maxRecDepth 100000 in
theorem slices_Insert_int_int.end_ (P0_:Nat → Prop) (u9000_:Value) (l0:List Int) (A2:Option Addr) (c2:Nat) (l2:List Int) (w0 w:World) (hB:Below w0.heap.size w0 w) (ho0:Kd.R (Kd.int .i64) 3 w w0.heap.size P0_ u9000_ l0) (hr2:∀ W',Kept w W' (fun k_=>P0_ k_) → Kd.C (Kd.int .i64) W' A2 l2.length l2) (hc2:l2.length ≤ c2) (hlim:l0.length < 137438953471) (hv1:l2.length = 1) :
  Calls Try.prog 68 #[u9000_,.int .i64 (l0.length:Int),.slice A2 l2.length c2] w fun e w'=>∃ v0_:Value,e = .returned (v0_) ∧ Kd.R (Kd.int .i64) 3 w' w0.heap.size (fun k_=>(P0_ k_ ∨ w.heap.size ≤ k_)) v0_ (l0 ++ l2) ∧ Below w0.heap.size w0 w' ∧ Kept w w' (fun k_=>P0_ k_):=by
 obtain ⟨A0,c0,rfl⟩:=Kd.R_slice ho0
 have HO:=Aside0.mk (Kd.R_mono ho0 (ok':=fun k_=>P0_ k_ ∨ w.heap.size ≤ k_) (fun k hk=>.inl hk))
 have hblk:∀ k,(Value.slice A0 l0.length c0).ownBlock = some k → P0_ k:=ho0.1
 have HR:=Aside0.mk hr2
 have HB:=Aside0.mk hB
 have HV:=Aside0.mk hblk
 have hle:l0.length ≤ c0:=by
  obtain ⟨A,c,he,hl,_⟩:=Kd.R_reads ho0
  injection he with _ _ h3
  omega
 have h64:=R_cap (Kd.int .i64) ho0
 clear hr2 hB ho0 hblk
 have hm:¬ ((l2.length:Int) = 0):=by omega
 go_enter Try.func68,Try.ntmps68
 go_wp2_with (first
  | ((with_reducible refine gate_builtin (b:=.append) (xs:=#[.tmp 23,.tmp 24]) rfl ?_);at_builtin;refine Kd.R_append_rows (Kd.int .i64) (w0:=w0) w0.heap.size rfl (.tmp 23) (.tmp 24) 23 3 _ _ rfl Try.underlying23 info3 rfl (by decide) (by omega) _ l0 l2 _ _ _ (fun k_=>P0_ k_ ∨ w.heap.size ≤ k_) (fun _=>False) rfl rfl ?aO ?aR (fun _ _ h=>h) (fun _ h=>h.elim) (fun _ hk=>.inr hk) ?aB ?aS ?aL ?_;(case aO=>exact HO.out);(case aR=>exact (HR.out _ (Kept.refl _ _)));(case aB=>exact HB.out);(case aS=>exact (below_size HB.out));(case aL=>have:=hlim;simp;omega);intro v2 w2 ho hb hg hat;have HO2:=Aside0.mk ho;have HB2:=Aside0.mk hb;have HG2:=Aside0.mk hg;clear ho hb hg hat))
 all_goals go_ret
 all_goals exact ⟨_,rfl,HO2.out,HB2.out,Kept.of_grown HG2.out (Kept.refl _ _) (fun k hk=>.inl (HV.out k hk))⟩
set_option maxHeartbeats 1600000 in
set_option maxRecDepth 100000 in
theorem slices_Insert_int_int.room (g cap n i:Nat) (cur:Array Value) (inner:List Value) (ad:Addr) (c2:Nat) (vcs:List Value) (w:World) (hi:i < n) (hroom:n + 1 ≤ cap) (hcap:cap ≤ 9223372036854775807)
  (hg:w.heap[g]? = some (.cells cur 3 (0,0))) (hsz:cur.size = cap * 1) (hin:cur.toList.take (n * 1) = inner) (hione:∀ u ∈ inner,u.oneCell' = true)
  (hvl:vcs.length = 1) (hvone:∀ u ∈ vcs,u.oneCell' = true) (hvc:∀ i u,vcs[i]? = some u → w.cell? (ad.add i) = some u) (hne:ad.block ≠ g) (h2:1 ≤ c2) :
  Calls Try.prog 68 #[.slice (some ⟨g,0,none⟩) n cap,.int .i64 (i:Int),.slice (some ad) 1 c2] w fun e w'=>e = .returned (.slice (some ⟨g,0,none⟩) (n + 1) cap) ∧ ∃ cs:List Value,w' = w.drew.setRow g cs.toArray ∧ cs.length = cap * 1 ∧ cs.take ((n + 1) * 1) = inner.take (i * 1) ++ vcs ++ inner.drop (i * 1):=by
 have hs:(Try.prog.info? 3).map (·.size) = some 1:=by kernel_rfl
 obtain ⟨d1,d2,hc1,hc2,K5,K6⟩:=ins_room (P:=Try.prog) 23 3 1 Try.underlying23 hs (by omega) g cap n i cur inner ad c2 vcs w hi hroom hg hsz hin hione hvl hvone hvc hne
 have hc1:=hc1 3
 have hc2:=hc2 3
 simp only [Nat.mul_one] at hc1 hc2
 have K5:=Aside0.mk (K5.trans hsz)
 have K6:=Aside0.mk K6
 obtain ⟨v0,hv0⟩:∃ v,w.cell? ad = some v:=⟨vcs[0]'(by omega),by have:=hvc 0 _ (List.getElem?_eq_getElem (by omega));rwa [show ad.add 0 = ad from by unfold Addr.add;split <;> simp_all] at this⟩
 have hov:∀ o lb cb,(callFunc 90 #[.slice (some ad) 1 c2,.slice (some ⟨g,o,none⟩) lb cb]).run Try.prog w = .ok (.value (.bool false)) w:=fun o lb cb=>by
  rw [run_callFunc_extern Try.func90 (by kernel_rfl) (by kernel_rfl) (by kernel_rfl) (e:=Extern.SlicesOverlaps.overlaps #[23,23] #[4]) (by kernel_rfl),
   run_overlaps_row w 23 4 3 Try.underlying23 1 (sizeOf_of hs) ad g o 1 c2 lb cb cur 3 v0 hne hv0 hg (by omega)]
  rfl
 clear hsz hin hione hvl hvone hvc hg hv0 hs
 have hw1:IntKind.i64.wrap ((i:Int) + 1) = (i:Int) + 1:=by rw [IntKind.wrap_i64];omega
 have hz2:¬ ((i:Int) = (n:Int)):=by omega
 have hb1:(0:Int) ≤ (i:Int) + 1:=by omega
 have hin':i ≤ n:=by omega
 have htn:((i:Int) + 1).toNat = i + 1:=by omega
 have hb2:¬ (cap = i + 1):=by omega
 have hb3:(i:Int) ≤ (n:Int) + 1:=by omega
 have hb4:¬ (cap = i):=by omega
 go_enter Try.func68,Try.ntmps68
 go_wp2_with (simp only [hov])
 go_region
 go_wp2
 go_ret
 exact ⟨rfl,d2,by rw [setRow_setRow],K5.out,K6.out⟩
set_option maxHeartbeats 1600000 in
set_option maxRecDepth 100000 in
theorem slices_Insert_int_int.grow (g cap n i:Nat) (cur:Array Value) (inner:List Value) (ad:Addr) (c2:Nat) (vcs:List Value) (w:World) (hi:i < n) (hncap:n ≤ cap) (hroom:cap < n + 1) (hlim:n < 137438953471)
  (hg:w.heap[g]? = some (.cells cur 3 (0,0))) (hsz:cur.size = cap * 1) (hin:cur.toList.take (n * 1) = inner) (hione:∀ u ∈ inner,u.oneCell' = true)
  (hvl:vcs.length = 1) (hvone:∀ u ∈ vcs,u.oneCell' = true) (hvc:∀ i u,vcs[i]? = some u → w.cell? (ad.add i) = some u) (h2:1 ≤ c2) :
  Calls Try.prog 68 #[.slice (some ⟨g,0,none⟩) n cap,.int .i64 (i:Int),.slice (some ad) 1 c2] w fun e w'=>∃ G,e = .returned (.slice (some ⟨w.heap.size,0,none⟩) (n + 1) G) ∧ n + 1 ≤ G ∧ G ≤ maxLen ∧ Below w.heap.size w w' ∧ ∃ cs:List Value,w'.heap[w.heap.size]? = some (.cells cs.toArray 3 (0,0)) ∧ cs.length = G * 1 ∧ cs.take ((n + 1) * 1) = inner.take (i * 1) ++ vcs ++ inner.drop (i * 1):=by
 obtain ⟨G,W1,d1,d2,hGn,hG63,HB,HN,ha,hc1,hc2,K5,K6⟩:=ins_grow (P:=Try.prog) 23 3 3 1 _ _ Try.underlying23 (by kernel_rfl) info3 rfl (by omega) (by omega) g cap n i cur inner ad c2 vcs w hi hncap hroom (by omega) hg hsz hin hione hvl hvone hvc
 have ha:=ha 23
 have hc1:=hc1 3
 have hc2:=hc2 3
 simp only [Nat.mul_one] at hc1 hc2
 have K5:=Aside0.mk K5
 have K6:=Aside0.mk K6
 have HB:=Aside0.mk HB
 have HN:=Aside0.mk HN
 have HG:=Aside0.mk hG63
 have hG':G ≤ 9223372036854775807:=hG63
 obtain ⟨H,hH⟩:∃ H,H = w.heap.size:=⟨_,rfl⟩
 rw [← hH] at HB HN ha hc1 hc2 ⊢
 clear hsz hin hione hvl hvone hvc hg hG63 hH
 have hw1:IntKind.i64.wrap ((i:Int) + 1) = (i:Int) + 1:=by rw [IntKind.wrap_i64];omega
 have hz2:¬ ((i:Int) = (n:Int)):=by omega
 have hb1:(0:Int) ≤ (i:Int) + 1:=by omega
 have hin':i ≤ n:=by omega
 have htn:((i:Int) + 1).toNat = i + 1:=by omega
 have hb2:¬ (G = i + 1):=by omega
 have hb3:(i:Int) ≤ (n:Int) + 1:=by omega
 have hb4:¬ (G = i):=by omega
 have hb5:¬ (cap = i):=by omega
 have hz3:(cap:Int) < (n:Int) + 1:=by omega
 go_enter Try.func68,Try.ntmps68
 go_wp2_with (at_builtin;refine Lib.wpList_append_run _ rfl _ _ _ _ rfl _ _ rfl rfl _ _ ha ?_)
 go_region
 go_wp2
 go_ret
 obtain ⟨d0,hd0⟩:=HN.out
 refine ⟨G,rfl,hGn,HG.out,?_,d2,setRow_heap _ H d1.toArray _ 3 _ (setRow_heap _ H d0 _ 3 _ hd0),K5.out,K6.out⟩
 exact below_setRow (below_drew (below_setRow HB.out (Nat.le_refl _) _)) (Nat.le_refl _) _
theorem slices_Insert_int_int.calls (P0_:Nat → Prop) (u9000_:Value) (l0:List Int) (a1:Int) (A2:Option Addr) (c2:Nat) (l2:List Int) (r:List Int) (w0 w:World) (hB:Below w0.heap.size w0 w) (ho0:Kd.R (Kd.int .i64) 3 w w0.heap.size P0_ u9000_ l0) (hr2:∀ W',Kept w W' (fun k_=>P0_ k_) → Kd.C (Kd.int .i64) W' A2 l2.length l2) (hc2:l2.length ≤ c2) (h:slices_Insert_int_int.f l0 a1 l2 = some r) :
  Calls Try.prog 68 #[u9000_,.int .i64 a1,.slice A2 l2.length c2] w fun e w'=>∃ v0_:Value,e = .returned (v0_) ∧ Kd.R (Kd.int .i64) 3 w' w0.heap.size (fun k_=>(P0_ k_ ∨ w.heap.size ≤ k_)) v0_ r ∧ Below w0.heap.size w0 w' ∧ Kept w w' (fun k_=>P0_ k_):=by
 unfold slices_Insert_int_int.f at h
 by_cases hc:0 ≤ a1 ∧ a1 ≤ (l0.length:Int) ∧ l0.length < 137438953471 ∧ l2.length = 1
 case neg=>rw [if_neg hc] at h;exact absurd h (by simp)
 case pos =>
  rw [if_pos hc] at h
  obtain rfl:=Option.some.inj h
  obtain ⟨h1,h2,h3,h4⟩:=hc
  obtain ⟨i,rfl⟩:=Int.eq_ofNat_of_zero_le h1
  by_cases he:i = l0.length
  ·subst he
   have e:l0.take (l0.length:Int).toNat ++ l2 ++ l0.drop (l0.length:Int).toNat = l0 ++ l2:=by simp
   rw [e]
   exact slices_Insert_int_int.end_ P0_ u9000_ l0 A2 c2 l2 w0 w hB ho0 hr2 hc2 h3 h4
  ·obtain ⟨x,rfl⟩:=List.length_eq_one_iff.1 h4
   obtain ⟨ad,vcs,rfl,hvl,hvK,hvc⟩:=C_one (Kd.int .i64) (hr2 w (Kept.refl _ _))
   obtain ⟨g,cap,cur,rfl,hbg,hok,hg,hnc,hcm,hsz,hrep⟩:=R_row_open (Kd.int .i64) ho0 (by omega)
   have hM:(Kd.int .i64).M w w0.heap.size (fun _=>True) x vcs:=hvK
   have hione:=Kd.reps_one hrep (by decide) (fun _ _ hp=>(Kd.int .i64).K_one ((Kd.int .i64).K_of_M hp))
   have hcm':cap ≤ 9223372036854775807:=hcm
   have hreps:=reps_ins hrep (i:=i) (by omega) hM hvl
   have hlen:(l0.take i ++ [x] ++ l0.drop i).length = l0.length + 1:=by simp;omega
   rw [show ((i:Nat):Int).toNat = i from Int.toNat_natCast i]
   by_cases hroom:l0.length + 1 ≤ cap
   ·have hne:=read_apart (Kd.int .i64) (by decide) hr2 hg hok
    refine (slices_Insert_int_int.room g cap l0.length i cur _ ad c2 vcs w (by omega) hroom hcm' hg hsz rfl hione hvl ((Kd.int .i64).K_one hvK) hvc hne hc2).mono ?_
    rintro e w' ⟨rfl,cs,rfl,hcl,hct⟩
    refine ⟨_,rfl,?_,?_,?_⟩
    ·have:=R_row (Kd.int .i64) rfl (e:=3) (base:=w0.heap.size) (W:=w.drew.setRow g cs.toArray) (ok:=fun k_=>(P0_ k_ ∨ w.heap.size ≤ k_)) g cap cs.toArray (l0.take i ++ [x] ++ l0.drop i) _ (setRow_heap w.drew g cur _ 3 _ hg) hbg (.inl hok) (by omega) hcm (by rw [List.size_toArray];exact hcl) (by rw [hlen];exact hct) hreps
     rw [hlen] at this
     exact this
    ·exact below_setRow (below_drew hB) hbg _
    ·exact kept_setRow (Kept.refl w _) (.inl hok) _
   ·refine (slices_Insert_int_int.grow g cap l0.length i cur _ ad c2 vcs w (by omega) hnc (by omega) h3 hg hsz rfl hione hvl ((Kd.int .i64).K_one hvK) hvc hc2).mono ?_
    rintro e w' ⟨G,rfl,hGn,hG,hbel,cs,hnew,hcl,hct⟩
    refine ⟨_,rfl,?_,hB.trans (hbel.mono hB.size),Kept.of_below hbel _⟩
    have:=R_row (Kd.int .i64) rfl (e:=3) (base:=w0.heap.size) (W:=w') (ok:=fun k_=>(P0_ k_ ∨ w.heap.size ≤ k_)) w.heap.size G cs.toArray (l0.take i ++ [x] ++ l0.drop i) _ hnew hB.size (.inr (Nat.le_refl _)) (by omega) hG (by rw [List.size_toArray];exact hcl) (by rw [hlen];exact hct) hreps
    rw [hlen] at this
    exact this
end Go.Proofs.Ytbgeceiddcokmaa.X
end
section
namespace Go.Proofs.Ytbgeceiddcokmaa.X
open Go.RowKit Go.Proofs.YtbgeceiddcokmaaW.PrintWords Go.Proofs.YtbgeceiddcokmaaW.PrintLast Go.Proofs.YtbgeceiddcokmaaW.PrintMore
attribute [local go_sem] max2_int min2_int max_two min_two max_three min_three max_four min_four
set_option linter.unusedVariables false
set_option linter.unusedSimpArgs false
def scan_Expiries.l0:Nat → List Int → List Int → List (S91) → List (S73) → Int → Int → Option (List Int × List Int × Int)
 | 0,_,_,_,_,_,_=>none
 | k + 1,x4,x5,x7,x21,x22,x23=>if x23 < x22 then (if 0 ≤ x23 then (if x23 < (x21.length:Int) then ((slices_BinarySearch_int_int.f k x4 ((rd_T73 x21 x23).f0.f2)).bind fun bt107=>(if bt107.2 = true then (if 0 ≤ bt107.1 then (if bt107.1 < (x5.length:Int) then (if x23 < (x7.length:Int) then (scan_Expiries.l0 k x4 (x5.set (bt107.1:Int).toNat (wrap64 ((rd x5 bt107.1) + (wrap64 ((wrap64 (((rd_T73 x21 x23).f1) - ((rd_T73 x21 x23).f2))) * ((rd_T91 x7 x23).f2)))))) x7 x21 x22 (wrap64 (x23 + 1))) else (none)) else (none)) else (none)) else ((slices_Insert_int_int.f x4 bt107.1 (([(rd_T73 x21 x23).f0.f2]:List Int))).bind fun t115=>((slices_Insert_int_int.f x5 bt107.1 (([0]:List Int))).bind fun t121=>(if 0 ≤ bt107.1 then (if bt107.1 < (t121.length:Int) then (if x23 < (x7.length:Int) then (scan_Expiries.l0 k t115 (t121.set (bt107.1:Int).toNat (wrap64 ((rd t121 bt107.1) + (wrap64 ((wrap64 (((rd_T73 x21 x23).f1) - ((rd_T73 x21 x23).f2))) * ((rd_T91 x7 x23).f2)))))) x7 x21 x22 (wrap64 (x23 + 1))) else (none)) else (none)) else (none)))))) else (none)) else (none)) else (some (x4,x5,0))
def scan_Expiries.f (k:Nat) (l0:List (S73)) (l1:List (S91)):Option (List Int × List Int × Int):=(scan_found.f k l0 l1).bind fun bt101=>(if bt101.2 = 0 then (scan_Expiries.l0 k ([]:List Int) ([]:List Int) bt101.1 l0 (l0.length:Int) 0) else (some (([]:List Int),([]:List Int),bt101.2)))
def scan_Expiries.T11:Bool × List (List Nat × List Nat):=(true,[([],[]),([],[]),([0,1],[0,1]),([2],[2]),([],[]),([4],[4]),([],[]),([6],[6]),([5,7],[5,7]),([],[]),([],[]),([9,10],[9,10]),([11],[11]),([12],[12]),([8,13],[8,13]),([3,14],[3,14]),([0,1,0,1,2,3,4,5,6,7,8,9,10,11,12,13,14,15],[0,1]),([16,15,0,1,2,3,4,5,6,7,8,9,10,11,12,13,14,15],[15,16])])
def scan_Expiries.B11:List Nat:=[0,0,3,7,0,16,0,64,240,0,0,1536,3584,7680,16368,32767,65535,131071]
theorem scan_Expiries.tab11:rtab .any (opsOf Try.f43 11) = scan_Expiries.T11:=by kernel_rfl
theorem scan_Expiries.bits11:waitsOk scan_Expiries.T11.2 scan_Expiries.B11 = true:=by kernel_rfl
set_option maxHeartbeats 8000000 in
set_option maxRecDepth 100000 in
theorem scan_Expiries.calls (k:Nat) (A0:Option Addr) (c0:Nat) (l0:List (S73)) (A1:Option Addr) (c1:Nat) (l1:List (S91)) (r1:List Int) (r2:List Int) (r3:Int) (w:World) (hr0:Kd.C k73 w A0 l0.length l0) (hc0:l0.length ≤ c0) (hr1:Kd.C k91 w A1 l1.length l1) (hc1:l1.length ≤ c1) (h:scan_Expiries.f k l0 l1 = some (r1,r2,r3)) :
  Calls Try.prog 43 #[.slice A0 l0.length c0,.slice A1 l1.length c1] w fun e w'=>∃ v0_ v1_:Value,e = .returned (.tuple #[v0_,v1_,.int .i64 r3]) ∧ Kd.R (Kd.int .i64) 3 w' w.heap.size (fun k_=>some k_ ≠ (v1_:Value).ownBlock) v0_ r1 ∧ Kd.R (Kd.int .i64) 3 w' w.heap.size (fun k_=>some k_ ≠ (v0_:Value).ownBlock) v1_ r2 ∧ Below w.heap.size w w':=by
 have hu73:=Try.underlying73
 have HR0:=Aside0.mk hr0
 have HC0:=Aside0.mk hc0
 clear hr0 hc0
 have HR1:=Aside0.mk hr1
 have HC1:=Aside0.mk hc1
 clear hr1 hc1
 have HB:=Aside0.mk (Below.refl w.heap.size w)
 have H:((scan_found.f k l0 l1).bind fun bt101=>(if bt101.2 = 0 then (scan_Expiries.l0 k ([]:List Int) ([]:List Int) bt101.1 l0 (l0.length:Int) 0) else (some (([]:List Int),([]:List Int),bt101.2)))) = some (r1,r2,r3):=h
 clear h
 replace H:=Option.bind_eq_some_iff.mp H
 obtain ⟨⟨t101,t104⟩,A30,H⟩:=H
 replace H:(if t104 = 0 then (scan_Expiries.l0 k ([]:List Int) ([]:List Int) t101 l0 (l0.length:Int) 0) else (some (([]:List Int),([]:List Int),t104))) = some (r1,r2,r3):=H
 have A3:=Aside0.mk A30
 clear A30
 by_cases c4:t104 = 0
 ·rw [if_pos c4] at H
  have c4b0:(t104 == 0) = true:=beq_iff_eq.mpr c4
  have c4b1:(t104 != 0) = false:=bne_eq_false_iff_eq.mpr c4
  clear c4
  have H':=Aside0.mk H
  clear H
  go_enter Try.func43,Try.ntmps43
  go_wp2_with (first|((with_reducible refine gate_callee (f:=57) rfl ?_);refine goesL_ (some 15) rfl rfl Try.func57 (by kernel_rfl) rfl #[.slice A0 l0.length c0,.slice A1 l1.length c1] rfl (by (try simp only [List.map_toArray,List.map_cons,List.map_nil]);first|done|rfl|(simp only [List.length_drop,List.length_take];rfl)) ?_;(with_reducible refine (scan_found.calls k _ _ l0 (fun k_=>k_ < w.heap.size) _ _ l1 t101 t104 _ ?side1 ?side2 ?side3 A3.out).mono ?_);(case side1=>repeat (first|exact HR0.out|(with_reducible refine Kd.C_alloc ?_ _)|(with_reducible refine Kd.C_drewN ?_ _)|(with_reducible refine Kd.C_drew ?_)));(case side2=>exact HC0.out);(case side3=>exact Kd.V_mk HC1.out (Kd.F_below (Kd.C_F k91_heap HR1.out) (by repeat (first|(with_reducible first|exact HB.out|apply below_alloc|apply pw_below_drewN|apply below_drew1)|exact HB.out))));rintro e w5 ⟨v102,rfl,ho0,hb⟩;refine ⟨_,rfl,?_⟩;have n0_:=Aside0.mk (Kd.N_lower (Kd.N_mono (ok':=fun k_=>True) ho0 (fun k_ hk_=>trivial)) (below_size (by repeat (first|(with_reducible first|exact HB.out|apply below_alloc|apply pw_below_drewN|apply below_drew1)|exact HB.out))));have n1_:=Aside0.mk (below_step (by repeat (first|(with_reducible first|exact HB.out|apply below_alloc|apply pw_below_drewN|apply below_drew1)|exact HB.out)) hb);clear HB;have HO103:=n0_;have HB:=n1_;clear n0_ n1_;(try clear hb);(try clear hb2);(try clear hk);(try clear hi);(try clear ho0)))
  go_loopg [4,5,23] k (fun kq v4 v5 v23 w'=>∃ (x4_1:List Int) (x5_1:List Int) (x23_1:Int),v23 = .int .i64 x23_1 ∧ Aside0 (scan_Expiries.l0 kq x4_1 x5_1 t101 l0 (l0.length:Int) x23_1 = some (r1,r2,r3)) ∧ Aside0 (kq ≤ k) ∧ Aside0 (Kd.R (Kd.int .i64) 3 w' w.heap.size (fun k_=>some k_ ≠ (v5:Value).ownBlock) v4 x4_1) ∧ Aside0 (Kd.R (Kd.int .i64) 3 w' w.heap.size (fun k_=>some k_ ≠ (v4:Value).ownBlock) v5 x5_1) ∧ Aside0 (Kd.N k91 91 w' w.heap.size (fun k_=>some k_ ≠ (v4:Value).ownBlock ∧ some k_ ≠ (v5:Value).ownBlock) v102 t101) ∧ Aside0 (Below w.heap.size w w'))
  case atStart=>exact ⟨(([]:List Int)),(([]:List Int)),(0),(by first|rfl|(simp;done)|(simp [*];done)),H',⟨Nat.le_refl _⟩,⟨by first|exact Kd.R_nil _ _ _ _ _|exact Kd.N_nil _ _ _ _ _|exact Kd.V_nil _ _ _ _ _|exact Kd.Q_nil _ _ _ _ _|exact Kd.S_nil _ _ _ _ _⟩,⟨by first|exact Kd.R_nil _ _ _ _ _|exact Kd.N_nil _ _ _ _ _|exact Kd.V_nil _ _ _ _ _|exact Kd.Q_nil _ _ _ _ _|exact Kd.S_nil _ _ _ _ _⟩,⟨by (with_reducible repeat (first|apply Kd.N_alloc|apply Kd.N_drewN|apply Kd.N_drew));exact Kd.N_mono HO103.out (fun _ hk=>⟨(by simp [Value.ownBlock]),(by simp [Value.ownBlock])⟩)⟩,⟨by repeat (first|(with_reducible first|exact HB.out|apply below_alloc|apply pw_below_drewN|apply below_drew1)|exact HB.out)⟩⟩
  case round =>
   clear H'
   try clear c1
   try clear p2
   try clear c4
   try clear c4b0
   try clear c4b1
   try clear c5
   obtain ⟨x4_1,x5_1,x23_1,rfl,HA,HK1,HO_4,HO_5,HO_7,HB⟩:=hrel
   cases gk with
   | zero=>exact absurd HA.out (by simp [scan_Expiries.l0])
   | succ k1 =>
    have H:=HA.out
    clear HA
    simp only [scan_Expiries.l0] at H
    by_cases c6:x23_1 < (l0.length:Int)
    ·rw [if_pos c6] at H
     have c6b0:decide (x23_1 < (l0.length:Int)) = true:=decide_eq_true c6
     clear c6
     by_cases c7:0 ≤ x23_1
     ·rw [if_pos c7] at H
      have c7b0:decide (0 ≤ x23_1) = true:=decide_eq_true c7
      clear c7
      by_cases c8:x23_1 < (l0.length:Int)
      ·rw [if_pos c8] at H
       have c8b0:decide (x23_1 < (l0.length:Int)) = true:=decide_eq_true c8
       clear c8
       replace H:=Option.bind_eq_some_iff.mp H
       obtain ⟨⟨t107,t108⟩,A90,H⟩:=H
       replace H:(if t108 = true then (if 0 ≤ t107 then (if t107 < (x5_1.length:Int) then (if x23_1 < (t101.length:Int) then (scan_Expiries.l0 k1 x4_1 (x5_1.set (t107:Int).toNat (wrap64 ((rd x5_1 t107) + (wrap64 ((wrap64 (((rd_T73 l0 x23_1).f1) - ((rd_T73 l0 x23_1).f2))) * ((rd_T91 t101 x23_1).f2)))))) t101 l0 (l0.length:Int) (wrap64 (x23_1 + 1))) else (none)) else (none)) else (none)) else ((slices_Insert_int_int.f x4_1 t107 (([(rd_T73 l0 x23_1).f0.f2]:List Int))).bind fun t115=>((slices_Insert_int_int.f x5_1 t107 (([0]:List Int))).bind fun t121=>(if 0 ≤ t107 then (if t107 < (t121.length:Int) then (if x23_1 < (t101.length:Int) then (scan_Expiries.l0 k1 t115 (t121.set (t107:Int).toNat (wrap64 ((rd t121 t107) + (wrap64 ((wrap64 (((rd_T73 l0 x23_1).f1) - ((rd_T73 l0 x23_1).f2))) * ((rd_T91 t101 x23_1).f2)))))) t101 l0 (l0.length:Int) (wrap64 (x23_1 + 1))) else (none)) else (none)) else (none))))) = some (r1,r2,r3):=H
       have A9:=Aside0.mk A90
       clear A90
       by_cases c10:t108 = true
       ·subst c10
        have H1:(if 0 ≤ t107 then (if t107 < (x5_1.length:Int) then (if x23_1 < (t101.length:Int) then (scan_Expiries.l0 k1 x4_1 (x5_1.set (t107:Int).toNat (wrap64 ((rd x5_1 t107) + (wrap64 ((wrap64 (((rd_T73 l0 x23_1).f1) - ((rd_T73 l0 x23_1).f2))) * ((rd_T91 t101 x23_1).f2)))))) t101 l0 (l0.length:Int) (wrap64 (x23_1 + 1))) else (none)) else (none)) else (none)) = some (r1,r2,r3):=by rw [if_pos rfl] at H;exact H
        clear H
        have H:=H1
        clear H1
        by_cases c11:0 ≤ t107
        ·rw [if_pos c11] at H
         have c11b0:decide (0 ≤ t107) = true:=decide_eq_true c11
         clear c11
         by_cases c12:t107 < (x5_1.length:Int)
         ·rw [if_pos c12] at H
          have c12b0:decide (t107 < (x5_1.length:Int)) = true:=decide_eq_true c12
          clear c12
          by_cases c13:x23_1 < (t101.length:Int)
          ·rw [if_pos c13] at H
           have c13b0:decide (x23_1 < (t101.length:Int)) = true:=decide_eq_true c13
           clear c13
           obtain ⟨y111,hy111⟩:∃ y_:List Int,y_ = (x5_1.set (t107:Int).toNat (wrap64 ((rd x5_1 t107) + (wrap64 ((wrap64 (((rd_T73 l0 x23_1).f1) - ((rd_T73 l0 x23_1).f2))) * ((rd_T91 t101 x23_1).f2)))))):=⟨_,rfl⟩
           replace H:(scan_Expiries.l0 k1 x4_1 y111 t101 l0 (l0.length:Int) (wrap64 (x23_1 + 1))) = some (r1,r2,r3):=by first|(rw [hy111];with_reducible exact H)|(have H2_:=(Option.bind_some _ _).symm.trans H;rw [hy111];with_reducible exact H2_)|(have H2_:=(Option.bind_some _ _).symm.trans H;with_reducible exact H2_)|with_reducible exact H|(rw [hy111];exact H)|exact H
           have Ny111:=Aside0.mk hy111
           clear hy111
           have H':=Aside0.mk H
           clear H
           have p105:0 ≤ (x23_1:Int):=of_decide_eq_true (by first|(with_reducible assumption)|assumption)
           have q105:x23_1 < (l0.length:Int):=of_decide_eq_true (by first|(with_reducible assumption)|assumption)
           obtain ⟨ad105,e105,hx105_0,hx105_1,hx105_2,hx105_3,hx105_4,hx105_5⟩:=at_T73 HR0.out x23_1 p105 q105
           cases e105
           replace hx105_0:=(HB.out.cell (World.block_lt_of_cell? w _ hx105_0)).trans hx105_0
           replace hx105_1:=(HB.out.cell (World.block_lt_of_cell? w _ hx105_1)).trans hx105_1
           replace hx105_2:=(HB.out.cell (World.block_lt_of_cell? w _ hx105_2)).trans hx105_2
           replace hx105_3:=(HB.out.cell (World.block_lt_of_cell? w _ hx105_3)).trans hx105_3
           replace hx105_4:=(HB.out.cell (World.block_lt_of_cell? w _ hx105_4)).trans hx105_4
           replace hx105_5:=(HB.out.cell (World.block_lt_of_cell? w _ hx105_5)).trans hx105_5
           replace p105:=eq_true p105
           replace q105:=eq_true q105
           try go_wp2_with (first|((with_reducible refine gate_dst (N:=9) rfl ?_);refine box_event ?hg (N:=9) ?hd (cs:=#[.string (⟨#[]⟩:ByteArray),.int .i64 0,.int .i64 0,.int .i64 0,.int .i64 0,.int .i64 0]) (t:=73) ?hr ?_;(case hd=>rfl);(case hg=>rfl);(case hr=>first|(go_simp;done)|(go_simp;rfl));intro gb106 hg w15 hbox hb;have n0_:=Aside0.mk (Kd.R_below (by (with_reducible repeat (first|apply Kd.R_alloc|apply Kd.R_drewN|apply Kd.R_drew));exact HO_4.out) hb);have n1_:=Aside0.mk (Kd.R_below (by (with_reducible repeat (first|apply Kd.R_alloc|apply Kd.R_drewN|apply Kd.R_drew));exact HO_5.out) hb);have n2_:=Aside0.mk (Kd.N_below (Kd.N_elderB (by (with_reducible repeat (first|apply Kd.N_alloc|apply Kd.N_drewN|apply Kd.N_drew));exact HO_7.out) gb106 (Nat.le_of_eq hg.symm)) hb);have n3_:=Aside0.mk (below_step (by repeat (first|(with_reducible first|exact HB.out|apply below_alloc|apply pw_below_drewN|apply below_drew1)|exact HB.out)) hb);have n4_:=Aside0.mk (hbox);have n5_:=Aside0.mk ((by rw [hg];exact (below_size (by repeat (first|(with_reducible first|exact HB.out|apply below_alloc|apply pw_below_drewN|apply below_drew1)|exact HB.out))):w.heap.size ≤ gb106));have n6_:=Aside0.mk ((by rw [hg];exact (below_size (by repeat (first|(with_reducible first|exact HB.out|apply below_alloc|apply pw_below_drewN|apply below_drew1)|exact HB.out))):w.heap.size ≤ gb106));clear HO_4;clear HO_5;clear HO_7;clear HB;have HO_4:=n0_;have HO_5:=n1_;have HO_7:=n2_;have HB:=n3_;have BK106:=n4_;have GW106:=n5_;have GE106:=n6_;clear n0_ n1_ n2_ n3_ n4_ n5_ n6_;clear hb hbox hg;have hcz16_0:w15.cell? ⟨gb106,0,none⟩ = some (.string (⟨#[]⟩:ByteArray)):=(blk_cell BK106.out 0).trans rfl;have hcz16_1:w15.cell? ⟨gb106,1,none⟩ = some (.int .i64 0):=(blk_cell BK106.out 1).trans rfl;have hcz16_2:w15.cell? ⟨gb106,2,none⟩ = some (.int .i64 0):=(blk_cell BK106.out 2).trans rfl;have hcz16_3:w15.cell? ⟨gb106,3,none⟩ = some (.int .i64 0):=(blk_cell BK106.out 3).trans rfl;have hcz16_4:w15.cell? ⟨gb106,4,none⟩ = some (.int .i64 0):=(blk_cell BK106.out 4).trans rfl;have hcz16_5:w15.cell? ⟨gb106,5,none⟩ = some (.int .i64 0):=(blk_cell BK106.out 5).trans rfl;have hfz16_0:=blk_frozen BK106.out 0;have hfz16_1:=blk_frozen BK106.out 1;have hfz16_2:=blk_frozen BK106.out 2;have hfz16_3:=blk_frozen BK106.out 3;have hfz16_4:=blk_frozen BK106.out 4;have hfz16_5:=blk_frozen BK106.out 5;obtain ⟨Ao17,co17,eo17⟩:=Kd.R_slice HO_4.out;subst eo17)|((with_reducible refine gate_callee (f:=67) rfl ?_);refine goesL_ (some 33) rfl rfl Try.func67 (by kernel_rfl) rfl #[.slice Ao17 x4_1.length co17,.int .i64 ((rd_T73 l0 x23_1).f0.f2)] rfl (by (try simp only [List.map_toArray,List.map_cons,List.map_nil]);first|done|rfl|(simp only [List.length_drop,List.length_take];rfl)) ?_;(with_reducible refine (slices_BinarySearch_int_int.calls k1 _ _ x4_1 ((rd_T73 l0 x23_1).f0.f2) t107 true _ ?side1 ?side2 A9.out).mono ?_);(case side1=>refine (Kd.R_reads' (e:=3) (base:=w.heap.size) (ok:=fun k_=>some k_ ≠ (u5:Value).ownBlock) (n:=x4_1.length) (c:=co17) ?_).2.2;exact (by (with_reducible repeat (first|apply Kd.R_alloc|apply Kd.R_drewN|apply Kd.R_drew));exact (Kd.R_mono (Kd.R_far (p:=⟨gb106,5,none⟩) (Kd.R_far (p:=⟨gb106,4,none⟩) (Kd.R_far (p:=⟨gb106,3,none⟩) (Kd.R_far (p:=⟨gb106,2,none⟩) (Kd.R_far (p:=⟨gb106,1,none⟩) (Kd.R_far (p:=⟨gb106,0,none⟩) (Kd.R_types HO_4.out BK106.out (by decide)) (fun _ hk=>hk.2) (.string ((rd_T73 l0 x23_1).f0.f0))) (fun _ hk=>hk.2) (.int .i64 ((rd_T73 l0 x23_1).f0.f1))) (fun _ hk=>hk.2) (.int .i64 ((rd_T73 l0 x23_1).f0.f2))) (fun _ hk=>hk.2) (.int .i64 ((rd_T73 l0 x23_1).f0.f3))) (fun _ hk=>hk.2) (.int .i64 ((rd_T73 l0 x23_1).f1))) (fun _ hk=>hk.2) (.int .i64 ((rd_T73 l0 x23_1).f2))) (fun _ h_=>h_.1))));(case side2=>exact (Kd.R_reads' HO_4.out).2.1);rintro e w' ⟨rfl,⟨nd,rfl⟩⟩;refine ⟨_,rfl,?_⟩))
           have n0_:Aside0 (Kd.R (Kd.int .i64) 3 ((((((w15.setCell ⟨gb106,0,none⟩ (.string ((rd_T73 l0 x23_1).f0.f0))).setCell ⟨gb106,1,none⟩ (.int .i64 ((rd_T73 l0 x23_1).f0.f1))).setCell ⟨gb106,2,none⟩ (.int .i64 ((rd_T73 l0 x23_1).f0.f2))).setCell ⟨gb106,3,none⟩ (.int .i64 ((rd_T73 l0 x23_1).f0.f3))).setCell ⟨gb106,4,none⟩ (.int .i64 ((rd_T73 l0 x23_1).f1))).setCell ⟨gb106,5,none⟩ (.int .i64 ((rd_T73 l0 x23_1).f2))) w.heap.size (fun k_=>some k_ ≠ (u5:Value).ownBlock) (.slice Ao17 x4_1.length co17) x4_1):=⟨by (with_reducible repeat (first|apply Kd.R_alloc|apply Kd.R_drewN|apply Kd.R_drew));exact Kd.R_mono (Kd.R_far (p:=⟨gb106,5,none⟩) (Kd.R_far (p:=⟨gb106,4,none⟩) (Kd.R_far (p:=⟨gb106,3,none⟩) (Kd.R_far (p:=⟨gb106,2,none⟩) (Kd.R_far (p:=⟨gb106,1,none⟩) (Kd.R_far (p:=⟨gb106,0,none⟩) (Kd.R_types HO_4.out BK106.out (by decide)) (fun _ hk=>hk.2) (.string ((rd_T73 l0 x23_1).f0.f0))) (fun _ hk=>hk.2) (.int .i64 ((rd_T73 l0 x23_1).f0.f1))) (fun _ hk=>hk.2) (.int .i64 ((rd_T73 l0 x23_1).f0.f2))) (fun _ hk=>hk.2) (.int .i64 ((rd_T73 l0 x23_1).f0.f3))) (fun _ hk=>hk.2) (.int .i64 ((rd_T73 l0 x23_1).f1))) (fun _ hk=>hk.2) (.int .i64 ((rd_T73 l0 x23_1).f2))) (fun _ hk=>hk.1)⟩
           have n1_:Aside0 (Kd.R (Kd.int .i64) 3 ((((((w15.setCell ⟨gb106,0,none⟩ (.string ((rd_T73 l0 x23_1).f0.f0))).setCell ⟨gb106,1,none⟩ (.int .i64 ((rd_T73 l0 x23_1).f0.f1))).setCell ⟨gb106,2,none⟩ (.int .i64 ((rd_T73 l0 x23_1).f0.f2))).setCell ⟨gb106,3,none⟩ (.int .i64 ((rd_T73 l0 x23_1).f0.f3))).setCell ⟨gb106,4,none⟩ (.int .i64 ((rd_T73 l0 x23_1).f1))).setCell ⟨gb106,5,none⟩ (.int .i64 ((rd_T73 l0 x23_1).f2))) w.heap.size (fun k_=>some k_ ≠ (.slice Ao17 x4_1.length co17:Value).ownBlock) u5 x5_1):=⟨by (with_reducible repeat (first|apply Kd.R_alloc|apply Kd.R_drewN|apply Kd.R_drew));exact Kd.R_mono (Kd.R_far (p:=⟨gb106,5,none⟩) (Kd.R_far (p:=⟨gb106,4,none⟩) (Kd.R_far (p:=⟨gb106,3,none⟩) (Kd.R_far (p:=⟨gb106,2,none⟩) (Kd.R_far (p:=⟨gb106,1,none⟩) (Kd.R_far (p:=⟨gb106,0,none⟩) (Kd.R_types HO_5.out BK106.out (by decide)) (fun _ hk=>hk.2) (.string ((rd_T73 l0 x23_1).f0.f0))) (fun _ hk=>hk.2) (.int .i64 ((rd_T73 l0 x23_1).f0.f1))) (fun _ hk=>hk.2) (.int .i64 ((rd_T73 l0 x23_1).f0.f2))) (fun _ hk=>hk.2) (.int .i64 ((rd_T73 l0 x23_1).f0.f3))) (fun _ hk=>hk.2) (.int .i64 ((rd_T73 l0 x23_1).f1))) (fun _ hk=>hk.2) (.int .i64 ((rd_T73 l0 x23_1).f2))) (fun _ hk=>hk.1)⟩
           have n2_:Aside0 (Kd.N k91 91 ((((((w15.setCell ⟨gb106,0,none⟩ (.string ((rd_T73 l0 x23_1).f0.f0))).setCell ⟨gb106,1,none⟩ (.int .i64 ((rd_T73 l0 x23_1).f0.f1))).setCell ⟨gb106,2,none⟩ (.int .i64 ((rd_T73 l0 x23_1).f0.f2))).setCell ⟨gb106,3,none⟩ (.int .i64 ((rd_T73 l0 x23_1).f0.f3))).setCell ⟨gb106,4,none⟩ (.int .i64 ((rd_T73 l0 x23_1).f1))).setCell ⟨gb106,5,none⟩ (.int .i64 ((rd_T73 l0 x23_1).f2))) w.heap.size (fun k_=>some k_ ≠ (.slice Ao17 x4_1.length co17:Value).ownBlock ∧ some k_ ≠ (u5:Value).ownBlock ∧ k_ ≠ gb106) v102 t101):=⟨by (with_reducible repeat (first|apply Kd.N_alloc|apply Kd.N_drewN|apply Kd.N_drew));exact Kd.N_mono (Kd.N_far (p:=⟨gb106,5,none⟩) (Kd.N_far (p:=⟨gb106,4,none⟩) (Kd.N_far (p:=⟨gb106,3,none⟩) (Kd.N_far (p:=⟨gb106,2,none⟩) (Kd.N_far (p:=⟨gb106,1,none⟩) (Kd.N_far (p:=⟨gb106,0,none⟩) (Kd.N_mono HO_7.out (fun k_ hk=>(⟨hk,hk.2⟩:_ ∧ k_ ≠ gb106))) (fun _ hk=>hk.2) (.string ((rd_T73 l0 x23_1).f0.f0))) (fun _ hk=>hk.2) (.int .i64 ((rd_T73 l0 x23_1).f0.f1))) (fun _ hk=>hk.2) (.int .i64 ((rd_T73 l0 x23_1).f0.f2))) (fun _ hk=>hk.2) (.int .i64 ((rd_T73 l0 x23_1).f0.f3))) (fun _ hk=>hk.2) (.int .i64 ((rd_T73 l0 x23_1).f1))) (fun _ hk=>hk.2) (.int .i64 ((rd_T73 l0 x23_1).f2))) (fun _ hk=>⟨hk.1.1.1,⟨hk.1.1.2,hk.1.2⟩⟩)⟩
           have n3_:Aside0 (((((((w15.setCell ⟨gb106,0,none⟩ (.string ((rd_T73 l0 x23_1).f0.f0))).setCell ⟨gb106,1,none⟩ (.int .i64 ((rd_T73 l0 x23_1).f0.f1))).setCell ⟨gb106,2,none⟩ (.int .i64 ((rd_T73 l0 x23_1).f0.f2))).setCell ⟨gb106,3,none⟩ (.int .i64 ((rd_T73 l0 x23_1).f0.f3))).setCell ⟨gb106,4,none⟩ (.int .i64 ((rd_T73 l0 x23_1).f1))).setCell ⟨gb106,5,none⟩ (.int .i64 ((rd_T73 l0 x23_1).f2))).heap[gb106]? = some (.cells #[.string ((rd_T73 l0 x23_1).f0.f0),.int .i64 ((rd_T73 l0 x23_1).f0.f1),.int .i64 ((rd_T73 l0 x23_1).f0.f2),.int .i64 ((rd_T73 l0 x23_1).f0.f3),.int .i64 ((rd_T73 l0 x23_1).f1),.int .i64 ((rd_T73 l0 x23_1).f2)] 73 (0,0))):=⟨by (with_reducible repeat (first|refine blk_drewN ?_ _|refine blk_drew ?_|refine blk_alloc ?_ _));refine blk_put (cs:=#[.string ((rd_T73 l0 x23_1).f0.f0),.int .i64 ((rd_T73 l0 x23_1).f0.f1),.int .i64 ((rd_T73 l0 x23_1).f0.f2),.int .i64 ((rd_T73 l0 x23_1).f0.f3),.int .i64 ((rd_T73 l0 x23_1).f1),.int .i64 0]) ?_ 5 _ rfl;(with_reducible repeat (first|refine blk_drewN ?_ _|refine blk_drew ?_|refine blk_alloc ?_ _));refine blk_put (cs:=#[.string ((rd_T73 l0 x23_1).f0.f0),.int .i64 ((rd_T73 l0 x23_1).f0.f1),.int .i64 ((rd_T73 l0 x23_1).f0.f2),.int .i64 ((rd_T73 l0 x23_1).f0.f3),.int .i64 0,.int .i64 0]) ?_ 4 _ rfl;(with_reducible repeat (first|refine blk_drewN ?_ _|refine blk_drew ?_|refine blk_alloc ?_ _));refine blk_put (cs:=#[.string ((rd_T73 l0 x23_1).f0.f0),.int .i64 ((rd_T73 l0 x23_1).f0.f1),.int .i64 ((rd_T73 l0 x23_1).f0.f2),.int .i64 0,.int .i64 0,.int .i64 0]) ?_ 3 _ rfl;(with_reducible repeat (first|refine blk_drewN ?_ _|refine blk_drew ?_|refine blk_alloc ?_ _));refine blk_put (cs:=#[.string ((rd_T73 l0 x23_1).f0.f0),.int .i64 ((rd_T73 l0 x23_1).f0.f1),.int .i64 0,.int .i64 0,.int .i64 0,.int .i64 0]) ?_ 2 _ rfl;(with_reducible repeat (first|refine blk_drewN ?_ _|refine blk_drew ?_|refine blk_alloc ?_ _));refine blk_put (cs:=#[.string ((rd_T73 l0 x23_1).f0.f0),.int .i64 0,.int .i64 0,.int .i64 0,.int .i64 0,.int .i64 0]) ?_ 1 _ rfl;(with_reducible repeat (first|refine blk_drewN ?_ _|refine blk_drew ?_|refine blk_alloc ?_ _));refine blk_put (cs:=#[.string (⟨#[]⟩:ByteArray),.int .i64 0,.int .i64 0,.int .i64 0,.int .i64 0,.int .i64 0]) ?_ 0 _ rfl;(with_reducible repeat (first|refine blk_drewN ?_ _|refine blk_drew ?_|refine blk_alloc ?_ _));exact BK106.out⟩
           have n4_:Aside0 (Below w.heap.size w ((((((w15.setCell ⟨gb106,0,none⟩ (.string ((rd_T73 l0 x23_1).f0.f0))).setCell ⟨gb106,1,none⟩ (.int .i64 ((rd_T73 l0 x23_1).f0.f1))).setCell ⟨gb106,2,none⟩ (.int .i64 ((rd_T73 l0 x23_1).f0.f2))).setCell ⟨gb106,3,none⟩ (.int .i64 ((rd_T73 l0 x23_1).f0.f3))).setCell ⟨gb106,4,none⟩ (.int .i64 ((rd_T73 l0 x23_1).f1))).setCell ⟨gb106,5,none⟩ (.int .i64 ((rd_T73 l0 x23_1).f2)))):=⟨by repeat (first|(with_reducible first|exact HB.out|apply below_alloc|apply pw_below_drewN|apply below_drew1|refine below_set ?_ GE106.out)|exact HB.out)⟩
           (try clear HO_4)
           (try clear HO_5)
           (try clear HO_7)
           (try clear BK106)
           (try clear HB)
           generalize ((((((w15.setCell ⟨gb106,0,none⟩ (.string ((rd_T73 l0 x23_1).f0.f0))).setCell ⟨gb106,1,none⟩ (.int .i64 ((rd_T73 l0 x23_1).f0.f1))).setCell ⟨gb106,2,none⟩ (.int .i64 ((rd_T73 l0 x23_1).f0.f2))).setCell ⟨gb106,3,none⟩ (.int .i64 ((rd_T73 l0 x23_1).f0.f3))).setCell ⟨gb106,4,none⟩ (.int .i64 ((rd_T73 l0 x23_1).f1))).setCell ⟨gb106,5,none⟩ (.int .i64 ((rd_T73 l0 x23_1).f2))) = w18 at n0_ n1_ n2_ n3_ n4_ ⊢
           have HO_4:=n0_
           have HO_5:=n1_
           have HO_7:=n2_
           have BK106:=n3_
           have HB:=n4_
           clear n0_ n1_ n2_ n3_ n4_
           (try (rw [drewN_self w18];generalize hq_:World.drewN w18 _ = w18;have n0_:Aside0 (Kd.R (Kd.int .i64) 3 w18 w.heap.size (fun k_=>some k_ ≠ (u5:Value).ownBlock) (.slice Ao17 x4_1.length co17) x4_1):=⟨by rw [← hq_];exact (by (with_reducible repeat (first|apply Kd.R_alloc|apply Kd.R_drewN|apply Kd.R_drew));exact HO_4.out)⟩;have n1_:Aside0 (Kd.R (Kd.int .i64) 3 w18 w.heap.size (fun k_=>some k_ ≠ (.slice Ao17 x4_1.length co17:Value).ownBlock) u5 x5_1):=⟨by rw [← hq_];exact (by (with_reducible repeat (first|apply Kd.R_alloc|apply Kd.R_drewN|apply Kd.R_drew));exact HO_5.out)⟩;have n2_:Aside0 (Kd.N k91 91 w18 w.heap.size (fun k_=>some k_ ≠ (.slice Ao17 x4_1.length co17:Value).ownBlock ∧ some k_ ≠ (u5:Value).ownBlock ∧ k_ ≠ gb106) v102 t101):=⟨by rw [← hq_];exact (by (with_reducible repeat (first|apply Kd.N_alloc|apply Kd.N_drewN|apply Kd.N_drew));exact HO_7.out)⟩;have n3_:Aside0 (w18.heap[gb106]? = some (.cells #[.string ((rd_T73 l0 x23_1).f0.f0),.int .i64 ((rd_T73 l0 x23_1).f0.f1),.int .i64 ((rd_T73 l0 x23_1).f0.f2),.int .i64 ((rd_T73 l0 x23_1).f0.f3),.int .i64 ((rd_T73 l0 x23_1).f1),.int .i64 ((rd_T73 l0 x23_1).f2)] 73 (0,0))):=⟨by rw [← hq_];exact (by (with_reducible repeat (first|refine blk_drewN ?_ _|refine blk_drew ?_|refine blk_alloc ?_ _));exact BK106.out)⟩;have n4_:Aside0 (Below w.heap.size w w18):=⟨by rw [← hq_];exact (by repeat (first|(with_reducible first|exact HB.out|apply below_alloc|apply pw_below_drewN|apply below_drew1|refine below_set ?_ GE106.out)|exact HB.out))⟩;clear HO_4 HO_5 HO_7 BK106 HB hq_;have HO_4:=n0_;have HO_5:=n1_;have HO_7:=n2_;have BK106:=n3_;have HB:=n4_;clear n0_ n1_ n2_ n3_ n4_))
           have n0_:=Aside0.mk (Kd.R_drew HO_4.out)
           have n1_:=Aside0.mk (Kd.R_drew HO_5.out)
           have n2_:=Aside0.mk (Kd.N_drew HO_7.out)
           have n3_:=Aside0.mk (blk_drew BK106.out)
           have n4_:=Aside0.mk (below_drew1 HB.out)
           clear HO_4
           clear HO_5
           clear HO_7
           clear BK106
           clear HB
           have HO_4:=n0_
           have HO_5:=n1_
           have HO_7:=n2_
           have BK106:=n3_
           have HB:=n4_
           clear n0_ n1_ n2_ n3_ n4_
           obtain ⟨Ao20,co20,eo20⟩:=Kd.R_slice HO_5.out
           (first|subst eo20|(injection eo20 with f1_ f2_ f3_;have f4_:=f1_.symm;have f5_:=f3_.symm;clear f1_ f2_ f3_;subst f4_;subst f5_))
           have p109:0 ≤ (t107:Int):=of_decide_eq_true (by first|(with_reducible assumption)|assumption)
           have q109:t107 < (x5_1.length:Int):=of_decide_eq_true (by first|(with_reducible assumption)|assumption)
           obtain ⟨ad109,e109,hx109_0⟩:=Kd.at_int (Kd.R_reads' HO_5.out).2.2 t107 p109 q109
           cases e109
           replace p109:=eq_true p109
           replace q109:=eq_true q109
           obtain ⟨Ao21,co21,eo21⟩:=Kd.N_slice HO_7.out
           (first|subst eo21|(injection eo21 with f1_ f2_ f3_;have f4_:=f1_.symm;have f5_:=f3_.symm;clear f1_ f2_ f3_;subst f4_;subst f5_))
           have p110:0 ≤ (x23_1:Int):=of_decide_eq_true (by first|(with_reducible assumption)|assumption)
           have q110:x23_1 < (t101.length:Int):=of_decide_eq_true (by first|(with_reducible assumption)|assumption)
           obtain ⟨ad110,A110_4,c110_4,e110,hx110_0,hx110_1,hx110_2,hx110_3,hx110_4,hx110_5,hl110_4,hi110_4⟩:=at_T91 (Kd.N_reads' HO_7.out).2.2 x23_1 p110 q110
           cases e110
           obtain ⟨ce110,hce110,hMe110,hcc110⟩:=Kd.N_get HO_7.out z91 x23_1 p110 (by first|exact q110|exact of_decide_eq_true (by first|(with_reducible assumption)|assumption)|(have e_:=(Kd.N_reads' HO_7.out).1;omega))
           obtain ⟨ua110_4,uc110_4,rfl,ul110_4,ge110_4⟩:=k91_openF hMe110
           have hv110_4:=hcc110 4 _ rfl
           rw [add_field _ _ 4 (by omega)] at hv110_4
           replace hv110_4:=Option.some.inj (hv110_4.symm.trans hx110_4)
           injection hv110_4 with hva_ hvn_ hvc_
           rw [hva_] at ge110_4
           rw [hvc_] at ul110_4
           have HL110_4:=Aside0.mk (show Kd.V (Kd.int .i64) 3 _ w.heap.size _ _ ((rd_T91 t101 x23_1).f1) from Kd.V_mk ul110_4 ge110_4)
           clear hva_ hvn_ hvc_ ge110_4 ul110_4
           clear hcc110 hce110
           have HR110_4:=Aside0.mk hi110_4
           have HC110_4:=Aside0.mk hl110_4
           clear hi110_4 hl110_4
           replace p110:=eq_true p110
           replace q110:=eq_true q110
           have p14:0 ≤ (t107:Int):=of_decide_eq_true (by first|(with_reducible assumption)|assumption)
           have q14:(t107:Int) < ((x5_1.length:Int):Int):=of_decide_eq_true (by first|(with_reducible assumption)|assumption)
           obtain ⟨go14,co14,eo14,gb14,gl14,cl14,HG14⟩:=Kd.R_form HO_5.out (by omega)
           (first|cases eo14|(injection eo14 with ea_ en_ ec_;(first|subst ea_|(injection ea_ with ea_;subst ea_));subst ec_;clear en_))
           have GB14:=Aside0.mk gb14
           have GG14:=Aside0.mk HG14
           clear gb14 gl14 HG14
           (first|simp only [add_plain] at hx109_0|skip)
           obtain ⟨hx14_0,hf14_0⟩:=Kd.R_celln 0 HO_5.out (t107:Int) p14 q14
           replace p14:=eq_true p14
           replace q14:=eq_true q14
           have HP22:=Kd.R_putn HO_5.out (t107:Int) (wrap64 ((rd x5_1 t107) + (wrap64 ((wrap64 (((rd_T73 l0 x23_1).f1) - ((rd_T73 l0 x23_1).f2))) * ((rd_T91 t101 x23_1).f2)))))
           rw [← Ny111.out] at HP22
           have HQ22:=Aside0.mk HP22
           clear HP22
           refine start_ (n:=18) (S:=fun w'=>w'.cell? ⟨gb106,0,none⟩ = some (.string ((rd_T73 l0 x23_1).f0.f0)) ∧ w'.cell? ⟨gb106,1,none⟩ = some (.int .i64 ((rd_T73 l0 x23_1).f0.f1)) ∧ w'.cell? ⟨gb106,2,none⟩ = some (.int .i64 ((rd_T73 l0 x23_1).f0.f2)) ∧ w'.cell? ⟨gb106,3,none⟩ = some (.int .i64 ((rd_T73 l0 x23_1).f0.f3)) ∧ w'.cell? ⟨gb106,4,none⟩ = some (.int .i64 ((rd_T73 l0 x23_1).f1)) ∧ w'.cell? ⟨gb106,5,none⟩ = some (.int .i64 ((rd_T73 l0 x23_1).f2)) ∧ w'.cell? ⟨go14,(t107).toNat,none⟩ = some (.int .i64 (rd x5_1 t107)) ∧ w'.cell? (ad110.add ((x23_1).toNat * 6)) = some (.string ((rd_T91 t101 x23_1).f0.f0)) ∧ w'.cell? ⟨(ad110.add ((x23_1).toNat * 6)).block,(ad110.add ((x23_1).toNat * 6)).off + 1,none⟩ = some (.int .i64 ((rd_T91 t101 x23_1).f0.f1)) ∧ w'.cell? ⟨(ad110.add ((x23_1).toNat * 6)).block,(ad110.add ((x23_1).toNat * 6)).off + 2,none⟩ = some (.int .i64 ((rd_T91 t101 x23_1).f0.f2)) ∧ w'.cell? ⟨(ad110.add ((x23_1).toNat * 6)).block,(ad110.add ((x23_1).toNat * 6)).off + 3,none⟩ = some (.int .i64 ((rd_T91 t101 x23_1).f0.f3)) ∧ w'.cell? ⟨(ad110.add ((x23_1).toNat * 6)).block,(ad110.add ((x23_1).toNat * 6)).off + 4,none⟩ = some (.slice A110_4 ((rd_T91 t101 x23_1).f1).length c110_4) ∧ w'.cell? ⟨(ad110.add ((x23_1).toNat * 6)).block,(ad110.add ((x23_1).toNat * 6)).off + 5,none⟩ = some (.int .i64 ((rd_T91 t101 x23_1).f2))) (ds:=[17]) #[Z,Z,Z,Z,Z,Z,Z,Z,Z,Z,Z,Z,Z,Z,Z,Z,Z,Z] (by kernel_rfl) rfl rfl ⟨(blk_cell BK106.out 0).trans rfl,(blk_cell BK106.out 1).trans rfl,(blk_cell BK106.out 2).trans rfl,(blk_cell BK106.out 3).trans rfl,(blk_cell BK106.out 4).trans rfl,(blk_cell BK106.out 5).trans rfl,hx109_0,hx110_0,hx110_1,hx110_2,hx110_3,hx110_4,hx110_5⟩ (fun hHeld=>?_);refine with_tabW scan_Expiries.tab11 scan_Expiries.bits11 (fun HT_ HW_=>?_)
           generalize w18.drew = w19 at HO_4 HO_5 HO_7 BK106 HB GG14 HL110_4 HQ22 HR110_4 hf14_0 hx109_0 hx110_0 hx110_1 hx110_2 hx110_3 hx110_4 hx110_5 hx14_0 hHeld ⊢
           refine pure_ (i:=0) (N:=some 49) (v:=?_) (a':=?_) #[Y,Z,Z,Z,Z,Z,Z,Z,Z,Z,Z,Z,Z,Z,Z,Z,Z,Z] rfl rfl (any_of HT_.out (by kernel_rfl)) (fun _ _ _ h=>h) (Or.inl ⟨by rfl,?_⟩) ?_ ?_
           rotate_left
           ·intro w'
            go_simp
            with_reducible rfl
           rotate_left
           ·simp only [Act.put,List.setIfInBounds_toArray,List.set_cons_zero,List.set_cons_succ,i64_w,i32_w]
            rfl
           refine pure_ (i:=1) (N:=some 50) (v:=?_) (a':=?_) #[Y,Y,Z,Z,Z,Z,Z,Z,Z,Z,Z,Z,Z,Z,Z,Z,Z,Z] rfl rfl (any_of HT_.out (by kernel_rfl)) (fun _ _ _ h=>h) (Or.inl ⟨by rfl,?_⟩) ?_ ?_
           rotate_left
           ·intro w'
            go_simp
            with_reducible rfl
           rotate_left
           ·simp only [Act.put,List.setIfInBounds_toArray,List.set_cons_zero,List.set_cons_succ,i64_w,i32_w]
            rfl
           refine pure_ (i:=2) (N:=some 51) (v:=?_) (a':=?_) #[Y,Y,Y,Z,Z,Z,Z,Z,Z,Z,Z,Z,Z,Z,Z,Z,Z,Z] rfl rfl (any_of HT_.out (by kernel_rfl)) (fun _ _ _ h=>h) (Or.inl ⟨by rfl,?_⟩) ?_ ?_
           rotate_left
           ·intro w'
            go_simp
            with_reducible rfl
           rotate_left
           ·simp only [Act.put,List.setIfInBounds_toArray,List.set_cons_zero,List.set_cons_succ,i64_w,i32_w]
            rfl
           refine pure_ (i:=4) (N:=some 53) (v:=?_) (a':=?_) #[Y,Y,Y,Z,Y,Z,Z,Z,Z,Z,Z,Z,Z,Z,Z,Z,Z,Z] rfl rfl (any_of HT_.out (by kernel_rfl)) (fun _ _ _ h=>h) (Or.inl ⟨by rfl,?_⟩) ?_ ?_
           rotate_left
           ·intro w'
            go_simp
            with_reducible rfl
           rotate_left
           ·simp only [Act.put,List.setIfInBounds_toArray,List.set_cons_zero,List.set_cons_succ,i64_w,i32_w]
            rfl
           refine pure_ (i:=6) (N:=some 55) (v:=?_) (a':=?_) #[Y,Y,Y,Z,Y,Z,Y,Z,Z,Z,Z,Z,Z,Z,Z,Z,Z,Z] rfl rfl (any_of HT_.out (by kernel_rfl)) (fun _ _ _ h=>h) (Or.inl ⟨by rfl,?_⟩) ?_ ?_
           rotate_left
           ·intro w'
            go_simp
            with_reducible rfl
           rotate_left
           ·simp only [Act.put,List.setIfInBounds_toArray,List.set_cons_zero,List.set_cons_succ,i64_w,i32_w]
            rfl
           refine pure_ (i:=9) (N:=some 58) (v:=?_) (a':=?_) #[Y,Y,Y,Z,Y,Z,Y,Z,Z,Y,Z,Z,Z,Z,Z,Z,Z,Z] rfl rfl (any_of HT_.out (by kernel_rfl)) (fun _ _ _ h=>h) (Or.inl ⟨by rfl,?_⟩) ?_ ?_
           rotate_left
           ·intro w'
            go_simp
            with_reducible rfl
           rotate_left
           ·simp only [Act.put,List.setIfInBounds_toArray,List.set_cons_zero,List.set_cons_succ,i64_w,i32_w]
            rfl
           refine pure_ (i:=10) (N:=some 59) (v:=?_) (a':=?_) #[Y,Y,Y,Z,Y,Z,Y,Z,Z,Y,Y,Z,Z,Z,Z,Z,Z,Z] rfl rfl (any_of HT_.out (by kernel_rfl)) (fun _ _ _ h=>h) (Or.inl ⟨by rfl,?_⟩) ?_ ?_
           rotate_left
           ·intro w'
            go_simp
            with_reducible rfl
           rotate_left
           ·simp only [Act.put,List.setIfInBounds_toArray,List.set_cons_zero,List.set_cons_succ,i64_w,i32_w]
            rfl
           refine pure_ (i:=11) (N:=some 60) (v:=?_) (a':=?_) #[Y,Y,Y,Z,Y,Z,Y,Z,Z,Y,Y,Y,Z,Z,Z,Z,Z,Z] rfl rfl (any_of HT_.out (by kernel_rfl)) (fun _ _ _ h=>h) (Or.inl ⟨by rfl,?_⟩) ?_ ?_
           rotate_left
           ·intro w'
            go_simp
            with_reducible rfl
           rotate_left
           ·simp only [Act.put,List.setIfInBounds_toArray,List.set_cons_zero,List.set_cons_succ,i64_w,i32_w]
            rfl
           refine pure_ (i:=12) (N:=some 61) (v:=?_) (a':=?_) #[Y,Y,Y,Z,Y,Z,Y,Z,Z,Y,Y,Y,Y,Z,Z,Z,Z,Z] rfl rfl (any_of HT_.out (by kernel_rfl)) (fun _ _ _ h=>h) (Or.inl ⟨by rfl,?_⟩) ?_ ?_
           rotate_left
           ·intro w'
            go_simp
            with_reducible rfl
           rotate_left
           ·simp only [Act.put,List.setIfInBounds_toArray,List.set_cons_zero,List.set_cons_succ,i64_w,i32_w]
            rfl
           refine take_ (i:=3) (N:=some 52) (v:=?_) (a':=?_) #[Y,Y,Y,Y,Y,Z,Y,Z,Z,Y,Y,Y,Y,Z,Z,Z,Z,Z] rfl rfl (take_ofW HT_.out HW_.out (by kernel_rfl)) (fun _ _ _ h=>h) (Or.inl ⟨by rfl,?_⟩) hHeld ?_ ?_
           rotate_left
           ·rintro w' ⟨s0,s1,s2,s3,s4,s5,s6,s7,s8,s9,s10,s11,s12⟩
            go_simp
            with_reducible rfl
           rotate_left
           ·simp only [Act.put,List.setIfInBounds_toArray,List.set_cons_zero,List.set_cons_succ,i64_w,i32_w]
            rfl
           refine take_ (i:=5) (N:=some 54) (v:=?_) (a':=?_) #[Y,Y,Y,Y,Y,Y,Y,Z,Z,Y,Y,Y,Y,Z,Z,Z,Z,Z] rfl rfl (take_ofW HT_.out HW_.out (by kernel_rfl)) (fun _ _ _ h=>h) (Or.inl ⟨by rfl,?_⟩) hHeld ?_ ?_
           rotate_left
           ·rintro w' ⟨s0,s1,s2,s3,s4,s5,s6,s7,s8,s9,s10,s11,s12⟩
            go_simp
            with_reducible rfl
           rotate_left
           ·simp only [Act.put,List.setIfInBounds_toArray,List.set_cons_zero,List.set_cons_succ,i64_w,i32_w]
            rfl
           refine take_ (i:=7) (N:=some 56) (v:=?_) (a':=?_) #[Y,Y,Y,Y,Y,Y,Y,Y,Z,Y,Y,Y,Y,Z,Z,Z,Z,Z] rfl rfl (take_ofW HT_.out HW_.out (by kernel_rfl)) (fun _ _ _ h=>h) (Or.inl ⟨by rfl,?_⟩) hHeld ?_ ?_
           rotate_left
           ·rintro w' ⟨s0,s1,s2,s3,s4,s5,s6,s7,s8,s9,s10,s11,s12⟩
            go_simp
            with_reducible rfl
           rotate_left
           ·simp only [Act.put,List.setIfInBounds_toArray,List.set_cons_zero,List.set_cons_succ,i64_w,i32_w]
            rfl
           refine pure_ (i:=8) (N:=some 57) (v:=?_) (a':=?_) #[Y,Y,Y,Y,Y,Y,Y,Y,Y,Y,Y,Y,Y,Z,Z,Z,Z,Z] rfl rfl (any_of HT_.out (by kernel_rfl)) (fun _ _ _ h=>h) (Or.inl ⟨by rfl,?_⟩) ?_ ?_
           rotate_left
           ·intro w'
            go_simp
            with_reducible rfl
           rotate_left
           ·simp only [Act.put,List.setIfInBounds_toArray,List.set_cons_zero,List.set_cons_succ,i64_w,i32_w]
            rfl
           refine take_ (i:=13) (N:=some 62) (v:=?_) (a':=?_) #[Y,Y,Y,Y,Y,Y,Y,Y,Y,Y,Y,Y,Y,Y,Z,Z,Z,Z] rfl rfl (take_ofW HT_.out HW_.out (by kernel_rfl)) (fun _ _ _ h=>h) (Or.inl ⟨by rfl,?_⟩) hHeld ?_ ?_
           rotate_left
           ·rintro w' ⟨s0,s1,s2,s3,s4,s5,s6,s7,s8,s9,s10,s11,s12⟩
            go_simp
            with_reducible rfl
           rotate_left
           ·simp only [Act.put,List.setIfInBounds_toArray,List.set_cons_zero,List.set_cons_succ,i64_w,i32_w]
            rfl
           refine pure_ (i:=14) (N:=some 63) (v:=?_) (a':=?_) #[Y,Y,Y,Y,Y,Y,Y,Y,Y,Y,Y,Y,Y,Y,Y,Z,Z,Z] rfl rfl (any_of HT_.out (by kernel_rfl)) (fun _ _ _ h=>h) (Or.inl ⟨by rfl,?_⟩) ?_ ?_
           rotate_left
           ·intro w'
            go_simp
            with_reducible rfl
           rotate_left
           ·simp only [Act.put,List.setIfInBounds_toArray,List.set_cons_zero,List.set_cons_succ,i64_w,i32_w]
            rfl
           refine pure_ (i:=15) (N:=some 64) (v:=?_) (a':=?_) #[Y,Y,Y,Y,Y,Y,Y,Y,Y,Y,Y,Y,Y,Y,Y,Y,Z,Z] rfl rfl (any_of HT_.out (by kernel_rfl)) (fun _ _ _ h=>h) (Or.inl ⟨by rfl,?_⟩) ?_ ?_
           rotate_left
           ·intro w'
            go_simp
            with_reducible rfl
           rotate_left
           ·simp only [Act.put,List.setIfInBounds_toArray,List.set_cons_zero,List.set_cons_succ,i64_w,i32_w]
            rfl
           refine pure_ (i:=16) (N:=some 65) (v:=?_) (a':=?_) #[Y,Y,Y,Y,Y,Y,Y,Y,Y,Y,Y,Y,Y,Y,Y,Y,Y,Z] rfl rfl (any_of HT_.out (by kernel_rfl)) (fun _ _ _ h=>h) (Or.inl ⟨by rfl,?_⟩) ?_ ?_
           rotate_left
           ·intro w'
            go_simp
            with_reducible rfl
           rotate_left
           ·simp only [Act.put,List.setIfInBounds_toArray,List.set_cons_zero,List.set_cons_succ,i64_w,i32_w]
            rfl
           refine last_ (i:=17) (N:=none) #[Y,Y,Y,Y,Y,Y,Y,Y,Y,Y,Y,Y,Y,Y,Y,Y,Y,Y] rfl rfl (one_of HT_.out (by kernel_rfl)) (by decide) (fun K hK=>?_)
           refine skip_ (w1:=?_) (by rfl) rfl ?_ ?_
           rotate_left
           ·go_simp
            rfl
           refine hK.out _ _ ?_
           clear hK K
           refine done_ (done_of HT_.out (by kernel_rfl)) ?_
           try go_wp2
           go_roundg k1
           case measure=>have:=HK1.out;omega
           case rel=>exact ⟨(x4_1),(y111),(wrap64 (x23_1 + 1)),(by first|rfl|(simp;done)|(simp [*];done)),H',⟨by have:=HK1.out;omega⟩,⟨by (with_reducible repeat (first|apply Kd.R_alloc|apply Kd.R_drewN|apply Kd.R_drew));exact Kd.R_mono (Kd.R_far (p:=⟨go14,(t107:Int).toNat,none⟩) (Kd.R_mono HO_4.out (fun k_ hk=>(⟨hk,fun e_=>hk (by rw [e_];rfl)⟩:_ ∧ k_ ≠ go14))) (fun _ hk=>hk.2) (.int .i64 (wrap64 ((rd x5_1 t107) + (wrap64 ((wrap64 (((rd_T73 l0 x23_1).f1) - ((rd_T73 l0 x23_1).f2))) * ((rd_T91 t101 x23_1).f2))))))) (fun _ hk=>hk.1)⟩,⟨by (with_reducible repeat (first|apply Kd.R_alloc|apply Kd.R_drewN|apply Kd.R_drew));exact HQ22.out⟩,⟨by (with_reducible repeat (first|apply Kd.N_alloc|apply Kd.N_drewN|apply Kd.N_drew));exact Kd.N_mono (Kd.N_far (p:=⟨go14,(t107:Int).toNat,none⟩) (Kd.N_mono HO_7.out (fun k_ hk=>(⟨hk,fun e_=>hk.2.1 (by rw [e_];rfl)⟩:_ ∧ k_ ≠ go14))) (fun _ hk=>hk.2) (.int .i64 (wrap64 ((rd x5_1 t107) + (wrap64 ((wrap64 (((rd_T73 l0 x23_1).f1) - ((rd_T73 l0 x23_1).f2))) * ((rd_T91 t101 x23_1).f2))))))) (fun _ hk=>⟨hk.1.1,hk.1.2.1⟩)⟩,⟨by repeat (first|(with_reducible first|exact HB.out|apply below_alloc|apply pw_below_drewN|apply below_drew1|refine below_set ?_ GB14.out|refine below_set ?_ GE106.out)|exact HB.out)⟩⟩
          ·rw [if_neg c13] at H
           exact absurd H (by simp)
         ·rw [if_neg c12] at H
          exact absurd H (by simp)
        ·rw [if_neg c11] at H
         exact absurd H (by simp)
       ·replace c10:=Bool.eq_false_iff.mpr c10
        subst c10
        have H1:((slices_Insert_int_int.f x4_1 t107 (([(rd_T73 l0 x23_1).f0.f2]:List Int))).bind fun t115=>((slices_Insert_int_int.f x5_1 t107 (([0]:List Int))).bind fun t121=>(if 0 ≤ t107 then (if t107 < (t121.length:Int) then (if x23_1 < (t101.length:Int) then (scan_Expiries.l0 k1 t115 (t121.set (t107:Int).toNat (wrap64 ((rd t121 t107) + (wrap64 ((wrap64 (((rd_T73 l0 x23_1).f1) - ((rd_T73 l0 x23_1).f2))) * ((rd_T91 t101 x23_1).f2)))))) t101 l0 (l0.length:Int) (wrap64 (x23_1 + 1))) else (none)) else (none)) else (none)))) = some (r1,r2,r3):=by rw [if_neg (show ¬ (false = true) by decide)] at H;exact H
        clear H
        have H:=H1
        clear H1
        obtain ⟨y112,hy112⟩:∃ y_:List Int,y_ = (([(rd_T73 l0 x23_1).f0.f2]:List Int)):=⟨_,rfl⟩
        replace H:((slices_Insert_int_int.f x4_1 t107 y112).bind fun t115=>((slices_Insert_int_int.f x5_1 t107 (([0]:List Int))).bind fun t121=>(if 0 ≤ t107 then (if t107 < (t121.length:Int) then (if x23_1 < (t101.length:Int) then (scan_Expiries.l0 k1 t115 (t121.set (t107:Int).toNat (wrap64 ((rd t121 t107) + (wrap64 ((wrap64 (((rd_T73 l0 x23_1).f1) - ((rd_T73 l0 x23_1).f2))) * ((rd_T91 t101 x23_1).f2)))))) t101 l0 (l0.length:Int) (wrap64 (x23_1 + 1))) else (none)) else (none)) else (none)))) = some (r1,r2,r3):=by first|(rw [hy112];with_reducible exact H)|(have H2_:=(Option.bind_some _ _).symm.trans H;rw [hy112];with_reducible exact H2_)|(have H2_:=(Option.bind_some _ _).symm.trans H;with_reducible exact H2_)|with_reducible exact H|(rw [hy112];exact H)|exact H
        have Ny112:=Aside0.mk hy112
        clear hy112
        replace H:=Option.bind_eq_some_iff.mp H
        obtain ⟨t115,A230,H⟩:=H
        replace H:((slices_Insert_int_int.f x5_1 t107 (([0]:List Int))).bind fun t121=>(if 0 ≤ t107 then (if t107 < (t121.length:Int) then (if x23_1 < (t101.length:Int) then (scan_Expiries.l0 k1 t115 (t121.set (t107:Int).toNat (wrap64 ((rd t121 t107) + (wrap64 ((wrap64 (((rd_T73 l0 x23_1).f1) - ((rd_T73 l0 x23_1).f2))) * ((rd_T91 t101 x23_1).f2)))))) t101 l0 (l0.length:Int) (wrap64 (x23_1 + 1))) else (none)) else (none)) else (none))) = some (r1,r2,r3):=H
        have A23:=Aside0.mk A230
        clear A230
        obtain ⟨y118,hy118⟩:∃ y_:List Int,y_ = (([0]:List Int)):=⟨_,rfl⟩
        replace H:((slices_Insert_int_int.f x5_1 t107 y118).bind fun t121=>(if 0 ≤ t107 then (if t107 < (t121.length:Int) then (if x23_1 < (t101.length:Int) then (scan_Expiries.l0 k1 t115 (t121.set (t107:Int).toNat (wrap64 ((rd t121 t107) + (wrap64 ((wrap64 (((rd_T73 l0 x23_1).f1) - ((rd_T73 l0 x23_1).f2))) * ((rd_T91 t101 x23_1).f2)))))) t101 l0 (l0.length:Int) (wrap64 (x23_1 + 1))) else (none)) else (none)) else (none))) = some (r1,r2,r3):=by first|(rw [hy118];with_reducible exact H)|(have H2_:=(Option.bind_some _ _).symm.trans H;rw [hy118];with_reducible exact H2_)|(have H2_:=(Option.bind_some _ _).symm.trans H;with_reducible exact H2_)|with_reducible exact H|(rw [hy118];exact H)|exact H
        have Ny118:=Aside0.mk hy118
        clear hy118
        replace H:=Option.bind_eq_some_iff.mp H
        obtain ⟨t121,A240,H⟩:=H
        replace H:(if 0 ≤ t107 then (if t107 < (t121.length:Int) then (if x23_1 < (t101.length:Int) then (scan_Expiries.l0 k1 t115 (t121.set (t107:Int).toNat (wrap64 ((rd t121 t107) + (wrap64 ((wrap64 (((rd_T73 l0 x23_1).f1) - ((rd_T73 l0 x23_1).f2))) * ((rd_T91 t101 x23_1).f2)))))) t101 l0 (l0.length:Int) (wrap64 (x23_1 + 1))) else (none)) else (none)) else (none)) = some (r1,r2,r3):=H
        have A24:=Aside0.mk A240
        clear A240
        by_cases c25:0 ≤ t107
        ·rw [if_pos c25] at H
         have c25b0:decide (0 ≤ t107) = true:=decide_eq_true c25
         clear c25
         by_cases c26:t107 < (t121.length:Int)
         ·rw [if_pos c26] at H
          have c26b0:decide (t107 < (t121.length:Int)) = true:=decide_eq_true c26
          clear c26
          by_cases c27:x23_1 < (t101.length:Int)
          ·rw [if_pos c27] at H
           have c27b0:decide (x23_1 < (t101.length:Int)) = true:=decide_eq_true c27
           clear c27
           obtain ⟨y126,hy126⟩:∃ y_:List Int,y_ = (t121.set (t107:Int).toNat (wrap64 ((rd t121 t107) + (wrap64 ((wrap64 (((rd_T73 l0 x23_1).f1) - ((rd_T73 l0 x23_1).f2))) * ((rd_T91 t101 x23_1).f2)))))):=⟨_,rfl⟩
           replace H:(scan_Expiries.l0 k1 t115 y126 t101 l0 (l0.length:Int) (wrap64 (x23_1 + 1))) = some (r1,r2,r3):=by first|(rw [hy126];with_reducible exact H)|(have H2_:=(Option.bind_some _ _).symm.trans H;rw [hy126];with_reducible exact H2_)|(have H2_:=(Option.bind_some _ _).symm.trans H;with_reducible exact H2_)|with_reducible exact H|(rw [hy126];exact H)|exact H
           have Ny126:=Aside0.mk hy126
           clear hy126
           have H':=Aside0.mk H
           clear H
           have p105:0 ≤ (x23_1:Int):=of_decide_eq_true (by first|(with_reducible assumption)|assumption)
           have q105:x23_1 < (l0.length:Int):=of_decide_eq_true (by first|(with_reducible assumption)|assumption)
           obtain ⟨ad105,e105,hx105_0,hx105_1,hx105_2,hx105_3,hx105_4,hx105_5⟩:=at_T73 HR0.out x23_1 p105 q105
           cases e105
           replace hx105_0:=(HB.out.cell (World.block_lt_of_cell? w _ hx105_0)).trans hx105_0
           replace hx105_1:=(HB.out.cell (World.block_lt_of_cell? w _ hx105_1)).trans hx105_1
           replace hx105_2:=(HB.out.cell (World.block_lt_of_cell? w _ hx105_2)).trans hx105_2
           replace hx105_3:=(HB.out.cell (World.block_lt_of_cell? w _ hx105_3)).trans hx105_3
           replace hx105_4:=(HB.out.cell (World.block_lt_of_cell? w _ hx105_4)).trans hx105_4
           replace hx105_5:=(HB.out.cell (World.block_lt_of_cell? w _ hx105_5)).trans hx105_5
           replace p105:=eq_true p105
           replace q105:=eq_true q105
           try go_wp2_with (first|((with_reducible refine gate_dst (N:=9) rfl ?_);refine box_event ?hg (N:=9) ?hd (cs:=#[.string (⟨#[]⟩:ByteArray),.int .i64 0,.int .i64 0,.int .i64 0,.int .i64 0,.int .i64 0]) (t:=73) ?hr ?_;(case hd=>rfl);(case hg=>rfl);(case hr=>first|(go_simp;done)|(go_simp;rfl));intro gb106 hg w29 hbox hb;have n0_:=Aside0.mk (Kd.R_below (by (with_reducible repeat (first|apply Kd.R_alloc|apply Kd.R_drewN|apply Kd.R_drew));exact HO_4.out) hb);have n1_:=Aside0.mk (Kd.R_below (by (with_reducible repeat (first|apply Kd.R_alloc|apply Kd.R_drewN|apply Kd.R_drew));exact HO_5.out) hb);have n2_:=Aside0.mk (Kd.N_below (Kd.N_elderB (by (with_reducible repeat (first|apply Kd.N_alloc|apply Kd.N_drewN|apply Kd.N_drew));exact HO_7.out) gb106 (Nat.le_of_eq hg.symm)) hb);have n3_:=Aside0.mk (below_step (by repeat (first|(with_reducible first|exact HB.out|apply below_alloc|apply pw_below_drewN|apply below_drew1)|exact HB.out)) hb);have n4_:=Aside0.mk (hbox);have n5_:=Aside0.mk ((by rw [hg];exact (below_size (by repeat (first|(with_reducible first|exact HB.out|apply below_alloc|apply pw_below_drewN|apply below_drew1)|exact HB.out))):w.heap.size ≤ gb106));have n6_:=Aside0.mk ((by rw [hg];exact (below_size (by repeat (first|(with_reducible first|exact HB.out|apply below_alloc|apply pw_below_drewN|apply below_drew1)|exact HB.out))):w.heap.size ≤ gb106));clear HO_4;clear HO_5;clear HO_7;clear HB;have HO_4:=n0_;have HO_5:=n1_;have HO_7:=n2_;have HB:=n3_;have BK106:=n4_;have GW106:=n5_;have GE106:=n6_;clear n0_ n1_ n2_ n3_ n4_ n5_ n6_;clear hb hbox hg;have hcz30_0:w29.cell? ⟨gb106,0,none⟩ = some (.string (⟨#[]⟩:ByteArray)):=(blk_cell BK106.out 0).trans rfl;have hcz30_1:w29.cell? ⟨gb106,1,none⟩ = some (.int .i64 0):=(blk_cell BK106.out 1).trans rfl;have hcz30_2:w29.cell? ⟨gb106,2,none⟩ = some (.int .i64 0):=(blk_cell BK106.out 2).trans rfl;have hcz30_3:w29.cell? ⟨gb106,3,none⟩ = some (.int .i64 0):=(blk_cell BK106.out 3).trans rfl;have hcz30_4:w29.cell? ⟨gb106,4,none⟩ = some (.int .i64 0):=(blk_cell BK106.out 4).trans rfl;have hcz30_5:w29.cell? ⟨gb106,5,none⟩ = some (.int .i64 0):=(blk_cell BK106.out 5).trans rfl;have hfz30_0:=blk_frozen BK106.out 0;have hfz30_1:=blk_frozen BK106.out 1;have hfz30_2:=blk_frozen BK106.out 2;have hfz30_3:=blk_frozen BK106.out 3;have hfz30_4:=blk_frozen BK106.out 4;have hfz30_5:=blk_frozen BK106.out 5;obtain ⟨Ao31,co31,eo31⟩:=Kd.R_slice HO_4.out;subst eo31)|((with_reducible refine gate_callee (f:=67) rfl ?_);refine goesL_ (some 33) rfl rfl Try.func67 (by kernel_rfl) rfl #[.slice Ao31 x4_1.length co31,.int .i64 ((rd_T73 l0 x23_1).f0.f2)] rfl (by (try simp only [List.map_toArray,List.map_cons,List.map_nil]);first|done|rfl|(simp only [List.length_drop,List.length_take];rfl)) ?_;(with_reducible refine (slices_BinarySearch_int_int.calls k1 _ _ x4_1 ((rd_T73 l0 x23_1).f0.f2) t107 false _ ?side1 ?side2 A9.out).mono ?_);(case side1=>refine (Kd.R_reads' (e:=3) (base:=w.heap.size) (ok:=fun k_=>some k_ ≠ (u5:Value).ownBlock) (n:=x4_1.length) (c:=co31) ?_).2.2;exact (by (with_reducible repeat (first|apply Kd.R_alloc|apply Kd.R_drewN|apply Kd.R_drew));exact (Kd.R_mono (Kd.R_far (p:=⟨gb106,5,none⟩) (Kd.R_far (p:=⟨gb106,4,none⟩) (Kd.R_far (p:=⟨gb106,3,none⟩) (Kd.R_far (p:=⟨gb106,2,none⟩) (Kd.R_far (p:=⟨gb106,1,none⟩) (Kd.R_far (p:=⟨gb106,0,none⟩) (Kd.R_types HO_4.out BK106.out (by decide)) (fun _ hk=>hk.2) (.string ((rd_T73 l0 x23_1).f0.f0))) (fun _ hk=>hk.2) (.int .i64 ((rd_T73 l0 x23_1).f0.f1))) (fun _ hk=>hk.2) (.int .i64 ((rd_T73 l0 x23_1).f0.f2))) (fun _ hk=>hk.2) (.int .i64 ((rd_T73 l0 x23_1).f0.f3))) (fun _ hk=>hk.2) (.int .i64 ((rd_T73 l0 x23_1).f1))) (fun _ hk=>hk.2) (.int .i64 ((rd_T73 l0 x23_1).f2))) (fun _ h_=>h_.1))));(case side2=>exact (Kd.R_reads' HO_4.out).2.1);rintro e w' ⟨rfl,⟨nd,rfl⟩⟩;refine ⟨_,rfl,?_⟩)|((with_reducible refine gate_dst (N:=43) rfl ?_);refine Kd.R_lit (Kd.int .i64) _ 3 ?hg (N:=43) ?hd (xs:=([(rd_T73 l0 x23_1).f0.f2]:List Int)) (inner:=[.int .i64 ((rd_T73 l0 x23_1).f0.f2)]) (ok:=fun _=>True) (okp:=fun _=>True) ?hr ?hp (fun _ hk=>hk) trivial (Below.refl _ _) (Nat.le_refl _) (by simp) ?_;(case hd=>rfl);(case hg=>rfl);(case hr=>first|(go_simp;done)|(go_simp;rfl));(case hp=>exact (Reps.one (show Kd.M (Kd.int .i64) _ _ _ ((rd_T73 l0 x23_1).f0.f2) [.int .i64 ((rd_T73 l0 x23_1).f0.f2)] from rfl) (Reps.none _ _)));intro v113 w32 ho33 hb hg_ hnew_;clear hg_ hnew_;(first|rw [← Ny112.out] at ho33|(simp only [Int.reduceToNat] at ho33;rw [← Ny112.out] at ho33));have n0_:=Aside0.mk (Kd.R_elder' (by (with_reducible repeat (first|apply Kd.R_alloc|apply Kd.R_drewN|apply Kd.R_drew));exact (Kd.R_mono (Kd.R_far (p:=⟨gb106,5,none⟩) (Kd.R_far (p:=⟨gb106,4,none⟩) (Kd.R_far (p:=⟨gb106,3,none⟩) (Kd.R_far (p:=⟨gb106,2,none⟩) (Kd.R_far (p:=⟨gb106,1,none⟩) (Kd.R_far (p:=⟨gb106,0,none⟩) (Kd.R_types HO_4.out BK106.out (by decide)) (fun _ hk=>hk.2) (.string ((rd_T73 l0 x23_1).f0.f0))) (fun _ hk=>hk.2) (.int .i64 ((rd_T73 l0 x23_1).f0.f1))) (fun _ hk=>hk.2) (.int .i64 ((rd_T73 l0 x23_1).f0.f2))) (fun _ hk=>hk.2) (.int .i64 ((rd_T73 l0 x23_1).f0.f3))) (fun _ hk=>hk.2) (.int .i64 ((rd_T73 l0 x23_1).f1))) (fun _ hk=>hk.2) (.int .i64 ((rd_T73 l0 x23_1).f2))) (fun _ h_=>h_.1))) (Kd.R_base ho33) hb);have n1_:=Aside0.mk (Kd.R_elder' (by (with_reducible repeat (first|apply Kd.R_alloc|apply Kd.R_drewN|apply Kd.R_drew));exact (Kd.R_mono (Kd.R_far (p:=⟨gb106,5,none⟩) (Kd.R_far (p:=⟨gb106,4,none⟩) (Kd.R_far (p:=⟨gb106,3,none⟩) (Kd.R_far (p:=⟨gb106,2,none⟩) (Kd.R_far (p:=⟨gb106,1,none⟩) (Kd.R_far (p:=⟨gb106,0,none⟩) (Kd.R_types HO_5.out BK106.out (by decide)) (fun _ hk=>hk.2) (.string ((rd_T73 l0 x23_1).f0.f0))) (fun _ hk=>hk.2) (.int .i64 ((rd_T73 l0 x23_1).f0.f1))) (fun _ hk=>hk.2) (.int .i64 ((rd_T73 l0 x23_1).f0.f2))) (fun _ hk=>hk.2) (.int .i64 ((rd_T73 l0 x23_1).f0.f3))) (fun _ hk=>hk.2) (.int .i64 ((rd_T73 l0 x23_1).f1))) (fun _ hk=>hk.2) (.int .i64 ((rd_T73 l0 x23_1).f2))) (fun _ h_=>h_.1))) (Kd.R_base ho33) hb);have n2_:=Aside0.mk (Kd.N_elder' (by (with_reducible repeat (first|apply Kd.N_alloc|apply Kd.N_drewN|apply Kd.N_drew));exact (Kd.N_mono (Kd.N_far (p:=⟨gb106,5,none⟩) (Kd.N_far (p:=⟨gb106,4,none⟩) (Kd.N_far (p:=⟨gb106,3,none⟩) (Kd.N_far (p:=⟨gb106,2,none⟩) (Kd.N_far (p:=⟨gb106,1,none⟩) (Kd.N_far (p:=⟨gb106,0,none⟩) (Kd.N_mono HO_7.out (fun k_ hk=>(⟨hk,hk.2⟩:_ ∧ k_ ≠ gb106))) (fun _ hk=>hk.2) (.string ((rd_T73 l0 x23_1).f0.f0))) (fun _ hk=>hk.2) (.int .i64 ((rd_T73 l0 x23_1).f0.f1))) (fun _ hk=>hk.2) (.int .i64 ((rd_T73 l0 x23_1).f0.f2))) (fun _ hk=>hk.2) (.int .i64 ((rd_T73 l0 x23_1).f0.f3))) (fun _ hk=>hk.2) (.int .i64 ((rd_T73 l0 x23_1).f1))) (fun _ hk=>hk.2) (.int .i64 ((rd_T73 l0 x23_1).f2))) (fun _ h_=>h_.1))) (Kd.R_base ho33) hb);have n3_:=Aside0.mk (Kd.R_lower (Kd.R_new' (Kd.R_new' ho33 (Kd.R_lt (by (with_reducible repeat (first|apply Kd.R_alloc|apply Kd.R_drewN|apply Kd.R_drew));exact (Kd.R_mono (Kd.R_far (p:=⟨gb106,5,none⟩) (Kd.R_far (p:=⟨gb106,4,none⟩) (Kd.R_far (p:=⟨gb106,3,none⟩) (Kd.R_far (p:=⟨gb106,2,none⟩) (Kd.R_far (p:=⟨gb106,1,none⟩) (Kd.R_far (p:=⟨gb106,0,none⟩) (Kd.R_types HO_4.out BK106.out (by decide)) (fun _ hk=>hk.2) (.string ((rd_T73 l0 x23_1).f0.f0))) (fun _ hk=>hk.2) (.int .i64 ((rd_T73 l0 x23_1).f0.f1))) (fun _ hk=>hk.2) (.int .i64 ((rd_T73 l0 x23_1).f0.f2))) (fun _ hk=>hk.2) (.int .i64 ((rd_T73 l0 x23_1).f0.f3))) (fun _ hk=>hk.2) (.int .i64 ((rd_T73 l0 x23_1).f1))) (fun _ hk=>hk.2) (.int .i64 ((rd_T73 l0 x23_1).f2))) (fun _ h_=>h_.1))))) (Kd.R_lt (by (with_reducible repeat (first|apply Kd.R_alloc|apply Kd.R_drewN|apply Kd.R_drew));exact (Kd.R_mono (Kd.R_far (p:=⟨gb106,5,none⟩) (Kd.R_far (p:=⟨gb106,4,none⟩) (Kd.R_far (p:=⟨gb106,3,none⟩) (Kd.R_far (p:=⟨gb106,2,none⟩) (Kd.R_far (p:=⟨gb106,1,none⟩) (Kd.R_far (p:=⟨gb106,0,none⟩) (Kd.R_types HO_5.out BK106.out (by decide)) (fun _ hk=>hk.2) (.string ((rd_T73 l0 x23_1).f0.f0))) (fun _ hk=>hk.2) (.int .i64 ((rd_T73 l0 x23_1).f0.f1))) (fun _ hk=>hk.2) (.int .i64 ((rd_T73 l0 x23_1).f0.f2))) (fun _ hk=>hk.2) (.int .i64 ((rd_T73 l0 x23_1).f0.f3))) (fun _ hk=>hk.2) (.int .i64 ((rd_T73 l0 x23_1).f1))) (fun _ hk=>hk.2) (.int .i64 ((rd_T73 l0 x23_1).f2))) (fun _ h_=>h_.1))))) (below_size (by repeat (first|(with_reducible first|exact HB.out|apply below_alloc|apply pw_below_drewN|apply below_drew1|refine below_set ?_ GE106.out)|exact HB.out))));have n4_:=Aside0.mk (blk_below (g:=gb106) (o:=.cells #[.string ((rd_T73 l0 x23_1).f0.f0),.int .i64 ((rd_T73 l0 x23_1).f0.f1),.int .i64 ((rd_T73 l0 x23_1).f0.f2),.int .i64 ((rd_T73 l0 x23_1).f0.f3),.int .i64 ((rd_T73 l0 x23_1).f1),.int .i64 ((rd_T73 l0 x23_1).f2)] 73 (0,0)) (by (with_reducible repeat (first|refine blk_drewN ?_ _|refine blk_drew ?_|refine blk_alloc ?_ _));refine blk_put (cs:=#[.string ((rd_T73 l0 x23_1).f0.f0),.int .i64 ((rd_T73 l0 x23_1).f0.f1),.int .i64 ((rd_T73 l0 x23_1).f0.f2),.int .i64 ((rd_T73 l0 x23_1).f0.f3),.int .i64 ((rd_T73 l0 x23_1).f1),.int .i64 0]) ?_ 5 _ rfl;(with_reducible repeat (first|refine blk_drewN ?_ _|refine blk_drew ?_|refine blk_alloc ?_ _));refine blk_put (cs:=#[.string ((rd_T73 l0 x23_1).f0.f0),.int .i64 ((rd_T73 l0 x23_1).f0.f1),.int .i64 ((rd_T73 l0 x23_1).f0.f2),.int .i64 ((rd_T73 l0 x23_1).f0.f3),.int .i64 0,.int .i64 0]) ?_ 4 _ rfl;(with_reducible repeat (first|refine blk_drewN ?_ _|refine blk_drew ?_|refine blk_alloc ?_ _));refine blk_put (cs:=#[.string ((rd_T73 l0 x23_1).f0.f0),.int .i64 ((rd_T73 l0 x23_1).f0.f1),.int .i64 ((rd_T73 l0 x23_1).f0.f2),.int .i64 0,.int .i64 0,.int .i64 0]) ?_ 3 _ rfl;(with_reducible repeat (first|refine blk_drewN ?_ _|refine blk_drew ?_|refine blk_alloc ?_ _));refine blk_put (cs:=#[.string ((rd_T73 l0 x23_1).f0.f0),.int .i64 ((rd_T73 l0 x23_1).f0.f1),.int .i64 0,.int .i64 0,.int .i64 0,.int .i64 0]) ?_ 2 _ rfl;(with_reducible repeat (first|refine blk_drewN ?_ _|refine blk_drew ?_|refine blk_alloc ?_ _));refine blk_put (cs:=#[.string ((rd_T73 l0 x23_1).f0.f0),.int .i64 0,.int .i64 0,.int .i64 0,.int .i64 0,.int .i64 0]) ?_ 1 _ rfl;(with_reducible repeat (first|refine blk_drewN ?_ _|refine blk_drew ?_|refine blk_alloc ?_ _));refine blk_put (cs:=#[.string (⟨#[]⟩:ByteArray),.int .i64 0,.int .i64 0,.int .i64 0,.int .i64 0,.int .i64 0]) ?_ 0 _ rfl;(with_reducible repeat (first|refine blk_drewN ?_ _|refine blk_drew ?_|refine blk_alloc ?_ _));exact BK106.out) hb);have n5_:=Aside0.mk (below_step (by repeat (first|(with_reducible first|exact HB.out|apply below_alloc|apply pw_below_drewN|apply below_drew1|refine below_set ?_ GE106.out)|exact HB.out)) hb);clear HO_4;clear HO_5;clear HO_7;clear BK106;clear HB;have HO_4:=n0_;have HO_5:=n1_;have HO_7:=n2_;have HO114:=n3_;have BK106:=n4_;have HB:=n5_;clear n0_ n1_ n2_ n3_ n4_ n5_;clear hb ho33;obtain ⟨Ao34,co34,eo34⟩:=Kd.R_slice HO114.out;subst eo34)|((with_reducible refine gate_callee (f:=68) rfl ?_);refine goesL_ (some 44) rfl rfl Try.func68 (by kernel_rfl) rfl #[.slice Ao31 x4_1.length co31,.int .i64 t107,.slice Ao34 y112.length co34] rfl (by (try simp only [List.map_toArray,List.map_cons,List.map_nil]);first|done|rfl|(simp only [List.length_drop,List.length_take];rfl)) ?_;(with_reducible refine (slices_Insert_int_int.calls (fun k_=>some k_ = (.slice Ao31 x4_1.length co31:Value).ownBlock) (.slice Ao31 x4_1.length co31) x4_1 t107 _ _ y112 t115 w _ ?side1 ?side2 ?side3 ?side4 A23.out).mono ?_);(case side1=>repeat (first|(with_reducible first|exact HB.out|apply below_alloc|apply pw_below_drewN|apply below_drew1|refine below_set ?_ GE106.out)|exact HB.out));(case side2=>exact Kd.R_tight rfl HO_4.out);(case side3=>exact Kd.C_kept_own (HO114.out) (fun k_ hk_ hs_=>(hk_.1.2) hs_));(case side4=>exact (Kd.R_reads' HO114.out).2.1);rintro e w35 ⟨v116,rfl,ho0,hb,hkp⟩;refine ⟨_,rfl,?_⟩;have n0_:=Aside0.mk (Kd.R_mono (ok':=fun k_=>some k_ ≠ (.slice Ao34 y112.length co34:Value).ownBlock ∧ some k_ ≠ (v116:Value).ownBlock) (Kd.R_keptB (HO_5.out) hkp (fun k_ hk_ hs_=>(hk_.1) hs_)) (fun k_ hk_=>⟨hk_.1.2,fun e_=>Or.elim (ho0.1 k_ e_.symm) (fun hs_=>hk_.2.1 hs_) (fun hn_=>Nat.not_le.2 hk_.2.2 hn_)⟩));have n1_:=Aside0.mk (Kd.N_mono (ok':=fun k_=>some k_ ≠ (u5:Value).ownBlock ∧ some k_ ≠ (.slice Ao34 y112.length co34:Value).ownBlock ∧ k_ ≠ gb106 ∧ some k_ ≠ (v116:Value).ownBlock) (Kd.N_keptB (HO_7.out) hkp (fun k_ hk_ hs_=>(hk_.1.1.1) hs_)) (fun k_ hk_=>⟨hk_.1.1.1.2,hk_.1.2,hk_.1.1.2,fun e_=>Or.elim (ho0.1 k_ e_.symm) (fun hs_=>hk_.2.1 hs_) (fun hn_=>Nat.not_le.2 hk_.2.2 hn_)⟩));have n2_:=Aside0.mk (blk_kept (by (with_reducible repeat (first|refine blk_drewN ?_ _|refine blk_drew ?_|refine blk_alloc ?_ _));exact BK106.out) hkp (fun hs_=>(fun e_=>(Kd.R_ne HO_4.out BK106.out (by decide)) e_) hs_));have n3_:=Aside0.mk (Kd.R_mono (ok':=fun k_=>some k_ ≠ (u5:Value).ownBlock ∧ some k_ ≠ (v116:Value).ownBlock) (Kd.R_keptB (HO114.out) hkp (fun k_ hk_ hs_=>(hk_.1.2) hs_)) (fun k_ hk_=>⟨hk_.1.2,fun e_=>Or.elim (ho0.1 k_ e_.symm) (fun hs_=>hk_.2.1 hs_) (fun hn_=>Nat.not_le.2 hk_.2.2 hn_)⟩));have n4_:=Aside0.mk (Kd.R_mono (ok':=fun k_=>some k_ ≠ (u5:Value).ownBlock ∧ some k_ ≠ (.slice Ao34 y112.length co34:Value).ownBlock) ho0 (fun k_ hk_=>⟨Or.elim hk_ (fun hs_=>fun e_=>(((HO_5.out).1 k_ e_.symm).1) hs_) (fun hn_=>(Kd.fresh' (Kd.R_lt (by (with_reducible repeat (first|apply Kd.R_alloc|apply Kd.R_drewN|apply Kd.R_drew));exact HO_5.out)) k_ hn_)),Or.elim hk_ (fun hs_=>fun e_=>(((HO114.out).1 k_ e_.symm).1.2) hs_) (fun hn_=>(Kd.fresh' (Kd.R_lt (by (with_reducible repeat (first|apply Kd.R_alloc|apply Kd.R_drewN|apply Kd.R_drew));exact HO114.out)) k_ hn_))⟩));have n5_:=Aside0.mk (hb);clear HO_5;clear HO_7;clear BK106;clear HO114;clear HB;clear HO_4;have HO_5:=n0_;have HO_7:=n1_;have BK106:=n2_;have HO114:=n3_;have HO117:=n4_;have HB:=n5_;clear n0_ n1_ n2_ n3_ n4_ n5_;(try clear hb);(try clear hkp);(try clear ho0))|((with_reducible refine gate_dst (N:=47) rfl ?_);refine Kd.R_lit (Kd.int .i64) _ 3 ?hg (N:=47) ?hd (xs:=([0]:List Int)) (inner:=[.int .i64 0]) (ok:=fun _=>True) (okp:=fun _=>True) ?hr ?hp (fun _ hk=>hk) trivial (Below.refl _ _) (Nat.le_refl _) (by simp) ?_;(case hd=>rfl);(case hg=>rfl);(case hr=>first|(go_simp;done)|(go_simp;rfl));(case hp=>exact (Reps.one (show Kd.M (Kd.int .i64) _ _ _ 0 [.int .i64 0] from rfl) (Reps.none _ _)));intro v119 w36 ho37 hb hg_ hnew_;clear hg_ hnew_;(first|rw [← Ny118.out] at ho37|(simp only [Int.reduceToNat] at ho37;rw [← Ny118.out] at ho37));have n0_:=Aside0.mk (Kd.R_elder' (by (with_reducible repeat (first|apply Kd.R_alloc|apply Kd.R_drewN|apply Kd.R_drew));exact HO_5.out) (Kd.R_base ho37) hb);have n1_:=Aside0.mk (Kd.N_elder' (by (with_reducible repeat (first|apply Kd.N_alloc|apply Kd.N_drewN|apply Kd.N_drew));exact HO_7.out) (Kd.R_base ho37) hb);have n2_:=Aside0.mk (Kd.R_elder' (by (with_reducible repeat (first|apply Kd.R_alloc|apply Kd.R_drewN|apply Kd.R_drew));exact HO114.out) (Kd.R_base ho37) hb);have n3_:=Aside0.mk (Kd.R_elder' (by (with_reducible repeat (first|apply Kd.R_alloc|apply Kd.R_drewN|apply Kd.R_drew));exact HO117.out) (Kd.R_base ho37) hb);have n4_:=Aside0.mk (Kd.R_lower (Kd.R_new' (Kd.R_new' (Kd.R_new' ho37 (Kd.R_lt (by (with_reducible repeat (first|apply Kd.R_alloc|apply Kd.R_drewN|apply Kd.R_drew));exact HO_5.out))) (Kd.R_lt (by (with_reducible repeat (first|apply Kd.R_alloc|apply Kd.R_drewN|apply Kd.R_drew));exact HO114.out))) (Kd.R_lt (by (with_reducible repeat (first|apply Kd.R_alloc|apply Kd.R_drewN|apply Kd.R_drew));exact HO117.out))) (below_size (by repeat (first|(with_reducible first|exact HB.out|apply below_alloc|apply pw_below_drewN|apply below_drew1|refine below_set ?_ GE106.out)|exact HB.out))));have n5_:=Aside0.mk (blk_below (g:=gb106) (o:=.cells #[.string ((rd_T73 l0 x23_1).f0.f0),.int .i64 ((rd_T73 l0 x23_1).f0.f1),.int .i64 ((rd_T73 l0 x23_1).f0.f2),.int .i64 ((rd_T73 l0 x23_1).f0.f3),.int .i64 ((rd_T73 l0 x23_1).f1),.int .i64 ((rd_T73 l0 x23_1).f2)] 73 (0,0)) (by (with_reducible repeat (first|refine blk_drewN ?_ _|refine blk_drew ?_|refine blk_alloc ?_ _));exact BK106.out) hb);have n6_:=Aside0.mk (below_step (by repeat (first|(with_reducible first|exact HB.out|apply below_alloc|apply pw_below_drewN|apply below_drew1|refine below_set ?_ GE106.out)|exact HB.out)) hb);clear HO_5;clear HO_7;clear HO114;clear HO117;clear BK106;clear HB;have HO_5:=n0_;have HO_7:=n1_;have HO114:=n2_;have HO117:=n3_;have HO120:=n4_;have BK106:=n5_;have HB:=n6_;clear n0_ n1_ n2_ n3_ n4_ n5_ n6_;clear hb ho37;obtain ⟨Ao38,co38,eo38⟩:=Kd.R_slice HO_5.out;subst eo38;obtain ⟨Ao39,co39,eo39⟩:=Kd.R_slice HO120.out;subst eo39)|((with_reducible refine gate_callee (f:=68) rfl ?_);refine goesL_ (some 48) rfl rfl Try.func68 (by kernel_rfl) rfl #[.slice Ao38 x5_1.length co38,.int .i64 t107,.slice Ao39 y118.length co39] rfl (by (try simp only [List.map_toArray,List.map_cons,List.map_nil]);first|done|rfl|(simp only [List.length_drop,List.length_take];rfl)) ?_;(with_reducible refine (slices_Insert_int_int.calls (fun k_=>some k_ = (.slice Ao38 x5_1.length co38:Value).ownBlock) (.slice Ao38 x5_1.length co38) x5_1 t107 _ _ y118 t121 w _ ?side1 ?side2 ?side3 ?side4 A24.out).mono ?_);(case side1=>repeat (first|(with_reducible first|exact HB.out|apply below_alloc|apply pw_below_drewN|apply below_drew1|refine below_set ?_ GE106.out)|exact HB.out));(case side2=>exact Kd.R_tight rfl HO_5.out);(case side3=>exact Kd.C_kept_own (HO120.out) (fun k_ hk_ hs_=>(hk_.1.1.2) hs_));(case side4=>exact (Kd.R_reads' HO120.out).2.1);rintro e w40 ⟨v122,rfl,ho0,hb,hkp⟩;refine ⟨_,rfl,?_⟩;have n0_:=Aside0.mk (Kd.N_mono (ok':=fun k_=>some k_ ≠ (.slice Ao34 y112.length co34:Value).ownBlock ∧ some k_ ≠ (v116:Value).ownBlock ∧ some k_ ≠ (.slice Ao39 y118.length co39:Value).ownBlock ∧ k_ ≠ gb106 ∧ some k_ ≠ (v122:Value).ownBlock) (Kd.N_keptB (HO_7.out) hkp (fun k_ hk_ hs_=>(hk_.1.1) hs_)) (fun k_ hk_=>⟨hk_.1.1.2.1,hk_.1.1.2.2.2,hk_.1.2,hk_.1.1.2.2.1,fun e_=>Or.elim (ho0.1 k_ e_.symm) (fun hs_=>hk_.2.1 hs_) (fun hn_=>Nat.not_le.2 hk_.2.2 hn_)⟩));have n1_:=Aside0.mk (blk_kept (by (with_reducible repeat (first|refine blk_drewN ?_ _|refine blk_drew ?_|refine blk_alloc ?_ _));exact BK106.out) hkp (fun hs_=>(fun e_=>(Kd.R_ne HO_5.out BK106.out (by decide)) e_) hs_));have n2_:=Aside0.mk (Kd.R_mono (ok':=fun k_=>some k_ ≠ (v116:Value).ownBlock ∧ some k_ ≠ (.slice Ao39 y118.length co39:Value).ownBlock ∧ some k_ ≠ (v122:Value).ownBlock) (Kd.R_keptB (HO114.out) hkp (fun k_ hk_ hs_=>(hk_.1.1) hs_)) (fun k_ hk_=>⟨hk_.1.1.2,hk_.1.2,fun e_=>Or.elim (ho0.1 k_ e_.symm) (fun hs_=>hk_.2.1 hs_) (fun hn_=>Nat.not_le.2 hk_.2.2 hn_)⟩));have n3_:=Aside0.mk (Kd.R_mono (ok':=fun k_=>some k_ ≠ (.slice Ao34 y112.length co34:Value).ownBlock ∧ some k_ ≠ (.slice Ao39 y118.length co39:Value).ownBlock ∧ some k_ ≠ (v122:Value).ownBlock) (Kd.R_keptB (HO117.out) hkp (fun k_ hk_ hs_=>(hk_.1.1) hs_)) (fun k_ hk_=>⟨hk_.1.1.2,hk_.1.2,fun e_=>Or.elim (ho0.1 k_ e_.symm) (fun hs_=>hk_.2.1 hs_) (fun hn_=>Nat.not_le.2 hk_.2.2 hn_)⟩));have n4_:=Aside0.mk (Kd.R_mono (ok':=fun k_=>some k_ ≠ (.slice Ao34 y112.length co34:Value).ownBlock ∧ some k_ ≠ (v116:Value).ownBlock ∧ some k_ ≠ (v122:Value).ownBlock) (Kd.R_keptB (HO120.out) hkp (fun k_ hk_ hs_=>(hk_.1.1.2) hs_)) (fun k_ hk_=>⟨hk_.1.1.2,hk_.1.2,fun e_=>Or.elim (ho0.1 k_ e_.symm) (fun hs_=>hk_.2.1 hs_) (fun hn_=>Nat.not_le.2 hk_.2.2 hn_)⟩));have n5_:=Aside0.mk (Kd.R_mono (ok':=fun k_=>some k_ ≠ (.slice Ao34 y112.length co34:Value).ownBlock ∧ some k_ ≠ (v116:Value).ownBlock ∧ some k_ ≠ (.slice Ao39 y118.length co39:Value).ownBlock) ho0 (fun k_ hk_=>⟨Or.elim hk_ (fun hs_=>fun e_=>(((HO114.out).1 k_ e_.symm).1.1) hs_) (fun hn_=>(Kd.fresh' (Kd.R_lt (by (with_reducible repeat (first|apply Kd.R_alloc|apply Kd.R_drewN|apply Kd.R_drew));exact HO114.out)) k_ hn_)),Or.elim hk_ (fun hs_=>fun e_=>(((HO117.out).1 k_ e_.symm).1.1) hs_) (fun hn_=>(Kd.fresh' (Kd.R_lt (by (with_reducible repeat (first|apply Kd.R_alloc|apply Kd.R_drewN|apply Kd.R_drew));exact HO117.out)) k_ hn_)),Or.elim hk_ (fun hs_=>fun e_=>(((HO120.out).1 k_ e_.symm).1.1.2) hs_) (fun hn_=>(Kd.fresh' (Kd.R_lt (by (with_reducible repeat (first|apply Kd.R_alloc|apply Kd.R_drewN|apply Kd.R_drew));exact HO120.out)) k_ hn_))⟩));have n6_:=Aside0.mk (hb);clear HO_7;clear BK106;clear HO114;clear HO117;clear HO120;clear HB;clear HO_5;have HO_7:=n0_;have BK106:=n1_;have HO114:=n2_;have HO117:=n3_;have HO120:=n4_;have HO123:=n5_;have HB:=n6_;clear n0_ n1_ n2_ n3_ n4_ n5_ n6_;(try clear hb);(try clear hkp);(try clear ho0)))
           have n0_:=Aside0.mk (Kd.N_drew HO_7.out)
           have n1_:=Aside0.mk (Kd.R_drew HO114.out)
           have n2_:=Aside0.mk (Kd.R_drew HO117.out)
           have n3_:=Aside0.mk (Kd.R_drew HO120.out)
           have n4_:=Aside0.mk (Kd.R_drew HO123.out)
           have n5_:=Aside0.mk (blk_drew BK106.out)
           have n6_:=Aside0.mk (below_drew1 HB.out)
           clear HO_7
           clear HO114
           clear HO117
           clear HO120
           clear HO123
           clear BK106
           clear HB
           have HO_7:=n0_
           have HO114:=n1_
           have HO117:=n2_
           have HO120:=n3_
           have HO123:=n4_
           have BK106:=n5_
           have HB:=n6_
           clear n0_ n1_ n2_ n3_ n4_ n5_ n6_
           obtain ⟨Ao42,co42,eo42⟩:=Kd.R_slice HO123.out
           (first|subst eo42|(injection eo42 with f1_ f2_ f3_;have f4_:=f1_.symm;have f5_:=f3_.symm;clear f1_ f2_ f3_;subst f4_;subst f5_))
           have p124:0 ≤ (t107:Int):=of_decide_eq_true (by first|(with_reducible assumption)|assumption)
           have q124:t107 < (t121.length:Int):=of_decide_eq_true (by first|(with_reducible assumption)|assumption)
           obtain ⟨ad124,e124,hx124_0⟩:=Kd.at_int (Kd.R_reads' HO123.out).2.2 t107 p124 q124
           cases e124
           replace p124:=eq_true p124
           replace q124:=eq_true q124
           obtain ⟨Ao43,co43,eo43⟩:=Kd.N_slice HO_7.out
           (first|subst eo43|(injection eo43 with f1_ f2_ f3_;have f4_:=f1_.symm;have f5_:=f3_.symm;clear f1_ f2_ f3_;subst f4_;subst f5_))
           have p125:0 ≤ (x23_1:Int):=of_decide_eq_true (by first|(with_reducible assumption)|assumption)
           have q125:x23_1 < (t101.length:Int):=of_decide_eq_true (by first|(with_reducible assumption)|assumption)
           obtain ⟨ad125,A125_4,c125_4,e125,hx125_0,hx125_1,hx125_2,hx125_3,hx125_4,hx125_5,hl125_4,hi125_4⟩:=at_T91 (Kd.N_reads' HO_7.out).2.2 x23_1 p125 q125
           cases e125
           obtain ⟨ce125,hce125,hMe125,hcc125⟩:=Kd.N_get HO_7.out z91 x23_1 p125 (by first|exact q125|exact of_decide_eq_true (by first|(with_reducible assumption)|assumption)|(have e_:=(Kd.N_reads' HO_7.out).1;omega))
           obtain ⟨ua125_4,uc125_4,rfl,ul125_4,ge125_4⟩:=k91_openF hMe125
           have hv125_4:=hcc125 4 _ rfl
           rw [add_field _ _ 4 (by omega)] at hv125_4
           replace hv125_4:=Option.some.inj (hv125_4.symm.trans hx125_4)
           injection hv125_4 with hva_ hvn_ hvc_
           rw [hva_] at ge125_4
           rw [hvc_] at ul125_4
           have HL125_4:=Aside0.mk (show Kd.V (Kd.int .i64) 3 _ w.heap.size _ _ ((rd_T91 t101 x23_1).f1) from Kd.V_mk ul125_4 ge125_4)
           clear hva_ hvn_ hvc_ ge125_4 ul125_4
           clear hcc125 hce125
           have HR125_4:=Aside0.mk hi125_4
           have HC125_4:=Aside0.mk hl125_4
           clear hi125_4 hl125_4
           replace p125:=eq_true p125
           replace q125:=eq_true q125
           have p28:0 ≤ (t107:Int):=of_decide_eq_true (by first|(with_reducible assumption)|assumption)
           have q28:(t107:Int) < ((t121.length:Int):Int):=of_decide_eq_true (by first|(with_reducible assumption)|assumption)
           obtain ⟨go28,co28,eo28,gb28,gl28,cl28,HG28⟩:=Kd.R_form HO123.out (by omega)
           (first|cases eo28|(injection eo28 with ea_ en_ ec_;(first|subst ea_|(injection ea_ with ea_;subst ea_));subst ec_;clear en_))
           have GB28:=Aside0.mk gb28
           have GG28:=Aside0.mk HG28
           clear gb28 gl28 HG28
           (first|simp only [add_plain] at hx124_0|skip)
           obtain ⟨hx28_0,hf28_0⟩:=Kd.R_celln 0 HO123.out (t107:Int) p28 q28
           replace p28:=eq_true p28
           replace q28:=eq_true q28
           have HP44:=Kd.R_putn HO123.out (t107:Int) (wrap64 ((rd t121 t107) + (wrap64 ((wrap64 (((rd_T73 l0 x23_1).f1) - ((rd_T73 l0 x23_1).f2))) * ((rd_T91 t101 x23_1).f2)))))
           rw [← Ny126.out] at HP44
           have HQ44:=Aside0.mk HP44
           clear HP44
           refine start_ (n:=18) (S:=fun w'=>w'.cell? ⟨gb106,0,none⟩ = some (.string ((rd_T73 l0 x23_1).f0.f0)) ∧ w'.cell? ⟨gb106,1,none⟩ = some (.int .i64 ((rd_T73 l0 x23_1).f0.f1)) ∧ w'.cell? ⟨gb106,2,none⟩ = some (.int .i64 ((rd_T73 l0 x23_1).f0.f2)) ∧ w'.cell? ⟨gb106,3,none⟩ = some (.int .i64 ((rd_T73 l0 x23_1).f0.f3)) ∧ w'.cell? ⟨gb106,4,none⟩ = some (.int .i64 ((rd_T73 l0 x23_1).f1)) ∧ w'.cell? ⟨gb106,5,none⟩ = some (.int .i64 ((rd_T73 l0 x23_1).f2)) ∧ w'.cell? ⟨go28,(t107).toNat,none⟩ = some (.int .i64 (rd t121 t107)) ∧ w'.cell? (ad125.add ((x23_1).toNat * 6)) = some (.string ((rd_T91 t101 x23_1).f0.f0)) ∧ w'.cell? ⟨(ad125.add ((x23_1).toNat * 6)).block,(ad125.add ((x23_1).toNat * 6)).off + 1,none⟩ = some (.int .i64 ((rd_T91 t101 x23_1).f0.f1)) ∧ w'.cell? ⟨(ad125.add ((x23_1).toNat * 6)).block,(ad125.add ((x23_1).toNat * 6)).off + 2,none⟩ = some (.int .i64 ((rd_T91 t101 x23_1).f0.f2)) ∧ w'.cell? ⟨(ad125.add ((x23_1).toNat * 6)).block,(ad125.add ((x23_1).toNat * 6)).off + 3,none⟩ = some (.int .i64 ((rd_T91 t101 x23_1).f0.f3)) ∧ w'.cell? ⟨(ad125.add ((x23_1).toNat * 6)).block,(ad125.add ((x23_1).toNat * 6)).off + 4,none⟩ = some (.slice A125_4 ((rd_T91 t101 x23_1).f1).length c125_4) ∧ w'.cell? ⟨(ad125.add ((x23_1).toNat * 6)).block,(ad125.add ((x23_1).toNat * 6)).off + 5,none⟩ = some (.int .i64 ((rd_T91 t101 x23_1).f2))) (ds:=[17]) #[Z,Z,Z,Z,Z,Z,Z,Z,Z,Z,Z,Z,Z,Z,Z,Z,Z,Z] (by kernel_rfl) rfl rfl ⟨(blk_cell BK106.out 0).trans rfl,(blk_cell BK106.out 1).trans rfl,(blk_cell BK106.out 2).trans rfl,(blk_cell BK106.out 3).trans rfl,(blk_cell BK106.out 4).trans rfl,(blk_cell BK106.out 5).trans rfl,hx124_0,hx125_0,hx125_1,hx125_2,hx125_3,hx125_4,hx125_5⟩ (fun hHeld=>?_);refine with_tabW scan_Expiries.tab11 scan_Expiries.bits11 (fun HT_ HW_=>?_)
           generalize w40.drew = w41 at HO_7 HO114 HO117 HO120 HO123 BK106 HB GG28 HL125_4 HQ44 HR125_4 hf28_0 hx124_0 hx125_0 hx125_1 hx125_2 hx125_3 hx125_4 hx125_5 hx28_0 hHeld ⊢
           refine pure_ (i:=0) (N:=some 49) (v:=?_) (a':=?_) #[Y,Z,Z,Z,Z,Z,Z,Z,Z,Z,Z,Z,Z,Z,Z,Z,Z,Z] rfl rfl (any_of HT_.out (by kernel_rfl)) (fun _ _ _ h=>h) (Or.inl ⟨by rfl,?_⟩) ?_ ?_
           rotate_left
           ·intro w'
            go_simp
            with_reducible rfl
           rotate_left
           ·simp only [Act.put,List.setIfInBounds_toArray,List.set_cons_zero,List.set_cons_succ,i64_w,i32_w]
            rfl
           refine pure_ (i:=1) (N:=some 50) (v:=?_) (a':=?_) #[Y,Y,Z,Z,Z,Z,Z,Z,Z,Z,Z,Z,Z,Z,Z,Z,Z,Z] rfl rfl (any_of HT_.out (by kernel_rfl)) (fun _ _ _ h=>h) (Or.inl ⟨by rfl,?_⟩) ?_ ?_
           rotate_left
           ·intro w'
            go_simp
            with_reducible rfl
           rotate_left
           ·simp only [Act.put,List.setIfInBounds_toArray,List.set_cons_zero,List.set_cons_succ,i64_w,i32_w]
            rfl
           refine pure_ (i:=2) (N:=some 51) (v:=?_) (a':=?_) #[Y,Y,Y,Z,Z,Z,Z,Z,Z,Z,Z,Z,Z,Z,Z,Z,Z,Z] rfl rfl (any_of HT_.out (by kernel_rfl)) (fun _ _ _ h=>h) (Or.inl ⟨by rfl,?_⟩) ?_ ?_
           rotate_left
           ·intro w'
            go_simp
            with_reducible rfl
           rotate_left
           ·simp only [Act.put,List.setIfInBounds_toArray,List.set_cons_zero,List.set_cons_succ,i64_w,i32_w]
            rfl
           refine pure_ (i:=4) (N:=some 53) (v:=?_) (a':=?_) #[Y,Y,Y,Z,Y,Z,Z,Z,Z,Z,Z,Z,Z,Z,Z,Z,Z,Z] rfl rfl (any_of HT_.out (by kernel_rfl)) (fun _ _ _ h=>h) (Or.inl ⟨by rfl,?_⟩) ?_ ?_
           rotate_left
           ·intro w'
            go_simp
            with_reducible rfl
           rotate_left
           ·simp only [Act.put,List.setIfInBounds_toArray,List.set_cons_zero,List.set_cons_succ,i64_w,i32_w]
            rfl
           refine pure_ (i:=6) (N:=some 55) (v:=?_) (a':=?_) #[Y,Y,Y,Z,Y,Z,Y,Z,Z,Z,Z,Z,Z,Z,Z,Z,Z,Z] rfl rfl (any_of HT_.out (by kernel_rfl)) (fun _ _ _ h=>h) (Or.inl ⟨by rfl,?_⟩) ?_ ?_
           rotate_left
           ·intro w'
            go_simp
            with_reducible rfl
           rotate_left
           ·simp only [Act.put,List.setIfInBounds_toArray,List.set_cons_zero,List.set_cons_succ,i64_w,i32_w]
            rfl
           refine pure_ (i:=9) (N:=some 58) (v:=?_) (a':=?_) #[Y,Y,Y,Z,Y,Z,Y,Z,Z,Y,Z,Z,Z,Z,Z,Z,Z,Z] rfl rfl (any_of HT_.out (by kernel_rfl)) (fun _ _ _ h=>h) (Or.inl ⟨by rfl,?_⟩) ?_ ?_
           rotate_left
           ·intro w'
            go_simp
            with_reducible rfl
           rotate_left
           ·simp only [Act.put,List.setIfInBounds_toArray,List.set_cons_zero,List.set_cons_succ,i64_w,i32_w]
            rfl
           refine pure_ (i:=10) (N:=some 59) (v:=?_) (a':=?_) #[Y,Y,Y,Z,Y,Z,Y,Z,Z,Y,Y,Z,Z,Z,Z,Z,Z,Z] rfl rfl (any_of HT_.out (by kernel_rfl)) (fun _ _ _ h=>h) (Or.inl ⟨by rfl,?_⟩) ?_ ?_
           rotate_left
           ·intro w'
            go_simp
            with_reducible rfl
           rotate_left
           ·simp only [Act.put,List.setIfInBounds_toArray,List.set_cons_zero,List.set_cons_succ,i64_w,i32_w]
            rfl
           refine pure_ (i:=11) (N:=some 60) (v:=?_) (a':=?_) #[Y,Y,Y,Z,Y,Z,Y,Z,Z,Y,Y,Y,Z,Z,Z,Z,Z,Z] rfl rfl (any_of HT_.out (by kernel_rfl)) (fun _ _ _ h=>h) (Or.inl ⟨by rfl,?_⟩) ?_ ?_
           rotate_left
           ·intro w'
            go_simp
            with_reducible rfl
           rotate_left
           ·simp only [Act.put,List.setIfInBounds_toArray,List.set_cons_zero,List.set_cons_succ,i64_w,i32_w]
            rfl
           refine pure_ (i:=12) (N:=some 61) (v:=?_) (a':=?_) #[Y,Y,Y,Z,Y,Z,Y,Z,Z,Y,Y,Y,Y,Z,Z,Z,Z,Z] rfl rfl (any_of HT_.out (by kernel_rfl)) (fun _ _ _ h=>h) (Or.inl ⟨by rfl,?_⟩) ?_ ?_
           rotate_left
           ·intro w'
            go_simp
            with_reducible rfl
           rotate_left
           ·simp only [Act.put,List.setIfInBounds_toArray,List.set_cons_zero,List.set_cons_succ,i64_w,i32_w]
            rfl
           refine take_ (i:=3) (N:=some 52) (v:=?_) (a':=?_) #[Y,Y,Y,Y,Y,Z,Y,Z,Z,Y,Y,Y,Y,Z,Z,Z,Z,Z] rfl rfl (take_ofW HT_.out HW_.out (by kernel_rfl)) (fun _ _ _ h=>h) (Or.inl ⟨by rfl,?_⟩) hHeld ?_ ?_
           rotate_left
           ·rintro w' ⟨s0,s1,s2,s3,s4,s5,s6,s7,s8,s9,s10,s11,s12⟩
            go_simp
            with_reducible rfl
           rotate_left
           ·simp only [Act.put,List.setIfInBounds_toArray,List.set_cons_zero,List.set_cons_succ,i64_w,i32_w]
            rfl
           refine take_ (i:=5) (N:=some 54) (v:=?_) (a':=?_) #[Y,Y,Y,Y,Y,Y,Y,Z,Z,Y,Y,Y,Y,Z,Z,Z,Z,Z] rfl rfl (take_ofW HT_.out HW_.out (by kernel_rfl)) (fun _ _ _ h=>h) (Or.inl ⟨by rfl,?_⟩) hHeld ?_ ?_
           rotate_left
           ·rintro w' ⟨s0,s1,s2,s3,s4,s5,s6,s7,s8,s9,s10,s11,s12⟩
            go_simp
            with_reducible rfl
           rotate_left
           ·simp only [Act.put,List.setIfInBounds_toArray,List.set_cons_zero,List.set_cons_succ,i64_w,i32_w]
            rfl
           refine take_ (i:=7) (N:=some 56) (v:=?_) (a':=?_) #[Y,Y,Y,Y,Y,Y,Y,Y,Z,Y,Y,Y,Y,Z,Z,Z,Z,Z] rfl rfl (take_ofW HT_.out HW_.out (by kernel_rfl)) (fun _ _ _ h=>h) (Or.inl ⟨by rfl,?_⟩) hHeld ?_ ?_
           rotate_left
           ·rintro w' ⟨s0,s1,s2,s3,s4,s5,s6,s7,s8,s9,s10,s11,s12⟩
            go_simp
            with_reducible rfl
           rotate_left
           ·simp only [Act.put,List.setIfInBounds_toArray,List.set_cons_zero,List.set_cons_succ,i64_w,i32_w]
            rfl
           refine pure_ (i:=8) (N:=some 57) (v:=?_) (a':=?_) #[Y,Y,Y,Y,Y,Y,Y,Y,Y,Y,Y,Y,Y,Z,Z,Z,Z,Z] rfl rfl (any_of HT_.out (by kernel_rfl)) (fun _ _ _ h=>h) (Or.inl ⟨by rfl,?_⟩) ?_ ?_
           rotate_left
           ·intro w'
            go_simp
            with_reducible rfl
           rotate_left
           ·simp only [Act.put,List.setIfInBounds_toArray,List.set_cons_zero,List.set_cons_succ,i64_w,i32_w]
            rfl
           refine take_ (i:=13) (N:=some 62) (v:=?_) (a':=?_) #[Y,Y,Y,Y,Y,Y,Y,Y,Y,Y,Y,Y,Y,Y,Z,Z,Z,Z] rfl rfl (take_ofW HT_.out HW_.out (by kernel_rfl)) (fun _ _ _ h=>h) (Or.inl ⟨by rfl,?_⟩) hHeld ?_ ?_
           rotate_left
           ·rintro w' ⟨s0,s1,s2,s3,s4,s5,s6,s7,s8,s9,s10,s11,s12⟩
            go_simp
            with_reducible rfl
           rotate_left
           ·simp only [Act.put,List.setIfInBounds_toArray,List.set_cons_zero,List.set_cons_succ,i64_w,i32_w]
            rfl
           refine pure_ (i:=14) (N:=some 63) (v:=?_) (a':=?_) #[Y,Y,Y,Y,Y,Y,Y,Y,Y,Y,Y,Y,Y,Y,Y,Z,Z,Z] rfl rfl (any_of HT_.out (by kernel_rfl)) (fun _ _ _ h=>h) (Or.inl ⟨by rfl,?_⟩) ?_ ?_
           rotate_left
           ·intro w'
            go_simp
            with_reducible rfl
           rotate_left
           ·simp only [Act.put,List.setIfInBounds_toArray,List.set_cons_zero,List.set_cons_succ,i64_w,i32_w]
            rfl
           refine pure_ (i:=15) (N:=some 64) (v:=?_) (a':=?_) #[Y,Y,Y,Y,Y,Y,Y,Y,Y,Y,Y,Y,Y,Y,Y,Y,Z,Z] rfl rfl (any_of HT_.out (by kernel_rfl)) (fun _ _ _ h=>h) (Or.inl ⟨by rfl,?_⟩) ?_ ?_
           rotate_left
           ·intro w'
            go_simp
            with_reducible rfl
           rotate_left
           ·simp only [Act.put,List.setIfInBounds_toArray,List.set_cons_zero,List.set_cons_succ,i64_w,i32_w]
            rfl
           refine pure_ (i:=16) (N:=some 65) (v:=?_) (a':=?_) #[Y,Y,Y,Y,Y,Y,Y,Y,Y,Y,Y,Y,Y,Y,Y,Y,Y,Z] rfl rfl (any_of HT_.out (by kernel_rfl)) (fun _ _ _ h=>h) (Or.inl ⟨by rfl,?_⟩) ?_ ?_
           rotate_left
           ·intro w'
            go_simp
            with_reducible rfl
           rotate_left
           ·simp only [Act.put,List.setIfInBounds_toArray,List.set_cons_zero,List.set_cons_succ,i64_w,i32_w]
            rfl
           refine last_ (i:=17) (N:=none) #[Y,Y,Y,Y,Y,Y,Y,Y,Y,Y,Y,Y,Y,Y,Y,Y,Y,Y] rfl rfl (one_of HT_.out (by kernel_rfl)) (by decide) (fun K hK=>?_)
           refine skip_ (w1:=?_) (by rfl) rfl ?_ ?_
           rotate_left
           ·go_simp
            rfl
           refine hK.out _ _ ?_
           clear hK K
           refine done_ (done_of HT_.out (by kernel_rfl)) ?_
           try go_wp2
           go_roundg k1
           case measure=>have:=HK1.out;omega
           case rel=>exact ⟨(t115),(y126),(wrap64 (x23_1 + 1)),(by first|rfl|(simp;done)|(simp [*];done)),H',⟨by have:=HK1.out;omega⟩,⟨by (with_reducible repeat (first|apply Kd.R_alloc|apply Kd.R_drewN|apply Kd.R_drew));exact Kd.R_mono (Kd.R_far (p:=⟨go28,(t107:Int).toNat,none⟩) (Kd.R_mono HO117.out (fun k_ hk=>(⟨hk,fun e_=>hk.2.2 (by rw [e_];rfl)⟩:_ ∧ k_ ≠ go28))) (fun _ hk=>hk.2) (.int .i64 (wrap64 ((rd t121 t107) + (wrap64 ((wrap64 (((rd_T73 l0 x23_1).f1) - ((rd_T73 l0 x23_1).f2))) * ((rd_T91 t101 x23_1).f2))))))) (fun _ hk=>hk.1.2.2)⟩,⟨by (with_reducible repeat (first|apply Kd.R_alloc|apply Kd.R_drewN|apply Kd.R_drew));exact Kd.R_mono HQ44.out (fun _ hk=>hk.2.1)⟩,⟨by (with_reducible repeat (first|apply Kd.N_alloc|apply Kd.N_drewN|apply Kd.N_drew));exact Kd.N_mono (Kd.N_far (p:=⟨go28,(t107:Int).toNat,none⟩) (Kd.N_mono HO_7.out (fun k_ hk=>(⟨hk,fun e_=>hk.2.2.2.2 (by rw [e_];rfl)⟩:_ ∧ k_ ≠ go28))) (fun _ hk=>hk.2) (.int .i64 (wrap64 ((rd t121 t107) + (wrap64 ((wrap64 (((rd_T73 l0 x23_1).f1) - ((rd_T73 l0 x23_1).f2))) * ((rd_T91 t101 x23_1).f2))))))) (fun _ hk=>⟨hk.1.2.1,hk.1.2.2.2.2⟩)⟩,⟨by repeat (first|(with_reducible first|exact HB.out|apply below_alloc|apply pw_below_drewN|apply below_drew1|refine below_set ?_ GB28.out|refine below_set ?_ GE106.out)|exact HB.out)⟩⟩
          ·rw [if_neg c27] at H
           exact absurd H (by simp)
         ·rw [if_neg c26] at H
          exact absurd H (by simp)
        ·rw [if_neg c25] at H
         exact absurd H (by simp)
      ·rw [if_neg c8] at H
       exact absurd H (by simp)
     ·rw [if_neg c7] at H
      exact absurd H (by simp)
    ·rw [if_neg c6] at H
     have c6b0:decide (x23_1 < (l0.length:Int)) = false:=decide_eq_false c6
     clear c6
     simp only [Option.some.injEq,Prod.mk.injEq] at H
     obtain ⟨rfl,rfl,rfl⟩:=H
     go_wp2
     go_ret3
     exact ⟨_,_,by first|rfl|(simp [errW_none,errW_some] <;> rfl)|(simp [*,errW_none,errW_some] <;> rfl),by (with_reducible repeat (first|apply Kd.R_alloc|apply Kd.R_drewN|apply Kd.R_drew));exact HO_4.out,by (with_reducible repeat (first|apply Kd.R_alloc|apply Kd.R_drewN|apply Kd.R_drew));exact HO_5.out,by repeat (first|(with_reducible first|exact HB.out|apply below_alloc|apply pw_below_drewN|apply below_drew1)|exact HB.out)⟩
 ·rw [if_neg c4] at H
  have c4b0:(t104 == 0) = false:=beq_eq_false_iff_ne.mpr c4
  have c4b1:(t104 != 0) = true:=bne_iff_ne.mpr c4
  simp only [Option.some.injEq,Prod.mk.injEq] at H
  obtain ⟨rfl,rfl,rfl⟩:=H
  go_enter Try.func43,Try.ntmps43
  go_wp2_with (first|((with_reducible refine gate_callee (f:=57) rfl ?_);refine goesL_ (some 15) rfl rfl Try.func57 (by kernel_rfl) rfl #[.slice A0 l0.length c0,.slice A1 l1.length c1] rfl (by (try simp only [List.map_toArray,List.map_cons,List.map_nil]);first|done|rfl|(simp only [List.length_drop,List.length_take];rfl)) ?_;(with_reducible refine (scan_found.calls k _ _ l0 (fun k_=>k_ < w.heap.size) _ _ l1 t101 t104 _ ?side1 ?side2 ?side3 A3.out).mono ?_);(case side1=>repeat (first|exact HR0.out|(with_reducible refine Kd.C_alloc ?_ _)|(with_reducible refine Kd.C_drewN ?_ _)|(with_reducible refine Kd.C_drew ?_)));(case side2=>exact HC0.out);(case side3=>exact Kd.V_mk HC1.out (Kd.F_below (Kd.C_F k91_heap HR1.out) (by repeat (first|(with_reducible first|exact HB.out|apply below_alloc|apply pw_below_drewN|apply below_drew1)|exact HB.out))));rintro e w45 ⟨v102,rfl,ho0,hb⟩;refine ⟨_,rfl,?_⟩;have n0_:=Aside0.mk (Kd.N_lower (Kd.N_mono (ok':=fun k_=>True) ho0 (fun k_ hk_=>trivial)) (below_size (by repeat (first|(with_reducible first|exact HB.out|apply below_alloc|apply pw_below_drewN|apply below_drew1)|exact HB.out))));have n1_:=Aside0.mk (below_step (by repeat (first|(with_reducible first|exact HB.out|apply below_alloc|apply pw_below_drewN|apply below_drew1)|exact HB.out)) hb);clear HB;have HO103:=n0_;have HB:=n1_;clear n0_ n1_;(try clear hb);(try clear hb2);(try clear hk);(try clear hi);(try clear ho0)))
  go_ret3
  exact ⟨_,_,by first|rfl|(simp [errW_none,errW_some] <;> rfl)|(simp [*,errW_none,errW_some] <;> rfl),by first|exact Kd.R_nil _ _ _ _ _|exact Kd.N_nil _ _ _ _ _|exact Kd.V_nil _ _ _ _ _|exact Kd.Q_nil _ _ _ _ _|exact Kd.S_nil _ _ _ _ _,by first|exact Kd.R_nil _ _ _ _ _|exact Kd.N_nil _ _ _ _ _|exact Kd.V_nil _ _ _ _ _|exact Kd.Q_nil _ _ _ _ _|exact Kd.S_nil _ _ _ _ _,by repeat (first|(with_reducible first|exact HB.out|apply below_alloc|apply pw_below_drewN|apply below_drew1)|exact HB.out)⟩
end Go.Proofs.Ytbgeceiddcokmaa.X
end
