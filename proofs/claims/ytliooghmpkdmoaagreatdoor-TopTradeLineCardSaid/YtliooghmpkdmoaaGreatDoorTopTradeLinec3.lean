/- For TopTradeLine: contracts, and facts on lists and numbers, that it uses (part 3). -/
import Derived.Lib.SlBytesConst
import Derived.Lib.SliceRun
import Derived.Maps.RangeWalk
import Derived.Maps.Views
import Derived.Test.YtliooghmpkdmoaaGreatDoorTopTradeLinec2
section
namespace Go.Proofs.YtliooghmpkdmoaaGreatDoor.X
open Go.RowKit Go.Proofs.YtliooghmpkdmoaaGreatDoorW.PrintWords Go.Proofs.YtliooghmpkdmoaaGreatDoorW.PrintLast Go.Proofs.YtliooghmpkdmoaaGreatDoorW.PrintMore
attribute [local go_sem] max2_int min2_int max_two min_two max_three min_three max_four min_four
set_option linter.unusedVariables false
set_option linter.unusedSimpArgs false
theorem list_insert_own {H : Type} {P : Program} (w : World) {ops : Array Oper} {rest : List Oper} {o : Oper} {a : Act} {Q : Exit → Act → World → Prop}
    (hg : o.guard = none) (m x v : Operand) (t : TypeId) (hop : o.op = Op.insert t m x v)
    (k e : TypeId) (K : Maps.Keyed P k) (ht : P.underlying t = some (.map k e)) (R : Value → Option (DataW H × List MemPlace)) (b n : Nat) (D : DataW H)
    (hm : a.eval m = .map (some b)) (hown : w.ownsMap P k R b n D) (hn : n < maxLen) (key val : Value) (kl : Lit) (hx : a.eval x = key) (hv : a.eval v = val) (hkey : keyOf P k key = some kl)
    (d : DataW H) (ps : List MemPlace) (hval : R val = some (d, ps))
    (hK : ∀ w', w'.ownsMap P k R b (n + 1) (D.put kl d) → w.grownBy w' (some b) → wpList P ops Q rest (a.put o.dst undef) w') :
    wpList P ops Q (o :: rest) a w := by
  refine wpList_plain hg fun K' hK' => ?_
  obtain ⟨w', hrun, r1, r2⟩ := hown.update K ht hn hkey hval
  unfold Oper.wp
  simp [execOp, hop, hm, hx, hv, hrun, Result.andThen]
  exact hK' _ _ (hK w' r1 r2)
def fillD : Nat → List Int → Int → Int → List Int
  | 0, xs, _, _ => xs
  | f + 1, xs, k, n => if 0 < n then fillD f (xs.set k.toNat (48 + n % 10)) (k - 1) (n / 10) else xs
def dateC (y m d : Int) (l3 l6 l9 : Bool) : List Int := [if l3 then 48 else 48 + y / 1000 % 10, if l3 then 48 else 48 + y / 100 % 10, if l3 then 48 else 48 + y / 10 % 10, if l3 then 48 else 48 + y % 10, 45, if l6 then 48 else 48 + m / 10 % 10, if l6 then 48 else 48 + m % 10, 45, if l9 then 48 else 48 + d / 10 % 10, if l9 then 48 else 48 + d % 10]
theorem fill_y {y m d : Int} (h1 : 1000 ≤ y) (h2 : y ≤ 9999) (l6 l9 : Bool) : fillD 5 (dateC y m d true l6 l9) 3 y = dateC y m d false l6 l9 := by
  have e3 : y / 10 / 10 = y / 100 := by omega
  have e4 : y / 10 / 10 / 10 = y / 1000 := by omega
  have e5 : y / 10 / 10 / 10 / 10 = 0 := by omega
  simp only [fillD]
  rw [if_pos (by omega), if_pos (by omega), if_pos (by omega), if_pos (by omega), if_neg (by omega)]
  have e6 : y / 100 / 10 = y / 1000 := by omega
  simp only [e3, e6, dateC]
  rfl
theorem fill_two {n : Int} (h1 : 1 ≤ n) (h2 : n ≤ 99) (xs : List Int) (p : Nat) (hp : 1 ≤ p) (h48 : xs[p - 1]? = some 48) : fillD 5 xs p n = (xs.set p (48 + n % 10)).set (p - 1) (48 + n / 10 % 10) := by
  have e1 : ((p : Int)).toNat = p := by omega
  have e2 : ((p : Int) - 1).toNat = p - 1 := by omega
  by_cases c : n < 10
  · simp only [fillD]
    rw [if_pos (by omega), if_neg (by omega), e1, show n / 10 % 10 = 0 by omega]
    rw [List.set_comm _ _ (by omega)]
    congr 1
    rw [show (48 + 0 : Int) = 48 from rfl]
    apply List.ext_getElem?
    intro i
    rw [List.getElem?_set]
    by_cases ci : p - 1 = i
    · subst ci
      obtain ⟨hl, _⟩ := List.getElem?_eq_some_iff.1 h48
      rw [if_pos rfl, if_pos hl, h48]
    · rw [if_neg ci]
  · simp only [fillD]
    rw [if_pos (by omega), if_pos (by omega), if_neg (by omega), e1, e2]
theorem fill_m {y m d : Int} (h1 : 1 ≤ m) (h2 : m ≤ 99) (l3 l9 : Bool) : fillD 5 (dateC y m d l3 true l9) 6 m = dateC y m d l3 false l9 := by
  have := fill_two h1 h2 (dateC y m d l3 true l9) 6 (by decide) rfl
  rw [show ((6 : Nat) : Int) = 6 from rfl] at this
  rw [this]
  rfl
theorem fill_d {y m d : Int} (h1 : 1 ≤ d) (h2 : d ≤ 99) (l3 l6 : Bool) : fillD 5 (dateC y m d l3 l6 true) 9 d = dateC y m d l3 l6 false := by
  have := fill_two h1 h2 (dateC y m d l3 l6 true) 9 (by decide) rfl
  rw [show ((9 : Nat) : Int) = 9 from rfl] at this
  rw [this]
  rfl
theorem split_rng {day : Int} (h : 0 ≤ day ∧ day ≤ 73048) : 2000 ≤ (splitV day).1 ∧ (splitV day).1 ≤ 2199 ∧ 1 ≤ (splitV day).2.1 ∧ (splitV day).2.1 ≤ 12 ∧ 1 ≤ (splitV day).2.2.1 ∧ (splitV day).2.2.2 = 0 := by
  obtain ⟨h1, h2, h3⟩ := year_ok h
  unfold splitV
  rw [if_pos h]
  have hm := monAt_ok (leapB (2000 + (yearK day : Int))) (day - startV (2000 + (yearK day : Int))) h2 h3 12 1 (by omega) (by omega) (by omega) (by rw [monSum_one]; exact h2)
  refine ⟨by show 2000 ≤ 2000 + (yearK day : Int); omega, by show 2000 + (yearK day : Int) ≤ 2199; omega, ?_, ?_, ?_, rfl⟩
  · show (1 : Int) ≤ ((monAt _ _ 12 1 : Nat) : Int); omega
  · show ((monAt _ _ 12 1 : Nat) : Int) ≤ 12; omega
  · show (1 : Int) ≤ _ - monSum _ (monAt _ _ 12 1) + 1
    have : ∀ (b : Bool) (D : Int) (f m : Nat), monSum b m ≤ D → monSum b (monAt b D f m) ≤ D := by
      intro b D f
      induction f with
      | zero => exact fun m h => h
      | succ f ih =>
        intro m h
        unfold monAt
        split
        · rename_i c
          exact ih (m + 1) (by show monSum b m + monLen b m ≤ D; omega)
        · exact h
    have := this (leapB (2000 + (yearK day : Int))) (day - startV (2000 + (yearK day : Int))) 12 1 (by rw [monSum_one]; exact h2)
    omega
theorem monAt_lt (b : Bool) (D : Int) (h1 : D < monSum b 13) : ∀ (f m : Nat), m + f = 13 → D - monSum b (monAt b D f m) < 32 := by
  intro f
  induction f with
  | zero =>
    intro m h
    have : m = 13 := by omega
    subst this
    show D - monSum b 13 < 32
    omega
  | succ f ih =>
    intro m h
    unfold monAt
    split
    · exact ih (m + 1) (by omega)
    · rename_i c
      have := monLen_rng b m
      omega
theorem split_day {day : Int} (h : 0 ≤ day ∧ day ≤ 73048) : (splitV day).2.2.1 ≤ 99 := by
  obtain ⟨h1, h2, h3⟩ := year_ok h
  unfold splitV
  rw [if_pos h]
  show _ - monSum _ (monAt _ _ 12 1) + 1 ≤ (99 : Int)
  have := monAt_lt (leapB (2000 + (yearK day : Int))) (day - startV (2000 + (yearK day : Int))) h3 12 1 (by omega)
  omega
def date_Print.f (day : Int) : Option ByteArray := some (if 0 ≤ day ∧ day ≤ 73048 then strOfNums (dateC (splitV day).1 (splitV day).2.1 (splitV day).2.2.1 false false false) else (⟨#[]⟩ : ByteArray))
theorem wf_of {n : Int} (h1 : -9223372036854775808 ≤ n) (h2 : n ≤ 9223372036854775807) : (Lit.int .i64 n).wf = true := by
  simp [Lit.wf, IntKind.min, IntKind.max, IntKind.signed, IntKind.bits]
  omega
def bytesV (xs : List Int) : Array Value := (xs.map (Value.int .u8)).toArray
theorem blk_cellF {w : World} {g : Nat} {cs : Array Value} {t : TypeId} {fr : Nat × Nat} (h : w.heap[g]? = some (.cells cs t fr)) (j : Nat) : w.cell? ⟨g, j, none⟩ = cs[j]? := by
  simp [World.cell?, h]
theorem bytesV_at {xs : List Int} {i : Nat} (h : i < xs.length) : (bytesV xs)[i]? = some (.int .u8 (xs.getD i 0)) := by
  unfold bytesV
  simp [h]
theorem pow10_le : ∀ p : Nat, p < 10 → (10 : Int) ^ (p + 1) ≤ 10000000000 := by decide +kernel
theorem blk_frozenF {w : World} {g j : Nat} {cs : Array Value} {t : TypeId} (h : w.heap[g]? = some (.cells cs t (10, 11))) (hj : j < 10) : w.frozen? ⟨g, j, none⟩ = false := by
  simp [World.frozen?, h]
  omega
theorem blk_setF {w : World} {g : Nat} {xs : List Int} {t : TypeId} (h : w.heap[g]? = some (.cells (bytesV xs) t (10, 11))) (i : Nat) (u : Int) : (w.setCell ⟨g, i, none⟩ (.int .u8 u)).heap[g]? = some (.cells (bytesV (xs.set i u)) t (10, 11)) := by
  have e : (bytesV xs).setIfInBounds i (.int .u8 u) = bytesV (xs.set i u) := by
    unfold bytesV
    simp [List.map_set]
  simp [World.setCell, Array.getElem?_modify, h, e]
theorem grownBy_setCellF (W : World) (b i : Nat) (v : Value) : W.grownBy (W.setCell ⟨b, i, none⟩ v) (some b) :=
  ⟨rfl, rfl, rfl, (by simp [World.setCell]), fun k _ hk => Below.heap_setCell _ _ _ k (fun e => hk (by rw [e]))⟩
theorem key_cases {y m d x c : Int} (hat : ∀ zd : DataW Unit, ((((.map [] : DataW Unit).put (.int .i64 3) (.lit (.int .i64 y))).put (.int .i64 6) (.lit (.int .i64 m))).put (.int .i64 9) (.lit (.int .i64 d))).atKey (.int .i64 x) zd = .lit (.int .i64 c)) : (x = 3 ∧ c = y) ∨ (x = 6 ∧ c = m) ∨ (x = 9 ∧ c = d) := by
  have h := hat .nil
  have ne : ∀ k : Int, x ≠ k → (Lit.int .i64 x) ≠ .int .i64 k := fun k e h => by injection h with _ h; exact e h
  by_cases c9 : x = 9
  · subst c9
    rw [Maps.atKey_put_same (D := (((.map [] : DataW Unit).put (.int .i64 3) (.lit (.int .i64 y))).put (.int .i64 6) (.lit (.int .i64 m)))) (k := .int .i64 9) ⟨_, rfl⟩ (by trivial) (.lit (.int .i64 d)) .nil] at h
    injection h with h
    injection h with _ h
    exact Or.inr (Or.inr ⟨rfl, h.symm⟩)
  rw [Maps.atKey_put_other (ne 9 c9)] at h
  by_cases c6 : x = 6
  · subst c6
    rw [Maps.atKey_put_same (D := ((.map [] : DataW Unit).put (.int .i64 3) (.lit (.int .i64 y)))) (k := .int .i64 6) ⟨_, rfl⟩ (by trivial) (.lit (.int .i64 m)) .nil] at h
    injection h with h
    injection h with _ h
    exact Or.inr (Or.inl ⟨rfl, h.symm⟩)
  rw [Maps.atKey_put_other (ne 6 c6)] at h
  by_cases c3 : x = 3
  · subst c3
    rw [Maps.atKey_put_same (D := (.map [] : DataW Unit)) (k := .int .i64 3) ⟨_, rfl⟩ (by trivial) (.lit (.int .i64 y)) .nil] at h
    injection h with h
    injection h with _ h
    exact Or.inl ⟨rfl, h.symm⟩
  rw [Maps.atKey_put_other (ne 3 c3)] at h
  cases h
set_option maxHeartbeats 3200000 in
set_option maxRecDepth 100000 in
theorem date_Print.calls (a0 : Int) (r : ByteArray) (w : World) (h : date_Print.f a0 = some r) (hGL : GlobD w) :
    Calls Tryz.prog 17 #[.int .i64 a0] w fun e w' => e = .returned (.string r) ∧ Below w.heap.size w w' := by
  obtain rfl := Option.some.inj h
  have HGL := Aside0.mk hGL
  clear h hGL
  by_cases c : 0 ≤ a0 ∧ a0 ≤ 73048
  case neg =>
    rw [if_neg c]
    have hs : date_Split.f a0 = some (0, 0, 0, 15) := by unfold date_Split.f splitV; rw [if_neg c]
    have HS := Aside0.mk hs
    clear hs c
    go_enter Tryz.func17, Tryz.ntmps17
    go_wp2_with (go_at_call 47; refine (date_Split.calls a0 0 0 0 15 _ HS.out HGL.out).mono ?_; rintro e w1 ⟨rfl, hb⟩; have HB := Aside0.mk hb; clear hb)
    go_ret
    exact ⟨rfl, HB.out⟩
  rw [if_pos c]
  have hr := split_rng c
  have hs : date_Split.f a0 = some (splitV a0) := rfl
  have hd31 : (splitV a0).2.2.1 ≤ 99 := split_day c
  generalize splitV a0 = q at hr hs hd31 ⊢
  obtain ⟨y, m, d, e⟩ := q
  obtain ⟨q1, q2, q3, q4, q5, q6⟩ := hr
  dsimp only at q1 q2 q3 q4 q5 q6 hd31 ⊢
  subst q6
  have HS := Aside0.mk hs
  have HRN := Aside0.mk (show 2000 ≤ y ∧ y ≤ 2199 ∧ 1 ≤ m ∧ m ≤ 12 ∧ 1 ≤ d ∧ d ≤ 99 from ⟨q1, q2, q3, q4, q5, hd31⟩)
  have hmm := @run_makeMap Tryz.prog
  have hcv := fun (W : World) (C : Array Value) => Lib.run_convert_bytes_const (P := Tryz.prog) W 96 5 C 10 10 Tryz.underlying96 Tryz.underlying5
  have HK3 := Aside0.mk (Maps.keyOf_int_mk (P := Tryz.prog) Tryz.underlying3 (a := 3) (by decide))
  have HK6 := Aside0.mk (Maps.keyOf_int_mk (P := Tryz.prog) Tryz.underlying3 (a := 6) (by decide))
  have HK9 := Aside0.mk (Maps.keyOf_int_mk (P := Tryz.prog) Tryz.underlying3 (a := 9) (by decide))
  have HWY := Aside0.mk (wf_of (n := y) (by omega) (by omega))
  have HWM := Aside0.mk (wf_of (n := m) (by omega) (by omega))
  have HWD := Aside0.mk (wf_of (n := d) (by omega) (by omega))
  clear q1 q2 q3 q4 q5 hd31 hs c
  go_enter Tryz.func17, Tryz.ntmps17
  go_wp2_with (first | (go_at_call 47; refine (date_Split.calls a0 y m d 0 _ HS.out HGL.out).mono ?_; rintro e w1 ⟨rfl, hb⟩; have HB := Aside0.mk hb; have HM0 := Aside0.mk (show ((w1.alloc (.cells #[.int .u8 48, .int .u8 48, .int .u8 48, .int .u8 48, .int .u8 45, .int .u8 48, .int .u8 48, .int .u8 45, .int .u8 48, .int .u8 48] 5 (10, 11))).alloc (.map #[] 0)).ownsMap Tryz.prog 3 (plainElem (H := Unit) Tryz.prog 3) (w1.heap.size + 1) 0 (.map []) by (have h_ := World.ownsMap_made (w1.alloc (.cells #[.int .u8 48, .int .u8 48, .int .u8 48, .int .u8 48, .int .u8 45, .int .u8 48, .int .u8 48, .int .u8 45, .int .u8 48, .int .u8 48] 5 (10, 11))) Tryz.prog 3 (plainElem (H := Unit) Tryz.prog 3); rwa [show (w1.alloc (.cells #[.int .u8 48, .int .u8 48, .int .u8 48, .int .u8 48, .int .u8 45, .int .u8 48, .int .u8 48, .int .u8 45, .int .u8 48, .int .u8 48] 5 (10, 11))).heap.size = w1.heap.size + 1 by simp] at h_)); clear hb) | (refine list_insert_own _ rfl _ _ _ 97 rfl 3 3 (Maps.int_keyed Tryz.underlying3) Tryz.underlying97 (plainElem (H := Unit) Tryz.prog 3) _ 2 _ rfl HM2.out (by unfold maxLen; omega) _ _ (.int .i64 9) rfl rfl HK9.out _ [] (plainElem_int Tryz.underlying3 HWD.out) ?_; intro w7 hM hg; have HM3 := Aside0.mk hM; have HG3 := Aside0.mk hg; clear hM hg) | (refine list_insert_own _ rfl _ _ _ 97 rfl 3 3 (Maps.int_keyed Tryz.underlying3) Tryz.underlying97 (plainElem (H := Unit) Tryz.prog 3) _ 1 _ rfl HM1.out (by unfold maxLen; omega) _ _ (.int .i64 6) rfl rfl HK6.out _ [] (plainElem_int Tryz.underlying3 HWM.out) ?_; intro w6 hM hg; have HM2 := Aside0.mk hM; have HG2 := Aside0.mk hg; clear hM hg) | (refine list_insert_own _ rfl _ _ _ 97 rfl 3 3 (Maps.int_keyed Tryz.underlying3) Tryz.underlying97 (plainElem (H := Unit) Tryz.prog 3) _ 0 _ rfl HM0.out (by unfold maxLen; omega) _ _ (.int .i64 3) rfl rfl HK3.out _ [] (plainElem_int Tryz.underlying3 HWY.out) ?_; intro w5 hM hg; have HM1 := Aside0.mk hM; have HG1 := Aside0.mk hg; clear hM hg) | (at_range; refine wpList_range_own _ rfl _ 97 rfl 3 3 (Maps.int_keyed Tryz.underlying3) Tryz.underlying97 _ _ _ _ rfl HM3.out ?_; intro w8 hrg0 hg0 hs0; have HR0 := Aside0.mk hrg0; have HG4 := Aside0.mk hg0; have HS0 := Aside0.mk hs0; clear hrg0 hg0 hs0) | go_in)
  have hbk : w8.heap[w1.heap.size]? = some (.cells (bytesV (dateC y m d true true true)) 5 (10, 11)) := by
    have h0 : (w1.alloc (.cells #[.int .u8 48, .int .u8 48, .int .u8 48, .int .u8 48, .int .u8 45, .int .u8 48, .int .u8 48, .int .u8 45, .int .u8 48, .int .u8 48] 5 (10, 11))).heap[w1.heap.size]? = some (.cells #[.int .u8 48, .int .u8 48, .int .u8 48, .int .u8 48, .int .u8 45, .int .u8 48, .int .u8 48, .int .u8 45, .int .u8 48, .int .u8 48] 5 (10, 11)) := by
      show (w1.heap.push _)[w1.heap.size]? = _
      simp
    have h1 := blk_alloc h0 (.map #[] 0)
    have s1 : w1.heap.size < ((w1.alloc (.cells #[.int .u8 48, .int .u8 48, .int .u8 48, .int .u8 48, .int .u8 45, .int .u8 48, .int .u8 48, .int .u8 45, .int .u8 48, .int .u8 48] 5 (10, 11))).alloc (.map #[] 0)).heap.size := by simp; omega
    have h2 := (HG1.out.block w1.heap.size s1 (by simp)).trans h1
    have s2 := Nat.lt_of_lt_of_le s1 HG1.out.size
    have h3 := (HG2.out.block w1.heap.size s2 (by simp)).trans h2
    have s3 := Nat.lt_of_lt_of_le s2 HG2.out.size
    have h4 := (HG3.out.block w1.heap.size s3 (by simp)).trans h3
    have s4 := Nat.lt_of_lt_of_le s3 HG3.out.size
    exact (HG4.out.block w1.heap.size s4 (by simp)).trans h4
  have hbl : Below w.heap.size w w8 := by
    have b0 := below_alloc (below_alloc HB.out (.cells #[.int .u8 48, .int .u8 48, .int .u8 48, .int .u8 48, .int .u8 45, .int .u8 48, .int .u8 48, .int .u8 45, .int .u8 48, .int .u8 48] 5 (10, 11))) (.map #[] 0)
    have b1 := b0.grown HG1.out b0.size (fun j hj => by cases hj; have := HB.out.size; omega)
    have b2 := b1.grown HG2.out b1.size (fun j hj => by cases hj; have := HB.out.size; omega)
    have b3 := b2.grown HG3.out b2.size (fun j hj => by cases hj; have := HB.out.size; omega)
    exact b3.grown HG4.out b3.size (fun j hj => by cases hj)
  have HBK0 := Aside0.mk hbk
  have HBL0 := Aside0.mk hbl
  clear hbk hbl
  go_frame
  go_loopw [8] (fun _ wr => ∃ (left : Lit → Bool) (cnt : Nat), Aside0 (wr.ranges Tryz.prog 3 (plainElem (H := Unit) Tryz.prog 3) (w1.heap.size + 1) w7.heap.size 3 ((((.map [] : DataW Unit).put (.int .i64 3) (.lit (.int .i64 y))).put (.int .i64 6) (.lit (.int .i64 m))).put (.int .i64 9) (.lit (.int .i64 d))) left cnt) ∧ Aside0 (wr.heap[w1.heap.size]? = some (.cells (bytesV (dateC y m d (left (.int .i64 3)) (left (.int .i64 6)) (left (.int .i64 9)))) 5 (10, 11))) ∧ Aside0 (Below w.heap.size w wr)) (fun _ wr => wr.rangeLeft (w1.heap.size + 1) w7.heap.size)
  case atStart => exact ⟨_, _, HR0, HBK0, HBL0⟩
  case round =>
    obtain ⟨left, cnt, HR, HBK, HBL⟩ := hrel
    go_wp2_with (first | (at_next; refine wpList_next_ranges_ii _ rfl _ rfl 3 3 .i64 .i64 (Maps.int_keyed Tryz.underlying3) Tryz.underlying3 Tryz.underlying3 (w1.heap.size + 1) w7.heap.size 3 _ _ _ rfl HR.out ?_ ?_) | go_in)
    · intro hc0 hl0
      have hbk := HBK.out
      rw [hl0, hl0, hl0] at hbk
      have hcs : (convert 96 9 (.slice (some ⟨w1.heap.size, 0, none⟩) 10 10)).run Tryz.prog wr = .ok (.string (strOfNums (dateC y m d false false false))) wr := by
        refine run_convert_bytes_arg wr 96 5 Tryz.underlying96 Tryz.underlying5 w1.heap.size 0 10 10 (dateC y m d false false false) rfl (fun i hi => ?_) 9 Tryz.underlying9
        rw [Nat.zero_add, blk_cellF hbk i]
        exact bytesV_at (by simpa [dateC] using hi)
      clear hl0 hc0 hbk
      go_wp2_with fail
      go_ret
      exact ⟨rfl, HBL.out⟩
    · intro x c w9 cnt1 hwx hwc hlx hat hrg1 hlt hg1 hs1 hen
      have hkc := key_cases hat
      have hlt7 : w1.heap.size < w7.heap.size := by
        have s1 : w1.heap.size < ((w1.alloc (.cells #[.int .u8 48, .int .u8 48, .int .u8 48, .int .u8 48, .int .u8 45, .int .u8 48, .int .u8 48, .int .u8 45, .int .u8 48, .int .u8 48] 5 (10, 11))).alloc (.map #[] 0)).heap.size := by simp; omega
        have := HG1.out.size; have := HG2.out.size; have := HG3.out.size
        omega
      have HKC := Aside0.mk hkc
      have HLX := Aside0.mk hlx
      have HRG := Aside0.mk hrg1
      have HLT := Aside0.mk hlt
      have HLT7 := Aside0.mk hlt7
      have HBK9 := Aside0.mk (blk_grown HBK.out hg1 (fun e => by injection e with e; omega))
      have HBL9 := Aside0.mk (HBL.out.grown hg1 HBL.out.size (fun j hj => by cases hj; have := HB.out.size; omega))
      clear hkc hat hlx hlt hrg1 hlt7 hg1 hs1 hwx hwc
      go_wp2_with fail
      obtain ⟨T, hT⟩ : ∃ T, fillD 5 (dateC y m d (left (.int .i64 3)) (left (.int .i64 6)) (left (.int .i64 9))) x c = T := ⟨_, rfl⟩
      have HT := Aside0.mk hT
      clear hT
      go_loopg [8, 9] 5 (fun kq v8 v9 wr2 => ∃ (k n : Int) (xs : List Int), v8 = .int .i64 k ∧ v9 = .int .i64 n ∧ Aside0 (xs.length = 10 ∧ -1 ≤ k ∧ k ≤ 9 ∧ 0 ≤ n ∧ n < 10 ^ kq ∧ n < 10 ^ (k + 1).toNat) ∧ Aside0 (fillD kq xs k n = T) ∧ Aside0 (wr2.heap[w1.heap.size]? = some (.cells (bytesV xs) 5 (10, 11))) ∧ Aside0 (w9.grownBy wr2 (some w1.heap.size)) ∧ Aside0 (Below w.heap.size w wr2))
      case atStart =>
        refine ⟨x, c, _, rfl, rfl, ⟨?_⟩, HT, HBK9, ⟨World.grownBy.refl _ _⟩, HBL9⟩
        have hr := HRN.out
        refine ⟨rfl, ?_⟩
        rcases HKC.out with ⟨rfl, rfl⟩ | ⟨rfl, rfl⟩ | ⟨rfl, rfl⟩
        · exact ⟨by omega, by omega, by omega, by omega, show c < 10 ^ 4 by omega⟩
        · exact ⟨by omega, by omega, by omega, by omega, show c < 10 ^ 7 by omega⟩
        · exact ⟨by omega, by omega, by omega, by omega, show c < 10 ^ 10 by omega⟩
      case round =>
        obtain ⟨k, n, xs, rfl, rfl, HI, HF, HBX, HGX, HBB⟩ := hrel
        by_cases hn : 0 < n
        · cases gk with
          | zero => exact absurd HI.out (by intro h; have h5 := h.2.2.2.2.1; simp at h5; omega)
          | succ f =>
            obtain ⟨i1, i2, i3, i4, i5, i6⟩ := HI.out
            have hk0 : 0 ≤ k := by
              by_cases c : 0 ≤ k
              · exact c
              · rw [show (k + 1).toNat = 0 by omega] at i6
                simp at i6
                omega
            obtain ⟨p, rfl⟩ : ∃ p : Nat, k = (p : Int) := ⟨k.toNat, by omega⟩
            rw [show ((p : Int) + 1).toNat = p + 1 by omega] at i6
            have hp9 : p < 10 := by omega
            have hbn := Int.lt_of_lt_of_le i6 (pow10_le p hp9)
            have HP := Aside0.mk (show xs.length = 10 ∧ p < 10 ∧ 0 ≤ n ∧ n < 10 ^ (f + 1) ∧ n < 10 ^ (p + 1) from ⟨i1, hp9, i4, i5, i6⟩)
            have hf : wr.frozen? ⟨w1.heap.size, p, none⟩ = false := blk_frozenF HBX.out (by omega)
            have hk1 : (p : Int) < 10 := by omega
            have hm : Int.tmod n 10 = n % 10 := Int.tmod_eq_emod_of_nonneg i4
            have hq : Int.tdiv n 10 = n / 10 := Int.tdiv_eq_ediv_of_nonneg i4
            have hw1 : wrap64 (n % 10) = n % 10 := by unfold wrap64; omega
            have hw2 : wrap64 (48 + n % 10) = 48 + n % 10 := by unfold wrap64; omega
            have hw3 : wrap64 (n / 10) = n / 10 := by unfold wrap64; omega
            have hw4 : wrap64 ((p : Int) - 1) = (p : Int) - 1 := by unfold wrap64; omega
            have hw8 : IntKind.u8.wrap (48 + n % 10) = 48 + n % 10 := by
              simp only [IntKind.wrap, IntKind.bits, IntKind.signed, Bool.false_and, Bool.false_eq_true, if_false]
              omega
            have hc0 : wr.cell? ⟨w1.heap.size, p, none⟩ = some (.int .u8 (xs.getD p 0)) := by
              rw [blk_cellF HBX.out p]
              exact bytesV_at (by omega)
            have HR2 := Aside0.mk (blk_setF HBX.out p (48 + n % 10))
            clear i1 i2 i3 i4 i5 i6 hbn
            go_wp2_with fail
            go_roundg f
            case measure => omega
            case rel =>
              obtain ⟨i1, i2, i3, i4, i5⟩ := HP.out
              refine ⟨(p : Int) - 1, n / 10, xs.set p (48 + n % 10), by first | rfl | rw [hw4], by first | rfl | rw [hw3], ⟨?_⟩, ⟨?_⟩, HR2, ⟨HGX.out.trans (grownBy_setCellF _ _ _ _)⟩, ⟨Below.setCell HBB.out (p := ⟨w1.heap.size, p, none⟩) HB.out.size _⟩⟩
              · refine ⟨by simpa using i1, by omega, by omega, by omega, ?_, ?_⟩
                · rw [Int.pow_succ] at i4
                  generalize (10 : Int) ^ f = z at i4 ⊢
                  omega
                · rw [show ((p : Int) - 1 + 1).toNat = p by omega]
                  rw [Int.pow_succ] at i5
                  generalize (10 : Int) ^ p = z at i5 ⊢
                  omega
              · have h2 := HF.out
                unfold fillD at h2
                rw [if_pos hn, Int.toNat_natCast] at h2
                exact h2
        · have hx : xs = T := by
            have h2 := HF.out
            cases gk with
            | zero => exact h2
            | succ f => unfold fillD at h2; rw [if_neg hn] at h2; exact h2
          have HX := Aside0.mk hx
          clear hx
          go_wp2_with fail
          have hrg2 := HRG.out.kept HGX.out (fun e => by have := Option.some.inj e; omega) (fun e => by have := Option.some.inj e; have := HLT7.out; omega)
          go_roundw
          case measure => rw [hrg2.left_eq, HR.out.left_eq]; exact HLT.out
          case rel =>
            refine ⟨_, cnt1, ⟨hrg2⟩, ⟨?_⟩, HBB⟩
            rw [HBX.out, HX.out, ← HT.out]
            have hr := HRN.out
            have hlx := HLX.out
            rcases HKC.out with ⟨rfl, rfl⟩ | ⟨rfl, rfl⟩ | ⟨rfl, rfl⟩
            · rw [hlx, fill_y (by omega) (by omega)]
              simp [Lit.sameKey]
            · rw [hlx, fill_m (by omega) (by omega)]
              simp [Lit.sameKey]
            · rw [hlx, fill_d (by omega) (by omega)]
              simp [Lit.sameKey]
def fstP (name : ByteArray) : List S50 → S50 × Bool
  | [] => (z50, false)
  | p :: r => if p.f0.toList = name.toList then (p, true) else fstP name r
def vP (p : S50) : Array Value := #[.string p.f0, .int .i64 p.f1, .int .i64 p.f2, .int .i64 p.f3, .int .i64 p.f4, .int .i64 p.f5, .bool p.f6]
set_option maxHeartbeats 1600000 in
set_option maxRecDepth 100000 in
theorem findP_lit (m : S50) (s : ByteArray) (g : Nat) (w : World) (hg : w.heap[g]? = some (.cells #[.string s] 9 (0, 0))) :
    Calls Tryz.prog 42 #[.agg #[.string m.f0, .int .i64 m.f1, .int .i64 m.f2, .int .i64 m.f3, .int .i64 m.f4, .int .i64 m.f5, .bool m.f6], .pointer (some ⟨g, 0, none⟩)] w fun e w' => e = .returned (.bool (m.f0.toList == s.toList)) ∧ Below w.heap.size w w' := by
  have hc0 : ∀ o, (w.alloc o).cell? ⟨g, 0, none⟩ = some (.string s) := fun o => blk_cell (blk_alloc hg o) 0
  go_enter Tryz.func42, Tryz.ntmps42
  go_wp2
  go_ret
  exact ⟨eqs, (Below.refl _ _).alloc (Nat.le_refl _) _⟩
set_option maxHeartbeats 1600000 in
set_option maxRecDepth 100000 in
theorem firstP_calls (A : Option Addr) (c : Nat) (l : List S50) (s : ByteArray) (g : Nat) (w : World) (hr : Kd.C k50 w A l.length l) (hg : w.heap[g]? = some (.cells #[.string s] 9 (0, 0))) :
    Calls Tryz.prog 41 #[.slice A l.length c, .func (.func 42) #[] #[.pointer (some ⟨g, 0, none⟩)]] w fun e w' => e = .returned (.tuple #[.agg (vP (fstP s l).1), .bool (fstP s l).2]) ∧ Below w.heap.size w w' := by
  have HR := Aside0.mk hr
  have HG := Aside0.mk hg
  have hlen := (show l.length ≤ 9223372036854775807 from Kd.C_max hr)
  clear hr hg
  go_enter Tryz.func41, Tryz.ntmps41
  go_wp2_with fail
  go_loopg [11] l.length (fun kq v11 wr => ∃ i : Nat, v11 = .int .i64 (i : Int) ∧ Aside0 (kq + i = l.length) ∧ Aside0 (fstP s (l.drop i) = fstP s l) ∧ Aside0 (wr.heap[w.heap.size]? = some (.cells (vP z50) 50 (0, 0))) ∧ Aside0 (Below w.heap.size w wr))
  case atStart => exact ⟨0, rfl, ⟨by omega⟩, ⟨rfl⟩, ⟨blk_new _ _⟩, ⟨below_alloc (Below.refl _ _) _⟩⟩
  case round =>
    obtain ⟨i, rfl, HK, HF, HL, HB2⟩ := hrel
    by_cases hlt : i < l.length
    · have hti : rd_T50 l (i : Int) = l[i] := by simp [rd_T50, hlt]
      obtain ⟨ad, ea, hx0, hx1, hx2, hx3, hx4, hx5, hx6⟩ := at_T50 HR.out (i : Int) (by omega) (by omega)
      cases ea
      rw [Int.toNat_natCast] at hx0 hx1 hx2 hx3 hx4 hx5 hx6
      replace hx0 := (HB2.out.cell (World.block_lt_of_cell? w _ hx0)).trans hx0
      replace hx1 := (HB2.out.cell (World.block_lt_of_cell? w _ hx1)).trans hx1
      replace hx2 := (HB2.out.cell (World.block_lt_of_cell? w _ hx2)).trans hx2
      replace hx3 := (HB2.out.cell (World.block_lt_of_cell? w _ hx3)).trans hx3
      replace hx4 := (HB2.out.cell (World.block_lt_of_cell? w _ hx4)).trans hx4
      replace hx5 := (HB2.out.cell (World.block_lt_of_cell? w _ hx5)).trans hx5
      replace hx6 := (HB2.out.cell (World.block_lt_of_cell? w _ hx6)).trans hx6
      rw [hti] at hx0 hx1 hx2 hx3 hx4 hx5 hx6
      have hf := HF.out
      rw [(List.getElem_cons_drop hlt).symm, fstP] at hf
      generalize l[i] = t at hx0 hx1 hx2 hx3 hx4 hx5 hx6 hf
      clear hti HF
      by_cases hb : t.f0.toList = s.toList
      · rw [if_pos hb] at hf
        have HBB := Aside0.mk (beq_iff_eq.2 hb)
        have HF := Aside0.mk hf
        clear hb hf
        go_wp2_with (go_at_call 42; refine (findP_lit t s g _ (blk_below (blk_below HG.out HB2.out) (below_alloc (Below.refl _ _) _))).mono ?_; rw [HBB.out]; rintro e1 w1 ⟨rfl, hb1⟩; have HB3 := Aside0.mk (below_step (below_alloc HB2.out _) hb1); have HT := blk_below (blk_new wr (.cells #[.string t.f0, .int .i64 t.f1, .int .i64 t.f2, .int .i64 t.f3, .int .i64 t.f4, .int .i64 t.f5, .bool t.f6] 50)) hb1; have HL3 := blk_below (blk_alloc HL.out (.cells #[.string t.f0, .int .i64 t.f1, .int .i64 t.f2, .int .i64 t.f3, .int .i64 t.f4, .int .i64 t.f5, .bool t.f6] 50)) hb1; have hz0 : w1.cell? ⟨wr.heap.size, 0, none⟩ = some (.string t.f0) := blk_cell HT 0; have hz1 : w1.cell? ⟨wr.heap.size, 1, none⟩ = some (.int .i64 t.f1) := blk_cell HT 1; have hz2 : w1.cell? ⟨wr.heap.size, 2, none⟩ = some (.int .i64 t.f2) := blk_cell HT 2; have hz3 : w1.cell? ⟨wr.heap.size, 3, none⟩ = some (.int .i64 t.f3) := blk_cell HT 3; have hz4 : w1.cell? ⟨wr.heap.size, 4, none⟩ = some (.int .i64 t.f4) := blk_cell HT 4; have hz5 : w1.cell? ⟨wr.heap.size, 5, none⟩ = some (.int .i64 t.f5) := blk_cell HT 5; have hz6 : w1.cell? ⟨wr.heap.size, 6, none⟩ = some (.bool t.f6) := blk_cell HT 6; have hfc0 : w1.cell? ⟨w.heap.size, 0, none⟩ = some (.string z50.f0) := blk_cell HL3 0; have hfc1 : w1.cell? ⟨w.heap.size, 1, none⟩ = some (.int .i64 z50.f1) := blk_cell HL3 1; have hfc2 : w1.cell? ⟨w.heap.size, 2, none⟩ = some (.int .i64 z50.f2) := blk_cell HL3 2; have hfc3 : w1.cell? ⟨w.heap.size, 3, none⟩ = some (.int .i64 z50.f3) := blk_cell HL3 3; have hfc4 : w1.cell? ⟨w.heap.size, 4, none⟩ = some (.int .i64 z50.f4) := blk_cell HL3 4; have hfc5 : w1.cell? ⟨w.heap.size, 5, none⟩ = some (.int .i64 z50.f5) := blk_cell HL3 5; have hfc6 : w1.cell? ⟨w.heap.size, 6, none⟩ = some (.bool z50.f6) := blk_cell HL3 6; have hf0 : w1.frozen? ⟨w.heap.size, 0, none⟩ = false := blk_frozen HL3 0; have hf1 : w1.frozen? ⟨w.heap.size, 1, none⟩ = false := blk_frozen HL3 1; have hf2 : w1.frozen? ⟨w.heap.size, 2, none⟩ = false := blk_frozen HL3 2; have hf3 : w1.frozen? ⟨w.heap.size, 3, none⟩ = false := blk_frozen HL3 3; have hf4 : w1.frozen? ⟨w.heap.size, 4, none⟩ = false := blk_frozen HL3 4; have hf5 : w1.frozen? ⟨w.heap.size, 5, none⟩ = false := blk_frozen HL3 5; have hf6 : w1.frozen? ⟨w.heap.size, 6, none⟩ = false := blk_frozen HL3 6; have HL4 := Aside0.mk HL3; clear hb1 HT HL3)
        refine bodyPost_ret (results_ct rfl _ _ w.heap.size 50 (vP t) (0, 0) _ rfl (blk_set (blk_set (blk_set (blk_set (blk_set (blk_set (blk_set (HL4.out) 0 _) 1 _) 2 _) 3 _) 4 _) 5 _) 6 _) Tryz.underlying50 rfl (by kernel_rfl)) rfl ⟨?_, ?_⟩
        · rw [← HF.out]; rfl
        · exact (Below.setCell (Below.setCell (Below.setCell (Below.setCell (Below.setCell (Below.setCell (Below.setCell HB3.out (p := ⟨w.heap.size, 0, none⟩) (by first | exact Nat.le_refl _ | exact Nat.le_succ _) _) (p := ⟨w.heap.size, 1, none⟩) (by first | exact Nat.le_refl _ | exact Nat.le_succ _) _) (p := ⟨w.heap.size, 2, none⟩) (by first | exact Nat.le_refl _ | exact Nat.le_succ _) _) (p := ⟨w.heap.size, 3, none⟩) (by first | exact Nat.le_refl _ | exact Nat.le_succ _) _) (p := ⟨w.heap.size, 4, none⟩) (by first | exact Nat.le_refl _ | exact Nat.le_succ _) _) (p := ⟨w.heap.size, 5, none⟩) (by first | exact Nat.le_refl _ | exact Nat.le_succ _) _) (p := ⟨w.heap.size, 6, none⟩) (by first | exact Nat.le_refl _ | exact Nat.le_succ _) _)
      · rw [if_neg hb] at hf
        have HBB := Aside0.mk (beq_eq_false_iff_ne.2 hb)
        have HF := Aside0.mk hf
        clear hb hf
        go_wp2_with (go_at_call 42; refine (findP_lit t s g _ (blk_below (blk_below HG.out HB2.out) (below_alloc (Below.refl _ _) _))).mono ?_; rw [HBB.out]; rintro e1 w1 ⟨rfl, hb1⟩; have HB3 := Aside0.mk (below_step (below_alloc HB2.out _) hb1); have HL4 := Aside0.mk (blk_below (blk_alloc HL.out (.cells #[.string t.f0, .int .i64 t.f1, .int .i64 t.f2, .int .i64 t.f3, .int .i64 t.f4, .int .i64 t.f5, .bool t.f6] 50)) hb1); clear hb1)
        go_roundg (gk - 1)
        case measure => have := HK.out; omega
        case rel => exact ⟨i + 1, by go_num, ⟨by have := HK.out; omega⟩, HF, HL4, HB3⟩
    · have hf := HF.out
      rw [List.drop_of_length_le (by omega), fstP] at hf
      have HF := Aside0.mk hf
      have HLL := HL.out
      have hfc0 : ∀ o, (wr.alloc o).cell? ⟨w.heap.size, 0, none⟩ = some (.string z50.f0) := fun o => blk_cell (blk_alloc HLL o) 0
      have hfc1 : ∀ o, (wr.alloc o).cell? ⟨w.heap.size, 1, none⟩ = some (.int .i64 z50.f1) := fun o => blk_cell (blk_alloc HLL o) 1
      have hfc2 : ∀ o, (wr.alloc o).cell? ⟨w.heap.size, 2, none⟩ = some (.int .i64 z50.f2) := fun o => blk_cell (blk_alloc HLL o) 2
      have hfc3 : ∀ o, (wr.alloc o).cell? ⟨w.heap.size, 3, none⟩ = some (.int .i64 z50.f3) := fun o => blk_cell (blk_alloc HLL o) 3
      have hfc4 : ∀ o, (wr.alloc o).cell? ⟨w.heap.size, 4, none⟩ = some (.int .i64 z50.f4) := fun o => blk_cell (blk_alloc HLL o) 4
      have hfc5 : ∀ o, (wr.alloc o).cell? ⟨w.heap.size, 5, none⟩ = some (.int .i64 z50.f5) := fun o => blk_cell (blk_alloc HLL o) 5
      have hfc6 : ∀ o, (wr.alloc o).cell? ⟨w.heap.size, 6, none⟩ = some (.bool z50.f6) := fun o => blk_cell (blk_alloc HLL o) 6
      have hf0 : ∀ o, (wr.alloc o).frozen? ⟨w.heap.size, 0, none⟩ = false := fun o => blk_frozen (blk_alloc HLL o) 0
      have hf1 : ∀ o, (wr.alloc o).frozen? ⟨w.heap.size, 1, none⟩ = false := fun o => blk_frozen (blk_alloc HLL o) 1
      have hf2 : ∀ o, (wr.alloc o).frozen? ⟨w.heap.size, 2, none⟩ = false := fun o => blk_frozen (blk_alloc HLL o) 2
      have hf3 : ∀ o, (wr.alloc o).frozen? ⟨w.heap.size, 3, none⟩ = false := fun o => blk_frozen (blk_alloc HLL o) 3
      have hf4 : ∀ o, (wr.alloc o).frozen? ⟨w.heap.size, 4, none⟩ = false := fun o => blk_frozen (blk_alloc HLL o) 4
      have hf5 : ∀ o, (wr.alloc o).frozen? ⟨w.heap.size, 5, none⟩ = false := fun o => blk_frozen (blk_alloc HLL o) 5
      have hf6 : ∀ o, (wr.alloc o).frozen? ⟨w.heap.size, 6, none⟩ = false := fun o => blk_frozen (blk_alloc HLL o) 6
      clear hf HLL
      go_wp2_with fail
      refine bodyPost_ret (results_ct rfl _ _ w.heap.size 50 (vP z50) (0, 0) _ rfl (blk_set (blk_set (blk_set (blk_set (blk_set (blk_set (blk_set (blk_alloc HL.out _) 0 _) 1 _) 2 _) 3 _) 4 _) 5 _) 6 _) Tryz.underlying50 rfl (by kernel_rfl)) rfl ⟨?_, ?_⟩
      · rw [← HF.out]; rfl
      · exact (Below.setCell (Below.setCell (Below.setCell (Below.setCell (Below.setCell (Below.setCell (Below.setCell (below_alloc HB2.out _) (p := ⟨w.heap.size, 0, none⟩) (by first | exact Nat.le_refl _ | exact Nat.le_succ _) _) (p := ⟨w.heap.size, 1, none⟩) (by first | exact Nat.le_refl _ | exact Nat.le_succ _) _) (p := ⟨w.heap.size, 2, none⟩) (by first | exact Nat.le_refl _ | exact Nat.le_succ _) _) (p := ⟨w.heap.size, 3, none⟩) (by first | exact Nat.le_refl _ | exact Nat.le_succ _) _) (p := ⟨w.heap.size, 4, none⟩) (by first | exact Nat.le_refl _ | exact Nat.le_succ _) _) (p := ⟨w.heap.size, 5, none⟩) (by first | exact Nat.le_refl _ | exact Nat.le_succ _) _) (p := ⟨w.heap.size, 6, none⟩) (by first | exact Nat.le_refl _ | exact Nat.le_succ _) _)
def product_Find.f (l : List S50) (s : ByteArray) : Option (ByteArray × Int × Int × Int × Int × Int × Bool × Bool) := some ((fstP s l).1.f0, (fstP s l).1.f1, (fstP s l).1.f2, (fstP s l).1.f3, (fstP s l).1.f4, (fstP s l).1.f5, (fstP s l).1.f6, (fstP s l).2)
set_option maxHeartbeats 1600000 in
set_option maxRecDepth 100000 in
theorem product_Find.calls (A0 : Option Addr) (c0 : Nat) (l0 : List S50) (a1 : ByteArray) (r1 : ByteArray) (r2 r3 r4 r5 r6 : Int) (r7 r8 : Bool) (w : World) (hr0 : Kd.C k50 w A0 l0.length l0) (hc0 : l0.length ≤ c0) (h : product_Find.f l0 a1 = some (r1, r2, r3, r4, r5, r6, r7, r8)) :
    Calls Tryz.prog 13 #[.slice A0 l0.length c0, .string a1] w fun e w' => e = .returned (.tuple #[.agg #[.string r1, .int .i64 r2, .int .i64 r3, .int .i64 r4, .int .i64 r5, .int .i64 r6, .bool r7], .bool r8]) ∧ Below w.heap.size w w' := by
  unfold product_Find.f at h
  simp only [Option.some.injEq, Prod.mk.injEq] at h
  obtain ⟨rfl, rfl, rfl, rfl, rfl, rfl, rfl, rfl⟩ := h
  have HR := Aside0.mk hr0
  have HBA := Aside0.mk (below_alloc (below_alloc (Below.refl w.heap.size w) (.cells #[.string a1] 9)) (.cells #[.string (⟨#[]⟩ : ByteArray), .int .i64 0, .int .i64 0, .int .i64 0, .int .i64 0, .int .i64 0, .bool false] 50))
  have hsz : ∀ o, (w.alloc o).heap.size = w.heap.size + 1 := fun o => by simp
  have HZ := Aside0.mk (show ((w.alloc (.cells #[.string a1] 9)).alloc (.cells #[.string (⟨#[]⟩ : ByteArray), .int .i64 0, .int .i64 0, .int .i64 0, .int .i64 0, .int .i64 0, .bool false] 50)).heap[w.heap.size + 1]? = some (.cells #[.string (⟨#[]⟩ : ByteArray), .int .i64 0, .int .i64 0, .int .i64 0, .int .i64 0, .int .i64 0, .bool false] 50 (0, 0)) by rw [← hsz (.cells #[.string a1] 9)]; exact blk_new _ _)
  clear hsz
  generalize hp : fstP a1 l0 = p
  have HP := Aside0.mk hp
  clear hr0 hp
  go_enter Tryz.func13, Tryz.ntmps13
  go_wp2_with (go_at_call 41; refine (firstP_calls _ _ l0 a1 w.heap.size _ (Kd.C_alloc (Kd.C_alloc HR.out _) _) (blk_alloc (blk_new w _) _)).mono ?_; rw [HP.out, vP]; rintro e1 w1 ⟨rfl, hb1⟩; have HB3 := Aside0.mk (below_step HBA.out hb1); have HT := blk_below HZ.out hb1; have hfc0 : w1.cell? ⟨w.heap.size + 1, 0, none⟩ = some (.string z50.f0) := blk_cell HT 0; have hfc1 : w1.cell? ⟨w.heap.size + 1, 1, none⟩ = some (.int .i64 z50.f1) := blk_cell HT 1; have hfc2 : w1.cell? ⟨w.heap.size + 1, 2, none⟩ = some (.int .i64 z50.f2) := blk_cell HT 2; have hfc3 : w1.cell? ⟨w.heap.size + 1, 3, none⟩ = some (.int .i64 z50.f3) := blk_cell HT 3; have hfc4 : w1.cell? ⟨w.heap.size + 1, 4, none⟩ = some (.int .i64 z50.f4) := blk_cell HT 4; have hfc5 : w1.cell? ⟨w.heap.size + 1, 5, none⟩ = some (.int .i64 z50.f5) := blk_cell HT 5; have hfc6 : w1.cell? ⟨w.heap.size + 1, 6, none⟩ = some (.bool z50.f6) := blk_cell HT 6; have hf0 : w1.frozen? ⟨w.heap.size + 1, 0, none⟩ = false := blk_frozen HT 0; have hf1 : w1.frozen? ⟨w.heap.size + 1, 1, none⟩ = false := blk_frozen HT 1; have hf2 : w1.frozen? ⟨w.heap.size + 1, 2, none⟩ = false := blk_frozen HT 2; have hf3 : w1.frozen? ⟨w.heap.size + 1, 3, none⟩ = false := blk_frozen HT 3; have hf4 : w1.frozen? ⟨w.heap.size + 1, 4, none⟩ = false := blk_frozen HT 4; have hf5 : w1.frozen? ⟨w.heap.size + 1, 5, none⟩ = false := blk_frozen HT 5; have hf6 : w1.frozen? ⟨w.heap.size + 1, 6, none⟩ = false := blk_frozen HT 6; have HT4 := Aside0.mk HT; clear hb1 HT)
  refine bodyPost_ret (results_ct rfl _ _ (w.heap.size + 1) 50 (vP p.1) (0, 0) _ rfl (blk_set (blk_set (blk_set (blk_set (blk_set (blk_set (blk_set (HT4.out) 0 _) 1 _) 2 _) 3 _) 4 _) 5 _) 6 _) Tryz.underlying50 rfl (by kernel_rfl)) rfl ⟨rfl, ?_⟩
  exact (Below.setCell (Below.setCell (Below.setCell (Below.setCell (Below.setCell (Below.setCell (Below.setCell HB3.out (p := ⟨w.heap.size + 1, 0, none⟩) (by first | exact Nat.le_refl _ | exact Nat.le_succ _) _) (p := ⟨w.heap.size + 1, 1, none⟩) (by first | exact Nat.le_refl _ | exact Nat.le_succ _) _) (p := ⟨w.heap.size + 1, 2, none⟩) (by first | exact Nat.le_refl _ | exact Nat.le_succ _) _) (p := ⟨w.heap.size + 1, 3, none⟩) (by first | exact Nat.le_refl _ | exact Nat.le_succ _) _) (p := ⟨w.heap.size + 1, 4, none⟩) (by first | exact Nat.le_refl _ | exact Nat.le_succ _) _) (p := ⟨w.heap.size + 1, 5, none⟩) (by first | exact Nat.le_refl _ | exact Nat.le_succ _) _) (p := ⟨w.heap.size + 1, 6, none⟩) (by first | exact Nat.le_refl _ | exact Nat.le_succ _) _)
def product_within.f (a0 : Int) (a1 : Int) : Option (Bool) := if a0 ≥ (wrap64 (-a1)) then (some (decide (a0 ≤ a1))) else (some false)
set_option maxHeartbeats 8000000 in
set_option maxRecDepth 100000 in
theorem product_within.calls (a0 : Int) (a1 : Int) (r : Bool) (w : World) (h : product_within.f a0 a1 = some r) :
    Calls Tryz.prog 77 #[.int .i64 a0, .int .i64 a1] w fun e w' => e = .returned (.bool r) ∧ Drawn0 w w' := by
  have H : (if a0 ≥ (wrap64 (-a1)) then (some (decide (a0 ≤ a1))) else (some false)) = some r := h
  clear h
  by_cases c3 : a0 ≥ (wrap64 (-a1))
  · rw [if_pos c3] at H
    have c3b0 : decide ((wrap64 (-a1)) ≤ a0) = true := decide_eq_true c3
    clear c3
    obtain rfl := Option.some.inj H
    go_enter Tryz.func77, Tryz.ntmps77
    go_wp2
    go_ret
    exact ⟨eqs, drz⟩
  · rw [if_neg c3] at H
    have c3b0 : decide ((wrap64 (-a1)) ≤ a0) = false := decide_eq_false c3
    clear c3
    obtain rfl := Option.some.inj H
    go_enter Tryz.func77, Tryz.ntmps77
    go_wp2
    go_ret
    exact ⟨eqs, drz⟩
theorem eqA50 (d : Nat) (w : World) (x0 y0 : ByteArray) (x1 y1 : Int) (x2 y2 : Int) (x3 y3 : Int) (x4 y4 : Int) (x5 y5 : Int) (x6 y6 : Bool) :
    (Op.equalIn (d + 2) 50 (.agg #[.string x0, .int .i64 x1, .int .i64 x2, .int .i64 x3, .int .i64 x4, .int .i64 x5, .bool x6]) (.agg #[.string y0, .int .i64 y1, .int .i64 y2, .int .i64 y3, .int .i64 y4, .int .i64 y5, .bool y6])).run Tryz.prog w = .ok (x0.toList == y0.toList && (x1 == y1 && (x2 == y2 && (x3 == y3 && (x4 == y4 && (x5 == y5 && (x6 == y6))))))) w := by
  refine eqA_of Tryz.underlying50 (by kernel_rfl) ?_
  refine eqf_cons (by rfl) (by go_simp; rfl) (by go_simp; rfl) (by go_simp) ?_
  refine eqf_cons (by rfl) (by go_simp; rfl) (by go_simp; rfl) (by go_simp) ?_
  refine eqf_cons (by rfl) (by go_simp; rfl) (by go_simp; rfl) (by go_simp) ?_
  refine eqf_cons (by rfl) (by go_simp; rfl) (by go_simp; rfl) (by go_simp) ?_
  refine eqf_cons (by rfl) (by go_simp; rfl) (by go_simp; rfl) (by go_simp) ?_
  refine eqf_cons (by rfl) (by go_simp; rfl) (by go_simp; rfl) (by go_simp) ?_
  exact eqf_last (by rfl) (by go_simp; rfl) (by go_simp; rfl) (by go_simp)
end Go.Proofs.YtliooghmpkdmoaaGreatDoor.X
end
section
namespace Go.Proofs.YtliooghmpkdmoaaGreatDoor.X
open Go.RowKit Go.Proofs.YtliooghmpkdmoaaGreatDoorW.PrintWords Go.Proofs.YtliooghmpkdmoaaGreatDoorW.PrintLast Go.Proofs.YtliooghmpkdmoaaGreatDoorW.PrintMore
attribute [local go_sem] max2_int min2_int max_two min_two max_three min_three max_four min_four
set_option linter.unusedVariables false
set_option linter.unusedSimpArgs false
attribute [local go_sem high] eqA50
mutual
def product_Check.j0 : Nat → Bool → ByteArray → Int → Int → Int → Int → Int → Bool → Option (Int)
  | 0, _, _, _, _, _, _, _, _ => none
  | k + 1, x3, x102000, x102001, x102002, x102003, x102004, x102005, x102006 => if x3 = true then (some 10) else (if x102001 < 0 then (product_Check.j1 k true x102000 x102001 x102002 x102003 x102004 x102005 x102006) else (product_Check.j1 k (decide (x102001 ≥ 8)) x102000 x102001 x102002 x102003 x102004 x102005 x102006))
def product_Check.j1 : Nat → Bool → ByteArray → Int → Int → Int → Int → Int → Bool → Option (Int)
  | 0, _, _, _, _, _, _, _, _ => none
  | k + 1, x13, x102000, x102001, x102002, x102003, x102004, x102005, x102006 => if x13 = true then (some 25) else (if x102002 < 1 then (product_Check.j2 k true x102000 x102001 x102002 x102003 x102004 x102005 x102006) else (product_Check.j2 k (decide (x102002 > 4096)) x102000 x102001 x102002 x102003 x102004 x102005 x102006))
def product_Check.j2 : Nat → Bool → ByteArray → Int → Int → Int → Int → Int → Bool → Option (Int)
  | 0, _, _, _, _, _, _, _, _ => none
  | k + 1, x22, x102000, x102001, x102002, x102003, x102004, x102005, x102006 => if x22 = true then (some 2) else (if x102003 < 1 then (product_Check.j3 k true x102000 x102001 x102002 x102003 x102004 x102005 x102006) else (product_Check.j3 k (decide (x102003 > 16777216)) x102000 x102001 x102002 x102003 x102004 x102005 x102006))
def product_Check.j3 : Nat → Bool → ByteArray → Int → Int → Int → Int → Int → Bool → Option (Int)
  | 0, _, _, _, _, _, _, _, _ => none
  | k + 1, x31, x102000, x102001, x102002, x102003, x102004, x102005, x102006 => if x31 = true then (some 16) else ((product_within.f x102004 16777216).bind fun t103 => (if t103 = true then ((product_within.f x102005 16777216).bind fun t104 => (if t104 = true then (if x102004 > x102005 then (some 17) else (if x102003 = 0 then (none) else (if (Int.tmod x102004 x102003) = 0 then (if (Int.tmod x102005 x102003) = 0 then (some 0) else (some 17)) else (some 17)))) else (some 17))) else (some 17)))
end
def product_Check.f (k : Nat) (a0_0 : ByteArray) (a0_1 : Int) (a0_2 : Int) (a0_3 : Int) (a0_4 : Int) (a0_5 : Int) (a0_6 : Bool) : Option (Int) := if (a0_0.toList == ([] : List UInt8) && (a0_1 == 0 && (a0_2 == 0 && (a0_3 == 0 && (a0_4 == 0 && (a0_5 == 0 && (!a0_6))))))) = true then (product_Check.j0 k true a0_0 a0_1 a0_2 a0_3 a0_4 a0_5 a0_6) else ((words_Name.f k a0_0).bind fun t102 => (product_Check.j0 k (!t102) a0_0 a0_1 a0_2 a0_3 a0_4 a0_5 a0_6))
set_option maxHeartbeats 8000000 in
set_option maxRecDepth 100000 in
theorem product_Check.calls (k : Nat) (a0_0 : ByteArray) (a0_1 : Int) (a0_2 : Int) (a0_3 : Int) (a0_4 : Int) (a0_5 : Int) (a0_6 : Bool) (r : Int) (w : World) (h : product_Check.f k a0_0 a0_1 a0_2 a0_3 a0_4 a0_5 a0_6 = some r) :
    Calls Tryz.prog 46 #[.agg #[.string a0_0, .int .i64 a0_1, .int .i64 a0_2, .int .i64 a0_3, .int .i64 a0_4, .int .i64 a0_5, .bool a0_6]] w fun e w' => e = .returned (.int .i64 r) ∧ Below w.heap.size w w' := by
  have hu50 := Tryz.underlying50
  have HB := Aside0.mk (Below.refl w.heap.size w)
  have H : (if (a0_0.toList == ([] : List UInt8) && (a0_1 == 0 && (a0_2 == 0 && (a0_3 == 0 && (a0_4 == 0 && (a0_5 == 0 && (!a0_6))))))) = true then (product_Check.j0 k true a0_0 a0_1 a0_2 a0_3 a0_4 a0_5 a0_6) else ((words_Name.f k a0_0).bind fun t102 => (product_Check.j0 k (!t102) a0_0 a0_1 a0_2 a0_3 a0_4 a0_5 a0_6))) = some r := h
  clear h
  have HC2 := Aside0.mk H
  clear H
  go_enter Tryz.func46, Tryz.ntmps46
  go_upto_region 1 with (first | ((with_reducible refine gate_dst (N := 1) rfl ?_); refine box_event ?hg (N := 1) ?hd (cs := #[.string a0_0, .int .i64 a0_1, .int .i64 a0_2, .int .i64 a0_3, .int .i64 a0_4, .int .i64 a0_5, .bool a0_6]) (t := 50) ?hr ?_; (case hd => rfl); (case hg => rfl); (case hr => first | (go_simp; done) | (go_simp; rfl)); intro gb101 hg w3 hbox hb; have BK101 := Aside0.mk (hbox); have GW101 := Aside0.mk ((gsz hg : w.heap.size ≤ gb101)); have GE101 := Aside0.mk ((gsz hg : w.heap.size ≤ gb101)); replace HB := Aside0.mk (below_step bel hb); clear hb hbox hg))
  (try simp only [Act.put, List.setIfInBounds_toArray, List.set_cons_zero, List.set_cons_succ])
  go_cut [3] (fun v3 wc => ∃ (kq : Nat) (x3_1 : Bool), v3 = .bool x3_1 ∧ Aside0 (product_Check.j0 kq x3_1 a0_0 a0_1 a0_2 a0_3 a0_4 a0_5 a0_6 = some r) ∧ Aside0 (kq ≤ k) ∧ Aside0 (wc.heap[gb101]? = some (.cells #[.string a0_0, .int .i64 a0_1, .int .i64 a0_2, .int .i64 a0_3, .int .i64 a0_4, .int .i64 a0_5, .bool a0_6] 50 (0, 0))) ∧ Aside0 (Below w.heap.size w wc))
  case first =>
    have H := HC2.out
    clear HC2
    by_cases c4 : (a0_0.toList == ([] : List UInt8) && (a0_1 == 0 && (a0_2 == 0 && (a0_3 == 0 && (a0_4 == 0 && (a0_5 == 0 && (!a0_6))))))) = true
    · rw [if_pos c4] at H
      obtain ⟨c4f, c4g, c4n⟩ : ∃ f_ : Bool, f_ = true ∧ (a0_0.toList.isEmpty && (a0_1 == 0 && (a0_2 == 0 && (a0_3 == 0 && (a0_4 == 0 && (a0_5 == 0 && (!a0_6))))))) = f_ := ⟨_, by simpa using c4, rfl⟩
      clear c4
      have H' := Aside0.mk H
      clear H
      obtain ⟨hcz5_0, hcz5_1, hcz5_2, hcz5_3, hcz5_4, hcz5_5, hcz5_6, hfz5_0, hfz5_1, hfz5_2, hfz5_3, hfz5_4, hfz5_5, hfz5_6⟩ := cz7 BK101.out
      go_wp2
      go_meet
      case rel => exact ⟨_, (true), eqs, H', ⟨by first | omega | exact Nat.le_refl _⟩, ⟨bw BK101.out⟩, ⟨bel⟩⟩
    · rw [if_neg c4] at H
      obtain ⟨c4f, c4g, c4n⟩ : ∃ f_ : Bool, f_ = false ∧ (a0_0.toList.isEmpty && (a0_1 == 0 && (a0_2 == 0 && (a0_3 == 0 && (a0_4 == 0 && (a0_5 == 0 && (!a0_6))))))) = f_ := ⟨_, by simpa using c4, rfl⟩
      clear c4
      replace H := bnd H
      obtain ⟨t102, A60, H⟩ := H
      have A6 := Aside0.mk A60
      clear A60
      have H' := Aside0.mk H
      clear H
      obtain ⟨hcz7_0, hcz7_1, hcz7_2, hcz7_3, hcz7_4, hcz7_5, hcz7_6, hfz7_0, hfz7_1, hfz7_2, hfz7_3, hfz7_4, hfz7_5, hfz7_6⟩ := cz7 BK101.out
      go_wp2_with (first | (go_at_call 33; (with_reducible refine (words_Name.calls k a0_0 t102 _ A6.out).mono ?_); rintro e w' ⟨rfl, ⟨nd, rfl⟩⟩))
      go_meet
      case rel => exact ⟨_, (!t102), eqs, H', ⟨by first | omega | exact Nat.le_refl _⟩, ⟨bw BK101.out⟩, ⟨bel⟩⟩
  case rest =>
    clear HC2
    try clear p2
    try clear c4
    try clear c4b0
    try clear c4b1
    try clear c4b2
    try clear hcz5_0 hcz5_1 hcz5_2 hcz5_3 hcz5_4 hcz5_5 hcz5_6
    try clear hcz7_0 hcz7_1 hcz7_2 hcz7_3 hcz7_4 hcz7_5 hcz7_6
    try clear hfz5_0 hfz5_1 hfz5_2 hfz5_3 hfz5_4 hfz5_5 hfz5_6
    try clear hfz7_0 hfz7_1 hfz7_2 hfz7_3 hfz7_4 hfz7_5 hfz7_6
    obtain ⟨kq, x3_1, rfl, HA, HJ1, BK101, HB⟩ := hcut
    cases kq with
    | zero => exact absurd HA.out (by simp [product_Check.j0])
    | succ kj1 =>
      have H := HA.out
      clear HA
      simp only [product_Check.j0] at H
      by_cases c8 : x3_1 = true
      · subst c8
        rw [if_pos rfl] at H
        obtain rfl := Option.some.inj H
        go_wp2
        go_ret
        exact ⟨ers, bel⟩
      · replace c8 := Bool.eq_false_iff.mpr c8
        subst c8
        rw [if_neg (show ¬ (false = true) by decide)] at H
        have HC9 := Aside0.mk H
        clear H
        go_upto_region 3 with (fail)
        go_cut [13] (fun v13 wc => ∃ (kq : Nat) (x13_8 : Bool), v13 = .bool x13_8 ∧ Aside0 (product_Check.j1 kq x13_8 a0_0 a0_1 a0_2 a0_3 a0_4 a0_5 a0_6 = some r) ∧ Aside0 (kq ≤ kj1) ∧ Aside0 (wc.heap[gb101]? = some (.cells #[.string a0_0, .int .i64 a0_1, .int .i64 a0_2, .int .i64 a0_3, .int .i64 a0_4, .int .i64 a0_5, .bool a0_6] 50 (0, 0))) ∧ Aside0 (Below w.heap.size w wc))
        case first =>
          have H := HC9.out
          clear HC9
          by_cases c10 : a0_1 < 0
          · rw [if_pos c10] at H
            have c10b0 := decide_eq_true c10
            clear c10
            (first | rw [c10b0] | (simp only [i64_w, i32_w]; rw [c10b0]) | skip)
            have H' := Aside0.mk H
            clear H
            obtain ⟨hcz11_0, hcz11_1, hcz11_2, hcz11_3, hcz11_4, hcz11_5, hcz11_6, hfz11_0, hfz11_1, hfz11_2, hfz11_3, hfz11_4, hfz11_5, hfz11_6⟩ := cz7 BK101.out
            go_wp2
            go_meet
            case rel => exact ⟨_, (true), eqs, H', ⟨by have := HJ1.out; first | omega | exact Nat.le_refl _⟩, ⟨bw BK101.out⟩, ⟨bel⟩⟩
          · rw [if_neg c10] at H
            have c10b0 := decide_eq_false c10
            clear c10
            (first | rw [c10b0] | (simp only [i64_w, i32_w]; rw [c10b0]) | skip)
            have H' := Aside0.mk H
            clear H
            obtain ⟨hcz12_0, hcz12_1, hcz12_2, hcz12_3, hcz12_4, hcz12_5, hcz12_6, hfz12_0, hfz12_1, hfz12_2, hfz12_3, hfz12_4, hfz12_5, hfz12_6⟩ := cz7 BK101.out
            go_wp2
            go_meet
            case rel => exact ⟨_, (decide (a0_1 ≥ 8)), eqs, H', ⟨by have := HJ1.out; first | omega | exact Nat.le_refl _⟩, ⟨bw BK101.out⟩, ⟨bel⟩⟩
        case rest =>
          clear HC9
          try clear c1
          try clear p2
          try clear c4
          try clear c4b0
          try clear c4b1
          try clear c4b2
          try clear c8
          try clear c10
          try clear c10b0
          try clear hcz11_0 hcz11_1 hcz11_2 hcz11_3 hcz11_4 hcz11_5 hcz11_6
          try clear hcz12_0 hcz12_1 hcz12_2 hcz12_3 hcz12_4 hcz12_5 hcz12_6
          try clear hcz5_0 hcz5_1 hcz5_2 hcz5_3 hcz5_4 hcz5_5 hcz5_6
          try clear hcz7_0 hcz7_1 hcz7_2 hcz7_3 hcz7_4 hcz7_5 hcz7_6
          try clear hfz11_0 hfz11_1 hfz11_2 hfz11_3 hfz11_4 hfz11_5 hfz11_6
          try clear hfz12_0 hfz12_1 hfz12_2 hfz12_3 hfz12_4 hfz12_5 hfz12_6
          try clear hfz5_0 hfz5_1 hfz5_2 hfz5_3 hfz5_4 hfz5_5 hfz5_6
          try clear hfz7_0 hfz7_1 hfz7_2 hfz7_3 hfz7_4 hfz7_5 hfz7_6
          try clear p2
          obtain ⟨kq, x13_8, rfl, HA, HJ8, BK101, HB⟩ := hcut
          cases kq with
          | zero => exact absurd HA.out (by simp [product_Check.j1])
          | succ kj8 =>
            have H := HA.out
            clear HA
            simp only [product_Check.j1] at H
            by_cases c13 : x13_8 = true
            · subst c13
              rw [if_pos rfl] at H
              obtain rfl := Option.some.inj H
              go_wp2
              go_ret
              exact ⟨ers, bel⟩
            · replace c13 := Bool.eq_false_iff.mpr c13
              subst c13
              rw [if_neg (show ¬ (false = true) by decide)] at H
              have HC14 := Aside0.mk H
              clear H
              go_upto_region 5 with (fail)
              go_cut [22] (fun v22 wc => ∃ (kq : Nat) (x22_13 : Bool), v22 = .bool x22_13 ∧ Aside0 (product_Check.j2 kq x22_13 a0_0 a0_1 a0_2 a0_3 a0_4 a0_5 a0_6 = some r) ∧ Aside0 (kq ≤ kj8) ∧ Aside0 (wc.heap[gb101]? = some (.cells #[.string a0_0, .int .i64 a0_1, .int .i64 a0_2, .int .i64 a0_3, .int .i64 a0_4, .int .i64 a0_5, .bool a0_6] 50 (0, 0))) ∧ Aside0 (Below w.heap.size w wc))
              case first =>
                have H := HC14.out
                clear HC14
                by_cases c15 : a0_2 < 1
                · rw [if_pos c15] at H
                  have c15b0 := decide_eq_true c15
                  clear c15
                  (first | rw [c15b0] | (simp only [i64_w, i32_w]; rw [c15b0]) | skip)
                  have H' := Aside0.mk H
                  clear H
                  obtain ⟨hcz16_0, hcz16_1, hcz16_2, hcz16_3, hcz16_4, hcz16_5, hcz16_6, hfz16_0, hfz16_1, hfz16_2, hfz16_3, hfz16_4, hfz16_5, hfz16_6⟩ := cz7 BK101.out
                  go_wp2
                  go_meet
                  case rel => exact ⟨_, (true), eqs, H', ⟨by have := HJ1.out; have := HJ8.out; first | omega | exact Nat.le_refl _⟩, ⟨bw BK101.out⟩, ⟨bel⟩⟩
                · rw [if_neg c15] at H
                  have c15b0 := decide_eq_false c15
                  clear c15
                  (first | rw [c15b0] | (simp only [i64_w, i32_w]; rw [c15b0]) | skip)
                  have H' := Aside0.mk H
                  clear H
                  obtain ⟨hcz17_0, hcz17_1, hcz17_2, hcz17_3, hcz17_4, hcz17_5, hcz17_6, hfz17_0, hfz17_1, hfz17_2, hfz17_3, hfz17_4, hfz17_5, hfz17_6⟩ := cz7 BK101.out
                  go_wp2
                  go_meet
                  case rel => exact ⟨_, (decide (a0_2 > 4096)), eqs, H', ⟨by have := HJ1.out; have := HJ8.out; first | omega | exact Nat.le_refl _⟩, ⟨bw BK101.out⟩, ⟨bel⟩⟩
              case rest =>
                clear HC14
                try clear c1
                try clear p2
                try clear c4
                try clear c4b0
                try clear c4b1
                try clear c4b2
                try clear c8
                try clear c10
                try clear c10b0
                try clear c13
                try clear c15
                try clear c15b0
                try clear hcz11_0 hcz11_1 hcz11_2 hcz11_3 hcz11_4 hcz11_5 hcz11_6
                try clear hcz12_0 hcz12_1 hcz12_2 hcz12_3 hcz12_4 hcz12_5 hcz12_6
                try clear hcz16_0 hcz16_1 hcz16_2 hcz16_3 hcz16_4 hcz16_5 hcz16_6
                try clear hcz17_0 hcz17_1 hcz17_2 hcz17_3 hcz17_4 hcz17_5 hcz17_6
                try clear hcz5_0 hcz5_1 hcz5_2 hcz5_3 hcz5_4 hcz5_5 hcz5_6
                try clear hcz7_0 hcz7_1 hcz7_2 hcz7_3 hcz7_4 hcz7_5 hcz7_6
                try clear hfz11_0 hfz11_1 hfz11_2 hfz11_3 hfz11_4 hfz11_5 hfz11_6
                try clear hfz12_0 hfz12_1 hfz12_2 hfz12_3 hfz12_4 hfz12_5 hfz12_6
                try clear hfz16_0 hfz16_1 hfz16_2 hfz16_3 hfz16_4 hfz16_5 hfz16_6
                try clear hfz17_0 hfz17_1 hfz17_2 hfz17_3 hfz17_4 hfz17_5 hfz17_6
                try clear hfz5_0 hfz5_1 hfz5_2 hfz5_3 hfz5_4 hfz5_5 hfz5_6
                try clear hfz7_0 hfz7_1 hfz7_2 hfz7_3 hfz7_4 hfz7_5 hfz7_6
                try clear p2
                obtain ⟨kq, x22_13, rfl, HA, HJ13, BK101, HB⟩ := hcut
                cases kq with
                | zero => exact absurd HA.out (by simp [product_Check.j2])
                | succ kj13 =>
                  have H := HA.out
                  clear HA
                  simp only [product_Check.j2] at H
                  by_cases c18 : x22_13 = true
                  · subst c18
                    rw [if_pos rfl] at H
                    obtain rfl := Option.some.inj H
                    go_wp2
                    go_ret
                    exact ⟨ers, bel⟩
                  · replace c18 := Bool.eq_false_iff.mpr c18
                    subst c18
                    rw [if_neg (show ¬ (false = true) by decide)] at H
                    have HC19 := Aside0.mk H
                    clear H
                    go_upto_region 7 with (fail)
                    go_cut [31] (fun v31 wc => ∃ (kq : Nat) (x31_18 : Bool), v31 = .bool x31_18 ∧ Aside0 (product_Check.j3 kq x31_18 a0_0 a0_1 a0_2 a0_3 a0_4 a0_5 a0_6 = some r) ∧ Aside0 (kq ≤ kj13) ∧ Aside0 (wc.heap[gb101]? = some (.cells #[.string a0_0, .int .i64 a0_1, .int .i64 a0_2, .int .i64 a0_3, .int .i64 a0_4, .int .i64 a0_5, .bool a0_6] 50 (0, 0))) ∧ Aside0 (Below w.heap.size w wc))
                    case first =>
                      have H := HC19.out
                      clear HC19
                      by_cases c20 : a0_3 < 1
                      · rw [if_pos c20] at H
                        have c20b0 := decide_eq_true c20
                        clear c20
                        (first | rw [c20b0] | (simp only [i64_w, i32_w]; rw [c20b0]) | skip)
                        have H' := Aside0.mk H
                        clear H
                        obtain ⟨hcz21_0, hcz21_1, hcz21_2, hcz21_3, hcz21_4, hcz21_5, hcz21_6, hfz21_0, hfz21_1, hfz21_2, hfz21_3, hfz21_4, hfz21_5, hfz21_6⟩ := cz7 BK101.out
                        go_wp2
                        go_meet
                        case rel => exact ⟨_, (true), eqs, H', ⟨by have := HJ1.out; have := HJ8.out; have := HJ13.out; first | omega | exact Nat.le_refl _⟩, ⟨bw BK101.out⟩, ⟨bel⟩⟩
                      · rw [if_neg c20] at H
                        have c20b0 := decide_eq_false c20
                        clear c20
                        (first | rw [c20b0] | (simp only [i64_w, i32_w]; rw [c20b0]) | skip)
                        have H' := Aside0.mk H
                        clear H
                        obtain ⟨hcz22_0, hcz22_1, hcz22_2, hcz22_3, hcz22_4, hcz22_5, hcz22_6, hfz22_0, hfz22_1, hfz22_2, hfz22_3, hfz22_4, hfz22_5, hfz22_6⟩ := cz7 BK101.out
                        go_wp2
                        go_meet
                        case rel => exact ⟨_, (decide (a0_3 > 16777216)), eqs, H', ⟨by have := HJ1.out; have := HJ8.out; have := HJ13.out; first | omega | exact Nat.le_refl _⟩, ⟨bw BK101.out⟩, ⟨bel⟩⟩
                    case rest =>
                      clear HC19
                      try clear c1
                      try clear c2
                      try clear p2
                      try clear c4
                      try clear c4b0
                      try clear c4b1
                      try clear c4b2
                      try clear c8
                      try clear c10
                      try clear c10b0
                      try clear c13
                      try clear c15
                      try clear c15b0
                      try clear c18
                      try clear c20
                      try clear c20b0
                      try clear hcz11_0 hcz11_1 hcz11_2 hcz11_3 hcz11_4 hcz11_5 hcz11_6
                      try clear hcz12_0 hcz12_1 hcz12_2 hcz12_3 hcz12_4 hcz12_5 hcz12_6
                      try clear hcz16_0 hcz16_1 hcz16_2 hcz16_3 hcz16_4 hcz16_5 hcz16_6
                      try clear hcz17_0 hcz17_1 hcz17_2 hcz17_3 hcz17_4 hcz17_5 hcz17_6
                      try clear hcz21_0 hcz21_1 hcz21_2 hcz21_3 hcz21_4 hcz21_5 hcz21_6
                      try clear hcz22_0 hcz22_1 hcz22_2 hcz22_3 hcz22_4 hcz22_5 hcz22_6
                      try clear hcz5_0 hcz5_1 hcz5_2 hcz5_3 hcz5_4 hcz5_5 hcz5_6
                      try clear hcz7_0 hcz7_1 hcz7_2 hcz7_3 hcz7_4 hcz7_5 hcz7_6
                      try clear hfz11_0 hfz11_1 hfz11_2 hfz11_3 hfz11_4 hfz11_5 hfz11_6
                      try clear hfz12_0 hfz12_1 hfz12_2 hfz12_3 hfz12_4 hfz12_5 hfz12_6
                      try clear hfz16_0 hfz16_1 hfz16_2 hfz16_3 hfz16_4 hfz16_5 hfz16_6
                      try clear hfz17_0 hfz17_1 hfz17_2 hfz17_3 hfz17_4 hfz17_5 hfz17_6
                      try clear hfz21_0 hfz21_1 hfz21_2 hfz21_3 hfz21_4 hfz21_5 hfz21_6
                      try clear hfz22_0 hfz22_1 hfz22_2 hfz22_3 hfz22_4 hfz22_5 hfz22_6
                      try clear hfz5_0 hfz5_1 hfz5_2 hfz5_3 hfz5_4 hfz5_5 hfz5_6
                      try clear hfz7_0 hfz7_1 hfz7_2 hfz7_3 hfz7_4 hfz7_5 hfz7_6
                      try clear p2
                      obtain ⟨kq, x31_18, rfl, HA, HJ18, BK101, HB⟩ := hcut
                      cases kq with
                      | zero => exact absurd HA.out (by simp [product_Check.j3])
                      | succ kj18 =>
                        have H := HA.out
                        clear HA
                        simp only [product_Check.j3] at H
                        by_cases c23 : x31_18 = true
                        · subst c23
                          rw [if_pos rfl] at H
                          obtain rfl := Option.some.inj H
                          go_wp2
                          go_ret
                          exact ⟨ers, bel⟩
                        · replace c23 := Bool.eq_false_iff.mpr c23
                          subst c23
                          rw [if_neg (show ¬ (false = true) by decide)] at H
                          replace H := bnd H
                          obtain ⟨t103, A240, H⟩ := H
                          have A24 := Aside0.mk A240
                          clear A240
                          by_cases c25 : t103 = true
                          · subst c25
                            rw [if_pos rfl] at H
                            replace H := bnd H
                            obtain ⟨t104, A260, H⟩ := H
                            have A26 := Aside0.mk A260
                            clear A260
                            by_cases c27 : t104 = true
                            · subst c27
                              rw [if_pos rfl] at H
                              by_cases c28 : a0_4 > a0_5
                              · rw [if_pos c28] at H
                                have c28b0 : decide (a0_5 < a0_4) = true := decide_eq_true c28
                                clear c28
                                obtain rfl := Option.some.inj H
                                obtain ⟨hcz29_0, hcz29_1, hcz29_2, hcz29_3, hcz29_4, hcz29_5, hcz29_6, hfz29_0, hfz29_1, hfz29_2, hfz29_3, hfz29_4, hfz29_5, hfz29_6⟩ := cz7 BK101.out
                                go_wp2_with (first | ((with_reducible refine gate_callee (f := 77) rfl ?_); refine goesL_ (some 43) rfl rfl Tryz.func77 (by kernel_rfl) rfl #[.int .i64 a0_4, .int .i64 16777216] rfl arg ?_; (with_reducible refine (product_within.calls a0_4 16777216 true _ A24.out).mono ?_); rintro e w' ⟨rfl, ⟨nd, rfl⟩⟩; refine ⟨_, rfl, ?_⟩) | (go_at_call 77; (with_reducible refine (product_within.calls a0_5 16777216 true _ A26.out).mono ?_); rintro e w' ⟨rfl, ⟨nd, rfl⟩⟩))
                                go_ret
                                exact ⟨ers, bel⟩
                              · rw [if_neg c28] at H
                                have c28b0 : decide (a0_5 < a0_4) = false := decide_eq_false c28
                                clear c28
                                by_cases c30 : a0_3 = 0
                                · rw [if_pos c30] at H
                                  exact absurd H (by simp)
                                · rw [if_neg c30] at H
                                  have c30b0 : (a0_3 == 0) = false := beq_eq_false_iff_ne.mpr c30
                                  have c30b1 : (a0_3 != 0) = true := bne_iff_ne.mpr c30
                                  by_cases c31 : (Int.tmod a0_4 a0_3) = 0
                                  · rw [if_pos c31] at H
                                    have c31b0 : ((Int.tmod a0_4 a0_3) == 0) = true := beq_iff_eq.mpr c31
                                    have c31b1 : ((Int.tmod a0_4 a0_3) != 0) = false := bne_eq_false_iff_eq.mpr c31
                                    clear c31
                                    by_cases c32 : (Int.tmod a0_5 a0_3) = 0
                                    · rw [if_pos c32] at H
                                      have c32b0 : ((Int.tmod a0_5 a0_3) == 0) = true := beq_iff_eq.mpr c32
                                      have c32b1 : ((Int.tmod a0_5 a0_3) != 0) = false := bne_eq_false_iff_eq.mpr c32
                                      clear c32
                                      obtain rfl := Option.some.inj H
                                      obtain ⟨hcz33_0, hcz33_1, hcz33_2, hcz33_3, hcz33_4, hcz33_5, hcz33_6, hfz33_0, hfz33_1, hfz33_2, hfz33_3, hfz33_4, hfz33_5, hfz33_6⟩ := cz7 BK101.out
                                      go_wp2_with (first | ((with_reducible refine gate_callee (f := 77) rfl ?_); refine goesL_ (some 43) rfl rfl Tryz.func77 (by kernel_rfl) rfl #[.int .i64 a0_4, .int .i64 16777216] rfl arg ?_; (with_reducible refine (product_within.calls a0_4 16777216 true _ A24.out).mono ?_); rintro e w' ⟨rfl, ⟨nd, rfl⟩⟩; refine ⟨_, rfl, ?_⟩) | (go_at_call 77; (with_reducible refine (product_within.calls a0_5 16777216 true _ A26.out).mono ?_); rintro e w' ⟨rfl, ⟨nd, rfl⟩⟩))
                                      go_ret
                                      exact ⟨ers, bel⟩
                                    · rw [if_neg c32] at H
                                      have c32b0 : ((Int.tmod a0_5 a0_3) == 0) = false := beq_eq_false_iff_ne.mpr c32
                                      have c32b1 : ((Int.tmod a0_5 a0_3) != 0) = true := bne_iff_ne.mpr c32
                                      obtain rfl := Option.some.inj H
                                      obtain ⟨hcz34_0, hcz34_1, hcz34_2, hcz34_3, hcz34_4, hcz34_5, hcz34_6, hfz34_0, hfz34_1, hfz34_2, hfz34_3, hfz34_4, hfz34_5, hfz34_6⟩ := cz7 BK101.out
                                      go_wp2_with (first | ((with_reducible refine gate_callee (f := 77) rfl ?_); refine goesL_ (some 43) rfl rfl Tryz.func77 (by kernel_rfl) rfl #[.int .i64 a0_4, .int .i64 16777216] rfl arg ?_; (with_reducible refine (product_within.calls a0_4 16777216 true _ A24.out).mono ?_); rintro e w' ⟨rfl, ⟨nd, rfl⟩⟩; refine ⟨_, rfl, ?_⟩) | (go_at_call 77; (with_reducible refine (product_within.calls a0_5 16777216 true _ A26.out).mono ?_); rintro e w' ⟨rfl, ⟨nd, rfl⟩⟩))
                                      go_ret
                                      exact ⟨ers, bel⟩
                                  · rw [if_neg c31] at H
                                    have c31b0 : ((Int.tmod a0_4 a0_3) == 0) = false := beq_eq_false_iff_ne.mpr c31
                                    have c31b1 : ((Int.tmod a0_4 a0_3) != 0) = true := bne_iff_ne.mpr c31
                                    obtain rfl := Option.some.inj H
                                    obtain ⟨hcz35_0, hcz35_1, hcz35_2, hcz35_3, hcz35_4, hcz35_5, hcz35_6, hfz35_0, hfz35_1, hfz35_2, hfz35_3, hfz35_4, hfz35_5, hfz35_6⟩ := cz7 BK101.out
                                    go_wp2_with (first | ((with_reducible refine gate_callee (f := 77) rfl ?_); refine goesL_ (some 43) rfl rfl Tryz.func77 (by kernel_rfl) rfl #[.int .i64 a0_4, .int .i64 16777216] rfl arg ?_; (with_reducible refine (product_within.calls a0_4 16777216 true _ A24.out).mono ?_); rintro e w' ⟨rfl, ⟨nd, rfl⟩⟩; refine ⟨_, rfl, ?_⟩) | (go_at_call 77; (with_reducible refine (product_within.calls a0_5 16777216 true _ A26.out).mono ?_); rintro e w' ⟨rfl, ⟨nd, rfl⟩⟩))
                                    go_ret
                                    exact ⟨ers, bel⟩
                            · replace c27 := Bool.eq_false_iff.mpr c27
                              subst c27
                              rw [if_neg (show ¬ (false = true) by decide)] at H
                              obtain rfl := Option.some.inj H
                              obtain ⟨hcz36_0, hcz36_1, hcz36_2, hcz36_3, hcz36_4, hcz36_5, hcz36_6, hfz36_0, hfz36_1, hfz36_2, hfz36_3, hfz36_4, hfz36_5, hfz36_6⟩ := cz7 BK101.out
                              go_wp2_with (first | ((with_reducible refine gate_callee (f := 77) rfl ?_); refine goesL_ (some 43) rfl rfl Tryz.func77 (by kernel_rfl) rfl #[.int .i64 a0_4, .int .i64 16777216] rfl arg ?_; (with_reducible refine (product_within.calls a0_4 16777216 true _ A24.out).mono ?_); rintro e w' ⟨rfl, ⟨nd, rfl⟩⟩; refine ⟨_, rfl, ?_⟩) | (go_at_call 77; (with_reducible refine (product_within.calls a0_5 16777216 false _ A26.out).mono ?_); rintro e w' ⟨rfl, ⟨nd, rfl⟩⟩))
                              go_ret
                              exact ⟨ers, bel⟩
                          · replace c25 := Bool.eq_false_iff.mpr c25
                            subst c25
                            rw [if_neg (show ¬ (false = true) by decide)] at H
                            obtain rfl := Option.some.inj H
                            obtain ⟨hcz37_0, hcz37_1, hcz37_2, hcz37_3, hcz37_4, hcz37_5, hcz37_6, hfz37_0, hfz37_1, hfz37_2, hfz37_3, hfz37_4, hfz37_5, hfz37_6⟩ := cz7 BK101.out
                            go_wp2_with (first | ((with_reducible refine gate_callee (f := 77) rfl ?_); refine goesL_ (some 43) rfl rfl Tryz.func77 (by kernel_rfl) rfl #[.int .i64 a0_4, .int .i64 16777216] rfl arg ?_; (with_reducible refine (product_within.calls a0_4 16777216 false _ A24.out).mono ?_); rintro e w' ⟨rfl, ⟨nd, rfl⟩⟩; refine ⟨_, rfl, ?_⟩))
                            go_ret
                            exact ⟨ers, bel⟩
end Go.Proofs.YtliooghmpkdmoaaGreatDoor.X
end
section
namespace Go.Proofs.YtliooghmpkdmoaaGreatDoor.X
open Go.RowKit Go.Proofs.YtliooghmpkdmoaaGreatDoorW.PrintWords Go.Proofs.YtliooghmpkdmoaaGreatDoorW.PrintLast Go.Proofs.YtliooghmpkdmoaaGreatDoorW.PrintMore
attribute [local go_sem] max2_int min2_int max_two min_two max_three min_three max_four min_four
set_option linter.unusedVariables false
set_option linter.unusedSimpArgs false
def product_kind.f (a0 : Bool) : Option (ByteArray) := if a0 = true then (some (⟨#[112, 104, 121, 115, 105, 99, 97, 108]⟩ : ByteArray)) else (some (⟨#[99, 97, 115, 104]⟩ : ByteArray))
set_option maxHeartbeats 8000000 in
set_option maxRecDepth 100000 in
theorem product_kind.calls (a0 : Bool) (r : ByteArray) (w : World) (h : product_kind.f a0 = some r) :
    Calls Tryz.prog 45 #[.bool a0] w fun e w' => e = .returned (.string r) ∧ Drawn0 w w' := by
  have H : (if a0 = true then (some (⟨#[112, 104, 121, 115, 105, 99, 97, 108]⟩ : ByteArray)) else (some (⟨#[99, 97, 115, 104]⟩ : ByteArray))) = some r := h
  clear h
  by_cases c2 : a0 = true
  · subst c2
    rw [if_pos rfl] at H
    obtain rfl := Option.some.inj H
    go_enter Tryz.func45, Tryz.ntmps45
    go_wp2
    go_ret
    exact ⟨eqs, drz⟩
  · replace c2 := Bool.eq_false_iff.mpr c2
    subst c2
    rw [if_neg (show ¬ (false = true) by decide)] at H
    obtain rfl := Option.some.inj H
    go_enter Tryz.func45, Tryz.ntmps45
    go_wp2
    go_ret
    exact ⟨eqs, drz⟩
def prsNums (k : Nat) : List ByteArray → Option (Option (List Int))
  | [] => some (some [])
  | x :: r => (words_Int.f k x).bind fun q => if q.2 = 0 then (prsNums k r).bind fun o => some (o.map (q.1 :: ·)) else some none
def prsKind (s : ByteArray) : Option Bool := if (⟨#[112, 104, 121, 115, 105, 99, 97, 108]⟩ : ByteArray).toList = s.toList then some true else if (⟨#[99, 97, 115, 104]⟩ : ByteArray).toList = s.toList then some false else none
def kb (o : Option Bool) : Bool := match o with | some b => b | none => false
def product_Parse.g (k : Nat) (l : List ByteArray) (o : Option (List Int)) : Option (ByteArray × Int × Int × Int × Int × Int × Bool × Int) :=
  match o with
  | none => some ((⟨#[]⟩ : ByteArray), 0, 0, 0, 0, 0, false, 5)
  | some n => if (prsKind (rdOf ByteArray.empty l 6)).isSome = true then (product_Check.f k (rdOf ByteArray.empty l 0) (rd n 0) (rd n 1) (rd n 2) (rd n 3) (rd n 4) (kb (prsKind (rdOf ByteArray.empty l 6)))).bind fun e => if e = 0 then some (rdOf ByteArray.empty l 0, rd n 0, rd n 1, rd n 2, rd n 3, rd n 4, kb (prsKind (rdOf ByteArray.empty l 6)), 0) else some ((⟨#[]⟩ : ByteArray), 0, 0, 0, 0, 0, false, e) else some ((⟨#[]⟩ : ByteArray), 0, 0, 0, 0, 0, false, 5)
def product_Parse.f (k : Nat) (a0 : ByteArray) : Option (ByteArray × Int × Int × Int × Int × Int × Bool × Int) :=
  (words_Fields.f k a0).bind fun q => if q.2 = 0 then (if q.1.length = 7 then (prsNums k ((q.1.drop 1).take 5)).bind fun o => product_Parse.g k q.1 o else some ((⟨#[]⟩ : ByteArray), 0, 0, 0, 0, 0, false, 5)) else some ((⟨#[]⟩ : ByteArray), 0, 0, 0, 0, 0, false, q.2)
set_option maxHeartbeats 800000 in
set_option maxRecDepth 100000 in
theorem kind_lit (b : Bool) (g1 : Nat) (gL : Nat) (cap : Nat) (s : ByteArray) (w : World) (h1 : w.heap[g1]? = some (.cells #[.slice (some ⟨gL, 0, none⟩) 7 cap] 41 (0, 0))) (h2 : w.cell? ⟨gL, 6, none⟩ = some (.string s)) :
    Calls Tryz.prog 44 #[.bool b, .pointer (some ⟨g1, 0, none⟩)] w fun e w' => e = .returned (.bool ((if b = true then (⟨#[112, 104, 121, 115, 105, 99, 97, 108]⟩ : ByteArray) else (⟨#[99, 97, 115, 104]⟩ : ByteArray)).toList == s.toList)) ∧ Below w.heap.size w w' := by
  have hk : product_kind.f b = some (if b = true then (⟨#[112, 104, 121, 115, 105, 99, 97, 108]⟩ : ByteArray) else (⟨#[99, 97, 115, 104]⟩ : ByteArray)) := by cases b <;> rfl
  have HK := Aside0.mk hk
  have HB := Aside0.mk (below_drew1 (Below.refl w.heap.size w))
  have hS : w.drew.cell? ⟨g1, 0, none⟩ = some (.slice (some ⟨gL, 0, none⟩) 7 cap) ∧ w.drew.cell? ⟨gL, 6, none⟩ = some (.string s) := ⟨blk_cell h1 0, h2⟩
  have HS := Aside0.mk hS
  generalize (if b = true then (⟨#[112, 104, 121, 115, 105, 99, 97, 108]⟩ : ByteArray) else (⟨#[99, 97, 115, 104]⟩ : ByteArray)) = r at HK
  clear hk hS h1 h2
  go_enter Tryz.func44, Tryz.ntmps44
  go_wp2_with fail
  refine start_ (n := 7) (S := fun w' => w'.cell? ⟨g1, 0, none⟩ = some (.slice (some ⟨gL, 0, none⟩) 7 cap) ∧ w'.cell? ⟨gL, 6, none⟩ = some (.string s)) (ds := []) #[false, false, false, false, false, false, false] (by kernel_rfl) rfl rfl HS.out (fun hHeld => ?_)
  generalize w.drew = w21 at HB hHeld ⊢
  clear HS
  refine pure_ (i := 0) (N := some 4) (v := ?_) (a' := ?_) #[true, false, false, false, false, false, false] rfl rfl (by kernel_rfl) (fun _ _ _ h => h) (Or.inl ⟨by rfl, ?_⟩) ?_ ?_
  rotate_left
  · intro w'
    go_simp
    with_reducible rfl
  rotate_left
  · simp only [Act.put, List.setIfInBounds_toArray, List.set_cons_zero, List.set_cons_succ, i64_w, i32_w]
    rfl
  refine take_ (i := 2) (N := some 6) (v := ?_) (a' := ?_) #[true, false, true, false, false, false, false] rfl rfl (by kernel_rfl) (fun _ _ _ h => h) (Or.inl ⟨by rfl, ?_⟩) hHeld ?_ ?_
  rotate_left
  · rintro w' ⟨s0, s1⟩
    go_simp
    with_reducible rfl
  rotate_left
  · simp only [Act.put, List.setIfInBounds_toArray, List.set_cons_zero, List.set_cons_succ, i64_w, i32_w]
    rfl
  refine pure_ (i := 3) (N := some 7) (v := ?_) (a' := ?_) #[true, false, true, true, false, false, false] rfl rfl (by kernel_rfl) (fun _ _ _ h => h) (Or.inl ⟨by rfl, ?_⟩) ?_ ?_
  rotate_left
  · intro w'
    go_simp
    with_reducible rfl
  rotate_left
  · simp only [Act.put, List.setIfInBounds_toArray, List.set_cons_zero, List.set_cons_succ, i64_w, i32_w]
    rfl
  refine take_ (i := 4) (N := some 8) (v := ?_) (a' := ?_) #[true, false, true, true, true, false, false] rfl rfl (by kernel_rfl) (fun _ _ _ h => h) (Or.inl ⟨by rfl, ?_⟩) hHeld ?_ ?_
  rotate_left
  · rintro w' ⟨s0, s1⟩
    go_simp
    with_reducible rfl
  rotate_left
  · simp only [Act.put, List.setIfInBounds_toArray, List.set_cons_zero, List.set_cons_succ, i64_w, i32_w]
    rfl
  refine one_ (i := 1) (N := some 5) #[true, true, true, true, true, false, false] rfl rfl (by kernel_rfl) (by decide) (fun K hK => ?_)
  refine goes_ Tryz.func45 (by kernel_rfl) rfl #[.bool b] (by rfl) rfl rfl arg ?_
  with_reducible refine (product_kind.calls b r _ HK.out).mono ?_
  rintro e w22 ⟨rfl, hd⟩
  refine ⟨_, rfl, ?_⟩
  have hb := hd.below
  have hS2 : w22.cell? ⟨g1, 0, none⟩ = some (.slice (some ⟨gL, 0, none⟩) 7 cap) ∧ w22.cell? ⟨gL, 6, none⟩ = some (.string s) := ⟨(hb.cell (World.block_lt_of_cell? w21 _ hHeld.1)).trans hHeld.1, (hb.cell (World.block_lt_of_cell? w21 _ hHeld.2)).trans hHeld.2⟩
  have HB2 := Aside0.mk (below_step HB.out hb)
  clear hb hd
  refine hK.out _ _ hS2 (fun hHeld => ?_)
  clear hK K hS2
  refine norm_ (a' := ?_) ?_ ?_
  rotate_left
  · show Act.put _ (some 5) _ = _
    simp only [Act.put, List.setIfInBounds_toArray, List.set_cons_zero, List.set_cons_succ, i64_w, i32_w]
    rfl
  refine pure_ (i := 5) (N := some 9) (v := ?_) (a' := ?_) #[true, true, true, true, true, true, false] rfl rfl (by kernel_rfl) (fun _ _ _ h => h) (Or.inl ⟨by rfl, ?_⟩) ?_ ?_
  rotate_left
  · intro w'
    go_simp
    with_reducible rfl
  rotate_left
  · simp only [Act.put, List.setIfInBounds_toArray, List.set_cons_zero, List.set_cons_succ, i64_w, i32_w]
    rfl
  refine pure_ (i := 6) (N := some 3) (v := ?_) (a' := ?_) #[true, true, true, true, true, true, true] rfl rfl (by kernel_rfl) (fun _ _ _ h => h) (Or.inl ⟨by rfl, ?_⟩) ?_ ?_
  rotate_left
  · intro w'
    go_simp
    with_reducible rfl
  rotate_left
  · simp only [Act.put, List.setIfInBounds_toArray, List.set_cons_zero, List.set_cons_succ, i64_w, i32_w]
    rfl
  refine done_ (by kernel_rfl) ?_
  go_wp2_with fail
  go_ret
  exact ⟨rfl, HB2.out⟩
set_option maxHeartbeats 1600000 in
set_option maxRecDepth 100000 in
theorem firstB_calls (gB g1 : Nat) (gL : Nat) (cap : Nat) (s : ByteArray) (w : World) (hB : w.heap[gB]? = some (.cells #[.bool true, .bool false] 4 (0, 0))) (h1 : w.heap[g1]? = some (.cells #[.slice (some ⟨gL, 0, none⟩) 7 cap] 41 (0, 0))) (h2 : w.cell? ⟨gL, 6, none⟩ = some (.string s)) :
    Calls Tryz.prog 43 #[.slice (some ⟨gB, 0, none⟩) 2 2, .func (.func 44) #[] #[.pointer (some ⟨g1, 0, none⟩)]] w fun e w' => e = .returned (.tuple #[.bool (kb (prsKind s)), .bool (prsKind s).isSome]) ∧ Below w.heap.size w w' := by
  have H1 := Aside0.mk h1
  have H2 := Aside0.mk h2
  have HBK := Aside0.mk hB
  clear h1 h2 hB
  go_enter Tryz.func43, Tryz.ntmps43
  go_wp2_with fail
  go_loopg [11] 2 (fun kq v11 wr => ∃ i : Nat, v11 = .int .i64 (i : Int) ∧ Aside0 (kq + i = 2) ∧ Aside0 (1 ≤ i → ¬ (⟨#[112, 104, 121, 115, 105, 99, 97, 108]⟩ : ByteArray).toList = s.toList) ∧ Aside0 (2 ≤ i → ¬ (⟨#[99, 97, 115, 104]⟩ : ByteArray).toList = s.toList) ∧ Aside0 (Below w.heap.size w wr))
  case atStart => exact ⟨0, rfl, ⟨by omega⟩, ⟨fun h => by omega⟩, ⟨fun h => by omega⟩, ⟨Below.refl _ _⟩⟩
  case round =>
    obtain ⟨i, rfl, HK, HP, HC, HB⟩ := hrel
    have hx0 : wr.cell? ⟨gB, 0, none⟩ = some (.bool true) := blk_cell (blk_below HBK.out HB.out) 0
    have hx1 : wr.cell? ⟨gB, 1, none⟩ = some (.bool false) := blk_cell (blk_below HBK.out HB.out) 1
    have hc1 := blk_below H1.out HB.out
    have hc2 := (HB.out.cell (World.block_lt_of_cell? w _ H2.out)).trans H2.out
    have HC1 := Aside0.mk hc1
    have HC2 := Aside0.mk hc2
    clear hc1 hc2
    match i, HK, HP, HC with
    | 0, HK, HP, HC =>
      by_cases c : (⟨#[112, 104, 121, 115, 105, 99, 97, 108]⟩ : ByteArray).toList = s.toList
      · have HBB := Aside0.mk (beq_iff_eq.2 c)
        have HE := Aside0.mk (show prsKind s = some true by unfold prsKind; rw [if_pos c])
        clear c
        go_wp2_with (go_at_call 44; refine (kind_lit true g1 gL cap s _ HC1.out HC2.out).mono ?_; rw [if_pos rfl, HBB.out]; rintro e1 w1 ⟨rfl, hb1⟩; have HB3 := Aside0.mk (below_step HB.out hb1); clear hb1)
        go_ret2
        exact ⟨by rw [HE.out]; rfl, HB3.out⟩
      · have HBB := Aside0.mk (beq_eq_false_iff_ne.2 c)
        have HN := Aside0.mk c
        clear c
        go_wp2_with (go_at_call 44; refine (kind_lit true g1 gL cap s _ HC1.out HC2.out).mono ?_; rw [if_pos rfl, HBB.out]; rintro e1 w1 ⟨rfl, hb1⟩; have HB3 := Aside0.mk (below_step HB.out hb1); clear hb1)
        go_roundg (gk - 1)
        case measure => have := HK.out; omega
        case rel => exact ⟨1, by go_num, ⟨by have := HK.out; omega⟩, ⟨fun _ => HN.out⟩, ⟨fun h => by omega⟩, HB3⟩
    | 1, HK, HP, HC =>
      by_cases c : (⟨#[99, 97, 115, 104]⟩ : ByteArray).toList = s.toList
      · have HBB := Aside0.mk (beq_iff_eq.2 c)
        have HE := Aside0.mk (show prsKind s = some false by unfold prsKind; rw [if_neg (HP.out (by omega)), if_pos c])
        clear c
        go_wp2_with (go_at_call 44; refine (kind_lit false g1 gL cap s _ HC1.out HC2.out).mono ?_; rw [if_neg (by decide), HBB.out]; rintro e1 w1 ⟨rfl, hb1⟩; have HB3 := Aside0.mk (below_step HB.out hb1); clear hb1)
        go_ret2
        exact ⟨by rw [HE.out]; rfl, HB3.out⟩
      · have HBB := Aside0.mk (beq_eq_false_iff_ne.2 c)
        have HN := Aside0.mk c
        clear c
        go_wp2_with (go_at_call 44; refine (kind_lit false g1 gL cap s _ HC1.out HC2.out).mono ?_; rw [if_neg (by decide), HBB.out]; rintro e1 w1 ⟨rfl, hb1⟩; have HB3 := Aside0.mk (below_step HB.out hb1); clear hb1)
        go_roundg (gk - 1)
        case measure => have := HK.out; omega
        case rel => exact ⟨2, by go_num, ⟨by have := HK.out; omega⟩, ⟨fun _ => HP.out (by omega)⟩, ⟨fun _ => HN.out⟩, HB3⟩
    | 2, HK, HP, HC =>
      have HE := Aside0.mk (show prsKind s = none by unfold prsKind; rw [if_neg (HP.out (by omega)), if_neg (HC.out (by omega))])
      go_wp2_with fail
      go_ret2
      exact ⟨by rw [HE.out]; rfl, HB.out⟩
    | i + 3, HK, HP, HC => exact absurd HK.out (by omega)
theorem strsN {n : Nat} {w : World} {base : Nat} {ok : Nat → Prop} {v : Value} {l : List ByteArray} (h : Kd.R Kd.string 9 w base ok v l) (hl : l.length = n) (hn : 0 < n) : ∃ gL cap, v = .slice (some ⟨gL, 0, none⟩) n cap ∧ ∀ j : Nat, j < n → w.cell? ⟨gL, j, none⟩ = some (.string (rdOf ByteArray.empty l (j : Int))) := by
  obtain ⟨g, cap, rfl, _, _, _⟩ := Kd.R_form h (by omega)
  have hC := (Kd.R_reads' h).2.2
  refine ⟨g, cap, by rw [hl], fun j hj => ?_⟩
  obtain ⟨ad, e, hx⟩ := Kd.at_string hC (j : Int) (by omega) (by omega)
  cases e
  rw [Int.toNat_natCast] at hx
  have e2 : (⟨g, 0, none⟩ : Addr).add j = ⟨g, j, none⟩ := by
    unfold Addr.add
    split <;> simp_all
  rwa [e2] at hx
theorem prs_cons {k : Nat} {x : ByteArray} {r : List ByteArray} {o : Option (List Int)} (h : prsNums k (x :: r) = some o) : ∃ q, words_Int.f k x = some q ∧ ((q.2 ≠ 0 ∧ o = none) ∨ (q.2 = 0 ∧ ∃ o', prsNums k r = some o' ∧ o = o'.map (q.1 :: ·))) := by
  unfold prsNums at h
  obtain ⟨q, hq, h⟩ := Option.bind_eq_some_iff.1 h
  refine ⟨q, hq, ?_⟩
  by_cases c : q.2 = 0
  · rw [if_pos c] at h
    obtain ⟨o', h1, h2⟩ := Option.bind_eq_some_iff.1 h
    exact Or.inr ⟨c, o', h1, (Option.some.inj h2).symm⟩
  · rw [if_neg c] at h
    exact Or.inl ⟨c, (Option.some.inj h).symm⟩
theorem ts_at {l : List ByteArray} (hl : l.length = 7) (i : Nat) (hi : i < 5) : ((l.drop 1).take 5).drop i = rdOf ByteArray.empty l ((i + 1 : Nat) : Int) :: ((l.drop 1).take 5).drop (i + 1) := by
  have h1 : i < ((l.drop 1).take 5).length := by simp; omega
  rw [(List.getElem_cons_drop h1).symm]
  congr 1
  have h2 : i + 1 < l.length := by omega
  simp [rdOf, h2, Nat.add_comm]
def arrV (xs : List Int) : Array Value := ((xs ++ List.replicate (5 - xs.length) 0).map (Value.int .i64)).toArray
theorem arrV_at {xs : List Int} (h : xs.length ≤ 5) (j : Nat) (hj : j < 5) : ∃ x, (arrV xs)[j]? = some (.int .i64 x) := by
  unfold arrV
  have : j < (xs ++ List.replicate (5 - xs.length) 0).length := by simp; omega
  exact ⟨_, by rw [List.getElem?_toArray, List.getElem?_map, List.getElem?_eq_getElem this]; rfl⟩
theorem arrV_full {xs : List Int} (h : xs.length = 5) (j : Nat) (hj : j < 5) : (arrV xs)[j]? = some (.int .i64 (rd xs (j : Int))) := by
  unfold arrV
  have h1 : j < xs.length := by omega
  have h2 : rd xs (j : Int) = xs[j] := by simp [rd, h1]
  rw [h2, h, Nat.sub_self, List.replicate_zero, List.append_nil, List.getElem?_toArray, List.getElem?_map, List.getElem?_eq_getElem h1]
  rfl
theorem arrV_set {xs : List Int} (x : Int) (i : Nat) (hi : xs.length = i) (h5 : i < 5) : (arrV xs).setIfInBounds i (.int .i64 x) = arrV (xs ++ [x]) := by
  apply Array.ext_getElem?
  intro j
  rw [Array.getElem?_setIfInBounds]
  unfold arrV
  by_cases c : i = j
  · subst c
    have : i < (xs ++ List.replicate (5 - xs.length) 0).length := by simp; omega
    subst hi
    simp
    omega
  · rw [if_neg c]
    simp only [List.getElem?_toArray, List.getElem?_map]
    congr 1
    by_cases c2 : j < i
    · rw [List.getElem?_append_left (by omega), List.append_assoc, List.getElem?_append_left (by omega)]
    · rw [List.getElem?_append_right (by omega), List.getElem?_append_right (by simp; omega)]
      simp only [List.getElem?_replicate, List.length_append, List.length_cons, List.length_nil]
      by_cases c3 : j - xs.length < 5 - xs.length
      · rw [if_pos c3, if_pos (by omega)]
      · rw [if_neg c3, if_neg (by omega)]
def prs.T18 : Bool × List (List Nat × List Nat) := (true, [([], []), ([0], [0]), ([1], [1]), ([], []), ([3], [3]), ([], []), ([5], [5]), ([], []), ([7], [7]), ([], []), ([9], [9]), ([], []), ([11], [11]), ([], []), ([2, 4, 6, 8, 10, 12, 13], [2, 4, 6, 8, 10, 12, 13]), ([], []), ([15, 14, 0, 1, 2, 3, 4, 5, 6, 7, 8, 9, 10, 11, 12, 13, 14, 15], [14, 15])])
def prs.B18 : List Nat := [0, 1, 3, 0, 8, 0, 32, 0, 128, 0, 512, 0, 2048, 0, 16383, 0, 65535]
theorem prs.tab18 : rtab .any (opsOf Tryz.f14 18) = prs.T18 := by kernel_rfl
theorem prs.bits18 : waitsOk prs.T18.2 prs.B18 = true := by kernel_rfl
set_option maxHeartbeats 12800000 in
set_option maxRecDepth 100000 in
theorem product_Parse.calls (k : Nat) (a0 : ByteArray) (r1 : ByteArray) (r2 r3 r4 r5 r6 : Int) (r7 : Bool) (r8 : Int) (w : World) (h : product_Parse.f k a0 = some (r1, r2, r3, r4, r5, r6, r7, r8)) :
    Calls Tryz.prog 14 #[.string a0] w fun e w' => e = .returned (.tuple #[.agg #[.string r1, .int .i64 r2, .int .i64 r3, .int .i64 r4, .int .i64 r5, .int .i64 r6, .bool r7], .int .i64 r8]) ∧ Below w.heap.size w w' := by
  unfold product_Parse.f at h
  obtain ⟨⟨l, e1⟩, hF, h⟩ := Option.bind_eq_some_iff.1 h
  have HF := Aside0.mk hF
  dsimp only at h
  have HBA := Aside0.mk (below_alloc (Below.refl w.heap.size w) (.cells #[.string (⟨#[]⟩ : ByteArray), .int .i64 0, .int .i64 0, .int .i64 0, .int .i64 0, .int .i64 0, .bool false] 50))
  clear hF
  by_cases c1 : e1 = 0
  case neg =>
    rw [if_neg c1] at h
    simp only [Option.some.injEq, Prod.mk.injEq] at h
    obtain ⟨rfl, rfl, rfl, rfl, rfl, rfl, rfl, rfl⟩ := h
    have hne : (e1 != 0) = true := bne_iff_ne.2 c1
    clear c1
    go_enter Tryz.func14, Tryz.ntmps14
    go_wp2_with (go_at_call 9; refine (words_Fields.calls k a0 l _ _ HF.out).mono ?_; rintro e w1 ⟨v0, rfl, ho, hb⟩; obtain ⟨A1, cc1, rfl⟩ := Kd.R_slice ho; have hG := blk_below (blk_new w (.cells #[.string (⟨#[]⟩ : ByteArray), .int .i64 0, .int .i64 0, .int .i64 0, .int .i64 0, .int .i64 0, .bool false] 50)) hb; have hfc0 : ∀ o_, (w1.alloc o_).cell? ⟨w.heap.size, 0, none⟩ = some (.string (⟨#[]⟩ : ByteArray)) := fun o_ => blk_cell (blk_alloc hG o_) 0; have hf0 : ∀ o_, (w1.alloc o_).frozen? ⟨w.heap.size, 0, none⟩ = false := fun o_ => blk_frozen (blk_alloc hG o_) 0; have hfc1 : ∀ o_, (w1.alloc o_).cell? ⟨w.heap.size, 1, none⟩ = some (.int .i64 0) := fun o_ => blk_cell (blk_alloc hG o_) 1; have hf1 : ∀ o_, (w1.alloc o_).frozen? ⟨w.heap.size, 1, none⟩ = false := fun o_ => blk_frozen (blk_alloc hG o_) 1; have hfc2 : ∀ o_, (w1.alloc o_).cell? ⟨w.heap.size, 2, none⟩ = some (.int .i64 0) := fun o_ => blk_cell (blk_alloc hG o_) 2; have hf2 : ∀ o_, (w1.alloc o_).frozen? ⟨w.heap.size, 2, none⟩ = false := fun o_ => blk_frozen (blk_alloc hG o_) 2; have hfc3 : ∀ o_, (w1.alloc o_).cell? ⟨w.heap.size, 3, none⟩ = some (.int .i64 0) := fun o_ => blk_cell (blk_alloc hG o_) 3; have hf3 : ∀ o_, (w1.alloc o_).frozen? ⟨w.heap.size, 3, none⟩ = false := fun o_ => blk_frozen (blk_alloc hG o_) 3; have hfc4 : ∀ o_, (w1.alloc o_).cell? ⟨w.heap.size, 4, none⟩ = some (.int .i64 0) := fun o_ => blk_cell (blk_alloc hG o_) 4; have hf4 : ∀ o_, (w1.alloc o_).frozen? ⟨w.heap.size, 4, none⟩ = false := fun o_ => blk_frozen (blk_alloc hG o_) 4; have hfc5 : ∀ o_, (w1.alloc o_).cell? ⟨w.heap.size, 5, none⟩ = some (.int .i64 0) := fun o_ => blk_cell (blk_alloc hG o_) 5; have hf5 : ∀ o_, (w1.alloc o_).frozen? ⟨w.heap.size, 5, none⟩ = false := fun o_ => blk_frozen (blk_alloc hG o_) 5; have hfc6 : ∀ o_, (w1.alloc o_).cell? ⟨w.heap.size, 6, none⟩ = some (.bool false) := fun o_ => blk_cell (blk_alloc hG o_) 6; have hf6 : ∀ o_, (w1.alloc o_).frozen? ⟨w.heap.size, 6, none⟩ = false := fun o_ => blk_frozen (blk_alloc hG o_) 6; have HG := Aside0.mk hG; have HB := Aside0.mk (below_step HBA.out hb); clear hb ho hG)
    refine bodyPost_ret (results_ct rfl _ _ w.heap.size 50 #[.string (⟨#[]⟩ : ByteArray), .int .i64 0, .int .i64 0, .int .i64 0, .int .i64 0, .int .i64 0, .bool false] (0, 0) _ rfl (blk_set (blk_set (blk_set (blk_set (blk_set (blk_set (blk_set (blk_alloc HG.out _) 0 _) 1 _) 2 _) 3 _) 4 _) 5 _) 6 _) Tryz.underlying50 rfl (by kernel_rfl)) rfl ⟨rfl, (Below.setCell (Below.setCell (Below.setCell (Below.setCell (Below.setCell (Below.setCell (Below.setCell (below_alloc HB.out _) (p := ⟨w.heap.size, 0, none⟩) (Nat.le_refl _) _) (p := ⟨w.heap.size, 1, none⟩) (Nat.le_refl _) _) (p := ⟨w.heap.size, 2, none⟩) (Nat.le_refl _) _) (p := ⟨w.heap.size, 3, none⟩) (Nat.le_refl _) _) (p := ⟨w.heap.size, 4, none⟩) (Nat.le_refl _) _) (p := ⟨w.heap.size, 5, none⟩) (Nat.le_refl _) _) (p := ⟨w.heap.size, 6, none⟩) (Nat.le_refl _) _)⟩
  subst c1
  rw [if_pos rfl] at h
  by_cases c2 : l.length = 7
  case neg =>
    rw [if_neg c2] at h
    simp only [Option.some.injEq, Prod.mk.injEq] at h
    obtain ⟨rfl, rfl, rfl, rfl, rfl, rfl, rfl, rfl⟩ := h
    have hne : ((l.length : Int) != 7) = true := bne_iff_ne.2 (by omega)
    clear c2
    go_enter Tryz.func14, Tryz.ntmps14
    go_wp2_with (go_at_call 9; refine (words_Fields.calls k a0 l _ _ HF.out).mono ?_; rintro e w1 ⟨v0, rfl, ho, hb⟩; obtain ⟨A1, cc1, rfl⟩ := Kd.R_slice ho; have hG := blk_below (blk_new w (.cells #[.string (⟨#[]⟩ : ByteArray), .int .i64 0, .int .i64 0, .int .i64 0, .int .i64 0, .int .i64 0, .bool false] 50)) hb; have hfc0 : ∀ o_, (w1.alloc o_).cell? ⟨w.heap.size, 0, none⟩ = some (.string (⟨#[]⟩ : ByteArray)) := fun o_ => blk_cell (blk_alloc hG o_) 0; have hf0 : ∀ o_, (w1.alloc o_).frozen? ⟨w.heap.size, 0, none⟩ = false := fun o_ => blk_frozen (blk_alloc hG o_) 0; have hfc1 : ∀ o_, (w1.alloc o_).cell? ⟨w.heap.size, 1, none⟩ = some (.int .i64 0) := fun o_ => blk_cell (blk_alloc hG o_) 1; have hf1 : ∀ o_, (w1.alloc o_).frozen? ⟨w.heap.size, 1, none⟩ = false := fun o_ => blk_frozen (blk_alloc hG o_) 1; have hfc2 : ∀ o_, (w1.alloc o_).cell? ⟨w.heap.size, 2, none⟩ = some (.int .i64 0) := fun o_ => blk_cell (blk_alloc hG o_) 2; have hf2 : ∀ o_, (w1.alloc o_).frozen? ⟨w.heap.size, 2, none⟩ = false := fun o_ => blk_frozen (blk_alloc hG o_) 2; have hfc3 : ∀ o_, (w1.alloc o_).cell? ⟨w.heap.size, 3, none⟩ = some (.int .i64 0) := fun o_ => blk_cell (blk_alloc hG o_) 3; have hf3 : ∀ o_, (w1.alloc o_).frozen? ⟨w.heap.size, 3, none⟩ = false := fun o_ => blk_frozen (blk_alloc hG o_) 3; have hfc4 : ∀ o_, (w1.alloc o_).cell? ⟨w.heap.size, 4, none⟩ = some (.int .i64 0) := fun o_ => blk_cell (blk_alloc hG o_) 4; have hf4 : ∀ o_, (w1.alloc o_).frozen? ⟨w.heap.size, 4, none⟩ = false := fun o_ => blk_frozen (blk_alloc hG o_) 4; have hfc5 : ∀ o_, (w1.alloc o_).cell? ⟨w.heap.size, 5, none⟩ = some (.int .i64 0) := fun o_ => blk_cell (blk_alloc hG o_) 5; have hf5 : ∀ o_, (w1.alloc o_).frozen? ⟨w.heap.size, 5, none⟩ = false := fun o_ => blk_frozen (blk_alloc hG o_) 5; have hfc6 : ∀ o_, (w1.alloc o_).cell? ⟨w.heap.size, 6, none⟩ = some (.bool false) := fun o_ => blk_cell (blk_alloc hG o_) 6; have hf6 : ∀ o_, (w1.alloc o_).frozen? ⟨w.heap.size, 6, none⟩ = false := fun o_ => blk_frozen (blk_alloc hG o_) 6; have HG := Aside0.mk hG; have HB := Aside0.mk (below_step HBA.out hb); clear hb ho hG)
    refine bodyPost_ret (results_ct rfl _ _ w.heap.size 50 #[.string (⟨#[]⟩ : ByteArray), .int .i64 0, .int .i64 0, .int .i64 0, .int .i64 0, .int .i64 0, .bool false] (0, 0) _ rfl (blk_set (blk_set (blk_set (blk_set (blk_set (blk_set (blk_set (blk_alloc HG.out _) 0 _) 1 _) 2 _) 3 _) 4 _) 5 _) 6 _) Tryz.underlying50 rfl (by kernel_rfl)) rfl ⟨rfl, (Below.setCell (Below.setCell (Below.setCell (Below.setCell (Below.setCell (Below.setCell (Below.setCell (below_alloc HB.out _) (p := ⟨w.heap.size, 0, none⟩) (Nat.le_refl _) _) (p := ⟨w.heap.size, 1, none⟩) (Nat.le_refl _) _) (p := ⟨w.heap.size, 2, none⟩) (Nat.le_refl _) _) (p := ⟨w.heap.size, 3, none⟩) (Nat.le_refl _) _) (p := ⟨w.heap.size, 4, none⟩) (Nat.le_refl _) _) (p := ⟨w.heap.size, 5, none⟩) (Nat.le_refl _) _) (p := ⟨w.heap.size, 6, none⟩) (Nat.le_refl _) _)⟩
  rw [if_pos c2] at h
  obtain ⟨o, hN, h⟩ := Option.bind_eq_some_iff.1 h
  have HH := Aside0.mk h
  have HN := Aside0.mk hN
  have HL7 := Aside0.mk c2
  clear h hN c2
  go_enter Tryz.func14, Tryz.ntmps14
  go_wp2_with (go_at_call 9; refine (words_Fields.calls k a0 l 0 _ HF.out).mono ?_; rintro e w1 ⟨v0, rfl, ho, hb⟩; obtain ⟨gL, cap, rfl, hcs⟩ := strsN ho HL7.out (by omega); obtain ⟨wB, hwB⟩ : ∃ x, w1.alloc (.cells #[.slice (some ⟨gL, 0, none⟩) 7 cap] 41) = x := ⟨_, rfl⟩; have HWB := Aside0.mk hwB; have HSZ := Aside0.mk (show wB.heap.size = w1.heap.size + 1 by rw [← hwB]; simp); have HG := Aside0.mk (show wB.heap[w.heap.size]? = some (.cells #[.string (⟨#[]⟩ : ByteArray), .int .i64 0, .int .i64 0, .int .i64 0, .int .i64 0, .int .i64 0, .bool false] 50 (0, 0)) by rw [← hwB]; exact blk_alloc (blk_below (blk_new w _) hb) _); have HP := Aside0.mk (show wB.heap[w1.heap.size]? = some (.cells #[.slice (some ⟨gL, 0, none⟩) 7 cap] 41 (0, 0)) by rw [← hwB]; exact blk_new _ _); have HC := Aside0.mk (show ∀ j : Nat, j < 7 → wB.cell? ⟨gL, j, none⟩ = some (.string (rdOf ByteArray.empty l (j : Int))) by rw [← hwB]; exact fun j hj => ((below_alloc (Below.refl w1.heap.size w1) _).cell (World.block_lt_of_cell? w1 _ (hcs j hj))).trans (hcs j hj)); have HB := Aside0.mk (show Below w.heap.size w wB by rw [← hwB]; exact below_alloc (below_step HBA.out hb) _); clear hb ho hcs hwB)
  rw [HWB.out]
  clear HWB HBA HF
  go_loopg [27] 5 (fun kq v27 wr => ∃ (i : Nat) (xs : List Int), v27 = .int .i64 (i : Int) ∧ Aside0 (kq + i = 5) ∧ Aside0 (xs.length = i) ∧ Aside0 (∃ o', prsNums k (((l.drop 1).take 5).drop i) = some o' ∧ o'.map (xs ++ ·) = o) ∧ Aside0 (wr.heap[w1.heap.size + 1]? = some (.cells (arrV xs) 86 (0, 0))) ∧ Aside0 (Below wB.heap.size wB wr))
  case atStart => exact ⟨0, [], rfl, ⟨by omega⟩, ⟨rfl⟩, ⟨o, HN.out, by cases o <;> rfl⟩, ⟨by rw [← HSZ.out]; exact blk_new _ _⟩, ⟨below_alloc (Below.refl _ _) _⟩⟩
  case round =>
    obtain ⟨i, xs, rfl, HK, HX, HO, HA, HB2⟩ := hrel
    have hP : wr.cell? ⟨w1.heap.size, 0, none⟩ = some (.slice (some ⟨gL, 0, none⟩) 7 cap) := (HB2.out.cell (World.block_lt_of_cell? wB _ (blk_cell HP.out 0))).trans (blk_cell HP.out 0)
    by_cases hi : i < 5
    · obtain ⟨o', h1, h2⟩ := HO.out
      rw [ts_at HL7.out i hi, Nat.add_comm i 1] at h1
      obtain ⟨q, hq, hr⟩ := prs_cons h1
      have hx := (HB2.out.cell (World.block_lt_of_cell? wB _ (HC.out (i + 1) (by omega)))).trans (HC.out (i + 1) (by omega))
      rw [Nat.add_comm i 1] at hx
      have hw1 : wrap64 (1 + (i : Int)) = 1 + (i : Int) := by unfold wrap64; omega
      generalize rdOf ByteArray.empty l ((1 + i : Nat) : Int) = x at hx hq h1
      have hib : (i : Int) < 5 := by omega
      have hi0 : (0 : Int) ≤ (i : Int) := by omega
      have hi7 : 1 + (i : Int) < 7 := by omega
      have hi1 : (0 : Int) ≤ 1 + (i : Int) := by omega
      have HQ := Aside0.mk hq
      clear h1 hq
      rcases hr with ⟨hq2, ho'⟩ | ⟨hq2, o'', h3, ho'⟩
      · subst ho'
        have ho : o = none := by rw [← h2]; rfl
        have hh := HH.out
        rw [ho] at hh
        simp only [product_Parse.g, Option.some.injEq, Prod.mk.injEq] at hh
        obtain ⟨rfl, rfl, rfl, rfl, rfl, rfl, rfl, rfl⟩ := hh
        have hne : (q.2 != 0) = true := bne_iff_ne.2 hq2
        clear ho h2 hq2
        go_wp2_with (go_at_call 40; refine (words_Int.calls k x q.1 q.2 _ HQ.out).mono ?_; rintro e5 w5 ⟨rfl, hd⟩; have hb5 := hd.below; have hG := blk_below (blk_below HG.out HB2.out) hb5; have hfc0 : w5.cell? ⟨w.heap.size, 0, none⟩ = some (.string (⟨#[]⟩ : ByteArray)) := blk_cell hG 0; have hf0 : w5.frozen? ⟨w.heap.size, 0, none⟩ = false := blk_frozen hG 0; have hfc1 : w5.cell? ⟨w.heap.size, 1, none⟩ = some (.int .i64 0) := blk_cell hG 1; have hf1 : w5.frozen? ⟨w.heap.size, 1, none⟩ = false := blk_frozen hG 1; have hfc2 : w5.cell? ⟨w.heap.size, 2, none⟩ = some (.int .i64 0) := blk_cell hG 2; have hf2 : w5.frozen? ⟨w.heap.size, 2, none⟩ = false := blk_frozen hG 2; have hfc3 : w5.cell? ⟨w.heap.size, 3, none⟩ = some (.int .i64 0) := blk_cell hG 3; have hf3 : w5.frozen? ⟨w.heap.size, 3, none⟩ = false := blk_frozen hG 3; have hfc4 : w5.cell? ⟨w.heap.size, 4, none⟩ = some (.int .i64 0) := blk_cell hG 4; have hf4 : w5.frozen? ⟨w.heap.size, 4, none⟩ = false := blk_frozen hG 4; have hfc5 : w5.cell? ⟨w.heap.size, 5, none⟩ = some (.int .i64 0) := blk_cell hG 5; have hf5 : w5.frozen? ⟨w.heap.size, 5, none⟩ = false := blk_frozen hG 5; have hfc6 : w5.cell? ⟨w.heap.size, 6, none⟩ = some (.bool false) := blk_cell hG 6; have hf6 : w5.frozen? ⟨w.heap.size, 6, none⟩ = false := blk_frozen hG 6; have HG5 := Aside0.mk hG; have HB5 := Aside0.mk (below_step (below_step HB.out HB2.out) hb5); clear hb5 hd hG)
        refine bodyPost_ret (results_ct rfl _ _ w.heap.size 50 #[.string (⟨#[]⟩ : ByteArray), .int .i64 0, .int .i64 0, .int .i64 0, .int .i64 0, .int .i64 0, .bool false] (0, 0) _ rfl (blk_set (blk_set (blk_set (blk_set (blk_set (blk_set (blk_set (HG5.out) 0 _) 1 _) 2 _) 3 _) 4 _) 5 _) 6 _) Tryz.underlying50 rfl (by kernel_rfl)) rfl ⟨rfl, (Below.setCell (Below.setCell (Below.setCell (Below.setCell (Below.setCell (Below.setCell (Below.setCell HB5.out (p := ⟨w.heap.size, 0, none⟩) (Nat.le_refl _) _) (p := ⟨w.heap.size, 1, none⟩) (Nat.le_refl _) _) (p := ⟨w.heap.size, 2, none⟩) (Nat.le_refl _) _) (p := ⟨w.heap.size, 3, none⟩) (Nat.le_refl _) _) (p := ⟨w.heap.size, 4, none⟩) (Nat.le_refl _) _) (p := ⟨w.heap.size, 5, none⟩) (Nat.le_refl _) _) (p := ⟨w.heap.size, 6, none⟩) (Nat.le_refl _) _)⟩
      · have HQ2 := Aside0.mk hq2
        have hne : (q.2 != 0) = false := by rw [HQ2.out]; rfl
        have HO2 := Aside0.mk (show ∃ o', prsNums k (((l.drop 1).take 5).drop (i + 1)) = some o' ∧ o'.map ((xs ++ [q.1]) ++ ·) = o from ⟨o'', by rw [Nat.add_comm i 1]; exact h3, by rw [← h2, ho']; cases o'' <;> simp⟩)
        have hy := arrV_at (xs := xs) (by have := HX.out; omega) i hi
        clear h2 ho' h3 hq2
        obtain ⟨y, hy⟩ := hy
        have HY := Aside0.mk hy
        have HI := Aside0.mk hi
        clear hy hi
        go_wp2_with (go_at_call 40; refine (words_Int.calls k x q.1 q.2 _ HQ.out).mono ?_; rintro e5 w5 ⟨rfl, hd⟩; have hb5 := hd.below; have hA := blk_below HA.out hb5; have hc5 : w5.cell? ⟨w1.heap.size + 1, i, none⟩ = some (.int .i64 y) := (blk_cell hA i).trans HY.out; have hf5 : w5.frozen? ⟨w1.heap.size + 1, i, none⟩ = false := blk_frozen hA i; have HA5 := Aside0.mk hA; have HB5 := Aside0.mk (below_step HB2.out hb5); clear hb5 hd hA)
        go_roundg (gk - 1)
        case measure => have := HK.out; have := HI.out; omega
        case rel =>
          refine ⟨i + 1, xs ++ [q.1], by go_num, ⟨by have := HK.out; have := HI.out; omega⟩, ⟨by have := HX.out; simp; omega⟩, HO2, ⟨?_⟩, ⟨Below.setCell HB5.out (p := ⟨w1.heap.size + 1, i, none⟩) (Nat.le_of_eq HSZ.out) _⟩⟩
          rw [← arrV_set q.1 i HX.out HI.out]
          exact blk_set HA5.out i _
    · obtain ⟨o', h1, h2⟩ := HO.out
      have hi5 : i = 5 := by have := HK.out; omega
      subst hi5
      have e0 : ((l.drop 1).take 5).drop 5 = [] := List.drop_of_length_le (by simp; omega)
      rw [e0] at h1
      obtain rfl := Option.some.inj h1
      have ho : o = some xs := by rw [← h2]; simp
      have hh := HH.out
      rw [ho] at hh
      dsimp only [product_Parse.g] at hh
      have hx6 : wr.cell? ⟨gL, 6, none⟩ = some (.string (rdOf ByteArray.empty l 6)) := (HB2.out.cell (World.block_lt_of_cell? wB _ (HC.out 6 (by omega)))).trans (HC.out 6 (by omega))
      have HX6 := Aside0.mk hx6
      have HP2 := Aside0.mk (blk_below HP.out HB2.out)
      clear h1 h2 e0 hx6 ho hi
      have HXS := Aside0.mk (show xs.length = 5 from HX.out)
      have hc0 : wr.cell? ⟨gL, 0, none⟩ = some (.string (rdOf ByteArray.empty l 0)) := (HB2.out.cell (World.block_lt_of_cell? wB _ (HC.out 0 (by omega)))).trans (HC.out 0 (by omega))
      have HC0 := Aside0.mk hc0
      clear hc0
      have HBW := Aside0.mk (below_step HB.out HB2.out)
      have HG2 := Aside0.mk (blk_below HG.out HB2.out)
      have HAL := Aside0.mk (fun o_ => ((below_alloc (Below.refl wr.heap.size wr) o_).cell (World.block_lt_of_cell? wr _ HX6.out)).trans HX6.out)
      generalize rdOf ByteArray.empty l 6 = s6 at hh HX6 HAL
      generalize rdOf ByteArray.empty l 0 = s0 at hh HC0
      clear HO HH HN HK
      cases hpk : prsKind s6 with
      | none =>
        rw [hpk, if_neg (by decide)] at hh
        simp only [Option.some.injEq, Prod.mk.injEq] at hh
        obtain ⟨rfl, rfl, rfl, rfl, rfl, rfl, rfl, rfl⟩ := hh
        have HPK := Aside0.mk hpk
        clear hpk
        go_wp2_with (go_at_call 43; refine (firstB_calls wr.heap.size w1.heap.size gL cap s6 _ (blk_new wr _) (blk_alloc HP2.out _) (HAL.out _)).mono ?_; rw [HPK.out]; simp only [kb, Option.isSome_none]; rintro e5 w5 ⟨rfl, hb5⟩; have hG := blk_below (blk_alloc HG2.out _) hb5; have hfc0 : w5.cell? ⟨w.heap.size, 0, none⟩ = some (.string (⟨#[]⟩ : ByteArray)) := blk_cell hG 0; have hf0 : w5.frozen? ⟨w.heap.size, 0, none⟩ = false := blk_frozen hG 0; have hfc1 : w5.cell? ⟨w.heap.size, 1, none⟩ = some (.int .i64 0) := blk_cell hG 1; have hf1 : w5.frozen? ⟨w.heap.size, 1, none⟩ = false := blk_frozen hG 1; have hfc2 : w5.cell? ⟨w.heap.size, 2, none⟩ = some (.int .i64 0) := blk_cell hG 2; have hf2 : w5.frozen? ⟨w.heap.size, 2, none⟩ = false := blk_frozen hG 2; have hfc3 : w5.cell? ⟨w.heap.size, 3, none⟩ = some (.int .i64 0) := blk_cell hG 3; have hf3 : w5.frozen? ⟨w.heap.size, 3, none⟩ = false := blk_frozen hG 3; have hfc4 : w5.cell? ⟨w.heap.size, 4, none⟩ = some (.int .i64 0) := blk_cell hG 4; have hf4 : w5.frozen? ⟨w.heap.size, 4, none⟩ = false := blk_frozen hG 4; have hfc5 : w5.cell? ⟨w.heap.size, 5, none⟩ = some (.int .i64 0) := blk_cell hG 5; have hf5 : w5.frozen? ⟨w.heap.size, 5, none⟩ = false := blk_frozen hG 5; have hfc6 : w5.cell? ⟨w.heap.size, 6, none⟩ = some (.bool false) := blk_cell hG 6; have hf6 : w5.frozen? ⟨w.heap.size, 6, none⟩ = false := blk_frozen hG 6; have HG5 := Aside0.mk hG; have HB5 := Aside0.mk (below_step (below_alloc HBW.out _) hb5); clear hb5 hG)
        refine bodyPost_ret (results_ct rfl _ _ w.heap.size 50 #[.string (⟨#[]⟩ : ByteArray), .int .i64 0, .int .i64 0, .int .i64 0, .int .i64 0, .int .i64 0, .bool false] (0, 0) _ rfl (blk_set (blk_set (blk_set (blk_set (blk_set (blk_set (blk_set (HG5.out) 0 _) 1 _) 2 _) 3 _) 4 _) 5 _) 6 _) Tryz.underlying50 rfl (by kernel_rfl)) rfl ⟨rfl, (Below.setCell (Below.setCell (Below.setCell (Below.setCell (Below.setCell (Below.setCell (Below.setCell HB5.out (p := ⟨w.heap.size, 0, none⟩) (Nat.le_refl _) _) (p := ⟨w.heap.size, 1, none⟩) (Nat.le_refl _) _) (p := ⟨w.heap.size, 2, none⟩) (Nat.le_refl _) _) (p := ⟨w.heap.size, 3, none⟩) (Nat.le_refl _) _) (p := ⟨w.heap.size, 4, none⟩) (Nat.le_refl _) _) (p := ⟨w.heap.size, 5, none⟩) (Nat.le_refl _) _) (p := ⟨w.heap.size, 6, none⟩) (Nat.le_refl _) _)⟩
      | some b =>
        rw [hpk, if_pos (show (some b).isSome = true from rfl)] at hh
        obtain ⟨e2, hc, hh⟩ := Option.bind_eq_some_iff.1 hh
        have HPK := Aside0.mk hpk
        have HCK := Aside0.mk (show product_Check.f k s0 (rd xs 0) (rd xs 1) (rd xs 2) (rd xs 3) (rd xs 4) b = some e2 from hc)
        have hA0 := arrV_full HXS.out
        have HAF := Aside0.mk hA0
        clear hpk hc hA0
        go_wp2_with (go_at_call 43; refine (firstB_calls wr.heap.size w1.heap.size gL cap s6 _ (blk_new wr _) (blk_alloc HP2.out _) (HAL.out _)).mono ?_; rw [HPK.out]; simp only [kb, Option.isSome_some]; rintro e5 w5 ⟨rfl, hb5⟩; have HG5 := Aside0.mk (blk_below (blk_alloc HG2.out _) hb5); have HB5 := Aside0.mk (below_step (below_alloc HBW.out _) hb5); have hA := blk_below (blk_alloc HA.out _) hb5; have HA5 := Aside0.mk hA; have hP5 := blk_cell (blk_below (blk_alloc HP2.out _) hb5) 0; have hs0 := (hb5.cell (World.block_lt_of_cell? _ _ (((below_alloc (Below.refl wr.heap.size wr) _).cell (World.block_lt_of_cell? wr _ HC0.out)).trans HC0.out))).trans (((below_alloc (Below.refl wr.heap.size wr) _).cell (World.block_lt_of_cell? wr _ HC0.out)).trans HC0.out); have ha0 : w5.cell? ⟨w1.heap.size + 1, 0, none⟩ = some (.int .i64 (rd xs 0)) := (blk_cell hA 0).trans (HAF.out 0 (by omega)); have ha1 : w5.cell? ⟨w1.heap.size + 1, 1, none⟩ = some (.int .i64 (rd xs 1)) := (blk_cell hA 1).trans (HAF.out 1 (by omega)); have ha2 : w5.cell? ⟨w1.heap.size + 1, 2, none⟩ = some (.int .i64 (rd xs 2)) := (blk_cell hA 2).trans (HAF.out 2 (by omega)); have ha3 : w5.cell? ⟨w1.heap.size + 1, 3, none⟩ = some (.int .i64 (rd xs 3)) := (blk_cell hA 3).trans (HAF.out 3 (by omega)); have ha4 : w5.cell? ⟨w1.heap.size + 1, 4, none⟩ = some (.int .i64 (rd xs 4)) := (blk_cell hA 4).trans (HAF.out 4 (by omega)); have HP5 := Aside0.mk hP5; have HS0 := Aside0.mk hs0; clear hb5 hA hP5 hs0)
        have hS : w5.drew.cell? ⟨w1.heap.size, 0, none⟩ = some (.slice (some ⟨gL, 0, none⟩) 7 cap) ∧ w5.drew.cell? ⟨gL, 0, none⟩ = some (.string s0) ∧ w5.drew.cell? ⟨w1.heap.size + 1, 0, none⟩ = some (.int .i64 (rd xs 0)) ∧ w5.drew.cell? ⟨w1.heap.size + 1, 1, none⟩ = some (.int .i64 (rd xs 1)) ∧ w5.drew.cell? ⟨w1.heap.size + 1, 2, none⟩ = some (.int .i64 (rd xs 2)) ∧ w5.drew.cell? ⟨w1.heap.size + 1, 3, none⟩ = some (.int .i64 (rd xs 3)) ∧ w5.drew.cell? ⟨w1.heap.size + 1, 4, none⟩ = some (.int .i64 (rd xs 4)) := ⟨HP5.out, HS0.out, ha0, ha1, ha2, ha3, ha4⟩
        have HS := Aside0.mk hS
        have HGd := Aside0.mk (blk_drew HG5.out)
        have HBd := Aside0.mk (below_drew1 HB5.out)
        clear hS ha0 ha1 ha2 ha3 ha4
        refine start_ (n := 17) (S := fun w' => w'.cell? ⟨w1.heap.size, 0, none⟩ = some (.slice (some ⟨gL, 0, none⟩) 7 cap) ∧ w'.cell? ⟨gL, 0, none⟩ = some (.string s0) ∧ w'.cell? ⟨w1.heap.size + 1, 0, none⟩ = some (.int .i64 (rd xs 0)) ∧ w'.cell? ⟨w1.heap.size + 1, 1, none⟩ = some (.int .i64 (rd xs 1)) ∧ w'.cell? ⟨w1.heap.size + 1, 2, none⟩ = some (.int .i64 (rd xs 2)) ∧ w'.cell? ⟨w1.heap.size + 1, 3, none⟩ = some (.int .i64 (rd xs 3)) ∧ w'.cell? ⟨w1.heap.size + 1, 4, none⟩ = some (.int .i64 (rd xs 4))) (ds := []) #[false, false, false, false, false, false, false, false, false, false, false, false, false, false, false, false, false] (by kernel_rfl) rfl rfl HS.out (fun hHeld => ?_)
        refine with_tabW prs.tab18 prs.bits18 (fun HT_ HW_ => ?_)
        generalize w5.drew = wd at HGd HBd hHeld ⊢
        clear HS HP5 HS0 HG5 HB5 HA5
        refine take_ (i := 0) (N := some 55) (v := ?_) (a' := ?_) #[true, false, false, false, false, false, false, false, false, false, false, false, false, false, false, false, false] rfl rfl (take_ofW HT_.out HW_.out (by kernel_rfl)) (fun _ _ _ h => h) (Or.inl ⟨by rfl, ?_⟩) hHeld ?_ ?_
        rotate_left
        · rintro w' ⟨s0, s1, s2, s3, s4, s5, s6⟩
          go_simp
          with_reducible rfl
        rotate_left
        · simp only [Act.put, List.setIfInBounds_toArray, List.set_cons_zero, List.set_cons_succ, i64_w, i32_w]
          rfl
        refine pure_ (i := 1) (N := some 56) (v := ?_) (a' := ?_) #[true, true, false, false, false, false, false, false, false, false, false, false, false, false, false, false, false] rfl rfl (any_of HT_.out (by kernel_rfl)) (fun _ _ _ h => h) (Or.inl ⟨by rfl, ?_⟩) ?_ ?_
        rotate_left
        · intro w'
          go_simp
          with_reducible rfl
        rotate_left
        · simp only [Act.put, List.setIfInBounds_toArray, List.set_cons_zero, List.set_cons_succ, i64_w, i32_w]
          rfl
        refine take_ (i := 2) (N := some 57) (v := ?_) (a' := ?_) #[true, true, true, false, false, false, false, false, false, false, false, false, false, false, false, false, false] rfl rfl (take_ofW HT_.out HW_.out (by kernel_rfl)) (fun _ _ _ h => h) (Or.inl ⟨by rfl, ?_⟩) hHeld ?_ ?_
        rotate_left
        · rintro w' ⟨s0, s1, s2, s3, s4, s5, s6⟩
          go_simp
          with_reducible rfl
        rotate_left
        · simp only [Act.put, List.setIfInBounds_toArray, List.set_cons_zero, List.set_cons_succ, i64_w, i32_w]
          rfl
        refine pure_ (i := 3) (N := some 58) (v := ?_) (a' := ?_) #[true, true, true, true, false, false, false, false, false, false, false, false, false, false, false, false, false] rfl rfl (any_of HT_.out (by kernel_rfl)) (fun _ _ _ h => h) (Or.inl ⟨by rfl, ?_⟩) ?_ ?_
        rotate_left
        · intro w'
          go_simp
          with_reducible rfl
        rotate_left
        · simp only [Act.put, List.setIfInBounds_toArray, List.set_cons_zero, List.set_cons_succ, i64_w, i32_w]
          rfl
        refine take_ (i := 4) (N := some 59) (v := ?_) (a' := ?_) #[true, true, true, true, true, false, false, false, false, false, false, false, false, false, false, false, false] rfl rfl (take_ofW HT_.out HW_.out (by kernel_rfl)) (fun _ _ _ h => h) (Or.inl ⟨by rfl, ?_⟩) hHeld ?_ ?_
        rotate_left
        · rintro w' ⟨s0, s1, s2, s3, s4, s5, s6⟩
          go_simp
          with_reducible rfl
        rotate_left
        · simp only [Act.put, List.setIfInBounds_toArray, List.set_cons_zero, List.set_cons_succ, i64_w, i32_w]
          rfl
        refine pure_ (i := 5) (N := some 60) (v := ?_) (a' := ?_) #[true, true, true, true, true, true, false, false, false, false, false, false, false, false, false, false, false] rfl rfl (any_of HT_.out (by kernel_rfl)) (fun _ _ _ h => h) (Or.inl ⟨by rfl, ?_⟩) ?_ ?_
        rotate_left
        · intro w'
          go_simp
          with_reducible rfl
        rotate_left
        · simp only [Act.put, List.setIfInBounds_toArray, List.set_cons_zero, List.set_cons_succ, i64_w, i32_w]
          rfl
        refine take_ (i := 6) (N := some 61) (v := ?_) (a' := ?_) #[true, true, true, true, true, true, true, false, false, false, false, false, false, false, false, false, false] rfl rfl (take_ofW HT_.out HW_.out (by kernel_rfl)) (fun _ _ _ h => h) (Or.inl ⟨by rfl, ?_⟩) hHeld ?_ ?_
        rotate_left
        · rintro w' ⟨s0, s1, s2, s3, s4, s5, s6⟩
          go_simp
          with_reducible rfl
        rotate_left
        · simp only [Act.put, List.setIfInBounds_toArray, List.set_cons_zero, List.set_cons_succ, i64_w, i32_w]
          rfl
        refine pure_ (i := 7) (N := some 62) (v := ?_) (a' := ?_) #[true, true, true, true, true, true, true, true, false, false, false, false, false, false, false, false, false] rfl rfl (any_of HT_.out (by kernel_rfl)) (fun _ _ _ h => h) (Or.inl ⟨by rfl, ?_⟩) ?_ ?_
        rotate_left
        · intro w'
          go_simp
          with_reducible rfl
        rotate_left
        · simp only [Act.put, List.setIfInBounds_toArray, List.set_cons_zero, List.set_cons_succ, i64_w, i32_w]
          rfl
        refine take_ (i := 8) (N := some 63) (v := ?_) (a' := ?_) #[true, true, true, true, true, true, true, true, true, false, false, false, false, false, false, false, false] rfl rfl (take_ofW HT_.out HW_.out (by kernel_rfl)) (fun _ _ _ h => h) (Or.inl ⟨by rfl, ?_⟩) hHeld ?_ ?_
        rotate_left
        · rintro w' ⟨s0, s1, s2, s3, s4, s5, s6⟩
          go_simp
          with_reducible rfl
        rotate_left
        · simp only [Act.put, List.setIfInBounds_toArray, List.set_cons_zero, List.set_cons_succ, i64_w, i32_w]
          rfl
        refine pure_ (i := 9) (N := some 64) (v := ?_) (a' := ?_) #[true, true, true, true, true, true, true, true, true, true, false, false, false, false, false, false, false] rfl rfl (any_of HT_.out (by kernel_rfl)) (fun _ _ _ h => h) (Or.inl ⟨by rfl, ?_⟩) ?_ ?_
        rotate_left
        · intro w'
          go_simp
          with_reducible rfl
        rotate_left
        · simp only [Act.put, List.setIfInBounds_toArray, List.set_cons_zero, List.set_cons_succ, i64_w, i32_w]
          rfl
        refine take_ (i := 10) (N := some 65) (v := ?_) (a' := ?_) #[true, true, true, true, true, true, true, true, true, true, true, false, false, false, false, false, false] rfl rfl (take_ofW HT_.out HW_.out (by kernel_rfl)) (fun _ _ _ h => h) (Or.inl ⟨by rfl, ?_⟩) hHeld ?_ ?_
        rotate_left
        · rintro w' ⟨s0, s1, s2, s3, s4, s5, s6⟩
          go_simp
          with_reducible rfl
        rotate_left
        · simp only [Act.put, List.setIfInBounds_toArray, List.set_cons_zero, List.set_cons_succ, i64_w, i32_w]
          rfl
        refine pure_ (i := 11) (N := some 66) (v := ?_) (a' := ?_) #[true, true, true, true, true, true, true, true, true, true, true, true, false, false, false, false, false] rfl rfl (any_of HT_.out (by kernel_rfl)) (fun _ _ _ h => h) (Or.inl ⟨by rfl, ?_⟩) ?_ ?_
        rotate_left
        · intro w'
          go_simp
          with_reducible rfl
        rotate_left
        · simp only [Act.put, List.setIfInBounds_toArray, List.set_cons_zero, List.set_cons_succ, i64_w, i32_w]
          rfl
        refine take_ (i := 12) (N := some 67) (v := ?_) (a' := ?_) #[true, true, true, true, true, true, true, true, true, true, true, true, true, false, false, false, false] rfl rfl (take_ofW HT_.out HW_.out (by kernel_rfl)) (fun _ _ _ h => h) (Or.inl ⟨by rfl, ?_⟩) hHeld ?_ ?_
        rotate_left
        · rintro w' ⟨s0, s1, s2, s3, s4, s5, s6⟩
          go_simp
          with_reducible rfl
        rotate_left
        · simp only [Act.put, List.setIfInBounds_toArray, List.set_cons_zero, List.set_cons_succ, i64_w, i32_w]
          rfl
        refine pure_ (i := 13) (N := some 68) (v := ?_) (a' := ?_) #[true, true, true, true, true, true, true, true, true, true, true, true, true, true, false, false, false] rfl rfl (any_of HT_.out (by kernel_rfl)) (fun _ _ _ h => h) (Or.inl ⟨by rfl, ?_⟩) ?_ ?_
        rotate_left
        · intro w'
          go_simp
          with_reducible rfl
        rotate_left
        · simp only [Act.put, List.setIfInBounds_toArray, List.set_cons_zero, List.set_cons_succ, i64_w, i32_w]
          rfl
        refine pure_ (i := 14) (N := some 69) (v := ?_) (a' := ?_) #[true, true, true, true, true, true, true, true, true, true, true, true, true, true, true, false, false] rfl rfl (any_of HT_.out (by kernel_rfl)) (fun _ _ _ h => h) (Or.inl ⟨by rfl, ?_⟩) ?_ ?_
        rotate_left
        · intro w'
          go_simp
          with_reducible rfl
        rotate_left
        · simp only [Act.put, List.setIfInBounds_toArray, List.set_cons_zero, List.set_cons_succ, i64_w, i32_w]
          rfl
        have hHeld2 : ∀ o_, (wd.alloc o_).cell? ⟨w1.heap.size, 0, none⟩ = some (.slice (some ⟨gL, 0, none⟩) 7 cap) ∧ (wd.alloc o_).cell? ⟨gL, 0, none⟩ = some (.string s0) ∧ (wd.alloc o_).cell? ⟨w1.heap.size + 1, 0, none⟩ = some (.int .i64 (rd xs 0)) ∧ (wd.alloc o_).cell? ⟨w1.heap.size + 1, 1, none⟩ = some (.int .i64 (rd xs 1)) ∧ (wd.alloc o_).cell? ⟨w1.heap.size + 1, 2, none⟩ = some (.int .i64 (rd xs 2)) ∧ (wd.alloc o_).cell? ⟨w1.heap.size + 1, 3, none⟩ = some (.int .i64 (rd xs 3)) ∧ (wd.alloc o_).cell? ⟨w1.heap.size + 1, 4, none⟩ = some (.int .i64 (rd xs 4)) := by
          intro o_
          have al : ∀ {p : Addr} {v_ : Value}, wd.cell? p = some v_ → (wd.alloc o_).cell? p = some v_ := fun hp => ((below_alloc (Below.refl wd.heap.size wd) o_).cell (World.block_lt_of_cell? wd _ hp)).trans hp
          obtain ⟨q0, q1, q2, q3, q4, q5, q6⟩ := hHeld
          exact ⟨al q0, al q1, al q2, al q3, al q4, al q5, al q6⟩
        have HH2 := Aside0.mk hHeld2
        clear hHeld2
        refine one_ (i := 15) (N := some 12) #[true, true, true, true, true, true, true, true, true, true, true, true, true, true, true, true, false] rfl rfl (one_of HT_.out (by kernel_rfl)) (by decide) (fun K hK => ?_)
        rw [if_pos (by rfl)]
        unfold Oper.wp
        go_simp
        refine hK.out _ _ (HH2.out _) (fun hHeld => ?_)
        clear hK K
        refine one_ (i := 16) (N := none) #[true, true, true, true, true, true, true, true, true, true, true, true, true, true, true, true, true] rfl rfl (one_of HT_.out (by kernel_rfl)) (by decide) (fun K hK => ?_)
        rw [if_pos (by rfl)]
        unfold Oper.wp
        go_simp
        refine hK.out _ _ (HH2.out _) (fun hHeld => ?_)
        clear hK K
        refine done_ (done_of HT_.out (by kernel_rfl)) ?_
        clear HH2 HT_ HW_ hHeld
        by_cases c3 : e2 = 0
        · rw [if_pos c3] at hh
          subst c3
          simp only [Option.some.injEq, Prod.mk.injEq] at hh
          obtain ⟨rfl, rfl, rfl, rfl, rfl, rfl, rfl, rfl⟩ := hh
          go_wp2_with (go_at_call 46; refine (product_Check.calls k s0 (rd xs 0) (rd xs 1) (rd xs 2) (rd xs 3) (rd xs 4) b 0 _ HCK.out).mono ?_; rintro e6 w6 ⟨rfl, hb6⟩; have hG := blk_below (blk_alloc HGd.out _) hb6; have hfc0 : w6.cell? ⟨w.heap.size, 0, none⟩ = some (.string (⟨#[]⟩ : ByteArray)) := blk_cell hG 0; have hf0 : w6.frozen? ⟨w.heap.size, 0, none⟩ = false := blk_frozen hG 0; have hfc1 : w6.cell? ⟨w.heap.size, 1, none⟩ = some (.int .i64 0) := blk_cell hG 1; have hf1 : w6.frozen? ⟨w.heap.size, 1, none⟩ = false := blk_frozen hG 1; have hfc2 : w6.cell? ⟨w.heap.size, 2, none⟩ = some (.int .i64 0) := blk_cell hG 2; have hf2 : w6.frozen? ⟨w.heap.size, 2, none⟩ = false := blk_frozen hG 2; have hfc3 : w6.cell? ⟨w.heap.size, 3, none⟩ = some (.int .i64 0) := blk_cell hG 3; have hf3 : w6.frozen? ⟨w.heap.size, 3, none⟩ = false := blk_frozen hG 3; have hfc4 : w6.cell? ⟨w.heap.size, 4, none⟩ = some (.int .i64 0) := blk_cell hG 4; have hf4 : w6.frozen? ⟨w.heap.size, 4, none⟩ = false := blk_frozen hG 4; have hfc5 : w6.cell? ⟨w.heap.size, 5, none⟩ = some (.int .i64 0) := blk_cell hG 5; have hf5 : w6.frozen? ⟨w.heap.size, 5, none⟩ = false := blk_frozen hG 5; have hfc6 : w6.cell? ⟨w.heap.size, 6, none⟩ = some (.bool false) := blk_cell hG 6; have hf6 : w6.frozen? ⟨w.heap.size, 6, none⟩ = false := blk_frozen hG 6; have hN := blk_below (blk_new wd _) hb6; have hn0 : w6.cell? ⟨wd.heap.size, 0, none⟩ = some (.string s0) := blk_cell hN 0; have hn1 : w6.cell? ⟨wd.heap.size, 1, none⟩ = some (.int .i64 (rd xs 0)) := blk_cell hN 1; have hn2 : w6.cell? ⟨wd.heap.size, 2, none⟩ = some (.int .i64 (rd xs 1)) := blk_cell hN 2; have hn3 : w6.cell? ⟨wd.heap.size, 3, none⟩ = some (.int .i64 (rd xs 2)) := blk_cell hN 3; have hn4 : w6.cell? ⟨wd.heap.size, 4, none⟩ = some (.int .i64 (rd xs 3)) := blk_cell hN 4; have hn5 : w6.cell? ⟨wd.heap.size, 5, none⟩ = some (.int .i64 (rd xs 4)) := blk_cell hN 5; have hn6 : w6.cell? ⟨wd.heap.size, 6, none⟩ = some (.bool b) := blk_cell hN 6; have HG6 := Aside0.mk hG; have HB6 := Aside0.mk (below_step (below_alloc HBd.out _) hb6); clear hb6 hG hN)
          refine bodyPost_ret (results_ct rfl _ _ w.heap.size 50 #[.string s0, .int .i64 (rd xs 0), .int .i64 (rd xs 1), .int .i64 (rd xs 2), .int .i64 (rd xs 3), .int .i64 (rd xs 4), .bool b] (0, 0) _ rfl (blk_set (blk_set (blk_set (blk_set (blk_set (blk_set (blk_set (HG6.out) 0 _) 1 _) 2 _) 3 _) 4 _) 5 _) 6 _) Tryz.underlying50 rfl (by kernel_rfl)) rfl ⟨rfl, (Below.setCell (Below.setCell (Below.setCell (Below.setCell (Below.setCell (Below.setCell (Below.setCell HB6.out (p := ⟨w.heap.size, 0, none⟩) (Nat.le_refl _) _) (p := ⟨w.heap.size, 1, none⟩) (Nat.le_refl _) _) (p := ⟨w.heap.size, 2, none⟩) (Nat.le_refl _) _) (p := ⟨w.heap.size, 3, none⟩) (Nat.le_refl _) _) (p := ⟨w.heap.size, 4, none⟩) (Nat.le_refl _) _) (p := ⟨w.heap.size, 5, none⟩) (Nat.le_refl _) _) (p := ⟨w.heap.size, 6, none⟩) (Nat.le_refl _) _)⟩
        · rw [if_neg c3] at hh
          simp only [Option.some.injEq, Prod.mk.injEq] at hh
          obtain ⟨rfl, rfl, rfl, rfl, rfl, rfl, rfl, rfl⟩ := hh
          have hne : (e2 != 0) = true := bne_iff_ne.2 c3
          clear c3
          go_wp2_with (go_at_call 46; refine (product_Check.calls k s0 (rd xs 0) (rd xs 1) (rd xs 2) (rd xs 3) (rd xs 4) b e2 _ HCK.out).mono ?_; rintro e6 w6 ⟨rfl, hb6⟩; have hG := blk_below (blk_alloc HGd.out _) hb6; have hfc0 : w6.cell? ⟨w.heap.size, 0, none⟩ = some (.string (⟨#[]⟩ : ByteArray)) := blk_cell hG 0; have hf0 : w6.frozen? ⟨w.heap.size, 0, none⟩ = false := blk_frozen hG 0; have hfc1 : w6.cell? ⟨w.heap.size, 1, none⟩ = some (.int .i64 0) := blk_cell hG 1; have hf1 : w6.frozen? ⟨w.heap.size, 1, none⟩ = false := blk_frozen hG 1; have hfc2 : w6.cell? ⟨w.heap.size, 2, none⟩ = some (.int .i64 0) := blk_cell hG 2; have hf2 : w6.frozen? ⟨w.heap.size, 2, none⟩ = false := blk_frozen hG 2; have hfc3 : w6.cell? ⟨w.heap.size, 3, none⟩ = some (.int .i64 0) := blk_cell hG 3; have hf3 : w6.frozen? ⟨w.heap.size, 3, none⟩ = false := blk_frozen hG 3; have hfc4 : w6.cell? ⟨w.heap.size, 4, none⟩ = some (.int .i64 0) := blk_cell hG 4; have hf4 : w6.frozen? ⟨w.heap.size, 4, none⟩ = false := blk_frozen hG 4; have hfc5 : w6.cell? ⟨w.heap.size, 5, none⟩ = some (.int .i64 0) := blk_cell hG 5; have hf5 : w6.frozen? ⟨w.heap.size, 5, none⟩ = false := blk_frozen hG 5; have hfc6 : w6.cell? ⟨w.heap.size, 6, none⟩ = some (.bool false) := blk_cell hG 6; have hf6 : w6.frozen? ⟨w.heap.size, 6, none⟩ = false := blk_frozen hG 6; have HG6 := Aside0.mk hG; have HB6 := Aside0.mk (below_step (below_alloc HBd.out _) hb6); clear hb6 hG)
          refine bodyPost_ret (results_ct rfl _ _ w.heap.size 50 #[.string (⟨#[]⟩ : ByteArray), .int .i64 0, .int .i64 0, .int .i64 0, .int .i64 0, .int .i64 0, .bool false] (0, 0) _ rfl (blk_set (blk_set (blk_set (blk_set (blk_set (blk_set (blk_set (HG6.out) 0 _) 1 _) 2 _) 3 _) 4 _) 5 _) 6 _) Tryz.underlying50 rfl (by kernel_rfl)) rfl ⟨rfl, (Below.setCell (Below.setCell (Below.setCell (Below.setCell (Below.setCell (Below.setCell (Below.setCell HB6.out (p := ⟨w.heap.size, 0, none⟩) (Nat.le_refl _) _) (p := ⟨w.heap.size, 1, none⟩) (Nat.le_refl _) _) (p := ⟨w.heap.size, 2, none⟩) (Nat.le_refl _) _) (p := ⟨w.heap.size, 3, none⟩) (Nat.le_refl _) _) (p := ⟨w.heap.size, 4, none⟩) (Nat.le_refl _) _) (p := ⟨w.heap.size, 5, none⟩) (Nat.le_refl _) _) (p := ⟨w.heap.size, 6, none⟩) (Nat.le_refl _) _)⟩
def words_Join.f (l0 : List ByteArray) : Option (ByteArray) := (words_together.f (⟨#[32]⟩ : ByteArray) l0).bind fun t101 => (some t101)
set_option maxHeartbeats 8000000 in
set_option maxRecDepth 100000 in
theorem words_Join.calls (A0 : Option Addr) (c0 : Nat) (l0 : List ByteArray) (r : ByteArray) (w : World) (hr0 : Kd.C Kd.string w A0 l0.length l0) (hc0 : l0.length ≤ c0) (h : words_Join.f l0 = some r) :
    Calls Tryz.prog 11 #[.slice A0 l0.length c0] w fun e w' => e = .returned (.string r) ∧ Below w.heap.size w w' := by
  have HR0 := Aside0.mk hr0
  have HC0 := Aside0.mk hc0
  clear hr0 hc0
  have HB := Aside0.mk (Below.refl w.heap.size w)
  have H : ((words_together.f (⟨#[32]⟩ : ByteArray) l0).bind fun t101 => (some t101)) = some r := h
  clear h
  replace H := bnd H
  obtain ⟨t101, A20, H⟩ := H
  have A2 := Aside0.mk A20
  clear A20
  obtain rfl := Option.some.inj H
  go_enter Tryz.func11, Tryz.ntmps11
  go_wp2_with (first | ((with_reducible refine gate_callee (f := 36) rfl ?_); refine goesL_ (some 4) rfl rfl Tryz.func36 (by kernel_rfl) rfl #[.string (⟨#[32]⟩ : ByteArray), .slice A0 l0.length c0] rfl arg ?_; (with_reducible refine (words_together.calls (⟨#[32]⟩ : ByteArray) _ _ l0 t101 _ ?side1 ?side2 A2.out).mono ?_); (case side1 => repeat (first | exact HR0.out | (with_reducible refine Kd.C_alloc ?_ _) | (with_reducible refine Kd.C_drewN ?_ _) | (with_reducible refine Kd.C_drew ?_))); (case side2 => exact HC0.out); rintro e w3 ⟨rfl, hb⟩; refine ⟨_, rfl, ?_⟩; replace HB := Aside0.mk (below_step bel hb); (try clear hb); (try clear hb2); (try clear hk); (try clear hi)))
  go_ret
  exact ⟨ers, bel⟩
def words_Text.f (a0 : Int) : Option (ByteArray) := (words_size.f a0).bind fun bt101 => ((words_decimal.f bt101.1).bind fun t103 => ((words_together.f (⟨#[]⟩ : ByteArray) (([bt101.2, t103] : List ByteArray))).bind fun t107 => (some t107)))
set_option maxHeartbeats 8000000 in
set_option maxRecDepth 100000 in
theorem words_Text.calls (a0 : Int) (r : ByteArray) (w : World) (h : words_Text.f a0 = some r) :
    Calls Tryz.prog 28 #[.int .i64 a0] w fun e w' => e = .returned (.string r) ∧ Below w.heap.size w w' := by
  have HB := Aside0.mk (Below.refl w.heap.size w)
  have H : ((words_size.f a0).bind fun bt101 => ((words_decimal.f bt101.1).bind fun t103 => ((words_together.f (⟨#[]⟩ : ByteArray) (([bt101.2, t103] : List ByteArray))).bind fun t107 => (some t107)))) = some r := h
  clear h
  replace H := bnd H
  obtain ⟨⟨t101, t102⟩, A20, H⟩ := H
  replace H : ((words_decimal.f t101).bind fun t103 => ((words_together.f (⟨#[]⟩ : ByteArray) (([t102, t103] : List ByteArray))).bind fun t107 => (some t107))) = some r := H
  have A2 := Aside0.mk A20
  clear A20
  replace H := bnd H
  obtain ⟨t103, A30, H⟩ := H
  have A3 := Aside0.mk A30
  clear A30
  obtain ⟨y104, hy104⟩ : ∃ y_ : List ByteArray, y_ = (([t102, t103] : List ByteArray)) := ⟨_, rfl⟩
  replace H : ((words_together.f (⟨#[]⟩ : ByteArray) y104).bind fun t107 => (some t107)) = some r := by first | (rw [hy104]; with_reducible exact H) | (have H2_ := (Option.bind_some _ _).symm.trans H; rw [hy104]; with_reducible exact H2_) | (have H2_ := (Option.bind_some _ _).symm.trans H; with_reducible exact H2_) | with_reducible exact H | (rw [hy104]; exact H) | exact H
  have Ny104 := Aside0.mk hy104
  clear hy104
  replace H := bnd H
  obtain ⟨t107, A40, H⟩ := H
  have A4 := Aside0.mk A40
  clear A40
  obtain rfl := Option.some.inj H
  go_enter Tryz.func28, Tryz.ntmps28
  go_wp2_with (first | ((with_reducible refine gate_callee (f := 48) rfl ?_); refine goesL_ (some 7) rfl rfl Tryz.func48 (by kernel_rfl) rfl #[.int .i64 a0] rfl arg ?_; (with_reducible refine (words_size.calls a0 t101 t102 _ A2.out).mono ?_); rintro e w' ⟨rfl, ⟨nd, rfl⟩⟩; refine ⟨_, rfl, ?_⟩) | ((with_reducible refine gate_callee (f := 49) rfl ?_); refine goesL_ (some 12) rfl rfl Tryz.func49 (by kernel_rfl) rfl #[.int .u64 t101] rfl arg ?_; (with_reducible refine (words_decimal.calls t101 t103 _ A3.out).mono ?_); rintro e w5 ⟨rfl, hb⟩; refine ⟨_, rfl, ?_⟩; replace HB := Aside0.mk (below_step bel hb); (try clear hb); (try clear hb2); (try clear hk); (try clear hi)) | ((with_reducible refine gate_dst (N := 13) rfl ?_); refine Kd.R_lit Kd.string _ 9 ?hg (N := 13) ?hd (xs := ([t102, t103] : List ByteArray)) (inner := [.string t102, .string t103]) (ok := fun _ => True) (okp := fun _ => True) ?hr ?hp (fun _ hk => hk) trivial (Below.refl _ _) (Nat.le_refl _) (by simp) ?_; (case hd => rfl); (case hg => rfl); (case hr => first | (go_simp; done) | (go_simp; rfl)); (case hp => exact (Reps.one (show Kd.M Kd.string _ _ _ t102 [.string t102] from rfl) (Reps.one (show Kd.M Kd.string _ _ _ t103 [.string t103] from rfl) (Reps.none _ _)))); intro v105 w6 ho7 hb hg_ hnew_; clear hg_ hnew_; (first | rw [← Ny104.out] at ho7 | (simp only [Int.reduceToNat] at ho7; rw [← Ny104.out] at ho7)); have HO106 := Aside0.mk (Kd.R_lower ho7 (below_size bel)); replace HB := Aside0.mk (below_step bel hb); clear hb ho7; obtain ⟨Ao8, co8, eo8⟩ := Kd.R_slice HO106.out; subst eo8) | ((with_reducible refine gate_callee (f := 36) rfl ?_); refine goesL_ (some 14) rfl rfl Tryz.func36 (by kernel_rfl) rfl #[.string (⟨#[]⟩ : ByteArray), .slice Ao8 y104.length co8] rfl arg ?_; (with_reducible refine (words_together.calls (⟨#[]⟩ : ByteArray) _ _ y104 t107 _ ?side1 ?side2 A4.out).mono ?_); (case side1 => repeat (first | exact (Kd.R_reads' HO106.out).2.2 | (with_reducible refine Kd.C_alloc ?_ _) | (with_reducible refine Kd.C_drewN ?_ _) | (with_reducible refine Kd.C_drew ?_))); (case side2 => exact (Kd.R_reads' HO106.out).2.1); rintro e w9 ⟨rfl, hb⟩; refine ⟨_, rfl, ?_⟩; replace HO106 := Aside0.mk (Kd.R_below (kr HO106.out) hb); replace HB := Aside0.mk (below_step bel hb); (try clear hb); (try clear hb2); (try clear hk); (try clear hi)))
  go_ret
  exact ⟨ers, bel⟩
def product_Print.l0 : Nat → List ByteArray → List Int → Int → Int → ByteArray → Int → Int → Int → Int → Int → Bool → Option (ByteArray)
  | 0, _, _, _, _, _, _, _, _, _, _, _ => none
  | k + 1, x3, x19, x20, x21, x102000, x102001, x102002, x102003, x102004, x102005, x102006 => if x21 < x20 then (if 0 ≤ x21 then (if x21 < (x19.length : Int) then ((words_Text.f (rd x19 x21)).bind fun t109 => (if x3.length < 8796093022208 then (product_Print.l0 k (x3 ++ [t109]) x19 x20 (wrap64 (x21 + 1)) x102000 x102001 x102002 x102003 x102004 x102005 x102006) else (none))) else (none)) else (none)) else ((product_kind.f x102006).bind fun t113 => (if x3.length < 8796093022208 then ((words_Join.f (x3 ++ [t113])).bind fun t117 => (some t117)) else (none)))
def product_Print.f (k : Nat) (a0_0 : ByteArray) (a0_1 : Int) (a0_2 : Int) (a0_3 : Int) (a0_4 : Int) (a0_5 : Int) (a0_6 : Bool) : Option (ByteArray) := (some (([a0_1, a0_2, a0_3, a0_4, a0_5] : List Int) : List Int)).bind fun y105 => (product_Print.l0 k (([a0_0] : List ByteArray)) y105 (y105.length : Int) 0 a0_0 a0_1 a0_2 a0_3 a0_4 a0_5 a0_6)
set_option maxHeartbeats 8000000 in
set_option maxRecDepth 100000 in
theorem product_Print.calls (k : Nat) (a0_0 : ByteArray) (a0_1 : Int) (a0_2 : Int) (a0_3 : Int) (a0_4 : Int) (a0_5 : Int) (a0_6 : Bool) (r : ByteArray) (w : World) (h : product_Print.f k a0_0 a0_1 a0_2 a0_3 a0_4 a0_5 a0_6 = some r) :
    Calls Tryz.prog 15 #[.agg #[.string a0_0, .int .i64 a0_1, .int .i64 a0_2, .int .i64 a0_3, .int .i64 a0_4, .int .i64 a0_5, .bool a0_6]] w fun e w' => e = .returned (.string r) ∧ Below w.heap.size w w' := by
  have hu50 := Tryz.underlying50
  have HB := Aside0.mk (Below.refl w.heap.size w)
  have H : ((some (([a0_1, a0_2, a0_3, a0_4, a0_5] : List Int) : List Int)).bind fun y105 => (product_Print.l0 k (([a0_0] : List ByteArray)) y105 (y105.length : Int) 0 a0_0 a0_1 a0_2 a0_3 a0_4 a0_5 a0_6)) = some r := h
  clear h
  obtain ⟨y102, hy102⟩ : ∃ y_ : List ByteArray, y_ = (([a0_0] : List ByteArray)) := ⟨_, rfl⟩
  replace H : ((some (([a0_1, a0_2, a0_3, a0_4, a0_5] : List Int) : List Int)).bind fun y105 => (product_Print.l0 k y102 y105 (y105.length : Int) 0 a0_0 a0_1 a0_2 a0_3 a0_4 a0_5 a0_6)) = some r := by first | (rw [hy102]; with_reducible exact H) | (have H2_ := (Option.bind_some _ _).symm.trans H; rw [hy102]; with_reducible exact H2_) | (have H2_ := (Option.bind_some _ _).symm.trans H; with_reducible exact H2_) | with_reducible exact H | (rw [hy102]; exact H) | exact H
  have Ny102 := Aside0.mk hy102
  clear hy102
  obtain ⟨y105, hy105⟩ : ∃ y_ : List Int, y_ = (([a0_1, a0_2, a0_3, a0_4, a0_5] : List Int)) := ⟨_, rfl⟩
  replace H : (product_Print.l0 k y102 y105 (y105.length : Int) 0 a0_0 a0_1 a0_2 a0_3 a0_4 a0_5 a0_6) = some r := by first | (rw [hy105]; with_reducible exact H) | (have H2_ := (Option.bind_some _ _).symm.trans H; rw [hy105]; with_reducible exact H2_) | (have H2_ := (Option.bind_some _ _).symm.trans H; with_reducible exact H2_) | with_reducible exact H | (rw [hy105]; exact H) | exact H
  have Ny105 := Aside0.mk hy105
  clear hy105
  have H' := Aside0.mk H
  clear H
  go_enter Tryz.func15, Tryz.ntmps15
  go_wp2_with (first | ((with_reducible refine gate_dst (N := 1) rfl ?_); refine box_event ?hg (N := 1) ?hd (cs := #[.string a0_0, .int .i64 a0_1, .int .i64 a0_2, .int .i64 a0_3, .int .i64 a0_4, .int .i64 a0_5, .bool a0_6]) (t := 50) ?hr ?_; (case hd => rfl); (case hg => rfl); (case hr => first | (go_simp; done) | (go_simp; rfl)); intro gb101 hg w2 hbox hb; have BK101 := Aside0.mk (hbox); have GW101 := Aside0.mk ((gsz hg : w.heap.size ≤ gb101)); have GE101 := Aside0.mk ((gsz hg : w.heap.size ≤ gb101)); replace HB := Aside0.mk (below_step bel hb); clear hb hbox hg; obtain ⟨hcz3_0, hcz3_1, hcz3_2, hcz3_3, hcz3_4, hcz3_5, hcz3_6, hfz3_0, hfz3_1, hfz3_2, hfz3_3, hfz3_4, hfz3_5, hfz3_6⟩ := cz7 BK101.out) | ((with_reducible refine gate_dst (N := 8) rfl ?_); refine Kd.R_lit Kd.string _ 9 ?hg (N := 8) ?hd (xs := ([a0_0] : List ByteArray)) (inner := [.string a0_0]) (ok := fun _ => True) (okp := fun _ => True) ?hr ?hp (fun _ hk => hk) trivial (Below.refl _ _) (Nat.le_refl _) (by simp) ?_; (case hd => rfl); (case hg => rfl); (case hr => first | (go_simp; done) | (go_simp; rfl)); (case hp => exact (Reps.one (show Kd.M Kd.string _ _ _ a0_0 [.string a0_0] from rfl) (Reps.none _ _))); intro v103 w4 ho5 hb hg_ hnew_; clear hg_ hnew_; (first | rw [← Ny102.out] at ho5 | (simp only [Int.reduceToNat] at ho5; rw [← Ny102.out] at ho5)); have HO104 := Aside0.mk (Kd.R_lower ho5 (below_size bel)); replace BK101 := Aside0.mk (blk_below (g := gb101) (bw BK101.out) hb); replace HB := Aside0.mk (below_step bel hb); clear hb ho5; obtain ⟨hcz6_0, hcz6_1, hcz6_2, hcz6_3, hcz6_4, hcz6_5, hcz6_6, hfz6_0, hfz6_1, hfz6_2, hfz6_3, hfz6_4, hfz6_5, hfz6_6⟩ := cz7 BK101.out) | ((with_reducible refine gate_dst (N := 19) rfl ?_); refine Kd.R_lit (Kd.int .i64) _ 3 ?hg (N := 19) ?hd (xs := ([a0_1, a0_2, a0_3, a0_4, a0_5] : List Int)) (inner := [.int .i64 a0_1, .int .i64 a0_2, .int .i64 a0_3, .int .i64 a0_4, .int .i64 a0_5]) (ok := fun _ => True) (okp := fun _ => True) ?hr ?hp (fun _ hk => hk) trivial (Below.refl _ _) (Nat.le_refl _) (by simp) ?_; (case hd => rfl); (case hg => rfl); (case hr => first | (go_simp; done) | (go_simp; rfl)); (case hp => exact (Reps.one (show Kd.M (Kd.int .i64) _ _ _ a0_1 [.int .i64 a0_1] from rfl) (Reps.one (show Kd.M (Kd.int .i64) _ _ _ a0_2 [.int .i64 a0_2] from rfl) (Reps.one (show Kd.M (Kd.int .i64) _ _ _ a0_3 [.int .i64 a0_3] from rfl) (Reps.one (show Kd.M (Kd.int .i64) _ _ _ a0_4 [.int .i64 a0_4] from rfl) (Reps.one (show Kd.M (Kd.int .i64) _ _ _ a0_5 [.int .i64 a0_5] from rfl) (Reps.none _ _))))))); intro v106 w7 ho8 hb hg_ hnew_; clear hg_ hnew_; (first | rw [← Ny105.out] at ho8 | (simp only [Int.reduceToNat] at ho8; rw [← Ny105.out] at ho8)); replace HO104 := Aside0.mk (Kd.R_below (kr HO104.out) hb); have HO107 := Aside0.mk (Kd.R_lower ho8 (below_size bel)); replace BK101 := Aside0.mk (blk_below (g := gb101) (bw BK101.out) hb); replace HB := Aside0.mk (below_step bel hb); clear hb ho8; obtain ⟨Ao9, co9, eo9⟩ := Kd.R_slice HO107.out; subst eo9))
  go_loopg [3, 21] k (fun kq v3 v21 w' => ∃ (x3_1 : List ByteArray) (x21_1 : Int), v21 = .int .i64 x21_1 ∧ Aside0 (product_Print.l0 kq x3_1 y105 (y105.length : Int) x21_1 a0_0 a0_1 a0_2 a0_3 a0_4 a0_5 a0_6 = some r) ∧ Aside0 (kq ≤ k) ∧ Aside0 (Kd.R Kd.string 9 w' w.heap.size (fun _ => True) v3 x3_1) ∧ Aside0 (Kd.R (Kd.int .i64) 3 w' w.heap.size (fun _ => True) (.slice Ao9 y105.length co9) y105) ∧ Aside0 (w'.heap[gb101]? = some (.cells #[.string a0_0, .int .i64 a0_1, .int .i64 a0_2, .int .i64 a0_3, .int .i64 a0_4, .int .i64 a0_5, .bool a0_6] 50 (0, 0))) ∧ Aside0 (Below w.heap.size w w'))
  case atStart => exact ⟨(y102), (0), eqs, H', ⟨Nat.le_refl _⟩, ⟨kr HO104.out⟩, ⟨kr HO107.out⟩, ⟨bw BK101.out⟩, ⟨bel⟩⟩
  case round =>
    clear H'
    try clear c1
    try clear p2
    try clear hcz3_0 hcz3_1 hcz3_2 hcz3_3 hcz3_4 hcz3_5 hcz3_6
    try clear hcz6_0 hcz6_1 hcz6_2 hcz6_3 hcz6_4 hcz6_5 hcz6_6
    try clear hfz3_0 hfz3_1 hfz3_2 hfz3_3 hfz3_4 hfz3_5 hfz3_6
    try clear hfz6_0 hfz6_1 hfz6_2 hfz6_3 hfz6_4 hfz6_5 hfz6_6
    obtain ⟨x3_1, x21_1, rfl, HA, HK1, HO_3, HO_19, BK101, HB⟩ := hrel
    cases gk with
    | zero => exact absurd HA.out (by simp [product_Print.l0])
    | succ k1 =>
      have H := HA.out
      clear HA
      simp only [product_Print.l0] at H
      by_cases c10 : x21_1 < (y105.length : Int)
      · rw [if_pos c10] at H
        have c10b0 := decide_eq_true c10
        clear c10
        by_cases c11 : 0 ≤ x21_1
        · rw [if_pos c11] at H
          have c11b0 := decide_eq_true c11
          clear c11
          by_cases c12 : x21_1 < (y105.length : Int)
          · rw [if_pos c12] at H
            have c12b0 := decide_eq_true c12
            clear c12
            replace H := bnd H
            obtain ⟨t109, A130, H⟩ := H
            have A13 := Aside0.mk A130
            clear A130
            by_cases c14 : x3_1.length < 8796093022208
            · rw [if_pos c14] at H
              have LMc14 := Aside0.mk c14
              clear c14
              obtain ⟨y110, hy110⟩ : ∃ y_ : List ByteArray, y_ = (x3_1 ++ [t109]) := ⟨_, rfl⟩
              replace H : (product_Print.l0 k1 y110 y105 (y105.length : Int) (wrap64 (x21_1 + 1)) a0_0 a0_1 a0_2 a0_3 a0_4 a0_5 a0_6) = some r := by first | (rw [hy110]; with_reducible exact H) | (have H2_ := (Option.bind_some _ _).symm.trans H; rw [hy110]; with_reducible exact H2_) | (have H2_ := (Option.bind_some _ _).symm.trans H; with_reducible exact H2_) | with_reducible exact H | (rw [hy110]; exact H) | exact H
              have Ny110 := Aside0.mk hy110
              clear hy110
              have H' := Aside0.mk H
              clear H
              have p108 : 0 ≤ (x21_1 : Int) := dt
              have q108 : x21_1 < (y105.length : Int) := dt
              obtain ⟨ad108, e108, hx108_0⟩ := Kd.at_int (Kd.R_reads' HO_19.out).2.2 x21_1 p108 q108
              cases e108
              replace p108 := eq_true p108
              replace q108 := eq_true q108
              go_wp2_with (first | ((with_reducible refine gate_callee (f := 28) rfl ?_); refine goesL_ (some 27) rfl rfl Tryz.func28 (by kernel_rfl) rfl #[.int .i64 (rd y105 x21_1)] rfl arg ?_; (with_reducible refine (words_Text.calls (rd y105 x21_1) t109 _ A13.out).mono ?_); rintro e w15 ⟨rfl, hb⟩; refine ⟨_, rfl, ?_⟩; replace HO_3 := Aside0.mk (Kd.R_below (kr HO_3.out) hb); replace HO_19 := Aside0.mk (Kd.R_below (kr HO_19.out) hb); replace BK101 := Aside0.mk (blk_below (g := gb101) (bw BK101.out) hb); replace HB := Aside0.mk (below_step bel hb); (try clear hb); (try clear hb2); (try clear hk); (try clear hi)) | ((with_reducible refine gate_builtin (b := .append) (xs := #[.tmp 25, .tmp 28]) rfl ?_); at_builtin; refine Kd.R_append Kd.string (w0 := w) w.heap.size rfl (.tmp 25) (.tmp 28) 41 9 (.string ⟨#[]⟩) 16 rfl Tryz.underlying41 info9 rfl (by decide) (by omega) u3 x3_1 t109 [.string t109] (fun _ => True) (fun _ => False) rfl rfl ?aP (fun _ hk => hk.elim) ?aF ?aO ?aB ?aS ?aL ?_; (case aP => exact rfl); (case aB => exact bel); (case aF => exact (fun _ _ => trivial)); (case aO => exact (kr HO_3.out)); (case aS => exact (below_size bel)); (case aL => have := LMc14.out; omega); intro v111 w16 ho hb hg hat; rw [← Ny110.out] at ho; have n0_ := Aside0.mk (Kd.R_over' (kr HO_19.out) (Kd.R_typed (kr HO_3.out)) (by decide) hg); have n1_ := Aside0.mk (blk_grown (g := gb101) (o := .cells #[.string a0_0, .int .i64 a0_1, .int .i64 a0_2, .int .i64 a0_3, .int .i64 a0_4, .int .i64 a0_5, .bool a0_6] 50 (0, 0)) (bw BK101.out) hg (Kd.R_ne HO_3.out BK101.out (by decide))); have n2_ := Aside0.mk (hb); have n3_ := Aside0.mk (ho); clear HO_19; clear BK101; clear HB; clear HO_3; have HO_19 := n0_; have BK101 := n1_; have HB := n2_; have HO112 := n3_; clear n0_ n1_ n2_ n3_; clear ho hb hg hat))
              go_roundg k1
              case measure => have := HK1.out; omega
              case rel => exact ⟨(y110), (wrap64 (x21_1 + 1)), eqs, H', ⟨hko⟩, ⟨kr HO112.out⟩, ⟨kr HO_19.out⟩, ⟨bw BK101.out⟩, ⟨bel⟩⟩
            · rw [if_neg c14] at H
              exact absurd H (by simp)
          · rw [if_neg c12] at H
            exact absurd H (by simp)
        · rw [if_neg c11] at H
          exact absurd H (by simp)
      · rw [if_neg c10] at H
        have c10b0 := decide_eq_false c10
        clear c10
        replace H := bnd H
        obtain ⟨t113, A170, H⟩ := H
        have A17 := Aside0.mk A170
        clear A170
        by_cases c18 : x3_1.length < 8796093022208
        · rw [if_pos c18] at H
          have LMc18 := Aside0.mk c18
          clear c18
          obtain ⟨y114, hy114⟩ : ∃ y_ : List ByteArray, y_ = (x3_1 ++ [t113]) := ⟨_, rfl⟩
          replace H : ((words_Join.f y114).bind fun t117 => (some t117)) = some r := by first | (rw [hy114]; with_reducible exact H) | (have H2_ := (Option.bind_some _ _).symm.trans H; rw [hy114]; with_reducible exact H2_) | (have H2_ := (Option.bind_some _ _).symm.trans H; with_reducible exact H2_) | with_reducible exact H | (rw [hy114]; exact H) | exact H
          have Ny114 := Aside0.mk hy114
          clear hy114
          replace H := bnd H
          obtain ⟨t117, A190, H⟩ := H
          have A19 := Aside0.mk A190
          clear A190
          obtain rfl := Option.some.inj H
          obtain ⟨hcz20_0, hcz20_1, hcz20_2, hcz20_3, hcz20_4, hcz20_5, hcz20_6, hfz20_0, hfz20_1, hfz20_2, hfz20_3, hfz20_4, hfz20_5, hfz20_6⟩ := cz7 BK101.out
          go_wp2_with (first | ((with_reducible refine gate_callee (f := 45) rfl ?_); refine goesL_ (some 34) rfl rfl Tryz.func45 (by kernel_rfl) rfl #[.bool a0_6] rfl arg ?_; (with_reducible refine (product_kind.calls a0_6 t113 _ A17.out).mono ?_); rintro e w' ⟨rfl, ⟨nd, rfl⟩⟩; refine ⟨_, rfl, ?_⟩) | ((with_reducible refine gate_builtin (b := .append) (xs := #[.tmp 31, .tmp 35]) rfl ?_); at_builtin; refine Kd.R_append Kd.string (w0 := w) w.heap.size rfl (.tmp 31) (.tmp 35) 41 9 (.string ⟨#[]⟩) 16 rfl Tryz.underlying41 info9 rfl (by decide) (by omega) u3 x3_1 t113 [.string t113] (fun _ => True) (fun _ => False) rfl rfl ?aP (fun _ hk => hk.elim) ?aF ?aO ?aB ?aS ?aL ?_; (case aP => exact rfl); (case aB => exact bel); (case aF => exact (fun _ _ => trivial)); (case aO => exact (kr HO_3.out)); (case aS => exact (below_size bel)); (case aL => have := LMc18.out; omega); intro v115 w21 ho hb hg hat; rw [← Ny114.out] at ho; have n0_ := Aside0.mk (Kd.R_over' (kr HO_19.out) (Kd.R_typed (kr HO_3.out)) (by decide) hg); have n1_ := Aside0.mk (blk_grown (g := gb101) (o := .cells #[.string a0_0, .int .i64 a0_1, .int .i64 a0_2, .int .i64 a0_3, .int .i64 a0_4, .int .i64 a0_5, .bool a0_6] 50 (0, 0)) (bw BK101.out) hg (Kd.R_ne HO_3.out BK101.out (by decide))); have n2_ := Aside0.mk (hb); have n3_ := Aside0.mk (ho); clear HO_19; clear BK101; clear HB; clear HO_3; have HO_19 := n0_; have BK101 := n1_; have HB := n2_; have HO116 := n3_; clear n0_ n1_ n2_ n3_; clear ho hb hg hat; obtain ⟨Ao22, co22, eo22⟩ := Kd.R_slice HO116.out; subst eo22) | ((with_reducible refine gate_callee (f := 11) rfl ?_); refine goesL_ (some 37) rfl rfl Tryz.func11 (by kernel_rfl) rfl #[.slice Ao22 y114.length co22] rfl arg ?_; (with_reducible refine (words_Join.calls _ _ y114 t117 _ ?side1 ?side2 A19.out).mono ?_); (case side1 => repeat (first | exact (Kd.R_reads' HO116.out).2.2 | (with_reducible refine Kd.C_alloc ?_ _) | (with_reducible refine Kd.C_drewN ?_ _) | (with_reducible refine Kd.C_drew ?_))); (case side2 => exact (Kd.R_reads' HO116.out).2.1); rintro e w23 ⟨rfl, hb⟩; refine ⟨_, rfl, ?_⟩; replace HO_19 := Aside0.mk (Kd.R_below (kr HO_19.out) hb); replace HO116 := Aside0.mk (Kd.R_below (kr HO116.out) hb); replace BK101 := Aside0.mk (blk_below (g := gb101) (bw BK101.out) hb); replace HB := Aside0.mk (below_step bel hb); (try clear hb); (try clear hb2); (try clear hk); (try clear hi)))
          go_ret
          exact ⟨ers, bel⟩
        · rw [if_neg c18] at H
          exact absurd H (by simp)
def member_kind.f (a0 : Int) : Option (Bool) := if a0 ≥ 1 then (some (decide (a0 ≤ 3))) else (some false)
set_option maxHeartbeats 8000000 in
set_option maxRecDepth 100000 in
theorem member_kind.calls (a0 : Int) (r : Bool) (w : World) (h : member_kind.f a0 = some r) :
    Calls Tryz.prog 59 #[.int .i64 a0] w fun e w' => e = .returned (.bool r) ∧ Drawn0 w w' := by
  have H : (if a0 ≥ 1 then (some (decide (a0 ≤ 3))) else (some false)) = some r := h
  clear h
  by_cases c2 : a0 ≥ 1
  · rw [if_pos c2] at H
    have c2b0 : decide (1 ≤ a0) = true := decide_eq_true c2
    clear c2
    obtain rfl := Option.some.inj H
    go_enter Tryz.func59, Tryz.ntmps59
    go_wp2
    go_ret
    exact ⟨eqs, drz⟩
  · rw [if_neg c2] at H
    have c2b0 : decide (1 ≤ a0) = false := decide_eq_false c2
    clear c2
    obtain rfl := Option.some.inj H
    go_enter Tryz.func59, Tryz.ntmps59
    go_wp2
    go_ret
    exact ⟨eqs, drz⟩
def nameE (b : Bool) (i : Nat) (p x : ByteArray) : Int := if b = true then (if 0 < i ∧ Op.bytesLess p.toList x.toList = false then 12 else 0) else 10
def accE (k : Nat) (l : List S110) : List S110 → Nat → Option Int
  | [], _ => some 0
  | a :: r, i => (words_Name.f k a.f0).bind fun b => if nameE b i (rd_T110 l ((i : Int) - 1)).f0 a.f0 = 0 then (if 1 ≤ a.f1 ∧ a.f1 ≤ 3 then accE k l r (i + 1) else some 21) else some (nameE b i (rd_T110 l ((i : Int) - 1)).f0 a.f0)
def memE (k : Nat) (l : List S107) : List S107 → Nat → Option Int
  | [], _ => some 0
  | m :: r, i => (words_Name.f k m.f0).bind fun b => if nameE b i (rd_T107 l ((i : Int) - 1)).f0 m.f0 = 0 then (if 1 ≤ m.f1 ∧ m.f1 ≤ 4 then (if m.f2.length ≤ 16 then (accE k m.f2 m.f2 0).bind fun e => if e = 0 then memE k l r (i + 1) else some e else some 8) else some 13) else some (nameE b i (rd_T107 l ((i : Int) - 1)).f0 m.f0)
def member_Check.f (k : Nat) (l : List S107) : Option Int := if 32 < l.length then some 8 else memE k l l 0
set_option maxHeartbeats 1600000 in
set_option maxRecDepth 100000 in
theorem litMn (g c n : Nat) (ad : Addr) (i : Nat) (x : ByteArray) (w : World) (hg : w.heap[g]? = some (.cells #[.slice (some ad) n c] 24 (0, 0))) (hi : i < n) (hx : w.cell? (ad.add (i * 3)) = some (.string x)) :
    Calls Tryz.prog 57 #[.int .i64 (i : Int), .pointer (some ⟨g, 0, none⟩)] w fun e w' => e = .returned (.string x) ∧ Below w.heap.size w w' := by
  have hc0 : w.cell? ⟨g, 0, none⟩ = some (.slice (some ad) n c) := blk_cell hg 0
  have p0 := eq_true (show 0 ≤ (i : Int) by omega)
  have q0 := eq_true (show (i : Int) < (n : Int) by omega)
  clear hg hi
  go_enter Tryz.func57, Tryz.ntmps57
  go_wp2
  go_ret
  exact ⟨eqs, Below.refl _ _⟩
set_option maxHeartbeats 1600000 in
set_option maxRecDepth 100000 in
theorem nmM_calls (k : Nat) (g c n : Nat) (ad : Addr) (i : Nat) (x p : ByteArray) (b : Bool) (w : World) (hg : w.heap[g]? = some (.cells #[.slice (some ad) n c] 24 (0, 0))) (hn : n ≤ 4611686018427387904) (hi : i < n) (hx : w.cell? (ad.add (i * 3)) = some (.string x)) (hp : 0 < i → w.cell? (ad.add ((i - 1) * 3)) = some (.string p)) (hb : words_Name.f k x = some b) :
    Calls Tryz.prog 56 #[.func (.func 57) #[] #[.pointer (some ⟨g, 0, none⟩)], .int .i64 (i : Int)] w fun e w' => e = .returned (.int .i64 (nameE b i p x)) ∧ Below w.heap.size w w' := by
  have HG := Aside0.mk hg
  have HX := Aside0.mk hx
  have HN := Aside0.mk hb
  have HI := Aside0.mk hi
  have HB := Aside0.mk (Below.refl w.heap.size w)
  clear hg hx hb
  cases b with
  | false =>
    have HP := Aside0.mk hp
    clear hp hi hn
    go_enter Tryz.func56, Tryz.ntmps56
    go_wp2_with (first | (go_at_call 57; with_reducible refine (litMn g c n ad i x _ HG.out (by have := HI.out; omega) HX.out).mono ?_; rintro e1 w1 ⟨rfl, hb1⟩; have HB := Aside0.mk (below_step HB.out hb1); have HG := Aside0.mk (blk_below HG.out hb1); have HX := Aside0.mk ((hb1.cell (World.block_lt_of_cell? _ _ HX.out)).trans HX.out); have HP := Aside0.mk (fun hq => (hb1.cell (World.block_lt_of_cell? _ _ (HP.out hq))).trans (HP.out hq)); clear hb1) | (go_at_call 33; refine (words_Name.calls k x _ _ HN.out).mono ?_; rintro e1 w1 ⟨rfl, hd1⟩; have hb1 := hd1.below; have HB := Aside0.mk (below_step HB.out hb1); have HG := Aside0.mk (blk_below HG.out hb1); have HX := Aside0.mk ((hb1.cell (World.block_lt_of_cell? _ _ HX.out)).trans HX.out); have HP := Aside0.mk (fun hq => (hb1.cell (World.block_lt_of_cell? _ _ (HP.out hq))).trans (HP.out hq)); clear hb1 hd1))
    go_ret
    exact ⟨rfl, HB.out⟩
  | true =>
    by_cases h0 : 0 < i
    · obtain ⟨j, hj⟩ : ∃ j, j = i - 1 := ⟨_, rfl⟩
      have hgt := eq_true (show 0 < i from h0)
      have HW := Aside0.mk (show Go.RowKit.wrap64 ((i : Int) - 1) = (j : Int) by unfold wrap64; omega)
      have hw := HW.out
      have HP := Aside0.mk hp
      rw [← hj] at HP
      have HIJ := Aside0.mk h0
      have HI := Aside0.mk (show i < n ∧ j < n by omega)
      clear hp hj hn hi
      cases hl : Op.bytesLess p.toList x.toList with
      | true =>
        have HE := Aside0.mk (show nameE true i p x = 0 by unfold nameE; rw [if_pos rfl, if_neg (by rw [hl]; simp)])
        rw [HE.out]
        clear HE h0
        go_enter Tryz.func56, Tryz.ntmps56
        go_wp2_with (first | (go_at_call 57; with_reducible refine (litMn g c n ad i x _ HG.out (by have := HI.out; omega) HX.out).mono ?_; rintro e1 w1 ⟨rfl, hb1⟩; have HB := Aside0.mk (below_step HB.out hb1); have HG := Aside0.mk (blk_below HG.out hb1); have HX := Aside0.mk ((hb1.cell (World.block_lt_of_cell? _ _ HX.out)).trans HX.out); have HP := Aside0.mk (fun hq => (hb1.cell (World.block_lt_of_cell? _ _ (HP.out hq))).trans (HP.out hq)); clear hb1) | (go_at_call 33; refine (words_Name.calls k x _ _ HN.out).mono ?_; rintro e1 w1 ⟨rfl, hd1⟩; have hb1 := hd1.below; have HB := Aside0.mk (below_step HB.out hb1); have HG := Aside0.mk (blk_below HG.out hb1); have HX := Aside0.mk ((hb1.cell (World.block_lt_of_cell? _ _ HX.out)).trans HX.out); have HP := Aside0.mk (fun hq => (hb1.cell (World.block_lt_of_cell? _ _ (HP.out hq))).trans (HP.out hq)); clear hb1 hd1) | (go_at_call 57; with_reducible refine (litMn g c n ad j p _ HG.out (by have := HI.out; omega) (HP.out HIJ.out)).mono ?_; rintro e1 w1 ⟨rfl, hb1⟩; have HB := Aside0.mk (below_step HB.out hb1); have HG := Aside0.mk (blk_below HG.out hb1); have HX := Aside0.mk ((hb1.cell (World.block_lt_of_cell? _ _ HX.out)).trans HX.out); have HP := Aside0.mk (fun hq => (hb1.cell (World.block_lt_of_cell? _ _ (HP.out hq))).trans (HP.out hq)); clear hb1) | (go_at_call 57; rw [HW.out]; with_reducible refine (litMn g c n ad j p _ HG.out (by have := HI.out; omega) (HP.out HIJ.out)).mono ?_; rintro e1 w1 ⟨rfl, hb1⟩; have HB := Aside0.mk (below_step HB.out hb1); have HG := Aside0.mk (blk_below HG.out hb1); have HX := Aside0.mk ((hb1.cell (World.block_lt_of_cell? _ _ HX.out)).trans HX.out); have HP := Aside0.mk (fun hq => (hb1.cell (World.block_lt_of_cell? _ _ (HP.out hq))).trans (HP.out hq)); clear hb1))
        go_ret
        exact ⟨rfl, HB.out⟩
      | false =>
        have HE := Aside0.mk (show nameE true i p x = 12 by unfold nameE; rw [if_pos rfl, if_pos ⟨h0, hl⟩])
        rw [HE.out]
        clear HE h0
        go_enter Tryz.func56, Tryz.ntmps56
        go_wp2_with (first | (go_at_call 57; with_reducible refine (litMn g c n ad i x _ HG.out (by have := HI.out; omega) HX.out).mono ?_; rintro e1 w1 ⟨rfl, hb1⟩; have HB := Aside0.mk (below_step HB.out hb1); have HG := Aside0.mk (blk_below HG.out hb1); have HX := Aside0.mk ((hb1.cell (World.block_lt_of_cell? _ _ HX.out)).trans HX.out); have HP := Aside0.mk (fun hq => (hb1.cell (World.block_lt_of_cell? _ _ (HP.out hq))).trans (HP.out hq)); clear hb1) | (go_at_call 33; refine (words_Name.calls k x _ _ HN.out).mono ?_; rintro e1 w1 ⟨rfl, hd1⟩; have hb1 := hd1.below; have HB := Aside0.mk (below_step HB.out hb1); have HG := Aside0.mk (blk_below HG.out hb1); have HX := Aside0.mk ((hb1.cell (World.block_lt_of_cell? _ _ HX.out)).trans HX.out); have HP := Aside0.mk (fun hq => (hb1.cell (World.block_lt_of_cell? _ _ (HP.out hq))).trans (HP.out hq)); clear hb1 hd1) | (go_at_call 57; with_reducible refine (litMn g c n ad j p _ HG.out (by have := HI.out; omega) (HP.out HIJ.out)).mono ?_; rintro e1 w1 ⟨rfl, hb1⟩; have HB := Aside0.mk (below_step HB.out hb1); have HG := Aside0.mk (blk_below HG.out hb1); have HX := Aside0.mk ((hb1.cell (World.block_lt_of_cell? _ _ HX.out)).trans HX.out); have HP := Aside0.mk (fun hq => (hb1.cell (World.block_lt_of_cell? _ _ (HP.out hq))).trans (HP.out hq)); clear hb1) | (go_at_call 57; rw [HW.out]; with_reducible refine (litMn g c n ad j p _ HG.out (by have := HI.out; omega) (HP.out HIJ.out)).mono ?_; rintro e1 w1 ⟨rfl, hb1⟩; have HB := Aside0.mk (below_step HB.out hb1); have HG := Aside0.mk (blk_below HG.out hb1); have HX := Aside0.mk ((hb1.cell (World.block_lt_of_cell? _ _ HX.out)).trans HX.out); have HP := Aside0.mk (fun hq => (hb1.cell (World.block_lt_of_cell? _ _ (HP.out hq))).trans (HP.out hq)); clear hb1))
        go_ret
        exact ⟨rfl, HB.out⟩
    · have hgt := eq_false (show ¬ 0 < i from h0)
      have HE := Aside0.mk (show nameE true i p x = 0 by unfold nameE; rw [if_pos rfl, if_neg (fun h => h0 h.1)])
      rw [HE.out]
      have HP := Aside0.mk hp
      clear HE hp hi hn h0
      go_enter Tryz.func56, Tryz.ntmps56
      go_wp2_with (first | (go_at_call 57; with_reducible refine (litMn g c n ad i x _ HG.out (by have := HI.out; omega) HX.out).mono ?_; rintro e1 w1 ⟨rfl, hb1⟩; have HB := Aside0.mk (below_step HB.out hb1); have HG := Aside0.mk (blk_below HG.out hb1); have HX := Aside0.mk ((hb1.cell (World.block_lt_of_cell? _ _ HX.out)).trans HX.out); have HP := Aside0.mk (fun hq => (hb1.cell (World.block_lt_of_cell? _ _ (HP.out hq))).trans (HP.out hq)); clear hb1) | (go_at_call 33; refine (words_Name.calls k x _ _ HN.out).mono ?_; rintro e1 w1 ⟨rfl, hd1⟩; have hb1 := hd1.below; have HB := Aside0.mk (below_step HB.out hb1); have HG := Aside0.mk (blk_below HG.out hb1); have HX := Aside0.mk ((hb1.cell (World.block_lt_of_cell? _ _ HX.out)).trans HX.out); have HP := Aside0.mk (fun hq => (hb1.cell (World.block_lt_of_cell? _ _ (HP.out hq))).trans (HP.out hq)); clear hb1 hd1))
      go_ret
      exact ⟨rfl, HB.out⟩
set_option maxHeartbeats 1600000 in
set_option maxRecDepth 100000 in
theorem litAn (s0 : ByteArray) (s1 : Int) (g c n : Nat) (ad : Addr) (i : Nat) (x : ByteArray) (w : World) (hg : w.heap[g]? = some (.cells #[.string s0, .int .i64 s1, .slice (some ad) n c] 107 (0, 0))) (hi : i < n) (hx : w.cell? (ad.add (i * 2)) = some (.string x)) :
    Calls Tryz.prog 58 #[.int .i64 (i : Int), .pointer (some ⟨g, 0, none⟩)] w fun e w' => e = .returned (.string x) ∧ Below w.heap.size w w' := by
  have hc0 : w.cell? ⟨g, 2, none⟩ = some (.slice (some ad) n c) := blk_cell hg 2
  have p0 := eq_true (show 0 ≤ (i : Int) by omega)
  have q0 := eq_true (show (i : Int) < (n : Int) by omega)
  clear hg hi
  go_enter Tryz.func58, Tryz.ntmps58
  go_wp2
  go_ret
  exact ⟨eqs, Below.refl _ _⟩
set_option maxHeartbeats 1600000 in
set_option maxRecDepth 100000 in
theorem nmA_calls (k : Nat) (s0 : ByteArray) (s1 : Int) (g c n : Nat) (ad : Addr) (i : Nat) (x p : ByteArray) (b : Bool) (w : World) (hg : w.heap[g]? = some (.cells #[.string s0, .int .i64 s1, .slice (some ad) n c] 107 (0, 0))) (hn : n ≤ 4611686018427387904) (hi : i < n) (hx : w.cell? (ad.add (i * 2)) = some (.string x)) (hp : 0 < i → w.cell? (ad.add ((i - 1) * 2)) = some (.string p)) (hb : words_Name.f k x = some b) :
    Calls Tryz.prog 56 #[.func (.func 58) #[] #[.pointer (some ⟨g, 0, none⟩)], .int .i64 (i : Int)] w fun e w' => e = .returned (.int .i64 (nameE b i p x)) ∧ Below w.heap.size w w' := by
  have HG := Aside0.mk hg
  have HX := Aside0.mk hx
  have HN := Aside0.mk hb
  have HI := Aside0.mk hi
  have HB := Aside0.mk (Below.refl w.heap.size w)
  clear hg hx hb
  cases b with
  | false =>
    have HP := Aside0.mk hp
    clear hp hi hn
    go_enter Tryz.func56, Tryz.ntmps56
    go_wp2_with (first | (go_at_call 58; with_reducible refine (litAn s0 s1 g c n ad i x _ HG.out (by have := HI.out; omega) HX.out).mono ?_; rintro e1 w1 ⟨rfl, hb1⟩; have HB := Aside0.mk (below_step HB.out hb1); have HG := Aside0.mk (blk_below HG.out hb1); have HX := Aside0.mk ((hb1.cell (World.block_lt_of_cell? _ _ HX.out)).trans HX.out); have HP := Aside0.mk (fun hq => (hb1.cell (World.block_lt_of_cell? _ _ (HP.out hq))).trans (HP.out hq)); clear hb1) | (go_at_call 33; refine (words_Name.calls k x _ _ HN.out).mono ?_; rintro e1 w1 ⟨rfl, hd1⟩; have hb1 := hd1.below; have HB := Aside0.mk (below_step HB.out hb1); have HG := Aside0.mk (blk_below HG.out hb1); have HX := Aside0.mk ((hb1.cell (World.block_lt_of_cell? _ _ HX.out)).trans HX.out); have HP := Aside0.mk (fun hq => (hb1.cell (World.block_lt_of_cell? _ _ (HP.out hq))).trans (HP.out hq)); clear hb1 hd1))
    go_ret
    exact ⟨rfl, HB.out⟩
  | true =>
    by_cases h0 : 0 < i
    · obtain ⟨j, hj⟩ : ∃ j, j = i - 1 := ⟨_, rfl⟩
      have hgt := eq_true (show 0 < i from h0)
      have HW := Aside0.mk (show Go.RowKit.wrap64 ((i : Int) - 1) = (j : Int) by unfold wrap64; omega)
      have hw := HW.out
      have HP := Aside0.mk hp
      rw [← hj] at HP
      have HIJ := Aside0.mk h0
      have HI := Aside0.mk (show i < n ∧ j < n by omega)
      clear hp hj hn hi
      cases hl : Op.bytesLess p.toList x.toList with
      | true =>
        have HE := Aside0.mk (show nameE true i p x = 0 by unfold nameE; rw [if_pos rfl, if_neg (by rw [hl]; simp)])
        rw [HE.out]
        clear HE h0
        go_enter Tryz.func56, Tryz.ntmps56
        go_wp2_with (first | (go_at_call 58; with_reducible refine (litAn s0 s1 g c n ad i x _ HG.out (by have := HI.out; omega) HX.out).mono ?_; rintro e1 w1 ⟨rfl, hb1⟩; have HB := Aside0.mk (below_step HB.out hb1); have HG := Aside0.mk (blk_below HG.out hb1); have HX := Aside0.mk ((hb1.cell (World.block_lt_of_cell? _ _ HX.out)).trans HX.out); have HP := Aside0.mk (fun hq => (hb1.cell (World.block_lt_of_cell? _ _ (HP.out hq))).trans (HP.out hq)); clear hb1) | (go_at_call 33; refine (words_Name.calls k x _ _ HN.out).mono ?_; rintro e1 w1 ⟨rfl, hd1⟩; have hb1 := hd1.below; have HB := Aside0.mk (below_step HB.out hb1); have HG := Aside0.mk (blk_below HG.out hb1); have HX := Aside0.mk ((hb1.cell (World.block_lt_of_cell? _ _ HX.out)).trans HX.out); have HP := Aside0.mk (fun hq => (hb1.cell (World.block_lt_of_cell? _ _ (HP.out hq))).trans (HP.out hq)); clear hb1 hd1) | (go_at_call 58; with_reducible refine (litAn s0 s1 g c n ad j p _ HG.out (by have := HI.out; omega) (HP.out HIJ.out)).mono ?_; rintro e1 w1 ⟨rfl, hb1⟩; have HB := Aside0.mk (below_step HB.out hb1); have HG := Aside0.mk (blk_below HG.out hb1); have HX := Aside0.mk ((hb1.cell (World.block_lt_of_cell? _ _ HX.out)).trans HX.out); have HP := Aside0.mk (fun hq => (hb1.cell (World.block_lt_of_cell? _ _ (HP.out hq))).trans (HP.out hq)); clear hb1) | (go_at_call 58; rw [HW.out]; with_reducible refine (litAn s0 s1 g c n ad j p _ HG.out (by have := HI.out; omega) (HP.out HIJ.out)).mono ?_; rintro e1 w1 ⟨rfl, hb1⟩; have HB := Aside0.mk (below_step HB.out hb1); have HG := Aside0.mk (blk_below HG.out hb1); have HX := Aside0.mk ((hb1.cell (World.block_lt_of_cell? _ _ HX.out)).trans HX.out); have HP := Aside0.mk (fun hq => (hb1.cell (World.block_lt_of_cell? _ _ (HP.out hq))).trans (HP.out hq)); clear hb1))
        go_ret
        exact ⟨rfl, HB.out⟩
      | false =>
        have HE := Aside0.mk (show nameE true i p x = 12 by unfold nameE; rw [if_pos rfl, if_pos ⟨h0, hl⟩])
        rw [HE.out]
        clear HE h0
        go_enter Tryz.func56, Tryz.ntmps56
        go_wp2_with (first | (go_at_call 58; with_reducible refine (litAn s0 s1 g c n ad i x _ HG.out (by have := HI.out; omega) HX.out).mono ?_; rintro e1 w1 ⟨rfl, hb1⟩; have HB := Aside0.mk (below_step HB.out hb1); have HG := Aside0.mk (blk_below HG.out hb1); have HX := Aside0.mk ((hb1.cell (World.block_lt_of_cell? _ _ HX.out)).trans HX.out); have HP := Aside0.mk (fun hq => (hb1.cell (World.block_lt_of_cell? _ _ (HP.out hq))).trans (HP.out hq)); clear hb1) | (go_at_call 33; refine (words_Name.calls k x _ _ HN.out).mono ?_; rintro e1 w1 ⟨rfl, hd1⟩; have hb1 := hd1.below; have HB := Aside0.mk (below_step HB.out hb1); have HG := Aside0.mk (blk_below HG.out hb1); have HX := Aside0.mk ((hb1.cell (World.block_lt_of_cell? _ _ HX.out)).trans HX.out); have HP := Aside0.mk (fun hq => (hb1.cell (World.block_lt_of_cell? _ _ (HP.out hq))).trans (HP.out hq)); clear hb1 hd1) | (go_at_call 58; with_reducible refine (litAn s0 s1 g c n ad j p _ HG.out (by have := HI.out; omega) (HP.out HIJ.out)).mono ?_; rintro e1 w1 ⟨rfl, hb1⟩; have HB := Aside0.mk (below_step HB.out hb1); have HG := Aside0.mk (blk_below HG.out hb1); have HX := Aside0.mk ((hb1.cell (World.block_lt_of_cell? _ _ HX.out)).trans HX.out); have HP := Aside0.mk (fun hq => (hb1.cell (World.block_lt_of_cell? _ _ (HP.out hq))).trans (HP.out hq)); clear hb1) | (go_at_call 58; rw [HW.out]; with_reducible refine (litAn s0 s1 g c n ad j p _ HG.out (by have := HI.out; omega) (HP.out HIJ.out)).mono ?_; rintro e1 w1 ⟨rfl, hb1⟩; have HB := Aside0.mk (below_step HB.out hb1); have HG := Aside0.mk (blk_below HG.out hb1); have HX := Aside0.mk ((hb1.cell (World.block_lt_of_cell? _ _ HX.out)).trans HX.out); have HP := Aside0.mk (fun hq => (hb1.cell (World.block_lt_of_cell? _ _ (HP.out hq))).trans (HP.out hq)); clear hb1))
        go_ret
        exact ⟨rfl, HB.out⟩
    · have hgt := eq_false (show ¬ 0 < i from h0)
      have HE := Aside0.mk (show nameE true i p x = 0 by unfold nameE; rw [if_pos rfl, if_neg (fun h => h0 h.1)])
      rw [HE.out]
      have HP := Aside0.mk hp
      clear HE hp hi hn h0
      go_enter Tryz.func56, Tryz.ntmps56
      go_wp2_with (first | (go_at_call 58; with_reducible refine (litAn s0 s1 g c n ad i x _ HG.out (by have := HI.out; omega) HX.out).mono ?_; rintro e1 w1 ⟨rfl, hb1⟩; have HB := Aside0.mk (below_step HB.out hb1); have HG := Aside0.mk (blk_below HG.out hb1); have HX := Aside0.mk ((hb1.cell (World.block_lt_of_cell? _ _ HX.out)).trans HX.out); have HP := Aside0.mk (fun hq => (hb1.cell (World.block_lt_of_cell? _ _ (HP.out hq))).trans (HP.out hq)); clear hb1) | (go_at_call 33; refine (words_Name.calls k x _ _ HN.out).mono ?_; rintro e1 w1 ⟨rfl, hd1⟩; have hb1 := hd1.below; have HB := Aside0.mk (below_step HB.out hb1); have HG := Aside0.mk (blk_below HG.out hb1); have HX := Aside0.mk ((hb1.cell (World.block_lt_of_cell? _ _ HX.out)).trans HX.out); have HP := Aside0.mk (fun hq => (hb1.cell (World.block_lt_of_cell? _ _ (HP.out hq))).trans (HP.out hq)); clear hb1 hd1))
      go_ret
      exact ⟨rfl, HB.out⟩
set_option maxHeartbeats 3200000 in
set_option maxRecDepth 100000 in
theorem member_Check.calls (k : Nat) (A0 : Option Addr) (c0 : Nat) (l0 : List S107) (r : Int) (w : World) (hr0 : Kd.C k107 w A0 l0.length l0) (hc0 : l0.length ≤ c0) (h : member_Check.f k l0 = some r) :
    Calls Tryz.prog 26 #[.slice A0 l0.length c0] w fun e w' => e = .returned (.int .i64 r) ∧ Below w.heap.size w w' := by
  unfold member_Check.f at h
  have HR := Aside0.mk hr0
  by_cases h32 : 32 < l0.length
  · rw [if_pos h32] at h
    obtain rfl := Option.some.inj h
    have hd := decide_eq_true (show (32 : Int) < (l0.length : Int) by omega)
    clear h h32 hr0 hc0
    go_enter Tryz.func26, Tryz.ntmps26
    go_wp2_with fail
    go_ret
    exact ⟨rfl, below_alloc (Below.refl _ _) _⟩
  rw [if_neg h32] at h
  have hd := decide_eq_false (show ¬ (32 : Int) < (l0.length : Int) by omega)
  have HL := Aside0.mk (show l0.length ≤ 32 by omega)
  have HF0 := Aside0.mk h
  clear h h32 hr0 hc0
  go_enter Tryz.func26, Tryz.ntmps26
  go_wp2_with fail
  go_loopg [12] l0.length (fun kq v12 wr => ∃ i : Nat, v12 = .int .i64 (i : Int) ∧ Aside0 (kq + i = l0.length) ∧ Aside0 (memE k l0 (l0.drop i) i = some r) ∧ Aside0 (wr.heap[w.heap.size]? = some (.cells #[.slice A0 l0.length c0] 24 (0, 0))) ∧ Aside0 (Below w.heap.size w wr))
  case atStart => exact ⟨0, rfl, ⟨by omega⟩, HF0, ⟨blk_new _ _⟩, ⟨below_alloc (Below.refl _ _) _⟩⟩
  case round =>
    obtain ⟨i, rfl, HK, HF, HG, HB⟩ := hrel
    obtain ⟨wo, hwo⟩ : ∃ wo, wo = wr := ⟨_, rfl⟩
    subst hwo
    have hl32 := HL.out
    clear hd HF0
    by_cases hlt : i < l0.length
    · obtain ⟨k', rfl⟩ : ∃ k', gk = k' + 1 := ⟨gk - 1, by have := HK.out; omega⟩
      have hti : rd_T107 l0 (i : Int) = l0[i] := by simp [rd_T107, hlt]
      obtain ⟨ad, A2, c2, ea, hx0, hx1, hx2, hl2, hr2⟩ := at_T107 (Kd.C_below HR.out HB.out) (i : Int) (by omega) (by omega)
      cases ea
      obtain ⟨p, hpd⟩ : ∃ p, (rd_T107 l0 ((i : Int) - 1)).f0 = p := ⟨_, rfl⟩
      have HP := Aside0.mk (show 0 < i → wo.cell? (ad.add ((i - 1) * 3)) = some (.string p) from fun h0 => by
        obtain ⟨ad', A2', c2', ea', hy0, _, _, _, _⟩ := at_T107 (Kd.C_below HR.out HB.out) ((i : Int) - 1) (by omega) (by omega)
        obtain rfl := Option.some.inj ea'
        rw [hpd, show ((i : Int) - 1).toNat = i - 1 by omega] at hy0
        exact hy0)
      rw [Int.toNat_natCast] at hx0 hx1 hx2
      rw [hti] at hx0 hx1 hx2 hl2 hr2
      have hf := HF.out
      rw [(List.getElem_cons_drop hlt).symm, memE, hpd] at hf
      generalize l0[i] = t at hx0 hx1 hx2 hl2 hr2 hf
      have HI := Aside0.mk hlt
      have HX := Aside0.mk hx0
      have HRA := Aside0.mk hr2
      obtain ⟨b, hb, hf⟩ := Option.bind_eq_some_iff.1 hf
      have HN := Aside0.mk hb
      have p0 := eq_true (show 0 ≤ (i : Int) by omega)
      have q0 := eq_true (show (i : Int) < (l0.length : Int) by omega)
      clear hti HF hpd hr2 hb
      by_cases hne : nameE b i p t.f0 = 0
      case neg =>
        rw [if_neg hne] at hf
        obtain ⟨ne, hn⟩ : ∃ ne, nameE b i p t.f0 = ne := ⟨_, rfl⟩
        rw [hn] at hf hne
        obtain rfl := Option.some.inj hf
        have hbn : (ne != 0) = true := bne_iff_ne.2 hne
        have HE := Aside0.mk hn
        clear hf hne hl2 hn
        go_wp2_with (go_at_call 56; refine (nmM_calls k w.heap.size c0 l0.length ad i t.f0 p b _ (blk_alloc HG.out _) (by have := HL.out; omega) HI.out (((below_alloc (Below.refl wo.heap.size wo) _).cell (World.block_lt_of_cell? _ _ HX.out)).trans HX.out) (fun h0 => ((below_alloc (Below.refl wo.heap.size wo) _).cell (World.block_lt_of_cell? _ _ (HP.out h0))).trans (HP.out h0)) HN.out).mono ?_; rw [HE.out]; rintro e1_ w1 ⟨rfl, hb1⟩; have HB1 := Aside0.mk (below_step (below_alloc HB.out _) hb1); have HG1 := Aside0.mk (blk_below (blk_alloc HG.out _) hb1); have HM1 := Aside0.mk (blk_below (blk_new wo _) hb1); have HRA1 := Aside0.mk (Kd.C_below (Kd.C_alloc HRA.out _) hb1); have hm1 := blk_cell HM1.out 1; have hm2 := blk_cell HM1.out 2; clear hb1)
        go_ret
        exact ⟨rfl, HB1.out⟩
      rw [if_pos hne] at hf
      have HE := Aside0.mk hne
      clear hne
      have hst : (¬ (1 ≤ t.f1 ∧ t.f1 ≤ 4) ∧ r = 13) ∨ ((1 ≤ t.f1 ∧ t.f1 ≤ 4) ∧ ((16 < t.f2.length ∧ r = 8) ∨ (t.f2.length ≤ 16 ∧ ∃ e, accE k t.f2 t.f2 0 = some e ∧ ((e = 0 ∧ memE k l0 (l0.drop (i + 1)) (i + 1) = some r) ∨ (e ≠ 0 ∧ r = e))))) := by
        by_cases c1 : 1 ≤ t.f1 ∧ t.f1 ≤ 4
        · rw [if_pos c1] at hf
          by_cases c2 : t.f2.length ≤ 16
          · rw [if_pos c2] at hf
            obtain ⟨e, he, hf⟩ := Option.bind_eq_some_iff.1 hf
            by_cases c3 : e = 0
            · rw [if_pos c3] at hf; exact Or.inr ⟨c1, Or.inr ⟨c2, e, he, Or.inl ⟨c3, hf⟩⟩⟩
            · rw [if_neg c3] at hf; exact Or.inr ⟨c1, Or.inr ⟨c2, e, he, Or.inr ⟨c3, (Option.some.inj hf).symm⟩⟩⟩
          · rw [if_neg c2] at hf; exact Or.inr ⟨c1, Or.inl ⟨by omega, (Option.some.inj hf).symm⟩⟩
        · rw [if_neg c1] at hf; exact Or.inl ⟨c1, (Option.some.inj hf).symm⟩
      clear hf
      rcases hst with ⟨c1, rfl⟩ | ⟨c1, hst⟩
      · by_cases d1 : t.f1 < 1
        · have hd1 := decide_eq_true d1
          have hd1' := eq_true d1
          clear c1 hl2 d1
          go_wp2_with (go_at_call 56; refine (nmM_calls k w.heap.size c0 l0.length ad i t.f0 p b _ (blk_alloc HG.out _) (by have := HL.out; omega) HI.out (((below_alloc (Below.refl wo.heap.size wo) _).cell (World.block_lt_of_cell? _ _ HX.out)).trans HX.out) (fun h0 => ((below_alloc (Below.refl wo.heap.size wo) _).cell (World.block_lt_of_cell? _ _ (HP.out h0))).trans (HP.out h0)) HN.out).mono ?_; rw [HE.out]; rintro e1_ w1 ⟨rfl, hb1⟩; have HB1 := Aside0.mk (below_step (below_alloc HB.out _) hb1); have HG1 := Aside0.mk (blk_below (blk_alloc HG.out _) hb1); have HM1 := Aside0.mk (blk_below (blk_new wo _) hb1); have HRA1 := Aside0.mk (Kd.C_below (Kd.C_alloc HRA.out _) hb1); have hm1 := blk_cell HM1.out 1; have hm2 := blk_cell HM1.out 2; clear hb1)
          go_ret
          exact ⟨rfl, HB1.out⟩
        · have hd1 := decide_eq_false d1
          have hd2 := decide_eq_true (show 4 < t.f1 by omega)
          clear c1 hl2 d1
          go_wp2_with (go_at_call 56; refine (nmM_calls k w.heap.size c0 l0.length ad i t.f0 p b _ (blk_alloc HG.out _) (by have := HL.out; omega) HI.out (((below_alloc (Below.refl wo.heap.size wo) _).cell (World.block_lt_of_cell? _ _ HX.out)).trans HX.out) (fun h0 => ((below_alloc (Below.refl wo.heap.size wo) _).cell (World.block_lt_of_cell? _ _ (HP.out h0))).trans (HP.out h0)) HN.out).mono ?_; rw [HE.out]; rintro e1_ w1 ⟨rfl, hb1⟩; have HB1 := Aside0.mk (below_step (below_alloc HB.out _) hb1); have HG1 := Aside0.mk (blk_below (blk_alloc HG.out _) hb1); have HM1 := Aside0.mk (blk_below (blk_new wo _) hb1); have HRA1 := Aside0.mk (Kd.C_below (Kd.C_alloc HRA.out _) hb1); have hm1 := blk_cell HM1.out 1; have hm2 := blk_cell HM1.out 2; clear hb1)
          go_ret
          exact ⟨rfl, HB1.out⟩
      have hd1 := decide_eq_false (show ¬ t.f1 < 1 by omega)
      have hd2 := decide_eq_false (show ¬ 4 < t.f1 by omega)
      clear c1
      rcases hst with ⟨c2, rfl⟩ | ⟨c2, e1, he1, hst⟩
      · have hd3 := decide_eq_true (show (16 : Int) < (t.f2.length : Int) by omega)
        clear c2 hl2
        go_wp2_with (go_at_call 56; refine (nmM_calls k w.heap.size c0 l0.length ad i t.f0 p b _ (blk_alloc HG.out _) (by have := HL.out; omega) HI.out (((below_alloc (Below.refl wo.heap.size wo) _).cell (World.block_lt_of_cell? _ _ HX.out)).trans HX.out) (fun h0 => ((below_alloc (Below.refl wo.heap.size wo) _).cell (World.block_lt_of_cell? _ _ (HP.out h0))).trans (HP.out h0)) HN.out).mono ?_; rw [HE.out]; rintro e1_ w1 ⟨rfl, hb1⟩; have HB1 := Aside0.mk (below_step (below_alloc HB.out _) hb1); have HG1 := Aside0.mk (blk_below (blk_alloc HG.out _) hb1); have HM1 := Aside0.mk (blk_below (blk_new wo _) hb1); have HRA1 := Aside0.mk (Kd.C_below (Kd.C_alloc HRA.out _) hb1); have hm1 := blk_cell HM1.out 1; have hm2 := blk_cell HM1.out 2; clear hb1)
        go_ret
        exact ⟨rfl, HB1.out⟩
      have hd3 := decide_eq_false (show ¬ (16 : Int) < (t.f2.length : Int) by omega)
      have HAE := Aside0.mk he1
      have HST := Aside0.mk hst
      have HL2 := Aside0.mk hl2
      have HL16 := Aside0.mk c2
      clear c2 hl2 he1 hst
      go_wp2_with (go_at_call 56; refine (nmM_calls k w.heap.size c0 l0.length ad i t.f0 p b _ (blk_alloc HG.out _) (by have := HL.out; omega) HI.out (((below_alloc (Below.refl wo.heap.size wo) _).cell (World.block_lt_of_cell? _ _ HX.out)).trans HX.out) (fun h0 => ((below_alloc (Below.refl wo.heap.size wo) _).cell (World.block_lt_of_cell? _ _ (HP.out h0))).trans (HP.out h0)) HN.out).mono ?_; rw [HE.out]; rintro e1_ w1 ⟨rfl, hb1⟩; have HB1 := Aside0.mk (below_step (below_alloc HB.out _) hb1); have HG1 := Aside0.mk (blk_below (blk_alloc HG.out _) hb1); have HM1 := Aside0.mk (blk_below (blk_new wo _) hb1); have HRA1 := Aside0.mk (Kd.C_below (Kd.C_alloc HRA.out _) hb1); have hm1 := blk_cell HM1.out 1; have hm2 := blk_cell HM1.out 2; clear hb1)
      clear hm1 hm2 hd1 hd2 hd3 p0 q0 hx0 hx1 hx2
      go_loopg [38] t.f2.length (fun kq v38 wr => ∃ j : Nat, v38 = .int .i64 (j : Int) ∧ Aside0 (kq + j = t.f2.length) ∧ Aside0 (accE k t.f2 (t.f2.drop j) j = some e1) ∧ Aside0 (Below w1.heap.size w1 wr))
      case atStart => exact ⟨0, rfl, ⟨by omega⟩, HAE, ⟨Below.refl _ _⟩⟩
      case round =>
        obtain ⟨j, rfl, HKi, HFi, HBi⟩ := hrel
        clear HAE
        have HGi := Aside0.mk (blk_below HG1.out HBi.out)
        have HMi := Aside0.mk (blk_below HM1.out HBi.out)
        by_cases hlj : j < t.f2.length
        · have htj : rd_T110 t.f2 (j : Int) = t.f2[j] := by simp [rd_T110, hlj]
          obtain ⟨ad2, ea2, hy0, hy1⟩ := at_T110 (Kd.C_below HRA1.out HBi.out) (j : Int) (by omega) (by omega)
          cases ea2
          obtain ⟨p2, hpd2⟩ : ∃ p2, (rd_T110 t.f2 ((j : Int) - 1)).f0 = p2 := ⟨_, rfl⟩
          have HP2 := Aside0.mk (show 0 < j → wr.cell? (ad2.add ((j - 1) * 2)) = some (.string p2) from fun h0 => by
            obtain ⟨ad', ea', hz0, _⟩ := at_T110 (Kd.C_below HRA1.out HBi.out) ((j : Int) - 1) (by omega) (by omega)
            obtain rfl := Option.some.inj ea'
            rw [hpd2, show ((j : Int) - 1).toNat = j - 1 by omega] at hz0
            exact hz0)
          rw [Int.toNat_natCast] at hy0 hy1
          rw [htj] at hy0 hy1
          have hf := HFi.out
          rw [(List.getElem_cons_drop hlj).symm, accE, hpd2] at hf
          have hj16 := HL16.out
          have HJ := Aside0.mk hlj
          generalize t.f2[j] = a at hy0 hy1 hf
          have HY := Aside0.mk hy0
          obtain ⟨b2, hb2, hf⟩ := Option.bind_eq_some_iff.1 hf
          have HN2 := Aside0.mk hb2
          have p1 := eq_true (show 0 ≤ (j : Int) by omega)
          have q1 := eq_true (show (j : Int) < (t.f2.length : Int) by omega)
          clear htj HFi hpd2 hb2
          by_cases hne : nameE b2 j p2 a.f0 = 0
          case neg =>
            rw [if_neg hne] at hf
            obtain ⟨ne, hn⟩ : ∃ ne, nameE b2 j p2 a.f0 = ne := ⟨_, rfl⟩
            rw [hn] at hf hne
            obtain rfl := Option.some.inj hf
            have hr : r = ne := HST.out.elim (fun h => absurd h.1 hne) (fun h => h.2)
            subst hr
            have hbn : (r != 0) = true := bne_iff_ne.2 hne
            have HE2 := Aside0.mk hn
            clear hf hne hn
            go_wp2_with (first | (go_at_call 56; refine (nmA_calls k t.f0 t.f1 wo.heap.size c2 t.f2.length ad2 j a.f0 p2 b2 _ (blk_alloc HMi.out _) (by have := HL16.out; omega) HJ.out (((below_alloc (Below.refl wr.heap.size wr) _).cell (World.block_lt_of_cell? _ _ HY.out)).trans HY.out) (fun h0 => ((below_alloc (Below.refl wr.heap.size wr) _).cell (World.block_lt_of_cell? _ _ (HP2.out h0))).trans (HP2.out h0)) HN2.out).mono ?_; rw [HE2.out]; rintro e2_ w2 ⟨rfl, hb2⟩; have HBj := Aside0.mk (below_step (below_alloc HBi.out _) hb2); have HB2 := Aside0.mk (below_step HB1.out HBj.out); have hk1 := blk_cell (blk_below (blk_new wr _) hb2) 1; clear hb2))
            go_ret
            exact ⟨rfl, HB2.out⟩
          rw [if_pos hne] at hf
          have HE2 := Aside0.mk hne
          clear hne
          obtain ⟨q, hq⟩ : ∃ q, member_kind.f a.f1 = some q := by unfold member_kind.f; split <;> exact ⟨_, rfl⟩
          have HQ := Aside0.mk hq
          have hqd : q = true ↔ 1 ≤ a.f1 ∧ a.f1 ≤ 3 := by
            unfold member_kind.f at hq
            split at hq
            · obtain rfl := Option.some.inj hq; simp; omega
            · obtain rfl := Option.some.inj hq; simp; omega
          clear hq
          cases q with
          | false =>
            rw [if_neg (by rw [← hqd]; simp)] at hf
            obtain rfl := Option.some.inj hf
            have hr : r = 21 := HST.out.elim (fun h => absurd h.1 (by decide)) (fun h => h.2)
            subst hr
            clear hf hqd
            go_wp2_with (first | (go_at_call 56; refine (nmA_calls k t.f0 t.f1 wo.heap.size c2 t.f2.length ad2 j a.f0 p2 b2 _ (blk_alloc HMi.out _) (by have := HL16.out; omega) HJ.out (((below_alloc (Below.refl wr.heap.size wr) _).cell (World.block_lt_of_cell? _ _ HY.out)).trans HY.out) (fun h0 => ((below_alloc (Below.refl wr.heap.size wr) _).cell (World.block_lt_of_cell? _ _ (HP2.out h0))).trans (HP2.out h0)) HN2.out).mono ?_; rw [HE2.out]; rintro e2_ w2 ⟨rfl, hb2⟩; have HBj := Aside0.mk (below_step (below_alloc HBi.out _) hb2); have HB2 := Aside0.mk (below_step HB1.out HBj.out); have hk1 := blk_cell (blk_below (blk_new wr _) hb2) 1; clear hb2) | (go_at_call 59; refine (member_kind.calls a.f1 _ _ HQ.out).mono ?_; rintro e3_ w3 ⟨rfl, hd3⟩; have hb3 := hd3.below; have HBj := Aside0.mk (below_step HBj.out hb3); have HB3 := Aside0.mk (below_step HB1.out HBj.out); clear hd3 hb3))
            go_ret
            exact ⟨rfl, HB3.out⟩
          | true =>
            rw [if_pos (hqd.1 rfl)] at hf
            have HF2 := Aside0.mk hf
            clear hf hqd
            go_wp2_with (first | (go_at_call 56; refine (nmA_calls k t.f0 t.f1 wo.heap.size c2 t.f2.length ad2 j a.f0 p2 b2 _ (blk_alloc HMi.out _) (by have := HL16.out; omega) HJ.out (((below_alloc (Below.refl wr.heap.size wr) _).cell (World.block_lt_of_cell? _ _ HY.out)).trans HY.out) (fun h0 => ((below_alloc (Below.refl wr.heap.size wr) _).cell (World.block_lt_of_cell? _ _ (HP2.out h0))).trans (HP2.out h0)) HN2.out).mono ?_; rw [HE2.out]; rintro e2_ w2 ⟨rfl, hb2⟩; have HBj := Aside0.mk (below_step (below_alloc HBi.out _) hb2); have HB2 := Aside0.mk (below_step HB1.out HBj.out); have hk1 := blk_cell (blk_below (blk_new wr _) hb2) 1; clear hb2) | (go_at_call 59; refine (member_kind.calls a.f1 _ _ HQ.out).mono ?_; rintro e3_ w3 ⟨rfl, hd3⟩; have hb3 := hd3.below; have HBj := Aside0.mk (below_step HBj.out hb3); have HB3 := Aside0.mk (below_step HB1.out HBj.out); clear hd3 hb3))
            go_roundg (gk - 1)
            case measure => have := HKi.out; have := HJ.out; omega
            case rel => exact ⟨j + 1, by go_num, ⟨by have := HKi.out; omega⟩, HF2, HBj⟩
        · have hf := HFi.out
          rw [List.drop_of_length_le (by omega), accE] at hf
          obtain rfl := Option.some.inj hf
          have HM2 := Aside0.mk (show memE k l0 (l0.drop (i + 1)) (i + 1) = some r from HST.out.elim (fun h => h.2) (fun h => absurd rfl h.1))
          clear hf HFi
          go_wp2_with fail
          go_roundg k'
          case measure => omega
          case rel => exact ⟨i + 1, by go_num, ⟨by have := HK.out; omega⟩, HM2, HGi, ⟨below_step HB1.out HBi.out⟩⟩
    · have hf := HF.out
      rw [List.drop_of_length_le (by omega), memE] at hf
      obtain rfl := Option.some.inj hf
      clear hf HF
      go_wp2_with fail
      go_ret
      exact ⟨rfl, HB.out⟩
def api_Account_85.f (l : List S110) : Option (List S110) := if l.length < 137438953472 then some l else none
set_option maxHeartbeats 1600000 in
set_option maxRecDepth 100000 in
theorem api_Account_85.calls (A0 : Option Addr) (c0 : Nat) (l0 : List S110) (r : List S110) (w : World) (hr0 : Kd.C k110 w A0 l0.length l0) (hc0 : l0.length ≤ c0) (h : api_Account_85.f l0 = some r) :
    Calls Tryz.prog 85 #[.slice A0 l0.length c0] w fun e w' => ∃ v0_ : Value, e = .returned (v0_) ∧ Kd.R k110 110 w' w.heap.size (fun _ => True) v0_ r ∧ Below w.heap.size w w' := by
  unfold api_Account_85.f at h
  by_cases hlim : l0.length < 137438953472
  case neg => rw [if_neg hlim] at h; exact absurd h (by simp)
  case pos =>
    rw [if_pos hlim] at h
    obtain rfl := Option.some.inj h
    have HR := Aside0.mk hr0
    have HL := Aside0.mk hlim
    clear h hlim hr0
    cases A0 with
    | none =>
      have hnil := fun W => Lib.run_eql_slice_nil (P := Tryz.prog) W 105 110 none 0 c0 0 0 Tryz.underlying105
      have h0 : l0 = [] := by
        by_cases hp : 0 < l0.length
        · obtain ⟨a, ha, _⟩ := HR.out.2.2 hp
          cases ha
        · exact List.length_eq_zero_iff.1 (by omega)
      subst h0
      go_enter Tryz.func85, Tryz.ntmps85
      go_wp2
      go_ret
      exact ⟨_, rfl, Kd.R_nil _ _ _ _ _, Below.refl _ _⟩
    | some ad =>
      have hnil := fun W => Lib.run_eql_slice_nil (P := Tryz.prog) W 105 110 (some ad) l0.length c0 0 0 Tryz.underlying105
      go_enter Tryz.func85, Tryz.ntmps85
      go_wp2_with (first
        | ((with_reducible refine gate_dst (N := 5) rfl ?_); (try (refine gate_guard (by rfl) ?_; dsimp only)); refine Kd.R_lit k110 _ 110 ?hg (N := 5) ?hd (xs := ([] : List S110)) (inner := []) (ok := fun _ => True) (okp := fun _ => True) ?hr ?hp (fun _ hk => hk) trivial (Below.refl _ _) (Nat.le_refl _) (by simp) ?_; (case hd => rfl); (case hg => rfl); (case hr => first | (go_simp; done) | (go_simp; rfl)); (case hp => exact (Reps.none _ _)); intro v1 w1 ho hb hg_ hnew_; clear hg_ hnew_; have HO := Aside0.mk ho; have HB := Aside0.mk hb; clear ho hb)
        | ((with_reducible refine gate_builtin (b := .append) (xs := #[.tmp 5, .tmp 6]) rfl ?_); at_builtin; refine Kd.R_append_rows k110 (w0 := w) w.heap.size rfl (.tmp 5) (.tmp 6) 105 110 _ _ rfl Tryz.underlying105 info110 rfl (by decide) (by omega) v1 ([] : List S110) l0 _ _ _ (fun _ => True) (fun _ => False) rfl rfl ?aO ?aR (fun _ _ h => h) (fun _ h => h.elim) (fun _ _ => trivial) ?aB ?aS ?aL ?_; (case aO => exact HO.out); (case aR => exact (Kd.C_below HR.out HB.out)); (case aB => exact HB.out); (case aS => exact (below_size HB.out)); (case aL => have := HL.out; simp; omega); intro v2 w2 ho hb hg hat; have HO2 := Aside0.mk ho; have HB2 := Aside0.mk hb; clear ho hb hg hat))
      go_ret
      exact ⟨_, rfl, by simpa using HO2.out, HB2.out⟩
def idxM (p : S107 → Bool) : List S107 → Int → Int
  | [], _ => -1
  | x :: r, i => if p x = true then i else idxM p r (i + 1)
set_option maxHeartbeats 1600000 in
set_option maxRecDepth 100000 in
theorem litM (s0 : ByteArray) (s1 : Int) (A2 : Option Addr) (n2 c2 : Nat) (q : ByteArray) (g : Nat) (w : World) (hg : w.heap[g]? = some (.cells #[.string q] 9 (0, 0))) :
    Calls Tryz.prog 104 #[.agg #[.string s0, .int .i64 s1, .slice A2 n2 c2], .pointer (some ⟨g, 0, none⟩)] w fun e w' => e = .returned (.bool (s0.toList == q.toList)) ∧ Below w.heap.size w w' := by
  have hc0 : ∀ o, (w.alloc o).cell? ⟨g, 0, none⟩ = some (.string q) := fun o => blk_cell (blk_alloc hg o) 0
  go_enter Tryz.func104, Tryz.ntmps104
  go_wp2
  go_ret
  exact ⟨eqs, (Below.refl _ _).alloc (Nat.le_refl _) _⟩
set_option maxHeartbeats 1600000 in
set_option maxRecDepth 100000 in
theorem ixM_calls (A : Option Addr) (c : Nat) (l : List S107) (q : ByteArray) (g : Nat) (w : World) (hr : Kd.C k107 w A l.length l) (hg : w.heap[g]? = some (.cells #[.string q] 9 (0, 0))) :
    Calls Tryz.prog 103 #[.slice A l.length c, .func (.func 104) #[] #[.pointer (some ⟨g, 0, none⟩)]] w fun e w' => e = .returned (.int .i64 (idxM (fun t => t.f0.toList == q.toList) l 0)) ∧ Below w.heap.size w w' := by
  have HR := Aside0.mk hr
  have HG := Aside0.mk hg
  have hlen := (show l.length ≤ 9223372036854775807 from Kd.C_max hr)
  clear hr hg
  go_enter Tryz.func103, Tryz.ntmps103
  go_wp2_with fail
  go_loopg [8] l.length (fun kq v8 wr => ∃ i : Nat, v8 = .int .i64 (i : Int) ∧ Aside0 (kq + i = l.length) ∧ Aside0 (idxM (fun t => t.f0.toList == q.toList) (l.drop i) (i : Int) = idxM (fun t => t.f0.toList == q.toList) l 0) ∧ Aside0 (Below w.heap.size w wr))
  case atStart => exact ⟨0, rfl, ⟨by omega⟩, ⟨rfl⟩, ⟨Below.refl _ _⟩⟩
  case round =>
    obtain ⟨i, rfl, HK, HF, HB2⟩ := hrel
    by_cases hlt : i < l.length
    · have hti : rd_T107 l (i : Int) = l[i] := by simp [rd_T107, hlt]
      obtain ⟨ad, A2, c2, ea, hx0, hx1, hx2, hl2, hr2⟩ := at_T107 HR.out (i : Int) (by omega) (by omega)
      cases ea
      rw [Int.toNat_natCast] at hx0 hx1 hx2
      replace hx0 := (HB2.out.cell (World.block_lt_of_cell? w _ hx0)).trans hx0
      replace hx1 := (HB2.out.cell (World.block_lt_of_cell? w _ hx1)).trans hx1
      replace hx2 := (HB2.out.cell (World.block_lt_of_cell? w _ hx2)).trans hx2
      rw [hti] at hx0 hx1 hx2
      have hf := HF.out
      rw [(List.getElem_cons_drop hlt).symm, idxM] at hf
      generalize l[i] = t at hx0 hx1 hx2 hf hl2 hr2
      clear hti HF hl2 hr2
      by_cases hb : (t.f0.toList == q.toList) = true
      · rw [if_pos hb] at hf
        have HBB := Aside0.mk hb
        have HF := Aside0.mk hf
        clear hb hf
        go_wp2_with (go_at_call 104; refine (litM t.f0 t.f1 A2 t.f2.length c2 q g _ (blk_below HG.out HB2.out)).mono ?_; rw [HBB.out]; rintro e1 w1 ⟨rfl, hb1⟩; have HB3 := Aside0.mk (below_step HB2.out hb1); clear hb1)
        exact bodyPost_ret (v := .int .i64 (i : Int)) (by simp [results, Tryz.results103, go_sem]) rfl ⟨by rw [← HF.out], HB3.out⟩
      · rw [if_neg hb] at hf
        have HBB := Aside0.mk (show (t.f0.toList == q.toList) = false by simpa using hb)
        have HF := Aside0.mk hf
        clear hb hf
        go_wp2_with (go_at_call 104; refine (litM t.f0 t.f1 A2 t.f2.length c2 q g _ (blk_below HG.out HB2.out)).mono ?_; rw [HBB.out]; rintro e1 w1 ⟨rfl, hb1⟩; have HB3 := Aside0.mk (below_step HB2.out hb1); clear hb1)
        go_roundg (gk - 1)
        case measure => have := HK.out; omega
        case rel => exact ⟨i + 1, by go_num, ⟨by have := HK.out; omega⟩, ⟨by have := HF.out; simpa using this⟩, HB3⟩
    · have hf := HF.out
      rw [List.drop_of_length_le (by omega), idxM] at hf
      have HF := Aside0.mk hf
      clear hf
      go_wp2_with fail
      exact bodyPost_ret (v := .int .i64 (-1)) (by simp [results, Tryz.results103, go_sem]) rfl ⟨by rw [← HF.out], HB2.out⟩
def member_at.f (l : List S107) (q : ByteArray) : Option Int := some (idxM (fun t => t.f0.toList == q.toList) l 0)
set_option maxHeartbeats 1600000 in
set_option maxRecDepth 100000 in
theorem member_at.calls (A0 : Option Addr) (c0 : Nat) (l0 : List S107) (a1 : ByteArray) (r : Int) (w : World) (hr0 : Kd.C k107 w A0 l0.length l0) (hc0 : l0.length ≤ c0) (h : member_at.f l0 a1 = some r) :
    Calls Tryz.prog 84 #[.slice A0 l0.length c0, .string a1] w fun e w' => e = .returned (.int .i64 r) ∧ Below w.heap.size w w' := by
  unfold member_at.f at h
  have HR := Aside0.mk hr0
  have HP := Aside0.mk (Option.some.inj h)
  have HBA := Aside0.mk (below_alloc (Below.refl w.heap.size w) (.cells #[.string a1] 9))
  clear hr0 h
  go_enter Tryz.func84, Tryz.ntmps84
  go_wp2_with (go_at_call 103; refine (ixM_calls _ _ l0 a1 w.heap.size _ (Kd.C_alloc HR.out _) (blk_new w _)).mono ?_; rw [HP.out]; rintro e1 w1 ⟨rfl, hb1⟩; have HB3 := Aside0.mk (below_step HBA.out hb1); clear hb1)
  exact bodyPost_ret (v := .int .i64 r) (by simp [results, Tryz.results84, go_sem]) rfl ⟨rfl, HB3.out⟩
def member_Find.f (l0 : List (S107)) (a1 : ByteArray) : Option (ByteArray × Int × (List (S110)) × Bool) := (member_at.f l0 a1).bind fun t102 => (if t102 < 0 then (some ((⟨#[]⟩ : ByteArray), 0, ([] : List (S110)), false)) else (if 0 ≤ t102 then (if t102 < (l0.length : Int) then ((api_Account_85.f ((rd_T107 l0 t102).f2)).bind fun t104 => (some ((rd_T107 l0 t102).f0, (rd_T107 l0 t102).f1, t104, true))) else (none)) else (none)))
set_option maxHeartbeats 8000000 in
set_option maxRecDepth 100000 in
theorem member_Find.calls (A0 : Option Addr) (c0 : Nat) (l0 : List (S107)) (a1 : ByteArray) (r1 : ByteArray) (r2 : Int) (r3 : List (S110)) (r4 : Bool) (w : World) (hr0 : Kd.C k107 w A0 l0.length l0) (hc0 : l0.length ≤ c0) (h : member_Find.f l0 a1 = some (r1, r2, r3, r4)) :
    Calls Tryz.prog 60 #[.slice A0 l0.length c0, .string a1] w fun e w' => ∃ v2_ : Value, e = .returned (.tuple #[.agg #[.string r1, .int .i64 r2, v2_], .bool r4]) ∧ Kd.R k110 110 w' w.heap.size (fun _ => True) v2_ r3 ∧ Below w.heap.size w w' := by
  have hu107 := Tryz.underlying107
  have HR0 := Aside0.mk hr0
  have HC0 := Aside0.mk hc0
  clear hr0 hc0
  have HB := Aside0.mk (Below.refl w.heap.size w)
  have H : ((member_at.f l0 a1).bind fun t102 => (if t102 < 0 then (some ((⟨#[]⟩ : ByteArray), 0, ([] : List (S110)), false)) else (if 0 ≤ t102 then (if t102 < (l0.length : Int) then ((api_Account_85.f ((rd_T107 l0 t102).f2)).bind fun t104 => (some ((rd_T107 l0 t102).f0, (rd_T107 l0 t102).f1, t104, true))) else (none)) else (none)))) = some (r1, r2, r3, r4) := h
  clear h
  replace H := bnd H
  obtain ⟨t102, A30, H⟩ := H
  have A3 := Aside0.mk A30
  clear A30
  by_cases c4 : t102 < 0
  · rw [if_pos c4] at H
    have c4b0 := decide_eq_true c4
    clear c4
    simp only [Option.some.injEq, Prod.mk.injEq] at H
    obtain ⟨rfl, rfl, rfl, rfl⟩ := H
    go_enter Tryz.func60, Tryz.ntmps60
    go_wp2_with (first | ((with_reducible refine gate_dst (N := 4) rfl ?_); refine box_event ?hg (N := 4) ?hd (cs := #[.string (⟨#[]⟩ : ByteArray), .int .i64 0, .slice none 0 0]) (t := 107) ?hr ?_; (case hd => rfl); (case hg => rfl); (case hr => first | (go_simp; done) | (go_simp; rfl)); intro gb101 hg w5 hbox hb; have BK101 := Aside0.mk (hbox); have GW101 := Aside0.mk ((gsz hg : w.heap.size ≤ gb101)); have GE101 := Aside0.mk ((gsz hg : w.heap.size ≤ gb101)); replace HB := Aside0.mk (below_step bel hb); clear hb hbox hg) | ((with_reducible refine gate_callee (f := 84) rfl ?_); refine goesL_ (some 9) rfl rfl Tryz.func84 (by kernel_rfl) rfl #[.slice A0 l0.length c0, .string a1] rfl arg ?_; (with_reducible refine (member_at.calls _ _ l0 a1 t102 _ ?side1 ?side2 A3.out).mono ?_); (case side1 => repeat (first | exact (Kd.C_below HR0.out HB.out) | (with_reducible refine Kd.C_alloc ?_ _) | (with_reducible refine Kd.C_drewN ?_ _) | (with_reducible refine Kd.C_drew ?_))); (case side2 => exact HC0.out); rintro e w6 ⟨rfl, hb⟩; refine ⟨_, rfl, ?_⟩; replace BK101 := Aside0.mk (blk_below (g := gb101) (bw BK101.out) hb); replace HB := Aside0.mk (below_step bel hb); (try clear hb); (try clear hb2); (try clear hk); (try clear hi); obtain ⟨hcz7_0, hcz7_1, hcz7_2, hfz7_0, hfz7_1, hfz7_2⟩ := cz3 BK101.out))
    refine bodyPost_ret (results_ct rfl _ _ gb101 107 #[.string (⟨#[]⟩ : ByteArray), .int .i64 0, .slice none 0 0] (0, 0) _ rfl (bs BK101.out) Tryz.underlying107 rfl (by kernel_rfl)) rfl ?_
    exact ⟨_, ers, by first | exact Kd.R_nil _ _ _ _ _ | exact Kd.N_nil _ _ _ _ _ | exact Kd.V_nil _ _ _ _ _ | exact Kd.Q_nil _ _ _ _ _ | exact Kd.S_nil _ _ _ _ _, bel⟩
  · rw [if_neg c4] at H
    have c4b0 := decide_eq_false c4
    clear c4
    by_cases c8 : 0 ≤ t102
    · rw [if_pos c8] at H
      have c8b0 := decide_eq_true c8
      clear c8
      by_cases c9 : t102 < (l0.length : Int)
      · rw [if_pos c9] at H
        have c9b0 := decide_eq_true c9
        clear c9
        replace H := bnd H
        obtain ⟨t104, A100, H⟩ := H
        have A10 := Aside0.mk A100
        clear A100
        simp only [Option.some.injEq, Prod.mk.injEq] at H
        obtain ⟨rfl, rfl, rfl, rfl⟩ := H
        go_enter Tryz.func60, Tryz.ntmps60
        go_wp2_with (first | ((with_reducible refine gate_dst (N := 4) rfl ?_); refine box_event ?hg (N := 4) ?hd (cs := #[.string (⟨#[]⟩ : ByteArray), .int .i64 0, .slice none 0 0]) (t := 107) ?hr ?_; (case hd => rfl); (case hg => rfl); (case hr => first | (go_simp; done) | (go_simp; rfl)); intro gb101 hg w11 hbox hb; have BK101 := Aside0.mk (hbox); have GW101 := Aside0.mk ((gsz hg : w.heap.size ≤ gb101)); have GE101 := Aside0.mk ((gsz hg : w.heap.size ≤ gb101)); replace HB := Aside0.mk (below_step bel hb); clear hb hbox hg) | ((with_reducible refine gate_callee (f := 84) rfl ?_); refine goesL_ (some 9) rfl rfl Tryz.func84 (by kernel_rfl) rfl #[.slice A0 l0.length c0, .string a1] rfl arg ?_; (with_reducible refine (member_at.calls _ _ l0 a1 t102 _ ?side1 ?side2 A3.out).mono ?_); (case side1 => repeat (first | exact (Kd.C_below HR0.out HB.out) | (with_reducible refine Kd.C_alloc ?_ _) | (with_reducible refine Kd.C_drewN ?_ _) | (with_reducible refine Kd.C_drew ?_))); (case side2 => exact HC0.out); rintro e w12 ⟨rfl, hb⟩; refine ⟨_, rfl, ?_⟩; replace BK101 := Aside0.mk (blk_below (g := gb101) (bw BK101.out) hb); replace HB := Aside0.mk (below_step bel hb); (try clear hb); (try clear hb2); (try clear hk); (try clear hi); have p103 : 0 ≤ (t102 : Int) := dt; have q103 : t102 < (l0.length : Int) := dt; obtain ⟨ad103, A103_2, c103_2, e103, hx103_0, hx103_1, hx103_2, hl103_2, hi103_2⟩ := at_T107 HR0.out t102 p103 q103; cases e103; replace hx103_0 := (HB.out.cell (World.block_lt_of_cell? w _ hx103_0)).trans hx103_0; replace hx103_1 := (HB.out.cell (World.block_lt_of_cell? w _ hx103_1)).trans hx103_1; replace hx103_2 := (HB.out.cell (World.block_lt_of_cell? w _ hx103_2)).trans hx103_2; have HR103_2 := Aside0.mk hi103_2; have HC103_2 := Aside0.mk hl103_2; clear hi103_2 hl103_2; replace p103 := eq_true p103; replace q103 := eq_true q103; obtain ⟨hcz13_0, hcz13_1, hcz13_2, hfz13_0, hfz13_1, hfz13_2⟩ := cz3 BK101.out) | ((with_reducible refine gate_callee (f := 85) rfl ?_); refine goesL_ (some 19) rfl rfl Tryz.func85 (by kernel_rfl) rfl #[.slice A103_2 ((rd_T107 l0 t102).f2).length c103_2] rfl arg ?_; (with_reducible refine (api_Account_85.calls _ _ ((rd_T107 l0 t102).f2) t104 _ ?side1 ?side2 A10.out).mono ?_); (case side1 => exact Kd.C_below HR103_2.out bel); (case side2 => exact HC103_2.out); rintro e w14 ⟨v105, rfl, ho0, hb⟩; refine ⟨_, rfl, ?_⟩; have HO106 := Aside0.mk (Kd.R_lower ho0 (below_size bel)); replace BK101 := Aside0.mk (blk_below (g := gb101) (o := .cells #[.string ((rd_T107 l0 t102).f0), .int .i64 ((rd_T107 l0 t102).f1), .slice A103_2 ((rd_T107 l0 t102).f2).length c103_2] 107 (0, 0)) (bs BK101.out) hb); replace HB := Aside0.mk (below_step bel hb); (try clear hb); (try clear hb2); (try clear hk); (try clear hi); (try clear ho0); obtain ⟨Ao15, co15, eo15⟩ := Kd.R_slice HO106.out; subst eo15; obtain ⟨hcz16_0, hcz16_1, hcz16_2, hfz16_0, hfz16_1, hfz16_2⟩ := cz3 BK101.out))
        refine bodyPost_ret (results_ct rfl _ _ gb101 107 #[.string ((rd_T107 l0 t102).f0), .int .i64 ((rd_T107 l0 t102).f1), .slice Ao15 t104.length co15] (0, 0) _ rfl (bs BK101.out) Tryz.underlying107 rfl (by kernel_rfl)) rfl ?_
        exact ⟨_, ers, by (with_reducible repeat (first | apply Kd.R_alloc | apply Kd.R_drewN | apply Kd.R_drew)); exact Kd.R_mono (Kd.R_far (p := ⟨gb101, 2, none⟩) (Kd.R_far (p := ⟨gb101, 1, none⟩) (Kd.R_far (p := ⟨gb101, 0, none⟩) (Kd.R_far (p := ⟨gb101, 2, none⟩) (Kd.R_types HO106.out BK101.out (by decide)) (fun _ hk => hk.2) (.slice Ao15 t104.length co15)) (fun _ hk => hk.2) (.string ((rd_T107 l0 t102).f0))) (fun _ hk => hk.2) (.int .i64 ((rd_T107 l0 t102).f1))) (fun _ hk => hk.2) (.slice Ao15 t104.length co15)) (fun _ hk => trivial), bel⟩
      · rw [if_neg c9] at H
        exact absurd H (by simp)
    · rw [if_neg c8] at H
      exact absurd H (by simp)
def idxA (p : S110 → Bool) : List S110 → Int → Int
  | [], _ => -1
  | x :: r, i => if p x = true then i else idxA p r (i + 1)
theorem idxA_rng (p : S110 → Bool) : ∀ (l : List S110) (i : Nat), idxA p l (i : Int) = -1 ∨ ∃ j : Nat, j < l.length ∧ idxA p l (i : Int) = ((i + j : Nat) : Int)
  | [], i => Or.inl rfl
  | x :: r, i => by
    unfold idxA
    by_cases h : p x = true
    · rw [if_pos h]; exact Or.inr ⟨0, by simp, rfl⟩
    · rw [if_neg h]
      rcases idxA_rng p r (i + 1) with h1 | ⟨j, h1, h2⟩
      · exact Or.inl h1
      · exact Or.inr ⟨j + 1, by simp; omega, by rw [show (i : Int) + 1 = ((i + 1 : Nat) : Int) by omega, h2]; congr 1; omega⟩
set_option maxHeartbeats 1600000 in
set_option maxRecDepth 100000 in
theorem litA (s0 : ByteArray) (s1 : Int) (p q : ByteArray) (g : Nat) (w : World) (hg : w.heap[g]? = some (.cells #[.string p, .string q] 28 (0, 0))) :
    Calls Tryz.prog 87 #[.agg #[.string s0, .int .i64 s1], .pointer (some ⟨g, 0, none⟩)] w fun e w' => e = .returned (.bool (s0.toList == q.toList)) ∧ Below w.heap.size w w' := by
  have hc0 : ∀ o, (w.alloc o).cell? ⟨g, 1, none⟩ = some (.string q) := fun o => blk_cell (blk_alloc hg o) 1
  go_enter Tryz.func87, Tryz.ntmps87
  go_wp2
  go_ret
  exact ⟨eqs, (Below.refl _ _).alloc (Nat.le_refl _) _⟩
set_option maxHeartbeats 1600000 in
set_option maxRecDepth 100000 in
theorem ixA_calls (A : Option Addr) (c : Nat) (l : List S110) (p q : ByteArray) (g : Nat) (w : World) (hr : Kd.C k110 w A l.length l) (hg : w.heap[g]? = some (.cells #[.string p, .string q] 28 (0, 0))) :
    Calls Tryz.prog 86 #[.slice A l.length c, .func (.func 87) #[] #[.pointer (some ⟨g, 0, none⟩)]] w fun e w' => e = .returned (.int .i64 (idxA (fun t => t.f0.toList == q.toList) l 0)) ∧ Below w.heap.size w w' := by
  have HR := Aside0.mk hr
  have HG := Aside0.mk hg
  have hlen := (show l.length ≤ 9223372036854775807 from Kd.C_max hr)
  clear hr hg
  go_enter Tryz.func86, Tryz.ntmps86
  go_wp2_with fail
  go_loopg [8] l.length (fun kq v8 wr => ∃ i : Nat, v8 = .int .i64 (i : Int) ∧ Aside0 (kq + i = l.length) ∧ Aside0 (idxA (fun t => t.f0.toList == q.toList) (l.drop i) (i : Int) = idxA (fun t => t.f0.toList == q.toList) l 0) ∧ Aside0 (Below w.heap.size w wr))
  case atStart => exact ⟨0, rfl, ⟨by omega⟩, ⟨rfl⟩, ⟨Below.refl _ _⟩⟩
  case round =>
    obtain ⟨i, rfl, HK, HF, HB2⟩ := hrel
    by_cases hlt : i < l.length
    · have hti : rd_T110 l (i : Int) = l[i] := by simp [rd_T110, hlt]
      obtain ⟨ad, ea, hx0, hx1⟩ := at_T110 HR.out (i : Int) (by omega) (by omega)
      cases ea
      rw [Int.toNat_natCast] at hx0 hx1
      replace hx0 := (HB2.out.cell (World.block_lt_of_cell? w _ hx0)).trans hx0
      replace hx1 := (HB2.out.cell (World.block_lt_of_cell? w _ hx1)).trans hx1
      rw [hti] at hx0 hx1
      have hf := HF.out
      rw [(List.getElem_cons_drop hlt).symm, idxA] at hf
      generalize l[i] = t at hx0 hx1 hf
      clear hti HF
      by_cases hb : (t.f0.toList == q.toList) = true
      · rw [if_pos hb] at hf
        have HBB := Aside0.mk hb
        have HF := Aside0.mk hf
        clear hb hf
        go_wp2_with (go_at_call 87; refine (litA t.f0 t.f1 p q g _ (blk_below HG.out HB2.out)).mono ?_; rw [HBB.out]; rintro e1 w1 ⟨rfl, hb1⟩; have HB3 := Aside0.mk (below_step HB2.out hb1); clear hb1)
        exact bodyPost_ret (v := .int .i64 (i : Int)) (by simp [results, Tryz.results86, go_sem]) rfl ⟨by rw [← HF.out], HB3.out⟩
      · rw [if_neg hb] at hf
        have HBB := Aside0.mk (show (t.f0.toList == q.toList) = false by simpa using hb)
        have HF := Aside0.mk hf
        clear hb hf
        go_wp2_with (go_at_call 87; refine (litA t.f0 t.f1 p q g _ (blk_below HG.out HB2.out)).mono ?_; rw [HBB.out]; rintro e1 w1 ⟨rfl, hb1⟩; have HB3 := Aside0.mk (below_step HB2.out hb1); clear hb1)
        go_roundg (gk - 1)
        case measure => have := HK.out; omega
        case rel => exact ⟨i + 1, by go_num, ⟨by have := HK.out; omega⟩, ⟨by have := HF.out; simpa using this⟩, HB3⟩
    · have hf := HF.out
      rw [List.drop_of_length_le (by omega), idxA] at hf
      have HF := Aside0.mk hf
      clear hf
      go_wp2_with fail
      exact bodyPost_ret (v := .int .i64 (-1)) (by simp [results, Tryz.results86, go_sem]) rfl ⟨by rw [← HF.out], HB2.out⟩
def accM (q : ByteArray) (l : List S110) : ByteArray × Int × Bool := if idxA (fun t => t.f0.toList == q.toList) l 0 < 0 then ((⟨#[]⟩ : ByteArray), 0, false) else ((rd_T110 l (idxA (fun t => t.f0.toList == q.toList) l 0)).f0, (rd_T110 l (idxA (fun t => t.f0.toList == q.toList) l 0)).f1, true)
def member_Account.f (l : List S107) (p q : ByteArray) : Option (ByteArray × Int × Bool) := (member_Find.f l p).bind fun t => some (accM q t.2.2.1)
set_option maxHeartbeats 1600000 in
set_option maxRecDepth 100000 in
theorem member_Account.calls (A0 : Option Addr) (c0 : Nat) (l0 : List S107) (a1_0 a1_1 : ByteArray) (r1 : ByteArray) (r2 : Int) (r3 : Bool) (w : World) (hr0 : Kd.C k107 w A0 l0.length l0) (hc0 : l0.length ≤ c0) (h : member_Account.f l0 a1_0 a1_1 = some (r1, r2, r3)) :
    Calls Tryz.prog 61 #[.slice A0 l0.length c0, .agg #[.string a1_0, .string a1_1]] w fun e w' => e = .returned (.tuple #[.agg #[.string r1, .int .i64 r2], .bool r3]) ∧ Below w.heap.size w w' := by
  unfold member_Account.f at h
  obtain ⟨⟨t1, t2, t3, t4⟩, hF, h⟩ := Option.bind_eq_some_iff.1 h
  replace h := Option.some.inj h
  dsimp only at h
  have HF := Aside0.mk hF
  have HR := Aside0.mk hr0
  have HC := Aside0.mk hc0
  clear hF hr0 hc0
  have HBA := Aside0.mk (below_alloc (below_alloc (Below.refl w.heap.size w) (.cells #[.string a1_0, .string a1_1] 28)) (.cells #[.string (⟨#[]⟩ : ByteArray), .int .i64 0] 110))
  have HQA := Aside0.mk (blk_alloc (blk_new w (.cells #[.string a1_0, .string a1_1] 28)) (.cells #[.string (⟨#[]⟩ : ByteArray), .int .i64 0] 110))
  have HZA := Aside0.mk (show ((w.alloc (.cells #[.string a1_0, .string a1_1] 28)).alloc (.cells #[.string (⟨#[]⟩ : ByteArray), .int .i64 0] 110)).heap[w.heap.size + 1]? = some (.cells #[.string (⟨#[]⟩ : ByteArray), .int .i64 0] 110 (0, 0)) from by simpa using blk_new (w.alloc (.cells #[.string a1_0, .string a1_1] 28)) (.cells #[.string (⟨#[]⟩ : ByteArray), .int .i64 0] 110))
  unfold accM at h
  obtain ⟨j, hj⟩ : ∃ j, idxA (fun t => t.f0.toList == a1_1.toList) t3 0 = j := ⟨_, rfl⟩
  have HJ := Aside0.mk hj
  have hrng : j = -1 ∨ ∃ i : Nat, i < t3.length ∧ j = (i : Int) := by
    rcases idxA_rng (fun t => t.f0.toList == a1_1.toList) t3 0 with h | ⟨i, h, h2⟩
    · exact Or.inl (hj.symm.trans h)
    · exact Or.inr ⟨i, h, by rw [Nat.zero_add] at h2; exact hj.symm.trans h2⟩
  rw [hj] at h
  clear hj
  by_cases hneg : j < 0
  · rw [if_pos hneg] at h
    simp only [Prod.mk.injEq] at h
    obtain ⟨rfl, rfl, rfl⟩ := h
    have hb := decide_eq_true hneg
    clear hneg hrng
    go_enter Tryz.func61, Tryz.ntmps61
    go_wp2_with (first
      | (go_at_call 60; refine (member_Find.calls _ _ l0 a1_0 t1 t2 t3 t4 _ (Kd.C_below HR.out HBA.out) HC.out HF.out).mono ?_; rintro e1 w1 ⟨v2, rfl, hv2, hb1⟩; obtain ⟨A2, c2, rfl⟩ := Kd.R_slice hv2; have HV2 := Aside0.mk (Kd.R_reads' hv2).2.2; have HZ1 := Aside0.mk (blk_below HZA.out hb1); have HQ1 := Aside0.mk (blk_below HQA.out hb1); have HB1 := Aside0.mk (below_step HBA.out hb1); clear hv2 hb1)
      | (go_at_call 86; refine (ixA_calls A2 c2 t3 a1_0 a1_1 w.heap.size _ (Kd.C_alloc HV2.out _) (blk_alloc HQ1.out _)).mono ?_; rw [HJ.out]; rintro e2 w2 ⟨rfl, hb2⟩; have HB2 := Aside0.mk (below_step (below_alloc HB1.out _) hb2); have HZ2 := Aside0.mk (blk_below (blk_alloc HZ1.out _) hb2); have zc0 : w2.cell? ⟨w.heap.size + 1, 0, none⟩ = some (.string (⟨#[]⟩ : ByteArray)) := blk_cell HZ2.out 0; have zf0 : w2.frozen? ⟨w.heap.size + 1, 0, none⟩ = false := blk_frozen HZ2.out 0; have zc1 : w2.cell? ⟨w.heap.size + 1, 1, none⟩ = some (.int .i64 0) := blk_cell HZ2.out 1; have zf1 : w2.frozen? ⟨w.heap.size + 1, 1, none⟩ = false := blk_frozen HZ2.out 1; clear hb2))
    refine bodyPost_ret (results_ct rfl _ _ (w.heap.size + 1) 110 #[.string (⟨#[]⟩ : ByteArray), .int .i64 0] (0, 0) _ rfl (blk_put (cs := #[.string (⟨#[]⟩ : ByteArray), .int .i64 0]) (blk_put (cs := #[.string (⟨#[]⟩ : ByteArray), .int .i64 0]) (HZ2.out) 0 _ rfl) 1 _ rfl) Tryz.underlying110 rfl (by kernel_rfl)) rfl ⟨rfl, ?_⟩
    exact (Below.setCell (Below.setCell HB2.out (p := ⟨w.heap.size + 1, 0, none⟩) (Nat.le_succ _) _) (p := ⟨w.heap.size + 1, 1, none⟩) (Nat.le_succ _) _)
  · rw [if_neg hneg] at h
    obtain ⟨i, hi, hji⟩ := hrng.resolve_left (by omega)
    have hb := decide_eq_false hneg
    have p0 := eq_true (show 0 ≤ j by omega)
    have q0 := eq_true (show j < (t3.length : Int) by omega)
    have hj0 : 0 ≤ j := by omega
    have hj1 : j < (t3.length : Int) := by omega
    have HJR := Aside0.mk (show 0 ≤ j ∧ j < (t3.length : Int) from ⟨hj0, hj1⟩)
    generalize hT : rd_T110 t3 j = T at h
    have HT := Aside0.mk hT
    simp only [Prod.mk.injEq] at h
    obtain ⟨rfl, rfl, rfl⟩ := h
    clear hneg hrng hji hi hj0 hj1 hT
    go_enter Tryz.func61, Tryz.ntmps61
    go_wp2_with (first
      | (go_at_call 60; refine (member_Find.calls _ _ l0 a1_0 t1 t2 t3 t4 _ (Kd.C_below HR.out HBA.out) HC.out HF.out).mono ?_; rintro e1 w1 ⟨v2, rfl, hv2, hb1⟩; obtain ⟨A2, c2, rfl⟩ := Kd.R_slice hv2; have HV2 := Aside0.mk (Kd.R_reads' hv2).2.2; have HZ1 := Aside0.mk (blk_below HZA.out hb1); have HQ1 := Aside0.mk (blk_below HQA.out hb1); have HB1 := Aside0.mk (below_step HBA.out hb1); clear hv2 hb1)
      | (go_at_call 86; refine (ixA_calls A2 c2 t3 a1_0 a1_1 w.heap.size _ (Kd.C_alloc HV2.out _) (blk_alloc HQ1.out _)).mono ?_; rw [HJ.out]; rintro e2 w2 ⟨rfl, hb2⟩; have HB2 := Aside0.mk (below_step (below_alloc HB1.out _) hb2); have HZ2 := Aside0.mk (blk_below (blk_alloc HZ1.out _) hb2); have hm2 : w2.cell? ⟨w1.heap.size, 2, none⟩ = some (.slice A2 t3.length c2) := blk_cell (blk_below (blk_new w1 _) hb2) 2; obtain ⟨ad, ea, hx0, hx1⟩ := at_T110 (Kd.C_below (Kd.C_alloc HV2.out _) hb2) j HJR.out.1 HJR.out.2; cases ea; rw [HT.out] at hx0 hx1; have zc0 : w2.cell? ⟨w.heap.size + 1, 0, none⟩ = some (.string (⟨#[]⟩ : ByteArray)) := blk_cell HZ2.out 0; have zf0 : w2.frozen? ⟨w.heap.size + 1, 0, none⟩ = false := blk_frozen HZ2.out 0; have zc1 : w2.cell? ⟨w.heap.size + 1, 1, none⟩ = some (.int .i64 0) := blk_cell HZ2.out 1; have zf1 : w2.frozen? ⟨w.heap.size + 1, 1, none⟩ = false := blk_frozen HZ2.out 1; clear hb2))
    refine bodyPost_ret (results_ct rfl _ _ (w.heap.size + 1) 110 #[.string T.f0, .int .i64 T.f1] (0, 0) _ rfl (blk_put (cs := #[.string T.f0, .int .i64 0]) (blk_put (cs := #[.string (⟨#[]⟩ : ByteArray), .int .i64 0]) (HZ2.out) 0 _ rfl) 1 _ rfl) Tryz.underlying110 rfl (by kernel_rfl)) rfl ⟨rfl, ?_⟩
    exact (Below.setCell (Below.setCell HB2.out (p := ⟨w.heap.size + 1, 0, none⟩) (Nat.le_succ _) _) (p := ⟨w.heap.size + 1, 1, none⟩) (Nat.le_succ _) _)
def slices_Index_int_int.l0 : Nat → List Int → Int → Int → Int → Option (Int)
  | 0, _, _, _, _ => none
  | k + 1, x0, x1, x7, x8 => if x8 < x7 then (if 0 ≤ x8 then (if x8 < (x0.length : Int) then (if x1 = (rd x0 x8) then (some x8) else (slices_Index_int_int.l0 k x0 x1 x7 (wrap64 (x8 + 1)))) else (none)) else (none)) else (some (-1))
def slices_Index_int_int.f (k : Nat) (l0 : List Int) (a1 : Int) : Option (Int) := slices_Index_int_int.l0 k l0 a1 (l0.length : Int) 0
theorem slices_Index_int_int.mono_l : ∀ k, (∀ y0 y1 y2 y3, LeO (slices_Index_int_int.l0 k y0 y1 y2 y3) (slices_Index_int_int.l0 (k + 1) y0 y1 y2 y3))
  | 0 => fun _ _ _ _ r h => by simp [slices_Index_int_int.l0] at h
  | k + 1 => by
    have ih0 := slices_Index_int_int.mono_l k
    · intro y0 y1 y2 y3
      unfold slices_Index_int_int.l0
      repeat' first
      | (with_reducible exact ih0 _ _ _ _)
      | (with_reducible exact LeO.refl _)
      | (with_reducible exact LeO.none _)
      | (with_reducible refine LeO.ite ?_ ?_)
      | (with_reducible refine LeO.bind ?_ (fun _ => ?_))
      | exact ih0 _ _ _ _
      | exact LeO.none _
      | refine LeO.ite ?_ ?_
      | refine LeO.bind ?_ (fun _ => ?_)
theorem slices_Index_int_int.mono : ∀ a0 a1 k, LeO (slices_Index_int_int.f k a0 a1) (slices_Index_int_int.f (k + 1) a0 a1) := by
  intro a0 a1 k
  have ih0 := slices_Index_int_int.mono_l k
  unfold slices_Index_int_int.f
  repeat' first
      | (with_reducible exact ih0 _ _ _ _)
      | (with_reducible exact LeO.refl _)
      | (with_reducible exact LeO.none _)
      | (with_reducible refine LeO.ite ?_ ?_)
      | (with_reducible refine LeO.bind ?_ (fun _ => ?_))
      | exact ih0 _ _ _ _
      | exact LeO.none _
      | refine LeO.ite ?_ ?_
      | refine LeO.bind ?_ (fun _ => ?_)
set_option maxHeartbeats 8000000 in
set_option maxRecDepth 100000 in
theorem slices_Index_int_int.calls (k : Nat) (A0 : Option Addr) (c0 : Nat) (l0 : List Int) (a1 : Int) (r : Int) (w : World) (hr0 : Kd.C (Kd.int .i64) w A0 l0.length l0) (hc0 : l0.length ≤ c0) (h : slices_Index_int_int.f k l0 a1 = some r) :
    Calls Tryz.prog 88 #[.slice A0 l0.length c0, .int .i64 a1] w fun e w' => e = .returned (.int .i64 r) ∧ Drawn0 w w' := by
  have HR0 := Aside0.mk hr0
  have HC0 := Aside0.mk hc0
  clear hr0 hc0
  have H : (slices_Index_int_int.l0 k l0 a1 (l0.length : Int) 0) = some r := h
  clear h
  have H' := Aside0.mk H
  clear H
  go_enter Tryz.func88, Tryz.ntmps88
  go_wp2
  go_loopg [8] k (fun kq v8 w' => ∃ (x8_1 : Int), v8 = .int .i64 x8_1 ∧ Aside0 (slices_Index_int_int.l0 kq l0 a1 (l0.length : Int) x8_1 = some r) ∧ Aside0 (kq ≤ k) ∧ Drawn0 w w')
  case atStart => exact ⟨(0), eqs, H', ⟨Nat.le_refl _⟩, drz⟩
  case round =>
    clear H'
    try clear p2
    obtain ⟨x8_1, rfl, HA, HK1, ⟨m1, rfl⟩⟩ := hrel
    cases gk with
    | zero => exact absurd HA.out (by simp [slices_Index_int_int.l0])
    | succ k1 =>
      have H := HA.out
      clear HA
      simp only [slices_Index_int_int.l0] at H
      by_cases c3 : x8_1 < (l0.length : Int)
      · rw [if_pos c3] at H
        have c3b0 := decide_eq_true c3
        clear c3
        by_cases c4 : 0 ≤ x8_1
        · rw [if_pos c4] at H
          have c4b0 := decide_eq_true c4
          clear c4
          by_cases c5 : x8_1 < (l0.length : Int)
          · rw [if_pos c5] at H
            have c5b0 := decide_eq_true c5
            clear c5
            by_cases c6 : a1 = (rd l0 x8_1)
            · rw [if_pos c6] at H
              have c6b0 : (a1 == (rd l0 x8_1)) = true := beq_iff_eq.mpr c6
              have c6b1 : (a1 != (rd l0 x8_1)) = false := bne_eq_false_iff_eq.mpr c6
              clear c6
              obtain rfl := Option.some.inj H
              have p101 : 0 ≤ (x8_1 : Int) := dt
              have q101 : x8_1 < (l0.length : Int) := dt
              obtain ⟨ad101, e101, hx101_0⟩ := Kd.at_int HR0.out x8_1 p101 q101
              cases e101
              replace p101 := eq_true p101
              replace q101 := eq_true q101
              go_wp2
              go_ret
              exact ⟨eqs, drz⟩
            · rw [if_neg c6] at H
              have c6b0 : (a1 == (rd l0 x8_1)) = false := beq_eq_false_iff_ne.mpr c6
              have c6b1 : (a1 != (rd l0 x8_1)) = true := bne_iff_ne.mpr c6
              have H' := Aside0.mk H
              clear H
              have p101 : 0 ≤ (x8_1 : Int) := dt
              have q101 : x8_1 < (l0.length : Int) := dt
              obtain ⟨ad101, e101, hx101_0⟩ := Kd.at_int HR0.out x8_1 p101 q101
              cases e101
              replace p101 := eq_true p101
              replace q101 := eq_true q101
              go_wp2
              go_roundg k1
              case measure => have := HK1.out; omega
              case rel => exact ⟨(wrap64 (x8_1 + 1)), eqs, H', ⟨hko⟩, drz⟩
          · rw [if_neg c5] at H
            exact absurd H (by simp)
        · rw [if_neg c4] at H
          exact absurd H (by simp)
      · rw [if_neg c3] at H
        have c3b0 := decide_eq_false c3
        clear c3
        obtain rfl := Option.some.inj H
        go_wp2
        go_ret
        exact ⟨eqs, drz⟩
def slices_Contains_int_int.f (k : Nat) (l0 : List Int) (a1 : Int) : Option (Bool) := (slices_Index_int_int.f k l0 a1).bind fun t101 => (some (decide (t101 ≥ 0)))
theorem slices_Contains_int_int.mono : ∀ a0 a1 k, LeO (slices_Contains_int_int.f k a0 a1) (slices_Contains_int_int.f (k + 1) a0 a1) := by
  intro a0 a1 k
  unfold slices_Contains_int_int.f
  repeat' first
      | (with_reducible exact slices_Index_int_int.mono _ _ _)
      | (with_reducible exact LeO.refl _)
      | (with_reducible exact LeO.none _)
      | (with_reducible refine LeO.ite ?_ ?_)
      | (with_reducible refine LeO.bind ?_ (fun _ => ?_))
      | exact slices_Index_int_int.mono _ _ _
      | exact LeO.none _
      | refine LeO.ite ?_ ?_
      | refine LeO.bind ?_ (fun _ => ?_)
set_option maxHeartbeats 8000000 in
set_option maxRecDepth 100000 in
theorem slices_Contains_int_int.calls (k : Nat) (A0 : Option Addr) (c0 : Nat) (l0 : List Int) (a1 : Int) (r : Bool) (w : World) (hr0 : Kd.C (Kd.int .i64) w A0 l0.length l0) (hc0 : l0.length ≤ c0) (h : slices_Contains_int_int.f k l0 a1 = some r) :
    Calls Tryz.prog 62 #[.slice A0 l0.length c0, .int .i64 a1] w fun e w' => e = .returned (.bool r) ∧ Drawn0 w w' := by
  have HR0 := Aside0.mk hr0
  have HC0 := Aside0.mk hc0
  clear hr0 hc0
  have H : ((slices_Index_int_int.f k l0 a1).bind fun t101 => (some (decide (t101 ≥ 0)))) = some r := h
  clear h
  replace H := bnd H
  obtain ⟨t101, A30, H⟩ := H
  have A3 := Aside0.mk A30
  clear A30
  obtain rfl := Option.some.inj H
  go_enter Tryz.func62, Tryz.ntmps62
  go_wp2_with (first | ((with_reducible refine gate_callee (f := 88) rfl ?_); refine goesL_ (some 7) rfl rfl Tryz.func88 (by kernel_rfl) rfl #[.slice A0 l0.length c0, .int .i64 a1] rfl arg ?_; (with_reducible refine (slices_Index_int_int.calls k _ _ l0 a1 t101 _ ?side1 ?side2 A3.out).mono ?_); (case side1 => repeat (first | exact HR0.out | (with_reducible refine Kd.C_alloc ?_ _) | (with_reducible refine Kd.C_drewN ?_ _) | (with_reducible refine Kd.C_drew ?_))); (case side2 => exact HC0.out); rintro e w' ⟨rfl, ⟨nd, rfl⟩⟩; refine ⟨_, rfl, ?_⟩))
  go_ret
  exact ⟨eqs, drz⟩
end Go.Proofs.YtliooghmpkdmoaaGreatDoor.X
end
