/- For TradeBack: contracts, and facts on lists and numbers, that it uses (part 3). -/
import Derived.Lib.SlBytesConst
import Derived.Maps.RangeWalk
import Derived.Maps.Views
import Derived.Test.YthpmmofleddpnaaDoorTradeBackc2
section
namespace Go.Proofs.YthpmmofleddpnaaDoor.X
open Go.RowKit Go.Proofs.YthpmmofleddpnaaDoorW.PrintWords Go.Proofs.YthpmmofleddpnaaDoorW.PrintLast Go.Proofs.YthpmmofleddpnaaDoorW.PrintMore
attribute [local go_sem] max2_int min2_int max_two min_two max_three min_three max_four min_four
set_option linter.unusedVariables false
set_option linter.unusedSimpArgs false
def rfS (l : List ByteArray) (i : Nat) : ByteArray := rdOf ByteArray.empty l (i : Int)
def pr6 (k : Nat) (l : List ByteArray) (t : S27) : Option (S27 × Int) := some (t, 0)
def pr5 (k : Nat) (l : List ByteArray) (t : S27) : Option (S27 × Int) := (words_Int.f k (rfS l 5)).bind fun q => if q.2 = 0 then pr6 k l { t with f5 := q.1 } else some (z27, q.2)
def pr4 (k : Nat) (l : List ByteArray) (t : S27) : Option (S27 × Int) := (words_Int.f k (rfS l 4)).bind fun q => if q.2 = 0 then pr5 k l { t with f4 := q.1 } else some (z27, q.2)
def pr3 (k : Nat) (l : List ByteArray) (t : S27) : Option (S27 × Int) := (series_Parse.f k (rfS l 3)).bind fun q => if q.2.2.2.2 = 0 then pr4 k l { t with f3 := ⟨q.1, q.2.1, q.2.2.1, q.2.2.2.1⟩ } else some (z27, q.2.2.2.2)
def pr2 (k : Nat) (l : List ByteArray) (t : S27) : Option (S27 × Int) := (words_Int.f k (rfS l 2)).bind fun q => if q.2 = 0 then pr3 k l { t with f2 := q.1 } else some (z27, q.2)
def pr1 (k : Nat) (l : List ByteArray) (t : S27) : Option (S27 × Int) := (words_Int.f k (rfS l 1)).bind fun q => if q.2 = 0 then pr2 k l { t with f1 := q.1 } else some (z27, q.2)
def pr0 (k : Nat) (l : List ByteArray) (t : S27) : Option (S27 × Int) := (words_Int.f k (rfS l 0)).bind fun q => if q.2 = 0 then pr1 k l { t with f0 := q.1 } else some (z27, q.2)
def prAt : Nat → Nat → List ByteArray → S27 → Option (S27 × Int)
  | 0 => pr0
  | 1 => pr1
  | 2 => pr2
  | 3 => pr3
  | 4 => pr4
  | 5 => pr5
  | _ => pr6
def t0T (l : List ByteArray) : S27 := { z27 with f6 := ⟨rfS l 6, rfS l 7⟩, f7 := ⟨rfS l 8, rfS l 9⟩ }
def prsT (k : Nat) (s : ByteArray) : Option (S27 × Int) :=
  (words_Fields.f k s).bind fun q => if q.2 = 0 then (if q.1.length = 10 then (slices_ContainsFunc_string_string.f k (q.1.drop 6)).bind fun b => if b = true then some (z27, 5) else pr0 k q.1 (t0T q.1) else some (z27, 5)) else some (z27, q.2)
theorem prsT_mono (s : ByteArray) (k : Nat) : LeO (prsT k s) (prsT (k + 1) s) := by
  have h6 : ∀ l t, LeO (pr6 k l t) (pr6 (k + 1) l t) := fun l t => LeO.refl _
  have h5 : ∀ l t, LeO (pr5 k l t) (pr5 (k + 1) l t) := fun l t => LeO.bind (words_Int.mono _ _) fun q => LeO.ite (h6 _ _) (LeO.refl _)
  have h4 : ∀ l t, LeO (pr4 k l t) (pr4 (k + 1) l t) := fun l t => LeO.bind (words_Int.mono _ _) fun q => LeO.ite (h5 _ _) (LeO.refl _)
  have h3 : ∀ l t, LeO (pr3 k l t) (pr3 (k + 1) l t) := fun l t => LeO.bind (series_Parse.mono _ _) fun q => LeO.ite (h4 _ _) (LeO.refl _)
  have h2 : ∀ l t, LeO (pr2 k l t) (pr2 (k + 1) l t) := fun l t => LeO.bind (words_Int.mono _ _) fun q => LeO.ite (h3 _ _) (LeO.refl _)
  have h1 : ∀ l t, LeO (pr1 k l t) (pr1 (k + 1) l t) := fun l t => LeO.bind (words_Int.mono _ _) fun q => LeO.ite (h2 _ _) (LeO.refl _)
  have h0 : ∀ l t, LeO (pr0 k l t) (pr0 (k + 1) l t) := fun l t => LeO.bind (words_Int.mono _ _) fun q => LeO.ite (h1 _ _) (LeO.refl _)
  exact LeO.bind (words_Fields.mono _ _) fun q => LeO.ite (LeO.ite (LeO.bind (slices_ContainsFunc_string_string.mono _ _) fun b => LeO.ite (LeO.refl _) (h0 _ _)) (LeO.refl _)) (LeO.refl _)
def trade_Parse.f (k : Nat) (a0 : ByteArray) : Option (Int × Int × Int × ByteArray × Int × Int × Int × Int × Int × ByteArray × ByteArray × ByteArray × ByteArray × Int) := (prsT k a0).bind fun p => some (p.1.f0, p.1.f1, p.1.f2, p.1.f3.f0, p.1.f3.f1, p.1.f3.f2, p.1.f3.f3, p.1.f4, p.1.f5, p.1.f6.f0, p.1.f6.f1, p.1.f7.f0, p.1.f7.f1, p.2)
theorem trade_Parse.mono : ∀ a0 k, LeO (trade_Parse.f k a0) (trade_Parse.f (k + 1) a0) := fun a0 k => LeO.bind (prsT_mono a0 k) fun p => LeO.refl _
theorem kt_cell {T : TypeId} {a b : World} (h : KT T a b) {g : Nat} {cs : Array Value} (hg : a.heap[g]? = some (.cells cs T (0, 0))) (j : Nat) {v : Value} (hv : a.cell? ⟨g, j, none⟩ = some v) : b.cell? ⟨g, j, none⟩ = some v := (blk_cell (h g cs hg) j).trans ((blk_cell hg j).symm.trans hv)
set_option maxHeartbeats 1600000 in
set_option maxRecDepth 100000 in
theorem num_lit (k : Nat) (s : ByteArray) (x e : Int) (b gt off : Nat) (cs : Array Value) (old : Int) (w : World) (hs : words_Int.f k s = some (x, e)) (hb : w.heap[b]? = some (.cells #[.pointer (some ⟨gt, off, none⟩)] 62 (0, 0))) (hg : w.heap[gt]? = some (.cells cs 27 (0, 0))) (ho : cs[off]? = some (.int .i64 old)) :
    Calls Tryd.prog 52 #[.string s, .pointer (some ⟨b, 0, none⟩)] w fun ex w' => ex = .returned (.int .i64 e) ∧ ∃ w1, Below w.heap.size w w1 ∧ w' = w1.setCell ⟨gt, off, none⟩ (.int .i64 x) := by
  have HS := Aside0.mk hs
  have HB := Aside0.mk hb
  have HG := Aside0.mk hg
  have HO := Aside0.mk ho
  clear hs hb hg ho
  go_enter Tryd.func52, Tryd.ntmps52
  go_wp2_with (go_at_call 51; refine (words_Int.calls k s x e _ HS.out).mono ?_; rintro e1 w1 ⟨rfl, hd1⟩; have HBW := Aside0.mk hd1.below; have hp : w1.cell? ⟨b, 0, none⟩ = some (.pointer (some ⟨gt, off, none⟩)) := blk_cell (blk_below HB.out HBW.out) 0; have hc := (blk_cell (blk_below HG.out HBW.out) off).trans HO.out; have hf := blk_frozen (blk_below HG.out HBW.out) off; clear hd1)
  exact bodyPost_ret (v := .int .i64 e) (by simp [results, Tryd.results52, go_sem]) rfl ⟨rfl, _, HBW.out, rfl⟩
set_option maxHeartbeats 1600000 in
set_option maxRecDepth 100000 in
theorem number_calls (gt off : Nat) (w : World) :
    Calls Tryd.prog 29 #[.pointer (some ⟨gt, off, none⟩)] w fun e w' => ∃ b : Nat, e = .returned (.func (.func 52) #[] #[.pointer (some ⟨b, 0, none⟩)]) ∧ w'.heap[b]? = some (.cells #[.pointer (some ⟨gt, off, none⟩)] 62 (0, 0)) ∧ Below w.heap.size w w' := by
  go_enter Tryd.func29, Tryd.ntmps29
  go_wp2_with fail
  exact bodyPost_ret (v := .func (.func 52) #[] #[.pointer (some ⟨w.heap.size, 0, none⟩)]) (by simp [results, Tryd.results29, go_sem]) rfl ⟨_, rfl, blk_new _ _, below_alloc (Below.refl _ _) _⟩
set_option maxHeartbeats 1600000 in
set_option maxRecDepth 100000 in
theorem ser_lit (k : Nat) (s : ByteArray) (r1 : ByteArray) (r2 r3 r4 r5 : Int) (gt : Nat) (t : S27) (w : World) (hs : series_Parse.f k s = some (r1, r2, r3, r4, r5)) (hg : w.heap[gt]? = some (.cells #[.int .i64 t.f0, .int .i64 t.f1, .int .i64 t.f2, .string t.f3.f0, .int .i64 t.f3.f1, .int .i64 t.f3.f2, .int .i64 t.f3.f3, .int .i64 t.f4, .int .i64 t.f5, .string t.f6.f0, .string t.f6.f1, .string t.f7.f0, .string t.f7.f1] 27 (0, 0))) (hGL : GlobD w) :
    Calls Tryd.prog 27 #[.string s, .pointer (some ⟨gt, 0, none⟩)] w fun ex w' => ex = .returned (.int .i64 r5) ∧ ∃ w1, Below w.heap.size w w1 ∧ w' = (((w1.setCell ⟨gt, 3, none⟩ (.string r1)).setCell ⟨gt, 4, none⟩ (.int .i64 r2)).setCell ⟨gt, 5, none⟩ (.int .i64 r3)).setCell ⟨gt, 6, none⟩ (.int .i64 r4) := by
  have HS := Aside0.mk hs
  have HG := Aside0.mk hg
  have HGL := Aside0.mk hGL
  clear hs hg hGL
  go_enter Tryd.func27, Tryd.ntmps27
  go_wp2_with (go_at_call 28; refine (series_Parse.calls k s r1 r2 r3 r4 r5 _ HS.out HGL.out).mono ?_; rintro e1 w1 ⟨rfl, hb1⟩; have HBW := Aside0.mk hb1; have hG1 := blk_below HG.out hb1; have hc3 : ∀ o, (w1.alloc o).cell? ⟨gt, 3, none⟩ = some (.string t.f3.f0) := fun o => blk_cell (blk_alloc hG1 o) 3; have hf3 : ∀ o, (w1.alloc o).frozen? ⟨gt, 3, none⟩ = false := fun o => blk_frozen (blk_alloc hG1 o) 3; have hc4 : ∀ o, (w1.alloc o).cell? ⟨gt, 4, none⟩ = some (.int .i64 t.f3.f1) := fun o => blk_cell (blk_alloc hG1 o) 4; have hf4 : ∀ o, (w1.alloc o).frozen? ⟨gt, 4, none⟩ = false := fun o => blk_frozen (blk_alloc hG1 o) 4; have hc5 : ∀ o, (w1.alloc o).cell? ⟨gt, 5, none⟩ = some (.int .i64 t.f3.f2) := fun o => blk_cell (blk_alloc hG1 o) 5; have hf5 : ∀ o, (w1.alloc o).frozen? ⟨gt, 5, none⟩ = false := fun o => blk_frozen (blk_alloc hG1 o) 5; have hc6 : ∀ o, (w1.alloc o).cell? ⟨gt, 6, none⟩ = some (.int .i64 t.f3.f3) := fun o => blk_cell (blk_alloc hG1 o) 6; have hf6 : ∀ o, (w1.alloc o).frozen? ⟨gt, 6, none⟩ = false := fun o => blk_frozen (blk_alloc hG1 o) 6; clear hb1 hG1)
  exact bodyPost_ret (v := .int .i64 r5) (by simp [results, Tryd.results27, go_sem]) rfl ⟨rfl, _, below_alloc HBW.out _, rfl⟩
theorem strsT {n : Nat} {w : World} {base : Nat} {ok : Nat → Prop} {v : Value} {l : List ByteArray} (h : Kd.R Kd.string 9 w base ok v l) (hl : l.length = n) (hn : 0 < n) : ∃ gL cap, v = .slice (some ⟨gL, 0, none⟩) n cap ∧ n ≤ cap ∧ (∃ cur, w.heap[gL]? = some (.cells cur 9 (0, 0))) ∧ Kd.C Kd.string w (some ⟨gL, 0, none⟩) l.length l ∧ ∀ j : Nat, j < n → w.cell? ⟨gL, j, none⟩ = some (.string (rfS l j)) := by
  obtain ⟨g, cap, rfl, _, _, hcur⟩ := Kd.R_form h (by omega)
  have hC := (Kd.R_reads' h).2.2
  refine ⟨g, cap, by rw [hl], by have := (Kd.R_reads' h).2.1; omega, hcur, hC, fun j hj => ?_⟩
  obtain ⟨ad, e, hx⟩ := Kd.at_string hC (j : Int) (by omega) (by omega)
  cases e
  rw [Int.toNat_natCast] at hx
  have e2 : (⟨g, 0, none⟩ : Addr).add j = ⟨g, j, none⟩ := by
    unfold Addr.add
    split <;> simp_all
  rwa [e2] at hx
def trp.T6 : Bool × List (List Nat × List Nat) := (true, [([], []), ([0], [0]), ([1], [1]), ([], []), ([3], [3]), ([4], [4]), ([2, 5], [2, 5]), ([], []), ([7], [7]), ([8], [8]), ([], []), ([10], [10]), ([11], [11]), ([9, 12], [9, 12]), ([6, 13], [6, 13]), ([], []), ([15, 14, 0, 1, 2, 3, 4, 5, 6, 7, 8, 9, 10, 11, 12, 13, 14, 15], [14, 15])])
def trp.B6 : List Nat := [0, 1, 3, 0, 8, 24, 63, 0, 128, 384, 0, 1024, 3072, 8064, 16383, 0, 65535]
theorem trp.tab6 : rtab .any (opsOf Tryd.f7 6) = trp.T6 := by kernel_rfl
theorem trp.bits6 : waitsOk trp.T6.2 trp.B6 = true := by kernel_rfl
set_option maxHeartbeats 6400000 in
set_option maxRecDepth 100000 in
theorem parse_core (k : Nat) (a0 : ByteArray) (p : S27 × Int) (w : World) (h : prsT k a0 = some p) (hGL : GlobD w) :
    Calls Tryd.prog 7 #[.string a0] w fun e w' => e = .returned (.tuple #[.agg #[.int .i64 p.1.f0, .int .i64 p.1.f1, .int .i64 p.1.f2, .string p.1.f3.f0, .int .i64 p.1.f3.f1, .int .i64 p.1.f3.f2, .int .i64 p.1.f3.f3, .int .i64 p.1.f4, .int .i64 p.1.f5, .string p.1.f6.f0, .string p.1.f6.f1, .string p.1.f7.f0, .string p.1.f7.f1], .int .i64 p.2]) ∧ Below w.heap.size w w' := by
  unfold prsT at h
  obtain ⟨⟨l, e1⟩, hF, h⟩ := Option.bind_eq_some_iff.1 h
  dsimp only at h
  have HF := Aside0.mk hF
  have HGL := Aside0.mk hGL
  have HBA := Aside0.mk (below_alloc (Below.refl w.heap.size w) (.cells #[.int .i64 0, .int .i64 0, .int .i64 0, .string (⟨#[]⟩ : ByteArray), .int .i64 0, .int .i64 0, .int .i64 0, .int .i64 0, .int .i64 0, .string (⟨#[]⟩ : ByteArray), .string (⟨#[]⟩ : ByteArray), .string (⟨#[]⟩ : ByteArray), .string (⟨#[]⟩ : ByteArray)] 27))
  have HZ := Aside0.mk (show (w.alloc (.cells #[.int .i64 0, .int .i64 0, .int .i64 0, .string (⟨#[]⟩ : ByteArray), .int .i64 0, .int .i64 0, .int .i64 0, .int .i64 0, .int .i64 0, .string (⟨#[]⟩ : ByteArray), .string (⟨#[]⟩ : ByteArray), .string (⟨#[]⟩ : ByteArray), .string (⟨#[]⟩ : ByteArray)] 27)).heap[w.heap.size]? = some (.cells #[.int .i64 0, .int .i64 0, .int .i64 0, .string (⟨#[]⟩ : ByteArray), .int .i64 0, .int .i64 0, .int .i64 0, .int .i64 0, .int .i64 0, .string (⟨#[]⟩ : ByteArray), .string (⟨#[]⟩ : ByteArray), .string (⟨#[]⟩ : ByteArray), .string (⟨#[]⟩ : ByteArray)] 27 (0, 0)) from blk_new _ _)
  clear hF hGL
  by_cases c1 : e1 = 0
  case neg =>
    rw [if_neg c1] at h
    obtain rfl := Option.some.inj h
    have hne : (e1 != 0) = true := bne_iff_ne.2 c1
    clear c1 h
    go_enter Tryd.func7, Tryd.ntmps7
    go_wp2_with (go_at_call 23; refine (words_Fields.calls k a0 l _ _ HF.out).mono ?_; rintro e w1 ⟨v0, rfl, ho, hb⟩; have HB1 := Aside0.mk (below_step HBA.out hb); have hZ1 := blk_below HZ.out hb; obtain ⟨A1, cc1, rfl⟩ := Kd.R_slice ho; have hfc0 : w1.cell? ⟨w.heap.size, 0, none⟩ = some (.int .i64 0) := blk_cell hZ1 0; have hf0 : w1.frozen? ⟨w.heap.size, 0, none⟩ = false := blk_frozen hZ1 0; have hfc1 : w1.cell? ⟨w.heap.size, 1, none⟩ = some (.int .i64 0) := blk_cell hZ1 1; have hf1 : w1.frozen? ⟨w.heap.size, 1, none⟩ = false := blk_frozen hZ1 1; have hfc2 : w1.cell? ⟨w.heap.size, 2, none⟩ = some (.int .i64 0) := blk_cell hZ1 2; have hf2 : w1.frozen? ⟨w.heap.size, 2, none⟩ = false := blk_frozen hZ1 2; have hfc3 : w1.cell? ⟨w.heap.size, 3, none⟩ = some (.string (⟨#[]⟩ : ByteArray)) := blk_cell hZ1 3; have hf3 : w1.frozen? ⟨w.heap.size, 3, none⟩ = false := blk_frozen hZ1 3; have hfc4 : w1.cell? ⟨w.heap.size, 4, none⟩ = some (.int .i64 0) := blk_cell hZ1 4; have hf4 : w1.frozen? ⟨w.heap.size, 4, none⟩ = false := blk_frozen hZ1 4; have hfc5 : w1.cell? ⟨w.heap.size, 5, none⟩ = some (.int .i64 0) := blk_cell hZ1 5; have hf5 : w1.frozen? ⟨w.heap.size, 5, none⟩ = false := blk_frozen hZ1 5; have hfc6 : w1.cell? ⟨w.heap.size, 6, none⟩ = some (.int .i64 0) := blk_cell hZ1 6; have hf6 : w1.frozen? ⟨w.heap.size, 6, none⟩ = false := blk_frozen hZ1 6; have hfc7 : w1.cell? ⟨w.heap.size, 7, none⟩ = some (.int .i64 0) := blk_cell hZ1 7; have hf7 : w1.frozen? ⟨w.heap.size, 7, none⟩ = false := blk_frozen hZ1 7; have hfc8 : w1.cell? ⟨w.heap.size, 8, none⟩ = some (.int .i64 0) := blk_cell hZ1 8; have hf8 : w1.frozen? ⟨w.heap.size, 8, none⟩ = false := blk_frozen hZ1 8; have hfc9 : w1.cell? ⟨w.heap.size, 9, none⟩ = some (.string (⟨#[]⟩ : ByteArray)) := blk_cell hZ1 9; have hf9 : w1.frozen? ⟨w.heap.size, 9, none⟩ = false := blk_frozen hZ1 9; have hfc10 : w1.cell? ⟨w.heap.size, 10, none⟩ = some (.string (⟨#[]⟩ : ByteArray)) := blk_cell hZ1 10; have hf10 : w1.frozen? ⟨w.heap.size, 10, none⟩ = false := blk_frozen hZ1 10; have hfc11 : w1.cell? ⟨w.heap.size, 11, none⟩ = some (.string (⟨#[]⟩ : ByteArray)) := blk_cell hZ1 11; have hf11 : w1.frozen? ⟨w.heap.size, 11, none⟩ = false := blk_frozen hZ1 11; have hfc12 : w1.cell? ⟨w.heap.size, 12, none⟩ = some (.string (⟨#[]⟩ : ByteArray)) := blk_cell hZ1 12; have hf12 : w1.frozen? ⟨w.heap.size, 12, none⟩ = false := blk_frozen hZ1 12; have HZ1 := Aside0.mk hZ1; clear hb ho hZ1)
    refine bodyPost_ret (results_ct rfl _ _ w.heap.size 27 #[.int .i64 0, .int .i64 0, .int .i64 0, .string (⟨#[]⟩ : ByteArray), .int .i64 0, .int .i64 0, .int .i64 0, .int .i64 0, .int .i64 0, .string (⟨#[]⟩ : ByteArray), .string (⟨#[]⟩ : ByteArray), .string (⟨#[]⟩ : ByteArray), .string (⟨#[]⟩ : ByteArray)] (0, 0) _ rfl (blk_put (cs := #[.int .i64 0, .int .i64 0, .int .i64 0, .string (⟨#[]⟩ : ByteArray), .int .i64 0, .int .i64 0, .int .i64 0, .int .i64 0, .int .i64 0, .string (⟨#[]⟩ : ByteArray), .string (⟨#[]⟩ : ByteArray), .string (⟨#[]⟩ : ByteArray), .string (⟨#[]⟩ : ByteArray)]) (blk_put (cs := #[.int .i64 0, .int .i64 0, .int .i64 0, .string (⟨#[]⟩ : ByteArray), .int .i64 0, .int .i64 0, .int .i64 0, .int .i64 0, .int .i64 0, .string (⟨#[]⟩ : ByteArray), .string (⟨#[]⟩ : ByteArray), .string (⟨#[]⟩ : ByteArray), .string (⟨#[]⟩ : ByteArray)]) (blk_put (cs := #[.int .i64 0, .int .i64 0, .int .i64 0, .string (⟨#[]⟩ : ByteArray), .int .i64 0, .int .i64 0, .int .i64 0, .int .i64 0, .int .i64 0, .string (⟨#[]⟩ : ByteArray), .string (⟨#[]⟩ : ByteArray), .string (⟨#[]⟩ : ByteArray), .string (⟨#[]⟩ : ByteArray)]) (blk_put (cs := #[.int .i64 0, .int .i64 0, .int .i64 0, .string (⟨#[]⟩ : ByteArray), .int .i64 0, .int .i64 0, .int .i64 0, .int .i64 0, .int .i64 0, .string (⟨#[]⟩ : ByteArray), .string (⟨#[]⟩ : ByteArray), .string (⟨#[]⟩ : ByteArray), .string (⟨#[]⟩ : ByteArray)]) (blk_put (cs := #[.int .i64 0, .int .i64 0, .int .i64 0, .string (⟨#[]⟩ : ByteArray), .int .i64 0, .int .i64 0, .int .i64 0, .int .i64 0, .int .i64 0, .string (⟨#[]⟩ : ByteArray), .string (⟨#[]⟩ : ByteArray), .string (⟨#[]⟩ : ByteArray), .string (⟨#[]⟩ : ByteArray)]) (blk_put (cs := #[.int .i64 0, .int .i64 0, .int .i64 0, .string (⟨#[]⟩ : ByteArray), .int .i64 0, .int .i64 0, .int .i64 0, .int .i64 0, .int .i64 0, .string (⟨#[]⟩ : ByteArray), .string (⟨#[]⟩ : ByteArray), .string (⟨#[]⟩ : ByteArray), .string (⟨#[]⟩ : ByteArray)]) (blk_put (cs := #[.int .i64 0, .int .i64 0, .int .i64 0, .string (⟨#[]⟩ : ByteArray), .int .i64 0, .int .i64 0, .int .i64 0, .int .i64 0, .int .i64 0, .string (⟨#[]⟩ : ByteArray), .string (⟨#[]⟩ : ByteArray), .string (⟨#[]⟩ : ByteArray), .string (⟨#[]⟩ : ByteArray)]) (blk_put (cs := #[.int .i64 0, .int .i64 0, .int .i64 0, .string (⟨#[]⟩ : ByteArray), .int .i64 0, .int .i64 0, .int .i64 0, .int .i64 0, .int .i64 0, .string (⟨#[]⟩ : ByteArray), .string (⟨#[]⟩ : ByteArray), .string (⟨#[]⟩ : ByteArray), .string (⟨#[]⟩ : ByteArray)]) (blk_put (cs := #[.int .i64 0, .int .i64 0, .int .i64 0, .string (⟨#[]⟩ : ByteArray), .int .i64 0, .int .i64 0, .int .i64 0, .int .i64 0, .int .i64 0, .string (⟨#[]⟩ : ByteArray), .string (⟨#[]⟩ : ByteArray), .string (⟨#[]⟩ : ByteArray), .string (⟨#[]⟩ : ByteArray)]) (blk_put (cs := #[.int .i64 0, .int .i64 0, .int .i64 0, .string (⟨#[]⟩ : ByteArray), .int .i64 0, .int .i64 0, .int .i64 0, .int .i64 0, .int .i64 0, .string (⟨#[]⟩ : ByteArray), .string (⟨#[]⟩ : ByteArray), .string (⟨#[]⟩ : ByteArray), .string (⟨#[]⟩ : ByteArray)]) (blk_put (cs := #[.int .i64 0, .int .i64 0, .int .i64 0, .string (⟨#[]⟩ : ByteArray), .int .i64 0, .int .i64 0, .int .i64 0, .int .i64 0, .int .i64 0, .string (⟨#[]⟩ : ByteArray), .string (⟨#[]⟩ : ByteArray), .string (⟨#[]⟩ : ByteArray), .string (⟨#[]⟩ : ByteArray)]) (blk_put (cs := #[.int .i64 0, .int .i64 0, .int .i64 0, .string (⟨#[]⟩ : ByteArray), .int .i64 0, .int .i64 0, .int .i64 0, .int .i64 0, .int .i64 0, .string (⟨#[]⟩ : ByteArray), .string (⟨#[]⟩ : ByteArray), .string (⟨#[]⟩ : ByteArray), .string (⟨#[]⟩ : ByteArray)]) (blk_put (cs := #[.int .i64 0, .int .i64 0, .int .i64 0, .string (⟨#[]⟩ : ByteArray), .int .i64 0, .int .i64 0, .int .i64 0, .int .i64 0, .int .i64 0, .string (⟨#[]⟩ : ByteArray), .string (⟨#[]⟩ : ByteArray), .string (⟨#[]⟩ : ByteArray), .string (⟨#[]⟩ : ByteArray)]) (HZ1.out) 0 _ rfl) 1 _ rfl) 2 _ rfl) 3 _ rfl) 4 _ rfl) 5 _ rfl) 6 _ rfl) 7 _ rfl) 8 _ rfl) 9 _ rfl) 10 _ rfl) 11 _ rfl) 12 _ rfl) Tryd.underlying27 rfl (by kernel_rfl)) rfl ⟨rfl, ?_⟩
    exact (Below.setCell (Below.setCell (Below.setCell (Below.setCell (Below.setCell (Below.setCell (Below.setCell (Below.setCell (Below.setCell (Below.setCell (Below.setCell (Below.setCell (Below.setCell HB1.out (p := ⟨w.heap.size, 0, none⟩) (by first | exact Nat.le_refl _ | exact Nat.le_succ _) _) (p := ⟨w.heap.size, 1, none⟩) (by first | exact Nat.le_refl _ | exact Nat.le_succ _) _) (p := ⟨w.heap.size, 2, none⟩) (by first | exact Nat.le_refl _ | exact Nat.le_succ _) _) (p := ⟨w.heap.size, 3, none⟩) (by first | exact Nat.le_refl _ | exact Nat.le_succ _) _) (p := ⟨w.heap.size, 4, none⟩) (by first | exact Nat.le_refl _ | exact Nat.le_succ _) _) (p := ⟨w.heap.size, 5, none⟩) (by first | exact Nat.le_refl _ | exact Nat.le_succ _) _) (p := ⟨w.heap.size, 6, none⟩) (by first | exact Nat.le_refl _ | exact Nat.le_succ _) _) (p := ⟨w.heap.size, 7, none⟩) (by first | exact Nat.le_refl _ | exact Nat.le_succ _) _) (p := ⟨w.heap.size, 8, none⟩) (by first | exact Nat.le_refl _ | exact Nat.le_succ _) _) (p := ⟨w.heap.size, 9, none⟩) (by first | exact Nat.le_refl _ | exact Nat.le_succ _) _) (p := ⟨w.heap.size, 10, none⟩) (by first | exact Nat.le_refl _ | exact Nat.le_succ _) _) (p := ⟨w.heap.size, 11, none⟩) (by first | exact Nat.le_refl _ | exact Nat.le_succ _) _) (p := ⟨w.heap.size, 12, none⟩) (by first | exact Nat.le_refl _ | exact Nat.le_succ _) _)
  subst c1
  rw [if_pos rfl] at h
  by_cases c2 : l.length = 10
  case neg =>
    rw [if_neg c2] at h
    obtain rfl := Option.some.inj h
    have hne : ((l.length : Int) != 10) = true := bne_iff_ne.2 (by omega)
    clear c2 h
    go_enter Tryd.func7, Tryd.ntmps7
    go_wp2_with (go_at_call 23; refine (words_Fields.calls k a0 l _ _ HF.out).mono ?_; rintro e w1 ⟨v0, rfl, ho, hb⟩; have HB1 := Aside0.mk (below_step HBA.out hb); have hZ1 := blk_below HZ.out hb; obtain ⟨A1, cc1, rfl⟩ := Kd.R_slice ho; have hfc0 : w1.cell? ⟨w.heap.size, 0, none⟩ = some (.int .i64 0) := blk_cell hZ1 0; have hf0 : w1.frozen? ⟨w.heap.size, 0, none⟩ = false := blk_frozen hZ1 0; have hfc1 : w1.cell? ⟨w.heap.size, 1, none⟩ = some (.int .i64 0) := blk_cell hZ1 1; have hf1 : w1.frozen? ⟨w.heap.size, 1, none⟩ = false := blk_frozen hZ1 1; have hfc2 : w1.cell? ⟨w.heap.size, 2, none⟩ = some (.int .i64 0) := blk_cell hZ1 2; have hf2 : w1.frozen? ⟨w.heap.size, 2, none⟩ = false := blk_frozen hZ1 2; have hfc3 : w1.cell? ⟨w.heap.size, 3, none⟩ = some (.string (⟨#[]⟩ : ByteArray)) := blk_cell hZ1 3; have hf3 : w1.frozen? ⟨w.heap.size, 3, none⟩ = false := blk_frozen hZ1 3; have hfc4 : w1.cell? ⟨w.heap.size, 4, none⟩ = some (.int .i64 0) := blk_cell hZ1 4; have hf4 : w1.frozen? ⟨w.heap.size, 4, none⟩ = false := blk_frozen hZ1 4; have hfc5 : w1.cell? ⟨w.heap.size, 5, none⟩ = some (.int .i64 0) := blk_cell hZ1 5; have hf5 : w1.frozen? ⟨w.heap.size, 5, none⟩ = false := blk_frozen hZ1 5; have hfc6 : w1.cell? ⟨w.heap.size, 6, none⟩ = some (.int .i64 0) := blk_cell hZ1 6; have hf6 : w1.frozen? ⟨w.heap.size, 6, none⟩ = false := blk_frozen hZ1 6; have hfc7 : w1.cell? ⟨w.heap.size, 7, none⟩ = some (.int .i64 0) := blk_cell hZ1 7; have hf7 : w1.frozen? ⟨w.heap.size, 7, none⟩ = false := blk_frozen hZ1 7; have hfc8 : w1.cell? ⟨w.heap.size, 8, none⟩ = some (.int .i64 0) := blk_cell hZ1 8; have hf8 : w1.frozen? ⟨w.heap.size, 8, none⟩ = false := blk_frozen hZ1 8; have hfc9 : w1.cell? ⟨w.heap.size, 9, none⟩ = some (.string (⟨#[]⟩ : ByteArray)) := blk_cell hZ1 9; have hf9 : w1.frozen? ⟨w.heap.size, 9, none⟩ = false := blk_frozen hZ1 9; have hfc10 : w1.cell? ⟨w.heap.size, 10, none⟩ = some (.string (⟨#[]⟩ : ByteArray)) := blk_cell hZ1 10; have hf10 : w1.frozen? ⟨w.heap.size, 10, none⟩ = false := blk_frozen hZ1 10; have hfc11 : w1.cell? ⟨w.heap.size, 11, none⟩ = some (.string (⟨#[]⟩ : ByteArray)) := blk_cell hZ1 11; have hf11 : w1.frozen? ⟨w.heap.size, 11, none⟩ = false := blk_frozen hZ1 11; have hfc12 : w1.cell? ⟨w.heap.size, 12, none⟩ = some (.string (⟨#[]⟩ : ByteArray)) := blk_cell hZ1 12; have hf12 : w1.frozen? ⟨w.heap.size, 12, none⟩ = false := blk_frozen hZ1 12; have HZ1 := Aside0.mk hZ1; clear hb ho hZ1)
    refine bodyPost_ret (results_ct rfl _ _ w.heap.size 27 #[.int .i64 0, .int .i64 0, .int .i64 0, .string (⟨#[]⟩ : ByteArray), .int .i64 0, .int .i64 0, .int .i64 0, .int .i64 0, .int .i64 0, .string (⟨#[]⟩ : ByteArray), .string (⟨#[]⟩ : ByteArray), .string (⟨#[]⟩ : ByteArray), .string (⟨#[]⟩ : ByteArray)] (0, 0) _ rfl (blk_put (cs := #[.int .i64 0, .int .i64 0, .int .i64 0, .string (⟨#[]⟩ : ByteArray), .int .i64 0, .int .i64 0, .int .i64 0, .int .i64 0, .int .i64 0, .string (⟨#[]⟩ : ByteArray), .string (⟨#[]⟩ : ByteArray), .string (⟨#[]⟩ : ByteArray), .string (⟨#[]⟩ : ByteArray)]) (blk_put (cs := #[.int .i64 0, .int .i64 0, .int .i64 0, .string (⟨#[]⟩ : ByteArray), .int .i64 0, .int .i64 0, .int .i64 0, .int .i64 0, .int .i64 0, .string (⟨#[]⟩ : ByteArray), .string (⟨#[]⟩ : ByteArray), .string (⟨#[]⟩ : ByteArray), .string (⟨#[]⟩ : ByteArray)]) (blk_put (cs := #[.int .i64 0, .int .i64 0, .int .i64 0, .string (⟨#[]⟩ : ByteArray), .int .i64 0, .int .i64 0, .int .i64 0, .int .i64 0, .int .i64 0, .string (⟨#[]⟩ : ByteArray), .string (⟨#[]⟩ : ByteArray), .string (⟨#[]⟩ : ByteArray), .string (⟨#[]⟩ : ByteArray)]) (blk_put (cs := #[.int .i64 0, .int .i64 0, .int .i64 0, .string (⟨#[]⟩ : ByteArray), .int .i64 0, .int .i64 0, .int .i64 0, .int .i64 0, .int .i64 0, .string (⟨#[]⟩ : ByteArray), .string (⟨#[]⟩ : ByteArray), .string (⟨#[]⟩ : ByteArray), .string (⟨#[]⟩ : ByteArray)]) (blk_put (cs := #[.int .i64 0, .int .i64 0, .int .i64 0, .string (⟨#[]⟩ : ByteArray), .int .i64 0, .int .i64 0, .int .i64 0, .int .i64 0, .int .i64 0, .string (⟨#[]⟩ : ByteArray), .string (⟨#[]⟩ : ByteArray), .string (⟨#[]⟩ : ByteArray), .string (⟨#[]⟩ : ByteArray)]) (blk_put (cs := #[.int .i64 0, .int .i64 0, .int .i64 0, .string (⟨#[]⟩ : ByteArray), .int .i64 0, .int .i64 0, .int .i64 0, .int .i64 0, .int .i64 0, .string (⟨#[]⟩ : ByteArray), .string (⟨#[]⟩ : ByteArray), .string (⟨#[]⟩ : ByteArray), .string (⟨#[]⟩ : ByteArray)]) (blk_put (cs := #[.int .i64 0, .int .i64 0, .int .i64 0, .string (⟨#[]⟩ : ByteArray), .int .i64 0, .int .i64 0, .int .i64 0, .int .i64 0, .int .i64 0, .string (⟨#[]⟩ : ByteArray), .string (⟨#[]⟩ : ByteArray), .string (⟨#[]⟩ : ByteArray), .string (⟨#[]⟩ : ByteArray)]) (blk_put (cs := #[.int .i64 0, .int .i64 0, .int .i64 0, .string (⟨#[]⟩ : ByteArray), .int .i64 0, .int .i64 0, .int .i64 0, .int .i64 0, .int .i64 0, .string (⟨#[]⟩ : ByteArray), .string (⟨#[]⟩ : ByteArray), .string (⟨#[]⟩ : ByteArray), .string (⟨#[]⟩ : ByteArray)]) (blk_put (cs := #[.int .i64 0, .int .i64 0, .int .i64 0, .string (⟨#[]⟩ : ByteArray), .int .i64 0, .int .i64 0, .int .i64 0, .int .i64 0, .int .i64 0, .string (⟨#[]⟩ : ByteArray), .string (⟨#[]⟩ : ByteArray), .string (⟨#[]⟩ : ByteArray), .string (⟨#[]⟩ : ByteArray)]) (blk_put (cs := #[.int .i64 0, .int .i64 0, .int .i64 0, .string (⟨#[]⟩ : ByteArray), .int .i64 0, .int .i64 0, .int .i64 0, .int .i64 0, .int .i64 0, .string (⟨#[]⟩ : ByteArray), .string (⟨#[]⟩ : ByteArray), .string (⟨#[]⟩ : ByteArray), .string (⟨#[]⟩ : ByteArray)]) (blk_put (cs := #[.int .i64 0, .int .i64 0, .int .i64 0, .string (⟨#[]⟩ : ByteArray), .int .i64 0, .int .i64 0, .int .i64 0, .int .i64 0, .int .i64 0, .string (⟨#[]⟩ : ByteArray), .string (⟨#[]⟩ : ByteArray), .string (⟨#[]⟩ : ByteArray), .string (⟨#[]⟩ : ByteArray)]) (blk_put (cs := #[.int .i64 0, .int .i64 0, .int .i64 0, .string (⟨#[]⟩ : ByteArray), .int .i64 0, .int .i64 0, .int .i64 0, .int .i64 0, .int .i64 0, .string (⟨#[]⟩ : ByteArray), .string (⟨#[]⟩ : ByteArray), .string (⟨#[]⟩ : ByteArray), .string (⟨#[]⟩ : ByteArray)]) (blk_put (cs := #[.int .i64 0, .int .i64 0, .int .i64 0, .string (⟨#[]⟩ : ByteArray), .int .i64 0, .int .i64 0, .int .i64 0, .int .i64 0, .int .i64 0, .string (⟨#[]⟩ : ByteArray), .string (⟨#[]⟩ : ByteArray), .string (⟨#[]⟩ : ByteArray), .string (⟨#[]⟩ : ByteArray)]) (HZ1.out) 0 _ rfl) 1 _ rfl) 2 _ rfl) 3 _ rfl) 4 _ rfl) 5 _ rfl) 6 _ rfl) 7 _ rfl) 8 _ rfl) 9 _ rfl) 10 _ rfl) 11 _ rfl) 12 _ rfl) Tryd.underlying27 rfl (by kernel_rfl)) rfl ⟨rfl, ?_⟩
    exact (Below.setCell (Below.setCell (Below.setCell (Below.setCell (Below.setCell (Below.setCell (Below.setCell (Below.setCell (Below.setCell (Below.setCell (Below.setCell (Below.setCell (Below.setCell HB1.out (p := ⟨w.heap.size, 0, none⟩) (by first | exact Nat.le_refl _ | exact Nat.le_succ _) _) (p := ⟨w.heap.size, 1, none⟩) (by first | exact Nat.le_refl _ | exact Nat.le_succ _) _) (p := ⟨w.heap.size, 2, none⟩) (by first | exact Nat.le_refl _ | exact Nat.le_succ _) _) (p := ⟨w.heap.size, 3, none⟩) (by first | exact Nat.le_refl _ | exact Nat.le_succ _) _) (p := ⟨w.heap.size, 4, none⟩) (by first | exact Nat.le_refl _ | exact Nat.le_succ _) _) (p := ⟨w.heap.size, 5, none⟩) (by first | exact Nat.le_refl _ | exact Nat.le_succ _) _) (p := ⟨w.heap.size, 6, none⟩) (by first | exact Nat.le_refl _ | exact Nat.le_succ _) _) (p := ⟨w.heap.size, 7, none⟩) (by first | exact Nat.le_refl _ | exact Nat.le_succ _) _) (p := ⟨w.heap.size, 8, none⟩) (by first | exact Nat.le_refl _ | exact Nat.le_succ _) _) (p := ⟨w.heap.size, 9, none⟩) (by first | exact Nat.le_refl _ | exact Nat.le_succ _) _) (p := ⟨w.heap.size, 10, none⟩) (by first | exact Nat.le_refl _ | exact Nat.le_succ _) _) (p := ⟨w.heap.size, 11, none⟩) (by first | exact Nat.le_refl _ | exact Nat.le_succ _) _) (p := ⟨w.heap.size, 12, none⟩) (by first | exact Nat.le_refl _ | exact Nat.le_succ _) _)
  rw [if_pos c2] at h
  obtain ⟨bd, hC, h⟩ := Option.bind_eq_some_iff.1 h
  have HL10 := Aside0.mk c2
  obtain ⟨l6, hl6⟩ : ∃ y, y = l.drop 6 := ⟨_, rfl⟩
  have HL6 := Aside0.mk hl6
  rw [← hl6] at hC
  have HC := Aside0.mk hC
  clear hC c2 hl6
  cases bd with
  | true =>
    rw [if_pos rfl] at h
    obtain rfl := Option.some.inj h
    clear h
    go_enter Tryd.func7, Tryd.ntmps7
    go_wp2_with (first | (go_at_call 23; refine (words_Fields.calls k a0 l _ _ HF.out).mono ?_; rintro e w1 ⟨v0, rfl, ho, hb⟩; have HB1 := Aside0.mk (below_step HBA.out hb); have hZ1 := blk_below HZ.out hb; obtain ⟨gL, cap, rfl, hcap, ⟨cur, hcur⟩, hRC, hcs⟩ := strsT ho HL10.out (by omega); obtain ⟨i0, hi0, _, hsz0, _⟩ := info_parts info9; obtain ⟨A6, hA6⟩ : ∃ A1, A1 = (if cap = 6 then (some ⟨gL, 0, none⟩ : Option Addr) else (some ⟨gL, 0, none⟩ : Option Addr).map (·.add (6 * 1))) := ⟨_, rfl⟩; have hl6n : l6.length = 4 := (by rw [HL6.out, List.length_drop, HL10.out]); have hcutB : ∀ W : World, (Instr.slice 53 (.slice (some ⟨gL, 0, none⟩) 10 cap) (some (.int .i64 6)) none none).run Tryd.prog W = .ok (.slice A6 l6.length (cap - 6)) W := (by intro W; rw [hA6, hl6n]; exact cut_from (P := Tryd.prog) 53 9 .i64 Tryd.underlying53 hi0 1 hsz0 (some ⟨gL, 0, none⟩) 10 cap 6 (by decide) (by decide) W); have HR6 := Aside0.mk (show Kd.C Kd.string w1 A6 l6.length l6 from by rw [hA6, HL6.out]; exact Kd.C_drop (m := 6) (c := cap) hRC (by rw [HL10.out]; decide) (by rw [HL10.out]; exact hcap)); have HC6 := Aside0.mk (show l6.length ≤ cap - 6 from by omega); have HCS := Aside0.mk hcs; have HCUR := Aside0.mk hcur; have HZ1 := Aside0.mk hZ1; clear hA6 hl6n hcs hcur hRC hcap hsz0 hi0 hb ho hZ1) | (go_at_call 24; refine (slices_ContainsFunc_string_string.calls k A6 (cap - 6) l6 true _ HR6.out HC6.out HC.out).mono ?_; rintro e w2 ⟨rfl, hd2⟩; have hb2 := hd2.below; have HB2 := Aside0.mk (below_step HB1.out hb2); have hZ2 := blk_below HZ1.out hb2; have hfc0 : w2.cell? ⟨w.heap.size, 0, none⟩ = some (.int .i64 0) := blk_cell hZ2 0; have hf0 : w2.frozen? ⟨w.heap.size, 0, none⟩ = false := blk_frozen hZ2 0; have hfc1 : w2.cell? ⟨w.heap.size, 1, none⟩ = some (.int .i64 0) := blk_cell hZ2 1; have hf1 : w2.frozen? ⟨w.heap.size, 1, none⟩ = false := blk_frozen hZ2 1; have hfc2 : w2.cell? ⟨w.heap.size, 2, none⟩ = some (.int .i64 0) := blk_cell hZ2 2; have hf2 : w2.frozen? ⟨w.heap.size, 2, none⟩ = false := blk_frozen hZ2 2; have hfc3 : w2.cell? ⟨w.heap.size, 3, none⟩ = some (.string (⟨#[]⟩ : ByteArray)) := blk_cell hZ2 3; have hf3 : w2.frozen? ⟨w.heap.size, 3, none⟩ = false := blk_frozen hZ2 3; have hfc4 : w2.cell? ⟨w.heap.size, 4, none⟩ = some (.int .i64 0) := blk_cell hZ2 4; have hf4 : w2.frozen? ⟨w.heap.size, 4, none⟩ = false := blk_frozen hZ2 4; have hfc5 : w2.cell? ⟨w.heap.size, 5, none⟩ = some (.int .i64 0) := blk_cell hZ2 5; have hf5 : w2.frozen? ⟨w.heap.size, 5, none⟩ = false := blk_frozen hZ2 5; have hfc6 : w2.cell? ⟨w.heap.size, 6, none⟩ = some (.int .i64 0) := blk_cell hZ2 6; have hf6 : w2.frozen? ⟨w.heap.size, 6, none⟩ = false := blk_frozen hZ2 6; have hfc7 : w2.cell? ⟨w.heap.size, 7, none⟩ = some (.int .i64 0) := blk_cell hZ2 7; have hf7 : w2.frozen? ⟨w.heap.size, 7, none⟩ = false := blk_frozen hZ2 7; have hfc8 : w2.cell? ⟨w.heap.size, 8, none⟩ = some (.int .i64 0) := blk_cell hZ2 8; have hf8 : w2.frozen? ⟨w.heap.size, 8, none⟩ = false := blk_frozen hZ2 8; have hfc9 : w2.cell? ⟨w.heap.size, 9, none⟩ = some (.string (⟨#[]⟩ : ByteArray)) := blk_cell hZ2 9; have hf9 : w2.frozen? ⟨w.heap.size, 9, none⟩ = false := blk_frozen hZ2 9; have hfc10 : w2.cell? ⟨w.heap.size, 10, none⟩ = some (.string (⟨#[]⟩ : ByteArray)) := blk_cell hZ2 10; have hf10 : w2.frozen? ⟨w.heap.size, 10, none⟩ = false := blk_frozen hZ2 10; have hfc11 : w2.cell? ⟨w.heap.size, 11, none⟩ = some (.string (⟨#[]⟩ : ByteArray)) := blk_cell hZ2 11; have hf11 : w2.frozen? ⟨w.heap.size, 11, none⟩ = false := blk_frozen hZ2 11; have hfc12 : w2.cell? ⟨w.heap.size, 12, none⟩ = some (.string (⟨#[]⟩ : ByteArray)) := blk_cell hZ2 12; have hf12 : w2.frozen? ⟨w.heap.size, 12, none⟩ = false := blk_frozen hZ2 12; have HZ2 := Aside0.mk hZ2; clear hb2 hd2 hZ2))
    refine bodyPost_ret (results_ct rfl _ _ w.heap.size 27 #[.int .i64 0, .int .i64 0, .int .i64 0, .string (⟨#[]⟩ : ByteArray), .int .i64 0, .int .i64 0, .int .i64 0, .int .i64 0, .int .i64 0, .string (⟨#[]⟩ : ByteArray), .string (⟨#[]⟩ : ByteArray), .string (⟨#[]⟩ : ByteArray), .string (⟨#[]⟩ : ByteArray)] (0, 0) _ rfl (blk_put (cs := #[.int .i64 0, .int .i64 0, .int .i64 0, .string (⟨#[]⟩ : ByteArray), .int .i64 0, .int .i64 0, .int .i64 0, .int .i64 0, .int .i64 0, .string (⟨#[]⟩ : ByteArray), .string (⟨#[]⟩ : ByteArray), .string (⟨#[]⟩ : ByteArray), .string (⟨#[]⟩ : ByteArray)]) (blk_put (cs := #[.int .i64 0, .int .i64 0, .int .i64 0, .string (⟨#[]⟩ : ByteArray), .int .i64 0, .int .i64 0, .int .i64 0, .int .i64 0, .int .i64 0, .string (⟨#[]⟩ : ByteArray), .string (⟨#[]⟩ : ByteArray), .string (⟨#[]⟩ : ByteArray), .string (⟨#[]⟩ : ByteArray)]) (blk_put (cs := #[.int .i64 0, .int .i64 0, .int .i64 0, .string (⟨#[]⟩ : ByteArray), .int .i64 0, .int .i64 0, .int .i64 0, .int .i64 0, .int .i64 0, .string (⟨#[]⟩ : ByteArray), .string (⟨#[]⟩ : ByteArray), .string (⟨#[]⟩ : ByteArray), .string (⟨#[]⟩ : ByteArray)]) (blk_put (cs := #[.int .i64 0, .int .i64 0, .int .i64 0, .string (⟨#[]⟩ : ByteArray), .int .i64 0, .int .i64 0, .int .i64 0, .int .i64 0, .int .i64 0, .string (⟨#[]⟩ : ByteArray), .string (⟨#[]⟩ : ByteArray), .string (⟨#[]⟩ : ByteArray), .string (⟨#[]⟩ : ByteArray)]) (blk_put (cs := #[.int .i64 0, .int .i64 0, .int .i64 0, .string (⟨#[]⟩ : ByteArray), .int .i64 0, .int .i64 0, .int .i64 0, .int .i64 0, .int .i64 0, .string (⟨#[]⟩ : ByteArray), .string (⟨#[]⟩ : ByteArray), .string (⟨#[]⟩ : ByteArray), .string (⟨#[]⟩ : ByteArray)]) (blk_put (cs := #[.int .i64 0, .int .i64 0, .int .i64 0, .string (⟨#[]⟩ : ByteArray), .int .i64 0, .int .i64 0, .int .i64 0, .int .i64 0, .int .i64 0, .string (⟨#[]⟩ : ByteArray), .string (⟨#[]⟩ : ByteArray), .string (⟨#[]⟩ : ByteArray), .string (⟨#[]⟩ : ByteArray)]) (blk_put (cs := #[.int .i64 0, .int .i64 0, .int .i64 0, .string (⟨#[]⟩ : ByteArray), .int .i64 0, .int .i64 0, .int .i64 0, .int .i64 0, .int .i64 0, .string (⟨#[]⟩ : ByteArray), .string (⟨#[]⟩ : ByteArray), .string (⟨#[]⟩ : ByteArray), .string (⟨#[]⟩ : ByteArray)]) (blk_put (cs := #[.int .i64 0, .int .i64 0, .int .i64 0, .string (⟨#[]⟩ : ByteArray), .int .i64 0, .int .i64 0, .int .i64 0, .int .i64 0, .int .i64 0, .string (⟨#[]⟩ : ByteArray), .string (⟨#[]⟩ : ByteArray), .string (⟨#[]⟩ : ByteArray), .string (⟨#[]⟩ : ByteArray)]) (blk_put (cs := #[.int .i64 0, .int .i64 0, .int .i64 0, .string (⟨#[]⟩ : ByteArray), .int .i64 0, .int .i64 0, .int .i64 0, .int .i64 0, .int .i64 0, .string (⟨#[]⟩ : ByteArray), .string (⟨#[]⟩ : ByteArray), .string (⟨#[]⟩ : ByteArray), .string (⟨#[]⟩ : ByteArray)]) (blk_put (cs := #[.int .i64 0, .int .i64 0, .int .i64 0, .string (⟨#[]⟩ : ByteArray), .int .i64 0, .int .i64 0, .int .i64 0, .int .i64 0, .int .i64 0, .string (⟨#[]⟩ : ByteArray), .string (⟨#[]⟩ : ByteArray), .string (⟨#[]⟩ : ByteArray), .string (⟨#[]⟩ : ByteArray)]) (blk_put (cs := #[.int .i64 0, .int .i64 0, .int .i64 0, .string (⟨#[]⟩ : ByteArray), .int .i64 0, .int .i64 0, .int .i64 0, .int .i64 0, .int .i64 0, .string (⟨#[]⟩ : ByteArray), .string (⟨#[]⟩ : ByteArray), .string (⟨#[]⟩ : ByteArray), .string (⟨#[]⟩ : ByteArray)]) (blk_put (cs := #[.int .i64 0, .int .i64 0, .int .i64 0, .string (⟨#[]⟩ : ByteArray), .int .i64 0, .int .i64 0, .int .i64 0, .int .i64 0, .int .i64 0, .string (⟨#[]⟩ : ByteArray), .string (⟨#[]⟩ : ByteArray), .string (⟨#[]⟩ : ByteArray), .string (⟨#[]⟩ : ByteArray)]) (blk_put (cs := #[.int .i64 0, .int .i64 0, .int .i64 0, .string (⟨#[]⟩ : ByteArray), .int .i64 0, .int .i64 0, .int .i64 0, .int .i64 0, .int .i64 0, .string (⟨#[]⟩ : ByteArray), .string (⟨#[]⟩ : ByteArray), .string (⟨#[]⟩ : ByteArray), .string (⟨#[]⟩ : ByteArray)]) (HZ2.out) 0 _ rfl) 1 _ rfl) 2 _ rfl) 3 _ rfl) 4 _ rfl) 5 _ rfl) 6 _ rfl) 7 _ rfl) 8 _ rfl) 9 _ rfl) 10 _ rfl) 11 _ rfl) 12 _ rfl) Tryd.underlying27 rfl (by kernel_rfl)) rfl ⟨rfl, ?_⟩
    exact (Below.setCell (Below.setCell (Below.setCell (Below.setCell (Below.setCell (Below.setCell (Below.setCell (Below.setCell (Below.setCell (Below.setCell (Below.setCell (Below.setCell (Below.setCell HB2.out (p := ⟨w.heap.size, 0, none⟩) (by first | exact Nat.le_refl _ | exact Nat.le_succ _) _) (p := ⟨w.heap.size, 1, none⟩) (by first | exact Nat.le_refl _ | exact Nat.le_succ _) _) (p := ⟨w.heap.size, 2, none⟩) (by first | exact Nat.le_refl _ | exact Nat.le_succ _) _) (p := ⟨w.heap.size, 3, none⟩) (by first | exact Nat.le_refl _ | exact Nat.le_succ _) _) (p := ⟨w.heap.size, 4, none⟩) (by first | exact Nat.le_refl _ | exact Nat.le_succ _) _) (p := ⟨w.heap.size, 5, none⟩) (by first | exact Nat.le_refl _ | exact Nat.le_succ _) _) (p := ⟨w.heap.size, 6, none⟩) (by first | exact Nat.le_refl _ | exact Nat.le_succ _) _) (p := ⟨w.heap.size, 7, none⟩) (by first | exact Nat.le_refl _ | exact Nat.le_succ _) _) (p := ⟨w.heap.size, 8, none⟩) (by first | exact Nat.le_refl _ | exact Nat.le_succ _) _) (p := ⟨w.heap.size, 9, none⟩) (by first | exact Nat.le_refl _ | exact Nat.le_succ _) _) (p := ⟨w.heap.size, 10, none⟩) (by first | exact Nat.le_refl _ | exact Nat.le_succ _) _) (p := ⟨w.heap.size, 11, none⟩) (by first | exact Nat.le_refl _ | exact Nat.le_succ _) _) (p := ⟨w.heap.size, 12, none⟩) (by first | exact Nat.le_refl _ | exact Nat.le_succ _) _)
  | false =>
  rw [if_neg (by simp)] at h
  have HP0 := Aside0.mk h
  clear h
  go_enter Tryd.func7, Tryd.ntmps7
  go_wp2_with (first | (go_at_call 23; refine (words_Fields.calls k a0 l _ _ HF.out).mono ?_; rintro e w1 ⟨v0, rfl, ho, hb⟩; have HB1 := Aside0.mk (below_step HBA.out hb); have hZ1 := blk_below HZ.out hb; obtain ⟨gL, cap, rfl, hcap, ⟨cur, hcur⟩, hRC, hcs⟩ := strsT ho HL10.out (by omega); obtain ⟨i0, hi0, _, hsz0, _⟩ := info_parts info9; obtain ⟨A6, hA6⟩ : ∃ A1, A1 = (if cap = 6 then (some ⟨gL, 0, none⟩ : Option Addr) else (some ⟨gL, 0, none⟩ : Option Addr).map (·.add (6 * 1))) := ⟨_, rfl⟩; have hl6n : l6.length = 4 := (by rw [HL6.out, List.length_drop, HL10.out]); have hcutB : ∀ W : World, (Instr.slice 53 (.slice (some ⟨gL, 0, none⟩) 10 cap) (some (.int .i64 6)) none none).run Tryd.prog W = .ok (.slice A6 l6.length (cap - 6)) W := (by intro W; rw [hA6, hl6n]; exact cut_from (P := Tryd.prog) 53 9 .i64 Tryd.underlying53 hi0 1 hsz0 (some ⟨gL, 0, none⟩) 10 cap 6 (by decide) (by decide) W); have HR6 := Aside0.mk (show Kd.C Kd.string w1 A6 l6.length l6 from by rw [hA6, HL6.out]; exact Kd.C_drop (m := 6) (c := cap) hRC (by rw [HL10.out]; decide) (by rw [HL10.out]; exact hcap)); have HC6 := Aside0.mk (show l6.length ≤ cap - 6 from by omega); have HCS := Aside0.mk hcs; have HCUR := Aside0.mk hcur; have HZ1 := Aside0.mk hZ1; clear hA6 hl6n hcs hcur hRC hcap hsz0 hi0 hb ho hZ1) | (go_at_call 24; refine (slices_ContainsFunc_string_string.calls k A6 (cap - 6) l6 false _ HR6.out HC6.out HC.out).mono ?_; rintro e w2 ⟨rfl, hd2⟩; have hb2 := hd2.below; have HB2 := Aside0.mk (below_step HB1.out hb2); have HZ2 := Aside0.mk (blk_below HZ1.out hb2); have HB12 := Aside0.mk hb2; clear hb2 hd2))
  have hs6 : w2.drew.cell? ⟨gL, 6, none⟩ = some (.string (rfS l 6)) := (HB12.out.cell (World.block_lt_of_cell? w1 _ (HCS.out 6 (by omega)))).trans (HCS.out 6 (by omega))
  have hs7 : w2.drew.cell? ⟨gL, 7, none⟩ = some (.string (rfS l 7)) := (HB12.out.cell (World.block_lt_of_cell? w1 _ (HCS.out 7 (by omega)))).trans (HCS.out 7 (by omega))
  have hs8 : w2.drew.cell? ⟨gL, 8, none⟩ = some (.string (rfS l 8)) := (HB12.out.cell (World.block_lt_of_cell? w1 _ (HCS.out 8 (by omega)))).trans (HCS.out 8 (by omega))
  have hs9 : w2.drew.cell? ⟨gL, 9, none⟩ = some (.string (rfS l 9)) := (HB12.out.cell (World.block_lt_of_cell? w1 _ (HCS.out 9 (by omega)))).trans (HCS.out 9 (by omega))
  have HBd := Aside0.mk (below_drew1 HB2.out)
  have HZd := Aside0.mk (blk_drew HZ2.out)
  have HK9 := Aside0.mk (KT.drew (KT.below (KT.refl 9 w1) HB12.out))
  refine start_ (n := 17) (S := fun w' => w'.cell? ⟨gL, 6, none⟩ = some (.string (rfS l 6)) ∧ w'.cell? ⟨gL, 7, none⟩ = some (.string (rfS l 7)) ∧ w'.cell? ⟨gL, 8, none⟩ = some (.string (rfS l 8)) ∧ w'.cell? ⟨gL, 9, none⟩ = some (.string (rfS l 9))) (ds := []) #[false, false, false, false, false, false, false, false, false, false, false, false, false, false, false, false, false] (by kernel_rfl) rfl rfl ⟨hs6, hs7, hs8, hs9⟩ (fun hHeld => ?_)
  refine with_tabW trp.tab6 trp.bits6 (fun HT_ HW_ => ?_)
  generalize w2.drew = wd at HBd HZd HK9 hs6 hs7 hs8 hs9 hHeld ⊢
  refine pure_ (i := 0) (N := some 29) (v := ?_) (a' := ?_) #[true, false, false, false, false, false, false, false, false, false, false, false, false, false, false, false, false] rfl rfl (any_of HT_.out (by kernel_rfl)) (fun _ _ _ h => h) (Or.inl ⟨by rfl, ?_⟩) ?_ ?_
  rotate_left
  · intro w'
    go_simp
    with_reducible rfl
  rotate_left
  · simp only [Act.put, List.setIfInBounds_toArray, List.set_cons_zero, List.set_cons_succ, i64_w, i32_w]
    rfl
  refine pure_ (i := 1) (N := some 30) (v := ?_) (a' := ?_) #[true, true, false, false, false, false, false, false, false, false, false, false, false, false, false, false, false] rfl rfl (any_of HT_.out (by kernel_rfl)) (fun _ _ _ h => h) (Or.inl ⟨by rfl, ?_⟩) ?_ ?_
  rotate_left
  · intro w'
    go_simp
    with_reducible rfl
  rotate_left
  · simp only [Act.put, List.setIfInBounds_toArray, List.set_cons_zero, List.set_cons_succ, i64_w, i32_w]
    rfl
  refine take_ (i := 2) (N := some 31) (v := ?_) (a' := ?_) #[true, true, true, false, false, false, false, false, false, false, false, false, false, false, false, false, false] rfl rfl (take_ofW HT_.out HW_.out (by kernel_rfl)) (fun _ _ _ h => h) (Or.inl ⟨by rfl, ?_⟩) hHeld ?_ ?_
  rotate_left
  · rintro w' ⟨s0, s1, s2, s3⟩
    go_simp
    with_reducible rfl
  rotate_left
  · simp only [Act.put, List.setIfInBounds_toArray, List.set_cons_zero, List.set_cons_succ, i64_w, i32_w]
    rfl
  refine pure_ (i := 3) (N := some 32) (v := ?_) (a' := ?_) #[true, true, true, true, false, false, false, false, false, false, false, false, false, false, false, false, false] rfl rfl (any_of HT_.out (by kernel_rfl)) (fun _ _ _ h => h) (Or.inl ⟨by rfl, ?_⟩) ?_ ?_
  rotate_left
  · intro w'
    go_simp
    with_reducible rfl
  rotate_left
  · simp only [Act.put, List.setIfInBounds_toArray, List.set_cons_zero, List.set_cons_succ, i64_w, i32_w]
    rfl
  refine pure_ (i := 4) (N := some 33) (v := ?_) (a' := ?_) #[true, true, true, true, true, false, false, false, false, false, false, false, false, false, false, false, false] rfl rfl (any_of HT_.out (by kernel_rfl)) (fun _ _ _ h => h) (Or.inl ⟨by rfl, ?_⟩) ?_ ?_
  rotate_left
  · intro w'
    go_simp
    with_reducible rfl
  rotate_left
  · simp only [Act.put, List.setIfInBounds_toArray, List.set_cons_zero, List.set_cons_succ, i64_w, i32_w]
    rfl
  refine take_ (i := 5) (N := some 34) (v := ?_) (a' := ?_) #[true, true, true, true, true, true, false, false, false, false, false, false, false, false, false, false, false] rfl rfl (take_ofW HT_.out HW_.out (by kernel_rfl)) (fun _ _ _ h => h) (Or.inl ⟨by rfl, ?_⟩) hHeld ?_ ?_
  rotate_left
  · rintro w' ⟨s0, s1, s2, s3⟩
    go_simp
    with_reducible rfl
  rotate_left
  · simp only [Act.put, List.setIfInBounds_toArray, List.set_cons_zero, List.set_cons_succ, i64_w, i32_w]
    rfl
  refine pure_ (i := 6) (N := some 35) (v := ?_) (a' := ?_) #[true, true, true, true, true, true, true, false, false, false, false, false, false, false, false, false, false] rfl rfl (any_of HT_.out (by kernel_rfl)) (fun _ _ _ h => h) (Or.inl ⟨by rfl, ?_⟩) ?_ ?_
  rotate_left
  · intro w'
    go_simp
    with_reducible rfl
  rotate_left
  · simp only [Act.put, List.setIfInBounds_toArray, List.set_cons_zero, List.set_cons_succ, i64_w, i32_w]
    rfl
  refine pure_ (i := 7) (N := some 36) (v := ?_) (a' := ?_) #[true, true, true, true, true, true, true, true, false, false, false, false, false, false, false, false, false] rfl rfl (any_of HT_.out (by kernel_rfl)) (fun _ _ _ h => h) (Or.inl ⟨by rfl, ?_⟩) ?_ ?_
  rotate_left
  · intro w'
    go_simp
    with_reducible rfl
  rotate_left
  · simp only [Act.put, List.setIfInBounds_toArray, List.set_cons_zero, List.set_cons_succ, i64_w, i32_w]
    rfl
  refine pure_ (i := 8) (N := some 37) (v := ?_) (a' := ?_) #[true, true, true, true, true, true, true, true, true, false, false, false, false, false, false, false, false] rfl rfl (any_of HT_.out (by kernel_rfl)) (fun _ _ _ h => h) (Or.inl ⟨by rfl, ?_⟩) ?_ ?_
  rotate_left
  · intro w'
    go_simp
    with_reducible rfl
  rotate_left
  · simp only [Act.put, List.setIfInBounds_toArray, List.set_cons_zero, List.set_cons_succ, i64_w, i32_w]
    rfl
  refine take_ (i := 9) (N := some 38) (v := ?_) (a' := ?_) #[true, true, true, true, true, true, true, true, true, true, false, false, false, false, false, false, false] rfl rfl (take_ofW HT_.out HW_.out (by kernel_rfl)) (fun _ _ _ h => h) (Or.inl ⟨by rfl, ?_⟩) hHeld ?_ ?_
  rotate_left
  · rintro w' ⟨s0, s1, s2, s3⟩
    go_simp
    with_reducible rfl
  rotate_left
  · simp only [Act.put, List.setIfInBounds_toArray, List.set_cons_zero, List.set_cons_succ, i64_w, i32_w]
    rfl
  refine pure_ (i := 10) (N := some 39) (v := ?_) (a' := ?_) #[true, true, true, true, true, true, true, true, true, true, true, false, false, false, false, false, false] rfl rfl (any_of HT_.out (by kernel_rfl)) (fun _ _ _ h => h) (Or.inl ⟨by rfl, ?_⟩) ?_ ?_
  rotate_left
  · intro w'
    go_simp
    with_reducible rfl
  rotate_left
  · simp only [Act.put, List.setIfInBounds_toArray, List.set_cons_zero, List.set_cons_succ, i64_w, i32_w]
    rfl
  refine pure_ (i := 11) (N := some 40) (v := ?_) (a' := ?_) #[true, true, true, true, true, true, true, true, true, true, true, true, false, false, false, false, false] rfl rfl (any_of HT_.out (by kernel_rfl)) (fun _ _ _ h => h) (Or.inl ⟨by rfl, ?_⟩) ?_ ?_
  rotate_left
  · intro w'
    go_simp
    with_reducible rfl
  rotate_left
  · simp only [Act.put, List.setIfInBounds_toArray, List.set_cons_zero, List.set_cons_succ, i64_w, i32_w]
    rfl
  refine take_ (i := 12) (N := some 41) (v := ?_) (a' := ?_) #[true, true, true, true, true, true, true, true, true, true, true, true, true, false, false, false, false] rfl rfl (take_ofW HT_.out HW_.out (by kernel_rfl)) (fun _ _ _ h => h) (Or.inl ⟨by rfl, ?_⟩) hHeld ?_ ?_
  rotate_left
  · rintro w' ⟨s0, s1, s2, s3⟩
    go_simp
    with_reducible rfl
  rotate_left
  · simp only [Act.put, List.setIfInBounds_toArray, List.set_cons_zero, List.set_cons_succ, i64_w, i32_w]
    rfl
  refine pure_ (i := 13) (N := some 42) (v := ?_) (a' := ?_) #[true, true, true, true, true, true, true, true, true, true, true, true, true, true, false, false, false] rfl rfl (any_of HT_.out (by kernel_rfl)) (fun _ _ _ h => h) (Or.inl ⟨by rfl, ?_⟩) ?_ ?_
  rotate_left
  · intro w'
    go_simp
    with_reducible rfl
  rotate_left
  · simp only [Act.put, List.setIfInBounds_toArray, List.set_cons_zero, List.set_cons_succ, i64_w, i32_w]
    rfl
  refine pure_ (i := 14) (N := some 43) (v := ?_) (a' := ?_) #[true, true, true, true, true, true, true, true, true, true, true, true, true, true, true, false, false] rfl rfl (any_of HT_.out (by kernel_rfl)) (fun _ _ _ h => h) (Or.inl ⟨by rfl, ?_⟩) ?_ ?_
  rotate_left
  · intro w'
    go_simp
    with_reducible rfl
  rotate_left
  · simp only [Act.put, List.setIfInBounds_toArray, List.set_cons_zero, List.set_cons_succ, i64_w, i32_w]
    rfl
  have HH2 := Aside0.mk (show ∀ o_, (wd.alloc o_).cell? ⟨gL, 6, none⟩ = some (.string (rfS l 6)) ∧ (wd.alloc o_).cell? ⟨gL, 7, none⟩ = some (.string (rfS l 7)) ∧ (wd.alloc o_).cell? ⟨gL, 8, none⟩ = some (.string (rfS l 8)) ∧ (wd.alloc o_).cell? ⟨gL, 9, none⟩ = some (.string (rfS l 9)) from fun o_ => by
    have al : ∀ {p : Addr} {v_ : Value}, wd.cell? p = some v_ → (wd.alloc o_).cell? p = some v_ := fun hp => ((below_alloc (Below.refl wd.heap.size wd) o_).cell (World.block_lt_of_cell? wd _ hp)).trans hp
    obtain ⟨q0, q1, q2, q3⟩ := hHeld
    exact ⟨al q0, al q1, al q2, al q3⟩)
  refine one_ (i := 15) (N := some 6) #[true, true, true, true, true, true, true, true, true, true, true, true, true, true, true, true, false] rfl rfl (one_of HT_.out (by kernel_rfl)) (by decide) (fun K hK => ?_)
  rw [if_pos (by rfl)]
  unfold Oper.wp
  go_simp
  refine hK.out _ _ (HH2.out _) (fun hHeld => ?_)
  clear hK K
  refine one_ (i := 16) (N := none) #[true, true, true, true, true, true, true, true, true, true, true, true, true, true, true, true, true] rfl rfl (one_of HT_.out (by kernel_rfl)) (by decide) (fun K hK => ?_)
  rw [if_pos (by rfl)]
  unfold Oper.wp
  go_simp
  refine hK.out _ _ (HH2.out _) (fun hHeld => ?_)
  clear hK K
  refine done_ (done_of HT_.out (by kernel_rfl)) ?_
  have HLT := Aside0.mk (show w.heap.size < wd.heap.size from (Array.getElem?_eq_some_iff.1 HZd.out).1)
  have HGn := Aside0.mk (show (wd.alloc (.cells #[.int .i64 0, .int .i64 0, .int .i64 0, .string (⟨#[]⟩ : ByteArray), .int .i64 0, .int .i64 0, .int .i64 0, .int .i64 0, .int .i64 0, .string (rfS l 6), .string (rfS l 7), .string (rfS l 8), .string (rfS l 9)] 27)).heap[wd.heap.size]? = some (.cells #[.int .i64 0, .int .i64 0, .int .i64 0, .string (⟨#[]⟩ : ByteArray), .int .i64 0, .int .i64 0, .int .i64 0, .int .i64 0, .int .i64 0, .string (rfS l 6), .string (rfS l 7), .string (rfS l 8), .string (rfS l 9)] 27 (0, 0)) from blk_new _ _)
  have HBg := Aside0.mk (below_alloc HBd.out (.cells #[.int .i64 0, .int .i64 0, .int .i64 0, .string (⟨#[]⟩ : ByteArray), .int .i64 0, .int .i64 0, .int .i64 0, .int .i64 0, .int .i64 0, .string (rfS l 6), .string (rfS l 7), .string (rfS l 8), .string (rfS l 9)] 27))
  have HZg := Aside0.mk (blk_alloc HZd.out (.cells #[.int .i64 0, .int .i64 0, .int .i64 0, .string (⟨#[]⟩ : ByteArray), .int .i64 0, .int .i64 0, .int .i64 0, .int .i64 0, .int .i64 0, .string (rfS l 6), .string (rfS l 7), .string (rfS l 8), .string (rfS l 9)] 27))
  have HK9g := Aside0.mk (KT.alloc HK9.out (.cells #[.int .i64 0, .int .i64 0, .int .i64 0, .string (⟨#[]⟩ : ByteArray), .int .i64 0, .int .i64 0, .int .i64 0, .int .i64 0, .int .i64 0, .string (rfS l 6), .string (rfS l 7), .string (rfS l 8), .string (rfS l 9)] 27))
  generalize wd.alloc (.cells #[.int .i64 0, .int .i64 0, .int .i64 0, .string (⟨#[]⟩ : ByteArray), .int .i64 0, .int .i64 0, .int .i64 0, .int .i64 0, .int .i64 0, .string (rfS l 6), .string (rfS l 7), .string (rfS l 8), .string (rfS l 9)] 27) = wg at HGn HBg HZg HK9g ⊢
  clear HH2 HT_ HW_ hHeld hs6 hs7 hs8 hs9 HBd HZd HK9
  generalize wd.heap.size = gt at HLT HGn ⊢
  go_wp2_with (first | (go_at_call 29; refine (number_calls gt 0 _).mono ?_; rintro e0 v0 ⟨b0, rfl, hn0, hw0⟩; have HN0 := Aside0.mk hn0; have HW0 := Aside0.mk hw0; clear hn0 hw0) | (go_at_call 29; refine (number_calls gt 1 _).mono ?_; rintro e1 v1 ⟨b1, rfl, hn1, hw1⟩; have HN1 := Aside0.mk hn1; have HW1 := Aside0.mk hw1; clear hn1 hw1) | (go_at_call 29; refine (number_calls gt 2 _).mono ?_; rintro e2 v2 ⟨b2, rfl, hn2, hw2⟩; have HN2 := Aside0.mk hn2; have HW2 := Aside0.mk hw2; clear hn2 hw2) | (go_at_call 29; refine (number_calls gt 7 _).mono ?_; rintro e4 v4 ⟨b4, rfl, hn4, hw4⟩; have HN4 := Aside0.mk hn4; have HW4 := Aside0.mk hw4; clear hn4 hw4) | (go_at_call 29; refine (number_calls gt 8 _).mono ?_; rintro e5 v5 ⟨b5, rfl, hn5, hw5⟩; have HN5 := Aside0.mk hn5; have HW5 := Aside0.mk hw5; clear hn5 hw5))
  have HX0 := Aside0.mk (blk_below (blk_below (blk_below (blk_below HN0.out HW1.out) HW2.out) HW4.out) HW5.out)
  have HX1 := Aside0.mk (blk_below (blk_below (blk_below HN1.out HW2.out) HW4.out) HW5.out)
  have HX2 := Aside0.mk (blk_below (blk_below HN2.out HW4.out) HW5.out)
  have HX4 := Aside0.mk (blk_below HN4.out HW5.out)
  have HX5 := Aside0.mk HN5.out
  have HBv := Aside0.mk (below_step (below_step (below_step (below_step HW0.out HW1.out) HW2.out) HW4.out) HW5.out)
  have HGS := Aside0.mk (show gt < v5.heap.size from (Array.getElem?_eq_some_iff.1 (blk_below HGn.out HBv.out)).1)
  go_loopg [58] 6 (fun kq v58 wr => ∃ (i : Nat) (t : S27), v58 = .int .i64 (i : Int) ∧ Aside0 (kq + i = 6) ∧ Aside0 (prAt i k l t = some p) ∧ Aside0 (wr.heap[gt]? = some (.cells #[.int .i64 t.f0, .int .i64 t.f1, .int .i64 t.f2, .string t.f3.f0, .int .i64 t.f3.f1, .int .i64 t.f3.f2, .int .i64 t.f3.f3, .int .i64 t.f4, .int .i64 t.f5, .string t.f6.f0, .string t.f6.f1, .string t.f7.f0, .string t.f7.f1] 27 (0, 0))) ∧ Aside0 (KT 62 v5 wr) ∧ Aside0 (wr.heap[v5.heap.size]? = some (.cells #[(.func (.func 52) #[] #[.pointer (some ⟨b0, 0, none⟩)]), (.func (.func 52) #[] #[.pointer (some ⟨b1, 0, none⟩)]), (.func (.func 52) #[] #[.pointer (some ⟨b2, 0, none⟩)]), (.func (.func 27) #[] #[.pointer (some ⟨gt, 0, none⟩)]), (.func (.func 52) #[] #[.pointer (some ⟨b4, 0, none⟩)]), (.func (.func 52) #[] #[.pointer (some ⟨b5, 0, none⟩)])] 60 (0, 0))) ∧ Aside0 (wr.heap[w.heap.size]? = some (.cells #[.int .i64 0, .int .i64 0, .int .i64 0, .string (⟨#[]⟩ : ByteArray), .int .i64 0, .int .i64 0, .int .i64 0, .int .i64 0, .int .i64 0, .string (⟨#[]⟩ : ByteArray), .string (⟨#[]⟩ : ByteArray), .string (⟨#[]⟩ : ByteArray), .string (⟨#[]⟩ : ByteArray)] 27 (0, 0))) ∧ Aside0 (KT 9 w1 wr) ∧ Aside0 (Below w.heap.size w wr))
  case atStart => exact ⟨0, t0T l, rfl, ⟨rfl⟩, HP0, ⟨blk_alloc (blk_below HGn.out HBv.out) _⟩, ⟨KT.alloc (KT.refl _ _) _⟩, ⟨blk_new _ _⟩, ⟨blk_alloc (blk_below HZg.out HBv.out) _⟩, ⟨KT.alloc (KT.below HK9g.out HBv.out) _⟩, ⟨below_alloc (below_step HBg.out HBv.out) _⟩⟩
  case round =>
    obtain ⟨i, t, rfl, HK, HP, HGr, HKP, HS, HZr, HKr, HBr⟩ := hrel
    have hi : i = 0 ∨ i = 1 ∨ i = 2 ∨ i = 3 ∨ i = 4 ∨ i = 5 ∨ i = 6 := by have := HK.out; omega
    rcases hi with rfl | rfl | rfl | rfl | rfl | rfl | rfl
    · obtain ⟨⟨x, e⟩, hq, hh⟩ := Option.bind_eq_some_iff.1 HP.out
      dsimp only at hh
      have hfn : wr.cell? ⟨v5.heap.size, 0, none⟩ = some (.func (.func 52) #[] #[.pointer (some ⟨b0, 0, none⟩)]) := blk_cell HS.out 0
      have hst : wr.cell? ⟨gL, 0, none⟩ = some (.string (rfS l 0)) := kt_cell HKr.out HCUR.out 0 (HCS.out 0 (by omega))
      have HQ := Aside0.mk hq
      clear hq
      have HBX := Aside0.mk (HKP.out _ _ HX0.out)
      by_cases c : e = 0
      · subst c
        rw [if_pos rfl] at hh
        have HH := Aside0.mk hh
        clear hh
        go_wp2_with (go_at_call 52; refine (num_lit k (rfS l 0) x 0 b0 gt 0 #[.int .i64 t.f0, .int .i64 t.f1, .int .i64 t.f2, .string t.f3.f0, .int .i64 t.f3.f1, .int .i64 t.f3.f2, .int .i64 t.f3.f3, .int .i64 t.f4, .int .i64 t.f5, .string t.f6.f0, .string t.f6.f1, .string t.f7.f0, .string t.f7.f1] t.f0 wr HQ.out HBX.out HGr.out rfl).mono ?_; rintro e6 w6 ⟨rfl, w7, hb7, rfl⟩; have HB7 := Aside0.mk hb7; clear hb7)
        go_roundg (gk - 1)
        case measure => have := HK.out; omega
        case rel => exact ⟨1, { t with f0 := x }, by go_num, ⟨by have := HK.out; omega⟩, HH, ⟨(blk_put (cs := #[.int .i64 t.f0, .int .i64 t.f1, .int .i64 t.f2, .string t.f3.f0, .int .i64 t.f3.f1, .int .i64 t.f3.f2, .int .i64 t.f3.f3, .int .i64 t.f4, .int .i64 t.f5, .string t.f6.f0, .string t.f6.f1, .string t.f7.f0, .string t.f7.f1]) (blk_below HGr.out HB7.out) 0 (.int .i64 x) rfl)⟩, ⟨(KT.setCell (KT.below HKP.out HB7.out) (blk_below HGr.out HB7.out) (by decide) (.int .i64 x))⟩, ⟨(blk_far (blk_below HS.out HB7.out) (Nat.ne_of_gt HGS.out) (.int .i64 x))⟩, ⟨(blk_far (blk_below HZr.out HB7.out) (Nat.ne_of_lt HLT.out) (.int .i64 x))⟩, ⟨(KT.setCell (KT.below HKr.out HB7.out) (blk_below HGr.out HB7.out) (by decide) (.int .i64 x))⟩, ⟨(Below.setCell (below_step HBr.out HB7.out) (p := ⟨gt, 0, none⟩) (Nat.le_of_lt HLT.out) (.int .i64 x))⟩⟩
      · rw [if_neg c] at hh
        obtain rfl := Option.some.inj hh
        have hz : (e != 0) = true := bne_iff_ne.2 c
        clear hh c
        go_wp2_with (go_at_call 52; refine (num_lit k (rfS l 0) x e b0 gt 0 #[.int .i64 t.f0, .int .i64 t.f1, .int .i64 t.f2, .string t.f3.f0, .int .i64 t.f3.f1, .int .i64 t.f3.f2, .int .i64 t.f3.f3, .int .i64 t.f4, .int .i64 t.f5, .string t.f6.f0, .string t.f6.f1, .string t.f7.f0, .string t.f7.f1] t.f0 wr HQ.out HBX.out HGr.out rfl).mono ?_; rintro e6 w6 ⟨rfl, w7, hb7, rfl⟩; have HB7 := Aside0.mk hb7; have hZ6 : (w7.setCell ⟨gt, 0, none⟩ (.int .i64 x)).heap[w.heap.size]? = some (.cells #[.int .i64 0, .int .i64 0, .int .i64 0, .string (⟨#[]⟩ : ByteArray), .int .i64 0, .int .i64 0, .int .i64 0, .int .i64 0, .int .i64 0, .string (⟨#[]⟩ : ByteArray), .string (⟨#[]⟩ : ByteArray), .string (⟨#[]⟩ : ByteArray), .string (⟨#[]⟩ : ByteArray)] 27 (0, 0)) := (blk_far (blk_below HZr.out hb7) (Nat.ne_of_lt HLT.out) (.int .i64 x)); have hfc0 : (w7.setCell ⟨gt, 0, none⟩ (.int .i64 x)).cell? ⟨w.heap.size, 0, none⟩ = some (.int .i64 0) := blk_cell hZ6 0; have hf0 : (w7.setCell ⟨gt, 0, none⟩ (.int .i64 x)).frozen? ⟨w.heap.size, 0, none⟩ = false := blk_frozen hZ6 0; have hfc1 : (w7.setCell ⟨gt, 0, none⟩ (.int .i64 x)).cell? ⟨w.heap.size, 1, none⟩ = some (.int .i64 0) := blk_cell hZ6 1; have hf1 : (w7.setCell ⟨gt, 0, none⟩ (.int .i64 x)).frozen? ⟨w.heap.size, 1, none⟩ = false := blk_frozen hZ6 1; have hfc2 : (w7.setCell ⟨gt, 0, none⟩ (.int .i64 x)).cell? ⟨w.heap.size, 2, none⟩ = some (.int .i64 0) := blk_cell hZ6 2; have hf2 : (w7.setCell ⟨gt, 0, none⟩ (.int .i64 x)).frozen? ⟨w.heap.size, 2, none⟩ = false := blk_frozen hZ6 2; have hfc3 : (w7.setCell ⟨gt, 0, none⟩ (.int .i64 x)).cell? ⟨w.heap.size, 3, none⟩ = some (.string (⟨#[]⟩ : ByteArray)) := blk_cell hZ6 3; have hf3 : (w7.setCell ⟨gt, 0, none⟩ (.int .i64 x)).frozen? ⟨w.heap.size, 3, none⟩ = false := blk_frozen hZ6 3; have hfc4 : (w7.setCell ⟨gt, 0, none⟩ (.int .i64 x)).cell? ⟨w.heap.size, 4, none⟩ = some (.int .i64 0) := blk_cell hZ6 4; have hf4 : (w7.setCell ⟨gt, 0, none⟩ (.int .i64 x)).frozen? ⟨w.heap.size, 4, none⟩ = false := blk_frozen hZ6 4; have hfc5 : (w7.setCell ⟨gt, 0, none⟩ (.int .i64 x)).cell? ⟨w.heap.size, 5, none⟩ = some (.int .i64 0) := blk_cell hZ6 5; have hf5 : (w7.setCell ⟨gt, 0, none⟩ (.int .i64 x)).frozen? ⟨w.heap.size, 5, none⟩ = false := blk_frozen hZ6 5; have hfc6 : (w7.setCell ⟨gt, 0, none⟩ (.int .i64 x)).cell? ⟨w.heap.size, 6, none⟩ = some (.int .i64 0) := blk_cell hZ6 6; have hf6 : (w7.setCell ⟨gt, 0, none⟩ (.int .i64 x)).frozen? ⟨w.heap.size, 6, none⟩ = false := blk_frozen hZ6 6; have hfc7 : (w7.setCell ⟨gt, 0, none⟩ (.int .i64 x)).cell? ⟨w.heap.size, 7, none⟩ = some (.int .i64 0) := blk_cell hZ6 7; have hf7 : (w7.setCell ⟨gt, 0, none⟩ (.int .i64 x)).frozen? ⟨w.heap.size, 7, none⟩ = false := blk_frozen hZ6 7; have hfc8 : (w7.setCell ⟨gt, 0, none⟩ (.int .i64 x)).cell? ⟨w.heap.size, 8, none⟩ = some (.int .i64 0) := blk_cell hZ6 8; have hf8 : (w7.setCell ⟨gt, 0, none⟩ (.int .i64 x)).frozen? ⟨w.heap.size, 8, none⟩ = false := blk_frozen hZ6 8; have hfc9 : (w7.setCell ⟨gt, 0, none⟩ (.int .i64 x)).cell? ⟨w.heap.size, 9, none⟩ = some (.string (⟨#[]⟩ : ByteArray)) := blk_cell hZ6 9; have hf9 : (w7.setCell ⟨gt, 0, none⟩ (.int .i64 x)).frozen? ⟨w.heap.size, 9, none⟩ = false := blk_frozen hZ6 9; have hfc10 : (w7.setCell ⟨gt, 0, none⟩ (.int .i64 x)).cell? ⟨w.heap.size, 10, none⟩ = some (.string (⟨#[]⟩ : ByteArray)) := blk_cell hZ6 10; have hf10 : (w7.setCell ⟨gt, 0, none⟩ (.int .i64 x)).frozen? ⟨w.heap.size, 10, none⟩ = false := blk_frozen hZ6 10; have hfc11 : (w7.setCell ⟨gt, 0, none⟩ (.int .i64 x)).cell? ⟨w.heap.size, 11, none⟩ = some (.string (⟨#[]⟩ : ByteArray)) := blk_cell hZ6 11; have hf11 : (w7.setCell ⟨gt, 0, none⟩ (.int .i64 x)).frozen? ⟨w.heap.size, 11, none⟩ = false := blk_frozen hZ6 11; have hfc12 : (w7.setCell ⟨gt, 0, none⟩ (.int .i64 x)).cell? ⟨w.heap.size, 12, none⟩ = some (.string (⟨#[]⟩ : ByteArray)) := blk_cell hZ6 12; have hf12 : (w7.setCell ⟨gt, 0, none⟩ (.int .i64 x)).frozen? ⟨w.heap.size, 12, none⟩ = false := blk_frozen hZ6 12; have HZ6 := Aside0.mk hZ6; clear hZ6; clear hb7)
        refine bodyPost_ret (results_ct rfl _ _ w.heap.size 27 #[.int .i64 0, .int .i64 0, .int .i64 0, .string (⟨#[]⟩ : ByteArray), .int .i64 0, .int .i64 0, .int .i64 0, .int .i64 0, .int .i64 0, .string (⟨#[]⟩ : ByteArray), .string (⟨#[]⟩ : ByteArray), .string (⟨#[]⟩ : ByteArray), .string (⟨#[]⟩ : ByteArray)] (0, 0) _ rfl (blk_put (cs := #[.int .i64 0, .int .i64 0, .int .i64 0, .string (⟨#[]⟩ : ByteArray), .int .i64 0, .int .i64 0, .int .i64 0, .int .i64 0, .int .i64 0, .string (⟨#[]⟩ : ByteArray), .string (⟨#[]⟩ : ByteArray), .string (⟨#[]⟩ : ByteArray), .string (⟨#[]⟩ : ByteArray)]) (blk_put (cs := #[.int .i64 0, .int .i64 0, .int .i64 0, .string (⟨#[]⟩ : ByteArray), .int .i64 0, .int .i64 0, .int .i64 0, .int .i64 0, .int .i64 0, .string (⟨#[]⟩ : ByteArray), .string (⟨#[]⟩ : ByteArray), .string (⟨#[]⟩ : ByteArray), .string (⟨#[]⟩ : ByteArray)]) (blk_put (cs := #[.int .i64 0, .int .i64 0, .int .i64 0, .string (⟨#[]⟩ : ByteArray), .int .i64 0, .int .i64 0, .int .i64 0, .int .i64 0, .int .i64 0, .string (⟨#[]⟩ : ByteArray), .string (⟨#[]⟩ : ByteArray), .string (⟨#[]⟩ : ByteArray), .string (⟨#[]⟩ : ByteArray)]) (blk_put (cs := #[.int .i64 0, .int .i64 0, .int .i64 0, .string (⟨#[]⟩ : ByteArray), .int .i64 0, .int .i64 0, .int .i64 0, .int .i64 0, .int .i64 0, .string (⟨#[]⟩ : ByteArray), .string (⟨#[]⟩ : ByteArray), .string (⟨#[]⟩ : ByteArray), .string (⟨#[]⟩ : ByteArray)]) (blk_put (cs := #[.int .i64 0, .int .i64 0, .int .i64 0, .string (⟨#[]⟩ : ByteArray), .int .i64 0, .int .i64 0, .int .i64 0, .int .i64 0, .int .i64 0, .string (⟨#[]⟩ : ByteArray), .string (⟨#[]⟩ : ByteArray), .string (⟨#[]⟩ : ByteArray), .string (⟨#[]⟩ : ByteArray)]) (blk_put (cs := #[.int .i64 0, .int .i64 0, .int .i64 0, .string (⟨#[]⟩ : ByteArray), .int .i64 0, .int .i64 0, .int .i64 0, .int .i64 0, .int .i64 0, .string (⟨#[]⟩ : ByteArray), .string (⟨#[]⟩ : ByteArray), .string (⟨#[]⟩ : ByteArray), .string (⟨#[]⟩ : ByteArray)]) (blk_put (cs := #[.int .i64 0, .int .i64 0, .int .i64 0, .string (⟨#[]⟩ : ByteArray), .int .i64 0, .int .i64 0, .int .i64 0, .int .i64 0, .int .i64 0, .string (⟨#[]⟩ : ByteArray), .string (⟨#[]⟩ : ByteArray), .string (⟨#[]⟩ : ByteArray), .string (⟨#[]⟩ : ByteArray)]) (blk_put (cs := #[.int .i64 0, .int .i64 0, .int .i64 0, .string (⟨#[]⟩ : ByteArray), .int .i64 0, .int .i64 0, .int .i64 0, .int .i64 0, .int .i64 0, .string (⟨#[]⟩ : ByteArray), .string (⟨#[]⟩ : ByteArray), .string (⟨#[]⟩ : ByteArray), .string (⟨#[]⟩ : ByteArray)]) (blk_put (cs := #[.int .i64 0, .int .i64 0, .int .i64 0, .string (⟨#[]⟩ : ByteArray), .int .i64 0, .int .i64 0, .int .i64 0, .int .i64 0, .int .i64 0, .string (⟨#[]⟩ : ByteArray), .string (⟨#[]⟩ : ByteArray), .string (⟨#[]⟩ : ByteArray), .string (⟨#[]⟩ : ByteArray)]) (blk_put (cs := #[.int .i64 0, .int .i64 0, .int .i64 0, .string (⟨#[]⟩ : ByteArray), .int .i64 0, .int .i64 0, .int .i64 0, .int .i64 0, .int .i64 0, .string (⟨#[]⟩ : ByteArray), .string (⟨#[]⟩ : ByteArray), .string (⟨#[]⟩ : ByteArray), .string (⟨#[]⟩ : ByteArray)]) (blk_put (cs := #[.int .i64 0, .int .i64 0, .int .i64 0, .string (⟨#[]⟩ : ByteArray), .int .i64 0, .int .i64 0, .int .i64 0, .int .i64 0, .int .i64 0, .string (⟨#[]⟩ : ByteArray), .string (⟨#[]⟩ : ByteArray), .string (⟨#[]⟩ : ByteArray), .string (⟨#[]⟩ : ByteArray)]) (blk_put (cs := #[.int .i64 0, .int .i64 0, .int .i64 0, .string (⟨#[]⟩ : ByteArray), .int .i64 0, .int .i64 0, .int .i64 0, .int .i64 0, .int .i64 0, .string (⟨#[]⟩ : ByteArray), .string (⟨#[]⟩ : ByteArray), .string (⟨#[]⟩ : ByteArray), .string (⟨#[]⟩ : ByteArray)]) (blk_put (cs := #[.int .i64 0, .int .i64 0, .int .i64 0, .string (⟨#[]⟩ : ByteArray), .int .i64 0, .int .i64 0, .int .i64 0, .int .i64 0, .int .i64 0, .string (⟨#[]⟩ : ByteArray), .string (⟨#[]⟩ : ByteArray), .string (⟨#[]⟩ : ByteArray), .string (⟨#[]⟩ : ByteArray)]) (HZ6.out) 0 _ rfl) 1 _ rfl) 2 _ rfl) 3 _ rfl) 4 _ rfl) 5 _ rfl) 6 _ rfl) 7 _ rfl) 8 _ rfl) 9 _ rfl) 10 _ rfl) 11 _ rfl) 12 _ rfl) Tryd.underlying27 rfl (by kernel_rfl)) rfl ⟨rfl, ?_⟩
        exact (Below.setCell (Below.setCell (Below.setCell (Below.setCell (Below.setCell (Below.setCell (Below.setCell (Below.setCell (Below.setCell (Below.setCell (Below.setCell (Below.setCell (Below.setCell (Below.setCell (below_step HBr.out HB7.out) (p := ⟨gt, 0, none⟩) (Nat.le_of_lt HLT.out) (.int .i64 x)) (p := ⟨w.heap.size, 0, none⟩) (by first | exact Nat.le_refl _ | exact Nat.le_succ _) _) (p := ⟨w.heap.size, 1, none⟩) (by first | exact Nat.le_refl _ | exact Nat.le_succ _) _) (p := ⟨w.heap.size, 2, none⟩) (by first | exact Nat.le_refl _ | exact Nat.le_succ _) _) (p := ⟨w.heap.size, 3, none⟩) (by first | exact Nat.le_refl _ | exact Nat.le_succ _) _) (p := ⟨w.heap.size, 4, none⟩) (by first | exact Nat.le_refl _ | exact Nat.le_succ _) _) (p := ⟨w.heap.size, 5, none⟩) (by first | exact Nat.le_refl _ | exact Nat.le_succ _) _) (p := ⟨w.heap.size, 6, none⟩) (by first | exact Nat.le_refl _ | exact Nat.le_succ _) _) (p := ⟨w.heap.size, 7, none⟩) (by first | exact Nat.le_refl _ | exact Nat.le_succ _) _) (p := ⟨w.heap.size, 8, none⟩) (by first | exact Nat.le_refl _ | exact Nat.le_succ _) _) (p := ⟨w.heap.size, 9, none⟩) (by first | exact Nat.le_refl _ | exact Nat.le_succ _) _) (p := ⟨w.heap.size, 10, none⟩) (by first | exact Nat.le_refl _ | exact Nat.le_succ _) _) (p := ⟨w.heap.size, 11, none⟩) (by first | exact Nat.le_refl _ | exact Nat.le_succ _) _) (p := ⟨w.heap.size, 12, none⟩) (by first | exact Nat.le_refl _ | exact Nat.le_succ _) _)
    · obtain ⟨⟨x, e⟩, hq, hh⟩ := Option.bind_eq_some_iff.1 HP.out
      dsimp only at hh
      have hfn : wr.cell? ⟨v5.heap.size, 1, none⟩ = some (.func (.func 52) #[] #[.pointer (some ⟨b1, 0, none⟩)]) := blk_cell HS.out 1
      have hst : wr.cell? ⟨gL, 1, none⟩ = some (.string (rfS l 1)) := kt_cell HKr.out HCUR.out 1 (HCS.out 1 (by omega))
      have HQ := Aside0.mk hq
      clear hq
      have HBX := Aside0.mk (HKP.out _ _ HX1.out)
      by_cases c : e = 0
      · subst c
        rw [if_pos rfl] at hh
        have HH := Aside0.mk hh
        clear hh
        go_wp2_with (go_at_call 52; refine (num_lit k (rfS l 1) x 0 b1 gt 1 #[.int .i64 t.f0, .int .i64 t.f1, .int .i64 t.f2, .string t.f3.f0, .int .i64 t.f3.f1, .int .i64 t.f3.f2, .int .i64 t.f3.f3, .int .i64 t.f4, .int .i64 t.f5, .string t.f6.f0, .string t.f6.f1, .string t.f7.f0, .string t.f7.f1] t.f1 wr HQ.out HBX.out HGr.out rfl).mono ?_; rintro e6 w6 ⟨rfl, w7, hb7, rfl⟩; have HB7 := Aside0.mk hb7; clear hb7)
        go_roundg (gk - 1)
        case measure => have := HK.out; omega
        case rel => exact ⟨2, { t with f1 := x }, by go_num, ⟨by have := HK.out; omega⟩, HH, ⟨(blk_put (cs := #[.int .i64 t.f0, .int .i64 t.f1, .int .i64 t.f2, .string t.f3.f0, .int .i64 t.f3.f1, .int .i64 t.f3.f2, .int .i64 t.f3.f3, .int .i64 t.f4, .int .i64 t.f5, .string t.f6.f0, .string t.f6.f1, .string t.f7.f0, .string t.f7.f1]) (blk_below HGr.out HB7.out) 1 (.int .i64 x) rfl)⟩, ⟨(KT.setCell (KT.below HKP.out HB7.out) (blk_below HGr.out HB7.out) (by decide) (.int .i64 x))⟩, ⟨(blk_far (blk_below HS.out HB7.out) (Nat.ne_of_gt HGS.out) (.int .i64 x))⟩, ⟨(blk_far (blk_below HZr.out HB7.out) (Nat.ne_of_lt HLT.out) (.int .i64 x))⟩, ⟨(KT.setCell (KT.below HKr.out HB7.out) (blk_below HGr.out HB7.out) (by decide) (.int .i64 x))⟩, ⟨(Below.setCell (below_step HBr.out HB7.out) (p := ⟨gt, 1, none⟩) (Nat.le_of_lt HLT.out) (.int .i64 x))⟩⟩
      · rw [if_neg c] at hh
        obtain rfl := Option.some.inj hh
        have hz : (e != 0) = true := bne_iff_ne.2 c
        clear hh c
        go_wp2_with (go_at_call 52; refine (num_lit k (rfS l 1) x e b1 gt 1 #[.int .i64 t.f0, .int .i64 t.f1, .int .i64 t.f2, .string t.f3.f0, .int .i64 t.f3.f1, .int .i64 t.f3.f2, .int .i64 t.f3.f3, .int .i64 t.f4, .int .i64 t.f5, .string t.f6.f0, .string t.f6.f1, .string t.f7.f0, .string t.f7.f1] t.f1 wr HQ.out HBX.out HGr.out rfl).mono ?_; rintro e6 w6 ⟨rfl, w7, hb7, rfl⟩; have HB7 := Aside0.mk hb7; have hZ6 : (w7.setCell ⟨gt, 1, none⟩ (.int .i64 x)).heap[w.heap.size]? = some (.cells #[.int .i64 0, .int .i64 0, .int .i64 0, .string (⟨#[]⟩ : ByteArray), .int .i64 0, .int .i64 0, .int .i64 0, .int .i64 0, .int .i64 0, .string (⟨#[]⟩ : ByteArray), .string (⟨#[]⟩ : ByteArray), .string (⟨#[]⟩ : ByteArray), .string (⟨#[]⟩ : ByteArray)] 27 (0, 0)) := (blk_far (blk_below HZr.out hb7) (Nat.ne_of_lt HLT.out) (.int .i64 x)); have hfc0 : (w7.setCell ⟨gt, 1, none⟩ (.int .i64 x)).cell? ⟨w.heap.size, 0, none⟩ = some (.int .i64 0) := blk_cell hZ6 0; have hf0 : (w7.setCell ⟨gt, 1, none⟩ (.int .i64 x)).frozen? ⟨w.heap.size, 0, none⟩ = false := blk_frozen hZ6 0; have hfc1 : (w7.setCell ⟨gt, 1, none⟩ (.int .i64 x)).cell? ⟨w.heap.size, 1, none⟩ = some (.int .i64 0) := blk_cell hZ6 1; have hf1 : (w7.setCell ⟨gt, 1, none⟩ (.int .i64 x)).frozen? ⟨w.heap.size, 1, none⟩ = false := blk_frozen hZ6 1; have hfc2 : (w7.setCell ⟨gt, 1, none⟩ (.int .i64 x)).cell? ⟨w.heap.size, 2, none⟩ = some (.int .i64 0) := blk_cell hZ6 2; have hf2 : (w7.setCell ⟨gt, 1, none⟩ (.int .i64 x)).frozen? ⟨w.heap.size, 2, none⟩ = false := blk_frozen hZ6 2; have hfc3 : (w7.setCell ⟨gt, 1, none⟩ (.int .i64 x)).cell? ⟨w.heap.size, 3, none⟩ = some (.string (⟨#[]⟩ : ByteArray)) := blk_cell hZ6 3; have hf3 : (w7.setCell ⟨gt, 1, none⟩ (.int .i64 x)).frozen? ⟨w.heap.size, 3, none⟩ = false := blk_frozen hZ6 3; have hfc4 : (w7.setCell ⟨gt, 1, none⟩ (.int .i64 x)).cell? ⟨w.heap.size, 4, none⟩ = some (.int .i64 0) := blk_cell hZ6 4; have hf4 : (w7.setCell ⟨gt, 1, none⟩ (.int .i64 x)).frozen? ⟨w.heap.size, 4, none⟩ = false := blk_frozen hZ6 4; have hfc5 : (w7.setCell ⟨gt, 1, none⟩ (.int .i64 x)).cell? ⟨w.heap.size, 5, none⟩ = some (.int .i64 0) := blk_cell hZ6 5; have hf5 : (w7.setCell ⟨gt, 1, none⟩ (.int .i64 x)).frozen? ⟨w.heap.size, 5, none⟩ = false := blk_frozen hZ6 5; have hfc6 : (w7.setCell ⟨gt, 1, none⟩ (.int .i64 x)).cell? ⟨w.heap.size, 6, none⟩ = some (.int .i64 0) := blk_cell hZ6 6; have hf6 : (w7.setCell ⟨gt, 1, none⟩ (.int .i64 x)).frozen? ⟨w.heap.size, 6, none⟩ = false := blk_frozen hZ6 6; have hfc7 : (w7.setCell ⟨gt, 1, none⟩ (.int .i64 x)).cell? ⟨w.heap.size, 7, none⟩ = some (.int .i64 0) := blk_cell hZ6 7; have hf7 : (w7.setCell ⟨gt, 1, none⟩ (.int .i64 x)).frozen? ⟨w.heap.size, 7, none⟩ = false := blk_frozen hZ6 7; have hfc8 : (w7.setCell ⟨gt, 1, none⟩ (.int .i64 x)).cell? ⟨w.heap.size, 8, none⟩ = some (.int .i64 0) := blk_cell hZ6 8; have hf8 : (w7.setCell ⟨gt, 1, none⟩ (.int .i64 x)).frozen? ⟨w.heap.size, 8, none⟩ = false := blk_frozen hZ6 8; have hfc9 : (w7.setCell ⟨gt, 1, none⟩ (.int .i64 x)).cell? ⟨w.heap.size, 9, none⟩ = some (.string (⟨#[]⟩ : ByteArray)) := blk_cell hZ6 9; have hf9 : (w7.setCell ⟨gt, 1, none⟩ (.int .i64 x)).frozen? ⟨w.heap.size, 9, none⟩ = false := blk_frozen hZ6 9; have hfc10 : (w7.setCell ⟨gt, 1, none⟩ (.int .i64 x)).cell? ⟨w.heap.size, 10, none⟩ = some (.string (⟨#[]⟩ : ByteArray)) := blk_cell hZ6 10; have hf10 : (w7.setCell ⟨gt, 1, none⟩ (.int .i64 x)).frozen? ⟨w.heap.size, 10, none⟩ = false := blk_frozen hZ6 10; have hfc11 : (w7.setCell ⟨gt, 1, none⟩ (.int .i64 x)).cell? ⟨w.heap.size, 11, none⟩ = some (.string (⟨#[]⟩ : ByteArray)) := blk_cell hZ6 11; have hf11 : (w7.setCell ⟨gt, 1, none⟩ (.int .i64 x)).frozen? ⟨w.heap.size, 11, none⟩ = false := blk_frozen hZ6 11; have hfc12 : (w7.setCell ⟨gt, 1, none⟩ (.int .i64 x)).cell? ⟨w.heap.size, 12, none⟩ = some (.string (⟨#[]⟩ : ByteArray)) := blk_cell hZ6 12; have hf12 : (w7.setCell ⟨gt, 1, none⟩ (.int .i64 x)).frozen? ⟨w.heap.size, 12, none⟩ = false := blk_frozen hZ6 12; have HZ6 := Aside0.mk hZ6; clear hZ6; clear hb7)
        refine bodyPost_ret (results_ct rfl _ _ w.heap.size 27 #[.int .i64 0, .int .i64 0, .int .i64 0, .string (⟨#[]⟩ : ByteArray), .int .i64 0, .int .i64 0, .int .i64 0, .int .i64 0, .int .i64 0, .string (⟨#[]⟩ : ByteArray), .string (⟨#[]⟩ : ByteArray), .string (⟨#[]⟩ : ByteArray), .string (⟨#[]⟩ : ByteArray)] (0, 0) _ rfl (blk_put (cs := #[.int .i64 0, .int .i64 0, .int .i64 0, .string (⟨#[]⟩ : ByteArray), .int .i64 0, .int .i64 0, .int .i64 0, .int .i64 0, .int .i64 0, .string (⟨#[]⟩ : ByteArray), .string (⟨#[]⟩ : ByteArray), .string (⟨#[]⟩ : ByteArray), .string (⟨#[]⟩ : ByteArray)]) (blk_put (cs := #[.int .i64 0, .int .i64 0, .int .i64 0, .string (⟨#[]⟩ : ByteArray), .int .i64 0, .int .i64 0, .int .i64 0, .int .i64 0, .int .i64 0, .string (⟨#[]⟩ : ByteArray), .string (⟨#[]⟩ : ByteArray), .string (⟨#[]⟩ : ByteArray), .string (⟨#[]⟩ : ByteArray)]) (blk_put (cs := #[.int .i64 0, .int .i64 0, .int .i64 0, .string (⟨#[]⟩ : ByteArray), .int .i64 0, .int .i64 0, .int .i64 0, .int .i64 0, .int .i64 0, .string (⟨#[]⟩ : ByteArray), .string (⟨#[]⟩ : ByteArray), .string (⟨#[]⟩ : ByteArray), .string (⟨#[]⟩ : ByteArray)]) (blk_put (cs := #[.int .i64 0, .int .i64 0, .int .i64 0, .string (⟨#[]⟩ : ByteArray), .int .i64 0, .int .i64 0, .int .i64 0, .int .i64 0, .int .i64 0, .string (⟨#[]⟩ : ByteArray), .string (⟨#[]⟩ : ByteArray), .string (⟨#[]⟩ : ByteArray), .string (⟨#[]⟩ : ByteArray)]) (blk_put (cs := #[.int .i64 0, .int .i64 0, .int .i64 0, .string (⟨#[]⟩ : ByteArray), .int .i64 0, .int .i64 0, .int .i64 0, .int .i64 0, .int .i64 0, .string (⟨#[]⟩ : ByteArray), .string (⟨#[]⟩ : ByteArray), .string (⟨#[]⟩ : ByteArray), .string (⟨#[]⟩ : ByteArray)]) (blk_put (cs := #[.int .i64 0, .int .i64 0, .int .i64 0, .string (⟨#[]⟩ : ByteArray), .int .i64 0, .int .i64 0, .int .i64 0, .int .i64 0, .int .i64 0, .string (⟨#[]⟩ : ByteArray), .string (⟨#[]⟩ : ByteArray), .string (⟨#[]⟩ : ByteArray), .string (⟨#[]⟩ : ByteArray)]) (blk_put (cs := #[.int .i64 0, .int .i64 0, .int .i64 0, .string (⟨#[]⟩ : ByteArray), .int .i64 0, .int .i64 0, .int .i64 0, .int .i64 0, .int .i64 0, .string (⟨#[]⟩ : ByteArray), .string (⟨#[]⟩ : ByteArray), .string (⟨#[]⟩ : ByteArray), .string (⟨#[]⟩ : ByteArray)]) (blk_put (cs := #[.int .i64 0, .int .i64 0, .int .i64 0, .string (⟨#[]⟩ : ByteArray), .int .i64 0, .int .i64 0, .int .i64 0, .int .i64 0, .int .i64 0, .string (⟨#[]⟩ : ByteArray), .string (⟨#[]⟩ : ByteArray), .string (⟨#[]⟩ : ByteArray), .string (⟨#[]⟩ : ByteArray)]) (blk_put (cs := #[.int .i64 0, .int .i64 0, .int .i64 0, .string (⟨#[]⟩ : ByteArray), .int .i64 0, .int .i64 0, .int .i64 0, .int .i64 0, .int .i64 0, .string (⟨#[]⟩ : ByteArray), .string (⟨#[]⟩ : ByteArray), .string (⟨#[]⟩ : ByteArray), .string (⟨#[]⟩ : ByteArray)]) (blk_put (cs := #[.int .i64 0, .int .i64 0, .int .i64 0, .string (⟨#[]⟩ : ByteArray), .int .i64 0, .int .i64 0, .int .i64 0, .int .i64 0, .int .i64 0, .string (⟨#[]⟩ : ByteArray), .string (⟨#[]⟩ : ByteArray), .string (⟨#[]⟩ : ByteArray), .string (⟨#[]⟩ : ByteArray)]) (blk_put (cs := #[.int .i64 0, .int .i64 0, .int .i64 0, .string (⟨#[]⟩ : ByteArray), .int .i64 0, .int .i64 0, .int .i64 0, .int .i64 0, .int .i64 0, .string (⟨#[]⟩ : ByteArray), .string (⟨#[]⟩ : ByteArray), .string (⟨#[]⟩ : ByteArray), .string (⟨#[]⟩ : ByteArray)]) (blk_put (cs := #[.int .i64 0, .int .i64 0, .int .i64 0, .string (⟨#[]⟩ : ByteArray), .int .i64 0, .int .i64 0, .int .i64 0, .int .i64 0, .int .i64 0, .string (⟨#[]⟩ : ByteArray), .string (⟨#[]⟩ : ByteArray), .string (⟨#[]⟩ : ByteArray), .string (⟨#[]⟩ : ByteArray)]) (blk_put (cs := #[.int .i64 0, .int .i64 0, .int .i64 0, .string (⟨#[]⟩ : ByteArray), .int .i64 0, .int .i64 0, .int .i64 0, .int .i64 0, .int .i64 0, .string (⟨#[]⟩ : ByteArray), .string (⟨#[]⟩ : ByteArray), .string (⟨#[]⟩ : ByteArray), .string (⟨#[]⟩ : ByteArray)]) (HZ6.out) 0 _ rfl) 1 _ rfl) 2 _ rfl) 3 _ rfl) 4 _ rfl) 5 _ rfl) 6 _ rfl) 7 _ rfl) 8 _ rfl) 9 _ rfl) 10 _ rfl) 11 _ rfl) 12 _ rfl) Tryd.underlying27 rfl (by kernel_rfl)) rfl ⟨rfl, ?_⟩
        exact (Below.setCell (Below.setCell (Below.setCell (Below.setCell (Below.setCell (Below.setCell (Below.setCell (Below.setCell (Below.setCell (Below.setCell (Below.setCell (Below.setCell (Below.setCell (Below.setCell (below_step HBr.out HB7.out) (p := ⟨gt, 1, none⟩) (Nat.le_of_lt HLT.out) (.int .i64 x)) (p := ⟨w.heap.size, 0, none⟩) (by first | exact Nat.le_refl _ | exact Nat.le_succ _) _) (p := ⟨w.heap.size, 1, none⟩) (by first | exact Nat.le_refl _ | exact Nat.le_succ _) _) (p := ⟨w.heap.size, 2, none⟩) (by first | exact Nat.le_refl _ | exact Nat.le_succ _) _) (p := ⟨w.heap.size, 3, none⟩) (by first | exact Nat.le_refl _ | exact Nat.le_succ _) _) (p := ⟨w.heap.size, 4, none⟩) (by first | exact Nat.le_refl _ | exact Nat.le_succ _) _) (p := ⟨w.heap.size, 5, none⟩) (by first | exact Nat.le_refl _ | exact Nat.le_succ _) _) (p := ⟨w.heap.size, 6, none⟩) (by first | exact Nat.le_refl _ | exact Nat.le_succ _) _) (p := ⟨w.heap.size, 7, none⟩) (by first | exact Nat.le_refl _ | exact Nat.le_succ _) _) (p := ⟨w.heap.size, 8, none⟩) (by first | exact Nat.le_refl _ | exact Nat.le_succ _) _) (p := ⟨w.heap.size, 9, none⟩) (by first | exact Nat.le_refl _ | exact Nat.le_succ _) _) (p := ⟨w.heap.size, 10, none⟩) (by first | exact Nat.le_refl _ | exact Nat.le_succ _) _) (p := ⟨w.heap.size, 11, none⟩) (by first | exact Nat.le_refl _ | exact Nat.le_succ _) _) (p := ⟨w.heap.size, 12, none⟩) (by first | exact Nat.le_refl _ | exact Nat.le_succ _) _)
    · obtain ⟨⟨x, e⟩, hq, hh⟩ := Option.bind_eq_some_iff.1 HP.out
      dsimp only at hh
      have hfn : wr.cell? ⟨v5.heap.size, 2, none⟩ = some (.func (.func 52) #[] #[.pointer (some ⟨b2, 0, none⟩)]) := blk_cell HS.out 2
      have hst : wr.cell? ⟨gL, 2, none⟩ = some (.string (rfS l 2)) := kt_cell HKr.out HCUR.out 2 (HCS.out 2 (by omega))
      have HQ := Aside0.mk hq
      clear hq
      have HBX := Aside0.mk (HKP.out _ _ HX2.out)
      by_cases c : e = 0
      · subst c
        rw [if_pos rfl] at hh
        have HH := Aside0.mk hh
        clear hh
        go_wp2_with (go_at_call 52; refine (num_lit k (rfS l 2) x 0 b2 gt 2 #[.int .i64 t.f0, .int .i64 t.f1, .int .i64 t.f2, .string t.f3.f0, .int .i64 t.f3.f1, .int .i64 t.f3.f2, .int .i64 t.f3.f3, .int .i64 t.f4, .int .i64 t.f5, .string t.f6.f0, .string t.f6.f1, .string t.f7.f0, .string t.f7.f1] t.f2 wr HQ.out HBX.out HGr.out rfl).mono ?_; rintro e6 w6 ⟨rfl, w7, hb7, rfl⟩; have HB7 := Aside0.mk hb7; clear hb7)
        go_roundg (gk - 1)
        case measure => have := HK.out; omega
        case rel => exact ⟨3, { t with f2 := x }, by go_num, ⟨by have := HK.out; omega⟩, HH, ⟨(blk_put (cs := #[.int .i64 t.f0, .int .i64 t.f1, .int .i64 t.f2, .string t.f3.f0, .int .i64 t.f3.f1, .int .i64 t.f3.f2, .int .i64 t.f3.f3, .int .i64 t.f4, .int .i64 t.f5, .string t.f6.f0, .string t.f6.f1, .string t.f7.f0, .string t.f7.f1]) (blk_below HGr.out HB7.out) 2 (.int .i64 x) rfl)⟩, ⟨(KT.setCell (KT.below HKP.out HB7.out) (blk_below HGr.out HB7.out) (by decide) (.int .i64 x))⟩, ⟨(blk_far (blk_below HS.out HB7.out) (Nat.ne_of_gt HGS.out) (.int .i64 x))⟩, ⟨(blk_far (blk_below HZr.out HB7.out) (Nat.ne_of_lt HLT.out) (.int .i64 x))⟩, ⟨(KT.setCell (KT.below HKr.out HB7.out) (blk_below HGr.out HB7.out) (by decide) (.int .i64 x))⟩, ⟨(Below.setCell (below_step HBr.out HB7.out) (p := ⟨gt, 2, none⟩) (Nat.le_of_lt HLT.out) (.int .i64 x))⟩⟩
      · rw [if_neg c] at hh
        obtain rfl := Option.some.inj hh
        have hz : (e != 0) = true := bne_iff_ne.2 c
        clear hh c
        go_wp2_with (go_at_call 52; refine (num_lit k (rfS l 2) x e b2 gt 2 #[.int .i64 t.f0, .int .i64 t.f1, .int .i64 t.f2, .string t.f3.f0, .int .i64 t.f3.f1, .int .i64 t.f3.f2, .int .i64 t.f3.f3, .int .i64 t.f4, .int .i64 t.f5, .string t.f6.f0, .string t.f6.f1, .string t.f7.f0, .string t.f7.f1] t.f2 wr HQ.out HBX.out HGr.out rfl).mono ?_; rintro e6 w6 ⟨rfl, w7, hb7, rfl⟩; have HB7 := Aside0.mk hb7; have hZ6 : (w7.setCell ⟨gt, 2, none⟩ (.int .i64 x)).heap[w.heap.size]? = some (.cells #[.int .i64 0, .int .i64 0, .int .i64 0, .string (⟨#[]⟩ : ByteArray), .int .i64 0, .int .i64 0, .int .i64 0, .int .i64 0, .int .i64 0, .string (⟨#[]⟩ : ByteArray), .string (⟨#[]⟩ : ByteArray), .string (⟨#[]⟩ : ByteArray), .string (⟨#[]⟩ : ByteArray)] 27 (0, 0)) := (blk_far (blk_below HZr.out hb7) (Nat.ne_of_lt HLT.out) (.int .i64 x)); have hfc0 : (w7.setCell ⟨gt, 2, none⟩ (.int .i64 x)).cell? ⟨w.heap.size, 0, none⟩ = some (.int .i64 0) := blk_cell hZ6 0; have hf0 : (w7.setCell ⟨gt, 2, none⟩ (.int .i64 x)).frozen? ⟨w.heap.size, 0, none⟩ = false := blk_frozen hZ6 0; have hfc1 : (w7.setCell ⟨gt, 2, none⟩ (.int .i64 x)).cell? ⟨w.heap.size, 1, none⟩ = some (.int .i64 0) := blk_cell hZ6 1; have hf1 : (w7.setCell ⟨gt, 2, none⟩ (.int .i64 x)).frozen? ⟨w.heap.size, 1, none⟩ = false := blk_frozen hZ6 1; have hfc2 : (w7.setCell ⟨gt, 2, none⟩ (.int .i64 x)).cell? ⟨w.heap.size, 2, none⟩ = some (.int .i64 0) := blk_cell hZ6 2; have hf2 : (w7.setCell ⟨gt, 2, none⟩ (.int .i64 x)).frozen? ⟨w.heap.size, 2, none⟩ = false := blk_frozen hZ6 2; have hfc3 : (w7.setCell ⟨gt, 2, none⟩ (.int .i64 x)).cell? ⟨w.heap.size, 3, none⟩ = some (.string (⟨#[]⟩ : ByteArray)) := blk_cell hZ6 3; have hf3 : (w7.setCell ⟨gt, 2, none⟩ (.int .i64 x)).frozen? ⟨w.heap.size, 3, none⟩ = false := blk_frozen hZ6 3; have hfc4 : (w7.setCell ⟨gt, 2, none⟩ (.int .i64 x)).cell? ⟨w.heap.size, 4, none⟩ = some (.int .i64 0) := blk_cell hZ6 4; have hf4 : (w7.setCell ⟨gt, 2, none⟩ (.int .i64 x)).frozen? ⟨w.heap.size, 4, none⟩ = false := blk_frozen hZ6 4; have hfc5 : (w7.setCell ⟨gt, 2, none⟩ (.int .i64 x)).cell? ⟨w.heap.size, 5, none⟩ = some (.int .i64 0) := blk_cell hZ6 5; have hf5 : (w7.setCell ⟨gt, 2, none⟩ (.int .i64 x)).frozen? ⟨w.heap.size, 5, none⟩ = false := blk_frozen hZ6 5; have hfc6 : (w7.setCell ⟨gt, 2, none⟩ (.int .i64 x)).cell? ⟨w.heap.size, 6, none⟩ = some (.int .i64 0) := blk_cell hZ6 6; have hf6 : (w7.setCell ⟨gt, 2, none⟩ (.int .i64 x)).frozen? ⟨w.heap.size, 6, none⟩ = false := blk_frozen hZ6 6; have hfc7 : (w7.setCell ⟨gt, 2, none⟩ (.int .i64 x)).cell? ⟨w.heap.size, 7, none⟩ = some (.int .i64 0) := blk_cell hZ6 7; have hf7 : (w7.setCell ⟨gt, 2, none⟩ (.int .i64 x)).frozen? ⟨w.heap.size, 7, none⟩ = false := blk_frozen hZ6 7; have hfc8 : (w7.setCell ⟨gt, 2, none⟩ (.int .i64 x)).cell? ⟨w.heap.size, 8, none⟩ = some (.int .i64 0) := blk_cell hZ6 8; have hf8 : (w7.setCell ⟨gt, 2, none⟩ (.int .i64 x)).frozen? ⟨w.heap.size, 8, none⟩ = false := blk_frozen hZ6 8; have hfc9 : (w7.setCell ⟨gt, 2, none⟩ (.int .i64 x)).cell? ⟨w.heap.size, 9, none⟩ = some (.string (⟨#[]⟩ : ByteArray)) := blk_cell hZ6 9; have hf9 : (w7.setCell ⟨gt, 2, none⟩ (.int .i64 x)).frozen? ⟨w.heap.size, 9, none⟩ = false := blk_frozen hZ6 9; have hfc10 : (w7.setCell ⟨gt, 2, none⟩ (.int .i64 x)).cell? ⟨w.heap.size, 10, none⟩ = some (.string (⟨#[]⟩ : ByteArray)) := blk_cell hZ6 10; have hf10 : (w7.setCell ⟨gt, 2, none⟩ (.int .i64 x)).frozen? ⟨w.heap.size, 10, none⟩ = false := blk_frozen hZ6 10; have hfc11 : (w7.setCell ⟨gt, 2, none⟩ (.int .i64 x)).cell? ⟨w.heap.size, 11, none⟩ = some (.string (⟨#[]⟩ : ByteArray)) := blk_cell hZ6 11; have hf11 : (w7.setCell ⟨gt, 2, none⟩ (.int .i64 x)).frozen? ⟨w.heap.size, 11, none⟩ = false := blk_frozen hZ6 11; have hfc12 : (w7.setCell ⟨gt, 2, none⟩ (.int .i64 x)).cell? ⟨w.heap.size, 12, none⟩ = some (.string (⟨#[]⟩ : ByteArray)) := blk_cell hZ6 12; have hf12 : (w7.setCell ⟨gt, 2, none⟩ (.int .i64 x)).frozen? ⟨w.heap.size, 12, none⟩ = false := blk_frozen hZ6 12; have HZ6 := Aside0.mk hZ6; clear hZ6; clear hb7)
        refine bodyPost_ret (results_ct rfl _ _ w.heap.size 27 #[.int .i64 0, .int .i64 0, .int .i64 0, .string (⟨#[]⟩ : ByteArray), .int .i64 0, .int .i64 0, .int .i64 0, .int .i64 0, .int .i64 0, .string (⟨#[]⟩ : ByteArray), .string (⟨#[]⟩ : ByteArray), .string (⟨#[]⟩ : ByteArray), .string (⟨#[]⟩ : ByteArray)] (0, 0) _ rfl (blk_put (cs := #[.int .i64 0, .int .i64 0, .int .i64 0, .string (⟨#[]⟩ : ByteArray), .int .i64 0, .int .i64 0, .int .i64 0, .int .i64 0, .int .i64 0, .string (⟨#[]⟩ : ByteArray), .string (⟨#[]⟩ : ByteArray), .string (⟨#[]⟩ : ByteArray), .string (⟨#[]⟩ : ByteArray)]) (blk_put (cs := #[.int .i64 0, .int .i64 0, .int .i64 0, .string (⟨#[]⟩ : ByteArray), .int .i64 0, .int .i64 0, .int .i64 0, .int .i64 0, .int .i64 0, .string (⟨#[]⟩ : ByteArray), .string (⟨#[]⟩ : ByteArray), .string (⟨#[]⟩ : ByteArray), .string (⟨#[]⟩ : ByteArray)]) (blk_put (cs := #[.int .i64 0, .int .i64 0, .int .i64 0, .string (⟨#[]⟩ : ByteArray), .int .i64 0, .int .i64 0, .int .i64 0, .int .i64 0, .int .i64 0, .string (⟨#[]⟩ : ByteArray), .string (⟨#[]⟩ : ByteArray), .string (⟨#[]⟩ : ByteArray), .string (⟨#[]⟩ : ByteArray)]) (blk_put (cs := #[.int .i64 0, .int .i64 0, .int .i64 0, .string (⟨#[]⟩ : ByteArray), .int .i64 0, .int .i64 0, .int .i64 0, .int .i64 0, .int .i64 0, .string (⟨#[]⟩ : ByteArray), .string (⟨#[]⟩ : ByteArray), .string (⟨#[]⟩ : ByteArray), .string (⟨#[]⟩ : ByteArray)]) (blk_put (cs := #[.int .i64 0, .int .i64 0, .int .i64 0, .string (⟨#[]⟩ : ByteArray), .int .i64 0, .int .i64 0, .int .i64 0, .int .i64 0, .int .i64 0, .string (⟨#[]⟩ : ByteArray), .string (⟨#[]⟩ : ByteArray), .string (⟨#[]⟩ : ByteArray), .string (⟨#[]⟩ : ByteArray)]) (blk_put (cs := #[.int .i64 0, .int .i64 0, .int .i64 0, .string (⟨#[]⟩ : ByteArray), .int .i64 0, .int .i64 0, .int .i64 0, .int .i64 0, .int .i64 0, .string (⟨#[]⟩ : ByteArray), .string (⟨#[]⟩ : ByteArray), .string (⟨#[]⟩ : ByteArray), .string (⟨#[]⟩ : ByteArray)]) (blk_put (cs := #[.int .i64 0, .int .i64 0, .int .i64 0, .string (⟨#[]⟩ : ByteArray), .int .i64 0, .int .i64 0, .int .i64 0, .int .i64 0, .int .i64 0, .string (⟨#[]⟩ : ByteArray), .string (⟨#[]⟩ : ByteArray), .string (⟨#[]⟩ : ByteArray), .string (⟨#[]⟩ : ByteArray)]) (blk_put (cs := #[.int .i64 0, .int .i64 0, .int .i64 0, .string (⟨#[]⟩ : ByteArray), .int .i64 0, .int .i64 0, .int .i64 0, .int .i64 0, .int .i64 0, .string (⟨#[]⟩ : ByteArray), .string (⟨#[]⟩ : ByteArray), .string (⟨#[]⟩ : ByteArray), .string (⟨#[]⟩ : ByteArray)]) (blk_put (cs := #[.int .i64 0, .int .i64 0, .int .i64 0, .string (⟨#[]⟩ : ByteArray), .int .i64 0, .int .i64 0, .int .i64 0, .int .i64 0, .int .i64 0, .string (⟨#[]⟩ : ByteArray), .string (⟨#[]⟩ : ByteArray), .string (⟨#[]⟩ : ByteArray), .string (⟨#[]⟩ : ByteArray)]) (blk_put (cs := #[.int .i64 0, .int .i64 0, .int .i64 0, .string (⟨#[]⟩ : ByteArray), .int .i64 0, .int .i64 0, .int .i64 0, .int .i64 0, .int .i64 0, .string (⟨#[]⟩ : ByteArray), .string (⟨#[]⟩ : ByteArray), .string (⟨#[]⟩ : ByteArray), .string (⟨#[]⟩ : ByteArray)]) (blk_put (cs := #[.int .i64 0, .int .i64 0, .int .i64 0, .string (⟨#[]⟩ : ByteArray), .int .i64 0, .int .i64 0, .int .i64 0, .int .i64 0, .int .i64 0, .string (⟨#[]⟩ : ByteArray), .string (⟨#[]⟩ : ByteArray), .string (⟨#[]⟩ : ByteArray), .string (⟨#[]⟩ : ByteArray)]) (blk_put (cs := #[.int .i64 0, .int .i64 0, .int .i64 0, .string (⟨#[]⟩ : ByteArray), .int .i64 0, .int .i64 0, .int .i64 0, .int .i64 0, .int .i64 0, .string (⟨#[]⟩ : ByteArray), .string (⟨#[]⟩ : ByteArray), .string (⟨#[]⟩ : ByteArray), .string (⟨#[]⟩ : ByteArray)]) (blk_put (cs := #[.int .i64 0, .int .i64 0, .int .i64 0, .string (⟨#[]⟩ : ByteArray), .int .i64 0, .int .i64 0, .int .i64 0, .int .i64 0, .int .i64 0, .string (⟨#[]⟩ : ByteArray), .string (⟨#[]⟩ : ByteArray), .string (⟨#[]⟩ : ByteArray), .string (⟨#[]⟩ : ByteArray)]) (HZ6.out) 0 _ rfl) 1 _ rfl) 2 _ rfl) 3 _ rfl) 4 _ rfl) 5 _ rfl) 6 _ rfl) 7 _ rfl) 8 _ rfl) 9 _ rfl) 10 _ rfl) 11 _ rfl) 12 _ rfl) Tryd.underlying27 rfl (by kernel_rfl)) rfl ⟨rfl, ?_⟩
        exact (Below.setCell (Below.setCell (Below.setCell (Below.setCell (Below.setCell (Below.setCell (Below.setCell (Below.setCell (Below.setCell (Below.setCell (Below.setCell (Below.setCell (Below.setCell (Below.setCell (below_step HBr.out HB7.out) (p := ⟨gt, 2, none⟩) (Nat.le_of_lt HLT.out) (.int .i64 x)) (p := ⟨w.heap.size, 0, none⟩) (by first | exact Nat.le_refl _ | exact Nat.le_succ _) _) (p := ⟨w.heap.size, 1, none⟩) (by first | exact Nat.le_refl _ | exact Nat.le_succ _) _) (p := ⟨w.heap.size, 2, none⟩) (by first | exact Nat.le_refl _ | exact Nat.le_succ _) _) (p := ⟨w.heap.size, 3, none⟩) (by first | exact Nat.le_refl _ | exact Nat.le_succ _) _) (p := ⟨w.heap.size, 4, none⟩) (by first | exact Nat.le_refl _ | exact Nat.le_succ _) _) (p := ⟨w.heap.size, 5, none⟩) (by first | exact Nat.le_refl _ | exact Nat.le_succ _) _) (p := ⟨w.heap.size, 6, none⟩) (by first | exact Nat.le_refl _ | exact Nat.le_succ _) _) (p := ⟨w.heap.size, 7, none⟩) (by first | exact Nat.le_refl _ | exact Nat.le_succ _) _) (p := ⟨w.heap.size, 8, none⟩) (by first | exact Nat.le_refl _ | exact Nat.le_succ _) _) (p := ⟨w.heap.size, 9, none⟩) (by first | exact Nat.le_refl _ | exact Nat.le_succ _) _) (p := ⟨w.heap.size, 10, none⟩) (by first | exact Nat.le_refl _ | exact Nat.le_succ _) _) (p := ⟨w.heap.size, 11, none⟩) (by first | exact Nat.le_refl _ | exact Nat.le_succ _) _) (p := ⟨w.heap.size, 12, none⟩) (by first | exact Nat.le_refl _ | exact Nat.le_succ _) _)
    · obtain ⟨⟨x1, x2, x3, x4, e⟩, hq, hh⟩ := Option.bind_eq_some_iff.1 HP.out
      dsimp only at hh
      have hfn : wr.cell? ⟨v5.heap.size, 3, none⟩ = some (.func (.func 27) #[] #[.pointer (some ⟨gt, 0, none⟩)]) := blk_cell HS.out 3
      have hst : wr.cell? ⟨gL, 3, none⟩ = some (.string (rfS l 3)) := kt_cell HKr.out HCUR.out 3 (HCS.out 3 (by omega))
      have HQ := Aside0.mk hq
      clear hq
      by_cases c : e = 0
      · subst c
        rw [if_pos rfl] at hh
        have HH := Aside0.mk hh
        clear hh
        go_wp2_with (go_at_call 27; refine (ser_lit k (rfS l 3) x1 x2 x3 x4 0 gt t wr HQ.out HGr.out (glob_of HGL.out HBr.out)).mono ?_; rintro e6 w6 ⟨rfl, w7, hb7, rfl⟩; have HB7 := Aside0.mk hb7; clear hb7)
        go_roundg (gk - 1)
        case measure => have := HK.out; omega
        case rel => exact ⟨4, { t with f3 := ⟨x1, x2, x3, x4⟩ }, by go_num, ⟨by have := HK.out; omega⟩, HH, ⟨(blk_put (cs := #[.int .i64 t.f0, .int .i64 t.f1, .int .i64 t.f2, .string x1, .int .i64 x2, .int .i64 x3, .int .i64 t.f3.f3, .int .i64 t.f4, .int .i64 t.f5, .string t.f6.f0, .string t.f6.f1, .string t.f7.f0, .string t.f7.f1]) (blk_put (cs := #[.int .i64 t.f0, .int .i64 t.f1, .int .i64 t.f2, .string x1, .int .i64 x2, .int .i64 t.f3.f2, .int .i64 t.f3.f3, .int .i64 t.f4, .int .i64 t.f5, .string t.f6.f0, .string t.f6.f1, .string t.f7.f0, .string t.f7.f1]) (blk_put (cs := #[.int .i64 t.f0, .int .i64 t.f1, .int .i64 t.f2, .string x1, .int .i64 t.f3.f1, .int .i64 t.f3.f2, .int .i64 t.f3.f3, .int .i64 t.f4, .int .i64 t.f5, .string t.f6.f0, .string t.f6.f1, .string t.f7.f0, .string t.f7.f1]) (blk_put (cs := #[.int .i64 t.f0, .int .i64 t.f1, .int .i64 t.f2, .string t.f3.f0, .int .i64 t.f3.f1, .int .i64 t.f3.f2, .int .i64 t.f3.f3, .int .i64 t.f4, .int .i64 t.f5, .string t.f6.f0, .string t.f6.f1, .string t.f7.f0, .string t.f7.f1]) (blk_below HGr.out HB7.out) 3 (.string x1) rfl) 4 (.int .i64 x2) rfl) 5 (.int .i64 x3) rfl) 6 (.int .i64 x4) rfl)⟩, ⟨(KT.setCell (KT.setCell (KT.setCell (KT.setCell (KT.below HKP.out HB7.out) (blk_below HGr.out HB7.out) (by decide) (.string x1)) (blk_put (cs := #[.int .i64 t.f0, .int .i64 t.f1, .int .i64 t.f2, .string t.f3.f0, .int .i64 t.f3.f1, .int .i64 t.f3.f2, .int .i64 t.f3.f3, .int .i64 t.f4, .int .i64 t.f5, .string t.f6.f0, .string t.f6.f1, .string t.f7.f0, .string t.f7.f1]) (blk_below HGr.out HB7.out) 3 (.string x1) rfl) (by decide) (.int .i64 x2)) (blk_put (cs := #[.int .i64 t.f0, .int .i64 t.f1, .int .i64 t.f2, .string x1, .int .i64 t.f3.f1, .int .i64 t.f3.f2, .int .i64 t.f3.f3, .int .i64 t.f4, .int .i64 t.f5, .string t.f6.f0, .string t.f6.f1, .string t.f7.f0, .string t.f7.f1]) (blk_put (cs := #[.int .i64 t.f0, .int .i64 t.f1, .int .i64 t.f2, .string t.f3.f0, .int .i64 t.f3.f1, .int .i64 t.f3.f2, .int .i64 t.f3.f3, .int .i64 t.f4, .int .i64 t.f5, .string t.f6.f0, .string t.f6.f1, .string t.f7.f0, .string t.f7.f1]) (blk_below HGr.out HB7.out) 3 (.string x1) rfl) 4 (.int .i64 x2) rfl) (by decide) (.int .i64 x3)) (blk_put (cs := #[.int .i64 t.f0, .int .i64 t.f1, .int .i64 t.f2, .string x1, .int .i64 x2, .int .i64 t.f3.f2, .int .i64 t.f3.f3, .int .i64 t.f4, .int .i64 t.f5, .string t.f6.f0, .string t.f6.f1, .string t.f7.f0, .string t.f7.f1]) (blk_put (cs := #[.int .i64 t.f0, .int .i64 t.f1, .int .i64 t.f2, .string x1, .int .i64 t.f3.f1, .int .i64 t.f3.f2, .int .i64 t.f3.f3, .int .i64 t.f4, .int .i64 t.f5, .string t.f6.f0, .string t.f6.f1, .string t.f7.f0, .string t.f7.f1]) (blk_put (cs := #[.int .i64 t.f0, .int .i64 t.f1, .int .i64 t.f2, .string t.f3.f0, .int .i64 t.f3.f1, .int .i64 t.f3.f2, .int .i64 t.f3.f3, .int .i64 t.f4, .int .i64 t.f5, .string t.f6.f0, .string t.f6.f1, .string t.f7.f0, .string t.f7.f1]) (blk_below HGr.out HB7.out) 3 (.string x1) rfl) 4 (.int .i64 x2) rfl) 5 (.int .i64 x3) rfl) (by decide) (.int .i64 x4))⟩, ⟨(blk_far (blk_far (blk_far (blk_far (blk_below HS.out HB7.out) (Nat.ne_of_gt HGS.out) (.string x1)) (Nat.ne_of_gt HGS.out) (.int .i64 x2)) (Nat.ne_of_gt HGS.out) (.int .i64 x3)) (Nat.ne_of_gt HGS.out) (.int .i64 x4))⟩, ⟨(blk_far (blk_far (blk_far (blk_far (blk_below HZr.out HB7.out) (Nat.ne_of_lt HLT.out) (.string x1)) (Nat.ne_of_lt HLT.out) (.int .i64 x2)) (Nat.ne_of_lt HLT.out) (.int .i64 x3)) (Nat.ne_of_lt HLT.out) (.int .i64 x4))⟩, ⟨(KT.setCell (KT.setCell (KT.setCell (KT.setCell (KT.below HKr.out HB7.out) (blk_below HGr.out HB7.out) (by decide) (.string x1)) (blk_put (cs := #[.int .i64 t.f0, .int .i64 t.f1, .int .i64 t.f2, .string t.f3.f0, .int .i64 t.f3.f1, .int .i64 t.f3.f2, .int .i64 t.f3.f3, .int .i64 t.f4, .int .i64 t.f5, .string t.f6.f0, .string t.f6.f1, .string t.f7.f0, .string t.f7.f1]) (blk_below HGr.out HB7.out) 3 (.string x1) rfl) (by decide) (.int .i64 x2)) (blk_put (cs := #[.int .i64 t.f0, .int .i64 t.f1, .int .i64 t.f2, .string x1, .int .i64 t.f3.f1, .int .i64 t.f3.f2, .int .i64 t.f3.f3, .int .i64 t.f4, .int .i64 t.f5, .string t.f6.f0, .string t.f6.f1, .string t.f7.f0, .string t.f7.f1]) (blk_put (cs := #[.int .i64 t.f0, .int .i64 t.f1, .int .i64 t.f2, .string t.f3.f0, .int .i64 t.f3.f1, .int .i64 t.f3.f2, .int .i64 t.f3.f3, .int .i64 t.f4, .int .i64 t.f5, .string t.f6.f0, .string t.f6.f1, .string t.f7.f0, .string t.f7.f1]) (blk_below HGr.out HB7.out) 3 (.string x1) rfl) 4 (.int .i64 x2) rfl) (by decide) (.int .i64 x3)) (blk_put (cs := #[.int .i64 t.f0, .int .i64 t.f1, .int .i64 t.f2, .string x1, .int .i64 x2, .int .i64 t.f3.f2, .int .i64 t.f3.f3, .int .i64 t.f4, .int .i64 t.f5, .string t.f6.f0, .string t.f6.f1, .string t.f7.f0, .string t.f7.f1]) (blk_put (cs := #[.int .i64 t.f0, .int .i64 t.f1, .int .i64 t.f2, .string x1, .int .i64 t.f3.f1, .int .i64 t.f3.f2, .int .i64 t.f3.f3, .int .i64 t.f4, .int .i64 t.f5, .string t.f6.f0, .string t.f6.f1, .string t.f7.f0, .string t.f7.f1]) (blk_put (cs := #[.int .i64 t.f0, .int .i64 t.f1, .int .i64 t.f2, .string t.f3.f0, .int .i64 t.f3.f1, .int .i64 t.f3.f2, .int .i64 t.f3.f3, .int .i64 t.f4, .int .i64 t.f5, .string t.f6.f0, .string t.f6.f1, .string t.f7.f0, .string t.f7.f1]) (blk_below HGr.out HB7.out) 3 (.string x1) rfl) 4 (.int .i64 x2) rfl) 5 (.int .i64 x3) rfl) (by decide) (.int .i64 x4))⟩, ⟨(Below.setCell (Below.setCell (Below.setCell (Below.setCell (below_step HBr.out HB7.out) (p := ⟨gt, 3, none⟩) (Nat.le_of_lt HLT.out) (.string x1)) (p := ⟨gt, 4, none⟩) (Nat.le_of_lt HLT.out) (.int .i64 x2)) (p := ⟨gt, 5, none⟩) (Nat.le_of_lt HLT.out) (.int .i64 x3)) (p := ⟨gt, 6, none⟩) (Nat.le_of_lt HLT.out) (.int .i64 x4))⟩⟩
      · rw [if_neg c] at hh
        obtain rfl := Option.some.inj hh
        have hz : (e != 0) = true := bne_iff_ne.2 c
        clear hh c
        go_wp2_with (go_at_call 27; refine (ser_lit k (rfS l 3) x1 x2 x3 x4 e gt t wr HQ.out HGr.out (glob_of HGL.out HBr.out)).mono ?_; rintro e6 w6 ⟨rfl, w7, hb7, rfl⟩; have HB7 := Aside0.mk hb7; have hZ6 : ((((w7.setCell ⟨gt, 3, none⟩ (.string x1)).setCell ⟨gt, 4, none⟩ (.int .i64 x2)).setCell ⟨gt, 5, none⟩ (.int .i64 x3)).setCell ⟨gt, 6, none⟩ (.int .i64 x4)).heap[w.heap.size]? = some (.cells #[.int .i64 0, .int .i64 0, .int .i64 0, .string (⟨#[]⟩ : ByteArray), .int .i64 0, .int .i64 0, .int .i64 0, .int .i64 0, .int .i64 0, .string (⟨#[]⟩ : ByteArray), .string (⟨#[]⟩ : ByteArray), .string (⟨#[]⟩ : ByteArray), .string (⟨#[]⟩ : ByteArray)] 27 (0, 0)) := (blk_far (blk_far (blk_far (blk_far (blk_below HZr.out hb7) (Nat.ne_of_lt HLT.out) (.string x1)) (Nat.ne_of_lt HLT.out) (.int .i64 x2)) (Nat.ne_of_lt HLT.out) (.int .i64 x3)) (Nat.ne_of_lt HLT.out) (.int .i64 x4)); have hfc0 : ((((w7.setCell ⟨gt, 3, none⟩ (.string x1)).setCell ⟨gt, 4, none⟩ (.int .i64 x2)).setCell ⟨gt, 5, none⟩ (.int .i64 x3)).setCell ⟨gt, 6, none⟩ (.int .i64 x4)).cell? ⟨w.heap.size, 0, none⟩ = some (.int .i64 0) := blk_cell hZ6 0; have hf0 : ((((w7.setCell ⟨gt, 3, none⟩ (.string x1)).setCell ⟨gt, 4, none⟩ (.int .i64 x2)).setCell ⟨gt, 5, none⟩ (.int .i64 x3)).setCell ⟨gt, 6, none⟩ (.int .i64 x4)).frozen? ⟨w.heap.size, 0, none⟩ = false := blk_frozen hZ6 0; have hfc1 : ((((w7.setCell ⟨gt, 3, none⟩ (.string x1)).setCell ⟨gt, 4, none⟩ (.int .i64 x2)).setCell ⟨gt, 5, none⟩ (.int .i64 x3)).setCell ⟨gt, 6, none⟩ (.int .i64 x4)).cell? ⟨w.heap.size, 1, none⟩ = some (.int .i64 0) := blk_cell hZ6 1; have hf1 : ((((w7.setCell ⟨gt, 3, none⟩ (.string x1)).setCell ⟨gt, 4, none⟩ (.int .i64 x2)).setCell ⟨gt, 5, none⟩ (.int .i64 x3)).setCell ⟨gt, 6, none⟩ (.int .i64 x4)).frozen? ⟨w.heap.size, 1, none⟩ = false := blk_frozen hZ6 1; have hfc2 : ((((w7.setCell ⟨gt, 3, none⟩ (.string x1)).setCell ⟨gt, 4, none⟩ (.int .i64 x2)).setCell ⟨gt, 5, none⟩ (.int .i64 x3)).setCell ⟨gt, 6, none⟩ (.int .i64 x4)).cell? ⟨w.heap.size, 2, none⟩ = some (.int .i64 0) := blk_cell hZ6 2; have hf2 : ((((w7.setCell ⟨gt, 3, none⟩ (.string x1)).setCell ⟨gt, 4, none⟩ (.int .i64 x2)).setCell ⟨gt, 5, none⟩ (.int .i64 x3)).setCell ⟨gt, 6, none⟩ (.int .i64 x4)).frozen? ⟨w.heap.size, 2, none⟩ = false := blk_frozen hZ6 2; have hfc3 : ((((w7.setCell ⟨gt, 3, none⟩ (.string x1)).setCell ⟨gt, 4, none⟩ (.int .i64 x2)).setCell ⟨gt, 5, none⟩ (.int .i64 x3)).setCell ⟨gt, 6, none⟩ (.int .i64 x4)).cell? ⟨w.heap.size, 3, none⟩ = some (.string (⟨#[]⟩ : ByteArray)) := blk_cell hZ6 3; have hf3 : ((((w7.setCell ⟨gt, 3, none⟩ (.string x1)).setCell ⟨gt, 4, none⟩ (.int .i64 x2)).setCell ⟨gt, 5, none⟩ (.int .i64 x3)).setCell ⟨gt, 6, none⟩ (.int .i64 x4)).frozen? ⟨w.heap.size, 3, none⟩ = false := blk_frozen hZ6 3; have hfc4 : ((((w7.setCell ⟨gt, 3, none⟩ (.string x1)).setCell ⟨gt, 4, none⟩ (.int .i64 x2)).setCell ⟨gt, 5, none⟩ (.int .i64 x3)).setCell ⟨gt, 6, none⟩ (.int .i64 x4)).cell? ⟨w.heap.size, 4, none⟩ = some (.int .i64 0) := blk_cell hZ6 4; have hf4 : ((((w7.setCell ⟨gt, 3, none⟩ (.string x1)).setCell ⟨gt, 4, none⟩ (.int .i64 x2)).setCell ⟨gt, 5, none⟩ (.int .i64 x3)).setCell ⟨gt, 6, none⟩ (.int .i64 x4)).frozen? ⟨w.heap.size, 4, none⟩ = false := blk_frozen hZ6 4; have hfc5 : ((((w7.setCell ⟨gt, 3, none⟩ (.string x1)).setCell ⟨gt, 4, none⟩ (.int .i64 x2)).setCell ⟨gt, 5, none⟩ (.int .i64 x3)).setCell ⟨gt, 6, none⟩ (.int .i64 x4)).cell? ⟨w.heap.size, 5, none⟩ = some (.int .i64 0) := blk_cell hZ6 5; have hf5 : ((((w7.setCell ⟨gt, 3, none⟩ (.string x1)).setCell ⟨gt, 4, none⟩ (.int .i64 x2)).setCell ⟨gt, 5, none⟩ (.int .i64 x3)).setCell ⟨gt, 6, none⟩ (.int .i64 x4)).frozen? ⟨w.heap.size, 5, none⟩ = false := blk_frozen hZ6 5; have hfc6 : ((((w7.setCell ⟨gt, 3, none⟩ (.string x1)).setCell ⟨gt, 4, none⟩ (.int .i64 x2)).setCell ⟨gt, 5, none⟩ (.int .i64 x3)).setCell ⟨gt, 6, none⟩ (.int .i64 x4)).cell? ⟨w.heap.size, 6, none⟩ = some (.int .i64 0) := blk_cell hZ6 6; have hf6 : ((((w7.setCell ⟨gt, 3, none⟩ (.string x1)).setCell ⟨gt, 4, none⟩ (.int .i64 x2)).setCell ⟨gt, 5, none⟩ (.int .i64 x3)).setCell ⟨gt, 6, none⟩ (.int .i64 x4)).frozen? ⟨w.heap.size, 6, none⟩ = false := blk_frozen hZ6 6; have hfc7 : ((((w7.setCell ⟨gt, 3, none⟩ (.string x1)).setCell ⟨gt, 4, none⟩ (.int .i64 x2)).setCell ⟨gt, 5, none⟩ (.int .i64 x3)).setCell ⟨gt, 6, none⟩ (.int .i64 x4)).cell? ⟨w.heap.size, 7, none⟩ = some (.int .i64 0) := blk_cell hZ6 7; have hf7 : ((((w7.setCell ⟨gt, 3, none⟩ (.string x1)).setCell ⟨gt, 4, none⟩ (.int .i64 x2)).setCell ⟨gt, 5, none⟩ (.int .i64 x3)).setCell ⟨gt, 6, none⟩ (.int .i64 x4)).frozen? ⟨w.heap.size, 7, none⟩ = false := blk_frozen hZ6 7; have hfc8 : ((((w7.setCell ⟨gt, 3, none⟩ (.string x1)).setCell ⟨gt, 4, none⟩ (.int .i64 x2)).setCell ⟨gt, 5, none⟩ (.int .i64 x3)).setCell ⟨gt, 6, none⟩ (.int .i64 x4)).cell? ⟨w.heap.size, 8, none⟩ = some (.int .i64 0) := blk_cell hZ6 8; have hf8 : ((((w7.setCell ⟨gt, 3, none⟩ (.string x1)).setCell ⟨gt, 4, none⟩ (.int .i64 x2)).setCell ⟨gt, 5, none⟩ (.int .i64 x3)).setCell ⟨gt, 6, none⟩ (.int .i64 x4)).frozen? ⟨w.heap.size, 8, none⟩ = false := blk_frozen hZ6 8; have hfc9 : ((((w7.setCell ⟨gt, 3, none⟩ (.string x1)).setCell ⟨gt, 4, none⟩ (.int .i64 x2)).setCell ⟨gt, 5, none⟩ (.int .i64 x3)).setCell ⟨gt, 6, none⟩ (.int .i64 x4)).cell? ⟨w.heap.size, 9, none⟩ = some (.string (⟨#[]⟩ : ByteArray)) := blk_cell hZ6 9; have hf9 : ((((w7.setCell ⟨gt, 3, none⟩ (.string x1)).setCell ⟨gt, 4, none⟩ (.int .i64 x2)).setCell ⟨gt, 5, none⟩ (.int .i64 x3)).setCell ⟨gt, 6, none⟩ (.int .i64 x4)).frozen? ⟨w.heap.size, 9, none⟩ = false := blk_frozen hZ6 9; have hfc10 : ((((w7.setCell ⟨gt, 3, none⟩ (.string x1)).setCell ⟨gt, 4, none⟩ (.int .i64 x2)).setCell ⟨gt, 5, none⟩ (.int .i64 x3)).setCell ⟨gt, 6, none⟩ (.int .i64 x4)).cell? ⟨w.heap.size, 10, none⟩ = some (.string (⟨#[]⟩ : ByteArray)) := blk_cell hZ6 10; have hf10 : ((((w7.setCell ⟨gt, 3, none⟩ (.string x1)).setCell ⟨gt, 4, none⟩ (.int .i64 x2)).setCell ⟨gt, 5, none⟩ (.int .i64 x3)).setCell ⟨gt, 6, none⟩ (.int .i64 x4)).frozen? ⟨w.heap.size, 10, none⟩ = false := blk_frozen hZ6 10; have hfc11 : ((((w7.setCell ⟨gt, 3, none⟩ (.string x1)).setCell ⟨gt, 4, none⟩ (.int .i64 x2)).setCell ⟨gt, 5, none⟩ (.int .i64 x3)).setCell ⟨gt, 6, none⟩ (.int .i64 x4)).cell? ⟨w.heap.size, 11, none⟩ = some (.string (⟨#[]⟩ : ByteArray)) := blk_cell hZ6 11; have hf11 : ((((w7.setCell ⟨gt, 3, none⟩ (.string x1)).setCell ⟨gt, 4, none⟩ (.int .i64 x2)).setCell ⟨gt, 5, none⟩ (.int .i64 x3)).setCell ⟨gt, 6, none⟩ (.int .i64 x4)).frozen? ⟨w.heap.size, 11, none⟩ = false := blk_frozen hZ6 11; have hfc12 : ((((w7.setCell ⟨gt, 3, none⟩ (.string x1)).setCell ⟨gt, 4, none⟩ (.int .i64 x2)).setCell ⟨gt, 5, none⟩ (.int .i64 x3)).setCell ⟨gt, 6, none⟩ (.int .i64 x4)).cell? ⟨w.heap.size, 12, none⟩ = some (.string (⟨#[]⟩ : ByteArray)) := blk_cell hZ6 12; have hf12 : ((((w7.setCell ⟨gt, 3, none⟩ (.string x1)).setCell ⟨gt, 4, none⟩ (.int .i64 x2)).setCell ⟨gt, 5, none⟩ (.int .i64 x3)).setCell ⟨gt, 6, none⟩ (.int .i64 x4)).frozen? ⟨w.heap.size, 12, none⟩ = false := blk_frozen hZ6 12; have HZ6 := Aside0.mk hZ6; clear hZ6; clear hb7)
        refine bodyPost_ret (results_ct rfl _ _ w.heap.size 27 #[.int .i64 0, .int .i64 0, .int .i64 0, .string (⟨#[]⟩ : ByteArray), .int .i64 0, .int .i64 0, .int .i64 0, .int .i64 0, .int .i64 0, .string (⟨#[]⟩ : ByteArray), .string (⟨#[]⟩ : ByteArray), .string (⟨#[]⟩ : ByteArray), .string (⟨#[]⟩ : ByteArray)] (0, 0) _ rfl (blk_put (cs := #[.int .i64 0, .int .i64 0, .int .i64 0, .string (⟨#[]⟩ : ByteArray), .int .i64 0, .int .i64 0, .int .i64 0, .int .i64 0, .int .i64 0, .string (⟨#[]⟩ : ByteArray), .string (⟨#[]⟩ : ByteArray), .string (⟨#[]⟩ : ByteArray), .string (⟨#[]⟩ : ByteArray)]) (blk_put (cs := #[.int .i64 0, .int .i64 0, .int .i64 0, .string (⟨#[]⟩ : ByteArray), .int .i64 0, .int .i64 0, .int .i64 0, .int .i64 0, .int .i64 0, .string (⟨#[]⟩ : ByteArray), .string (⟨#[]⟩ : ByteArray), .string (⟨#[]⟩ : ByteArray), .string (⟨#[]⟩ : ByteArray)]) (blk_put (cs := #[.int .i64 0, .int .i64 0, .int .i64 0, .string (⟨#[]⟩ : ByteArray), .int .i64 0, .int .i64 0, .int .i64 0, .int .i64 0, .int .i64 0, .string (⟨#[]⟩ : ByteArray), .string (⟨#[]⟩ : ByteArray), .string (⟨#[]⟩ : ByteArray), .string (⟨#[]⟩ : ByteArray)]) (blk_put (cs := #[.int .i64 0, .int .i64 0, .int .i64 0, .string (⟨#[]⟩ : ByteArray), .int .i64 0, .int .i64 0, .int .i64 0, .int .i64 0, .int .i64 0, .string (⟨#[]⟩ : ByteArray), .string (⟨#[]⟩ : ByteArray), .string (⟨#[]⟩ : ByteArray), .string (⟨#[]⟩ : ByteArray)]) (blk_put (cs := #[.int .i64 0, .int .i64 0, .int .i64 0, .string (⟨#[]⟩ : ByteArray), .int .i64 0, .int .i64 0, .int .i64 0, .int .i64 0, .int .i64 0, .string (⟨#[]⟩ : ByteArray), .string (⟨#[]⟩ : ByteArray), .string (⟨#[]⟩ : ByteArray), .string (⟨#[]⟩ : ByteArray)]) (blk_put (cs := #[.int .i64 0, .int .i64 0, .int .i64 0, .string (⟨#[]⟩ : ByteArray), .int .i64 0, .int .i64 0, .int .i64 0, .int .i64 0, .int .i64 0, .string (⟨#[]⟩ : ByteArray), .string (⟨#[]⟩ : ByteArray), .string (⟨#[]⟩ : ByteArray), .string (⟨#[]⟩ : ByteArray)]) (blk_put (cs := #[.int .i64 0, .int .i64 0, .int .i64 0, .string (⟨#[]⟩ : ByteArray), .int .i64 0, .int .i64 0, .int .i64 0, .int .i64 0, .int .i64 0, .string (⟨#[]⟩ : ByteArray), .string (⟨#[]⟩ : ByteArray), .string (⟨#[]⟩ : ByteArray), .string (⟨#[]⟩ : ByteArray)]) (blk_put (cs := #[.int .i64 0, .int .i64 0, .int .i64 0, .string (⟨#[]⟩ : ByteArray), .int .i64 0, .int .i64 0, .int .i64 0, .int .i64 0, .int .i64 0, .string (⟨#[]⟩ : ByteArray), .string (⟨#[]⟩ : ByteArray), .string (⟨#[]⟩ : ByteArray), .string (⟨#[]⟩ : ByteArray)]) (blk_put (cs := #[.int .i64 0, .int .i64 0, .int .i64 0, .string (⟨#[]⟩ : ByteArray), .int .i64 0, .int .i64 0, .int .i64 0, .int .i64 0, .int .i64 0, .string (⟨#[]⟩ : ByteArray), .string (⟨#[]⟩ : ByteArray), .string (⟨#[]⟩ : ByteArray), .string (⟨#[]⟩ : ByteArray)]) (blk_put (cs := #[.int .i64 0, .int .i64 0, .int .i64 0, .string (⟨#[]⟩ : ByteArray), .int .i64 0, .int .i64 0, .int .i64 0, .int .i64 0, .int .i64 0, .string (⟨#[]⟩ : ByteArray), .string (⟨#[]⟩ : ByteArray), .string (⟨#[]⟩ : ByteArray), .string (⟨#[]⟩ : ByteArray)]) (blk_put (cs := #[.int .i64 0, .int .i64 0, .int .i64 0, .string (⟨#[]⟩ : ByteArray), .int .i64 0, .int .i64 0, .int .i64 0, .int .i64 0, .int .i64 0, .string (⟨#[]⟩ : ByteArray), .string (⟨#[]⟩ : ByteArray), .string (⟨#[]⟩ : ByteArray), .string (⟨#[]⟩ : ByteArray)]) (blk_put (cs := #[.int .i64 0, .int .i64 0, .int .i64 0, .string (⟨#[]⟩ : ByteArray), .int .i64 0, .int .i64 0, .int .i64 0, .int .i64 0, .int .i64 0, .string (⟨#[]⟩ : ByteArray), .string (⟨#[]⟩ : ByteArray), .string (⟨#[]⟩ : ByteArray), .string (⟨#[]⟩ : ByteArray)]) (blk_put (cs := #[.int .i64 0, .int .i64 0, .int .i64 0, .string (⟨#[]⟩ : ByteArray), .int .i64 0, .int .i64 0, .int .i64 0, .int .i64 0, .int .i64 0, .string (⟨#[]⟩ : ByteArray), .string (⟨#[]⟩ : ByteArray), .string (⟨#[]⟩ : ByteArray), .string (⟨#[]⟩ : ByteArray)]) (HZ6.out) 0 _ rfl) 1 _ rfl) 2 _ rfl) 3 _ rfl) 4 _ rfl) 5 _ rfl) 6 _ rfl) 7 _ rfl) 8 _ rfl) 9 _ rfl) 10 _ rfl) 11 _ rfl) 12 _ rfl) Tryd.underlying27 rfl (by kernel_rfl)) rfl ⟨rfl, ?_⟩
        exact (Below.setCell (Below.setCell (Below.setCell (Below.setCell (Below.setCell (Below.setCell (Below.setCell (Below.setCell (Below.setCell (Below.setCell (Below.setCell (Below.setCell (Below.setCell (Below.setCell (Below.setCell (Below.setCell (Below.setCell (below_step HBr.out HB7.out) (p := ⟨gt, 3, none⟩) (Nat.le_of_lt HLT.out) (.string x1)) (p := ⟨gt, 4, none⟩) (Nat.le_of_lt HLT.out) (.int .i64 x2)) (p := ⟨gt, 5, none⟩) (Nat.le_of_lt HLT.out) (.int .i64 x3)) (p := ⟨gt, 6, none⟩) (Nat.le_of_lt HLT.out) (.int .i64 x4)) (p := ⟨w.heap.size, 0, none⟩) (by first | exact Nat.le_refl _ | exact Nat.le_succ _) _) (p := ⟨w.heap.size, 1, none⟩) (by first | exact Nat.le_refl _ | exact Nat.le_succ _) _) (p := ⟨w.heap.size, 2, none⟩) (by first | exact Nat.le_refl _ | exact Nat.le_succ _) _) (p := ⟨w.heap.size, 3, none⟩) (by first | exact Nat.le_refl _ | exact Nat.le_succ _) _) (p := ⟨w.heap.size, 4, none⟩) (by first | exact Nat.le_refl _ | exact Nat.le_succ _) _) (p := ⟨w.heap.size, 5, none⟩) (by first | exact Nat.le_refl _ | exact Nat.le_succ _) _) (p := ⟨w.heap.size, 6, none⟩) (by first | exact Nat.le_refl _ | exact Nat.le_succ _) _) (p := ⟨w.heap.size, 7, none⟩) (by first | exact Nat.le_refl _ | exact Nat.le_succ _) _) (p := ⟨w.heap.size, 8, none⟩) (by first | exact Nat.le_refl _ | exact Nat.le_succ _) _) (p := ⟨w.heap.size, 9, none⟩) (by first | exact Nat.le_refl _ | exact Nat.le_succ _) _) (p := ⟨w.heap.size, 10, none⟩) (by first | exact Nat.le_refl _ | exact Nat.le_succ _) _) (p := ⟨w.heap.size, 11, none⟩) (by first | exact Nat.le_refl _ | exact Nat.le_succ _) _) (p := ⟨w.heap.size, 12, none⟩) (by first | exact Nat.le_refl _ | exact Nat.le_succ _) _)
    · obtain ⟨⟨x, e⟩, hq, hh⟩ := Option.bind_eq_some_iff.1 HP.out
      dsimp only at hh
      have hfn : wr.cell? ⟨v5.heap.size, 4, none⟩ = some (.func (.func 52) #[] #[.pointer (some ⟨b4, 0, none⟩)]) := blk_cell HS.out 4
      have hst : wr.cell? ⟨gL, 4, none⟩ = some (.string (rfS l 4)) := kt_cell HKr.out HCUR.out 4 (HCS.out 4 (by omega))
      have HQ := Aside0.mk hq
      clear hq
      have HBX := Aside0.mk (HKP.out _ _ HX4.out)
      by_cases c : e = 0
      · subst c
        rw [if_pos rfl] at hh
        have HH := Aside0.mk hh
        clear hh
        go_wp2_with (go_at_call 52; refine (num_lit k (rfS l 4) x 0 b4 gt 7 #[.int .i64 t.f0, .int .i64 t.f1, .int .i64 t.f2, .string t.f3.f0, .int .i64 t.f3.f1, .int .i64 t.f3.f2, .int .i64 t.f3.f3, .int .i64 t.f4, .int .i64 t.f5, .string t.f6.f0, .string t.f6.f1, .string t.f7.f0, .string t.f7.f1] t.f4 wr HQ.out HBX.out HGr.out rfl).mono ?_; rintro e6 w6 ⟨rfl, w7, hb7, rfl⟩; have HB7 := Aside0.mk hb7; clear hb7)
        go_roundg (gk - 1)
        case measure => have := HK.out; omega
        case rel => exact ⟨5, { t with f4 := x }, by go_num, ⟨by have := HK.out; omega⟩, HH, ⟨(blk_put (cs := #[.int .i64 t.f0, .int .i64 t.f1, .int .i64 t.f2, .string t.f3.f0, .int .i64 t.f3.f1, .int .i64 t.f3.f2, .int .i64 t.f3.f3, .int .i64 t.f4, .int .i64 t.f5, .string t.f6.f0, .string t.f6.f1, .string t.f7.f0, .string t.f7.f1]) (blk_below HGr.out HB7.out) 7 (.int .i64 x) rfl)⟩, ⟨(KT.setCell (KT.below HKP.out HB7.out) (blk_below HGr.out HB7.out) (by decide) (.int .i64 x))⟩, ⟨(blk_far (blk_below HS.out HB7.out) (Nat.ne_of_gt HGS.out) (.int .i64 x))⟩, ⟨(blk_far (blk_below HZr.out HB7.out) (Nat.ne_of_lt HLT.out) (.int .i64 x))⟩, ⟨(KT.setCell (KT.below HKr.out HB7.out) (blk_below HGr.out HB7.out) (by decide) (.int .i64 x))⟩, ⟨(Below.setCell (below_step HBr.out HB7.out) (p := ⟨gt, 7, none⟩) (Nat.le_of_lt HLT.out) (.int .i64 x))⟩⟩
      · rw [if_neg c] at hh
        obtain rfl := Option.some.inj hh
        have hz : (e != 0) = true := bne_iff_ne.2 c
        clear hh c
        go_wp2_with (go_at_call 52; refine (num_lit k (rfS l 4) x e b4 gt 7 #[.int .i64 t.f0, .int .i64 t.f1, .int .i64 t.f2, .string t.f3.f0, .int .i64 t.f3.f1, .int .i64 t.f3.f2, .int .i64 t.f3.f3, .int .i64 t.f4, .int .i64 t.f5, .string t.f6.f0, .string t.f6.f1, .string t.f7.f0, .string t.f7.f1] t.f4 wr HQ.out HBX.out HGr.out rfl).mono ?_; rintro e6 w6 ⟨rfl, w7, hb7, rfl⟩; have HB7 := Aside0.mk hb7; have hZ6 : (w7.setCell ⟨gt, 7, none⟩ (.int .i64 x)).heap[w.heap.size]? = some (.cells #[.int .i64 0, .int .i64 0, .int .i64 0, .string (⟨#[]⟩ : ByteArray), .int .i64 0, .int .i64 0, .int .i64 0, .int .i64 0, .int .i64 0, .string (⟨#[]⟩ : ByteArray), .string (⟨#[]⟩ : ByteArray), .string (⟨#[]⟩ : ByteArray), .string (⟨#[]⟩ : ByteArray)] 27 (0, 0)) := (blk_far (blk_below HZr.out hb7) (Nat.ne_of_lt HLT.out) (.int .i64 x)); have hfc0 : (w7.setCell ⟨gt, 7, none⟩ (.int .i64 x)).cell? ⟨w.heap.size, 0, none⟩ = some (.int .i64 0) := blk_cell hZ6 0; have hf0 : (w7.setCell ⟨gt, 7, none⟩ (.int .i64 x)).frozen? ⟨w.heap.size, 0, none⟩ = false := blk_frozen hZ6 0; have hfc1 : (w7.setCell ⟨gt, 7, none⟩ (.int .i64 x)).cell? ⟨w.heap.size, 1, none⟩ = some (.int .i64 0) := blk_cell hZ6 1; have hf1 : (w7.setCell ⟨gt, 7, none⟩ (.int .i64 x)).frozen? ⟨w.heap.size, 1, none⟩ = false := blk_frozen hZ6 1; have hfc2 : (w7.setCell ⟨gt, 7, none⟩ (.int .i64 x)).cell? ⟨w.heap.size, 2, none⟩ = some (.int .i64 0) := blk_cell hZ6 2; have hf2 : (w7.setCell ⟨gt, 7, none⟩ (.int .i64 x)).frozen? ⟨w.heap.size, 2, none⟩ = false := blk_frozen hZ6 2; have hfc3 : (w7.setCell ⟨gt, 7, none⟩ (.int .i64 x)).cell? ⟨w.heap.size, 3, none⟩ = some (.string (⟨#[]⟩ : ByteArray)) := blk_cell hZ6 3; have hf3 : (w7.setCell ⟨gt, 7, none⟩ (.int .i64 x)).frozen? ⟨w.heap.size, 3, none⟩ = false := blk_frozen hZ6 3; have hfc4 : (w7.setCell ⟨gt, 7, none⟩ (.int .i64 x)).cell? ⟨w.heap.size, 4, none⟩ = some (.int .i64 0) := blk_cell hZ6 4; have hf4 : (w7.setCell ⟨gt, 7, none⟩ (.int .i64 x)).frozen? ⟨w.heap.size, 4, none⟩ = false := blk_frozen hZ6 4; have hfc5 : (w7.setCell ⟨gt, 7, none⟩ (.int .i64 x)).cell? ⟨w.heap.size, 5, none⟩ = some (.int .i64 0) := blk_cell hZ6 5; have hf5 : (w7.setCell ⟨gt, 7, none⟩ (.int .i64 x)).frozen? ⟨w.heap.size, 5, none⟩ = false := blk_frozen hZ6 5; have hfc6 : (w7.setCell ⟨gt, 7, none⟩ (.int .i64 x)).cell? ⟨w.heap.size, 6, none⟩ = some (.int .i64 0) := blk_cell hZ6 6; have hf6 : (w7.setCell ⟨gt, 7, none⟩ (.int .i64 x)).frozen? ⟨w.heap.size, 6, none⟩ = false := blk_frozen hZ6 6; have hfc7 : (w7.setCell ⟨gt, 7, none⟩ (.int .i64 x)).cell? ⟨w.heap.size, 7, none⟩ = some (.int .i64 0) := blk_cell hZ6 7; have hf7 : (w7.setCell ⟨gt, 7, none⟩ (.int .i64 x)).frozen? ⟨w.heap.size, 7, none⟩ = false := blk_frozen hZ6 7; have hfc8 : (w7.setCell ⟨gt, 7, none⟩ (.int .i64 x)).cell? ⟨w.heap.size, 8, none⟩ = some (.int .i64 0) := blk_cell hZ6 8; have hf8 : (w7.setCell ⟨gt, 7, none⟩ (.int .i64 x)).frozen? ⟨w.heap.size, 8, none⟩ = false := blk_frozen hZ6 8; have hfc9 : (w7.setCell ⟨gt, 7, none⟩ (.int .i64 x)).cell? ⟨w.heap.size, 9, none⟩ = some (.string (⟨#[]⟩ : ByteArray)) := blk_cell hZ6 9; have hf9 : (w7.setCell ⟨gt, 7, none⟩ (.int .i64 x)).frozen? ⟨w.heap.size, 9, none⟩ = false := blk_frozen hZ6 9; have hfc10 : (w7.setCell ⟨gt, 7, none⟩ (.int .i64 x)).cell? ⟨w.heap.size, 10, none⟩ = some (.string (⟨#[]⟩ : ByteArray)) := blk_cell hZ6 10; have hf10 : (w7.setCell ⟨gt, 7, none⟩ (.int .i64 x)).frozen? ⟨w.heap.size, 10, none⟩ = false := blk_frozen hZ6 10; have hfc11 : (w7.setCell ⟨gt, 7, none⟩ (.int .i64 x)).cell? ⟨w.heap.size, 11, none⟩ = some (.string (⟨#[]⟩ : ByteArray)) := blk_cell hZ6 11; have hf11 : (w7.setCell ⟨gt, 7, none⟩ (.int .i64 x)).frozen? ⟨w.heap.size, 11, none⟩ = false := blk_frozen hZ6 11; have hfc12 : (w7.setCell ⟨gt, 7, none⟩ (.int .i64 x)).cell? ⟨w.heap.size, 12, none⟩ = some (.string (⟨#[]⟩ : ByteArray)) := blk_cell hZ6 12; have hf12 : (w7.setCell ⟨gt, 7, none⟩ (.int .i64 x)).frozen? ⟨w.heap.size, 12, none⟩ = false := blk_frozen hZ6 12; have HZ6 := Aside0.mk hZ6; clear hZ6; clear hb7)
        refine bodyPost_ret (results_ct rfl _ _ w.heap.size 27 #[.int .i64 0, .int .i64 0, .int .i64 0, .string (⟨#[]⟩ : ByteArray), .int .i64 0, .int .i64 0, .int .i64 0, .int .i64 0, .int .i64 0, .string (⟨#[]⟩ : ByteArray), .string (⟨#[]⟩ : ByteArray), .string (⟨#[]⟩ : ByteArray), .string (⟨#[]⟩ : ByteArray)] (0, 0) _ rfl (blk_put (cs := #[.int .i64 0, .int .i64 0, .int .i64 0, .string (⟨#[]⟩ : ByteArray), .int .i64 0, .int .i64 0, .int .i64 0, .int .i64 0, .int .i64 0, .string (⟨#[]⟩ : ByteArray), .string (⟨#[]⟩ : ByteArray), .string (⟨#[]⟩ : ByteArray), .string (⟨#[]⟩ : ByteArray)]) (blk_put (cs := #[.int .i64 0, .int .i64 0, .int .i64 0, .string (⟨#[]⟩ : ByteArray), .int .i64 0, .int .i64 0, .int .i64 0, .int .i64 0, .int .i64 0, .string (⟨#[]⟩ : ByteArray), .string (⟨#[]⟩ : ByteArray), .string (⟨#[]⟩ : ByteArray), .string (⟨#[]⟩ : ByteArray)]) (blk_put (cs := #[.int .i64 0, .int .i64 0, .int .i64 0, .string (⟨#[]⟩ : ByteArray), .int .i64 0, .int .i64 0, .int .i64 0, .int .i64 0, .int .i64 0, .string (⟨#[]⟩ : ByteArray), .string (⟨#[]⟩ : ByteArray), .string (⟨#[]⟩ : ByteArray), .string (⟨#[]⟩ : ByteArray)]) (blk_put (cs := #[.int .i64 0, .int .i64 0, .int .i64 0, .string (⟨#[]⟩ : ByteArray), .int .i64 0, .int .i64 0, .int .i64 0, .int .i64 0, .int .i64 0, .string (⟨#[]⟩ : ByteArray), .string (⟨#[]⟩ : ByteArray), .string (⟨#[]⟩ : ByteArray), .string (⟨#[]⟩ : ByteArray)]) (blk_put (cs := #[.int .i64 0, .int .i64 0, .int .i64 0, .string (⟨#[]⟩ : ByteArray), .int .i64 0, .int .i64 0, .int .i64 0, .int .i64 0, .int .i64 0, .string (⟨#[]⟩ : ByteArray), .string (⟨#[]⟩ : ByteArray), .string (⟨#[]⟩ : ByteArray), .string (⟨#[]⟩ : ByteArray)]) (blk_put (cs := #[.int .i64 0, .int .i64 0, .int .i64 0, .string (⟨#[]⟩ : ByteArray), .int .i64 0, .int .i64 0, .int .i64 0, .int .i64 0, .int .i64 0, .string (⟨#[]⟩ : ByteArray), .string (⟨#[]⟩ : ByteArray), .string (⟨#[]⟩ : ByteArray), .string (⟨#[]⟩ : ByteArray)]) (blk_put (cs := #[.int .i64 0, .int .i64 0, .int .i64 0, .string (⟨#[]⟩ : ByteArray), .int .i64 0, .int .i64 0, .int .i64 0, .int .i64 0, .int .i64 0, .string (⟨#[]⟩ : ByteArray), .string (⟨#[]⟩ : ByteArray), .string (⟨#[]⟩ : ByteArray), .string (⟨#[]⟩ : ByteArray)]) (blk_put (cs := #[.int .i64 0, .int .i64 0, .int .i64 0, .string (⟨#[]⟩ : ByteArray), .int .i64 0, .int .i64 0, .int .i64 0, .int .i64 0, .int .i64 0, .string (⟨#[]⟩ : ByteArray), .string (⟨#[]⟩ : ByteArray), .string (⟨#[]⟩ : ByteArray), .string (⟨#[]⟩ : ByteArray)]) (blk_put (cs := #[.int .i64 0, .int .i64 0, .int .i64 0, .string (⟨#[]⟩ : ByteArray), .int .i64 0, .int .i64 0, .int .i64 0, .int .i64 0, .int .i64 0, .string (⟨#[]⟩ : ByteArray), .string (⟨#[]⟩ : ByteArray), .string (⟨#[]⟩ : ByteArray), .string (⟨#[]⟩ : ByteArray)]) (blk_put (cs := #[.int .i64 0, .int .i64 0, .int .i64 0, .string (⟨#[]⟩ : ByteArray), .int .i64 0, .int .i64 0, .int .i64 0, .int .i64 0, .int .i64 0, .string (⟨#[]⟩ : ByteArray), .string (⟨#[]⟩ : ByteArray), .string (⟨#[]⟩ : ByteArray), .string (⟨#[]⟩ : ByteArray)]) (blk_put (cs := #[.int .i64 0, .int .i64 0, .int .i64 0, .string (⟨#[]⟩ : ByteArray), .int .i64 0, .int .i64 0, .int .i64 0, .int .i64 0, .int .i64 0, .string (⟨#[]⟩ : ByteArray), .string (⟨#[]⟩ : ByteArray), .string (⟨#[]⟩ : ByteArray), .string (⟨#[]⟩ : ByteArray)]) (blk_put (cs := #[.int .i64 0, .int .i64 0, .int .i64 0, .string (⟨#[]⟩ : ByteArray), .int .i64 0, .int .i64 0, .int .i64 0, .int .i64 0, .int .i64 0, .string (⟨#[]⟩ : ByteArray), .string (⟨#[]⟩ : ByteArray), .string (⟨#[]⟩ : ByteArray), .string (⟨#[]⟩ : ByteArray)]) (blk_put (cs := #[.int .i64 0, .int .i64 0, .int .i64 0, .string (⟨#[]⟩ : ByteArray), .int .i64 0, .int .i64 0, .int .i64 0, .int .i64 0, .int .i64 0, .string (⟨#[]⟩ : ByteArray), .string (⟨#[]⟩ : ByteArray), .string (⟨#[]⟩ : ByteArray), .string (⟨#[]⟩ : ByteArray)]) (HZ6.out) 0 _ rfl) 1 _ rfl) 2 _ rfl) 3 _ rfl) 4 _ rfl) 5 _ rfl) 6 _ rfl) 7 _ rfl) 8 _ rfl) 9 _ rfl) 10 _ rfl) 11 _ rfl) 12 _ rfl) Tryd.underlying27 rfl (by kernel_rfl)) rfl ⟨rfl, ?_⟩
        exact (Below.setCell (Below.setCell (Below.setCell (Below.setCell (Below.setCell (Below.setCell (Below.setCell (Below.setCell (Below.setCell (Below.setCell (Below.setCell (Below.setCell (Below.setCell (Below.setCell (below_step HBr.out HB7.out) (p := ⟨gt, 7, none⟩) (Nat.le_of_lt HLT.out) (.int .i64 x)) (p := ⟨w.heap.size, 0, none⟩) (by first | exact Nat.le_refl _ | exact Nat.le_succ _) _) (p := ⟨w.heap.size, 1, none⟩) (by first | exact Nat.le_refl _ | exact Nat.le_succ _) _) (p := ⟨w.heap.size, 2, none⟩) (by first | exact Nat.le_refl _ | exact Nat.le_succ _) _) (p := ⟨w.heap.size, 3, none⟩) (by first | exact Nat.le_refl _ | exact Nat.le_succ _) _) (p := ⟨w.heap.size, 4, none⟩) (by first | exact Nat.le_refl _ | exact Nat.le_succ _) _) (p := ⟨w.heap.size, 5, none⟩) (by first | exact Nat.le_refl _ | exact Nat.le_succ _) _) (p := ⟨w.heap.size, 6, none⟩) (by first | exact Nat.le_refl _ | exact Nat.le_succ _) _) (p := ⟨w.heap.size, 7, none⟩) (by first | exact Nat.le_refl _ | exact Nat.le_succ _) _) (p := ⟨w.heap.size, 8, none⟩) (by first | exact Nat.le_refl _ | exact Nat.le_succ _) _) (p := ⟨w.heap.size, 9, none⟩) (by first | exact Nat.le_refl _ | exact Nat.le_succ _) _) (p := ⟨w.heap.size, 10, none⟩) (by first | exact Nat.le_refl _ | exact Nat.le_succ _) _) (p := ⟨w.heap.size, 11, none⟩) (by first | exact Nat.le_refl _ | exact Nat.le_succ _) _) (p := ⟨w.heap.size, 12, none⟩) (by first | exact Nat.le_refl _ | exact Nat.le_succ _) _)
    · obtain ⟨⟨x, e⟩, hq, hh⟩ := Option.bind_eq_some_iff.1 HP.out
      dsimp only at hh
      have hfn : wr.cell? ⟨v5.heap.size, 5, none⟩ = some (.func (.func 52) #[] #[.pointer (some ⟨b5, 0, none⟩)]) := blk_cell HS.out 5
      have hst : wr.cell? ⟨gL, 5, none⟩ = some (.string (rfS l 5)) := kt_cell HKr.out HCUR.out 5 (HCS.out 5 (by omega))
      have HQ := Aside0.mk hq
      clear hq
      have HBX := Aside0.mk (HKP.out _ _ HX5.out)
      by_cases c : e = 0
      · subst c
        rw [if_pos rfl] at hh
        have HH := Aside0.mk hh
        clear hh
        go_wp2_with (go_at_call 52; refine (num_lit k (rfS l 5) x 0 b5 gt 8 #[.int .i64 t.f0, .int .i64 t.f1, .int .i64 t.f2, .string t.f3.f0, .int .i64 t.f3.f1, .int .i64 t.f3.f2, .int .i64 t.f3.f3, .int .i64 t.f4, .int .i64 t.f5, .string t.f6.f0, .string t.f6.f1, .string t.f7.f0, .string t.f7.f1] t.f5 wr HQ.out HBX.out HGr.out rfl).mono ?_; rintro e6 w6 ⟨rfl, w7, hb7, rfl⟩; have HB7 := Aside0.mk hb7; clear hb7)
        go_roundg (gk - 1)
        case measure => have := HK.out; omega
        case rel => exact ⟨6, { t with f5 := x }, by go_num, ⟨by have := HK.out; omega⟩, HH, ⟨(blk_put (cs := #[.int .i64 t.f0, .int .i64 t.f1, .int .i64 t.f2, .string t.f3.f0, .int .i64 t.f3.f1, .int .i64 t.f3.f2, .int .i64 t.f3.f3, .int .i64 t.f4, .int .i64 t.f5, .string t.f6.f0, .string t.f6.f1, .string t.f7.f0, .string t.f7.f1]) (blk_below HGr.out HB7.out) 8 (.int .i64 x) rfl)⟩, ⟨(KT.setCell (KT.below HKP.out HB7.out) (blk_below HGr.out HB7.out) (by decide) (.int .i64 x))⟩, ⟨(blk_far (blk_below HS.out HB7.out) (Nat.ne_of_gt HGS.out) (.int .i64 x))⟩, ⟨(blk_far (blk_below HZr.out HB7.out) (Nat.ne_of_lt HLT.out) (.int .i64 x))⟩, ⟨(KT.setCell (KT.below HKr.out HB7.out) (blk_below HGr.out HB7.out) (by decide) (.int .i64 x))⟩, ⟨(Below.setCell (below_step HBr.out HB7.out) (p := ⟨gt, 8, none⟩) (Nat.le_of_lt HLT.out) (.int .i64 x))⟩⟩
      · rw [if_neg c] at hh
        obtain rfl := Option.some.inj hh
        have hz : (e != 0) = true := bne_iff_ne.2 c
        clear hh c
        go_wp2_with (go_at_call 52; refine (num_lit k (rfS l 5) x e b5 gt 8 #[.int .i64 t.f0, .int .i64 t.f1, .int .i64 t.f2, .string t.f3.f0, .int .i64 t.f3.f1, .int .i64 t.f3.f2, .int .i64 t.f3.f3, .int .i64 t.f4, .int .i64 t.f5, .string t.f6.f0, .string t.f6.f1, .string t.f7.f0, .string t.f7.f1] t.f5 wr HQ.out HBX.out HGr.out rfl).mono ?_; rintro e6 w6 ⟨rfl, w7, hb7, rfl⟩; have HB7 := Aside0.mk hb7; have hZ6 : (w7.setCell ⟨gt, 8, none⟩ (.int .i64 x)).heap[w.heap.size]? = some (.cells #[.int .i64 0, .int .i64 0, .int .i64 0, .string (⟨#[]⟩ : ByteArray), .int .i64 0, .int .i64 0, .int .i64 0, .int .i64 0, .int .i64 0, .string (⟨#[]⟩ : ByteArray), .string (⟨#[]⟩ : ByteArray), .string (⟨#[]⟩ : ByteArray), .string (⟨#[]⟩ : ByteArray)] 27 (0, 0)) := (blk_far (blk_below HZr.out hb7) (Nat.ne_of_lt HLT.out) (.int .i64 x)); have hfc0 : (w7.setCell ⟨gt, 8, none⟩ (.int .i64 x)).cell? ⟨w.heap.size, 0, none⟩ = some (.int .i64 0) := blk_cell hZ6 0; have hf0 : (w7.setCell ⟨gt, 8, none⟩ (.int .i64 x)).frozen? ⟨w.heap.size, 0, none⟩ = false := blk_frozen hZ6 0; have hfc1 : (w7.setCell ⟨gt, 8, none⟩ (.int .i64 x)).cell? ⟨w.heap.size, 1, none⟩ = some (.int .i64 0) := blk_cell hZ6 1; have hf1 : (w7.setCell ⟨gt, 8, none⟩ (.int .i64 x)).frozen? ⟨w.heap.size, 1, none⟩ = false := blk_frozen hZ6 1; have hfc2 : (w7.setCell ⟨gt, 8, none⟩ (.int .i64 x)).cell? ⟨w.heap.size, 2, none⟩ = some (.int .i64 0) := blk_cell hZ6 2; have hf2 : (w7.setCell ⟨gt, 8, none⟩ (.int .i64 x)).frozen? ⟨w.heap.size, 2, none⟩ = false := blk_frozen hZ6 2; have hfc3 : (w7.setCell ⟨gt, 8, none⟩ (.int .i64 x)).cell? ⟨w.heap.size, 3, none⟩ = some (.string (⟨#[]⟩ : ByteArray)) := blk_cell hZ6 3; have hf3 : (w7.setCell ⟨gt, 8, none⟩ (.int .i64 x)).frozen? ⟨w.heap.size, 3, none⟩ = false := blk_frozen hZ6 3; have hfc4 : (w7.setCell ⟨gt, 8, none⟩ (.int .i64 x)).cell? ⟨w.heap.size, 4, none⟩ = some (.int .i64 0) := blk_cell hZ6 4; have hf4 : (w7.setCell ⟨gt, 8, none⟩ (.int .i64 x)).frozen? ⟨w.heap.size, 4, none⟩ = false := blk_frozen hZ6 4; have hfc5 : (w7.setCell ⟨gt, 8, none⟩ (.int .i64 x)).cell? ⟨w.heap.size, 5, none⟩ = some (.int .i64 0) := blk_cell hZ6 5; have hf5 : (w7.setCell ⟨gt, 8, none⟩ (.int .i64 x)).frozen? ⟨w.heap.size, 5, none⟩ = false := blk_frozen hZ6 5; have hfc6 : (w7.setCell ⟨gt, 8, none⟩ (.int .i64 x)).cell? ⟨w.heap.size, 6, none⟩ = some (.int .i64 0) := blk_cell hZ6 6; have hf6 : (w7.setCell ⟨gt, 8, none⟩ (.int .i64 x)).frozen? ⟨w.heap.size, 6, none⟩ = false := blk_frozen hZ6 6; have hfc7 : (w7.setCell ⟨gt, 8, none⟩ (.int .i64 x)).cell? ⟨w.heap.size, 7, none⟩ = some (.int .i64 0) := blk_cell hZ6 7; have hf7 : (w7.setCell ⟨gt, 8, none⟩ (.int .i64 x)).frozen? ⟨w.heap.size, 7, none⟩ = false := blk_frozen hZ6 7; have hfc8 : (w7.setCell ⟨gt, 8, none⟩ (.int .i64 x)).cell? ⟨w.heap.size, 8, none⟩ = some (.int .i64 0) := blk_cell hZ6 8; have hf8 : (w7.setCell ⟨gt, 8, none⟩ (.int .i64 x)).frozen? ⟨w.heap.size, 8, none⟩ = false := blk_frozen hZ6 8; have hfc9 : (w7.setCell ⟨gt, 8, none⟩ (.int .i64 x)).cell? ⟨w.heap.size, 9, none⟩ = some (.string (⟨#[]⟩ : ByteArray)) := blk_cell hZ6 9; have hf9 : (w7.setCell ⟨gt, 8, none⟩ (.int .i64 x)).frozen? ⟨w.heap.size, 9, none⟩ = false := blk_frozen hZ6 9; have hfc10 : (w7.setCell ⟨gt, 8, none⟩ (.int .i64 x)).cell? ⟨w.heap.size, 10, none⟩ = some (.string (⟨#[]⟩ : ByteArray)) := blk_cell hZ6 10; have hf10 : (w7.setCell ⟨gt, 8, none⟩ (.int .i64 x)).frozen? ⟨w.heap.size, 10, none⟩ = false := blk_frozen hZ6 10; have hfc11 : (w7.setCell ⟨gt, 8, none⟩ (.int .i64 x)).cell? ⟨w.heap.size, 11, none⟩ = some (.string (⟨#[]⟩ : ByteArray)) := blk_cell hZ6 11; have hf11 : (w7.setCell ⟨gt, 8, none⟩ (.int .i64 x)).frozen? ⟨w.heap.size, 11, none⟩ = false := blk_frozen hZ6 11; have hfc12 : (w7.setCell ⟨gt, 8, none⟩ (.int .i64 x)).cell? ⟨w.heap.size, 12, none⟩ = some (.string (⟨#[]⟩ : ByteArray)) := blk_cell hZ6 12; have hf12 : (w7.setCell ⟨gt, 8, none⟩ (.int .i64 x)).frozen? ⟨w.heap.size, 12, none⟩ = false := blk_frozen hZ6 12; have HZ6 := Aside0.mk hZ6; clear hZ6; clear hb7)
        refine bodyPost_ret (results_ct rfl _ _ w.heap.size 27 #[.int .i64 0, .int .i64 0, .int .i64 0, .string (⟨#[]⟩ : ByteArray), .int .i64 0, .int .i64 0, .int .i64 0, .int .i64 0, .int .i64 0, .string (⟨#[]⟩ : ByteArray), .string (⟨#[]⟩ : ByteArray), .string (⟨#[]⟩ : ByteArray), .string (⟨#[]⟩ : ByteArray)] (0, 0) _ rfl (blk_put (cs := #[.int .i64 0, .int .i64 0, .int .i64 0, .string (⟨#[]⟩ : ByteArray), .int .i64 0, .int .i64 0, .int .i64 0, .int .i64 0, .int .i64 0, .string (⟨#[]⟩ : ByteArray), .string (⟨#[]⟩ : ByteArray), .string (⟨#[]⟩ : ByteArray), .string (⟨#[]⟩ : ByteArray)]) (blk_put (cs := #[.int .i64 0, .int .i64 0, .int .i64 0, .string (⟨#[]⟩ : ByteArray), .int .i64 0, .int .i64 0, .int .i64 0, .int .i64 0, .int .i64 0, .string (⟨#[]⟩ : ByteArray), .string (⟨#[]⟩ : ByteArray), .string (⟨#[]⟩ : ByteArray), .string (⟨#[]⟩ : ByteArray)]) (blk_put (cs := #[.int .i64 0, .int .i64 0, .int .i64 0, .string (⟨#[]⟩ : ByteArray), .int .i64 0, .int .i64 0, .int .i64 0, .int .i64 0, .int .i64 0, .string (⟨#[]⟩ : ByteArray), .string (⟨#[]⟩ : ByteArray), .string (⟨#[]⟩ : ByteArray), .string (⟨#[]⟩ : ByteArray)]) (blk_put (cs := #[.int .i64 0, .int .i64 0, .int .i64 0, .string (⟨#[]⟩ : ByteArray), .int .i64 0, .int .i64 0, .int .i64 0, .int .i64 0, .int .i64 0, .string (⟨#[]⟩ : ByteArray), .string (⟨#[]⟩ : ByteArray), .string (⟨#[]⟩ : ByteArray), .string (⟨#[]⟩ : ByteArray)]) (blk_put (cs := #[.int .i64 0, .int .i64 0, .int .i64 0, .string (⟨#[]⟩ : ByteArray), .int .i64 0, .int .i64 0, .int .i64 0, .int .i64 0, .int .i64 0, .string (⟨#[]⟩ : ByteArray), .string (⟨#[]⟩ : ByteArray), .string (⟨#[]⟩ : ByteArray), .string (⟨#[]⟩ : ByteArray)]) (blk_put (cs := #[.int .i64 0, .int .i64 0, .int .i64 0, .string (⟨#[]⟩ : ByteArray), .int .i64 0, .int .i64 0, .int .i64 0, .int .i64 0, .int .i64 0, .string (⟨#[]⟩ : ByteArray), .string (⟨#[]⟩ : ByteArray), .string (⟨#[]⟩ : ByteArray), .string (⟨#[]⟩ : ByteArray)]) (blk_put (cs := #[.int .i64 0, .int .i64 0, .int .i64 0, .string (⟨#[]⟩ : ByteArray), .int .i64 0, .int .i64 0, .int .i64 0, .int .i64 0, .int .i64 0, .string (⟨#[]⟩ : ByteArray), .string (⟨#[]⟩ : ByteArray), .string (⟨#[]⟩ : ByteArray), .string (⟨#[]⟩ : ByteArray)]) (blk_put (cs := #[.int .i64 0, .int .i64 0, .int .i64 0, .string (⟨#[]⟩ : ByteArray), .int .i64 0, .int .i64 0, .int .i64 0, .int .i64 0, .int .i64 0, .string (⟨#[]⟩ : ByteArray), .string (⟨#[]⟩ : ByteArray), .string (⟨#[]⟩ : ByteArray), .string (⟨#[]⟩ : ByteArray)]) (blk_put (cs := #[.int .i64 0, .int .i64 0, .int .i64 0, .string (⟨#[]⟩ : ByteArray), .int .i64 0, .int .i64 0, .int .i64 0, .int .i64 0, .int .i64 0, .string (⟨#[]⟩ : ByteArray), .string (⟨#[]⟩ : ByteArray), .string (⟨#[]⟩ : ByteArray), .string (⟨#[]⟩ : ByteArray)]) (blk_put (cs := #[.int .i64 0, .int .i64 0, .int .i64 0, .string (⟨#[]⟩ : ByteArray), .int .i64 0, .int .i64 0, .int .i64 0, .int .i64 0, .int .i64 0, .string (⟨#[]⟩ : ByteArray), .string (⟨#[]⟩ : ByteArray), .string (⟨#[]⟩ : ByteArray), .string (⟨#[]⟩ : ByteArray)]) (blk_put (cs := #[.int .i64 0, .int .i64 0, .int .i64 0, .string (⟨#[]⟩ : ByteArray), .int .i64 0, .int .i64 0, .int .i64 0, .int .i64 0, .int .i64 0, .string (⟨#[]⟩ : ByteArray), .string (⟨#[]⟩ : ByteArray), .string (⟨#[]⟩ : ByteArray), .string (⟨#[]⟩ : ByteArray)]) (blk_put (cs := #[.int .i64 0, .int .i64 0, .int .i64 0, .string (⟨#[]⟩ : ByteArray), .int .i64 0, .int .i64 0, .int .i64 0, .int .i64 0, .int .i64 0, .string (⟨#[]⟩ : ByteArray), .string (⟨#[]⟩ : ByteArray), .string (⟨#[]⟩ : ByteArray), .string (⟨#[]⟩ : ByteArray)]) (blk_put (cs := #[.int .i64 0, .int .i64 0, .int .i64 0, .string (⟨#[]⟩ : ByteArray), .int .i64 0, .int .i64 0, .int .i64 0, .int .i64 0, .int .i64 0, .string (⟨#[]⟩ : ByteArray), .string (⟨#[]⟩ : ByteArray), .string (⟨#[]⟩ : ByteArray), .string (⟨#[]⟩ : ByteArray)]) (HZ6.out) 0 _ rfl) 1 _ rfl) 2 _ rfl) 3 _ rfl) 4 _ rfl) 5 _ rfl) 6 _ rfl) 7 _ rfl) 8 _ rfl) 9 _ rfl) 10 _ rfl) 11 _ rfl) 12 _ rfl) Tryd.underlying27 rfl (by kernel_rfl)) rfl ⟨rfl, ?_⟩
        exact (Below.setCell (Below.setCell (Below.setCell (Below.setCell (Below.setCell (Below.setCell (Below.setCell (Below.setCell (Below.setCell (Below.setCell (Below.setCell (Below.setCell (Below.setCell (Below.setCell (below_step HBr.out HB7.out) (p := ⟨gt, 8, none⟩) (Nat.le_of_lt HLT.out) (.int .i64 x)) (p := ⟨w.heap.size, 0, none⟩) (by first | exact Nat.le_refl _ | exact Nat.le_succ _) _) (p := ⟨w.heap.size, 1, none⟩) (by first | exact Nat.le_refl _ | exact Nat.le_succ _) _) (p := ⟨w.heap.size, 2, none⟩) (by first | exact Nat.le_refl _ | exact Nat.le_succ _) _) (p := ⟨w.heap.size, 3, none⟩) (by first | exact Nat.le_refl _ | exact Nat.le_succ _) _) (p := ⟨w.heap.size, 4, none⟩) (by first | exact Nat.le_refl _ | exact Nat.le_succ _) _) (p := ⟨w.heap.size, 5, none⟩) (by first | exact Nat.le_refl _ | exact Nat.le_succ _) _) (p := ⟨w.heap.size, 6, none⟩) (by first | exact Nat.le_refl _ | exact Nat.le_succ _) _) (p := ⟨w.heap.size, 7, none⟩) (by first | exact Nat.le_refl _ | exact Nat.le_succ _) _) (p := ⟨w.heap.size, 8, none⟩) (by first | exact Nat.le_refl _ | exact Nat.le_succ _) _) (p := ⟨w.heap.size, 9, none⟩) (by first | exact Nat.le_refl _ | exact Nat.le_succ _) _) (p := ⟨w.heap.size, 10, none⟩) (by first | exact Nat.le_refl _ | exact Nat.le_succ _) _) (p := ⟨w.heap.size, 11, none⟩) (by first | exact Nat.le_refl _ | exact Nat.le_succ _) _) (p := ⟨w.heap.size, 12, none⟩) (by first | exact Nat.le_refl _ | exact Nat.le_succ _) _)
    · obtain rfl := Option.some.inj (show some (t, (0 : Int)) = some p from HP.out)
      have hfc0 : wr.cell? ⟨w.heap.size, 0, none⟩ = some (.int .i64 0) := blk_cell HZr.out 0
      have hf0 : wr.frozen? ⟨w.heap.size, 0, none⟩ = false := blk_frozen HZr.out 0
      have hfc1 : wr.cell? ⟨w.heap.size, 1, none⟩ = some (.int .i64 0) := blk_cell HZr.out 1
      have hf1 : wr.frozen? ⟨w.heap.size, 1, none⟩ = false := blk_frozen HZr.out 1
      have hfc2 : wr.cell? ⟨w.heap.size, 2, none⟩ = some (.int .i64 0) := blk_cell HZr.out 2
      have hf2 : wr.frozen? ⟨w.heap.size, 2, none⟩ = false := blk_frozen HZr.out 2
      have hfc3 : wr.cell? ⟨w.heap.size, 3, none⟩ = some (.string (⟨#[]⟩ : ByteArray)) := blk_cell HZr.out 3
      have hf3 : wr.frozen? ⟨w.heap.size, 3, none⟩ = false := blk_frozen HZr.out 3
      have hfc4 : wr.cell? ⟨w.heap.size, 4, none⟩ = some (.int .i64 0) := blk_cell HZr.out 4
      have hf4 : wr.frozen? ⟨w.heap.size, 4, none⟩ = false := blk_frozen HZr.out 4
      have hfc5 : wr.cell? ⟨w.heap.size, 5, none⟩ = some (.int .i64 0) := blk_cell HZr.out 5
      have hf5 : wr.frozen? ⟨w.heap.size, 5, none⟩ = false := blk_frozen HZr.out 5
      have hfc6 : wr.cell? ⟨w.heap.size, 6, none⟩ = some (.int .i64 0) := blk_cell HZr.out 6
      have hf6 : wr.frozen? ⟨w.heap.size, 6, none⟩ = false := blk_frozen HZr.out 6
      have hfc7 : wr.cell? ⟨w.heap.size, 7, none⟩ = some (.int .i64 0) := blk_cell HZr.out 7
      have hf7 : wr.frozen? ⟨w.heap.size, 7, none⟩ = false := blk_frozen HZr.out 7
      have hfc8 : wr.cell? ⟨w.heap.size, 8, none⟩ = some (.int .i64 0) := blk_cell HZr.out 8
      have hf8 : wr.frozen? ⟨w.heap.size, 8, none⟩ = false := blk_frozen HZr.out 8
      have hfc9 : wr.cell? ⟨w.heap.size, 9, none⟩ = some (.string (⟨#[]⟩ : ByteArray)) := blk_cell HZr.out 9
      have hf9 : wr.frozen? ⟨w.heap.size, 9, none⟩ = false := blk_frozen HZr.out 9
      have hfc10 : wr.cell? ⟨w.heap.size, 10, none⟩ = some (.string (⟨#[]⟩ : ByteArray)) := blk_cell HZr.out 10
      have hf10 : wr.frozen? ⟨w.heap.size, 10, none⟩ = false := blk_frozen HZr.out 10
      have hfc11 : wr.cell? ⟨w.heap.size, 11, none⟩ = some (.string (⟨#[]⟩ : ByteArray)) := blk_cell HZr.out 11
      have hf11 : wr.frozen? ⟨w.heap.size, 11, none⟩ = false := blk_frozen HZr.out 11
      have hfc12 : wr.cell? ⟨w.heap.size, 12, none⟩ = some (.string (⟨#[]⟩ : ByteArray)) := blk_cell HZr.out 12
      have hf12 : wr.frozen? ⟨w.heap.size, 12, none⟩ = false := blk_frozen HZr.out 12
      have hg0 : wr.cell? ⟨gt, 0, none⟩ = some (.int .i64 t.f0) := blk_cell HGr.out 0
      have hg1 : wr.cell? ⟨gt, 1, none⟩ = some (.int .i64 t.f1) := blk_cell HGr.out 1
      have hg2 : wr.cell? ⟨gt, 2, none⟩ = some (.int .i64 t.f2) := blk_cell HGr.out 2
      have hg3 : wr.cell? ⟨gt, 3, none⟩ = some (.string t.f3.f0) := blk_cell HGr.out 3
      have hg4 : wr.cell? ⟨gt, 4, none⟩ = some (.int .i64 t.f3.f1) := blk_cell HGr.out 4
      have hg5 : wr.cell? ⟨gt, 5, none⟩ = some (.int .i64 t.f3.f2) := blk_cell HGr.out 5
      have hg6 : wr.cell? ⟨gt, 6, none⟩ = some (.int .i64 t.f3.f3) := blk_cell HGr.out 6
      have hg7 : wr.cell? ⟨gt, 7, none⟩ = some (.int .i64 t.f4) := blk_cell HGr.out 7
      have hg8 : wr.cell? ⟨gt, 8, none⟩ = some (.int .i64 t.f5) := blk_cell HGr.out 8
      have hg9 : wr.cell? ⟨gt, 9, none⟩ = some (.string t.f6.f0) := blk_cell HGr.out 9
      have hg10 : wr.cell? ⟨gt, 10, none⟩ = some (.string t.f6.f1) := blk_cell HGr.out 10
      have hg11 : wr.cell? ⟨gt, 11, none⟩ = some (.string t.f7.f0) := blk_cell HGr.out 11
      have hg12 : wr.cell? ⟨gt, 12, none⟩ = some (.string t.f7.f1) := blk_cell HGr.out 12
      go_wp2_with fail
      refine bodyPost_ret (results_ct rfl _ _ w.heap.size 27 #[.int .i64 t.f0, .int .i64 t.f1, .int .i64 t.f2, .string t.f3.f0, .int .i64 t.f3.f1, .int .i64 t.f3.f2, .int .i64 t.f3.f3, .int .i64 t.f4, .int .i64 t.f5, .string t.f6.f0, .string t.f6.f1, .string t.f7.f0, .string t.f7.f1] (0, 0) _ rfl (blk_put (cs := #[.int .i64 t.f0, .int .i64 t.f1, .int .i64 t.f2, .string t.f3.f0, .int .i64 t.f3.f1, .int .i64 t.f3.f2, .int .i64 t.f3.f3, .int .i64 t.f4, .int .i64 t.f5, .string t.f6.f0, .string t.f6.f1, .string t.f7.f0, .string (⟨#[]⟩ : ByteArray)]) (blk_put (cs := #[.int .i64 t.f0, .int .i64 t.f1, .int .i64 t.f2, .string t.f3.f0, .int .i64 t.f3.f1, .int .i64 t.f3.f2, .int .i64 t.f3.f3, .int .i64 t.f4, .int .i64 t.f5, .string t.f6.f0, .string t.f6.f1, .string (⟨#[]⟩ : ByteArray), .string (⟨#[]⟩ : ByteArray)]) (blk_put (cs := #[.int .i64 t.f0, .int .i64 t.f1, .int .i64 t.f2, .string t.f3.f0, .int .i64 t.f3.f1, .int .i64 t.f3.f2, .int .i64 t.f3.f3, .int .i64 t.f4, .int .i64 t.f5, .string t.f6.f0, .string (⟨#[]⟩ : ByteArray), .string (⟨#[]⟩ : ByteArray), .string (⟨#[]⟩ : ByteArray)]) (blk_put (cs := #[.int .i64 t.f0, .int .i64 t.f1, .int .i64 t.f2, .string t.f3.f0, .int .i64 t.f3.f1, .int .i64 t.f3.f2, .int .i64 t.f3.f3, .int .i64 t.f4, .int .i64 t.f5, .string (⟨#[]⟩ : ByteArray), .string (⟨#[]⟩ : ByteArray), .string (⟨#[]⟩ : ByteArray), .string (⟨#[]⟩ : ByteArray)]) (blk_put (cs := #[.int .i64 t.f0, .int .i64 t.f1, .int .i64 t.f2, .string t.f3.f0, .int .i64 t.f3.f1, .int .i64 t.f3.f2, .int .i64 t.f3.f3, .int .i64 t.f4, .int .i64 0, .string (⟨#[]⟩ : ByteArray), .string (⟨#[]⟩ : ByteArray), .string (⟨#[]⟩ : ByteArray), .string (⟨#[]⟩ : ByteArray)]) (blk_put (cs := #[.int .i64 t.f0, .int .i64 t.f1, .int .i64 t.f2, .string t.f3.f0, .int .i64 t.f3.f1, .int .i64 t.f3.f2, .int .i64 t.f3.f3, .int .i64 0, .int .i64 0, .string (⟨#[]⟩ : ByteArray), .string (⟨#[]⟩ : ByteArray), .string (⟨#[]⟩ : ByteArray), .string (⟨#[]⟩ : ByteArray)]) (blk_put (cs := #[.int .i64 t.f0, .int .i64 t.f1, .int .i64 t.f2, .string t.f3.f0, .int .i64 t.f3.f1, .int .i64 t.f3.f2, .int .i64 0, .int .i64 0, .int .i64 0, .string (⟨#[]⟩ : ByteArray), .string (⟨#[]⟩ : ByteArray), .string (⟨#[]⟩ : ByteArray), .string (⟨#[]⟩ : ByteArray)]) (blk_put (cs := #[.int .i64 t.f0, .int .i64 t.f1, .int .i64 t.f2, .string t.f3.f0, .int .i64 t.f3.f1, .int .i64 0, .int .i64 0, .int .i64 0, .int .i64 0, .string (⟨#[]⟩ : ByteArray), .string (⟨#[]⟩ : ByteArray), .string (⟨#[]⟩ : ByteArray), .string (⟨#[]⟩ : ByteArray)]) (blk_put (cs := #[.int .i64 t.f0, .int .i64 t.f1, .int .i64 t.f2, .string t.f3.f0, .int .i64 0, .int .i64 0, .int .i64 0, .int .i64 0, .int .i64 0, .string (⟨#[]⟩ : ByteArray), .string (⟨#[]⟩ : ByteArray), .string (⟨#[]⟩ : ByteArray), .string (⟨#[]⟩ : ByteArray)]) (blk_put (cs := #[.int .i64 t.f0, .int .i64 t.f1, .int .i64 t.f2, .string (⟨#[]⟩ : ByteArray), .int .i64 0, .int .i64 0, .int .i64 0, .int .i64 0, .int .i64 0, .string (⟨#[]⟩ : ByteArray), .string (⟨#[]⟩ : ByteArray), .string (⟨#[]⟩ : ByteArray), .string (⟨#[]⟩ : ByteArray)]) (blk_put (cs := #[.int .i64 t.f0, .int .i64 t.f1, .int .i64 0, .string (⟨#[]⟩ : ByteArray), .int .i64 0, .int .i64 0, .int .i64 0, .int .i64 0, .int .i64 0, .string (⟨#[]⟩ : ByteArray), .string (⟨#[]⟩ : ByteArray), .string (⟨#[]⟩ : ByteArray), .string (⟨#[]⟩ : ByteArray)]) (blk_put (cs := #[.int .i64 t.f0, .int .i64 0, .int .i64 0, .string (⟨#[]⟩ : ByteArray), .int .i64 0, .int .i64 0, .int .i64 0, .int .i64 0, .int .i64 0, .string (⟨#[]⟩ : ByteArray), .string (⟨#[]⟩ : ByteArray), .string (⟨#[]⟩ : ByteArray), .string (⟨#[]⟩ : ByteArray)]) (blk_put (cs := #[.int .i64 0, .int .i64 0, .int .i64 0, .string (⟨#[]⟩ : ByteArray), .int .i64 0, .int .i64 0, .int .i64 0, .int .i64 0, .int .i64 0, .string (⟨#[]⟩ : ByteArray), .string (⟨#[]⟩ : ByteArray), .string (⟨#[]⟩ : ByteArray), .string (⟨#[]⟩ : ByteArray)]) (HZr.out) 0 _ rfl) 1 _ rfl) 2 _ rfl) 3 _ rfl) 4 _ rfl) 5 _ rfl) 6 _ rfl) 7 _ rfl) 8 _ rfl) 9 _ rfl) 10 _ rfl) 11 _ rfl) 12 _ rfl) Tryd.underlying27 rfl (by kernel_rfl)) rfl ⟨rfl, ?_⟩
      exact (Below.setCell (Below.setCell (Below.setCell (Below.setCell (Below.setCell (Below.setCell (Below.setCell (Below.setCell (Below.setCell (Below.setCell (Below.setCell (Below.setCell (Below.setCell HBr.out (p := ⟨w.heap.size, 0, none⟩) (by first | exact Nat.le_refl _ | exact Nat.le_succ _) _) (p := ⟨w.heap.size, 1, none⟩) (by first | exact Nat.le_refl _ | exact Nat.le_succ _) _) (p := ⟨w.heap.size, 2, none⟩) (by first | exact Nat.le_refl _ | exact Nat.le_succ _) _) (p := ⟨w.heap.size, 3, none⟩) (by first | exact Nat.le_refl _ | exact Nat.le_succ _) _) (p := ⟨w.heap.size, 4, none⟩) (by first | exact Nat.le_refl _ | exact Nat.le_succ _) _) (p := ⟨w.heap.size, 5, none⟩) (by first | exact Nat.le_refl _ | exact Nat.le_succ _) _) (p := ⟨w.heap.size, 6, none⟩) (by first | exact Nat.le_refl _ | exact Nat.le_succ _) _) (p := ⟨w.heap.size, 7, none⟩) (by first | exact Nat.le_refl _ | exact Nat.le_succ _) _) (p := ⟨w.heap.size, 8, none⟩) (by first | exact Nat.le_refl _ | exact Nat.le_succ _) _) (p := ⟨w.heap.size, 9, none⟩) (by first | exact Nat.le_refl _ | exact Nat.le_succ _) _) (p := ⟨w.heap.size, 10, none⟩) (by first | exact Nat.le_refl _ | exact Nat.le_succ _) _) (p := ⟨w.heap.size, 11, none⟩) (by first | exact Nat.le_refl _ | exact Nat.le_succ _) _) (p := ⟨w.heap.size, 12, none⟩) (by first | exact Nat.le_refl _ | exact Nat.le_succ _) _)
theorem trade_Parse.calls (k : Nat) (a0 : ByteArray) (r1 r2 r3 : Int) (r4 : ByteArray) (r5 r6 r7 r8 r9 : Int) (r10 r11 r12 r13 : ByteArray) (r14 : Int) (w : World) (h : trade_Parse.f k a0 = some (r1, r2, r3, r4, r5, r6, r7, r8, r9, r10, r11, r12, r13, r14)) (hGL : GlobD w) :
    Calls Tryd.prog 7 #[.string a0] w fun e w' => e = .returned (.tuple #[.agg #[.int .i64 r1, .int .i64 r2, .int .i64 r3, .string r4, .int .i64 r5, .int .i64 r6, .int .i64 r7, .int .i64 r8, .int .i64 r9, .string r10, .string r11, .string r12, .string r13], .int .i64 r14]) ∧ Below w.heap.size w w' := by
  unfold trade_Parse.f at h
  obtain ⟨p, hp, h⟩ := Option.bind_eq_some_iff.1 h
  simp only [Option.some.injEq, Prod.mk.injEq] at h
  obtain ⟨rfl, rfl, rfl, rfl, rfl, rfl, rfl, rfl, rfl, rfl, rfl, rfl, rfl, rfl⟩ := h
  exact parse_core k a0 p w hp hGL
end Go.Proofs.YthpmmofleddpnaaDoor.X
end
section
namespace Go.Proofs.YthpmmofleddpnaaDoor.X
open Go.RowKit Go.Proofs.YthpmmofleddpnaaDoorW.PrintWords Go.Proofs.YthpmmofleddpnaaDoorW.PrintLast Go.Proofs.YthpmmofleddpnaaDoorW.PrintMore
attribute [local go_sem] max2_int min2_int max_two min_two max_three min_three max_four min_four
set_option linter.unusedVariables false
set_option linter.unusedSimpArgs false
def date_here.f (a0 : Int) : Option (Bool) := if a0 ≥ 0 then (some (decide (a0 ≤ 73048))) else (some false)
set_option maxHeartbeats 8000000 in
set_option maxRecDepth 100000 in
theorem date_here.calls (a0 : Int) (r : Bool) (w : World) (h : date_here.f a0 = some r) :
    Calls Tryd.prog 94 #[.int .i64 a0] w fun e w' => e = .returned (.bool r) ∧ Drawn0 w w' := by
  have H : (if a0 ≥ 0 then (some (decide (a0 ≤ 73048))) else (some false)) = some r := h
  clear h
  by_cases c2 : a0 ≥ 0
  · rw [if_pos c2] at H
    have c2b0 : decide (0 ≤ a0) = true := decide_eq_true c2
    clear c2
    obtain rfl := Option.some.inj H
    go_enter Tryd.func94, Tryd.ntmps94
    go_wp2
    go_ret
    exact ⟨by first | rfl | (simp; done) | (simp [*]; done), by repeat (first | exact Drawn0.refl _ | apply Drawn0.step)⟩
  · rw [if_neg c2] at H
    have c2b0 : decide (0 ≤ a0) = false := decide_eq_false c2
    clear c2
    obtain rfl := Option.some.inj H
    go_enter Tryd.func94, Tryd.ntmps94
    go_wp2
    go_ret
    exact ⟨by first | rfl | (simp; done) | (simp [*]; done), by repeat (first | exact Drawn0.refl _ | apply Drawn0.step)⟩
end Go.Proofs.YthpmmofleddpnaaDoor.X
end
section
namespace Go.Proofs.YthpmmofleddpnaaDoor.X
open Go.RowKit Go.Proofs.YthpmmofleddpnaaDoorW.PrintWords Go.Proofs.YthpmmofleddpnaaDoorW.PrintLast Go.Proofs.YthpmmofleddpnaaDoorW.PrintMore
attribute [local go_sem] max2_int min2_int max_two min_two max_three min_three max_four min_four
set_option linter.unusedVariables false
set_option linter.unusedSimpArgs false
def srch (day : Int) : Nat → Nat → Nat → Nat
  | 0, i, _ => i
  | f + 1, i, j => if i < j then (if day < startV (2000 + (((i + j) / 2 : Nat) : Int) + 1) then srch day f i ((i + j) / 2) else srch day f ((i + j) / 2 + 1) j) else i
theorem srch_rng (day : Int) : ∀ (f i j : Nat), i ≤ j → i ≤ srch day f i j ∧ srch day f i j ≤ j
  | 0, i, j, h => ⟨Nat.le_refl _, h⟩
  | f + 1, i, j, h => by
    unfold srch
    by_cases c : i < j
    · rw [if_pos c]
      split
      · have := srch_rng day f i ((i + j) / 2) (by omega); omega
      · have := srch_rng day f ((i + j) / 2 + 1) j (by omega); omega
    · rw [if_neg c]; omega
theorem srch_ok (day : Int) : ∀ (f i j : Nat), i ≤ j → j - i ≤ f → (i = 0 ∨ startV (2000 + (i : Int)) ≤ day) → (j = 199 ∨ day < startV (2000 + (j : Int) + 1)) → (srch day f i j = 0 ∨ startV (2000 + (srch day f i j : Int)) ≤ day) ∧ (srch day f i j = 199 ∨ day < startV (2000 + (srch day f i j : Int) + 1))
  | 0, i, j, h, hf, h1, h2 => by
    obtain rfl : i = j := by omega
    exact ⟨h1, h2⟩
  | f + 1, i, j, h, hf, h1, h2 => by
    unfold srch
    by_cases c : i < j
    · rw [if_pos c]
      by_cases d : day < startV (2000 + (((i + j) / 2 : Nat) : Int) + 1)
      · rw [if_pos d]
        exact srch_ok day f i ((i + j) / 2) (by omega) (by omega) h1 (Or.inr d)
      · rw [if_neg d]
        refine srch_ok day f ((i + j) / 2 + 1) j (by omega) (by omega) (Or.inr ?_) h2
        have e : (2000 + (((i + j) / 2 + 1 : Nat) : Int)) = 2000 + (((i + j) / 2 : Nat) : Int) + 1 := by omega
        rw [e]
        omega
    · rw [if_neg c]
      obtain rfl : i = j := by omega
      exact ⟨h1, h2⟩
def yearK (day : Int) : Nat := srch day 199 0 199
def monAt (b : Bool) (D : Int) : Nat → Nat → Nat
  | 0, m => m
  | f + 1, m => if monLen b m ≤ D - monSum b m then monAt b D f (m + 1) else m
theorem year_len : ∀ k : Nat, k < 200 → startV (2000 + (k : Int) + 1) - startV (2000 + (k : Int)) = monSum (leapB (2000 + (k : Int))) 13 := by decide +kernel
def splitV (day : Int) : Int × Int × Int × Int := if 0 ≤ day ∧ day ≤ 73048 then (2000 + (yearK day : Int), (monAt (leapB (2000 + (yearK day : Int))) (day - startV (2000 + (yearK day : Int))) 12 1 : Int), day - startV (2000 + (yearK day : Int)) - monSum (leapB (2000 + (yearK day : Int))) (monAt (leapB (2000 + (yearK day : Int))) (day - startV (2000 + (yearK day : Int))) 12 1) + 1, 0) else (0, 0, 0, 15)
theorem year_ok {day : Int} (h : 0 ≤ day ∧ day ≤ 73048) : yearK day ≤ 199 ∧ 0 ≤ day - startV (2000 + (yearK day : Int)) ∧ day - startV (2000 + (yearK day : Int)) < monSum (leapB (2000 + (yearK day : Int))) 13 := by
  have h1 := srch_rng day 199 0 199 (by omega)
  have h2 := srch_ok day 199 0 199 (by omega) (by omega) (Or.inl rfl) (Or.inl rfl)
  have h3 := year_len (yearK day) (by unfold yearK; omega)
  unfold yearK at *
  generalize srch day 199 0 199 = k at *
  refine ⟨h1.2, ?_, ?_⟩
  · rcases h2.1 with h | h
    · subst h
      have : startV (2000 + ((0 : Nat) : Int)) = 0 := by decide
      omega
    · omega
  · rcases h2.2 with h | h
    · subst h
      have : startV (2000 + ((199 : Nat) : Int) + 1) = 73049 := by decide
      omega
    · omega
set_option maxHeartbeats 1600000 in
set_option maxRecDepth 100000 in
theorem split_lit (day : Int) (h : Nat) (hh : h < 199) (g : Nat) (w : World) (hg : w.heap[g]? = some (.cells #[.int .i64 day] 3 (0, 0))) :
    Calls Tryd.prog 96 #[.int .i64 (h : Int), .pointer (some ⟨g, 0, none⟩)] w fun e w' => e = .returned (.bool (decide (day < startV (2000 + (h : Int) + 1)))) ∧ Below w.heap.size w w' := by
  have hS : w.drew.cell? ⟨g, 0, none⟩ = some (.int .i64 day) := blk_cell hg 0
  have HS := Aside0.mk hS
  have HY := Aside0.mk (show 1 ≤ 2000 + (h : Int) + 1 ∧ 2000 + (h : Int) + 1 ≤ 100000 by omega)
  have w1 : wrap64 (2000 + (h : Int)) = 2000 + (h : Int) := by unfold wrap64; omega
  have w2 : wrap64 (2000 + (h : Int) + 1) = 2000 + (h : Int) + 1 := by unfold wrap64; omega
  have HB := Aside0.mk (below_drew1 (Below.refl w.heap.size w))
  clear hS hg hh
  go_enter Tryd.func96, Tryd.ntmps96
  go_wp2_with fail
  refine start_ (n := 7) (S := fun w' => w'.cell? ⟨g, 0, none⟩ = some (.int .i64 day)) (ds := []) #[false, false, false, false, false, false, false] (by kernel_rfl) rfl rfl HS.out (fun hHeld => ?_)
  generalize w.drew = w21 at HB hHeld ⊢
  clear HS
  refine pure_ (i := 0) (N := some 4) (v := ?_) (a' := ?_) #[true, false, false, false, false, false, false] rfl rfl (by kernel_rfl) (fun _ _ _ h => h) (Or.inl ⟨by rfl, ?_⟩) ?_ ?_
  rotate_left
  · intro w'
    go_simp
    with_reducible rfl
  rotate_left
  · simp only [Act.put, List.setIfInBounds_toArray, List.set_cons_zero, List.set_cons_succ, i64_w, i32_w]
    rfl
  refine pure_ (i := 1) (N := some 5) (v := ?_) (a' := ?_) #[true, true, false, false, false, false, false] rfl rfl (by kernel_rfl) (fun _ _ _ h => h) (Or.inl ⟨by rfl, ?_⟩) ?_ ?_
  rotate_left
  · intro w'
    go_simp
    with_reducible rfl
  rotate_left
  · simp only [Act.put, List.setIfInBounds_toArray, List.set_cons_zero, List.set_cons_succ, i64_w, i32_w]
    rfl
  refine pure_ (i := 2) (N := some 6) (v := ?_) (a' := ?_) #[true, true, true, false, false, false, false] rfl rfl (by kernel_rfl) (fun _ _ _ h => h) (Or.inl ⟨by rfl, ?_⟩) ?_ ?_
  rotate_left
  · intro w'
    go_simp
    with_reducible rfl
  rotate_left
  · simp only [Act.put, List.setIfInBounds_toArray, List.set_cons_zero, List.set_cons_succ, i64_w, i32_w]
    rfl
  refine take_ (i := 4) (N := some 8) (v := ?_) (a' := ?_) #[true, true, true, false, true, false, false] rfl rfl (by kernel_rfl) (fun _ _ _ h => h) (Or.inl ⟨by rfl, ?_⟩) hHeld ?_ ?_
  rotate_left
  · intro w' s0
    go_simp
    with_reducible rfl
  rotate_left
  · simp only [Act.put, List.setIfInBounds_toArray, List.set_cons_zero, List.set_cons_succ, i64_w, i32_w]
    rfl
  refine one_ (i := 3) (N := some 7) #[true, true, true, true, true, false, false] rfl rfl (by kernel_rfl) (by decide) (fun K hK => ?_)
  refine goes_ Tryd.func72 (by kernel_rfl) rfl #[.int .i64 (wrap64 (2000 + (h : Int) + 1))] (by rfl) rfl rfl (by (try simp only [List.map_toArray, List.map_cons, List.map_nil]); first | done | rfl | (simp only [List.length_drop, List.length_take]; rfl)) ?_
  rw [w2]
  refine (start_lit _ HY.out.1 HY.out.2 _).mono ?_
  rintro e w22 ⟨rfl, rfl⟩
  refine ⟨_, rfl, ?_⟩
  refine hK.out _ _ hHeld (fun hHeld => ?_)
  clear hK K
  refine norm_ (a' := ?_) ?_ ?_
  rotate_left
  · show Act.put _ (some 7) _ = _
    simp only [Act.put, List.setIfInBounds_toArray, List.set_cons_zero, List.set_cons_succ, i64_w, i32_w]
    rfl
  refine pure_ (i := 5) (N := some 9) (v := ?_) (a' := ?_) #[true, true, true, true, true, true, false] rfl rfl (by kernel_rfl) (fun _ _ _ h => h) (Or.inl ⟨by rfl, ?_⟩) ?_ ?_
  rotate_left
  · intro w'
    go_simp
    with_reducible rfl
  rotate_left
  · simp only [Act.put, List.setIfInBounds_toArray, List.set_cons_zero, List.set_cons_succ, i64_w, i32_w]
    rfl
  refine pure_ (i := 6) (N := some 3) (v := ?_) (a' := ?_) #[true, true, true, true, true, true, true] rfl rfl (by kernel_rfl) (fun _ _ _ h => h) (Or.inl ⟨by rfl, ?_⟩) ?_ ?_
  rotate_left
  · intro w'
    go_simp
    with_reducible rfl
  rotate_left
  · simp only [Act.put, List.setIfInBounds_toArray, List.set_cons_zero, List.set_cons_succ, i64_w, i32_w]
    rfl
  refine done_ (by kernel_rfl) ?_
  go_wp2_with fail
  go_ret
  exact ⟨rfl, HB.out⟩
set_option maxHeartbeats 1600000 in
set_option maxRecDepth 100000 in
theorem search_calls (day : Int) (g : Nat) (w : World) (hg : w.heap[g]? = some (.cells #[.int .i64 day] 3 (0, 0))) :
    Calls Tryd.prog 95 #[.int .i64 199, .func (.func 96) #[] #[.pointer (some ⟨g, 0, none⟩)]] w fun e w' => e = .returned (.int .i64 (yearK day : Int)) ∧ Below w.heap.size w w' := by
  have HG := Aside0.mk hg
  clear hg
  go_enter Tryd.func95, Tryd.ntmps95
  go_wp2_with fail
  go_loopg [5, 6] 199 (fun kq v5 v6 wr => ∃ i j : Nat, v5 = .int .i64 (i : Int) ∧ v6 = .int .i64 (j : Int) ∧ Aside0 (i ≤ j ∧ j ≤ 199 ∧ j - i ≤ kq) ∧ Aside0 (srch day kq i j = yearK day) ∧ Aside0 (Below w.heap.size w wr))
  case atStart => exact ⟨0, 199, rfl, rfl, ⟨by omega, by omega, by omega⟩, ⟨rfl⟩, ⟨Below.refl _ _⟩⟩
  case round =>
    obtain ⟨i, j, rfl, rfl, HI, HF, HB⟩ := hrel
    obtain ⟨i1, i2, i3⟩ := HI.out
    by_cases hlt : i < j
    · obtain ⟨k', rfl⟩ : ∃ k', gk = k' + 1 := ⟨gk - 1, by omega⟩
      have hf := HF.out
      rw [srch, if_pos hlt] at hf
      have hij : (i : Int) < (j : Int) := by omega
      obtain ⟨mid, hm⟩ : ∃ mid, (i + j) / 2 = mid := ⟨_, rfl⟩
      rw [hm] at hf
      have hmw : wrap64 ((IntKind.u64.wrap (wrap64 ((i : Int) + (j : Int)))) / 2) = (mid : Int) := by
        simp only [IntKind.wrap, IntKind.signed, IntKind.bits, wrap64]
        simp
        omega
      have HM := Aside0.mk (show mid < 199 ∧ i ≤ mid ∧ mid < j by omega)
      have hwm : wrap64 ((mid : Int) + 1) = (mid : Int) + 1 := by have := HM.out; unfold wrap64; omega
      by_cases c : day < startV (2000 + (mid : Int) + 1)
      · rw [if_pos c] at hf
        have HC := Aside0.mk (decide_eq_true c)
        have HF2 := Aside0.mk hf
        clear hf c hm hlt i1 i2 i3
        go_wp2_with (go_at_call 96; refine (split_lit day mid HM.out.1 g _ (blk_below HG.out HB.out)).mono ?_; rw [HC.out]; rintro e1 w1 ⟨rfl, hb1⟩; have HB3 := Aside0.mk (below_step HB.out hb1); clear hb1)
        go_roundg k'
        case measure => omega
        case rel => exact ⟨i, mid, rfl, rfl, ⟨by have := HM.out; have := HI.out; omega⟩, HF2, HB3⟩
      · rw [if_neg c] at hf
        have HC := Aside0.mk (decide_eq_false c)
        have HF2 := Aside0.mk hf
        clear hf c hm hlt i1 i2 i3
        go_wp2_with (go_at_call 96; refine (split_lit day mid HM.out.1 g _ (blk_below HG.out HB.out)).mono ?_; rw [HC.out]; rintro e1 w1 ⟨rfl, hb1⟩; have HB3 := Aside0.mk (below_step HB.out hb1); clear hb1)
        go_roundg k'
        case measure => omega
        case rel => exact ⟨mid + 1, j, by go_num, rfl, ⟨by have := HM.out; have := HI.out; omega⟩, HF2, HB3⟩
    · have he : yearK day = i := by
        have hf := HF.out
        cases gk with
        | zero => rw [← hf]; rfl
        | succ k' => rw [srch, if_neg hlt] at hf; exact hf.symm
      have HE := Aside0.mk he
      have hij : ¬ (i : Int) < (j : Int) := by omega
      have hijd := decide_eq_false hij
      clear he hlt
      go_wp2_with fail
      go_ret
      exact ⟨by rw [HE.out]; rfl, HB.out⟩
def date_Split.f (day : Int) : Option (Int × Int × Int × Int) := some (splitV day)
theorem monAt_ok (b : Bool) (D : Int) (h0 : 0 ≤ D) (h1 : D < monSum b 13) : ∀ (f m : Nat), m + f = 13 → 1 ≤ m → m ≤ 12 → monSum b m ≤ D → 1 ≤ monAt b D f m ∧ monAt b D f m ≤ 12
  | 0, m, hf, a, c, hs => by omega
  | f + 1, m, hf, a, c, hs => by
    unfold monAt
    by_cases d : monLen b m ≤ D - monSum b m
    · rw [if_pos d]
      have e : monSum b (m + 1) = monSum b m + monLen b m := rfl
      by_cases c2 : m + 1 ≤ 12
      · exact monAt_ok b D h0 h1 f (m + 1) (by omega) (by omega) c2 (by omega)
      · have : m + 1 = 13 := by omega
        rw [this] at e
        omega
    · rw [if_neg d]
      exact ⟨a, c⟩
set_option maxHeartbeats 3200000 in
set_option maxRecDepth 100000 in
theorem date_Split.calls (a0 : Int) (r1 r2 r3 r4 : Int) (w : World) (h : date_Split.f a0 = some (r1, r2, r3, r4)) (hGL : GlobD w) :
    Calls Tryd.prog 80 #[.int .i64 a0] w fun e w' => e = .returned (.tuple #[.int .i64 r1, .int .i64 r2, .int .i64 r3, .int .i64 r4]) ∧ Below w.heap.size w w' := by
  have hv := Option.some.inj h
  have HGL := Aside0.mk hGL
  have HBA := Aside0.mk (below_alloc (Below.refl w.heap.size w) (.cells #[.int .i64 a0] 3))
  clear h hGL
  unfold splitV at hv
  by_cases c : 0 ≤ a0 ∧ a0 ≤ 73048
  case neg =>
    rw [if_neg c] at hv
    simp only [Prod.mk.injEq] at hv
    obtain ⟨rfl, rfl, rfl, rfl⟩ := hv
    have hf : date_here.f a0 = some false := by
      unfold date_here.f
      by_cases c1 : a0 ≥ 0
      · simp only [if_pos c1]
        rw [decide_eq_false (by omega)]
      · simp only [if_neg c1]
    have HF := Aside0.mk hf
    clear hf c
    go_enter Tryd.func80, Tryd.ntmps80
    go_wp2_with (go_at_call 94; refine (date_here.calls a0 false _ HF.out).mono ?_; rintro e w1 ⟨rfl, hd⟩; have HB := Aside0.mk (below_step HBA.out hd.below); clear hd)
    refine bodyPost_ret (v := .tuple #[.int .i64 0, .int .i64 0, .int .i64 0, .int .i64 15]) (by simp [results, Tryd.results80, go_sem]) rfl ⟨rfl, HB.out⟩
  rw [if_pos c] at hv
  have hf : date_here.f a0 = some true := by
    unfold date_here.f
    simp only [if_pos c.1]
    rw [decide_eq_true (by omega)]
  have HF := Aside0.mk hf
  obtain ⟨y1, y2, y3⟩ := year_ok c
  have HV := Aside0.mk hv
  have HY := Aside0.mk y1
  have HD := Aside0.mk (show 0 ≤ a0 - startV (2000 + (yearK a0 : Int)) ∧ a0 - startV (2000 + (yearK a0 : Int)) < monSum (leapB (2000 + (yearK a0 : Int))) 13 from ⟨y2, y3⟩)
  have wy : wrap64 (2000 + (yearK a0 : Int)) = 2000 + (yearK a0 : Int) := by unfold wrap64; omega
  have HS := Aside0.mk (startV_rng (y := 2000 + (yearK a0 : Int)) (by omega) (by omega))
  have HR := Aside0.mk c
  clear hf hv c y1 y2 y3
  go_enter Tryd.func80, Tryd.ntmps80
  go_wp2_with (first | (go_at_call 94; refine (date_here.calls a0 true _ HF.out).mono ?_; rintro e w1 ⟨rfl, hd⟩; have HB := Aside0.mk (below_step HBA.out hd.below); have HG1 := Aside0.mk (blk_below (blk_new w (.cells #[.int .i64 a0] 3)) hd.below); have hx1 : w1.cell? ⟨w.heap.size, 0, none⟩ = some (.int .i64 a0) := blk_cell HG1.out 0; clear hd) | (go_at_call 95; refine (search_calls a0 w.heap.size _ HG1.out).mono ?_; rintro e w2 ⟨rfl, hb⟩; have HB2 := Aside0.mk (below_step HB.out hb); have HG2 := Aside0.mk (blk_below HG1.out hb); clear hb))
  have hYD := HS.out
  have hDD := HD.out
  obtain ⟨Y, hYe⟩ : ∃ Y : Int, 2000 + (yearK a0 : Int) = Y := ⟨_, rfl⟩
  have HYY := Aside0.mk (show 1 ≤ Y ∧ Y ≤ 100000 by have := HY.out; omega)
  rw [hYe] at HV HD HS wy hYD hDD ⊢
  rw [wy]
  have hwd : wrap64 (a0 - startV Y) = a0 - startV Y := by have := HR.out; unfold wrap64; omega
  have HWD := Aside0.mk hwd
  have hS : w2.drew.cell? ⟨w.heap.size, 0, none⟩ = some (.int .i64 a0) := blk_cell HG2.out 0
  have HSS := Aside0.mk hS
  have HGD := Aside0.mk (glob_far HGL.out (Nat.le_refl _) (below_drew1 HB2.out))
  have HBd := Aside0.mk (below_drew1 HB2.out)
  clear hS hYD hDD hwd wy
  refine start_ (n := 6) (S := fun w' => w'.cell? ⟨w.heap.size, 0, none⟩ = some (.int .i64 a0)) (ds := []) #[false, false, false, false, false, false] (by kernel_rfl) rfl rfl HSS.out (fun hHeld => ?_)
  generalize w2.drew = wd at HGD HBd hHeld ⊢
  clear HSS
  refine take_ (i := 0) (N := some 13) (v := ?_) (a' := ?_) #[true, false, false, false, false, false] rfl rfl (by kernel_rfl) (fun _ _ _ h => h) (Or.inl ⟨by rfl, ?_⟩) hHeld ?_ ?_
  rotate_left
  · intro w' s0
    go_simp
    with_reducible rfl
  rotate_left
  · simp only [Act.put, List.setIfInBounds_toArray, List.set_cons_zero, List.set_cons_succ, i64_w, i32_w]
    rfl
  refine pure_ (i := 1) (N := some 14) (v := ?_) (a' := ?_) #[true, true, false, false, false, false] rfl rfl (by kernel_rfl) (fun _ _ _ h => h) (Or.inl ⟨by rfl, ?_⟩) ?_ ?_
  rotate_left
  · intro w'
    go_simp
    with_reducible rfl
  rotate_left
  · simp only [Act.put, List.setIfInBounds_toArray, List.set_cons_zero, List.set_cons_succ, i64_w, i32_w]
    rfl
  refine one_ (i := 2) (N := some 15) #[true, true, true, false, false, false] rfl rfl (by kernel_rfl) (by decide) (fun K hK => ?_)
  refine goes_ Tryd.func72 (by kernel_rfl) rfl #[.int .i64 Y] (by rfl) rfl rfl (by (try simp only [List.map_toArray, List.map_cons, List.map_nil]); first | done | rfl | (simp only [List.length_drop, List.length_take]; rfl)) ?_
  refine (start_lit _ HYY.out.1 HYY.out.2 _).mono ?_
  rintro e w22 ⟨rfl, rfl⟩
  refine ⟨_, rfl, ?_⟩
  refine hK.out _ _ hHeld (fun hHeld => ?_)
  clear hK K
  refine norm_ (a' := ?_) ?_ ?_
  rotate_left
  · show Act.put _ (some 15) _ = _
    simp only [Act.put, List.setIfInBounds_toArray, List.set_cons_zero, List.set_cons_succ, i64_w, i32_w]
    rfl
  refine pure_ (i := 3) (N := some 16) (v := ?_) (a' := ?_) #[true, true, true, true, false, false] rfl rfl (by kernel_rfl) (fun _ _ _ h => h) (Or.inl ⟨by rfl, ?_⟩) ?_ ?_
  rotate_left
  · intro w'
    go_simp
    with_reducible rfl
  rotate_left
  · simp only [Act.put, List.setIfInBounds_toArray, List.set_cons_zero, List.set_cons_succ, i64_w, i32_w]
    rfl
  refine pure_ (i := 4) (N := some 3) (v := ?_) (a' := ?_) #[true, true, true, true, true, false] rfl rfl (by kernel_rfl) (fun _ _ _ h => h) (Or.inl ⟨by rfl, ?_⟩) ?_ ?_
  rotate_left
  · intro w'
    go_simp
    with_reducible rfl
  rotate_left
  · simp only [Act.put, List.setIfInBounds_toArray, List.set_cons_zero, List.set_cons_succ, i64_w, i32_w]
    rfl
  refine pure_ (i := 5) (N := some 4) (v := ?_) (a' := ?_) #[true, true, true, true, true, true] rfl rfl (by kernel_rfl) (fun _ _ _ h => h) (Or.inl ⟨by rfl, ?_⟩) ?_ ?_
  rotate_left
  · intro w'
    go_simp
    with_reducible rfl
  rotate_left
  · simp only [Act.put, List.setIfInBounds_toArray, List.set_cons_zero, List.set_cons_succ, i64_w, i32_w]
    rfl
  refine done_ (by kernel_rfl) ?_
  rw [HWD.out]
  obtain ⟨D, hDe⟩ : ∃ D : Int, a0 - startV Y = D := ⟨_, rfl⟩
  rw [hDe] at HV HD ⊢
  clear hHeld hDe hYe
  go_wp2_with (go_at_call 73; refine (month_calls Y _).mono ?_; rintro e w3 ⟨g, rfl, hg1, hg2, hb⟩; have HGM := Aside0.mk hg2; have HG3 := Aside0.mk (glob_of HGD.out hb); have HB3 := Aside0.mk (below_step HBd.out hb); clear hg1 hg2 hb)
  generalize hLB : leapB Y = b at HV HD HGM
  clear hLB
  have hM1 := monSum_one b
  have HM1 := Aside0.mk hM1
  clear hM1
  go_loopg [3, 4] 12 (fun kq v3 v4 wr => ∃ m : Nat, v3 = .int .i64 (m : Int) ∧ v4 = .int .i64 (D - monSum b m) ∧ Aside0 (m + kq = 13) ∧ Aside0 (1 ≤ m ∧ m ≤ 12) ∧ Aside0 (monSum b m ≤ D) ∧ Aside0 (monAt b D kq m = monAt b D 12 1) ∧ wr = w3)
  case atStart => exact ⟨1, rfl, congrArg (Value.int .i64) (by rw [HM1.out]; omega), ⟨rfl⟩, ⟨by omega⟩, ⟨by rw [HM1.out]; exact HD.out.1⟩, ⟨rfl⟩, rfl⟩
  case round =>
    obtain ⟨m, rfl, rfl, HK, HM, HSM, HAT, rfl⟩ := hrel
    obtain ⟨k', rfl⟩ : ∃ k', gk = k' + 1 := ⟨gk - 1, by have := HK.out; have := HM.out; omega⟩
    have hat := HAT.out
    rw [monAt] at hat
    have hrn := monSum_rng b m
    have hln := monLen_rng b m
    have h13 := monSum_rng b 13
    have hdd := HD.out
    have hmm := HM.out
    have HJ := Aside0.mk (show m < 13 by omega)
    by_cases d : monLen b m ≤ D - monSum b m
    · rw [if_pos d] at hat
      have e : monSum b (m + 1) = monSum b m + monLen b m := rfl
      have hlt : m + 1 ≤ 12 := by
        by_cases c2 : m + 1 ≤ 12
        · exact c2
        · have e13 : m + 1 = 13 := by omega
          rw [e13] at e
          omega
      have HLT := Aside0.mk hlt
      have HAT2 := Aside0.mk hat
      have HSM2 := Aside0.mk (show monSum b (m + 1) ≤ D by omega)
      have HE := Aside0.mk e
      have dd := decide_eq_true d
      have w5 : wrap64 (D - monSum b m - monLen b m) = D - monSum b m - monLen b m := by unfold wrap64; omega
      have w6 : wrap64 ((m : Int) + 1) = (m : Int) + 1 := by unfold wrap64; omega
      have W5 := Aside0.mk w5
      clear hat hrn hln h13 hdd hmm d e hlt w5
      go_wp2_with (go_at_call 88; refine (mon_lit b m HJ.out g _ HGM.out HG3.out).mono ?_; rintro e2 w7 ⟨rfl, rfl⟩)
      go_roundg k'
      case measure => omega
      case rel => exact ⟨m + 1, by go_num, congrArg (Value.int .i64) (by first | (rw [W5.out, HE.out]; omega) | (rw [HE.out]; omega)), ⟨by have := HK.out; omega⟩, ⟨by have := HLT.out; omega⟩, HSM2, HAT2, rfl⟩
    · rw [if_neg d] at hat
      have HAT2 := Aside0.mk hat
      have dd := decide_eq_false d
      have w5 : wrap64 (D - monSum b m + 1) = D - monSum b m + 1 := by unfold wrap64; omega
      have hv := HV.out
      rw [← hat] at hv
      simp only [Prod.mk.injEq] at hv
      obtain ⟨e1, e2, e3, e4⟩ := hv
      have HV2 := Aside0.mk (And.intro e1 (And.intro e2 (And.intro e3 e4)))
      have W5 := Aside0.mk w5
      clear hat hrn hln h13 hdd hmm d e1 e2 e3 e4 w5
      go_wp2_with (go_at_call 88; refine (mon_lit b m HJ.out g _ HGM.out HG3.out).mono ?_; rintro e2 w7 ⟨rfl, rfl⟩)
      obtain ⟨e1, e2, e3, e4⟩ := HV2.out
      refine bodyPost_ret (v := .tuple #[.int .i64 Y, .int .i64 (m : Int), .int .i64 (D - monSum b m + 1), .int .i64 0]) (by simp [results, Tryd.results80, go_sem, W5.out]) rfl ⟨by rw [e1, e2, e3, e4], HB3.out⟩
end Go.Proofs.YthpmmofleddpnaaDoor.X
end
section
namespace Go.Proofs.YthpmmofleddpnaaDoor.X
open Go.RowKit Go.Proofs.YthpmmofleddpnaaDoorW.PrintWords Go.Proofs.YthpmmofleddpnaaDoorW.PrintLast Go.Proofs.YthpmmofleddpnaaDoorW.PrintMore
attribute [local go_sem] max2_int min2_int max_two min_two max_three min_three max_four min_four
set_option linter.unusedVariables false
set_option linter.unusedSimpArgs false
theorem list_insert_own {H : Type} {P : Program} (w : World) {ops : Array Oper} {rest : List Oper} {o : Oper} {a : Act} {Q : Exit → Act → World → Prop}
    (hg : o.guard = none) (m x v : Operand) (t : TypeId) (hop : o.op = Op.insert t m x v)
    (k e : TypeId) (K : Maps.Keyed P k) (ht : P.underlying t = some (.map k e)) (R : Value → Option (DataW H × List MemPlace)) (b n : Nat) (D : DataW H)
    (hm : a.eval m = .map (some b)) (hown : w.ownsMap P k R b n D) (hn : n < maxLen) (key val : Value) (kl : Lit) (hx : a.eval x = key) (hv : a.eval v = val) (hkey : keyOf P k key = some kl)
    (d : DataW H) (ps : List MemPlace) (hval : R val = some (d, ps))
    (hK : ∀ w', w'.ownsMap P k R b (n + 1) (D.put kl d) → w.grownBy w' (some b) → wpList P ops Q rest (a.put o.dst undef) w') :
    wpList P ops Q (o :: rest) a w := by
  refine wpList_plain hg fun K' hK' => ?_
  obtain ⟨w', hrun, r1, r2⟩ := hown.update K ht hn hkey hval
  unfold Oper.wp
  simp [execOp, hop, hm, hx, hv, hrun, Result.andThen]
  exact hK' _ _ (hK w' r1 r2)
def fillD : Nat → List Int → Int → Int → List Int
  | 0, xs, _, _ => xs
  | f + 1, xs, k, n => if 0 < n then fillD f (xs.set k.toNat (48 + n % 10)) (k - 1) (n / 10) else xs
def dateC (y m d : Int) (l3 l6 l9 : Bool) : List Int := [if l3 then 48 else 48 + y / 1000 % 10, if l3 then 48 else 48 + y / 100 % 10, if l3 then 48 else 48 + y / 10 % 10, if l3 then 48 else 48 + y % 10, 45, if l6 then 48 else 48 + m / 10 % 10, if l6 then 48 else 48 + m % 10, 45, if l9 then 48 else 48 + d / 10 % 10, if l9 then 48 else 48 + d % 10]
theorem fill_y {y m d : Int} (h1 : 1000 ≤ y) (h2 : y ≤ 9999) (l6 l9 : Bool) : fillD 5 (dateC y m d true l6 l9) 3 y = dateC y m d false l6 l9 := by
  have e3 : y / 10 / 10 = y / 100 := by omega
  have e4 : y / 10 / 10 / 10 = y / 1000 := by omega
  have e5 : y / 10 / 10 / 10 / 10 = 0 := by omega
  simp only [fillD]
  rw [if_pos (by omega), if_pos (by omega), if_pos (by omega), if_pos (by omega), if_neg (by omega)]
  have e6 : y / 100 / 10 = y / 1000 := by omega
  simp only [e3, e6, dateC]
  rfl
theorem fill_two {n : Int} (h1 : 1 ≤ n) (h2 : n ≤ 99) (xs : List Int) (p : Nat) (hp : 1 ≤ p) (h48 : xs[p - 1]? = some 48) : fillD 5 xs p n = (xs.set p (48 + n % 10)).set (p - 1) (48 + n / 10 % 10) := by
  have e1 : ((p : Int)).toNat = p := by omega
  have e2 : ((p : Int) - 1).toNat = p - 1 := by omega
  by_cases c : n < 10
  · simp only [fillD]
    rw [if_pos (by omega), if_neg (by omega), e1, show n / 10 % 10 = 0 by omega]
    rw [List.set_comm _ _ (by omega)]
    congr 1
    rw [show (48 + 0 : Int) = 48 from rfl]
    apply List.ext_getElem?
    intro i
    rw [List.getElem?_set]
    by_cases ci : p - 1 = i
    · subst ci
      obtain ⟨hl, _⟩ := List.getElem?_eq_some_iff.1 h48
      rw [if_pos rfl, if_pos hl, h48]
    · rw [if_neg ci]
  · simp only [fillD]
    rw [if_pos (by omega), if_pos (by omega), if_neg (by omega), e1, e2]
theorem fill_m {y m d : Int} (h1 : 1 ≤ m) (h2 : m ≤ 99) (l3 l9 : Bool) : fillD 5 (dateC y m d l3 true l9) 6 m = dateC y m d l3 false l9 := by
  have := fill_two h1 h2 (dateC y m d l3 true l9) 6 (by decide) rfl
  rw [show ((6 : Nat) : Int) = 6 from rfl] at this
  rw [this]
  rfl
theorem fill_d {y m d : Int} (h1 : 1 ≤ d) (h2 : d ≤ 99) (l3 l6 : Bool) : fillD 5 (dateC y m d l3 l6 true) 9 d = dateC y m d l3 l6 false := by
  have := fill_two h1 h2 (dateC y m d l3 l6 true) 9 (by decide) rfl
  rw [show ((9 : Nat) : Int) = 9 from rfl] at this
  rw [this]
  rfl
theorem split_rng {day : Int} (h : 0 ≤ day ∧ day ≤ 73048) : 2000 ≤ (splitV day).1 ∧ (splitV day).1 ≤ 2199 ∧ 1 ≤ (splitV day).2.1 ∧ (splitV day).2.1 ≤ 12 ∧ 1 ≤ (splitV day).2.2.1 ∧ (splitV day).2.2.2 = 0 := by
  obtain ⟨h1, h2, h3⟩ := year_ok h
  unfold splitV
  rw [if_pos h]
  have hm := monAt_ok (leapB (2000 + (yearK day : Int))) (day - startV (2000 + (yearK day : Int))) h2 h3 12 1 (by omega) (by omega) (by omega) (by rw [monSum_one]; exact h2)
  refine ⟨by show 2000 ≤ 2000 + (yearK day : Int); omega, by show 2000 + (yearK day : Int) ≤ 2199; omega, ?_, ?_, ?_, rfl⟩
  · show (1 : Int) ≤ ((monAt _ _ 12 1 : Nat) : Int); omega
  · show ((monAt _ _ 12 1 : Nat) : Int) ≤ 12; omega
  · show (1 : Int) ≤ _ - monSum _ (monAt _ _ 12 1) + 1
    have : ∀ (b : Bool) (D : Int) (f m : Nat), monSum b m ≤ D → monSum b (monAt b D f m) ≤ D := by
      intro b D f
      induction f with
      | zero => exact fun m h => h
      | succ f ih =>
        intro m h
        unfold monAt
        split
        · rename_i c
          exact ih (m + 1) (by show monSum b m + monLen b m ≤ D; omega)
        · exact h
    have := this (leapB (2000 + (yearK day : Int))) (day - startV (2000 + (yearK day : Int))) 12 1 (by rw [monSum_one]; exact h2)
    omega
theorem monAt_lt (b : Bool) (D : Int) (h1 : D < monSum b 13) : ∀ (f m : Nat), m + f = 13 → D - monSum b (monAt b D f m) < 32 := by
  intro f
  induction f with
  | zero => intro m h; have : m = 13 := by omega
            subst this
            show D - monSum b 13 < 32
            omega
  | succ f ih =>
    intro m h
    unfold monAt
    split
    · exact ih (m + 1) (by omega)
    · rename_i c
      have := monLen_rng b m
      omega
theorem split_day {day : Int} (h : 0 ≤ day ∧ day ≤ 73048) : (splitV day).2.2.1 ≤ 99 := by
  obtain ⟨h1, h2, h3⟩ := year_ok h
  unfold splitV
  rw [if_pos h]
  show _ - monSum _ (monAt _ _ 12 1) + 1 ≤ (99 : Int)
  have := monAt_lt (leapB (2000 + (yearK day : Int))) (day - startV (2000 + (yearK day : Int))) h3 12 1 (by omega)
  omega
def date_Print.f (day : Int) : Option ByteArray := some (if 0 ≤ day ∧ day ≤ 73048 then strOfNums (dateC (splitV day).1 (splitV day).2.1 (splitV day).2.2.1 false false false) else (⟨#[]⟩ : ByteArray))
theorem wf_of {n : Int} (h1 : -9223372036854775808 ≤ n) (h2 : n ≤ 9223372036854775807) : (Lit.int .i64 n).wf = true := by
  simp [Lit.wf, IntKind.min, IntKind.max, IntKind.signed, IntKind.bits]
  omega
def bytesV (xs : List Int) : Array Value := (xs.map (Value.int .u8)).toArray
theorem blk_cellF {w : World} {g : Nat} {cs : Array Value} {t : TypeId} {fr : Nat × Nat} (h : w.heap[g]? = some (.cells cs t fr)) (j : Nat) : w.cell? ⟨g, j, none⟩ = cs[j]? := by
  simp [World.cell?, h]
theorem bytesV_at {xs : List Int} {i : Nat} (h : i < xs.length) : (bytesV xs)[i]? = some (.int .u8 (xs.getD i 0)) := by
  unfold bytesV
  simp [h]
theorem pow10_le : ∀ p : Nat, p < 10 → (10 : Int) ^ (p + 1) ≤ 10000000000 := by decide +kernel
theorem blk_frozenF {w : World} {g j : Nat} {cs : Array Value} {t : TypeId} (h : w.heap[g]? = some (.cells cs t (10, 11))) (hj : j < 10) : w.frozen? ⟨g, j, none⟩ = false := by
  simp [World.frozen?, h]
  omega
theorem blk_setF {w : World} {g : Nat} {xs : List Int} {t : TypeId} (h : w.heap[g]? = some (.cells (bytesV xs) t (10, 11))) (i : Nat) (u : Int) : (w.setCell ⟨g, i, none⟩ (.int .u8 u)).heap[g]? = some (.cells (bytesV (xs.set i u)) t (10, 11)) := by
  have e : (bytesV xs).setIfInBounds i (.int .u8 u) = bytesV (xs.set i u) := by
    unfold bytesV
    simp [List.map_set]
  simp [World.setCell, Array.getElem?_modify, h, e]
theorem grownBy_setCellF (W : World) (b i : Nat) (v : Value) : W.grownBy (W.setCell ⟨b, i, none⟩ v) (some b) :=
  ⟨rfl, rfl, rfl, (by simp [World.setCell]), fun k _ hk => Below.heap_setCell _ _ _ k (fun e => hk (by rw [e]))⟩
theorem key_cases {y m d x c : Int} (hat : ∀ zd : DataW Unit, ((((.map [] : DataW Unit).put (.int .i64 3) (.lit (.int .i64 y))).put (.int .i64 6) (.lit (.int .i64 m))).put (.int .i64 9) (.lit (.int .i64 d))).atKey (.int .i64 x) zd = .lit (.int .i64 c)) : (x = 3 ∧ c = y) ∨ (x = 6 ∧ c = m) ∨ (x = 9 ∧ c = d) := by
  have h := hat .nil
  have ne : ∀ k : Int, x ≠ k → (Lit.int .i64 x) ≠ .int .i64 k := fun k e h => by injection h with _ h; exact e h
  by_cases c9 : x = 9
  · subst c9
    rw [Maps.atKey_put_same (D := (((.map [] : DataW Unit).put (.int .i64 3) (.lit (.int .i64 y))).put (.int .i64 6) (.lit (.int .i64 m)))) (k := .int .i64 9) ⟨_, rfl⟩ (by trivial) (.lit (.int .i64 d)) .nil] at h
    injection h with h
    injection h with _ h
    exact Or.inr (Or.inr ⟨rfl, h.symm⟩)
  rw [Maps.atKey_put_other (ne 9 c9)] at h
  by_cases c6 : x = 6
  · subst c6
    rw [Maps.atKey_put_same (D := ((.map [] : DataW Unit).put (.int .i64 3) (.lit (.int .i64 y)))) (k := .int .i64 6) ⟨_, rfl⟩ (by trivial) (.lit (.int .i64 m)) .nil] at h
    injection h with h
    injection h with _ h
    exact Or.inr (Or.inl ⟨rfl, h.symm⟩)
  rw [Maps.atKey_put_other (ne 6 c6)] at h
  by_cases c3 : x = 3
  · subst c3
    rw [Maps.atKey_put_same (D := (.map [] : DataW Unit)) (k := .int .i64 3) ⟨_, rfl⟩ (by trivial) (.lit (.int .i64 y)) .nil] at h
    injection h with h
    injection h with _ h
    exact Or.inl ⟨rfl, h.symm⟩
  rw [Maps.atKey_put_other (ne 3 c3)] at h
  cases h
set_option maxHeartbeats 3200000 in
set_option maxRecDepth 100000 in
theorem date_Print.calls (a0 : Int) (r : ByteArray) (w : World) (h : date_Print.f a0 = some r) (hGL : GlobD w) :
    Calls Tryd.prog 62 #[.int .i64 a0] w fun e w' => e = .returned (.string r) ∧ Below w.heap.size w w' := by
  obtain rfl := Option.some.inj h
  have HGL := Aside0.mk hGL
  clear h hGL
  by_cases c : 0 ≤ a0 ∧ a0 ≤ 73048
  case neg =>
    rw [if_neg c]
    have hs : date_Split.f a0 = some (0, 0, 0, 15) := by unfold date_Split.f splitV; rw [if_neg c]
    have HS := Aside0.mk hs
    clear hs c
    go_enter Tryd.func62, Tryd.ntmps62
    go_wp2_with (go_at_call 80; refine (date_Split.calls a0 0 0 0 15 _ HS.out HGL.out).mono ?_; rintro e w1 ⟨rfl, hb⟩; have HB := Aside0.mk hb; clear hb)
    go_ret
    exact ⟨rfl, HB.out⟩
  rw [if_pos c]
  have hr := split_rng c
  have hs : date_Split.f a0 = some (splitV a0) := rfl
  have hd31 : (splitV a0).2.2.1 ≤ 99 := split_day c
  generalize splitV a0 = q at hr hs hd31 ⊢
  obtain ⟨y, m, d, e⟩ := q
  obtain ⟨q1, q2, q3, q4, q5, q6⟩ := hr
  dsimp only at q1 q2 q3 q4 q5 q6 hd31 ⊢
  subst q6
  have HS := Aside0.mk hs
  have HRN := Aside0.mk (show 2000 ≤ y ∧ y ≤ 2199 ∧ 1 ≤ m ∧ m ≤ 12 ∧ 1 ≤ d ∧ d ≤ 99 from ⟨q1, q2, q3, q4, q5, hd31⟩)
  have hmm := @run_makeMap Tryd.prog
  have hcv := fun (W : World) (C : Array Value) => Lib.run_convert_bytes_const (P := Tryd.prog) W 112 5 C 10 10 Tryd.underlying112 Tryd.underlying5
  have HK3 := Aside0.mk (Maps.keyOf_int_mk (P := Tryd.prog) Tryd.underlying3 (a := 3) (by decide))
  have HK6 := Aside0.mk (Maps.keyOf_int_mk (P := Tryd.prog) Tryd.underlying3 (a := 6) (by decide))
  have HK9 := Aside0.mk (Maps.keyOf_int_mk (P := Tryd.prog) Tryd.underlying3 (a := 9) (by decide))
  have HWY := Aside0.mk (wf_of (n := y) (by omega) (by omega))
  have HWM := Aside0.mk (wf_of (n := m) (by omega) (by omega))
  have HWD := Aside0.mk (wf_of (n := d) (by omega) (by omega))
  clear q1 q2 q3 q4 q5 hd31 hs c
  go_enter Tryd.func62, Tryd.ntmps62
  go_wp2_with (first | (go_at_call 80; refine (date_Split.calls a0 y m d 0 _ HS.out HGL.out).mono ?_; rintro e w1 ⟨rfl, hb⟩; have HB := Aside0.mk hb; have HM0 := Aside0.mk (show ((w1.alloc (.cells #[.int .u8 48, .int .u8 48, .int .u8 48, .int .u8 48, .int .u8 45, .int .u8 48, .int .u8 48, .int .u8 45, .int .u8 48, .int .u8 48] 5 (10, 11))).alloc (.map #[] 0)).ownsMap Tryd.prog 3 (plainElem (H := Unit) Tryd.prog 3) (w1.heap.size + 1) 0 (.map []) by (have h_ := World.ownsMap_made (w1.alloc (.cells #[.int .u8 48, .int .u8 48, .int .u8 48, .int .u8 48, .int .u8 45, .int .u8 48, .int .u8 48, .int .u8 45, .int .u8 48, .int .u8 48] 5 (10, 11))) Tryd.prog 3 (plainElem (H := Unit) Tryd.prog 3); rwa [show (w1.alloc (.cells #[.int .u8 48, .int .u8 48, .int .u8 48, .int .u8 48, .int .u8 45, .int .u8 48, .int .u8 48, .int .u8 45, .int .u8 48, .int .u8 48] 5 (10, 11))).heap.size = w1.heap.size + 1 by simp] at h_)); clear hb) | (refine list_insert_own _ rfl _ _ _ 115 rfl 3 3 (Maps.int_keyed Tryd.underlying3) Tryd.underlying115 (plainElem (H := Unit) Tryd.prog 3) _ 2 _ rfl HM2.out (by unfold maxLen; omega) _ _ (.int .i64 9) rfl rfl HK9.out _ [] (plainElem_int Tryd.underlying3 HWD.out) ?_; intro w7 hM hg; have HM3 := Aside0.mk hM; have HG3 := Aside0.mk hg; clear hM hg) | (refine list_insert_own _ rfl _ _ _ 115 rfl 3 3 (Maps.int_keyed Tryd.underlying3) Tryd.underlying115 (plainElem (H := Unit) Tryd.prog 3) _ 1 _ rfl HM1.out (by unfold maxLen; omega) _ _ (.int .i64 6) rfl rfl HK6.out _ [] (plainElem_int Tryd.underlying3 HWM.out) ?_; intro w6 hM hg; have HM2 := Aside0.mk hM; have HG2 := Aside0.mk hg; clear hM hg) | (refine list_insert_own _ rfl _ _ _ 115 rfl 3 3 (Maps.int_keyed Tryd.underlying3) Tryd.underlying115 (plainElem (H := Unit) Tryd.prog 3) _ 0 _ rfl HM0.out (by unfold maxLen; omega) _ _ (.int .i64 3) rfl rfl HK3.out _ [] (plainElem_int Tryd.underlying3 HWY.out) ?_; intro w5 hM hg; have HM1 := Aside0.mk hM; have HG1 := Aside0.mk hg; clear hM hg) | (at_range; refine wpList_range_own _ rfl _ 115 rfl 3 3 (Maps.int_keyed Tryd.underlying3) Tryd.underlying115 _ _ _ _ rfl HM3.out ?_; intro w8 hrg0 hg0 hs0; have HR0 := Aside0.mk hrg0; have HG4 := Aside0.mk hg0; have HS0 := Aside0.mk hs0; clear hrg0 hg0 hs0) | go_in)
  have hbk : w8.heap[w1.heap.size]? = some (.cells (bytesV (dateC y m d true true true)) 5 (10, 11)) := by
    have h0 : (w1.alloc (.cells #[.int .u8 48, .int .u8 48, .int .u8 48, .int .u8 48, .int .u8 45, .int .u8 48, .int .u8 48, .int .u8 45, .int .u8 48, .int .u8 48] 5 (10, 11))).heap[w1.heap.size]? = some (.cells #[.int .u8 48, .int .u8 48, .int .u8 48, .int .u8 48, .int .u8 45, .int .u8 48, .int .u8 48, .int .u8 45, .int .u8 48, .int .u8 48] 5 (10, 11)) := by
      show (w1.heap.push _)[w1.heap.size]? = _
      simp
    have h1 := blk_alloc h0 (.map #[] 0)
    have s1 : w1.heap.size < ((w1.alloc (.cells #[.int .u8 48, .int .u8 48, .int .u8 48, .int .u8 48, .int .u8 45, .int .u8 48, .int .u8 48, .int .u8 45, .int .u8 48, .int .u8 48] 5 (10, 11))).alloc (.map #[] 0)).heap.size := by simp; omega
    have h2 := (HG1.out.block w1.heap.size s1 (by simp)).trans h1
    have s2 := Nat.lt_of_lt_of_le s1 HG1.out.size
    have h3 := (HG2.out.block w1.heap.size s2 (by simp)).trans h2
    have s3 := Nat.lt_of_lt_of_le s2 HG2.out.size
    have h4 := (HG3.out.block w1.heap.size s3 (by simp)).trans h3
    have s4 := Nat.lt_of_lt_of_le s3 HG3.out.size
    exact (HG4.out.block w1.heap.size s4 (by simp)).trans h4
  have hbl : Below w.heap.size w w8 := by
    have b0 := below_alloc (below_alloc HB.out (.cells #[.int .u8 48, .int .u8 48, .int .u8 48, .int .u8 48, .int .u8 45, .int .u8 48, .int .u8 48, .int .u8 45, .int .u8 48, .int .u8 48] 5 (10, 11))) (.map #[] 0)
    have b1 := b0.grown HG1.out b0.size (fun j hj => by cases hj; have := HB.out.size; omega)
    have b2 := b1.grown HG2.out b1.size (fun j hj => by cases hj; have := HB.out.size; omega)
    have b3 := b2.grown HG3.out b2.size (fun j hj => by cases hj; have := HB.out.size; omega)
    exact b3.grown HG4.out b3.size (fun j hj => by cases hj)
  have HBK0 := Aside0.mk hbk
  have HBL0 := Aside0.mk hbl
  clear hbk hbl
  go_frame
  go_loopw [8] (fun _ wr => ∃ (left : Lit → Bool) (cnt : Nat), Aside0 (wr.ranges Tryd.prog 3 (plainElem (H := Unit) Tryd.prog 3) (w1.heap.size + 1) w7.heap.size 3 ((((.map [] : DataW Unit).put (.int .i64 3) (.lit (.int .i64 y))).put (.int .i64 6) (.lit (.int .i64 m))).put (.int .i64 9) (.lit (.int .i64 d))) left cnt) ∧ Aside0 (wr.heap[w1.heap.size]? = some (.cells (bytesV (dateC y m d (left (.int .i64 3)) (left (.int .i64 6)) (left (.int .i64 9)))) 5 (10, 11))) ∧ Aside0 (Below w.heap.size w wr)) (fun _ wr => wr.rangeLeft (w1.heap.size + 1) w7.heap.size)
  case atStart => exact ⟨_, _, HR0, HBK0, HBL0⟩
  case round =>
    obtain ⟨left, cnt, HR, HBK, HBL⟩ := hrel
    go_wp2_with (first | (at_next; refine wpList_next_ranges_ii _ rfl _ rfl 3 3 .i64 .i64 (Maps.int_keyed Tryd.underlying3) Tryd.underlying3 Tryd.underlying3 (w1.heap.size + 1) w7.heap.size 3 _ _ _ rfl HR.out ?_ ?_) | go_in)
    · intro hc0 hl0
      have hbk := HBK.out
      rw [hl0, hl0, hl0] at hbk
      have hcs : (convert 112 9 (.slice (some ⟨w1.heap.size, 0, none⟩) 10 10)).run Tryd.prog wr = .ok (.string (strOfNums (dateC y m d false false false))) wr := by
        refine run_convert_bytes_arg wr 112 5 Tryd.underlying112 Tryd.underlying5 w1.heap.size 0 10 10 (dateC y m d false false false) rfl (fun i hi => ?_) 9 Tryd.underlying9
        rw [Nat.zero_add, blk_cellF hbk i]
        exact bytesV_at (by simpa [dateC] using hi)
      clear hl0 hc0 hbk
      go_wp2_with fail
      go_ret
      exact ⟨rfl, HBL.out⟩
    · intro x c w9 cnt1 hwx hwc hlx hat hrg1 hlt hg1 hs1 hen
      have hkc := key_cases hat
      have hlt7 : w1.heap.size < w7.heap.size := by
        have s1 : w1.heap.size < ((w1.alloc (.cells #[.int .u8 48, .int .u8 48, .int .u8 48, .int .u8 48, .int .u8 45, .int .u8 48, .int .u8 48, .int .u8 45, .int .u8 48, .int .u8 48] 5 (10, 11))).alloc (.map #[] 0)).heap.size := by simp; omega
        have := HG1.out.size; have := HG2.out.size; have := HG3.out.size
        omega
      have HKC := Aside0.mk hkc
      have HLX := Aside0.mk hlx
      have HRG := Aside0.mk hrg1
      have HLT := Aside0.mk hlt
      have HLT7 := Aside0.mk hlt7
      have HBK9 := Aside0.mk (blk_grown HBK.out hg1 (fun e => by injection e with e; omega))
      have HBL9 := Aside0.mk (HBL.out.grown hg1 HBL.out.size (fun j hj => by cases hj; have := HB.out.size; omega))
      clear hkc hat hlx hlt hrg1 hlt7 hg1 hs1 hwx hwc
      go_wp2_with fail
      obtain ⟨T, hT⟩ : ∃ T, fillD 5 (dateC y m d (left (.int .i64 3)) (left (.int .i64 6)) (left (.int .i64 9))) x c = T := ⟨_, rfl⟩
      have HT := Aside0.mk hT
      clear hT
      go_loopg [8, 9] 5 (fun kq v8 v9 wr2 => ∃ (k n : Int) (xs : List Int), v8 = .int .i64 k ∧ v9 = .int .i64 n ∧ Aside0 (xs.length = 10 ∧ -1 ≤ k ∧ k ≤ 9 ∧ 0 ≤ n ∧ n < 10 ^ kq ∧ n < 10 ^ (k + 1).toNat) ∧ Aside0 (fillD kq xs k n = T) ∧ Aside0 (wr2.heap[w1.heap.size]? = some (.cells (bytesV xs) 5 (10, 11))) ∧ Aside0 (w9.grownBy wr2 (some w1.heap.size)) ∧ Aside0 (Below w.heap.size w wr2))
      case atStart =>
        refine ⟨x, c, _, rfl, rfl, ⟨?_⟩, HT, HBK9, ⟨World.grownBy.refl _ _⟩, HBL9⟩
        have hr := HRN.out
        refine ⟨rfl, ?_⟩
        rcases HKC.out with ⟨rfl, rfl⟩ | ⟨rfl, rfl⟩ | ⟨rfl, rfl⟩
        · exact ⟨by omega, by omega, by omega, by omega, show c < 10 ^ 4 by omega⟩
        · exact ⟨by omega, by omega, by omega, by omega, show c < 10 ^ 7 by omega⟩
        · exact ⟨by omega, by omega, by omega, by omega, show c < 10 ^ 10 by omega⟩
      case round =>
        obtain ⟨k, n, xs, rfl, rfl, HI, HF, HBX, HGX, HBB⟩ := hrel
        by_cases hn : 0 < n
        · cases gk with
          | zero => exact absurd HI.out (by intro h; have h5 := h.2.2.2.2.1; simp at h5; omega)
          | succ f =>
            obtain ⟨i1, i2, i3, i4, i5, i6⟩ := HI.out
            have hk0 : 0 ≤ k := by
              by_cases c : 0 ≤ k
              · exact c
              · rw [show (k + 1).toNat = 0 by omega] at i6
                simp at i6
                omega
            obtain ⟨p, rfl⟩ : ∃ p : Nat, k = (p : Int) := ⟨k.toNat, by omega⟩
            rw [show ((p : Int) + 1).toNat = p + 1 by omega] at i6
            have hp9 : p < 10 := by omega
            have hbn := Int.lt_of_lt_of_le i6 (pow10_le p hp9)
            have HP := Aside0.mk (show xs.length = 10 ∧ p < 10 ∧ 0 ≤ n ∧ n < 10 ^ (f + 1) ∧ n < 10 ^ (p + 1) from ⟨i1, hp9, i4, i5, i6⟩)
            have hf : wr.frozen? ⟨w1.heap.size, p, none⟩ = false := blk_frozenF HBX.out (by omega)
            have hk1 : (p : Int) < 10 := by omega
            have hm : Int.tmod n 10 = n % 10 := Int.tmod_eq_emod_of_nonneg i4
            have hq : Int.tdiv n 10 = n / 10 := Int.tdiv_eq_ediv_of_nonneg i4
            have hw1 : wrap64 (n % 10) = n % 10 := by unfold wrap64; omega
            have hw2 : wrap64 (48 + n % 10) = 48 + n % 10 := by unfold wrap64; omega
            have hw3 : wrap64 (n / 10) = n / 10 := by unfold wrap64; omega
            have hw4 : wrap64 ((p : Int) - 1) = (p : Int) - 1 := by unfold wrap64; omega
            have hw8 : IntKind.u8.wrap (48 + n % 10) = 48 + n % 10 := by
              simp only [IntKind.wrap, IntKind.bits, IntKind.signed, Bool.false_and, Bool.false_eq_true, if_false]
              omega
            have hc0 : wr.cell? ⟨w1.heap.size, p, none⟩ = some (.int .u8 (xs.getD p 0)) := by
              rw [blk_cellF HBX.out p]
              exact bytesV_at (by omega)
            have HR2 := Aside0.mk (blk_setF HBX.out p (48 + n % 10))
            clear i1 i2 i3 i4 i5 i6 hbn
            go_wp2_with fail
            go_roundg f
            case measure => omega
            case rel =>
              obtain ⟨i1, i2, i3, i4, i5⟩ := HP.out
              refine ⟨(p : Int) - 1, n / 10, xs.set p (48 + n % 10), by first | rfl | rw [hw4], by first | rfl | rw [hw3], ⟨?_⟩, ⟨?_⟩, HR2, ⟨HGX.out.trans (grownBy_setCellF _ _ _ _)⟩, ⟨Below.setCell HBB.out (p := ⟨w1.heap.size, p, none⟩) HB.out.size _⟩⟩
              · refine ⟨by simpa using i1, by omega, by omega, by omega, ?_, ?_⟩
                · rw [Int.pow_succ] at i4
                  generalize (10 : Int) ^ f = z at i4 ⊢
                  omega
                · rw [show ((p : Int) - 1 + 1).toNat = p by omega]
                  rw [Int.pow_succ] at i5
                  generalize (10 : Int) ^ p = z at i5 ⊢
                  omega
              · have h2 := HF.out
                unfold fillD at h2
                rw [if_pos hn, Int.toNat_natCast] at h2
                exact h2
        · have hx : xs = T := by
            have h2 := HF.out
            cases gk with
            | zero => exact h2
            | succ f => unfold fillD at h2; rw [if_neg hn] at h2; exact h2
          have HX := Aside0.mk hx
          clear hx
          go_wp2_with fail
          have hrg2 := HRG.out.kept HGX.out (fun e => by have := Option.some.inj e; omega) (fun e => by have := Option.some.inj e; have := HLT7.out; omega)
          go_roundw
          case measure => rw [hrg2.left_eq, HR.out.left_eq]; exact HLT.out
          case rel =>
            refine ⟨_, cnt1, ⟨hrg2⟩, ⟨?_⟩, HBB⟩
            rw [HBX.out, HX.out, ← HT.out]
            have hr := HRN.out
            have hlx := HLX.out
            rcases HKC.out with ⟨rfl, rfl⟩ | ⟨rfl, rfl⟩ | ⟨rfl, rfl⟩
            · rw [hlx, fill_y (by omega) (by omega)]
              simp [Lit.sameKey]
            · rw [hlx, fill_m (by omega) (by omega)]
              simp [Lit.sameKey]
            · rw [hlx, fill_d (by omega) (by omega)]
              simp [Lit.sameKey]
end Go.Proofs.YthpmmofleddpnaaDoor.X
end
section
namespace Go.Proofs.YthpmmofleddpnaaDoor.X
open Go.RowKit Go.Proofs.YthpmmofleddpnaaDoorW.PrintWords Go.Proofs.YthpmmofleddpnaaDoorW.PrintLast Go.Proofs.YthpmmofleddpnaaDoorW.PrintMore
attribute [local go_sem] max2_int min2_int max_two min_two max_three min_three max_four min_four
set_option linter.unusedVariables false
set_option linter.unusedSimpArgs false
def strings_ReplaceAll.f (s old new : ByteArray) : Option ByteArray := if s.size < 4294967281 ∧ 1 ≤ old.size ∧ s.size + Lib.countB s old * new.size ≤ 140737488355328 then some ⟨(Lib.replaceAll s.data.toList old.data.toList new.data.toList).toArray⟩ else none
theorem strings_ReplaceAll.calls (a0 a1 a2 : ByteArray) (r : ByteArray) (w : World) (h : strings_ReplaceAll.f a0 a1 a2 = some r) (hGL : GlobD w) :
    Calls Tryd.prog 63 #[.string a0, .string a1, .string a2] w fun e w' => e = .returned (.string r) ∧ Below w.heap.size w w' := by
  unfold strings_ReplaceAll.f at h
  split at h
  case isFalse => cases h
  case isTrue c =>
    obtain rfl := Option.some.inj h
    obtain ⟨m, hm⟩ := hGL.2
    exact Go.Proofs.Tryd.strings_ReplaceAll a0 a1 a2 m w c.1 hm c.2.1 c.2.2
end Go.Proofs.YthpmmofleddpnaaDoor.X
end
section
namespace Go.Proofs.YthpmmofleddpnaaDoor.X
open Go.RowKit Go.Proofs.YthpmmofleddpnaaDoorW.PrintWords Go.Proofs.YthpmmofleddpnaaDoorW.PrintLast Go.Proofs.YthpmmofleddpnaaDoorW.PrintMore
attribute [local go_sem] max2_int min2_int max_two min_two max_three min_three max_four min_four
set_option linter.unusedVariables false
set_option linter.unusedSimpArgs false
def decL : Nat → Int → List Int → List Int
  | 0, _, acc => acc
  | k + 1, u, acc => if u / 10 = 0 then (48 + u % 10) :: acc else decL k (u / 10) ((48 + u % 10) :: acc)
def words_decimal.f (a0 : Int) : Option ByteArray := if 0 ≤ a0 ∧ a0 < 18446744073709551616 then some (strOfNums (decL 20 a0 [])) else none
theorem dec_u (x : Int) (h0 : 0 ≤ x) (h1 : x < 18446744073709551616) : IntKind.u64.wrap x = x := by
  simp only [IntKind.wrap, IntKind.bits, IntKind.signed, Bool.false_and, Bool.false_eq_true, if_false]
  omega
set_option maxHeartbeats 1600000 in
set_option maxRecDepth 100000 in
theorem words_decimal.calls (a0 : Int) (r : ByteArray) (w : World) (h : words_decimal.f a0 = some r) :
    Calls Tryd.prog 61 #[.int .u64 a0] w fun e w' => e = .returned (.string r) ∧ Below w.heap.size w w' := by
  unfold words_decimal.f at h
  by_cases c : 0 ≤ a0 ∧ a0 < 18446744073709551616
  case neg => rw [if_neg c] at h; cases h
  rw [if_pos c] at h
  have HH := Aside0.mk (Option.some.inj h)
  have HC := Aside0.mk c
  clear h c
  go_enter Tryd.func61, Tryd.ntmps61
  go_wp2_with fail
  go_loopg [0, 4] 20 (fun kq v0 v4 wr => ∃ (u : Int) (acc : List Int) (xs : Array Value), v0 = .int .u64 u ∧ v4 = .int .i64 (kq : Int) ∧ Aside0 (1 ≤ kq ∧ kq ≤ 20 ∧ 0 ≤ u ∧ u < 10 ^ kq ∧ u < 18446744073709551616) ∧ Aside0 (strOfNums (decL kq u acc) = r) ∧ Aside0 (acc.length + kq = 20 ∧ xs.size = 20 ∧ ∀ j, kq ≤ j → j < 20 → xs[j]? = some (.int .u8 (acc.getD (j - kq) 0))) ∧ Aside0 (wr.heap[w.heap.size]? = some (.cells xs 111 (0, 0))) ∧ Aside0 (Below w.heap.size w wr))
  case atStart => exact ⟨a0, [], _, rfl, rfl, ⟨by have := HC.out; omega⟩, HH, ⟨rfl, rfl, fun j h1 h2 => by omega⟩, ⟨blk_new _ _⟩, ⟨below_alloc (Below.refl _ _) _⟩⟩
  case round =>
    obtain ⟨u, acc, xs, rfl, rfl, HU, HF, HX, HL, HB⟩ := hrel
    cases gk with
    | zero => exact absurd HU.out.1 (by omega)
    | succ k =>
      have hat : ((k + 1 : Nat) : Int) - 1 = (k : Int) := by omega
      have hf := fun q => blk_frozen HL.out q
      have hk0 : (0 : Int) ≤ (k : Int) := by omega
      have hk1 : (k : Int) < 20 := by have := HU.out.2.1; omega
      have HK := Aside0.mk hk1
      have hm : Int.tmod u 10 = u % 10 := Int.tmod_eq_emod_of_nonneg HU.out.2.2.1
      have hq : Int.tdiv u 10 = u / 10 := Int.tdiv_eq_ediv_of_nonneg HU.out.2.2.1
      have hwm : IntKind.u64.wrap (u % 10) = u % 10 := dec_u _ (by omega) (by omega)
      have hwa : IntKind.u64.wrap (48 + u % 10) = 48 + u % 10 := dec_u _ (by omega) (by omega)
      have hwq : IntKind.u64.wrap (u / 10) = u / 10 := dec_u _ (by have := HU.out.2.2.1; omega) (by have := HU.out.2.2; omega)
      have hw8 : IntKind.u8.wrap (48 + u % 10) = 48 + u % 10 := by
        simp only [IntKind.wrap, IntKind.bits, IntKind.signed, Bool.false_and, Bool.false_eq_true, if_false]
        omega
      obtain ⟨v0, hc0⟩ : ∃ v0, wr.cell? ⟨w.heap.size, k, none⟩ = some v0 := by
        rw [blk_cell HL.out k]
        exact ⟨_, Array.getElem?_eq_getElem (by have := HX.out.2.1; omega)⟩
      have hX := HX.out
      have hset : ∀ j, k ≤ j → j < 20 → (xs.setIfInBounds k (.int .u8 (48 + u % 10)))[j]? = some (.int .u8 (((48 + u % 10) :: acc).getD (j - k) 0)) := by
        intro j h1 h2
        rw [Array.getElem?_setIfInBounds]
        by_cases hj : k = j
        · subst hj
          simp [show k < xs.size by omega]
        · rw [if_neg hj, hX.2.2 j (by omega) h2, show j - k = (j - (k + 1)) + 1 by omega, List.getD_cons_succ]
      have HS := Aside0.mk hset
      have hfr : (wr.setCell ⟨w.heap.size, k, none⟩ (.int .u8 (48 + u % 10))).heap[w.heap.size]? = some (.cells (xs.setIfInBounds k (.int .u8 (48 + u % 10))) 111 (0, 0)) := blk_set HL.out k _
      have HR := Aside0.mk hfr
      have hsl : ∀ W : World, (Instr.sliceAt 111 (.pointer (some ⟨w.heap.size, 0, none⟩)) (some (.int .i64 (k : Int))) none none).run Tryd.prog W = .ok (.slice (some ⟨w.heap.size, k, none⟩) (20 - k) (20 - k)) W := by
        intro W
        have hal : Tryd.prog.arrayLen 111 = 20 := by kernel_rfl
        rw [run_sliceAt_array_l W 111 _ Tryd.underlying111 .i64 (k : Int) hk0 (by rw [hal]; omega)]
        have hne : ¬ (20 = k) := by omega
        simp only [hal, Int.toNat_natCast, slicedAt, if_neg hne]
        go_simp
      have hcv : (convert 112 9 (.slice (some ⟨w.heap.size, k, none⟩) (20 - k) (20 - k))).run Tryd.prog (wr.setCell ⟨w.heap.size, k, none⟩ (.int .u8 (48 + u % 10))) = .ok (.string (strOfNums ((48 + u % 10) :: acc))) (wr.setCell ⟨w.heap.size, k, none⟩ (.int .u8 (48 + u % 10))) := by
        refine run_convert_bytes_arg _ 112 5 Tryd.underlying112 Tryd.underlying5 _ k _ _ _ (by simp only [List.length_cons]; omega) (fun i hi => ?_) 9 Tryd.underlying9
        rw [blk_cell hfr (k + i), hset (k + i) (by omega) (by omega), show k + i - k = i by omega]
      clear hfr hset hX
      by_cases c1 : u / 10 = 0
      · have c1b := beq_iff_eq.2 c1
        have HC1 := Aside0.mk c1
        clear c1
        go_wp2_with fail
        go_ret
        refine ⟨?_, ?_⟩
        · have h2 := HF.out
          unfold decL at h2
          rw [if_pos HC1.out] at h2
          rw [← h2]
          rfl
        · exact Below.setCell HB.out (p := ⟨w.heap.size, k, none⟩) (Nat.le_refl _) _
      · have c1b := beq_eq_false_iff_ne.2 c1
        have HC1 := Aside0.mk c1
        clear c1
        go_wp2_with fail
        go_roundg k
        case measure => omega
        case rel =>
          refine ⟨u / 10, (48 + u % 10) :: acc, _, rfl, rfl, ⟨?_⟩, ⟨?_⟩, ⟨?_, ?_, HS.out⟩, HR, ⟨Below.setCell HB.out (p := ⟨w.heap.size, k, none⟩) (Nat.le_refl _) _⟩⟩
          · have h1 := HU.out
            have h2 := HC1.out
            have h3 : k ≠ 0 := by
              intro h
              subst h
              have := h1.2.2.2.1
              simp at this
              omega
            refine ⟨by omega, by omega, by omega, ?_, by omega⟩
            have h4 := h1.2.2.2.1
            rw [Int.pow_succ] at h4
            generalize (10 : Int) ^ k = p at h4 ⊢
            omega
          · have h2 := HF.out
            unfold decL at h2
            rw [if_neg HC1.out] at h2
            exact h2
          · have := HX.out.1
            simp only [List.length_cons]
            omega
          · rw [Array.size_setIfInBounds]
            exact HX.out.2.1
end Go.Proofs.YthpmmofleddpnaaDoor.X
end
section
namespace Go.Proofs.YthpmmofleddpnaaDoor.X
open Go.RowKit Go.Proofs.YthpmmofleddpnaaDoorW.PrintWords Go.Proofs.YthpmmofleddpnaaDoorW.PrintLast Go.Proofs.YthpmmofleddpnaaDoorW.PrintMore
attribute [local go_sem] max2_int min2_int max_two min_two max_three min_three max_four min_four
set_option linter.unusedVariables false
set_option linter.unusedSimpArgs false
def words_size.f (a0 : Int) : Option (Int × ByteArray) := if a0 < 0 then (some (IntKind.u64.wrap (-(IntKind.u64.wrap (a0))), (⟨#[45]⟩ : ByteArray))) else (some (IntKind.u64.wrap (a0), (⟨#[]⟩ : ByteArray)))
set_option maxHeartbeats 8000000 in
set_option maxRecDepth 100000 in
theorem words_size.calls (a0 : Int) (r1 : Int) (r2 : ByteArray) (w : World) (h : words_size.f a0 = some (r1, r2)) :
    Calls Tryd.prog 60 #[.int .i64 a0] w fun e w' => e = .returned (.tuple #[.int .u64 r1, .string r2]) ∧ Drawn0 w w' := by
  have H : (if a0 < 0 then (some (IntKind.u64.wrap (-(IntKind.u64.wrap (a0))), (⟨#[45]⟩ : ByteArray))) else (some (IntKind.u64.wrap (a0), (⟨#[]⟩ : ByteArray)))) = some (r1, r2) := h
  clear h
  by_cases c2 : a0 < 0
  · rw [if_pos c2] at H
    have c2b0 : decide (a0 < 0) = true := decide_eq_true c2
    clear c2
    simp only [Option.some.injEq, Prod.mk.injEq] at H
    obtain ⟨rfl, rfl⟩ := H
    go_enter Tryd.func60, Tryd.ntmps60
    go_wp2
    go_ret2
    exact ⟨by first | rfl | (simp; done) | (simp [*]; done), by repeat (first | exact Drawn0.refl _ | apply Drawn0.step)⟩
  · rw [if_neg c2] at H
    have c2b0 : decide (a0 < 0) = false := decide_eq_false c2
    clear c2
    simp only [Option.some.injEq, Prod.mk.injEq] at H
    obtain ⟨rfl, rfl⟩ := H
    go_enter Tryd.func60, Tryd.ntmps60
    go_wp2
    go_ret2
    exact ⟨by first | rfl | (simp; done) | (simp [*]; done), by repeat (first | exact Drawn0.refl _ | apply Drawn0.step)⟩
end Go.Proofs.YthpmmofleddpnaaDoor.X
end
section
namespace Go.Proofs.YthpmmofleddpnaaDoor.X
open Go.RowKit Go.Proofs.YthpmmofleddpnaaDoorW.PrintWords Go.Proofs.YthpmmofleddpnaaDoorW.PrintLast Go.Proofs.YthpmmofleddpnaaDoorW.PrintMore
attribute [local go_sem] max2_int min2_int max_two min_two max_three min_three max_four min_four
set_option linter.unusedVariables false
set_option linter.unusedSimpArgs false
def strings_Join.f (l : List ByteArray) (sep : ByteArray) : Option ByteArray := if (Lib.join (l.map (·.data.toList)) sep.data.toList).length ≤ 140737488355328 ∧ l.length ≤ 140737488355328 then some ⟨(Lib.join (l.map (·.data.toList)) sep.data.toList).toArray⟩ else none
theorem strings_Join.calls (A0 : Option Addr) (c0 : Nat) (l0 : List ByteArray) (a1 : ByteArray) (r : ByteArray) (w : World) (hr0 : Kd.C Kd.string w A0 l0.length l0) (hc0 : l0.length ≤ c0) (h : strings_Join.f l0 a1 = some r) :
    Calls Tryd.prog 79 #[.slice A0 l0.length c0, .string a1] w fun e w' => e = .returned (.string r) ∧ Below w.heap.size w w' := by
  unfold strings_Join.f at h
  by_cases c : (Lib.join (l0.map (·.data.toList)) a1.data.toList).length ≤ 140737488355328 ∧ l0.length ≤ 140737488355328
  case neg => rw [if_neg c] at h; cases h
  rw [if_pos c] at h
  obtain rfl := Option.some.inj h
  cases l0 with
  | nil =>
    refine (Go.Proofs.Tryd.strings_Join_none A0 c0 a1 w).mono ?_
    rintro e w' ⟨rfl, rfl⟩
    exact ⟨rfl, Below.refl _ _⟩
  | cons x l =>
    obtain ⟨ad, e0, hx0⟩ := Kd.at_string hr0 (0 : Int) (by omega) (by simp)
    subst e0
    obtain ⟨bk, o, t⟩ := ad
    have ht : t = none := by
      cases t with
      | none => rfl
      | some z =>
        exfalso
        have h1 : w.cell? ⟨bk, o, some z⟩ = some (.string (rdOf ByteArray.empty (x :: l) 0)) := hx0
        unfold World.cell? at h1
        split at h1 <;> simp at h1
    subst ht
    have hadd : ∀ j, (⟨bk, o, none⟩ : Addr).add j = ⟨bk, o + j, none⟩ := fun j => by unfold Addr.add; split <;> simp_all
    refine (Go.Proofs.Tryd.strings_Join bk o c0 (x :: l) a1 w (fun j y hj => ?_) (World.block_lt_of_cell? w _ hx0) c.2 hc0 c.1).mono ?_
    · have hjl : j < (x :: l).length := (List.getElem?_eq_some_iff.1 hj).1
      obtain ⟨ad2, e2, hx2⟩ := Kd.at_string hr0 (j : Int) (by omega) (by omega)
      cases e2
      rw [hadd, Int.toNat_natCast] at hx2
      rw [hx2]
      have : rdOf ByteArray.empty (x :: l) (j : Int) = y := by
        simp only [rdOf, Int.toNat_natCast, List.getD_eq_getElem?_getD, hj, Option.getD_some]
      rw [this]
    · rintro e w' ⟨rfl, hb⟩
      exact ⟨rfl, hb⟩
end Go.Proofs.YthpmmofleddpnaaDoor.X
end
section
namespace Go.Proofs.YthpmmofleddpnaaDoor.X
open Go.RowKit Go.Proofs.YthpmmofleddpnaaDoorW.PrintWords Go.Proofs.YthpmmofleddpnaaDoorW.PrintLast Go.Proofs.YthpmmofleddpnaaDoorW.PrintMore
attribute [local go_sem] max2_int min2_int max_two min_two max_three min_three max_four min_four
set_option linter.unusedVariables false
set_option linter.unusedSimpArgs false
def words_together.f (a0 : ByteArray) (l1 : List ByteArray) : Option (ByteArray) := (strings_Join.f l1 a0).bind fun t101 => (some t101)
set_option maxHeartbeats 8000000 in
set_option maxRecDepth 100000 in
theorem words_together.calls (a0 : ByteArray) (A1 : Option Addr) (c1 : Nat) (l1 : List ByteArray) (r : ByteArray) (w : World) (hr1 : Kd.C Kd.string w A1 l1.length l1) (hc1 : l1.length ≤ c1) (h : words_together.f a0 l1 = some r) :
    Calls Tryd.prog 59 #[.string a0, .slice A1 l1.length c1] w fun e w' => e = .returned (.string r) ∧ Below w.heap.size w w' := by
  have HR1 := Aside0.mk hr1
  have HC1 := Aside0.mk hc1
  clear hr1 hc1
  have HB := Aside0.mk (Below.refl w.heap.size w)
  have H : ((strings_Join.f l1 a0).bind fun t101 => (some t101)) = some r := h
  clear h
  replace H := Option.bind_eq_some_iff.mp H
  obtain ⟨t101, A30, H⟩ := H
  replace H : (some t101) = some r := H
  have A3 := Aside0.mk A30
  clear A30
  obtain rfl := Option.some.inj H
  go_enter Tryd.func59, Tryd.ntmps59
  go_wp2_with (first | ((with_reducible refine gate_callee (f := 79) rfl ?_); refine goesL_ (some 7) rfl rfl Tryd.func79 (by kernel_rfl) rfl #[.slice A1 l1.length c1, .string a0] rfl (by (try simp only [List.map_toArray, List.map_cons, List.map_nil]); first | done | rfl | (simp only [List.length_drop, List.length_take]; rfl)) ?_; (with_reducible refine (strings_Join.calls _ _ l1 a0 t101 _ ?side1 ?side2 A3.out).mono ?_); (case side1 => repeat (first | exact HR1.out | (with_reducible refine Kd.C_alloc ?_ _) | (with_reducible refine Kd.C_drewN ?_ _) | (with_reducible refine Kd.C_drew ?_))); (case side2 => exact HC1.out); rintro e w4 ⟨rfl, hb⟩; refine ⟨_, rfl, ?_⟩; have n0_ := Aside0.mk (below_step (by repeat (first | (with_reducible first | exact HB.out | apply below_alloc | apply pw_below_drewN | apply below_drew1) | exact HB.out)) hb); clear HB; have HB := n0_; clear n0_; (try clear hb); (try clear hb2); (try clear hk); (try clear hi)))
  go_ret
  exact ⟨by first | rfl | (simp [errW_none, errW_some] <;> rfl) | (simp [*, errW_none, errW_some] <;> rfl), by repeat (first | (with_reducible first | exact HB.out | apply below_alloc | apply pw_below_drewN | apply below_drew1) | exact HB.out)⟩
end Go.Proofs.YthpmmofleddpnaaDoor.X
end
section
namespace Go.Proofs.YthpmmofleddpnaaDoor.X
open Go.RowKit Go.Proofs.YthpmmofleddpnaaDoorW.PrintWords Go.Proofs.YthpmmofleddpnaaDoorW.PrintLast Go.Proofs.YthpmmofleddpnaaDoorW.PrintMore
attribute [local go_sem] max2_int min2_int max_two min_two max_three min_three max_four min_four
set_option linter.unusedVariables false
set_option linter.unusedSimpArgs false
def words_Text.f (a0 : Int) : Option (ByteArray) := (words_size.f a0).bind fun bt101 => ((words_decimal.f bt101.1).bind fun t103 => ((words_together.f (⟨#[]⟩ : ByteArray) (([bt101.2, t103] : List ByteArray))).bind fun t107 => (some t107)))
set_option maxHeartbeats 8000000 in
set_option maxRecDepth 100000 in
theorem words_Text.calls (a0 : Int) (r : ByteArray) (w : World) (h : words_Text.f a0 = some r) :
    Calls Tryd.prog 35 #[.int .i64 a0] w fun e w' => e = .returned (.string r) ∧ Below w.heap.size w w' := by
  have HB := Aside0.mk (Below.refl w.heap.size w)
  have H : ((words_size.f a0).bind fun bt101 => ((words_decimal.f bt101.1).bind fun t103 => ((words_together.f (⟨#[]⟩ : ByteArray) (([bt101.2, t103] : List ByteArray))).bind fun t107 => (some t107)))) = some r := h
  clear h
  replace H := Option.bind_eq_some_iff.mp H
  obtain ⟨⟨t101, t102⟩, A20, H⟩ := H
  replace H : ((words_decimal.f t101).bind fun t103 => ((words_together.f (⟨#[]⟩ : ByteArray) (([t102, t103] : List ByteArray))).bind fun t107 => (some t107))) = some r := H
  have A2 := Aside0.mk A20
  clear A20
  replace H := Option.bind_eq_some_iff.mp H
  obtain ⟨t103, A30, H⟩ := H
  replace H : ((words_together.f (⟨#[]⟩ : ByteArray) (([t102, t103] : List ByteArray))).bind fun t107 => (some t107)) = some r := H
  have A3 := Aside0.mk A30
  clear A30
  obtain ⟨y104, hy104⟩ : ∃ y_ : List ByteArray, y_ = (([t102, t103] : List ByteArray)) := ⟨_, rfl⟩
  replace H : ((words_together.f (⟨#[]⟩ : ByteArray) y104).bind fun t107 => (some t107)) = some r := by first | (rw [hy104]; with_reducible exact H) | (have H2_ := (Option.bind_some _ _).symm.trans H; rw [hy104]; with_reducible exact H2_) | (have H2_ := (Option.bind_some _ _).symm.trans H; with_reducible exact H2_) | with_reducible exact H | (rw [hy104]; exact H) | exact H
  have Ny104 := Aside0.mk hy104
  clear hy104
  replace H := Option.bind_eq_some_iff.mp H
  obtain ⟨t107, A40, H⟩ := H
  replace H : (some t107) = some r := H
  have A4 := Aside0.mk A40
  clear A40
  obtain rfl := Option.some.inj H
  go_enter Tryd.func35, Tryd.ntmps35
  go_wp2_with (first | ((with_reducible refine gate_callee (f := 60) rfl ?_); refine goesL_ (some 7) rfl rfl Tryd.func60 (by kernel_rfl) rfl #[.int .i64 a0] rfl (by (try simp only [List.map_toArray, List.map_cons, List.map_nil]); first | done | rfl | (simp only [List.length_drop, List.length_take]; rfl)) ?_; (with_reducible refine (words_size.calls a0 t101 t102 _ A2.out).mono ?_); rintro e w' ⟨rfl, ⟨nd, rfl⟩⟩; refine ⟨_, rfl, ?_⟩) | ((with_reducible refine gate_callee (f := 61) rfl ?_); refine goesL_ (some 12) rfl rfl Tryd.func61 (by kernel_rfl) rfl #[.int .u64 t101] rfl (by (try simp only [List.map_toArray, List.map_cons, List.map_nil]); first | done | rfl | (simp only [List.length_drop, List.length_take]; rfl)) ?_; (with_reducible refine (words_decimal.calls t101 t103 _ A3.out).mono ?_); rintro e w5 ⟨rfl, hb⟩; refine ⟨_, rfl, ?_⟩; have n0_ := Aside0.mk (below_step (by repeat (first | (with_reducible first | exact HB.out | apply below_alloc | apply pw_below_drewN | apply below_drew1) | exact HB.out)) hb); clear HB; have HB := n0_; clear n0_; (try clear hb); (try clear hb2); (try clear hk); (try clear hi)) | ((with_reducible refine gate_dst (N := 13) rfl ?_); refine Kd.R_lit Kd.string _ 9 ?hg (N := 13) ?hd (xs := ([t102, t103] : List ByteArray)) (inner := [.string t102, .string t103]) (ok := fun _ => True) (okp := fun _ => True) ?hr ?hp (fun _ hk => hk) trivial (Below.refl _ _) (Nat.le_refl _) (by simp) ?_; (case hd => rfl); (case hg => rfl); (case hr => first | (go_simp; done) | (go_simp; rfl)); (case hp => exact (Reps.one (show Kd.M Kd.string _ _ _ t102 [.string t102] from rfl) (Reps.one (show Kd.M Kd.string _ _ _ t103 [.string t103] from rfl) (Reps.none _ _)))); intro v105 w6 ho7 hb hg_ hnew_; clear hg_ hnew_; (first | rw [← Ny104.out] at ho7 | (simp only [Int.reduceToNat] at ho7; rw [← Ny104.out] at ho7)); have n0_ := Aside0.mk (Kd.R_lower ho7 (below_size (by repeat (first | (with_reducible first | exact HB.out | apply below_alloc | apply pw_below_drewN | apply below_drew1) | exact HB.out)))); have n1_ := Aside0.mk (below_step (by repeat (first | (with_reducible first | exact HB.out | apply below_alloc | apply pw_below_drewN | apply below_drew1) | exact HB.out)) hb); clear HB; have HO106 := n0_; have HB := n1_; clear n0_ n1_; clear hb ho7; obtain ⟨Ao8, co8, eo8⟩ := Kd.R_slice HO106.out; subst eo8) | ((with_reducible refine gate_callee (f := 59) rfl ?_); refine goesL_ (some 14) rfl rfl Tryd.func59 (by kernel_rfl) rfl #[.string (⟨#[]⟩ : ByteArray), .slice Ao8 y104.length co8] rfl (by (try simp only [List.map_toArray, List.map_cons, List.map_nil]); first | done | rfl | (simp only [List.length_drop, List.length_take]; rfl)) ?_; (with_reducible refine (words_together.calls (⟨#[]⟩ : ByteArray) _ _ y104 t107 _ ?side1 ?side2 A4.out).mono ?_); (case side1 => repeat (first | exact (Kd.R_reads' HO106.out).2.2 | (with_reducible refine Kd.C_alloc ?_ _) | (with_reducible refine Kd.C_drewN ?_ _) | (with_reducible refine Kd.C_drew ?_))); (case side2 => exact (Kd.R_reads' HO106.out).2.1); rintro e w9 ⟨rfl, hb⟩; refine ⟨_, rfl, ?_⟩; have n0_ := Aside0.mk (Kd.R_below (by (with_reducible repeat (first | apply Kd.R_alloc | apply Kd.R_drewN | apply Kd.R_drew)); exact HO106.out) hb); have n1_ := Aside0.mk (below_step (by repeat (first | (with_reducible first | exact HB.out | apply below_alloc | apply pw_below_drewN | apply below_drew1) | exact HB.out)) hb); clear HO106; clear HB; have HO106 := n0_; have HB := n1_; clear n0_ n1_; (try clear hb); (try clear hb2); (try clear hk); (try clear hi)))
  go_ret
  exact ⟨by first | rfl | (simp [errW_none, errW_some] <;> rfl) | (simp [*, errW_none, errW_some] <;> rfl), by repeat (first | (with_reducible first | exact HB.out | apply below_alloc | apply pw_below_drewN | apply below_drew1) | exact HB.out)⟩
end Go.Proofs.YthpmmofleddpnaaDoor.X
end
