/- For TopLives: contracts, and facts on lists and numbers, that it uses (part 2). -/
import Derived.Lib.SliceRun
import Derived.Test.YtliooghmpkdmoaaGreatDoorTopLivesc1
section
namespace Go.Proofs.YtliooghmpkdmoaaGreatDoor.X
open Go.RowKit Go.Proofs.YtliooghmpkdmoaaGreatDoorW.PrintWords Go.Proofs.YtliooghmpkdmoaaGreatDoorW.PrintLast Go.Proofs.YtliooghmpkdmoaaGreatDoorW.PrintMore
attribute [local go_sem] max2_int min2_int max_two min_two max_three min_three max_four min_four
set_option linter.unusedVariables false
set_option linter.unusedSimpArgs false
def rfS (l : List ByteArray) (i : Nat) : ByteArray := rdOf ByteArray.empty l (i : Int)
def pr6 (k : Nat) (l : List ByteArray) (t : S30) : Option (S30 × Int) := some (t, 0)
def pr5 (k : Nat) (l : List ByteArray) (t : S30) : Option (S30 × Int) := (words_Int.f k (rfS l 5)).bind fun q => if q.2 = 0 then pr6 k l { t with f5 := q.1 } else some (z30, q.2)
def pr4 (k : Nat) (l : List ByteArray) (t : S30) : Option (S30 × Int) := (words_Int.f k (rfS l 4)).bind fun q => if q.2 = 0 then pr5 k l { t with f4 := q.1 } else some (z30, q.2)
def pr3 (k : Nat) (l : List ByteArray) (t : S30) : Option (S30 × Int) := (series_Parse.f k (rfS l 3)).bind fun q => if q.2.2.2.2 = 0 then pr4 k l { t with f3 := ⟨q.1, q.2.1, q.2.2.1, q.2.2.2.1⟩ } else some (z30, q.2.2.2.2)
def pr2 (k : Nat) (l : List ByteArray) (t : S30) : Option (S30 × Int) := (words_Int.f k (rfS l 2)).bind fun q => if q.2 = 0 then pr3 k l { t with f2 := q.1 } else some (z30, q.2)
def pr1 (k : Nat) (l : List ByteArray) (t : S30) : Option (S30 × Int) := (words_Int.f k (rfS l 1)).bind fun q => if q.2 = 0 then pr2 k l { t with f1 := q.1 } else some (z30, q.2)
def pr0 (k : Nat) (l : List ByteArray) (t : S30) : Option (S30 × Int) := (words_Int.f k (rfS l 0)).bind fun q => if q.2 = 0 then pr1 k l { t with f0 := q.1 } else some (z30, q.2)
def prAt : Nat → Nat → List ByteArray → S30 → Option (S30 × Int)
  | 0 => pr0
  | 1 => pr1
  | 2 => pr2
  | 3 => pr3
  | 4 => pr4
  | 5 => pr5
  | _ => pr6
def t0T (l : List ByteArray) : S30 := { z30 with f6 := ⟨rfS l 6, rfS l 7⟩, f7 := ⟨rfS l 8, rfS l 9⟩ }
def prsT (k : Nat) (s : ByteArray) : Option (S30 × Int) :=
  (words_Fields.f k s).bind fun q => if q.2 = 0 then (if q.1.length = 10 then (slices_ContainsFunc_string_string.f k (q.1.drop 6)).bind fun b => if b = true then some (z30, 5) else pr0 k q.1 (t0T q.1) else some (z30, 5)) else some (z30, q.2)
theorem prsT_mono (s : ByteArray) (k : Nat) : LeO (prsT k s) (prsT (k + 1) s) := by
  have h6 : ∀ l t, LeO (pr6 k l t) (pr6 (k + 1) l t) := fun l t => LeO.refl _
  have h5 : ∀ l t, LeO (pr5 k l t) (pr5 (k + 1) l t) := fun l t => LeO.bind (words_Int.mono _ _) fun q => LeO.ite (h6 _ _) (LeO.refl _)
  have h4 : ∀ l t, LeO (pr4 k l t) (pr4 (k + 1) l t) := fun l t => LeO.bind (words_Int.mono _ _) fun q => LeO.ite (h5 _ _) (LeO.refl _)
  have h3 : ∀ l t, LeO (pr3 k l t) (pr3 (k + 1) l t) := fun l t => LeO.bind (series_Parse.mono _ _) fun q => LeO.ite (h4 _ _) (LeO.refl _)
  have h2 : ∀ l t, LeO (pr2 k l t) (pr2 (k + 1) l t) := fun l t => LeO.bind (words_Int.mono _ _) fun q => LeO.ite (h3 _ _) (LeO.refl _)
  have h1 : ∀ l t, LeO (pr1 k l t) (pr1 (k + 1) l t) := fun l t => LeO.bind (words_Int.mono _ _) fun q => LeO.ite (h2 _ _) (LeO.refl _)
  have h0 : ∀ l t, LeO (pr0 k l t) (pr0 (k + 1) l t) := fun l t => LeO.bind (words_Int.mono _ _) fun q => LeO.ite (h1 _ _) (LeO.refl _)
  exact LeO.bind (words_Fields.mono _ _) fun q => LeO.ite (LeO.ite (LeO.bind (slices_ContainsFunc_string_string.mono _ _) fun b => LeO.ite (LeO.refl _) (h0 _ _)) (LeO.refl _)) (LeO.refl _)
def trade_Parse.f (k : Nat) (a0 : ByteArray) : Option (Int × Int × Int × ByteArray × Int × Int × Int × Int × Int × ByteArray × ByteArray × ByteArray × ByteArray × Int) := (prsT k a0).bind fun p => some (p.1.f0, p.1.f1, p.1.f2, p.1.f3.f0, p.1.f3.f1, p.1.f3.f2, p.1.f3.f3, p.1.f4, p.1.f5, p.1.f6.f0, p.1.f6.f1, p.1.f7.f0, p.1.f7.f1, p.2)
theorem trade_Parse.mono : ∀ a0 k, LeO (trade_Parse.f k a0) (trade_Parse.f (k + 1) a0) := fun a0 k => LeO.bind (prsT_mono a0 k) fun p => LeO.refl _
theorem kt_cell {T : TypeId} {a b : World} (h : KT T a b) {g : Nat} {cs : Array Value} (hg : a.heap[g]? = some (.cells cs T (0, 0))) (j : Nat) {v : Value} (hv : a.cell? ⟨g, j, none⟩ = some v) : b.cell? ⟨g, j, none⟩ = some v := (blk_cell (h g cs hg) j).trans ((blk_cell hg j).symm.trans hv)
set_option maxHeartbeats 1600000 in
set_option maxRecDepth 100000 in
theorem num_lit (k : Nat) (s : ByteArray) (x e : Int) (b gt off : Nat) (cs : Array Value) (old : Int) (w : World) (hs : words_Int.f k s = some (x, e)) (hb : w.heap[b]? = some (.cells #[.pointer (some ⟨gt, off, none⟩)] 76 (0, 0))) (hg : w.heap[gt]? = some (.cells cs 30 (0, 0))) (ho : cs[off]? = some (.int .i64 old)) :
    Calls Tryz.prog 68 #[.string s, .pointer (some ⟨b, 0, none⟩)] w fun ex w' => ex = .returned (.int .i64 e) ∧ ∃ w1, Below w.heap.size w w1 ∧ w' = w1.setCell ⟨gt, off, none⟩ (.int .i64 x) := by
  have HS := Aside0.mk hs
  have HB := Aside0.mk hb
  have HG := Aside0.mk hg
  have HO := Aside0.mk ho
  clear hs hb hg ho
  go_enter Tryz.func68, Tryz.ntmps68
  go_wp2_with (go_at_call 40; refine (words_Int.calls k s x e _ HS.out).mono ?_; rintro e1 w1 ⟨rfl, hd1⟩; have HBW := Aside0.mk hd1.below; have hp : w1.cell? ⟨b, 0, none⟩ = some (.pointer (some ⟨gt, off, none⟩)) := blk_cell (blk_below HB.out HBW.out) 0; have hc := (blk_cell (blk_below HG.out HBW.out) off).trans HO.out; have hf := blk_frozen (blk_below HG.out HBW.out) off; clear hd1)
  exact bodyPost_ret (v := .int .i64 e) (by simp [results, Tryz.results68, go_sem]) rfl ⟨rfl, _, HBW.out, rfl⟩
set_option maxHeartbeats 1600000 in
set_option maxRecDepth 100000 in
theorem number_calls (gt off : Nat) (w : World) :
    Calls Tryz.prog 35 #[.pointer (some ⟨gt, off, none⟩)] w fun e w' => ∃ b : Nat, e = .returned (.func (.func 68) #[] #[.pointer (some ⟨b, 0, none⟩)]) ∧ w'.heap[b]? = some (.cells #[.pointer (some ⟨gt, off, none⟩)] 76 (0, 0)) ∧ Below w.heap.size w w' := by
  go_enter Tryz.func35, Tryz.ntmps35
  go_wp2_with fail
  exact bodyPost_ret (v := .func (.func 68) #[] #[.pointer (some ⟨w.heap.size, 0, none⟩)]) (by simp [results, Tryz.results35, go_sem]) rfl ⟨_, rfl, blk_new _ _, below_alloc (Below.refl _ _) _⟩
set_option maxHeartbeats 1600000 in
set_option maxRecDepth 100000 in
theorem ser_lit (k : Nat) (s : ByteArray) (r1 : ByteArray) (r2 r3 r4 r5 : Int) (gt : Nat) (t : S30) (w : World) (hs : series_Parse.f k s = some (r1, r2, r3, r4, r5)) (hg : w.heap[gt]? = some (.cells #[.int .i64 t.f0, .int .i64 t.f1, .int .i64 t.f2, .string t.f3.f0, .int .i64 t.f3.f1, .int .i64 t.f3.f2, .int .i64 t.f3.f3, .int .i64 t.f4, .int .i64 t.f5, .string t.f6.f0, .string t.f6.f1, .string t.f7.f0, .string t.f7.f1] 30 (0, 0))) (hGL : GlobD w) :
    Calls Tryz.prog 34 #[.string s, .pointer (some ⟨gt, 0, none⟩)] w fun ex w' => ex = .returned (.int .i64 r5) ∧ ∃ w1, Below w.heap.size w w1 ∧ w' = (((w1.setCell ⟨gt, 3, none⟩ (.string r1)).setCell ⟨gt, 4, none⟩ (.int .i64 r2)).setCell ⟨gt, 5, none⟩ (.int .i64 r3)).setCell ⟨gt, 6, none⟩ (.int .i64 r4) := by
  have HS := Aside0.mk hs
  have HG := Aside0.mk hg
  have HGL := Aside0.mk hGL
  clear hs hg hGL
  go_enter Tryz.func34, Tryz.ntmps34
  go_wp2_with (go_at_call 12; refine (series_Parse.calls k s r1 r2 r3 r4 r5 _ HS.out HGL.out).mono ?_; rintro e1 w1 ⟨rfl, hb1⟩; have HBW := Aside0.mk hb1; have hG1 := blk_below HG.out hb1; have hc3 : ∀ o, (w1.alloc o).cell? ⟨gt, 3, none⟩ = some (.string t.f3.f0) := fun o => blk_cell (blk_alloc hG1 o) 3; have hf3 : ∀ o, (w1.alloc o).frozen? ⟨gt, 3, none⟩ = false := fun o => blk_frozen (blk_alloc hG1 o) 3; have hc4 : ∀ o, (w1.alloc o).cell? ⟨gt, 4, none⟩ = some (.int .i64 t.f3.f1) := fun o => blk_cell (blk_alloc hG1 o) 4; have hf4 : ∀ o, (w1.alloc o).frozen? ⟨gt, 4, none⟩ = false := fun o => blk_frozen (blk_alloc hG1 o) 4; have hc5 : ∀ o, (w1.alloc o).cell? ⟨gt, 5, none⟩ = some (.int .i64 t.f3.f2) := fun o => blk_cell (blk_alloc hG1 o) 5; have hf5 : ∀ o, (w1.alloc o).frozen? ⟨gt, 5, none⟩ = false := fun o => blk_frozen (blk_alloc hG1 o) 5; have hc6 : ∀ o, (w1.alloc o).cell? ⟨gt, 6, none⟩ = some (.int .i64 t.f3.f3) := fun o => blk_cell (blk_alloc hG1 o) 6; have hf6 : ∀ o, (w1.alloc o).frozen? ⟨gt, 6, none⟩ = false := fun o => blk_frozen (blk_alloc hG1 o) 6; clear hb1 hG1)
  exact bodyPost_ret (v := .int .i64 r5) (by simp [results, Tryz.results34, go_sem]) rfl ⟨rfl, _, below_alloc HBW.out _, rfl⟩
theorem strsT {n : Nat} {w : World} {base : Nat} {ok : Nat → Prop} {v : Value} {l : List ByteArray} (h : Kd.R Kd.string 9 w base ok v l) (hl : l.length = n) (hn : 0 < n) : ∃ gL cap, v = .slice (some ⟨gL, 0, none⟩) n cap ∧ n ≤ cap ∧ (∃ cur, w.heap[gL]? = some (.cells cur 9 (0, 0))) ∧ Kd.C Kd.string w (some ⟨gL, 0, none⟩) l.length l ∧ ∀ j : Nat, j < n → w.cell? ⟨gL, j, none⟩ = some (.string (rfS l j)) := by
  obtain ⟨g, cap, rfl, _, _, hcur⟩ := Kd.R_form h (by omega)
  have hC := (Kd.R_reads' h).2.2
  refine ⟨g, cap, by rw [hl], by have := (Kd.R_reads' h).2.1; omega, hcur, hC, fun j hj => ?_⟩
  obtain ⟨ad, e, hx⟩ := Kd.at_string hC (j : Int) (by omega) (by omega)
  cases e
  rw [Int.toNat_natCast] at hx
  have e2 : (⟨g, 0, none⟩ : Addr).add j = ⟨g, j, none⟩ := by
    unfold Addr.add
    split <;> simp_all
  rwa [e2] at hx
def trp.T6 : Bool × List (List Nat × List Nat) := (true, [([], []), ([0], [0]), ([1], [1]), ([], []), ([3], [3]), ([4], [4]), ([2, 5], [2, 5]), ([], []), ([7], [7]), ([8], [8]), ([], []), ([10], [10]), ([11], [11]), ([9, 12], [9, 12]), ([6, 13], [6, 13]), ([], []), ([15, 14, 0, 1, 2, 3, 4, 5, 6, 7, 8, 9, 10, 11, 12, 13, 14, 15], [14, 15])])
def trp.B6 : List Nat := [0, 1, 3, 0, 8, 24, 63, 0, 128, 384, 0, 1024, 3072, 8064, 16383, 0, 65535]
theorem trp.tab6 : rtab .any (opsOf Tryz.f10 6) = trp.T6 := by kernel_rfl
theorem trp.bits6 : waitsOk trp.T6.2 trp.B6 = true := by kernel_rfl
set_option maxHeartbeats 6400000 in
set_option maxRecDepth 100000 in
theorem parse_core (k : Nat) (a0 : ByteArray) (p : S30 × Int) (w : World) (h : prsT k a0 = some p) (hGL : GlobD w) :
    Calls Tryz.prog 10 #[.string a0] w fun e w' => e = .returned (.tuple #[.agg #[.int .i64 p.1.f0, .int .i64 p.1.f1, .int .i64 p.1.f2, .string p.1.f3.f0, .int .i64 p.1.f3.f1, .int .i64 p.1.f3.f2, .int .i64 p.1.f3.f3, .int .i64 p.1.f4, .int .i64 p.1.f5, .string p.1.f6.f0, .string p.1.f6.f1, .string p.1.f7.f0, .string p.1.f7.f1], .int .i64 p.2]) ∧ Below w.heap.size w w' := by
  unfold prsT at h
  obtain ⟨⟨l, e1⟩, hF, h⟩ := Option.bind_eq_some_iff.1 h
  dsimp only at h
  have HF := Aside0.mk hF
  have HGL := Aside0.mk hGL
  have HBA := Aside0.mk (below_alloc (Below.refl w.heap.size w) (.cells #[.int .i64 0, .int .i64 0, .int .i64 0, .string (⟨#[]⟩ : ByteArray), .int .i64 0, .int .i64 0, .int .i64 0, .int .i64 0, .int .i64 0, .string (⟨#[]⟩ : ByteArray), .string (⟨#[]⟩ : ByteArray), .string (⟨#[]⟩ : ByteArray), .string (⟨#[]⟩ : ByteArray)] 30))
  have HZ := Aside0.mk (show (w.alloc (.cells #[.int .i64 0, .int .i64 0, .int .i64 0, .string (⟨#[]⟩ : ByteArray), .int .i64 0, .int .i64 0, .int .i64 0, .int .i64 0, .int .i64 0, .string (⟨#[]⟩ : ByteArray), .string (⟨#[]⟩ : ByteArray), .string (⟨#[]⟩ : ByteArray), .string (⟨#[]⟩ : ByteArray)] 30)).heap[w.heap.size]? = some (.cells #[.int .i64 0, .int .i64 0, .int .i64 0, .string (⟨#[]⟩ : ByteArray), .int .i64 0, .int .i64 0, .int .i64 0, .int .i64 0, .int .i64 0, .string (⟨#[]⟩ : ByteArray), .string (⟨#[]⟩ : ByteArray), .string (⟨#[]⟩ : ByteArray), .string (⟨#[]⟩ : ByteArray)] 30 (0, 0)) from blk_new _ _)
  clear hF hGL
  by_cases c1 : e1 = 0
  case neg =>
    rw [if_neg c1] at h
    obtain rfl := Option.some.inj h
    have hne : (e1 != 0) = true := bne_iff_ne.2 c1
    clear c1 h
    go_enter Tryz.func10, Tryz.ntmps10
    go_wp2_with (go_at_call 9; refine (words_Fields.calls k a0 l _ _ HF.out).mono ?_; rintro e w1 ⟨v0, rfl, ho, hb⟩; have HB1 := Aside0.mk (below_step HBA.out hb); have hZ1 := blk_below HZ.out hb; obtain ⟨A1, cc1, rfl⟩ := Kd.R_slice ho; have hfc0 : w1.cell? ⟨w.heap.size, 0, none⟩ = some (.int .i64 0) := blk_cell hZ1 0; have hf0 : w1.frozen? ⟨w.heap.size, 0, none⟩ = false := blk_frozen hZ1 0; have hfc1 : w1.cell? ⟨w.heap.size, 1, none⟩ = some (.int .i64 0) := blk_cell hZ1 1; have hf1 : w1.frozen? ⟨w.heap.size, 1, none⟩ = false := blk_frozen hZ1 1; have hfc2 : w1.cell? ⟨w.heap.size, 2, none⟩ = some (.int .i64 0) := blk_cell hZ1 2; have hf2 : w1.frozen? ⟨w.heap.size, 2, none⟩ = false := blk_frozen hZ1 2; have hfc3 : w1.cell? ⟨w.heap.size, 3, none⟩ = some (.string (⟨#[]⟩ : ByteArray)) := blk_cell hZ1 3; have hf3 : w1.frozen? ⟨w.heap.size, 3, none⟩ = false := blk_frozen hZ1 3; have hfc4 : w1.cell? ⟨w.heap.size, 4, none⟩ = some (.int .i64 0) := blk_cell hZ1 4; have hf4 : w1.frozen? ⟨w.heap.size, 4, none⟩ = false := blk_frozen hZ1 4; have hfc5 : w1.cell? ⟨w.heap.size, 5, none⟩ = some (.int .i64 0) := blk_cell hZ1 5; have hf5 : w1.frozen? ⟨w.heap.size, 5, none⟩ = false := blk_frozen hZ1 5; have hfc6 : w1.cell? ⟨w.heap.size, 6, none⟩ = some (.int .i64 0) := blk_cell hZ1 6; have hf6 : w1.frozen? ⟨w.heap.size, 6, none⟩ = false := blk_frozen hZ1 6; have hfc7 : w1.cell? ⟨w.heap.size, 7, none⟩ = some (.int .i64 0) := blk_cell hZ1 7; have hf7 : w1.frozen? ⟨w.heap.size, 7, none⟩ = false := blk_frozen hZ1 7; have hfc8 : w1.cell? ⟨w.heap.size, 8, none⟩ = some (.int .i64 0) := blk_cell hZ1 8; have hf8 : w1.frozen? ⟨w.heap.size, 8, none⟩ = false := blk_frozen hZ1 8; have hfc9 : w1.cell? ⟨w.heap.size, 9, none⟩ = some (.string (⟨#[]⟩ : ByteArray)) := blk_cell hZ1 9; have hf9 : w1.frozen? ⟨w.heap.size, 9, none⟩ = false := blk_frozen hZ1 9; have hfc10 : w1.cell? ⟨w.heap.size, 10, none⟩ = some (.string (⟨#[]⟩ : ByteArray)) := blk_cell hZ1 10; have hf10 : w1.frozen? ⟨w.heap.size, 10, none⟩ = false := blk_frozen hZ1 10; have hfc11 : w1.cell? ⟨w.heap.size, 11, none⟩ = some (.string (⟨#[]⟩ : ByteArray)) := blk_cell hZ1 11; have hf11 : w1.frozen? ⟨w.heap.size, 11, none⟩ = false := blk_frozen hZ1 11; have hfc12 : w1.cell? ⟨w.heap.size, 12, none⟩ = some (.string (⟨#[]⟩ : ByteArray)) := blk_cell hZ1 12; have hf12 : w1.frozen? ⟨w.heap.size, 12, none⟩ = false := blk_frozen hZ1 12; have HZ1 := Aside0.mk hZ1; clear hb ho hZ1)
    refine bodyPost_ret (results_ct rfl _ _ w.heap.size 30 #[.int .i64 0, .int .i64 0, .int .i64 0, .string (⟨#[]⟩ : ByteArray), .int .i64 0, .int .i64 0, .int .i64 0, .int .i64 0, .int .i64 0, .string (⟨#[]⟩ : ByteArray), .string (⟨#[]⟩ : ByteArray), .string (⟨#[]⟩ : ByteArray), .string (⟨#[]⟩ : ByteArray)] (0, 0) _ rfl (blk_put (cs := #[.int .i64 0, .int .i64 0, .int .i64 0, .string (⟨#[]⟩ : ByteArray), .int .i64 0, .int .i64 0, .int .i64 0, .int .i64 0, .int .i64 0, .string (⟨#[]⟩ : ByteArray), .string (⟨#[]⟩ : ByteArray), .string (⟨#[]⟩ : ByteArray), .string (⟨#[]⟩ : ByteArray)]) (blk_put (cs := #[.int .i64 0, .int .i64 0, .int .i64 0, .string (⟨#[]⟩ : ByteArray), .int .i64 0, .int .i64 0, .int .i64 0, .int .i64 0, .int .i64 0, .string (⟨#[]⟩ : ByteArray), .string (⟨#[]⟩ : ByteArray), .string (⟨#[]⟩ : ByteArray), .string (⟨#[]⟩ : ByteArray)]) (blk_put (cs := #[.int .i64 0, .int .i64 0, .int .i64 0, .string (⟨#[]⟩ : ByteArray), .int .i64 0, .int .i64 0, .int .i64 0, .int .i64 0, .int .i64 0, .string (⟨#[]⟩ : ByteArray), .string (⟨#[]⟩ : ByteArray), .string (⟨#[]⟩ : ByteArray), .string (⟨#[]⟩ : ByteArray)]) (blk_put (cs := #[.int .i64 0, .int .i64 0, .int .i64 0, .string (⟨#[]⟩ : ByteArray), .int .i64 0, .int .i64 0, .int .i64 0, .int .i64 0, .int .i64 0, .string (⟨#[]⟩ : ByteArray), .string (⟨#[]⟩ : ByteArray), .string (⟨#[]⟩ : ByteArray), .string (⟨#[]⟩ : ByteArray)]) (blk_put (cs := #[.int .i64 0, .int .i64 0, .int .i64 0, .string (⟨#[]⟩ : ByteArray), .int .i64 0, .int .i64 0, .int .i64 0, .int .i64 0, .int .i64 0, .string (⟨#[]⟩ : ByteArray), .string (⟨#[]⟩ : ByteArray), .string (⟨#[]⟩ : ByteArray), .string (⟨#[]⟩ : ByteArray)]) (blk_put (cs := #[.int .i64 0, .int .i64 0, .int .i64 0, .string (⟨#[]⟩ : ByteArray), .int .i64 0, .int .i64 0, .int .i64 0, .int .i64 0, .int .i64 0, .string (⟨#[]⟩ : ByteArray), .string (⟨#[]⟩ : ByteArray), .string (⟨#[]⟩ : ByteArray), .string (⟨#[]⟩ : ByteArray)]) (blk_put (cs := #[.int .i64 0, .int .i64 0, .int .i64 0, .string (⟨#[]⟩ : ByteArray), .int .i64 0, .int .i64 0, .int .i64 0, .int .i64 0, .int .i64 0, .string (⟨#[]⟩ : ByteArray), .string (⟨#[]⟩ : ByteArray), .string (⟨#[]⟩ : ByteArray), .string (⟨#[]⟩ : ByteArray)]) (blk_put (cs := #[.int .i64 0, .int .i64 0, .int .i64 0, .string (⟨#[]⟩ : ByteArray), .int .i64 0, .int .i64 0, .int .i64 0, .int .i64 0, .int .i64 0, .string (⟨#[]⟩ : ByteArray), .string (⟨#[]⟩ : ByteArray), .string (⟨#[]⟩ : ByteArray), .string (⟨#[]⟩ : ByteArray)]) (blk_put (cs := #[.int .i64 0, .int .i64 0, .int .i64 0, .string (⟨#[]⟩ : ByteArray), .int .i64 0, .int .i64 0, .int .i64 0, .int .i64 0, .int .i64 0, .string (⟨#[]⟩ : ByteArray), .string (⟨#[]⟩ : ByteArray), .string (⟨#[]⟩ : ByteArray), .string (⟨#[]⟩ : ByteArray)]) (blk_put (cs := #[.int .i64 0, .int .i64 0, .int .i64 0, .string (⟨#[]⟩ : ByteArray), .int .i64 0, .int .i64 0, .int .i64 0, .int .i64 0, .int .i64 0, .string (⟨#[]⟩ : ByteArray), .string (⟨#[]⟩ : ByteArray), .string (⟨#[]⟩ : ByteArray), .string (⟨#[]⟩ : ByteArray)]) (blk_put (cs := #[.int .i64 0, .int .i64 0, .int .i64 0, .string (⟨#[]⟩ : ByteArray), .int .i64 0, .int .i64 0, .int .i64 0, .int .i64 0, .int .i64 0, .string (⟨#[]⟩ : ByteArray), .string (⟨#[]⟩ : ByteArray), .string (⟨#[]⟩ : ByteArray), .string (⟨#[]⟩ : ByteArray)]) (blk_put (cs := #[.int .i64 0, .int .i64 0, .int .i64 0, .string (⟨#[]⟩ : ByteArray), .int .i64 0, .int .i64 0, .int .i64 0, .int .i64 0, .int .i64 0, .string (⟨#[]⟩ : ByteArray), .string (⟨#[]⟩ : ByteArray), .string (⟨#[]⟩ : ByteArray), .string (⟨#[]⟩ : ByteArray)]) (blk_put (cs := #[.int .i64 0, .int .i64 0, .int .i64 0, .string (⟨#[]⟩ : ByteArray), .int .i64 0, .int .i64 0, .int .i64 0, .int .i64 0, .int .i64 0, .string (⟨#[]⟩ : ByteArray), .string (⟨#[]⟩ : ByteArray), .string (⟨#[]⟩ : ByteArray), .string (⟨#[]⟩ : ByteArray)]) (HZ1.out) 0 _ rfl) 1 _ rfl) 2 _ rfl) 3 _ rfl) 4 _ rfl) 5 _ rfl) 6 _ rfl) 7 _ rfl) 8 _ rfl) 9 _ rfl) 10 _ rfl) 11 _ rfl) 12 _ rfl) Tryz.underlying30 rfl (by kernel_rfl)) rfl ⟨rfl, ?_⟩
    exact (Below.setCell (Below.setCell (Below.setCell (Below.setCell (Below.setCell (Below.setCell (Below.setCell (Below.setCell (Below.setCell (Below.setCell (Below.setCell (Below.setCell (Below.setCell HB1.out (p := ⟨w.heap.size, 0, none⟩) (by first | exact Nat.le_refl _ | exact Nat.le_succ _) _) (p := ⟨w.heap.size, 1, none⟩) (by first | exact Nat.le_refl _ | exact Nat.le_succ _) _) (p := ⟨w.heap.size, 2, none⟩) (by first | exact Nat.le_refl _ | exact Nat.le_succ _) _) (p := ⟨w.heap.size, 3, none⟩) (by first | exact Nat.le_refl _ | exact Nat.le_succ _) _) (p := ⟨w.heap.size, 4, none⟩) (by first | exact Nat.le_refl _ | exact Nat.le_succ _) _) (p := ⟨w.heap.size, 5, none⟩) (by first | exact Nat.le_refl _ | exact Nat.le_succ _) _) (p := ⟨w.heap.size, 6, none⟩) (by first | exact Nat.le_refl _ | exact Nat.le_succ _) _) (p := ⟨w.heap.size, 7, none⟩) (by first | exact Nat.le_refl _ | exact Nat.le_succ _) _) (p := ⟨w.heap.size, 8, none⟩) (by first | exact Nat.le_refl _ | exact Nat.le_succ _) _) (p := ⟨w.heap.size, 9, none⟩) (by first | exact Nat.le_refl _ | exact Nat.le_succ _) _) (p := ⟨w.heap.size, 10, none⟩) (by first | exact Nat.le_refl _ | exact Nat.le_succ _) _) (p := ⟨w.heap.size, 11, none⟩) (by first | exact Nat.le_refl _ | exact Nat.le_succ _) _) (p := ⟨w.heap.size, 12, none⟩) (by first | exact Nat.le_refl _ | exact Nat.le_succ _) _)
  subst c1
  rw [if_pos rfl] at h
  by_cases c2 : l.length = 10
  case neg =>
    rw [if_neg c2] at h
    obtain rfl := Option.some.inj h
    have hne : ((l.length : Int) != 10) = true := bne_iff_ne.2 (by omega)
    clear c2 h
    go_enter Tryz.func10, Tryz.ntmps10
    go_wp2_with (go_at_call 9; refine (words_Fields.calls k a0 l _ _ HF.out).mono ?_; rintro e w1 ⟨v0, rfl, ho, hb⟩; have HB1 := Aside0.mk (below_step HBA.out hb); have hZ1 := blk_below HZ.out hb; obtain ⟨A1, cc1, rfl⟩ := Kd.R_slice ho; have hfc0 : w1.cell? ⟨w.heap.size, 0, none⟩ = some (.int .i64 0) := blk_cell hZ1 0; have hf0 : w1.frozen? ⟨w.heap.size, 0, none⟩ = false := blk_frozen hZ1 0; have hfc1 : w1.cell? ⟨w.heap.size, 1, none⟩ = some (.int .i64 0) := blk_cell hZ1 1; have hf1 : w1.frozen? ⟨w.heap.size, 1, none⟩ = false := blk_frozen hZ1 1; have hfc2 : w1.cell? ⟨w.heap.size, 2, none⟩ = some (.int .i64 0) := blk_cell hZ1 2; have hf2 : w1.frozen? ⟨w.heap.size, 2, none⟩ = false := blk_frozen hZ1 2; have hfc3 : w1.cell? ⟨w.heap.size, 3, none⟩ = some (.string (⟨#[]⟩ : ByteArray)) := blk_cell hZ1 3; have hf3 : w1.frozen? ⟨w.heap.size, 3, none⟩ = false := blk_frozen hZ1 3; have hfc4 : w1.cell? ⟨w.heap.size, 4, none⟩ = some (.int .i64 0) := blk_cell hZ1 4; have hf4 : w1.frozen? ⟨w.heap.size, 4, none⟩ = false := blk_frozen hZ1 4; have hfc5 : w1.cell? ⟨w.heap.size, 5, none⟩ = some (.int .i64 0) := blk_cell hZ1 5; have hf5 : w1.frozen? ⟨w.heap.size, 5, none⟩ = false := blk_frozen hZ1 5; have hfc6 : w1.cell? ⟨w.heap.size, 6, none⟩ = some (.int .i64 0) := blk_cell hZ1 6; have hf6 : w1.frozen? ⟨w.heap.size, 6, none⟩ = false := blk_frozen hZ1 6; have hfc7 : w1.cell? ⟨w.heap.size, 7, none⟩ = some (.int .i64 0) := blk_cell hZ1 7; have hf7 : w1.frozen? ⟨w.heap.size, 7, none⟩ = false := blk_frozen hZ1 7; have hfc8 : w1.cell? ⟨w.heap.size, 8, none⟩ = some (.int .i64 0) := blk_cell hZ1 8; have hf8 : w1.frozen? ⟨w.heap.size, 8, none⟩ = false := blk_frozen hZ1 8; have hfc9 : w1.cell? ⟨w.heap.size, 9, none⟩ = some (.string (⟨#[]⟩ : ByteArray)) := blk_cell hZ1 9; have hf9 : w1.frozen? ⟨w.heap.size, 9, none⟩ = false := blk_frozen hZ1 9; have hfc10 : w1.cell? ⟨w.heap.size, 10, none⟩ = some (.string (⟨#[]⟩ : ByteArray)) := blk_cell hZ1 10; have hf10 : w1.frozen? ⟨w.heap.size, 10, none⟩ = false := blk_frozen hZ1 10; have hfc11 : w1.cell? ⟨w.heap.size, 11, none⟩ = some (.string (⟨#[]⟩ : ByteArray)) := blk_cell hZ1 11; have hf11 : w1.frozen? ⟨w.heap.size, 11, none⟩ = false := blk_frozen hZ1 11; have hfc12 : w1.cell? ⟨w.heap.size, 12, none⟩ = some (.string (⟨#[]⟩ : ByteArray)) := blk_cell hZ1 12; have hf12 : w1.frozen? ⟨w.heap.size, 12, none⟩ = false := blk_frozen hZ1 12; have HZ1 := Aside0.mk hZ1; clear hb ho hZ1)
    refine bodyPost_ret (results_ct rfl _ _ w.heap.size 30 #[.int .i64 0, .int .i64 0, .int .i64 0, .string (⟨#[]⟩ : ByteArray), .int .i64 0, .int .i64 0, .int .i64 0, .int .i64 0, .int .i64 0, .string (⟨#[]⟩ : ByteArray), .string (⟨#[]⟩ : ByteArray), .string (⟨#[]⟩ : ByteArray), .string (⟨#[]⟩ : ByteArray)] (0, 0) _ rfl (blk_put (cs := #[.int .i64 0, .int .i64 0, .int .i64 0, .string (⟨#[]⟩ : ByteArray), .int .i64 0, .int .i64 0, .int .i64 0, .int .i64 0, .int .i64 0, .string (⟨#[]⟩ : ByteArray), .string (⟨#[]⟩ : ByteArray), .string (⟨#[]⟩ : ByteArray), .string (⟨#[]⟩ : ByteArray)]) (blk_put (cs := #[.int .i64 0, .int .i64 0, .int .i64 0, .string (⟨#[]⟩ : ByteArray), .int .i64 0, .int .i64 0, .int .i64 0, .int .i64 0, .int .i64 0, .string (⟨#[]⟩ : ByteArray), .string (⟨#[]⟩ : ByteArray), .string (⟨#[]⟩ : ByteArray), .string (⟨#[]⟩ : ByteArray)]) (blk_put (cs := #[.int .i64 0, .int .i64 0, .int .i64 0, .string (⟨#[]⟩ : ByteArray), .int .i64 0, .int .i64 0, .int .i64 0, .int .i64 0, .int .i64 0, .string (⟨#[]⟩ : ByteArray), .string (⟨#[]⟩ : ByteArray), .string (⟨#[]⟩ : ByteArray), .string (⟨#[]⟩ : ByteArray)]) (blk_put (cs := #[.int .i64 0, .int .i64 0, .int .i64 0, .string (⟨#[]⟩ : ByteArray), .int .i64 0, .int .i64 0, .int .i64 0, .int .i64 0, .int .i64 0, .string (⟨#[]⟩ : ByteArray), .string (⟨#[]⟩ : ByteArray), .string (⟨#[]⟩ : ByteArray), .string (⟨#[]⟩ : ByteArray)]) (blk_put (cs := #[.int .i64 0, .int .i64 0, .int .i64 0, .string (⟨#[]⟩ : ByteArray), .int .i64 0, .int .i64 0, .int .i64 0, .int .i64 0, .int .i64 0, .string (⟨#[]⟩ : ByteArray), .string (⟨#[]⟩ : ByteArray), .string (⟨#[]⟩ : ByteArray), .string (⟨#[]⟩ : ByteArray)]) (blk_put (cs := #[.int .i64 0, .int .i64 0, .int .i64 0, .string (⟨#[]⟩ : ByteArray), .int .i64 0, .int .i64 0, .int .i64 0, .int .i64 0, .int .i64 0, .string (⟨#[]⟩ : ByteArray), .string (⟨#[]⟩ : ByteArray), .string (⟨#[]⟩ : ByteArray), .string (⟨#[]⟩ : ByteArray)]) (blk_put (cs := #[.int .i64 0, .int .i64 0, .int .i64 0, .string (⟨#[]⟩ : ByteArray), .int .i64 0, .int .i64 0, .int .i64 0, .int .i64 0, .int .i64 0, .string (⟨#[]⟩ : ByteArray), .string (⟨#[]⟩ : ByteArray), .string (⟨#[]⟩ : ByteArray), .string (⟨#[]⟩ : ByteArray)]) (blk_put (cs := #[.int .i64 0, .int .i64 0, .int .i64 0, .string (⟨#[]⟩ : ByteArray), .int .i64 0, .int .i64 0, .int .i64 0, .int .i64 0, .int .i64 0, .string (⟨#[]⟩ : ByteArray), .string (⟨#[]⟩ : ByteArray), .string (⟨#[]⟩ : ByteArray), .string (⟨#[]⟩ : ByteArray)]) (blk_put (cs := #[.int .i64 0, .int .i64 0, .int .i64 0, .string (⟨#[]⟩ : ByteArray), .int .i64 0, .int .i64 0, .int .i64 0, .int .i64 0, .int .i64 0, .string (⟨#[]⟩ : ByteArray), .string (⟨#[]⟩ : ByteArray), .string (⟨#[]⟩ : ByteArray), .string (⟨#[]⟩ : ByteArray)]) (blk_put (cs := #[.int .i64 0, .int .i64 0, .int .i64 0, .string (⟨#[]⟩ : ByteArray), .int .i64 0, .int .i64 0, .int .i64 0, .int .i64 0, .int .i64 0, .string (⟨#[]⟩ : ByteArray), .string (⟨#[]⟩ : ByteArray), .string (⟨#[]⟩ : ByteArray), .string (⟨#[]⟩ : ByteArray)]) (blk_put (cs := #[.int .i64 0, .int .i64 0, .int .i64 0, .string (⟨#[]⟩ : ByteArray), .int .i64 0, .int .i64 0, .int .i64 0, .int .i64 0, .int .i64 0, .string (⟨#[]⟩ : ByteArray), .string (⟨#[]⟩ : ByteArray), .string (⟨#[]⟩ : ByteArray), .string (⟨#[]⟩ : ByteArray)]) (blk_put (cs := #[.int .i64 0, .int .i64 0, .int .i64 0, .string (⟨#[]⟩ : ByteArray), .int .i64 0, .int .i64 0, .int .i64 0, .int .i64 0, .int .i64 0, .string (⟨#[]⟩ : ByteArray), .string (⟨#[]⟩ : ByteArray), .string (⟨#[]⟩ : ByteArray), .string (⟨#[]⟩ : ByteArray)]) (blk_put (cs := #[.int .i64 0, .int .i64 0, .int .i64 0, .string (⟨#[]⟩ : ByteArray), .int .i64 0, .int .i64 0, .int .i64 0, .int .i64 0, .int .i64 0, .string (⟨#[]⟩ : ByteArray), .string (⟨#[]⟩ : ByteArray), .string (⟨#[]⟩ : ByteArray), .string (⟨#[]⟩ : ByteArray)]) (HZ1.out) 0 _ rfl) 1 _ rfl) 2 _ rfl) 3 _ rfl) 4 _ rfl) 5 _ rfl) 6 _ rfl) 7 _ rfl) 8 _ rfl) 9 _ rfl) 10 _ rfl) 11 _ rfl) 12 _ rfl) Tryz.underlying30 rfl (by kernel_rfl)) rfl ⟨rfl, ?_⟩
    exact (Below.setCell (Below.setCell (Below.setCell (Below.setCell (Below.setCell (Below.setCell (Below.setCell (Below.setCell (Below.setCell (Below.setCell (Below.setCell (Below.setCell (Below.setCell HB1.out (p := ⟨w.heap.size, 0, none⟩) (by first | exact Nat.le_refl _ | exact Nat.le_succ _) _) (p := ⟨w.heap.size, 1, none⟩) (by first | exact Nat.le_refl _ | exact Nat.le_succ _) _) (p := ⟨w.heap.size, 2, none⟩) (by first | exact Nat.le_refl _ | exact Nat.le_succ _) _) (p := ⟨w.heap.size, 3, none⟩) (by first | exact Nat.le_refl _ | exact Nat.le_succ _) _) (p := ⟨w.heap.size, 4, none⟩) (by first | exact Nat.le_refl _ | exact Nat.le_succ _) _) (p := ⟨w.heap.size, 5, none⟩) (by first | exact Nat.le_refl _ | exact Nat.le_succ _) _) (p := ⟨w.heap.size, 6, none⟩) (by first | exact Nat.le_refl _ | exact Nat.le_succ _) _) (p := ⟨w.heap.size, 7, none⟩) (by first | exact Nat.le_refl _ | exact Nat.le_succ _) _) (p := ⟨w.heap.size, 8, none⟩) (by first | exact Nat.le_refl _ | exact Nat.le_succ _) _) (p := ⟨w.heap.size, 9, none⟩) (by first | exact Nat.le_refl _ | exact Nat.le_succ _) _) (p := ⟨w.heap.size, 10, none⟩) (by first | exact Nat.le_refl _ | exact Nat.le_succ _) _) (p := ⟨w.heap.size, 11, none⟩) (by first | exact Nat.le_refl _ | exact Nat.le_succ _) _) (p := ⟨w.heap.size, 12, none⟩) (by first | exact Nat.le_refl _ | exact Nat.le_succ _) _)
  rw [if_pos c2] at h
  obtain ⟨bd, hC, h⟩ := Option.bind_eq_some_iff.1 h
  have HL10 := Aside0.mk c2
  obtain ⟨l6, hl6⟩ : ∃ y, y = l.drop 6 := ⟨_, rfl⟩
  have HL6 := Aside0.mk hl6
  rw [← hl6] at hC
  have HC := Aside0.mk hC
  clear hC c2 hl6
  cases bd with
  | true =>
    rw [if_pos rfl] at h
    obtain rfl := Option.some.inj h
    clear h
    go_enter Tryz.func10, Tryz.ntmps10
    go_wp2_with (first | (go_at_call 9; refine (words_Fields.calls k a0 l _ _ HF.out).mono ?_; rintro e w1 ⟨v0, rfl, ho, hb⟩; have HB1 := Aside0.mk (below_step HBA.out hb); have hZ1 := blk_below HZ.out hb; obtain ⟨gL, cap, rfl, hcap, ⟨cur, hcur⟩, hRC, hcs⟩ := strsT ho HL10.out (by omega); obtain ⟨i0, hi0, _, hsz0, _⟩ := info_parts info9; obtain ⟨A6, hA6⟩ : ∃ A1, A1 = (if cap = 6 then (some ⟨gL, 0, none⟩ : Option Addr) else (some ⟨gL, 0, none⟩ : Option Addr).map (·.add (6 * 1))) := ⟨_, rfl⟩; have hl6n : l6.length = 4 := (by rw [HL6.out, List.length_drop, HL10.out]); have hcutB : ∀ W : World, (Instr.slice 41 (.slice (some ⟨gL, 0, none⟩) 10 cap) (some (.int .i64 6)) none none).run Tryz.prog W = .ok (.slice A6 l6.length (cap - 6)) W := (by intro W; rw [hA6, hl6n]; exact cut_from (P := Tryz.prog) 41 9 .i64 Tryz.underlying41 hi0 1 hsz0 (some ⟨gL, 0, none⟩) 10 cap 6 (by decide) (by decide) W); have HR6 := Aside0.mk (show Kd.C Kd.string w1 A6 l6.length l6 from by rw [hA6, HL6.out]; exact Kd.C_drop (m := 6) (c := cap) hRC (by rw [HL10.out]; decide) (by rw [HL10.out]; exact hcap)); have HC6 := Aside0.mk (show l6.length ≤ cap - 6 from by omega); have HCS := Aside0.mk hcs; have HCUR := Aside0.mk hcur; have HZ1 := Aside0.mk hZ1; clear hA6 hl6n hcs hcur hRC hcap hsz0 hi0 hb ho hZ1) | (go_at_call 31; refine (slices_ContainsFunc_string_string.calls k A6 (cap - 6) l6 true _ HR6.out HC6.out HC.out).mono ?_; rintro e w2 ⟨rfl, hd2⟩; have hb2 := hd2.below; have HB2 := Aside0.mk (below_step HB1.out hb2); have hZ2 := blk_below HZ1.out hb2; have hfc0 : w2.cell? ⟨w.heap.size, 0, none⟩ = some (.int .i64 0) := blk_cell hZ2 0; have hf0 : w2.frozen? ⟨w.heap.size, 0, none⟩ = false := blk_frozen hZ2 0; have hfc1 : w2.cell? ⟨w.heap.size, 1, none⟩ = some (.int .i64 0) := blk_cell hZ2 1; have hf1 : w2.frozen? ⟨w.heap.size, 1, none⟩ = false := blk_frozen hZ2 1; have hfc2 : w2.cell? ⟨w.heap.size, 2, none⟩ = some (.int .i64 0) := blk_cell hZ2 2; have hf2 : w2.frozen? ⟨w.heap.size, 2, none⟩ = false := blk_frozen hZ2 2; have hfc3 : w2.cell? ⟨w.heap.size, 3, none⟩ = some (.string (⟨#[]⟩ : ByteArray)) := blk_cell hZ2 3; have hf3 : w2.frozen? ⟨w.heap.size, 3, none⟩ = false := blk_frozen hZ2 3; have hfc4 : w2.cell? ⟨w.heap.size, 4, none⟩ = some (.int .i64 0) := blk_cell hZ2 4; have hf4 : w2.frozen? ⟨w.heap.size, 4, none⟩ = false := blk_frozen hZ2 4; have hfc5 : w2.cell? ⟨w.heap.size, 5, none⟩ = some (.int .i64 0) := blk_cell hZ2 5; have hf5 : w2.frozen? ⟨w.heap.size, 5, none⟩ = false := blk_frozen hZ2 5; have hfc6 : w2.cell? ⟨w.heap.size, 6, none⟩ = some (.int .i64 0) := blk_cell hZ2 6; have hf6 : w2.frozen? ⟨w.heap.size, 6, none⟩ = false := blk_frozen hZ2 6; have hfc7 : w2.cell? ⟨w.heap.size, 7, none⟩ = some (.int .i64 0) := blk_cell hZ2 7; have hf7 : w2.frozen? ⟨w.heap.size, 7, none⟩ = false := blk_frozen hZ2 7; have hfc8 : w2.cell? ⟨w.heap.size, 8, none⟩ = some (.int .i64 0) := blk_cell hZ2 8; have hf8 : w2.frozen? ⟨w.heap.size, 8, none⟩ = false := blk_frozen hZ2 8; have hfc9 : w2.cell? ⟨w.heap.size, 9, none⟩ = some (.string (⟨#[]⟩ : ByteArray)) := blk_cell hZ2 9; have hf9 : w2.frozen? ⟨w.heap.size, 9, none⟩ = false := blk_frozen hZ2 9; have hfc10 : w2.cell? ⟨w.heap.size, 10, none⟩ = some (.string (⟨#[]⟩ : ByteArray)) := blk_cell hZ2 10; have hf10 : w2.frozen? ⟨w.heap.size, 10, none⟩ = false := blk_frozen hZ2 10; have hfc11 : w2.cell? ⟨w.heap.size, 11, none⟩ = some (.string (⟨#[]⟩ : ByteArray)) := blk_cell hZ2 11; have hf11 : w2.frozen? ⟨w.heap.size, 11, none⟩ = false := blk_frozen hZ2 11; have hfc12 : w2.cell? ⟨w.heap.size, 12, none⟩ = some (.string (⟨#[]⟩ : ByteArray)) := blk_cell hZ2 12; have hf12 : w2.frozen? ⟨w.heap.size, 12, none⟩ = false := blk_frozen hZ2 12; have HZ2 := Aside0.mk hZ2; clear hb2 hd2 hZ2))
    refine bodyPost_ret (results_ct rfl _ _ w.heap.size 30 #[.int .i64 0, .int .i64 0, .int .i64 0, .string (⟨#[]⟩ : ByteArray), .int .i64 0, .int .i64 0, .int .i64 0, .int .i64 0, .int .i64 0, .string (⟨#[]⟩ : ByteArray), .string (⟨#[]⟩ : ByteArray), .string (⟨#[]⟩ : ByteArray), .string (⟨#[]⟩ : ByteArray)] (0, 0) _ rfl (blk_put (cs := #[.int .i64 0, .int .i64 0, .int .i64 0, .string (⟨#[]⟩ : ByteArray), .int .i64 0, .int .i64 0, .int .i64 0, .int .i64 0, .int .i64 0, .string (⟨#[]⟩ : ByteArray), .string (⟨#[]⟩ : ByteArray), .string (⟨#[]⟩ : ByteArray), .string (⟨#[]⟩ : ByteArray)]) (blk_put (cs := #[.int .i64 0, .int .i64 0, .int .i64 0, .string (⟨#[]⟩ : ByteArray), .int .i64 0, .int .i64 0, .int .i64 0, .int .i64 0, .int .i64 0, .string (⟨#[]⟩ : ByteArray), .string (⟨#[]⟩ : ByteArray), .string (⟨#[]⟩ : ByteArray), .string (⟨#[]⟩ : ByteArray)]) (blk_put (cs := #[.int .i64 0, .int .i64 0, .int .i64 0, .string (⟨#[]⟩ : ByteArray), .int .i64 0, .int .i64 0, .int .i64 0, .int .i64 0, .int .i64 0, .string (⟨#[]⟩ : ByteArray), .string (⟨#[]⟩ : ByteArray), .string (⟨#[]⟩ : ByteArray), .string (⟨#[]⟩ : ByteArray)]) (blk_put (cs := #[.int .i64 0, .int .i64 0, .int .i64 0, .string (⟨#[]⟩ : ByteArray), .int .i64 0, .int .i64 0, .int .i64 0, .int .i64 0, .int .i64 0, .string (⟨#[]⟩ : ByteArray), .string (⟨#[]⟩ : ByteArray), .string (⟨#[]⟩ : ByteArray), .string (⟨#[]⟩ : ByteArray)]) (blk_put (cs := #[.int .i64 0, .int .i64 0, .int .i64 0, .string (⟨#[]⟩ : ByteArray), .int .i64 0, .int .i64 0, .int .i64 0, .int .i64 0, .int .i64 0, .string (⟨#[]⟩ : ByteArray), .string (⟨#[]⟩ : ByteArray), .string (⟨#[]⟩ : ByteArray), .string (⟨#[]⟩ : ByteArray)]) (blk_put (cs := #[.int .i64 0, .int .i64 0, .int .i64 0, .string (⟨#[]⟩ : ByteArray), .int .i64 0, .int .i64 0, .int .i64 0, .int .i64 0, .int .i64 0, .string (⟨#[]⟩ : ByteArray), .string (⟨#[]⟩ : ByteArray), .string (⟨#[]⟩ : ByteArray), .string (⟨#[]⟩ : ByteArray)]) (blk_put (cs := #[.int .i64 0, .int .i64 0, .int .i64 0, .string (⟨#[]⟩ : ByteArray), .int .i64 0, .int .i64 0, .int .i64 0, .int .i64 0, .int .i64 0, .string (⟨#[]⟩ : ByteArray), .string (⟨#[]⟩ : ByteArray), .string (⟨#[]⟩ : ByteArray), .string (⟨#[]⟩ : ByteArray)]) (blk_put (cs := #[.int .i64 0, .int .i64 0, .int .i64 0, .string (⟨#[]⟩ : ByteArray), .int .i64 0, .int .i64 0, .int .i64 0, .int .i64 0, .int .i64 0, .string (⟨#[]⟩ : ByteArray), .string (⟨#[]⟩ : ByteArray), .string (⟨#[]⟩ : ByteArray), .string (⟨#[]⟩ : ByteArray)]) (blk_put (cs := #[.int .i64 0, .int .i64 0, .int .i64 0, .string (⟨#[]⟩ : ByteArray), .int .i64 0, .int .i64 0, .int .i64 0, .int .i64 0, .int .i64 0, .string (⟨#[]⟩ : ByteArray), .string (⟨#[]⟩ : ByteArray), .string (⟨#[]⟩ : ByteArray), .string (⟨#[]⟩ : ByteArray)]) (blk_put (cs := #[.int .i64 0, .int .i64 0, .int .i64 0, .string (⟨#[]⟩ : ByteArray), .int .i64 0, .int .i64 0, .int .i64 0, .int .i64 0, .int .i64 0, .string (⟨#[]⟩ : ByteArray), .string (⟨#[]⟩ : ByteArray), .string (⟨#[]⟩ : ByteArray), .string (⟨#[]⟩ : ByteArray)]) (blk_put (cs := #[.int .i64 0, .int .i64 0, .int .i64 0, .string (⟨#[]⟩ : ByteArray), .int .i64 0, .int .i64 0, .int .i64 0, .int .i64 0, .int .i64 0, .string (⟨#[]⟩ : ByteArray), .string (⟨#[]⟩ : ByteArray), .string (⟨#[]⟩ : ByteArray), .string (⟨#[]⟩ : ByteArray)]) (blk_put (cs := #[.int .i64 0, .int .i64 0, .int .i64 0, .string (⟨#[]⟩ : ByteArray), .int .i64 0, .int .i64 0, .int .i64 0, .int .i64 0, .int .i64 0, .string (⟨#[]⟩ : ByteArray), .string (⟨#[]⟩ : ByteArray), .string (⟨#[]⟩ : ByteArray), .string (⟨#[]⟩ : ByteArray)]) (blk_put (cs := #[.int .i64 0, .int .i64 0, .int .i64 0, .string (⟨#[]⟩ : ByteArray), .int .i64 0, .int .i64 0, .int .i64 0, .int .i64 0, .int .i64 0, .string (⟨#[]⟩ : ByteArray), .string (⟨#[]⟩ : ByteArray), .string (⟨#[]⟩ : ByteArray), .string (⟨#[]⟩ : ByteArray)]) (HZ2.out) 0 _ rfl) 1 _ rfl) 2 _ rfl) 3 _ rfl) 4 _ rfl) 5 _ rfl) 6 _ rfl) 7 _ rfl) 8 _ rfl) 9 _ rfl) 10 _ rfl) 11 _ rfl) 12 _ rfl) Tryz.underlying30 rfl (by kernel_rfl)) rfl ⟨rfl, ?_⟩
    exact (Below.setCell (Below.setCell (Below.setCell (Below.setCell (Below.setCell (Below.setCell (Below.setCell (Below.setCell (Below.setCell (Below.setCell (Below.setCell (Below.setCell (Below.setCell HB2.out (p := ⟨w.heap.size, 0, none⟩) (by first | exact Nat.le_refl _ | exact Nat.le_succ _) _) (p := ⟨w.heap.size, 1, none⟩) (by first | exact Nat.le_refl _ | exact Nat.le_succ _) _) (p := ⟨w.heap.size, 2, none⟩) (by first | exact Nat.le_refl _ | exact Nat.le_succ _) _) (p := ⟨w.heap.size, 3, none⟩) (by first | exact Nat.le_refl _ | exact Nat.le_succ _) _) (p := ⟨w.heap.size, 4, none⟩) (by first | exact Nat.le_refl _ | exact Nat.le_succ _) _) (p := ⟨w.heap.size, 5, none⟩) (by first | exact Nat.le_refl _ | exact Nat.le_succ _) _) (p := ⟨w.heap.size, 6, none⟩) (by first | exact Nat.le_refl _ | exact Nat.le_succ _) _) (p := ⟨w.heap.size, 7, none⟩) (by first | exact Nat.le_refl _ | exact Nat.le_succ _) _) (p := ⟨w.heap.size, 8, none⟩) (by first | exact Nat.le_refl _ | exact Nat.le_succ _) _) (p := ⟨w.heap.size, 9, none⟩) (by first | exact Nat.le_refl _ | exact Nat.le_succ _) _) (p := ⟨w.heap.size, 10, none⟩) (by first | exact Nat.le_refl _ | exact Nat.le_succ _) _) (p := ⟨w.heap.size, 11, none⟩) (by first | exact Nat.le_refl _ | exact Nat.le_succ _) _) (p := ⟨w.heap.size, 12, none⟩) (by first | exact Nat.le_refl _ | exact Nat.le_succ _) _)
  | false =>
  rw [if_neg (by simp)] at h
  have HP0 := Aside0.mk h
  clear h
  go_enter Tryz.func10, Tryz.ntmps10
  go_wp2_with (first | (go_at_call 9; refine (words_Fields.calls k a0 l _ _ HF.out).mono ?_; rintro e w1 ⟨v0, rfl, ho, hb⟩; have HB1 := Aside0.mk (below_step HBA.out hb); have hZ1 := blk_below HZ.out hb; obtain ⟨gL, cap, rfl, hcap, ⟨cur, hcur⟩, hRC, hcs⟩ := strsT ho HL10.out (by omega); obtain ⟨i0, hi0, _, hsz0, _⟩ := info_parts info9; obtain ⟨A6, hA6⟩ : ∃ A1, A1 = (if cap = 6 then (some ⟨gL, 0, none⟩ : Option Addr) else (some ⟨gL, 0, none⟩ : Option Addr).map (·.add (6 * 1))) := ⟨_, rfl⟩; have hl6n : l6.length = 4 := (by rw [HL6.out, List.length_drop, HL10.out]); have hcutB : ∀ W : World, (Instr.slice 41 (.slice (some ⟨gL, 0, none⟩) 10 cap) (some (.int .i64 6)) none none).run Tryz.prog W = .ok (.slice A6 l6.length (cap - 6)) W := (by intro W; rw [hA6, hl6n]; exact cut_from (P := Tryz.prog) 41 9 .i64 Tryz.underlying41 hi0 1 hsz0 (some ⟨gL, 0, none⟩) 10 cap 6 (by decide) (by decide) W); have HR6 := Aside0.mk (show Kd.C Kd.string w1 A6 l6.length l6 from by rw [hA6, HL6.out]; exact Kd.C_drop (m := 6) (c := cap) hRC (by rw [HL10.out]; decide) (by rw [HL10.out]; exact hcap)); have HC6 := Aside0.mk (show l6.length ≤ cap - 6 from by omega); have HCS := Aside0.mk hcs; have HCUR := Aside0.mk hcur; have HZ1 := Aside0.mk hZ1; clear hA6 hl6n hcs hcur hRC hcap hsz0 hi0 hb ho hZ1) | (go_at_call 31; refine (slices_ContainsFunc_string_string.calls k A6 (cap - 6) l6 false _ HR6.out HC6.out HC.out).mono ?_; rintro e w2 ⟨rfl, hd2⟩; have hb2 := hd2.below; have HB2 := Aside0.mk (below_step HB1.out hb2); have HZ2 := Aside0.mk (blk_below HZ1.out hb2); have HB12 := Aside0.mk hb2; clear hb2 hd2))
  have hs6 : w2.drew.cell? ⟨gL, 6, none⟩ = some (.string (rfS l 6)) := (HB12.out.cell (World.block_lt_of_cell? w1 _ (HCS.out 6 (by omega)))).trans (HCS.out 6 (by omega))
  have hs7 : w2.drew.cell? ⟨gL, 7, none⟩ = some (.string (rfS l 7)) := (HB12.out.cell (World.block_lt_of_cell? w1 _ (HCS.out 7 (by omega)))).trans (HCS.out 7 (by omega))
  have hs8 : w2.drew.cell? ⟨gL, 8, none⟩ = some (.string (rfS l 8)) := (HB12.out.cell (World.block_lt_of_cell? w1 _ (HCS.out 8 (by omega)))).trans (HCS.out 8 (by omega))
  have hs9 : w2.drew.cell? ⟨gL, 9, none⟩ = some (.string (rfS l 9)) := (HB12.out.cell (World.block_lt_of_cell? w1 _ (HCS.out 9 (by omega)))).trans (HCS.out 9 (by omega))
  have HBd := Aside0.mk (below_drew1 HB2.out)
  have HZd := Aside0.mk (blk_drew HZ2.out)
  have HK9 := Aside0.mk (KT.drew (KT.below (KT.refl 9 w1) HB12.out))
  refine start_ (n := 17) (S := fun w' => w'.cell? ⟨gL, 6, none⟩ = some (.string (rfS l 6)) ∧ w'.cell? ⟨gL, 7, none⟩ = some (.string (rfS l 7)) ∧ w'.cell? ⟨gL, 8, none⟩ = some (.string (rfS l 8)) ∧ w'.cell? ⟨gL, 9, none⟩ = some (.string (rfS l 9))) (ds := []) #[false, false, false, false, false, false, false, false, false, false, false, false, false, false, false, false, false] (by kernel_rfl) rfl rfl ⟨hs6, hs7, hs8, hs9⟩ (fun hHeld => ?_)
  refine with_tabW trp.tab6 trp.bits6 (fun HT_ HW_ => ?_)
  generalize w2.drew = wd at HBd HZd HK9 hs6 hs7 hs8 hs9 hHeld ⊢
  refine pure_ (i := 0) (N := some 29) (v := ?_) (a' := ?_) #[true, false, false, false, false, false, false, false, false, false, false, false, false, false, false, false, false] rfl rfl (any_of HT_.out (by kernel_rfl)) (fun _ _ _ h => h) (Or.inl ⟨by rfl, ?_⟩) ?_ ?_
  rotate_left
  · intro w'
    go_simp
    with_reducible rfl
  rotate_left
  · simp only [Act.put, List.setIfInBounds_toArray, List.set_cons_zero, List.set_cons_succ, i64_w, i32_w]
    rfl
  refine pure_ (i := 1) (N := some 30) (v := ?_) (a' := ?_) #[true, true, false, false, false, false, false, false, false, false, false, false, false, false, false, false, false] rfl rfl (any_of HT_.out (by kernel_rfl)) (fun _ _ _ h => h) (Or.inl ⟨by rfl, ?_⟩) ?_ ?_
  rotate_left
  · intro w'
    go_simp
    with_reducible rfl
  rotate_left
  · simp only [Act.put, List.setIfInBounds_toArray, List.set_cons_zero, List.set_cons_succ, i64_w, i32_w]
    rfl
  refine take_ (i := 2) (N := some 31) (v := ?_) (a' := ?_) #[true, true, true, false, false, false, false, false, false, false, false, false, false, false, false, false, false] rfl rfl (take_ofW HT_.out HW_.out (by kernel_rfl)) (fun _ _ _ h => h) (Or.inl ⟨by rfl, ?_⟩) hHeld ?_ ?_
  rotate_left
  · rintro w' ⟨s0, s1, s2, s3⟩
    go_simp
    with_reducible rfl
  rotate_left
  · simp only [Act.put, List.setIfInBounds_toArray, List.set_cons_zero, List.set_cons_succ, i64_w, i32_w]
    rfl
  refine pure_ (i := 3) (N := some 32) (v := ?_) (a' := ?_) #[true, true, true, true, false, false, false, false, false, false, false, false, false, false, false, false, false] rfl rfl (any_of HT_.out (by kernel_rfl)) (fun _ _ _ h => h) (Or.inl ⟨by rfl, ?_⟩) ?_ ?_
  rotate_left
  · intro w'
    go_simp
    with_reducible rfl
  rotate_left
  · simp only [Act.put, List.setIfInBounds_toArray, List.set_cons_zero, List.set_cons_succ, i64_w, i32_w]
    rfl
  refine pure_ (i := 4) (N := some 33) (v := ?_) (a' := ?_) #[true, true, true, true, true, false, false, false, false, false, false, false, false, false, false, false, false] rfl rfl (any_of HT_.out (by kernel_rfl)) (fun _ _ _ h => h) (Or.inl ⟨by rfl, ?_⟩) ?_ ?_
  rotate_left
  · intro w'
    go_simp
    with_reducible rfl
  rotate_left
  · simp only [Act.put, List.setIfInBounds_toArray, List.set_cons_zero, List.set_cons_succ, i64_w, i32_w]
    rfl
  refine take_ (i := 5) (N := some 34) (v := ?_) (a' := ?_) #[true, true, true, true, true, true, false, false, false, false, false, false, false, false, false, false, false] rfl rfl (take_ofW HT_.out HW_.out (by kernel_rfl)) (fun _ _ _ h => h) (Or.inl ⟨by rfl, ?_⟩) hHeld ?_ ?_
  rotate_left
  · rintro w' ⟨s0, s1, s2, s3⟩
    go_simp
    with_reducible rfl
  rotate_left
  · simp only [Act.put, List.setIfInBounds_toArray, List.set_cons_zero, List.set_cons_succ, i64_w, i32_w]
    rfl
  refine pure_ (i := 6) (N := some 35) (v := ?_) (a' := ?_) #[true, true, true, true, true, true, true, false, false, false, false, false, false, false, false, false, false] rfl rfl (any_of HT_.out (by kernel_rfl)) (fun _ _ _ h => h) (Or.inl ⟨by rfl, ?_⟩) ?_ ?_
  rotate_left
  · intro w'
    go_simp
    with_reducible rfl
  rotate_left
  · simp only [Act.put, List.setIfInBounds_toArray, List.set_cons_zero, List.set_cons_succ, i64_w, i32_w]
    rfl
  refine pure_ (i := 7) (N := some 36) (v := ?_) (a' := ?_) #[true, true, true, true, true, true, true, true, false, false, false, false, false, false, false, false, false] rfl rfl (any_of HT_.out (by kernel_rfl)) (fun _ _ _ h => h) (Or.inl ⟨by rfl, ?_⟩) ?_ ?_
  rotate_left
  · intro w'
    go_simp
    with_reducible rfl
  rotate_left
  · simp only [Act.put, List.setIfInBounds_toArray, List.set_cons_zero, List.set_cons_succ, i64_w, i32_w]
    rfl
  refine pure_ (i := 8) (N := some 37) (v := ?_) (a' := ?_) #[true, true, true, true, true, true, true, true, true, false, false, false, false, false, false, false, false] rfl rfl (any_of HT_.out (by kernel_rfl)) (fun _ _ _ h => h) (Or.inl ⟨by rfl, ?_⟩) ?_ ?_
  rotate_left
  · intro w'
    go_simp
    with_reducible rfl
  rotate_left
  · simp only [Act.put, List.setIfInBounds_toArray, List.set_cons_zero, List.set_cons_succ, i64_w, i32_w]
    rfl
  refine take_ (i := 9) (N := some 38) (v := ?_) (a' := ?_) #[true, true, true, true, true, true, true, true, true, true, false, false, false, false, false, false, false] rfl rfl (take_ofW HT_.out HW_.out (by kernel_rfl)) (fun _ _ _ h => h) (Or.inl ⟨by rfl, ?_⟩) hHeld ?_ ?_
  rotate_left
  · rintro w' ⟨s0, s1, s2, s3⟩
    go_simp
    with_reducible rfl
  rotate_left
  · simp only [Act.put, List.setIfInBounds_toArray, List.set_cons_zero, List.set_cons_succ, i64_w, i32_w]
    rfl
  refine pure_ (i := 10) (N := some 39) (v := ?_) (a' := ?_) #[true, true, true, true, true, true, true, true, true, true, true, false, false, false, false, false, false] rfl rfl (any_of HT_.out (by kernel_rfl)) (fun _ _ _ h => h) (Or.inl ⟨by rfl, ?_⟩) ?_ ?_
  rotate_left
  · intro w'
    go_simp
    with_reducible rfl
  rotate_left
  · simp only [Act.put, List.setIfInBounds_toArray, List.set_cons_zero, List.set_cons_succ, i64_w, i32_w]
    rfl
  refine pure_ (i := 11) (N := some 40) (v := ?_) (a' := ?_) #[true, true, true, true, true, true, true, true, true, true, true, true, false, false, false, false, false] rfl rfl (any_of HT_.out (by kernel_rfl)) (fun _ _ _ h => h) (Or.inl ⟨by rfl, ?_⟩) ?_ ?_
  rotate_left
  · intro w'
    go_simp
    with_reducible rfl
  rotate_left
  · simp only [Act.put, List.setIfInBounds_toArray, List.set_cons_zero, List.set_cons_succ, i64_w, i32_w]
    rfl
  refine take_ (i := 12) (N := some 41) (v := ?_) (a' := ?_) #[true, true, true, true, true, true, true, true, true, true, true, true, true, false, false, false, false] rfl rfl (take_ofW HT_.out HW_.out (by kernel_rfl)) (fun _ _ _ h => h) (Or.inl ⟨by rfl, ?_⟩) hHeld ?_ ?_
  rotate_left
  · rintro w' ⟨s0, s1, s2, s3⟩
    go_simp
    with_reducible rfl
  rotate_left
  · simp only [Act.put, List.setIfInBounds_toArray, List.set_cons_zero, List.set_cons_succ, i64_w, i32_w]
    rfl
  refine pure_ (i := 13) (N := some 42) (v := ?_) (a' := ?_) #[true, true, true, true, true, true, true, true, true, true, true, true, true, true, false, false, false] rfl rfl (any_of HT_.out (by kernel_rfl)) (fun _ _ _ h => h) (Or.inl ⟨by rfl, ?_⟩) ?_ ?_
  rotate_left
  · intro w'
    go_simp
    with_reducible rfl
  rotate_left
  · simp only [Act.put, List.setIfInBounds_toArray, List.set_cons_zero, List.set_cons_succ, i64_w, i32_w]
    rfl
  refine pure_ (i := 14) (N := some 43) (v := ?_) (a' := ?_) #[true, true, true, true, true, true, true, true, true, true, true, true, true, true, true, false, false] rfl rfl (any_of HT_.out (by kernel_rfl)) (fun _ _ _ h => h) (Or.inl ⟨by rfl, ?_⟩) ?_ ?_
  rotate_left
  · intro w'
    go_simp
    with_reducible rfl
  rotate_left
  · simp only [Act.put, List.setIfInBounds_toArray, List.set_cons_zero, List.set_cons_succ, i64_w, i32_w]
    rfl
  have HH2 := Aside0.mk (show ∀ o_, (wd.alloc o_).cell? ⟨gL, 6, none⟩ = some (.string (rfS l 6)) ∧ (wd.alloc o_).cell? ⟨gL, 7, none⟩ = some (.string (rfS l 7)) ∧ (wd.alloc o_).cell? ⟨gL, 8, none⟩ = some (.string (rfS l 8)) ∧ (wd.alloc o_).cell? ⟨gL, 9, none⟩ = some (.string (rfS l 9)) from fun o_ => by
    have al : ∀ {p : Addr} {v_ : Value}, wd.cell? p = some v_ → (wd.alloc o_).cell? p = some v_ := fun hp => ((below_alloc (Below.refl wd.heap.size wd) o_).cell (World.block_lt_of_cell? wd _ hp)).trans hp
    obtain ⟨q0, q1, q2, q3⟩ := hHeld
    exact ⟨al q0, al q1, al q2, al q3⟩)
  refine one_ (i := 15) (N := some 6) #[true, true, true, true, true, true, true, true, true, true, true, true, true, true, true, true, false] rfl rfl (one_of HT_.out (by kernel_rfl)) (by decide) (fun K hK => ?_)
  rw [if_pos (by rfl)]
  unfold Oper.wp
  go_simp
  refine hK.out _ _ (HH2.out _) (fun hHeld => ?_)
  clear hK K
  refine one_ (i := 16) (N := none) #[true, true, true, true, true, true, true, true, true, true, true, true, true, true, true, true, true] rfl rfl (one_of HT_.out (by kernel_rfl)) (by decide) (fun K hK => ?_)
  rw [if_pos (by rfl)]
  unfold Oper.wp
  go_simp
  refine hK.out _ _ (HH2.out _) (fun hHeld => ?_)
  clear hK K
  refine done_ (done_of HT_.out (by kernel_rfl)) ?_
  have HLT := Aside0.mk (show w.heap.size < wd.heap.size from (Array.getElem?_eq_some_iff.1 HZd.out).1)
  have HGn := Aside0.mk (show (wd.alloc (.cells #[.int .i64 0, .int .i64 0, .int .i64 0, .string (⟨#[]⟩ : ByteArray), .int .i64 0, .int .i64 0, .int .i64 0, .int .i64 0, .int .i64 0, .string (rfS l 6), .string (rfS l 7), .string (rfS l 8), .string (rfS l 9)] 30)).heap[wd.heap.size]? = some (.cells #[.int .i64 0, .int .i64 0, .int .i64 0, .string (⟨#[]⟩ : ByteArray), .int .i64 0, .int .i64 0, .int .i64 0, .int .i64 0, .int .i64 0, .string (rfS l 6), .string (rfS l 7), .string (rfS l 8), .string (rfS l 9)] 30 (0, 0)) from blk_new _ _)
  have HBg := Aside0.mk (below_alloc HBd.out (.cells #[.int .i64 0, .int .i64 0, .int .i64 0, .string (⟨#[]⟩ : ByteArray), .int .i64 0, .int .i64 0, .int .i64 0, .int .i64 0, .int .i64 0, .string (rfS l 6), .string (rfS l 7), .string (rfS l 8), .string (rfS l 9)] 30))
  have HZg := Aside0.mk (blk_alloc HZd.out (.cells #[.int .i64 0, .int .i64 0, .int .i64 0, .string (⟨#[]⟩ : ByteArray), .int .i64 0, .int .i64 0, .int .i64 0, .int .i64 0, .int .i64 0, .string (rfS l 6), .string (rfS l 7), .string (rfS l 8), .string (rfS l 9)] 30))
  have HK9g := Aside0.mk (KT.alloc HK9.out (.cells #[.int .i64 0, .int .i64 0, .int .i64 0, .string (⟨#[]⟩ : ByteArray), .int .i64 0, .int .i64 0, .int .i64 0, .int .i64 0, .int .i64 0, .string (rfS l 6), .string (rfS l 7), .string (rfS l 8), .string (rfS l 9)] 30))
  generalize wd.alloc (.cells #[.int .i64 0, .int .i64 0, .int .i64 0, .string (⟨#[]⟩ : ByteArray), .int .i64 0, .int .i64 0, .int .i64 0, .int .i64 0, .int .i64 0, .string (rfS l 6), .string (rfS l 7), .string (rfS l 8), .string (rfS l 9)] 30) = wg at HGn HBg HZg HK9g ⊢
  clear HH2 HT_ HW_ hHeld hs6 hs7 hs8 hs9 HBd HZd HK9
  generalize wd.heap.size = gt at HLT HGn ⊢
  go_wp2_with (first | (go_at_call 35; refine (number_calls gt 0 _).mono ?_; rintro e0 v0 ⟨b0, rfl, hn0, hw0⟩; have HN0 := Aside0.mk hn0; have HW0 := Aside0.mk hw0; clear hn0 hw0) | (go_at_call 35; refine (number_calls gt 1 _).mono ?_; rintro e1 v1 ⟨b1, rfl, hn1, hw1⟩; have HN1 := Aside0.mk hn1; have HW1 := Aside0.mk hw1; clear hn1 hw1) | (go_at_call 35; refine (number_calls gt 2 _).mono ?_; rintro e2 v2 ⟨b2, rfl, hn2, hw2⟩; have HN2 := Aside0.mk hn2; have HW2 := Aside0.mk hw2; clear hn2 hw2) | (go_at_call 35; refine (number_calls gt 7 _).mono ?_; rintro e4 v4 ⟨b4, rfl, hn4, hw4⟩; have HN4 := Aside0.mk hn4; have HW4 := Aside0.mk hw4; clear hn4 hw4) | (go_at_call 35; refine (number_calls gt 8 _).mono ?_; rintro e5 v5 ⟨b5, rfl, hn5, hw5⟩; have HN5 := Aside0.mk hn5; have HW5 := Aside0.mk hw5; clear hn5 hw5))
  have HX0 := Aside0.mk (blk_below (blk_below (blk_below (blk_below HN0.out HW1.out) HW2.out) HW4.out) HW5.out)
  have HX1 := Aside0.mk (blk_below (blk_below (blk_below HN1.out HW2.out) HW4.out) HW5.out)
  have HX2 := Aside0.mk (blk_below (blk_below HN2.out HW4.out) HW5.out)
  have HX4 := Aside0.mk (blk_below HN4.out HW5.out)
  have HX5 := Aside0.mk HN5.out
  have HBv := Aside0.mk (below_step (below_step (below_step (below_step HW0.out HW1.out) HW2.out) HW4.out) HW5.out)
  have HGS := Aside0.mk (show gt < v5.heap.size from (Array.getElem?_eq_some_iff.1 (blk_below HGn.out HBv.out)).1)
  go_loopg [58] 6 (fun kq v58 wr => ∃ (i : Nat) (t : S30), v58 = .int .i64 (i : Int) ∧ Aside0 (kq + i = 6) ∧ Aside0 (prAt i k l t = some p) ∧ Aside0 (wr.heap[gt]? = some (.cells #[.int .i64 t.f0, .int .i64 t.f1, .int .i64 t.f2, .string t.f3.f0, .int .i64 t.f3.f1, .int .i64 t.f3.f2, .int .i64 t.f3.f3, .int .i64 t.f4, .int .i64 t.f5, .string t.f6.f0, .string t.f6.f1, .string t.f7.f0, .string t.f7.f1] 30 (0, 0))) ∧ Aside0 (KT 76 v5 wr) ∧ Aside0 (wr.heap[v5.heap.size]? = some (.cells #[(.func (.func 68) #[] #[.pointer (some ⟨b0, 0, none⟩)]), (.func (.func 68) #[] #[.pointer (some ⟨b1, 0, none⟩)]), (.func (.func 68) #[] #[.pointer (some ⟨b2, 0, none⟩)]), (.func (.func 34) #[] #[.pointer (some ⟨gt, 0, none⟩)]), (.func (.func 68) #[] #[.pointer (some ⟨b4, 0, none⟩)]), (.func (.func 68) #[] #[.pointer (some ⟨b5, 0, none⟩)])] 74 (0, 0))) ∧ Aside0 (wr.heap[w.heap.size]? = some (.cells #[.int .i64 0, .int .i64 0, .int .i64 0, .string (⟨#[]⟩ : ByteArray), .int .i64 0, .int .i64 0, .int .i64 0, .int .i64 0, .int .i64 0, .string (⟨#[]⟩ : ByteArray), .string (⟨#[]⟩ : ByteArray), .string (⟨#[]⟩ : ByteArray), .string (⟨#[]⟩ : ByteArray)] 30 (0, 0))) ∧ Aside0 (KT 9 w1 wr) ∧ Aside0 (Below w.heap.size w wr))
  case atStart => exact ⟨0, t0T l, rfl, ⟨rfl⟩, HP0, ⟨blk_alloc (blk_below HGn.out HBv.out) _⟩, ⟨KT.alloc (KT.refl _ _) _⟩, ⟨blk_new _ _⟩, ⟨blk_alloc (blk_below HZg.out HBv.out) _⟩, ⟨KT.alloc (KT.below HK9g.out HBv.out) _⟩, ⟨below_alloc (below_step HBg.out HBv.out) _⟩⟩
  case round =>
    obtain ⟨i, t, rfl, HK, HP, HGr, HKP, HS, HZr, HKr, HBr⟩ := hrel
    have hi : i = 0 ∨ i = 1 ∨ i = 2 ∨ i = 3 ∨ i = 4 ∨ i = 5 ∨ i = 6 := by have := HK.out; omega
    rcases hi with rfl | rfl | rfl | rfl | rfl | rfl | rfl
    · obtain ⟨⟨x, e⟩, hq, hh⟩ := Option.bind_eq_some_iff.1 HP.out
      dsimp only at hh
      have hfn : wr.cell? ⟨v5.heap.size, 0, none⟩ = some (.func (.func 68) #[] #[.pointer (some ⟨b0, 0, none⟩)]) := blk_cell HS.out 0
      have hst : wr.cell? ⟨gL, 0, none⟩ = some (.string (rfS l 0)) := kt_cell HKr.out HCUR.out 0 (HCS.out 0 (by omega))
      have HQ := Aside0.mk hq
      clear hq
      have HBX := Aside0.mk (HKP.out _ _ HX0.out)
      by_cases c : e = 0
      · subst c
        rw [if_pos rfl] at hh
        have HH := Aside0.mk hh
        clear hh
        go_wp2_with (go_at_call 68; refine (num_lit k (rfS l 0) x 0 b0 gt 0 #[.int .i64 t.f0, .int .i64 t.f1, .int .i64 t.f2, .string t.f3.f0, .int .i64 t.f3.f1, .int .i64 t.f3.f2, .int .i64 t.f3.f3, .int .i64 t.f4, .int .i64 t.f5, .string t.f6.f0, .string t.f6.f1, .string t.f7.f0, .string t.f7.f1] t.f0 wr HQ.out HBX.out HGr.out rfl).mono ?_; rintro e6 w6 ⟨rfl, w7, hb7, rfl⟩; have HB7 := Aside0.mk hb7; clear hb7)
        go_roundg (gk - 1)
        case measure => have := HK.out; omega
        case rel => exact ⟨1, { t with f0 := x }, by go_num, ⟨by have := HK.out; omega⟩, HH, ⟨(blk_put (cs := #[.int .i64 t.f0, .int .i64 t.f1, .int .i64 t.f2, .string t.f3.f0, .int .i64 t.f3.f1, .int .i64 t.f3.f2, .int .i64 t.f3.f3, .int .i64 t.f4, .int .i64 t.f5, .string t.f6.f0, .string t.f6.f1, .string t.f7.f0, .string t.f7.f1]) (blk_below HGr.out HB7.out) 0 (.int .i64 x) rfl)⟩, ⟨(KT.setCell (KT.below HKP.out HB7.out) (blk_below HGr.out HB7.out) (by decide) (.int .i64 x))⟩, ⟨(blk_far (blk_below HS.out HB7.out) (Nat.ne_of_gt HGS.out) (.int .i64 x))⟩, ⟨(blk_far (blk_below HZr.out HB7.out) (Nat.ne_of_lt HLT.out) (.int .i64 x))⟩, ⟨(KT.setCell (KT.below HKr.out HB7.out) (blk_below HGr.out HB7.out) (by decide) (.int .i64 x))⟩, ⟨(Below.setCell (below_step HBr.out HB7.out) (p := ⟨gt, 0, none⟩) (Nat.le_of_lt HLT.out) (.int .i64 x))⟩⟩
      · rw [if_neg c] at hh
        obtain rfl := Option.some.inj hh
        have hz : (e != 0) = true := bne_iff_ne.2 c
        clear hh c
        go_wp2_with (go_at_call 68; refine (num_lit k (rfS l 0) x e b0 gt 0 #[.int .i64 t.f0, .int .i64 t.f1, .int .i64 t.f2, .string t.f3.f0, .int .i64 t.f3.f1, .int .i64 t.f3.f2, .int .i64 t.f3.f3, .int .i64 t.f4, .int .i64 t.f5, .string t.f6.f0, .string t.f6.f1, .string t.f7.f0, .string t.f7.f1] t.f0 wr HQ.out HBX.out HGr.out rfl).mono ?_; rintro e6 w6 ⟨rfl, w7, hb7, rfl⟩; have HB7 := Aside0.mk hb7; have hZ6 : (w7.setCell ⟨gt, 0, none⟩ (.int .i64 x)).heap[w.heap.size]? = some (.cells #[.int .i64 0, .int .i64 0, .int .i64 0, .string (⟨#[]⟩ : ByteArray), .int .i64 0, .int .i64 0, .int .i64 0, .int .i64 0, .int .i64 0, .string (⟨#[]⟩ : ByteArray), .string (⟨#[]⟩ : ByteArray), .string (⟨#[]⟩ : ByteArray), .string (⟨#[]⟩ : ByteArray)] 30 (0, 0)) := (blk_far (blk_below HZr.out hb7) (Nat.ne_of_lt HLT.out) (.int .i64 x)); have hfc0 : (w7.setCell ⟨gt, 0, none⟩ (.int .i64 x)).cell? ⟨w.heap.size, 0, none⟩ = some (.int .i64 0) := blk_cell hZ6 0; have hf0 : (w7.setCell ⟨gt, 0, none⟩ (.int .i64 x)).frozen? ⟨w.heap.size, 0, none⟩ = false := blk_frozen hZ6 0; have hfc1 : (w7.setCell ⟨gt, 0, none⟩ (.int .i64 x)).cell? ⟨w.heap.size, 1, none⟩ = some (.int .i64 0) := blk_cell hZ6 1; have hf1 : (w7.setCell ⟨gt, 0, none⟩ (.int .i64 x)).frozen? ⟨w.heap.size, 1, none⟩ = false := blk_frozen hZ6 1; have hfc2 : (w7.setCell ⟨gt, 0, none⟩ (.int .i64 x)).cell? ⟨w.heap.size, 2, none⟩ = some (.int .i64 0) := blk_cell hZ6 2; have hf2 : (w7.setCell ⟨gt, 0, none⟩ (.int .i64 x)).frozen? ⟨w.heap.size, 2, none⟩ = false := blk_frozen hZ6 2; have hfc3 : (w7.setCell ⟨gt, 0, none⟩ (.int .i64 x)).cell? ⟨w.heap.size, 3, none⟩ = some (.string (⟨#[]⟩ : ByteArray)) := blk_cell hZ6 3; have hf3 : (w7.setCell ⟨gt, 0, none⟩ (.int .i64 x)).frozen? ⟨w.heap.size, 3, none⟩ = false := blk_frozen hZ6 3; have hfc4 : (w7.setCell ⟨gt, 0, none⟩ (.int .i64 x)).cell? ⟨w.heap.size, 4, none⟩ = some (.int .i64 0) := blk_cell hZ6 4; have hf4 : (w7.setCell ⟨gt, 0, none⟩ (.int .i64 x)).frozen? ⟨w.heap.size, 4, none⟩ = false := blk_frozen hZ6 4; have hfc5 : (w7.setCell ⟨gt, 0, none⟩ (.int .i64 x)).cell? ⟨w.heap.size, 5, none⟩ = some (.int .i64 0) := blk_cell hZ6 5; have hf5 : (w7.setCell ⟨gt, 0, none⟩ (.int .i64 x)).frozen? ⟨w.heap.size, 5, none⟩ = false := blk_frozen hZ6 5; have hfc6 : (w7.setCell ⟨gt, 0, none⟩ (.int .i64 x)).cell? ⟨w.heap.size, 6, none⟩ = some (.int .i64 0) := blk_cell hZ6 6; have hf6 : (w7.setCell ⟨gt, 0, none⟩ (.int .i64 x)).frozen? ⟨w.heap.size, 6, none⟩ = false := blk_frozen hZ6 6; have hfc7 : (w7.setCell ⟨gt, 0, none⟩ (.int .i64 x)).cell? ⟨w.heap.size, 7, none⟩ = some (.int .i64 0) := blk_cell hZ6 7; have hf7 : (w7.setCell ⟨gt, 0, none⟩ (.int .i64 x)).frozen? ⟨w.heap.size, 7, none⟩ = false := blk_frozen hZ6 7; have hfc8 : (w7.setCell ⟨gt, 0, none⟩ (.int .i64 x)).cell? ⟨w.heap.size, 8, none⟩ = some (.int .i64 0) := blk_cell hZ6 8; have hf8 : (w7.setCell ⟨gt, 0, none⟩ (.int .i64 x)).frozen? ⟨w.heap.size, 8, none⟩ = false := blk_frozen hZ6 8; have hfc9 : (w7.setCell ⟨gt, 0, none⟩ (.int .i64 x)).cell? ⟨w.heap.size, 9, none⟩ = some (.string (⟨#[]⟩ : ByteArray)) := blk_cell hZ6 9; have hf9 : (w7.setCell ⟨gt, 0, none⟩ (.int .i64 x)).frozen? ⟨w.heap.size, 9, none⟩ = false := blk_frozen hZ6 9; have hfc10 : (w7.setCell ⟨gt, 0, none⟩ (.int .i64 x)).cell? ⟨w.heap.size, 10, none⟩ = some (.string (⟨#[]⟩ : ByteArray)) := blk_cell hZ6 10; have hf10 : (w7.setCell ⟨gt, 0, none⟩ (.int .i64 x)).frozen? ⟨w.heap.size, 10, none⟩ = false := blk_frozen hZ6 10; have hfc11 : (w7.setCell ⟨gt, 0, none⟩ (.int .i64 x)).cell? ⟨w.heap.size, 11, none⟩ = some (.string (⟨#[]⟩ : ByteArray)) := blk_cell hZ6 11; have hf11 : (w7.setCell ⟨gt, 0, none⟩ (.int .i64 x)).frozen? ⟨w.heap.size, 11, none⟩ = false := blk_frozen hZ6 11; have hfc12 : (w7.setCell ⟨gt, 0, none⟩ (.int .i64 x)).cell? ⟨w.heap.size, 12, none⟩ = some (.string (⟨#[]⟩ : ByteArray)) := blk_cell hZ6 12; have hf12 : (w7.setCell ⟨gt, 0, none⟩ (.int .i64 x)).frozen? ⟨w.heap.size, 12, none⟩ = false := blk_frozen hZ6 12; have HZ6 := Aside0.mk hZ6; clear hZ6; clear hb7)
        refine bodyPost_ret (results_ct rfl _ _ w.heap.size 30 #[.int .i64 0, .int .i64 0, .int .i64 0, .string (⟨#[]⟩ : ByteArray), .int .i64 0, .int .i64 0, .int .i64 0, .int .i64 0, .int .i64 0, .string (⟨#[]⟩ : ByteArray), .string (⟨#[]⟩ : ByteArray), .string (⟨#[]⟩ : ByteArray), .string (⟨#[]⟩ : ByteArray)] (0, 0) _ rfl (blk_put (cs := #[.int .i64 0, .int .i64 0, .int .i64 0, .string (⟨#[]⟩ : ByteArray), .int .i64 0, .int .i64 0, .int .i64 0, .int .i64 0, .int .i64 0, .string (⟨#[]⟩ : ByteArray), .string (⟨#[]⟩ : ByteArray), .string (⟨#[]⟩ : ByteArray), .string (⟨#[]⟩ : ByteArray)]) (blk_put (cs := #[.int .i64 0, .int .i64 0, .int .i64 0, .string (⟨#[]⟩ : ByteArray), .int .i64 0, .int .i64 0, .int .i64 0, .int .i64 0, .int .i64 0, .string (⟨#[]⟩ : ByteArray), .string (⟨#[]⟩ : ByteArray), .string (⟨#[]⟩ : ByteArray), .string (⟨#[]⟩ : ByteArray)]) (blk_put (cs := #[.int .i64 0, .int .i64 0, .int .i64 0, .string (⟨#[]⟩ : ByteArray), .int .i64 0, .int .i64 0, .int .i64 0, .int .i64 0, .int .i64 0, .string (⟨#[]⟩ : ByteArray), .string (⟨#[]⟩ : ByteArray), .string (⟨#[]⟩ : ByteArray), .string (⟨#[]⟩ : ByteArray)]) (blk_put (cs := #[.int .i64 0, .int .i64 0, .int .i64 0, .string (⟨#[]⟩ : ByteArray), .int .i64 0, .int .i64 0, .int .i64 0, .int .i64 0, .int .i64 0, .string (⟨#[]⟩ : ByteArray), .string (⟨#[]⟩ : ByteArray), .string (⟨#[]⟩ : ByteArray), .string (⟨#[]⟩ : ByteArray)]) (blk_put (cs := #[.int .i64 0, .int .i64 0, .int .i64 0, .string (⟨#[]⟩ : ByteArray), .int .i64 0, .int .i64 0, .int .i64 0, .int .i64 0, .int .i64 0, .string (⟨#[]⟩ : ByteArray), .string (⟨#[]⟩ : ByteArray), .string (⟨#[]⟩ : ByteArray), .string (⟨#[]⟩ : ByteArray)]) (blk_put (cs := #[.int .i64 0, .int .i64 0, .int .i64 0, .string (⟨#[]⟩ : ByteArray), .int .i64 0, .int .i64 0, .int .i64 0, .int .i64 0, .int .i64 0, .string (⟨#[]⟩ : ByteArray), .string (⟨#[]⟩ : ByteArray), .string (⟨#[]⟩ : ByteArray), .string (⟨#[]⟩ : ByteArray)]) (blk_put (cs := #[.int .i64 0, .int .i64 0, .int .i64 0, .string (⟨#[]⟩ : ByteArray), .int .i64 0, .int .i64 0, .int .i64 0, .int .i64 0, .int .i64 0, .string (⟨#[]⟩ : ByteArray), .string (⟨#[]⟩ : ByteArray), .string (⟨#[]⟩ : ByteArray), .string (⟨#[]⟩ : ByteArray)]) (blk_put (cs := #[.int .i64 0, .int .i64 0, .int .i64 0, .string (⟨#[]⟩ : ByteArray), .int .i64 0, .int .i64 0, .int .i64 0, .int .i64 0, .int .i64 0, .string (⟨#[]⟩ : ByteArray), .string (⟨#[]⟩ : ByteArray), .string (⟨#[]⟩ : ByteArray), .string (⟨#[]⟩ : ByteArray)]) (blk_put (cs := #[.int .i64 0, .int .i64 0, .int .i64 0, .string (⟨#[]⟩ : ByteArray), .int .i64 0, .int .i64 0, .int .i64 0, .int .i64 0, .int .i64 0, .string (⟨#[]⟩ : ByteArray), .string (⟨#[]⟩ : ByteArray), .string (⟨#[]⟩ : ByteArray), .string (⟨#[]⟩ : ByteArray)]) (blk_put (cs := #[.int .i64 0, .int .i64 0, .int .i64 0, .string (⟨#[]⟩ : ByteArray), .int .i64 0, .int .i64 0, .int .i64 0, .int .i64 0, .int .i64 0, .string (⟨#[]⟩ : ByteArray), .string (⟨#[]⟩ : ByteArray), .string (⟨#[]⟩ : ByteArray), .string (⟨#[]⟩ : ByteArray)]) (blk_put (cs := #[.int .i64 0, .int .i64 0, .int .i64 0, .string (⟨#[]⟩ : ByteArray), .int .i64 0, .int .i64 0, .int .i64 0, .int .i64 0, .int .i64 0, .string (⟨#[]⟩ : ByteArray), .string (⟨#[]⟩ : ByteArray), .string (⟨#[]⟩ : ByteArray), .string (⟨#[]⟩ : ByteArray)]) (blk_put (cs := #[.int .i64 0, .int .i64 0, .int .i64 0, .string (⟨#[]⟩ : ByteArray), .int .i64 0, .int .i64 0, .int .i64 0, .int .i64 0, .int .i64 0, .string (⟨#[]⟩ : ByteArray), .string (⟨#[]⟩ : ByteArray), .string (⟨#[]⟩ : ByteArray), .string (⟨#[]⟩ : ByteArray)]) (blk_put (cs := #[.int .i64 0, .int .i64 0, .int .i64 0, .string (⟨#[]⟩ : ByteArray), .int .i64 0, .int .i64 0, .int .i64 0, .int .i64 0, .int .i64 0, .string (⟨#[]⟩ : ByteArray), .string (⟨#[]⟩ : ByteArray), .string (⟨#[]⟩ : ByteArray), .string (⟨#[]⟩ : ByteArray)]) (HZ6.out) 0 _ rfl) 1 _ rfl) 2 _ rfl) 3 _ rfl) 4 _ rfl) 5 _ rfl) 6 _ rfl) 7 _ rfl) 8 _ rfl) 9 _ rfl) 10 _ rfl) 11 _ rfl) 12 _ rfl) Tryz.underlying30 rfl (by kernel_rfl)) rfl ⟨rfl, ?_⟩
        exact (Below.setCell (Below.setCell (Below.setCell (Below.setCell (Below.setCell (Below.setCell (Below.setCell (Below.setCell (Below.setCell (Below.setCell (Below.setCell (Below.setCell (Below.setCell (Below.setCell (below_step HBr.out HB7.out) (p := ⟨gt, 0, none⟩) (Nat.le_of_lt HLT.out) (.int .i64 x)) (p := ⟨w.heap.size, 0, none⟩) (by first | exact Nat.le_refl _ | exact Nat.le_succ _) _) (p := ⟨w.heap.size, 1, none⟩) (by first | exact Nat.le_refl _ | exact Nat.le_succ _) _) (p := ⟨w.heap.size, 2, none⟩) (by first | exact Nat.le_refl _ | exact Nat.le_succ _) _) (p := ⟨w.heap.size, 3, none⟩) (by first | exact Nat.le_refl _ | exact Nat.le_succ _) _) (p := ⟨w.heap.size, 4, none⟩) (by first | exact Nat.le_refl _ | exact Nat.le_succ _) _) (p := ⟨w.heap.size, 5, none⟩) (by first | exact Nat.le_refl _ | exact Nat.le_succ _) _) (p := ⟨w.heap.size, 6, none⟩) (by first | exact Nat.le_refl _ | exact Nat.le_succ _) _) (p := ⟨w.heap.size, 7, none⟩) (by first | exact Nat.le_refl _ | exact Nat.le_succ _) _) (p := ⟨w.heap.size, 8, none⟩) (by first | exact Nat.le_refl _ | exact Nat.le_succ _) _) (p := ⟨w.heap.size, 9, none⟩) (by first | exact Nat.le_refl _ | exact Nat.le_succ _) _) (p := ⟨w.heap.size, 10, none⟩) (by first | exact Nat.le_refl _ | exact Nat.le_succ _) _) (p := ⟨w.heap.size, 11, none⟩) (by first | exact Nat.le_refl _ | exact Nat.le_succ _) _) (p := ⟨w.heap.size, 12, none⟩) (by first | exact Nat.le_refl _ | exact Nat.le_succ _) _)
    · obtain ⟨⟨x, e⟩, hq, hh⟩ := Option.bind_eq_some_iff.1 HP.out
      dsimp only at hh
      have hfn : wr.cell? ⟨v5.heap.size, 1, none⟩ = some (.func (.func 68) #[] #[.pointer (some ⟨b1, 0, none⟩)]) := blk_cell HS.out 1
      have hst : wr.cell? ⟨gL, 1, none⟩ = some (.string (rfS l 1)) := kt_cell HKr.out HCUR.out 1 (HCS.out 1 (by omega))
      have HQ := Aside0.mk hq
      clear hq
      have HBX := Aside0.mk (HKP.out _ _ HX1.out)
      by_cases c : e = 0
      · subst c
        rw [if_pos rfl] at hh
        have HH := Aside0.mk hh
        clear hh
        go_wp2_with (go_at_call 68; refine (num_lit k (rfS l 1) x 0 b1 gt 1 #[.int .i64 t.f0, .int .i64 t.f1, .int .i64 t.f2, .string t.f3.f0, .int .i64 t.f3.f1, .int .i64 t.f3.f2, .int .i64 t.f3.f3, .int .i64 t.f4, .int .i64 t.f5, .string t.f6.f0, .string t.f6.f1, .string t.f7.f0, .string t.f7.f1] t.f1 wr HQ.out HBX.out HGr.out rfl).mono ?_; rintro e6 w6 ⟨rfl, w7, hb7, rfl⟩; have HB7 := Aside0.mk hb7; clear hb7)
        go_roundg (gk - 1)
        case measure => have := HK.out; omega
        case rel => exact ⟨2, { t with f1 := x }, by go_num, ⟨by have := HK.out; omega⟩, HH, ⟨(blk_put (cs := #[.int .i64 t.f0, .int .i64 t.f1, .int .i64 t.f2, .string t.f3.f0, .int .i64 t.f3.f1, .int .i64 t.f3.f2, .int .i64 t.f3.f3, .int .i64 t.f4, .int .i64 t.f5, .string t.f6.f0, .string t.f6.f1, .string t.f7.f0, .string t.f7.f1]) (blk_below HGr.out HB7.out) 1 (.int .i64 x) rfl)⟩, ⟨(KT.setCell (KT.below HKP.out HB7.out) (blk_below HGr.out HB7.out) (by decide) (.int .i64 x))⟩, ⟨(blk_far (blk_below HS.out HB7.out) (Nat.ne_of_gt HGS.out) (.int .i64 x))⟩, ⟨(blk_far (blk_below HZr.out HB7.out) (Nat.ne_of_lt HLT.out) (.int .i64 x))⟩, ⟨(KT.setCell (KT.below HKr.out HB7.out) (blk_below HGr.out HB7.out) (by decide) (.int .i64 x))⟩, ⟨(Below.setCell (below_step HBr.out HB7.out) (p := ⟨gt, 1, none⟩) (Nat.le_of_lt HLT.out) (.int .i64 x))⟩⟩
      · rw [if_neg c] at hh
        obtain rfl := Option.some.inj hh
        have hz : (e != 0) = true := bne_iff_ne.2 c
        clear hh c
        go_wp2_with (go_at_call 68; refine (num_lit k (rfS l 1) x e b1 gt 1 #[.int .i64 t.f0, .int .i64 t.f1, .int .i64 t.f2, .string t.f3.f0, .int .i64 t.f3.f1, .int .i64 t.f3.f2, .int .i64 t.f3.f3, .int .i64 t.f4, .int .i64 t.f5, .string t.f6.f0, .string t.f6.f1, .string t.f7.f0, .string t.f7.f1] t.f1 wr HQ.out HBX.out HGr.out rfl).mono ?_; rintro e6 w6 ⟨rfl, w7, hb7, rfl⟩; have HB7 := Aside0.mk hb7; have hZ6 : (w7.setCell ⟨gt, 1, none⟩ (.int .i64 x)).heap[w.heap.size]? = some (.cells #[.int .i64 0, .int .i64 0, .int .i64 0, .string (⟨#[]⟩ : ByteArray), .int .i64 0, .int .i64 0, .int .i64 0, .int .i64 0, .int .i64 0, .string (⟨#[]⟩ : ByteArray), .string (⟨#[]⟩ : ByteArray), .string (⟨#[]⟩ : ByteArray), .string (⟨#[]⟩ : ByteArray)] 30 (0, 0)) := (blk_far (blk_below HZr.out hb7) (Nat.ne_of_lt HLT.out) (.int .i64 x)); have hfc0 : (w7.setCell ⟨gt, 1, none⟩ (.int .i64 x)).cell? ⟨w.heap.size, 0, none⟩ = some (.int .i64 0) := blk_cell hZ6 0; have hf0 : (w7.setCell ⟨gt, 1, none⟩ (.int .i64 x)).frozen? ⟨w.heap.size, 0, none⟩ = false := blk_frozen hZ6 0; have hfc1 : (w7.setCell ⟨gt, 1, none⟩ (.int .i64 x)).cell? ⟨w.heap.size, 1, none⟩ = some (.int .i64 0) := blk_cell hZ6 1; have hf1 : (w7.setCell ⟨gt, 1, none⟩ (.int .i64 x)).frozen? ⟨w.heap.size, 1, none⟩ = false := blk_frozen hZ6 1; have hfc2 : (w7.setCell ⟨gt, 1, none⟩ (.int .i64 x)).cell? ⟨w.heap.size, 2, none⟩ = some (.int .i64 0) := blk_cell hZ6 2; have hf2 : (w7.setCell ⟨gt, 1, none⟩ (.int .i64 x)).frozen? ⟨w.heap.size, 2, none⟩ = false := blk_frozen hZ6 2; have hfc3 : (w7.setCell ⟨gt, 1, none⟩ (.int .i64 x)).cell? ⟨w.heap.size, 3, none⟩ = some (.string (⟨#[]⟩ : ByteArray)) := blk_cell hZ6 3; have hf3 : (w7.setCell ⟨gt, 1, none⟩ (.int .i64 x)).frozen? ⟨w.heap.size, 3, none⟩ = false := blk_frozen hZ6 3; have hfc4 : (w7.setCell ⟨gt, 1, none⟩ (.int .i64 x)).cell? ⟨w.heap.size, 4, none⟩ = some (.int .i64 0) := blk_cell hZ6 4; have hf4 : (w7.setCell ⟨gt, 1, none⟩ (.int .i64 x)).frozen? ⟨w.heap.size, 4, none⟩ = false := blk_frozen hZ6 4; have hfc5 : (w7.setCell ⟨gt, 1, none⟩ (.int .i64 x)).cell? ⟨w.heap.size, 5, none⟩ = some (.int .i64 0) := blk_cell hZ6 5; have hf5 : (w7.setCell ⟨gt, 1, none⟩ (.int .i64 x)).frozen? ⟨w.heap.size, 5, none⟩ = false := blk_frozen hZ6 5; have hfc6 : (w7.setCell ⟨gt, 1, none⟩ (.int .i64 x)).cell? ⟨w.heap.size, 6, none⟩ = some (.int .i64 0) := blk_cell hZ6 6; have hf6 : (w7.setCell ⟨gt, 1, none⟩ (.int .i64 x)).frozen? ⟨w.heap.size, 6, none⟩ = false := blk_frozen hZ6 6; have hfc7 : (w7.setCell ⟨gt, 1, none⟩ (.int .i64 x)).cell? ⟨w.heap.size, 7, none⟩ = some (.int .i64 0) := blk_cell hZ6 7; have hf7 : (w7.setCell ⟨gt, 1, none⟩ (.int .i64 x)).frozen? ⟨w.heap.size, 7, none⟩ = false := blk_frozen hZ6 7; have hfc8 : (w7.setCell ⟨gt, 1, none⟩ (.int .i64 x)).cell? ⟨w.heap.size, 8, none⟩ = some (.int .i64 0) := blk_cell hZ6 8; have hf8 : (w7.setCell ⟨gt, 1, none⟩ (.int .i64 x)).frozen? ⟨w.heap.size, 8, none⟩ = false := blk_frozen hZ6 8; have hfc9 : (w7.setCell ⟨gt, 1, none⟩ (.int .i64 x)).cell? ⟨w.heap.size, 9, none⟩ = some (.string (⟨#[]⟩ : ByteArray)) := blk_cell hZ6 9; have hf9 : (w7.setCell ⟨gt, 1, none⟩ (.int .i64 x)).frozen? ⟨w.heap.size, 9, none⟩ = false := blk_frozen hZ6 9; have hfc10 : (w7.setCell ⟨gt, 1, none⟩ (.int .i64 x)).cell? ⟨w.heap.size, 10, none⟩ = some (.string (⟨#[]⟩ : ByteArray)) := blk_cell hZ6 10; have hf10 : (w7.setCell ⟨gt, 1, none⟩ (.int .i64 x)).frozen? ⟨w.heap.size, 10, none⟩ = false := blk_frozen hZ6 10; have hfc11 : (w7.setCell ⟨gt, 1, none⟩ (.int .i64 x)).cell? ⟨w.heap.size, 11, none⟩ = some (.string (⟨#[]⟩ : ByteArray)) := blk_cell hZ6 11; have hf11 : (w7.setCell ⟨gt, 1, none⟩ (.int .i64 x)).frozen? ⟨w.heap.size, 11, none⟩ = false := blk_frozen hZ6 11; have hfc12 : (w7.setCell ⟨gt, 1, none⟩ (.int .i64 x)).cell? ⟨w.heap.size, 12, none⟩ = some (.string (⟨#[]⟩ : ByteArray)) := blk_cell hZ6 12; have hf12 : (w7.setCell ⟨gt, 1, none⟩ (.int .i64 x)).frozen? ⟨w.heap.size, 12, none⟩ = false := blk_frozen hZ6 12; have HZ6 := Aside0.mk hZ6; clear hZ6; clear hb7)
        refine bodyPost_ret (results_ct rfl _ _ w.heap.size 30 #[.int .i64 0, .int .i64 0, .int .i64 0, .string (⟨#[]⟩ : ByteArray), .int .i64 0, .int .i64 0, .int .i64 0, .int .i64 0, .int .i64 0, .string (⟨#[]⟩ : ByteArray), .string (⟨#[]⟩ : ByteArray), .string (⟨#[]⟩ : ByteArray), .string (⟨#[]⟩ : ByteArray)] (0, 0) _ rfl (blk_put (cs := #[.int .i64 0, .int .i64 0, .int .i64 0, .string (⟨#[]⟩ : ByteArray), .int .i64 0, .int .i64 0, .int .i64 0, .int .i64 0, .int .i64 0, .string (⟨#[]⟩ : ByteArray), .string (⟨#[]⟩ : ByteArray), .string (⟨#[]⟩ : ByteArray), .string (⟨#[]⟩ : ByteArray)]) (blk_put (cs := #[.int .i64 0, .int .i64 0, .int .i64 0, .string (⟨#[]⟩ : ByteArray), .int .i64 0, .int .i64 0, .int .i64 0, .int .i64 0, .int .i64 0, .string (⟨#[]⟩ : ByteArray), .string (⟨#[]⟩ : ByteArray), .string (⟨#[]⟩ : ByteArray), .string (⟨#[]⟩ : ByteArray)]) (blk_put (cs := #[.int .i64 0, .int .i64 0, .int .i64 0, .string (⟨#[]⟩ : ByteArray), .int .i64 0, .int .i64 0, .int .i64 0, .int .i64 0, .int .i64 0, .string (⟨#[]⟩ : ByteArray), .string (⟨#[]⟩ : ByteArray), .string (⟨#[]⟩ : ByteArray), .string (⟨#[]⟩ : ByteArray)]) (blk_put (cs := #[.int .i64 0, .int .i64 0, .int .i64 0, .string (⟨#[]⟩ : ByteArray), .int .i64 0, .int .i64 0, .int .i64 0, .int .i64 0, .int .i64 0, .string (⟨#[]⟩ : ByteArray), .string (⟨#[]⟩ : ByteArray), .string (⟨#[]⟩ : ByteArray), .string (⟨#[]⟩ : ByteArray)]) (blk_put (cs := #[.int .i64 0, .int .i64 0, .int .i64 0, .string (⟨#[]⟩ : ByteArray), .int .i64 0, .int .i64 0, .int .i64 0, .int .i64 0, .int .i64 0, .string (⟨#[]⟩ : ByteArray), .string (⟨#[]⟩ : ByteArray), .string (⟨#[]⟩ : ByteArray), .string (⟨#[]⟩ : ByteArray)]) (blk_put (cs := #[.int .i64 0, .int .i64 0, .int .i64 0, .string (⟨#[]⟩ : ByteArray), .int .i64 0, .int .i64 0, .int .i64 0, .int .i64 0, .int .i64 0, .string (⟨#[]⟩ : ByteArray), .string (⟨#[]⟩ : ByteArray), .string (⟨#[]⟩ : ByteArray), .string (⟨#[]⟩ : ByteArray)]) (blk_put (cs := #[.int .i64 0, .int .i64 0, .int .i64 0, .string (⟨#[]⟩ : ByteArray), .int .i64 0, .int .i64 0, .int .i64 0, .int .i64 0, .int .i64 0, .string (⟨#[]⟩ : ByteArray), .string (⟨#[]⟩ : ByteArray), .string (⟨#[]⟩ : ByteArray), .string (⟨#[]⟩ : ByteArray)]) (blk_put (cs := #[.int .i64 0, .int .i64 0, .int .i64 0, .string (⟨#[]⟩ : ByteArray), .int .i64 0, .int .i64 0, .int .i64 0, .int .i64 0, .int .i64 0, .string (⟨#[]⟩ : ByteArray), .string (⟨#[]⟩ : ByteArray), .string (⟨#[]⟩ : ByteArray), .string (⟨#[]⟩ : ByteArray)]) (blk_put (cs := #[.int .i64 0, .int .i64 0, .int .i64 0, .string (⟨#[]⟩ : ByteArray), .int .i64 0, .int .i64 0, .int .i64 0, .int .i64 0, .int .i64 0, .string (⟨#[]⟩ : ByteArray), .string (⟨#[]⟩ : ByteArray), .string (⟨#[]⟩ : ByteArray), .string (⟨#[]⟩ : ByteArray)]) (blk_put (cs := #[.int .i64 0, .int .i64 0, .int .i64 0, .string (⟨#[]⟩ : ByteArray), .int .i64 0, .int .i64 0, .int .i64 0, .int .i64 0, .int .i64 0, .string (⟨#[]⟩ : ByteArray), .string (⟨#[]⟩ : ByteArray), .string (⟨#[]⟩ : ByteArray), .string (⟨#[]⟩ : ByteArray)]) (blk_put (cs := #[.int .i64 0, .int .i64 0, .int .i64 0, .string (⟨#[]⟩ : ByteArray), .int .i64 0, .int .i64 0, .int .i64 0, .int .i64 0, .int .i64 0, .string (⟨#[]⟩ : ByteArray), .string (⟨#[]⟩ : ByteArray), .string (⟨#[]⟩ : ByteArray), .string (⟨#[]⟩ : ByteArray)]) (blk_put (cs := #[.int .i64 0, .int .i64 0, .int .i64 0, .string (⟨#[]⟩ : ByteArray), .int .i64 0, .int .i64 0, .int .i64 0, .int .i64 0, .int .i64 0, .string (⟨#[]⟩ : ByteArray), .string (⟨#[]⟩ : ByteArray), .string (⟨#[]⟩ : ByteArray), .string (⟨#[]⟩ : ByteArray)]) (blk_put (cs := #[.int .i64 0, .int .i64 0, .int .i64 0, .string (⟨#[]⟩ : ByteArray), .int .i64 0, .int .i64 0, .int .i64 0, .int .i64 0, .int .i64 0, .string (⟨#[]⟩ : ByteArray), .string (⟨#[]⟩ : ByteArray), .string (⟨#[]⟩ : ByteArray), .string (⟨#[]⟩ : ByteArray)]) (HZ6.out) 0 _ rfl) 1 _ rfl) 2 _ rfl) 3 _ rfl) 4 _ rfl) 5 _ rfl) 6 _ rfl) 7 _ rfl) 8 _ rfl) 9 _ rfl) 10 _ rfl) 11 _ rfl) 12 _ rfl) Tryz.underlying30 rfl (by kernel_rfl)) rfl ⟨rfl, ?_⟩
        exact (Below.setCell (Below.setCell (Below.setCell (Below.setCell (Below.setCell (Below.setCell (Below.setCell (Below.setCell (Below.setCell (Below.setCell (Below.setCell (Below.setCell (Below.setCell (Below.setCell (below_step HBr.out HB7.out) (p := ⟨gt, 1, none⟩) (Nat.le_of_lt HLT.out) (.int .i64 x)) (p := ⟨w.heap.size, 0, none⟩) (by first | exact Nat.le_refl _ | exact Nat.le_succ _) _) (p := ⟨w.heap.size, 1, none⟩) (by first | exact Nat.le_refl _ | exact Nat.le_succ _) _) (p := ⟨w.heap.size, 2, none⟩) (by first | exact Nat.le_refl _ | exact Nat.le_succ _) _) (p := ⟨w.heap.size, 3, none⟩) (by first | exact Nat.le_refl _ | exact Nat.le_succ _) _) (p := ⟨w.heap.size, 4, none⟩) (by first | exact Nat.le_refl _ | exact Nat.le_succ _) _) (p := ⟨w.heap.size, 5, none⟩) (by first | exact Nat.le_refl _ | exact Nat.le_succ _) _) (p := ⟨w.heap.size, 6, none⟩) (by first | exact Nat.le_refl _ | exact Nat.le_succ _) _) (p := ⟨w.heap.size, 7, none⟩) (by first | exact Nat.le_refl _ | exact Nat.le_succ _) _) (p := ⟨w.heap.size, 8, none⟩) (by first | exact Nat.le_refl _ | exact Nat.le_succ _) _) (p := ⟨w.heap.size, 9, none⟩) (by first | exact Nat.le_refl _ | exact Nat.le_succ _) _) (p := ⟨w.heap.size, 10, none⟩) (by first | exact Nat.le_refl _ | exact Nat.le_succ _) _) (p := ⟨w.heap.size, 11, none⟩) (by first | exact Nat.le_refl _ | exact Nat.le_succ _) _) (p := ⟨w.heap.size, 12, none⟩) (by first | exact Nat.le_refl _ | exact Nat.le_succ _) _)
    · obtain ⟨⟨x, e⟩, hq, hh⟩ := Option.bind_eq_some_iff.1 HP.out
      dsimp only at hh
      have hfn : wr.cell? ⟨v5.heap.size, 2, none⟩ = some (.func (.func 68) #[] #[.pointer (some ⟨b2, 0, none⟩)]) := blk_cell HS.out 2
      have hst : wr.cell? ⟨gL, 2, none⟩ = some (.string (rfS l 2)) := kt_cell HKr.out HCUR.out 2 (HCS.out 2 (by omega))
      have HQ := Aside0.mk hq
      clear hq
      have HBX := Aside0.mk (HKP.out _ _ HX2.out)
      by_cases c : e = 0
      · subst c
        rw [if_pos rfl] at hh
        have HH := Aside0.mk hh
        clear hh
        go_wp2_with (go_at_call 68; refine (num_lit k (rfS l 2) x 0 b2 gt 2 #[.int .i64 t.f0, .int .i64 t.f1, .int .i64 t.f2, .string t.f3.f0, .int .i64 t.f3.f1, .int .i64 t.f3.f2, .int .i64 t.f3.f3, .int .i64 t.f4, .int .i64 t.f5, .string t.f6.f0, .string t.f6.f1, .string t.f7.f0, .string t.f7.f1] t.f2 wr HQ.out HBX.out HGr.out rfl).mono ?_; rintro e6 w6 ⟨rfl, w7, hb7, rfl⟩; have HB7 := Aside0.mk hb7; clear hb7)
        go_roundg (gk - 1)
        case measure => have := HK.out; omega
        case rel => exact ⟨3, { t with f2 := x }, by go_num, ⟨by have := HK.out; omega⟩, HH, ⟨(blk_put (cs := #[.int .i64 t.f0, .int .i64 t.f1, .int .i64 t.f2, .string t.f3.f0, .int .i64 t.f3.f1, .int .i64 t.f3.f2, .int .i64 t.f3.f3, .int .i64 t.f4, .int .i64 t.f5, .string t.f6.f0, .string t.f6.f1, .string t.f7.f0, .string t.f7.f1]) (blk_below HGr.out HB7.out) 2 (.int .i64 x) rfl)⟩, ⟨(KT.setCell (KT.below HKP.out HB7.out) (blk_below HGr.out HB7.out) (by decide) (.int .i64 x))⟩, ⟨(blk_far (blk_below HS.out HB7.out) (Nat.ne_of_gt HGS.out) (.int .i64 x))⟩, ⟨(blk_far (blk_below HZr.out HB7.out) (Nat.ne_of_lt HLT.out) (.int .i64 x))⟩, ⟨(KT.setCell (KT.below HKr.out HB7.out) (blk_below HGr.out HB7.out) (by decide) (.int .i64 x))⟩, ⟨(Below.setCell (below_step HBr.out HB7.out) (p := ⟨gt, 2, none⟩) (Nat.le_of_lt HLT.out) (.int .i64 x))⟩⟩
      · rw [if_neg c] at hh
        obtain rfl := Option.some.inj hh
        have hz : (e != 0) = true := bne_iff_ne.2 c
        clear hh c
        go_wp2_with (go_at_call 68; refine (num_lit k (rfS l 2) x e b2 gt 2 #[.int .i64 t.f0, .int .i64 t.f1, .int .i64 t.f2, .string t.f3.f0, .int .i64 t.f3.f1, .int .i64 t.f3.f2, .int .i64 t.f3.f3, .int .i64 t.f4, .int .i64 t.f5, .string t.f6.f0, .string t.f6.f1, .string t.f7.f0, .string t.f7.f1] t.f2 wr HQ.out HBX.out HGr.out rfl).mono ?_; rintro e6 w6 ⟨rfl, w7, hb7, rfl⟩; have HB7 := Aside0.mk hb7; have hZ6 : (w7.setCell ⟨gt, 2, none⟩ (.int .i64 x)).heap[w.heap.size]? = some (.cells #[.int .i64 0, .int .i64 0, .int .i64 0, .string (⟨#[]⟩ : ByteArray), .int .i64 0, .int .i64 0, .int .i64 0, .int .i64 0, .int .i64 0, .string (⟨#[]⟩ : ByteArray), .string (⟨#[]⟩ : ByteArray), .string (⟨#[]⟩ : ByteArray), .string (⟨#[]⟩ : ByteArray)] 30 (0, 0)) := (blk_far (blk_below HZr.out hb7) (Nat.ne_of_lt HLT.out) (.int .i64 x)); have hfc0 : (w7.setCell ⟨gt, 2, none⟩ (.int .i64 x)).cell? ⟨w.heap.size, 0, none⟩ = some (.int .i64 0) := blk_cell hZ6 0; have hf0 : (w7.setCell ⟨gt, 2, none⟩ (.int .i64 x)).frozen? ⟨w.heap.size, 0, none⟩ = false := blk_frozen hZ6 0; have hfc1 : (w7.setCell ⟨gt, 2, none⟩ (.int .i64 x)).cell? ⟨w.heap.size, 1, none⟩ = some (.int .i64 0) := blk_cell hZ6 1; have hf1 : (w7.setCell ⟨gt, 2, none⟩ (.int .i64 x)).frozen? ⟨w.heap.size, 1, none⟩ = false := blk_frozen hZ6 1; have hfc2 : (w7.setCell ⟨gt, 2, none⟩ (.int .i64 x)).cell? ⟨w.heap.size, 2, none⟩ = some (.int .i64 0) := blk_cell hZ6 2; have hf2 : (w7.setCell ⟨gt, 2, none⟩ (.int .i64 x)).frozen? ⟨w.heap.size, 2, none⟩ = false := blk_frozen hZ6 2; have hfc3 : (w7.setCell ⟨gt, 2, none⟩ (.int .i64 x)).cell? ⟨w.heap.size, 3, none⟩ = some (.string (⟨#[]⟩ : ByteArray)) := blk_cell hZ6 3; have hf3 : (w7.setCell ⟨gt, 2, none⟩ (.int .i64 x)).frozen? ⟨w.heap.size, 3, none⟩ = false := blk_frozen hZ6 3; have hfc4 : (w7.setCell ⟨gt, 2, none⟩ (.int .i64 x)).cell? ⟨w.heap.size, 4, none⟩ = some (.int .i64 0) := blk_cell hZ6 4; have hf4 : (w7.setCell ⟨gt, 2, none⟩ (.int .i64 x)).frozen? ⟨w.heap.size, 4, none⟩ = false := blk_frozen hZ6 4; have hfc5 : (w7.setCell ⟨gt, 2, none⟩ (.int .i64 x)).cell? ⟨w.heap.size, 5, none⟩ = some (.int .i64 0) := blk_cell hZ6 5; have hf5 : (w7.setCell ⟨gt, 2, none⟩ (.int .i64 x)).frozen? ⟨w.heap.size, 5, none⟩ = false := blk_frozen hZ6 5; have hfc6 : (w7.setCell ⟨gt, 2, none⟩ (.int .i64 x)).cell? ⟨w.heap.size, 6, none⟩ = some (.int .i64 0) := blk_cell hZ6 6; have hf6 : (w7.setCell ⟨gt, 2, none⟩ (.int .i64 x)).frozen? ⟨w.heap.size, 6, none⟩ = false := blk_frozen hZ6 6; have hfc7 : (w7.setCell ⟨gt, 2, none⟩ (.int .i64 x)).cell? ⟨w.heap.size, 7, none⟩ = some (.int .i64 0) := blk_cell hZ6 7; have hf7 : (w7.setCell ⟨gt, 2, none⟩ (.int .i64 x)).frozen? ⟨w.heap.size, 7, none⟩ = false := blk_frozen hZ6 7; have hfc8 : (w7.setCell ⟨gt, 2, none⟩ (.int .i64 x)).cell? ⟨w.heap.size, 8, none⟩ = some (.int .i64 0) := blk_cell hZ6 8; have hf8 : (w7.setCell ⟨gt, 2, none⟩ (.int .i64 x)).frozen? ⟨w.heap.size, 8, none⟩ = false := blk_frozen hZ6 8; have hfc9 : (w7.setCell ⟨gt, 2, none⟩ (.int .i64 x)).cell? ⟨w.heap.size, 9, none⟩ = some (.string (⟨#[]⟩ : ByteArray)) := blk_cell hZ6 9; have hf9 : (w7.setCell ⟨gt, 2, none⟩ (.int .i64 x)).frozen? ⟨w.heap.size, 9, none⟩ = false := blk_frozen hZ6 9; have hfc10 : (w7.setCell ⟨gt, 2, none⟩ (.int .i64 x)).cell? ⟨w.heap.size, 10, none⟩ = some (.string (⟨#[]⟩ : ByteArray)) := blk_cell hZ6 10; have hf10 : (w7.setCell ⟨gt, 2, none⟩ (.int .i64 x)).frozen? ⟨w.heap.size, 10, none⟩ = false := blk_frozen hZ6 10; have hfc11 : (w7.setCell ⟨gt, 2, none⟩ (.int .i64 x)).cell? ⟨w.heap.size, 11, none⟩ = some (.string (⟨#[]⟩ : ByteArray)) := blk_cell hZ6 11; have hf11 : (w7.setCell ⟨gt, 2, none⟩ (.int .i64 x)).frozen? ⟨w.heap.size, 11, none⟩ = false := blk_frozen hZ6 11; have hfc12 : (w7.setCell ⟨gt, 2, none⟩ (.int .i64 x)).cell? ⟨w.heap.size, 12, none⟩ = some (.string (⟨#[]⟩ : ByteArray)) := blk_cell hZ6 12; have hf12 : (w7.setCell ⟨gt, 2, none⟩ (.int .i64 x)).frozen? ⟨w.heap.size, 12, none⟩ = false := blk_frozen hZ6 12; have HZ6 := Aside0.mk hZ6; clear hZ6; clear hb7)
        refine bodyPost_ret (results_ct rfl _ _ w.heap.size 30 #[.int .i64 0, .int .i64 0, .int .i64 0, .string (⟨#[]⟩ : ByteArray), .int .i64 0, .int .i64 0, .int .i64 0, .int .i64 0, .int .i64 0, .string (⟨#[]⟩ : ByteArray), .string (⟨#[]⟩ : ByteArray), .string (⟨#[]⟩ : ByteArray), .string (⟨#[]⟩ : ByteArray)] (0, 0) _ rfl (blk_put (cs := #[.int .i64 0, .int .i64 0, .int .i64 0, .string (⟨#[]⟩ : ByteArray), .int .i64 0, .int .i64 0, .int .i64 0, .int .i64 0, .int .i64 0, .string (⟨#[]⟩ : ByteArray), .string (⟨#[]⟩ : ByteArray), .string (⟨#[]⟩ : ByteArray), .string (⟨#[]⟩ : ByteArray)]) (blk_put (cs := #[.int .i64 0, .int .i64 0, .int .i64 0, .string (⟨#[]⟩ : ByteArray), .int .i64 0, .int .i64 0, .int .i64 0, .int .i64 0, .int .i64 0, .string (⟨#[]⟩ : ByteArray), .string (⟨#[]⟩ : ByteArray), .string (⟨#[]⟩ : ByteArray), .string (⟨#[]⟩ : ByteArray)]) (blk_put (cs := #[.int .i64 0, .int .i64 0, .int .i64 0, .string (⟨#[]⟩ : ByteArray), .int .i64 0, .int .i64 0, .int .i64 0, .int .i64 0, .int .i64 0, .string (⟨#[]⟩ : ByteArray), .string (⟨#[]⟩ : ByteArray), .string (⟨#[]⟩ : ByteArray), .string (⟨#[]⟩ : ByteArray)]) (blk_put (cs := #[.int .i64 0, .int .i64 0, .int .i64 0, .string (⟨#[]⟩ : ByteArray), .int .i64 0, .int .i64 0, .int .i64 0, .int .i64 0, .int .i64 0, .string (⟨#[]⟩ : ByteArray), .string (⟨#[]⟩ : ByteArray), .string (⟨#[]⟩ : ByteArray), .string (⟨#[]⟩ : ByteArray)]) (blk_put (cs := #[.int .i64 0, .int .i64 0, .int .i64 0, .string (⟨#[]⟩ : ByteArray), .int .i64 0, .int .i64 0, .int .i64 0, .int .i64 0, .int .i64 0, .string (⟨#[]⟩ : ByteArray), .string (⟨#[]⟩ : ByteArray), .string (⟨#[]⟩ : ByteArray), .string (⟨#[]⟩ : ByteArray)]) (blk_put (cs := #[.int .i64 0, .int .i64 0, .int .i64 0, .string (⟨#[]⟩ : ByteArray), .int .i64 0, .int .i64 0, .int .i64 0, .int .i64 0, .int .i64 0, .string (⟨#[]⟩ : ByteArray), .string (⟨#[]⟩ : ByteArray), .string (⟨#[]⟩ : ByteArray), .string (⟨#[]⟩ : ByteArray)]) (blk_put (cs := #[.int .i64 0, .int .i64 0, .int .i64 0, .string (⟨#[]⟩ : ByteArray), .int .i64 0, .int .i64 0, .int .i64 0, .int .i64 0, .int .i64 0, .string (⟨#[]⟩ : ByteArray), .string (⟨#[]⟩ : ByteArray), .string (⟨#[]⟩ : ByteArray), .string (⟨#[]⟩ : ByteArray)]) (blk_put (cs := #[.int .i64 0, .int .i64 0, .int .i64 0, .string (⟨#[]⟩ : ByteArray), .int .i64 0, .int .i64 0, .int .i64 0, .int .i64 0, .int .i64 0, .string (⟨#[]⟩ : ByteArray), .string (⟨#[]⟩ : ByteArray), .string (⟨#[]⟩ : ByteArray), .string (⟨#[]⟩ : ByteArray)]) (blk_put (cs := #[.int .i64 0, .int .i64 0, .int .i64 0, .string (⟨#[]⟩ : ByteArray), .int .i64 0, .int .i64 0, .int .i64 0, .int .i64 0, .int .i64 0, .string (⟨#[]⟩ : ByteArray), .string (⟨#[]⟩ : ByteArray), .string (⟨#[]⟩ : ByteArray), .string (⟨#[]⟩ : ByteArray)]) (blk_put (cs := #[.int .i64 0, .int .i64 0, .int .i64 0, .string (⟨#[]⟩ : ByteArray), .int .i64 0, .int .i64 0, .int .i64 0, .int .i64 0, .int .i64 0, .string (⟨#[]⟩ : ByteArray), .string (⟨#[]⟩ : ByteArray), .string (⟨#[]⟩ : ByteArray), .string (⟨#[]⟩ : ByteArray)]) (blk_put (cs := #[.int .i64 0, .int .i64 0, .int .i64 0, .string (⟨#[]⟩ : ByteArray), .int .i64 0, .int .i64 0, .int .i64 0, .int .i64 0, .int .i64 0, .string (⟨#[]⟩ : ByteArray), .string (⟨#[]⟩ : ByteArray), .string (⟨#[]⟩ : ByteArray), .string (⟨#[]⟩ : ByteArray)]) (blk_put (cs := #[.int .i64 0, .int .i64 0, .int .i64 0, .string (⟨#[]⟩ : ByteArray), .int .i64 0, .int .i64 0, .int .i64 0, .int .i64 0, .int .i64 0, .string (⟨#[]⟩ : ByteArray), .string (⟨#[]⟩ : ByteArray), .string (⟨#[]⟩ : ByteArray), .string (⟨#[]⟩ : ByteArray)]) (blk_put (cs := #[.int .i64 0, .int .i64 0, .int .i64 0, .string (⟨#[]⟩ : ByteArray), .int .i64 0, .int .i64 0, .int .i64 0, .int .i64 0, .int .i64 0, .string (⟨#[]⟩ : ByteArray), .string (⟨#[]⟩ : ByteArray), .string (⟨#[]⟩ : ByteArray), .string (⟨#[]⟩ : ByteArray)]) (HZ6.out) 0 _ rfl) 1 _ rfl) 2 _ rfl) 3 _ rfl) 4 _ rfl) 5 _ rfl) 6 _ rfl) 7 _ rfl) 8 _ rfl) 9 _ rfl) 10 _ rfl) 11 _ rfl) 12 _ rfl) Tryz.underlying30 rfl (by kernel_rfl)) rfl ⟨rfl, ?_⟩
        exact (Below.setCell (Below.setCell (Below.setCell (Below.setCell (Below.setCell (Below.setCell (Below.setCell (Below.setCell (Below.setCell (Below.setCell (Below.setCell (Below.setCell (Below.setCell (Below.setCell (below_step HBr.out HB7.out) (p := ⟨gt, 2, none⟩) (Nat.le_of_lt HLT.out) (.int .i64 x)) (p := ⟨w.heap.size, 0, none⟩) (by first | exact Nat.le_refl _ | exact Nat.le_succ _) _) (p := ⟨w.heap.size, 1, none⟩) (by first | exact Nat.le_refl _ | exact Nat.le_succ _) _) (p := ⟨w.heap.size, 2, none⟩) (by first | exact Nat.le_refl _ | exact Nat.le_succ _) _) (p := ⟨w.heap.size, 3, none⟩) (by first | exact Nat.le_refl _ | exact Nat.le_succ _) _) (p := ⟨w.heap.size, 4, none⟩) (by first | exact Nat.le_refl _ | exact Nat.le_succ _) _) (p := ⟨w.heap.size, 5, none⟩) (by first | exact Nat.le_refl _ | exact Nat.le_succ _) _) (p := ⟨w.heap.size, 6, none⟩) (by first | exact Nat.le_refl _ | exact Nat.le_succ _) _) (p := ⟨w.heap.size, 7, none⟩) (by first | exact Nat.le_refl _ | exact Nat.le_succ _) _) (p := ⟨w.heap.size, 8, none⟩) (by first | exact Nat.le_refl _ | exact Nat.le_succ _) _) (p := ⟨w.heap.size, 9, none⟩) (by first | exact Nat.le_refl _ | exact Nat.le_succ _) _) (p := ⟨w.heap.size, 10, none⟩) (by first | exact Nat.le_refl _ | exact Nat.le_succ _) _) (p := ⟨w.heap.size, 11, none⟩) (by first | exact Nat.le_refl _ | exact Nat.le_succ _) _) (p := ⟨w.heap.size, 12, none⟩) (by first | exact Nat.le_refl _ | exact Nat.le_succ _) _)
    · obtain ⟨⟨x1, x2, x3, x4, e⟩, hq, hh⟩ := Option.bind_eq_some_iff.1 HP.out
      dsimp only at hh
      have hfn : wr.cell? ⟨v5.heap.size, 3, none⟩ = some (.func (.func 34) #[] #[.pointer (some ⟨gt, 0, none⟩)]) := blk_cell HS.out 3
      have hst : wr.cell? ⟨gL, 3, none⟩ = some (.string (rfS l 3)) := kt_cell HKr.out HCUR.out 3 (HCS.out 3 (by omega))
      have HQ := Aside0.mk hq
      clear hq
      by_cases c : e = 0
      · subst c
        rw [if_pos rfl] at hh
        have HH := Aside0.mk hh
        clear hh
        go_wp2_with (go_at_call 34; refine (ser_lit k (rfS l 3) x1 x2 x3 x4 0 gt t wr HQ.out HGr.out (glob_of HGL.out HBr.out)).mono ?_; rintro e6 w6 ⟨rfl, w7, hb7, rfl⟩; have HB7 := Aside0.mk hb7; clear hb7)
        go_roundg (gk - 1)
        case measure => have := HK.out; omega
        case rel => exact ⟨4, { t with f3 := ⟨x1, x2, x3, x4⟩ }, by go_num, ⟨by have := HK.out; omega⟩, HH, ⟨(blk_put (cs := #[.int .i64 t.f0, .int .i64 t.f1, .int .i64 t.f2, .string x1, .int .i64 x2, .int .i64 x3, .int .i64 t.f3.f3, .int .i64 t.f4, .int .i64 t.f5, .string t.f6.f0, .string t.f6.f1, .string t.f7.f0, .string t.f7.f1]) (blk_put (cs := #[.int .i64 t.f0, .int .i64 t.f1, .int .i64 t.f2, .string x1, .int .i64 x2, .int .i64 t.f3.f2, .int .i64 t.f3.f3, .int .i64 t.f4, .int .i64 t.f5, .string t.f6.f0, .string t.f6.f1, .string t.f7.f0, .string t.f7.f1]) (blk_put (cs := #[.int .i64 t.f0, .int .i64 t.f1, .int .i64 t.f2, .string x1, .int .i64 t.f3.f1, .int .i64 t.f3.f2, .int .i64 t.f3.f3, .int .i64 t.f4, .int .i64 t.f5, .string t.f6.f0, .string t.f6.f1, .string t.f7.f0, .string t.f7.f1]) (blk_put (cs := #[.int .i64 t.f0, .int .i64 t.f1, .int .i64 t.f2, .string t.f3.f0, .int .i64 t.f3.f1, .int .i64 t.f3.f2, .int .i64 t.f3.f3, .int .i64 t.f4, .int .i64 t.f5, .string t.f6.f0, .string t.f6.f1, .string t.f7.f0, .string t.f7.f1]) (blk_below HGr.out HB7.out) 3 (.string x1) rfl) 4 (.int .i64 x2) rfl) 5 (.int .i64 x3) rfl) 6 (.int .i64 x4) rfl)⟩, ⟨(KT.setCell (KT.setCell (KT.setCell (KT.setCell (KT.below HKP.out HB7.out) (blk_below HGr.out HB7.out) (by decide) (.string x1)) (blk_put (cs := #[.int .i64 t.f0, .int .i64 t.f1, .int .i64 t.f2, .string t.f3.f0, .int .i64 t.f3.f1, .int .i64 t.f3.f2, .int .i64 t.f3.f3, .int .i64 t.f4, .int .i64 t.f5, .string t.f6.f0, .string t.f6.f1, .string t.f7.f0, .string t.f7.f1]) (blk_below HGr.out HB7.out) 3 (.string x1) rfl) (by decide) (.int .i64 x2)) (blk_put (cs := #[.int .i64 t.f0, .int .i64 t.f1, .int .i64 t.f2, .string x1, .int .i64 t.f3.f1, .int .i64 t.f3.f2, .int .i64 t.f3.f3, .int .i64 t.f4, .int .i64 t.f5, .string t.f6.f0, .string t.f6.f1, .string t.f7.f0, .string t.f7.f1]) (blk_put (cs := #[.int .i64 t.f0, .int .i64 t.f1, .int .i64 t.f2, .string t.f3.f0, .int .i64 t.f3.f1, .int .i64 t.f3.f2, .int .i64 t.f3.f3, .int .i64 t.f4, .int .i64 t.f5, .string t.f6.f0, .string t.f6.f1, .string t.f7.f0, .string t.f7.f1]) (blk_below HGr.out HB7.out) 3 (.string x1) rfl) 4 (.int .i64 x2) rfl) (by decide) (.int .i64 x3)) (blk_put (cs := #[.int .i64 t.f0, .int .i64 t.f1, .int .i64 t.f2, .string x1, .int .i64 x2, .int .i64 t.f3.f2, .int .i64 t.f3.f3, .int .i64 t.f4, .int .i64 t.f5, .string t.f6.f0, .string t.f6.f1, .string t.f7.f0, .string t.f7.f1]) (blk_put (cs := #[.int .i64 t.f0, .int .i64 t.f1, .int .i64 t.f2, .string x1, .int .i64 t.f3.f1, .int .i64 t.f3.f2, .int .i64 t.f3.f3, .int .i64 t.f4, .int .i64 t.f5, .string t.f6.f0, .string t.f6.f1, .string t.f7.f0, .string t.f7.f1]) (blk_put (cs := #[.int .i64 t.f0, .int .i64 t.f1, .int .i64 t.f2, .string t.f3.f0, .int .i64 t.f3.f1, .int .i64 t.f3.f2, .int .i64 t.f3.f3, .int .i64 t.f4, .int .i64 t.f5, .string t.f6.f0, .string t.f6.f1, .string t.f7.f0, .string t.f7.f1]) (blk_below HGr.out HB7.out) 3 (.string x1) rfl) 4 (.int .i64 x2) rfl) 5 (.int .i64 x3) rfl) (by decide) (.int .i64 x4))⟩, ⟨(blk_far (blk_far (blk_far (blk_far (blk_below HS.out HB7.out) (Nat.ne_of_gt HGS.out) (.string x1)) (Nat.ne_of_gt HGS.out) (.int .i64 x2)) (Nat.ne_of_gt HGS.out) (.int .i64 x3)) (Nat.ne_of_gt HGS.out) (.int .i64 x4))⟩, ⟨(blk_far (blk_far (blk_far (blk_far (blk_below HZr.out HB7.out) (Nat.ne_of_lt HLT.out) (.string x1)) (Nat.ne_of_lt HLT.out) (.int .i64 x2)) (Nat.ne_of_lt HLT.out) (.int .i64 x3)) (Nat.ne_of_lt HLT.out) (.int .i64 x4))⟩, ⟨(KT.setCell (KT.setCell (KT.setCell (KT.setCell (KT.below HKr.out HB7.out) (blk_below HGr.out HB7.out) (by decide) (.string x1)) (blk_put (cs := #[.int .i64 t.f0, .int .i64 t.f1, .int .i64 t.f2, .string t.f3.f0, .int .i64 t.f3.f1, .int .i64 t.f3.f2, .int .i64 t.f3.f3, .int .i64 t.f4, .int .i64 t.f5, .string t.f6.f0, .string t.f6.f1, .string t.f7.f0, .string t.f7.f1]) (blk_below HGr.out HB7.out) 3 (.string x1) rfl) (by decide) (.int .i64 x2)) (blk_put (cs := #[.int .i64 t.f0, .int .i64 t.f1, .int .i64 t.f2, .string x1, .int .i64 t.f3.f1, .int .i64 t.f3.f2, .int .i64 t.f3.f3, .int .i64 t.f4, .int .i64 t.f5, .string t.f6.f0, .string t.f6.f1, .string t.f7.f0, .string t.f7.f1]) (blk_put (cs := #[.int .i64 t.f0, .int .i64 t.f1, .int .i64 t.f2, .string t.f3.f0, .int .i64 t.f3.f1, .int .i64 t.f3.f2, .int .i64 t.f3.f3, .int .i64 t.f4, .int .i64 t.f5, .string t.f6.f0, .string t.f6.f1, .string t.f7.f0, .string t.f7.f1]) (blk_below HGr.out HB7.out) 3 (.string x1) rfl) 4 (.int .i64 x2) rfl) (by decide) (.int .i64 x3)) (blk_put (cs := #[.int .i64 t.f0, .int .i64 t.f1, .int .i64 t.f2, .string x1, .int .i64 x2, .int .i64 t.f3.f2, .int .i64 t.f3.f3, .int .i64 t.f4, .int .i64 t.f5, .string t.f6.f0, .string t.f6.f1, .string t.f7.f0, .string t.f7.f1]) (blk_put (cs := #[.int .i64 t.f0, .int .i64 t.f1, .int .i64 t.f2, .string x1, .int .i64 t.f3.f1, .int .i64 t.f3.f2, .int .i64 t.f3.f3, .int .i64 t.f4, .int .i64 t.f5, .string t.f6.f0, .string t.f6.f1, .string t.f7.f0, .string t.f7.f1]) (blk_put (cs := #[.int .i64 t.f0, .int .i64 t.f1, .int .i64 t.f2, .string t.f3.f0, .int .i64 t.f3.f1, .int .i64 t.f3.f2, .int .i64 t.f3.f3, .int .i64 t.f4, .int .i64 t.f5, .string t.f6.f0, .string t.f6.f1, .string t.f7.f0, .string t.f7.f1]) (blk_below HGr.out HB7.out) 3 (.string x1) rfl) 4 (.int .i64 x2) rfl) 5 (.int .i64 x3) rfl) (by decide) (.int .i64 x4))⟩, ⟨(Below.setCell (Below.setCell (Below.setCell (Below.setCell (below_step HBr.out HB7.out) (p := ⟨gt, 3, none⟩) (Nat.le_of_lt HLT.out) (.string x1)) (p := ⟨gt, 4, none⟩) (Nat.le_of_lt HLT.out) (.int .i64 x2)) (p := ⟨gt, 5, none⟩) (Nat.le_of_lt HLT.out) (.int .i64 x3)) (p := ⟨gt, 6, none⟩) (Nat.le_of_lt HLT.out) (.int .i64 x4))⟩⟩
      · rw [if_neg c] at hh
        obtain rfl := Option.some.inj hh
        have hz : (e != 0) = true := bne_iff_ne.2 c
        clear hh c
        go_wp2_with (go_at_call 34; refine (ser_lit k (rfS l 3) x1 x2 x3 x4 e gt t wr HQ.out HGr.out (glob_of HGL.out HBr.out)).mono ?_; rintro e6 w6 ⟨rfl, w7, hb7, rfl⟩; have HB7 := Aside0.mk hb7; have hZ6 : ((((w7.setCell ⟨gt, 3, none⟩ (.string x1)).setCell ⟨gt, 4, none⟩ (.int .i64 x2)).setCell ⟨gt, 5, none⟩ (.int .i64 x3)).setCell ⟨gt, 6, none⟩ (.int .i64 x4)).heap[w.heap.size]? = some (.cells #[.int .i64 0, .int .i64 0, .int .i64 0, .string (⟨#[]⟩ : ByteArray), .int .i64 0, .int .i64 0, .int .i64 0, .int .i64 0, .int .i64 0, .string (⟨#[]⟩ : ByteArray), .string (⟨#[]⟩ : ByteArray), .string (⟨#[]⟩ : ByteArray), .string (⟨#[]⟩ : ByteArray)] 30 (0, 0)) := (blk_far (blk_far (blk_far (blk_far (blk_below HZr.out hb7) (Nat.ne_of_lt HLT.out) (.string x1)) (Nat.ne_of_lt HLT.out) (.int .i64 x2)) (Nat.ne_of_lt HLT.out) (.int .i64 x3)) (Nat.ne_of_lt HLT.out) (.int .i64 x4)); have hfc0 : ((((w7.setCell ⟨gt, 3, none⟩ (.string x1)).setCell ⟨gt, 4, none⟩ (.int .i64 x2)).setCell ⟨gt, 5, none⟩ (.int .i64 x3)).setCell ⟨gt, 6, none⟩ (.int .i64 x4)).cell? ⟨w.heap.size, 0, none⟩ = some (.int .i64 0) := blk_cell hZ6 0; have hf0 : ((((w7.setCell ⟨gt, 3, none⟩ (.string x1)).setCell ⟨gt, 4, none⟩ (.int .i64 x2)).setCell ⟨gt, 5, none⟩ (.int .i64 x3)).setCell ⟨gt, 6, none⟩ (.int .i64 x4)).frozen? ⟨w.heap.size, 0, none⟩ = false := blk_frozen hZ6 0; have hfc1 : ((((w7.setCell ⟨gt, 3, none⟩ (.string x1)).setCell ⟨gt, 4, none⟩ (.int .i64 x2)).setCell ⟨gt, 5, none⟩ (.int .i64 x3)).setCell ⟨gt, 6, none⟩ (.int .i64 x4)).cell? ⟨w.heap.size, 1, none⟩ = some (.int .i64 0) := blk_cell hZ6 1; have hf1 : ((((w7.setCell ⟨gt, 3, none⟩ (.string x1)).setCell ⟨gt, 4, none⟩ (.int .i64 x2)).setCell ⟨gt, 5, none⟩ (.int .i64 x3)).setCell ⟨gt, 6, none⟩ (.int .i64 x4)).frozen? ⟨w.heap.size, 1, none⟩ = false := blk_frozen hZ6 1; have hfc2 : ((((w7.setCell ⟨gt, 3, none⟩ (.string x1)).setCell ⟨gt, 4, none⟩ (.int .i64 x2)).setCell ⟨gt, 5, none⟩ (.int .i64 x3)).setCell ⟨gt, 6, none⟩ (.int .i64 x4)).cell? ⟨w.heap.size, 2, none⟩ = some (.int .i64 0) := blk_cell hZ6 2; have hf2 : ((((w7.setCell ⟨gt, 3, none⟩ (.string x1)).setCell ⟨gt, 4, none⟩ (.int .i64 x2)).setCell ⟨gt, 5, none⟩ (.int .i64 x3)).setCell ⟨gt, 6, none⟩ (.int .i64 x4)).frozen? ⟨w.heap.size, 2, none⟩ = false := blk_frozen hZ6 2; have hfc3 : ((((w7.setCell ⟨gt, 3, none⟩ (.string x1)).setCell ⟨gt, 4, none⟩ (.int .i64 x2)).setCell ⟨gt, 5, none⟩ (.int .i64 x3)).setCell ⟨gt, 6, none⟩ (.int .i64 x4)).cell? ⟨w.heap.size, 3, none⟩ = some (.string (⟨#[]⟩ : ByteArray)) := blk_cell hZ6 3; have hf3 : ((((w7.setCell ⟨gt, 3, none⟩ (.string x1)).setCell ⟨gt, 4, none⟩ (.int .i64 x2)).setCell ⟨gt, 5, none⟩ (.int .i64 x3)).setCell ⟨gt, 6, none⟩ (.int .i64 x4)).frozen? ⟨w.heap.size, 3, none⟩ = false := blk_frozen hZ6 3; have hfc4 : ((((w7.setCell ⟨gt, 3, none⟩ (.string x1)).setCell ⟨gt, 4, none⟩ (.int .i64 x2)).setCell ⟨gt, 5, none⟩ (.int .i64 x3)).setCell ⟨gt, 6, none⟩ (.int .i64 x4)).cell? ⟨w.heap.size, 4, none⟩ = some (.int .i64 0) := blk_cell hZ6 4; have hf4 : ((((w7.setCell ⟨gt, 3, none⟩ (.string x1)).setCell ⟨gt, 4, none⟩ (.int .i64 x2)).setCell ⟨gt, 5, none⟩ (.int .i64 x3)).setCell ⟨gt, 6, none⟩ (.int .i64 x4)).frozen? ⟨w.heap.size, 4, none⟩ = false := blk_frozen hZ6 4; have hfc5 : ((((w7.setCell ⟨gt, 3, none⟩ (.string x1)).setCell ⟨gt, 4, none⟩ (.int .i64 x2)).setCell ⟨gt, 5, none⟩ (.int .i64 x3)).setCell ⟨gt, 6, none⟩ (.int .i64 x4)).cell? ⟨w.heap.size, 5, none⟩ = some (.int .i64 0) := blk_cell hZ6 5; have hf5 : ((((w7.setCell ⟨gt, 3, none⟩ (.string x1)).setCell ⟨gt, 4, none⟩ (.int .i64 x2)).setCell ⟨gt, 5, none⟩ (.int .i64 x3)).setCell ⟨gt, 6, none⟩ (.int .i64 x4)).frozen? ⟨w.heap.size, 5, none⟩ = false := blk_frozen hZ6 5; have hfc6 : ((((w7.setCell ⟨gt, 3, none⟩ (.string x1)).setCell ⟨gt, 4, none⟩ (.int .i64 x2)).setCell ⟨gt, 5, none⟩ (.int .i64 x3)).setCell ⟨gt, 6, none⟩ (.int .i64 x4)).cell? ⟨w.heap.size, 6, none⟩ = some (.int .i64 0) := blk_cell hZ6 6; have hf6 : ((((w7.setCell ⟨gt, 3, none⟩ (.string x1)).setCell ⟨gt, 4, none⟩ (.int .i64 x2)).setCell ⟨gt, 5, none⟩ (.int .i64 x3)).setCell ⟨gt, 6, none⟩ (.int .i64 x4)).frozen? ⟨w.heap.size, 6, none⟩ = false := blk_frozen hZ6 6; have hfc7 : ((((w7.setCell ⟨gt, 3, none⟩ (.string x1)).setCell ⟨gt, 4, none⟩ (.int .i64 x2)).setCell ⟨gt, 5, none⟩ (.int .i64 x3)).setCell ⟨gt, 6, none⟩ (.int .i64 x4)).cell? ⟨w.heap.size, 7, none⟩ = some (.int .i64 0) := blk_cell hZ6 7; have hf7 : ((((w7.setCell ⟨gt, 3, none⟩ (.string x1)).setCell ⟨gt, 4, none⟩ (.int .i64 x2)).setCell ⟨gt, 5, none⟩ (.int .i64 x3)).setCell ⟨gt, 6, none⟩ (.int .i64 x4)).frozen? ⟨w.heap.size, 7, none⟩ = false := blk_frozen hZ6 7; have hfc8 : ((((w7.setCell ⟨gt, 3, none⟩ (.string x1)).setCell ⟨gt, 4, none⟩ (.int .i64 x2)).setCell ⟨gt, 5, none⟩ (.int .i64 x3)).setCell ⟨gt, 6, none⟩ (.int .i64 x4)).cell? ⟨w.heap.size, 8, none⟩ = some (.int .i64 0) := blk_cell hZ6 8; have hf8 : ((((w7.setCell ⟨gt, 3, none⟩ (.string x1)).setCell ⟨gt, 4, none⟩ (.int .i64 x2)).setCell ⟨gt, 5, none⟩ (.int .i64 x3)).setCell ⟨gt, 6, none⟩ (.int .i64 x4)).frozen? ⟨w.heap.size, 8, none⟩ = false := blk_frozen hZ6 8; have hfc9 : ((((w7.setCell ⟨gt, 3, none⟩ (.string x1)).setCell ⟨gt, 4, none⟩ (.int .i64 x2)).setCell ⟨gt, 5, none⟩ (.int .i64 x3)).setCell ⟨gt, 6, none⟩ (.int .i64 x4)).cell? ⟨w.heap.size, 9, none⟩ = some (.string (⟨#[]⟩ : ByteArray)) := blk_cell hZ6 9; have hf9 : ((((w7.setCell ⟨gt, 3, none⟩ (.string x1)).setCell ⟨gt, 4, none⟩ (.int .i64 x2)).setCell ⟨gt, 5, none⟩ (.int .i64 x3)).setCell ⟨gt, 6, none⟩ (.int .i64 x4)).frozen? ⟨w.heap.size, 9, none⟩ = false := blk_frozen hZ6 9; have hfc10 : ((((w7.setCell ⟨gt, 3, none⟩ (.string x1)).setCell ⟨gt, 4, none⟩ (.int .i64 x2)).setCell ⟨gt, 5, none⟩ (.int .i64 x3)).setCell ⟨gt, 6, none⟩ (.int .i64 x4)).cell? ⟨w.heap.size, 10, none⟩ = some (.string (⟨#[]⟩ : ByteArray)) := blk_cell hZ6 10; have hf10 : ((((w7.setCell ⟨gt, 3, none⟩ (.string x1)).setCell ⟨gt, 4, none⟩ (.int .i64 x2)).setCell ⟨gt, 5, none⟩ (.int .i64 x3)).setCell ⟨gt, 6, none⟩ (.int .i64 x4)).frozen? ⟨w.heap.size, 10, none⟩ = false := blk_frozen hZ6 10; have hfc11 : ((((w7.setCell ⟨gt, 3, none⟩ (.string x1)).setCell ⟨gt, 4, none⟩ (.int .i64 x2)).setCell ⟨gt, 5, none⟩ (.int .i64 x3)).setCell ⟨gt, 6, none⟩ (.int .i64 x4)).cell? ⟨w.heap.size, 11, none⟩ = some (.string (⟨#[]⟩ : ByteArray)) := blk_cell hZ6 11; have hf11 : ((((w7.setCell ⟨gt, 3, none⟩ (.string x1)).setCell ⟨gt, 4, none⟩ (.int .i64 x2)).setCell ⟨gt, 5, none⟩ (.int .i64 x3)).setCell ⟨gt, 6, none⟩ (.int .i64 x4)).frozen? ⟨w.heap.size, 11, none⟩ = false := blk_frozen hZ6 11; have hfc12 : ((((w7.setCell ⟨gt, 3, none⟩ (.string x1)).setCell ⟨gt, 4, none⟩ (.int .i64 x2)).setCell ⟨gt, 5, none⟩ (.int .i64 x3)).setCell ⟨gt, 6, none⟩ (.int .i64 x4)).cell? ⟨w.heap.size, 12, none⟩ = some (.string (⟨#[]⟩ : ByteArray)) := blk_cell hZ6 12; have hf12 : ((((w7.setCell ⟨gt, 3, none⟩ (.string x1)).setCell ⟨gt, 4, none⟩ (.int .i64 x2)).setCell ⟨gt, 5, none⟩ (.int .i64 x3)).setCell ⟨gt, 6, none⟩ (.int .i64 x4)).frozen? ⟨w.heap.size, 12, none⟩ = false := blk_frozen hZ6 12; have HZ6 := Aside0.mk hZ6; clear hZ6; clear hb7)
        refine bodyPost_ret (results_ct rfl _ _ w.heap.size 30 #[.int .i64 0, .int .i64 0, .int .i64 0, .string (⟨#[]⟩ : ByteArray), .int .i64 0, .int .i64 0, .int .i64 0, .int .i64 0, .int .i64 0, .string (⟨#[]⟩ : ByteArray), .string (⟨#[]⟩ : ByteArray), .string (⟨#[]⟩ : ByteArray), .string (⟨#[]⟩ : ByteArray)] (0, 0) _ rfl (blk_put (cs := #[.int .i64 0, .int .i64 0, .int .i64 0, .string (⟨#[]⟩ : ByteArray), .int .i64 0, .int .i64 0, .int .i64 0, .int .i64 0, .int .i64 0, .string (⟨#[]⟩ : ByteArray), .string (⟨#[]⟩ : ByteArray), .string (⟨#[]⟩ : ByteArray), .string (⟨#[]⟩ : ByteArray)]) (blk_put (cs := #[.int .i64 0, .int .i64 0, .int .i64 0, .string (⟨#[]⟩ : ByteArray), .int .i64 0, .int .i64 0, .int .i64 0, .int .i64 0, .int .i64 0, .string (⟨#[]⟩ : ByteArray), .string (⟨#[]⟩ : ByteArray), .string (⟨#[]⟩ : ByteArray), .string (⟨#[]⟩ : ByteArray)]) (blk_put (cs := #[.int .i64 0, .int .i64 0, .int .i64 0, .string (⟨#[]⟩ : ByteArray), .int .i64 0, .int .i64 0, .int .i64 0, .int .i64 0, .int .i64 0, .string (⟨#[]⟩ : ByteArray), .string (⟨#[]⟩ : ByteArray), .string (⟨#[]⟩ : ByteArray), .string (⟨#[]⟩ : ByteArray)]) (blk_put (cs := #[.int .i64 0, .int .i64 0, .int .i64 0, .string (⟨#[]⟩ : ByteArray), .int .i64 0, .int .i64 0, .int .i64 0, .int .i64 0, .int .i64 0, .string (⟨#[]⟩ : ByteArray), .string (⟨#[]⟩ : ByteArray), .string (⟨#[]⟩ : ByteArray), .string (⟨#[]⟩ : ByteArray)]) (blk_put (cs := #[.int .i64 0, .int .i64 0, .int .i64 0, .string (⟨#[]⟩ : ByteArray), .int .i64 0, .int .i64 0, .int .i64 0, .int .i64 0, .int .i64 0, .string (⟨#[]⟩ : ByteArray), .string (⟨#[]⟩ : ByteArray), .string (⟨#[]⟩ : ByteArray), .string (⟨#[]⟩ : ByteArray)]) (blk_put (cs := #[.int .i64 0, .int .i64 0, .int .i64 0, .string (⟨#[]⟩ : ByteArray), .int .i64 0, .int .i64 0, .int .i64 0, .int .i64 0, .int .i64 0, .string (⟨#[]⟩ : ByteArray), .string (⟨#[]⟩ : ByteArray), .string (⟨#[]⟩ : ByteArray), .string (⟨#[]⟩ : ByteArray)]) (blk_put (cs := #[.int .i64 0, .int .i64 0, .int .i64 0, .string (⟨#[]⟩ : ByteArray), .int .i64 0, .int .i64 0, .int .i64 0, .int .i64 0, .int .i64 0, .string (⟨#[]⟩ : ByteArray), .string (⟨#[]⟩ : ByteArray), .string (⟨#[]⟩ : ByteArray), .string (⟨#[]⟩ : ByteArray)]) (blk_put (cs := #[.int .i64 0, .int .i64 0, .int .i64 0, .string (⟨#[]⟩ : ByteArray), .int .i64 0, .int .i64 0, .int .i64 0, .int .i64 0, .int .i64 0, .string (⟨#[]⟩ : ByteArray), .string (⟨#[]⟩ : ByteArray), .string (⟨#[]⟩ : ByteArray), .string (⟨#[]⟩ : ByteArray)]) (blk_put (cs := #[.int .i64 0, .int .i64 0, .int .i64 0, .string (⟨#[]⟩ : ByteArray), .int .i64 0, .int .i64 0, .int .i64 0, .int .i64 0, .int .i64 0, .string (⟨#[]⟩ : ByteArray), .string (⟨#[]⟩ : ByteArray), .string (⟨#[]⟩ : ByteArray), .string (⟨#[]⟩ : ByteArray)]) (blk_put (cs := #[.int .i64 0, .int .i64 0, .int .i64 0, .string (⟨#[]⟩ : ByteArray), .int .i64 0, .int .i64 0, .int .i64 0, .int .i64 0, .int .i64 0, .string (⟨#[]⟩ : ByteArray), .string (⟨#[]⟩ : ByteArray), .string (⟨#[]⟩ : ByteArray), .string (⟨#[]⟩ : ByteArray)]) (blk_put (cs := #[.int .i64 0, .int .i64 0, .int .i64 0, .string (⟨#[]⟩ : ByteArray), .int .i64 0, .int .i64 0, .int .i64 0, .int .i64 0, .int .i64 0, .string (⟨#[]⟩ : ByteArray), .string (⟨#[]⟩ : ByteArray), .string (⟨#[]⟩ : ByteArray), .string (⟨#[]⟩ : ByteArray)]) (blk_put (cs := #[.int .i64 0, .int .i64 0, .int .i64 0, .string (⟨#[]⟩ : ByteArray), .int .i64 0, .int .i64 0, .int .i64 0, .int .i64 0, .int .i64 0, .string (⟨#[]⟩ : ByteArray), .string (⟨#[]⟩ : ByteArray), .string (⟨#[]⟩ : ByteArray), .string (⟨#[]⟩ : ByteArray)]) (blk_put (cs := #[.int .i64 0, .int .i64 0, .int .i64 0, .string (⟨#[]⟩ : ByteArray), .int .i64 0, .int .i64 0, .int .i64 0, .int .i64 0, .int .i64 0, .string (⟨#[]⟩ : ByteArray), .string (⟨#[]⟩ : ByteArray), .string (⟨#[]⟩ : ByteArray), .string (⟨#[]⟩ : ByteArray)]) (HZ6.out) 0 _ rfl) 1 _ rfl) 2 _ rfl) 3 _ rfl) 4 _ rfl) 5 _ rfl) 6 _ rfl) 7 _ rfl) 8 _ rfl) 9 _ rfl) 10 _ rfl) 11 _ rfl) 12 _ rfl) Tryz.underlying30 rfl (by kernel_rfl)) rfl ⟨rfl, ?_⟩
        exact (Below.setCell (Below.setCell (Below.setCell (Below.setCell (Below.setCell (Below.setCell (Below.setCell (Below.setCell (Below.setCell (Below.setCell (Below.setCell (Below.setCell (Below.setCell (Below.setCell (Below.setCell (Below.setCell (Below.setCell (below_step HBr.out HB7.out) (p := ⟨gt, 3, none⟩) (Nat.le_of_lt HLT.out) (.string x1)) (p := ⟨gt, 4, none⟩) (Nat.le_of_lt HLT.out) (.int .i64 x2)) (p := ⟨gt, 5, none⟩) (Nat.le_of_lt HLT.out) (.int .i64 x3)) (p := ⟨gt, 6, none⟩) (Nat.le_of_lt HLT.out) (.int .i64 x4)) (p := ⟨w.heap.size, 0, none⟩) (by first | exact Nat.le_refl _ | exact Nat.le_succ _) _) (p := ⟨w.heap.size, 1, none⟩) (by first | exact Nat.le_refl _ | exact Nat.le_succ _) _) (p := ⟨w.heap.size, 2, none⟩) (by first | exact Nat.le_refl _ | exact Nat.le_succ _) _) (p := ⟨w.heap.size, 3, none⟩) (by first | exact Nat.le_refl _ | exact Nat.le_succ _) _) (p := ⟨w.heap.size, 4, none⟩) (by first | exact Nat.le_refl _ | exact Nat.le_succ _) _) (p := ⟨w.heap.size, 5, none⟩) (by first | exact Nat.le_refl _ | exact Nat.le_succ _) _) (p := ⟨w.heap.size, 6, none⟩) (by first | exact Nat.le_refl _ | exact Nat.le_succ _) _) (p := ⟨w.heap.size, 7, none⟩) (by first | exact Nat.le_refl _ | exact Nat.le_succ _) _) (p := ⟨w.heap.size, 8, none⟩) (by first | exact Nat.le_refl _ | exact Nat.le_succ _) _) (p := ⟨w.heap.size, 9, none⟩) (by first | exact Nat.le_refl _ | exact Nat.le_succ _) _) (p := ⟨w.heap.size, 10, none⟩) (by first | exact Nat.le_refl _ | exact Nat.le_succ _) _) (p := ⟨w.heap.size, 11, none⟩) (by first | exact Nat.le_refl _ | exact Nat.le_succ _) _) (p := ⟨w.heap.size, 12, none⟩) (by first | exact Nat.le_refl _ | exact Nat.le_succ _) _)
    · obtain ⟨⟨x, e⟩, hq, hh⟩ := Option.bind_eq_some_iff.1 HP.out
      dsimp only at hh
      have hfn : wr.cell? ⟨v5.heap.size, 4, none⟩ = some (.func (.func 68) #[] #[.pointer (some ⟨b4, 0, none⟩)]) := blk_cell HS.out 4
      have hst : wr.cell? ⟨gL, 4, none⟩ = some (.string (rfS l 4)) := kt_cell HKr.out HCUR.out 4 (HCS.out 4 (by omega))
      have HQ := Aside0.mk hq
      clear hq
      have HBX := Aside0.mk (HKP.out _ _ HX4.out)
      by_cases c : e = 0
      · subst c
        rw [if_pos rfl] at hh
        have HH := Aside0.mk hh
        clear hh
        go_wp2_with (go_at_call 68; refine (num_lit k (rfS l 4) x 0 b4 gt 7 #[.int .i64 t.f0, .int .i64 t.f1, .int .i64 t.f2, .string t.f3.f0, .int .i64 t.f3.f1, .int .i64 t.f3.f2, .int .i64 t.f3.f3, .int .i64 t.f4, .int .i64 t.f5, .string t.f6.f0, .string t.f6.f1, .string t.f7.f0, .string t.f7.f1] t.f4 wr HQ.out HBX.out HGr.out rfl).mono ?_; rintro e6 w6 ⟨rfl, w7, hb7, rfl⟩; have HB7 := Aside0.mk hb7; clear hb7)
        go_roundg (gk - 1)
        case measure => have := HK.out; omega
        case rel => exact ⟨5, { t with f4 := x }, by go_num, ⟨by have := HK.out; omega⟩, HH, ⟨(blk_put (cs := #[.int .i64 t.f0, .int .i64 t.f1, .int .i64 t.f2, .string t.f3.f0, .int .i64 t.f3.f1, .int .i64 t.f3.f2, .int .i64 t.f3.f3, .int .i64 t.f4, .int .i64 t.f5, .string t.f6.f0, .string t.f6.f1, .string t.f7.f0, .string t.f7.f1]) (blk_below HGr.out HB7.out) 7 (.int .i64 x) rfl)⟩, ⟨(KT.setCell (KT.below HKP.out HB7.out) (blk_below HGr.out HB7.out) (by decide) (.int .i64 x))⟩, ⟨(blk_far (blk_below HS.out HB7.out) (Nat.ne_of_gt HGS.out) (.int .i64 x))⟩, ⟨(blk_far (blk_below HZr.out HB7.out) (Nat.ne_of_lt HLT.out) (.int .i64 x))⟩, ⟨(KT.setCell (KT.below HKr.out HB7.out) (blk_below HGr.out HB7.out) (by decide) (.int .i64 x))⟩, ⟨(Below.setCell (below_step HBr.out HB7.out) (p := ⟨gt, 7, none⟩) (Nat.le_of_lt HLT.out) (.int .i64 x))⟩⟩
      · rw [if_neg c] at hh
        obtain rfl := Option.some.inj hh
        have hz : (e != 0) = true := bne_iff_ne.2 c
        clear hh c
        go_wp2_with (go_at_call 68; refine (num_lit k (rfS l 4) x e b4 gt 7 #[.int .i64 t.f0, .int .i64 t.f1, .int .i64 t.f2, .string t.f3.f0, .int .i64 t.f3.f1, .int .i64 t.f3.f2, .int .i64 t.f3.f3, .int .i64 t.f4, .int .i64 t.f5, .string t.f6.f0, .string t.f6.f1, .string t.f7.f0, .string t.f7.f1] t.f4 wr HQ.out HBX.out HGr.out rfl).mono ?_; rintro e6 w6 ⟨rfl, w7, hb7, rfl⟩; have HB7 := Aside0.mk hb7; have hZ6 : (w7.setCell ⟨gt, 7, none⟩ (.int .i64 x)).heap[w.heap.size]? = some (.cells #[.int .i64 0, .int .i64 0, .int .i64 0, .string (⟨#[]⟩ : ByteArray), .int .i64 0, .int .i64 0, .int .i64 0, .int .i64 0, .int .i64 0, .string (⟨#[]⟩ : ByteArray), .string (⟨#[]⟩ : ByteArray), .string (⟨#[]⟩ : ByteArray), .string (⟨#[]⟩ : ByteArray)] 30 (0, 0)) := (blk_far (blk_below HZr.out hb7) (Nat.ne_of_lt HLT.out) (.int .i64 x)); have hfc0 : (w7.setCell ⟨gt, 7, none⟩ (.int .i64 x)).cell? ⟨w.heap.size, 0, none⟩ = some (.int .i64 0) := blk_cell hZ6 0; have hf0 : (w7.setCell ⟨gt, 7, none⟩ (.int .i64 x)).frozen? ⟨w.heap.size, 0, none⟩ = false := blk_frozen hZ6 0; have hfc1 : (w7.setCell ⟨gt, 7, none⟩ (.int .i64 x)).cell? ⟨w.heap.size, 1, none⟩ = some (.int .i64 0) := blk_cell hZ6 1; have hf1 : (w7.setCell ⟨gt, 7, none⟩ (.int .i64 x)).frozen? ⟨w.heap.size, 1, none⟩ = false := blk_frozen hZ6 1; have hfc2 : (w7.setCell ⟨gt, 7, none⟩ (.int .i64 x)).cell? ⟨w.heap.size, 2, none⟩ = some (.int .i64 0) := blk_cell hZ6 2; have hf2 : (w7.setCell ⟨gt, 7, none⟩ (.int .i64 x)).frozen? ⟨w.heap.size, 2, none⟩ = false := blk_frozen hZ6 2; have hfc3 : (w7.setCell ⟨gt, 7, none⟩ (.int .i64 x)).cell? ⟨w.heap.size, 3, none⟩ = some (.string (⟨#[]⟩ : ByteArray)) := blk_cell hZ6 3; have hf3 : (w7.setCell ⟨gt, 7, none⟩ (.int .i64 x)).frozen? ⟨w.heap.size, 3, none⟩ = false := blk_frozen hZ6 3; have hfc4 : (w7.setCell ⟨gt, 7, none⟩ (.int .i64 x)).cell? ⟨w.heap.size, 4, none⟩ = some (.int .i64 0) := blk_cell hZ6 4; have hf4 : (w7.setCell ⟨gt, 7, none⟩ (.int .i64 x)).frozen? ⟨w.heap.size, 4, none⟩ = false := blk_frozen hZ6 4; have hfc5 : (w7.setCell ⟨gt, 7, none⟩ (.int .i64 x)).cell? ⟨w.heap.size, 5, none⟩ = some (.int .i64 0) := blk_cell hZ6 5; have hf5 : (w7.setCell ⟨gt, 7, none⟩ (.int .i64 x)).frozen? ⟨w.heap.size, 5, none⟩ = false := blk_frozen hZ6 5; have hfc6 : (w7.setCell ⟨gt, 7, none⟩ (.int .i64 x)).cell? ⟨w.heap.size, 6, none⟩ = some (.int .i64 0) := blk_cell hZ6 6; have hf6 : (w7.setCell ⟨gt, 7, none⟩ (.int .i64 x)).frozen? ⟨w.heap.size, 6, none⟩ = false := blk_frozen hZ6 6; have hfc7 : (w7.setCell ⟨gt, 7, none⟩ (.int .i64 x)).cell? ⟨w.heap.size, 7, none⟩ = some (.int .i64 0) := blk_cell hZ6 7; have hf7 : (w7.setCell ⟨gt, 7, none⟩ (.int .i64 x)).frozen? ⟨w.heap.size, 7, none⟩ = false := blk_frozen hZ6 7; have hfc8 : (w7.setCell ⟨gt, 7, none⟩ (.int .i64 x)).cell? ⟨w.heap.size, 8, none⟩ = some (.int .i64 0) := blk_cell hZ6 8; have hf8 : (w7.setCell ⟨gt, 7, none⟩ (.int .i64 x)).frozen? ⟨w.heap.size, 8, none⟩ = false := blk_frozen hZ6 8; have hfc9 : (w7.setCell ⟨gt, 7, none⟩ (.int .i64 x)).cell? ⟨w.heap.size, 9, none⟩ = some (.string (⟨#[]⟩ : ByteArray)) := blk_cell hZ6 9; have hf9 : (w7.setCell ⟨gt, 7, none⟩ (.int .i64 x)).frozen? ⟨w.heap.size, 9, none⟩ = false := blk_frozen hZ6 9; have hfc10 : (w7.setCell ⟨gt, 7, none⟩ (.int .i64 x)).cell? ⟨w.heap.size, 10, none⟩ = some (.string (⟨#[]⟩ : ByteArray)) := blk_cell hZ6 10; have hf10 : (w7.setCell ⟨gt, 7, none⟩ (.int .i64 x)).frozen? ⟨w.heap.size, 10, none⟩ = false := blk_frozen hZ6 10; have hfc11 : (w7.setCell ⟨gt, 7, none⟩ (.int .i64 x)).cell? ⟨w.heap.size, 11, none⟩ = some (.string (⟨#[]⟩ : ByteArray)) := blk_cell hZ6 11; have hf11 : (w7.setCell ⟨gt, 7, none⟩ (.int .i64 x)).frozen? ⟨w.heap.size, 11, none⟩ = false := blk_frozen hZ6 11; have hfc12 : (w7.setCell ⟨gt, 7, none⟩ (.int .i64 x)).cell? ⟨w.heap.size, 12, none⟩ = some (.string (⟨#[]⟩ : ByteArray)) := blk_cell hZ6 12; have hf12 : (w7.setCell ⟨gt, 7, none⟩ (.int .i64 x)).frozen? ⟨w.heap.size, 12, none⟩ = false := blk_frozen hZ6 12; have HZ6 := Aside0.mk hZ6; clear hZ6; clear hb7)
        refine bodyPost_ret (results_ct rfl _ _ w.heap.size 30 #[.int .i64 0, .int .i64 0, .int .i64 0, .string (⟨#[]⟩ : ByteArray), .int .i64 0, .int .i64 0, .int .i64 0, .int .i64 0, .int .i64 0, .string (⟨#[]⟩ : ByteArray), .string (⟨#[]⟩ : ByteArray), .string (⟨#[]⟩ : ByteArray), .string (⟨#[]⟩ : ByteArray)] (0, 0) _ rfl (blk_put (cs := #[.int .i64 0, .int .i64 0, .int .i64 0, .string (⟨#[]⟩ : ByteArray), .int .i64 0, .int .i64 0, .int .i64 0, .int .i64 0, .int .i64 0, .string (⟨#[]⟩ : ByteArray), .string (⟨#[]⟩ : ByteArray), .string (⟨#[]⟩ : ByteArray), .string (⟨#[]⟩ : ByteArray)]) (blk_put (cs := #[.int .i64 0, .int .i64 0, .int .i64 0, .string (⟨#[]⟩ : ByteArray), .int .i64 0, .int .i64 0, .int .i64 0, .int .i64 0, .int .i64 0, .string (⟨#[]⟩ : ByteArray), .string (⟨#[]⟩ : ByteArray), .string (⟨#[]⟩ : ByteArray), .string (⟨#[]⟩ : ByteArray)]) (blk_put (cs := #[.int .i64 0, .int .i64 0, .int .i64 0, .string (⟨#[]⟩ : ByteArray), .int .i64 0, .int .i64 0, .int .i64 0, .int .i64 0, .int .i64 0, .string (⟨#[]⟩ : ByteArray), .string (⟨#[]⟩ : ByteArray), .string (⟨#[]⟩ : ByteArray), .string (⟨#[]⟩ : ByteArray)]) (blk_put (cs := #[.int .i64 0, .int .i64 0, .int .i64 0, .string (⟨#[]⟩ : ByteArray), .int .i64 0, .int .i64 0, .int .i64 0, .int .i64 0, .int .i64 0, .string (⟨#[]⟩ : ByteArray), .string (⟨#[]⟩ : ByteArray), .string (⟨#[]⟩ : ByteArray), .string (⟨#[]⟩ : ByteArray)]) (blk_put (cs := #[.int .i64 0, .int .i64 0, .int .i64 0, .string (⟨#[]⟩ : ByteArray), .int .i64 0, .int .i64 0, .int .i64 0, .int .i64 0, .int .i64 0, .string (⟨#[]⟩ : ByteArray), .string (⟨#[]⟩ : ByteArray), .string (⟨#[]⟩ : ByteArray), .string (⟨#[]⟩ : ByteArray)]) (blk_put (cs := #[.int .i64 0, .int .i64 0, .int .i64 0, .string (⟨#[]⟩ : ByteArray), .int .i64 0, .int .i64 0, .int .i64 0, .int .i64 0, .int .i64 0, .string (⟨#[]⟩ : ByteArray), .string (⟨#[]⟩ : ByteArray), .string (⟨#[]⟩ : ByteArray), .string (⟨#[]⟩ : ByteArray)]) (blk_put (cs := #[.int .i64 0, .int .i64 0, .int .i64 0, .string (⟨#[]⟩ : ByteArray), .int .i64 0, .int .i64 0, .int .i64 0, .int .i64 0, .int .i64 0, .string (⟨#[]⟩ : ByteArray), .string (⟨#[]⟩ : ByteArray), .string (⟨#[]⟩ : ByteArray), .string (⟨#[]⟩ : ByteArray)]) (blk_put (cs := #[.int .i64 0, .int .i64 0, .int .i64 0, .string (⟨#[]⟩ : ByteArray), .int .i64 0, .int .i64 0, .int .i64 0, .int .i64 0, .int .i64 0, .string (⟨#[]⟩ : ByteArray), .string (⟨#[]⟩ : ByteArray), .string (⟨#[]⟩ : ByteArray), .string (⟨#[]⟩ : ByteArray)]) (blk_put (cs := #[.int .i64 0, .int .i64 0, .int .i64 0, .string (⟨#[]⟩ : ByteArray), .int .i64 0, .int .i64 0, .int .i64 0, .int .i64 0, .int .i64 0, .string (⟨#[]⟩ : ByteArray), .string (⟨#[]⟩ : ByteArray), .string (⟨#[]⟩ : ByteArray), .string (⟨#[]⟩ : ByteArray)]) (blk_put (cs := #[.int .i64 0, .int .i64 0, .int .i64 0, .string (⟨#[]⟩ : ByteArray), .int .i64 0, .int .i64 0, .int .i64 0, .int .i64 0, .int .i64 0, .string (⟨#[]⟩ : ByteArray), .string (⟨#[]⟩ : ByteArray), .string (⟨#[]⟩ : ByteArray), .string (⟨#[]⟩ : ByteArray)]) (blk_put (cs := #[.int .i64 0, .int .i64 0, .int .i64 0, .string (⟨#[]⟩ : ByteArray), .int .i64 0, .int .i64 0, .int .i64 0, .int .i64 0, .int .i64 0, .string (⟨#[]⟩ : ByteArray), .string (⟨#[]⟩ : ByteArray), .string (⟨#[]⟩ : ByteArray), .string (⟨#[]⟩ : ByteArray)]) (blk_put (cs := #[.int .i64 0, .int .i64 0, .int .i64 0, .string (⟨#[]⟩ : ByteArray), .int .i64 0, .int .i64 0, .int .i64 0, .int .i64 0, .int .i64 0, .string (⟨#[]⟩ : ByteArray), .string (⟨#[]⟩ : ByteArray), .string (⟨#[]⟩ : ByteArray), .string (⟨#[]⟩ : ByteArray)]) (blk_put (cs := #[.int .i64 0, .int .i64 0, .int .i64 0, .string (⟨#[]⟩ : ByteArray), .int .i64 0, .int .i64 0, .int .i64 0, .int .i64 0, .int .i64 0, .string (⟨#[]⟩ : ByteArray), .string (⟨#[]⟩ : ByteArray), .string (⟨#[]⟩ : ByteArray), .string (⟨#[]⟩ : ByteArray)]) (HZ6.out) 0 _ rfl) 1 _ rfl) 2 _ rfl) 3 _ rfl) 4 _ rfl) 5 _ rfl) 6 _ rfl) 7 _ rfl) 8 _ rfl) 9 _ rfl) 10 _ rfl) 11 _ rfl) 12 _ rfl) Tryz.underlying30 rfl (by kernel_rfl)) rfl ⟨rfl, ?_⟩
        exact (Below.setCell (Below.setCell (Below.setCell (Below.setCell (Below.setCell (Below.setCell (Below.setCell (Below.setCell (Below.setCell (Below.setCell (Below.setCell (Below.setCell (Below.setCell (Below.setCell (below_step HBr.out HB7.out) (p := ⟨gt, 7, none⟩) (Nat.le_of_lt HLT.out) (.int .i64 x)) (p := ⟨w.heap.size, 0, none⟩) (by first | exact Nat.le_refl _ | exact Nat.le_succ _) _) (p := ⟨w.heap.size, 1, none⟩) (by first | exact Nat.le_refl _ | exact Nat.le_succ _) _) (p := ⟨w.heap.size, 2, none⟩) (by first | exact Nat.le_refl _ | exact Nat.le_succ _) _) (p := ⟨w.heap.size, 3, none⟩) (by first | exact Nat.le_refl _ | exact Nat.le_succ _) _) (p := ⟨w.heap.size, 4, none⟩) (by first | exact Nat.le_refl _ | exact Nat.le_succ _) _) (p := ⟨w.heap.size, 5, none⟩) (by first | exact Nat.le_refl _ | exact Nat.le_succ _) _) (p := ⟨w.heap.size, 6, none⟩) (by first | exact Nat.le_refl _ | exact Nat.le_succ _) _) (p := ⟨w.heap.size, 7, none⟩) (by first | exact Nat.le_refl _ | exact Nat.le_succ _) _) (p := ⟨w.heap.size, 8, none⟩) (by first | exact Nat.le_refl _ | exact Nat.le_succ _) _) (p := ⟨w.heap.size, 9, none⟩) (by first | exact Nat.le_refl _ | exact Nat.le_succ _) _) (p := ⟨w.heap.size, 10, none⟩) (by first | exact Nat.le_refl _ | exact Nat.le_succ _) _) (p := ⟨w.heap.size, 11, none⟩) (by first | exact Nat.le_refl _ | exact Nat.le_succ _) _) (p := ⟨w.heap.size, 12, none⟩) (by first | exact Nat.le_refl _ | exact Nat.le_succ _) _)
    · obtain ⟨⟨x, e⟩, hq, hh⟩ := Option.bind_eq_some_iff.1 HP.out
      dsimp only at hh
      have hfn : wr.cell? ⟨v5.heap.size, 5, none⟩ = some (.func (.func 68) #[] #[.pointer (some ⟨b5, 0, none⟩)]) := blk_cell HS.out 5
      have hst : wr.cell? ⟨gL, 5, none⟩ = some (.string (rfS l 5)) := kt_cell HKr.out HCUR.out 5 (HCS.out 5 (by omega))
      have HQ := Aside0.mk hq
      clear hq
      have HBX := Aside0.mk (HKP.out _ _ HX5.out)
      by_cases c : e = 0
      · subst c
        rw [if_pos rfl] at hh
        have HH := Aside0.mk hh
        clear hh
        go_wp2_with (go_at_call 68; refine (num_lit k (rfS l 5) x 0 b5 gt 8 #[.int .i64 t.f0, .int .i64 t.f1, .int .i64 t.f2, .string t.f3.f0, .int .i64 t.f3.f1, .int .i64 t.f3.f2, .int .i64 t.f3.f3, .int .i64 t.f4, .int .i64 t.f5, .string t.f6.f0, .string t.f6.f1, .string t.f7.f0, .string t.f7.f1] t.f5 wr HQ.out HBX.out HGr.out rfl).mono ?_; rintro e6 w6 ⟨rfl, w7, hb7, rfl⟩; have HB7 := Aside0.mk hb7; clear hb7)
        go_roundg (gk - 1)
        case measure => have := HK.out; omega
        case rel => exact ⟨6, { t with f5 := x }, by go_num, ⟨by have := HK.out; omega⟩, HH, ⟨(blk_put (cs := #[.int .i64 t.f0, .int .i64 t.f1, .int .i64 t.f2, .string t.f3.f0, .int .i64 t.f3.f1, .int .i64 t.f3.f2, .int .i64 t.f3.f3, .int .i64 t.f4, .int .i64 t.f5, .string t.f6.f0, .string t.f6.f1, .string t.f7.f0, .string t.f7.f1]) (blk_below HGr.out HB7.out) 8 (.int .i64 x) rfl)⟩, ⟨(KT.setCell (KT.below HKP.out HB7.out) (blk_below HGr.out HB7.out) (by decide) (.int .i64 x))⟩, ⟨(blk_far (blk_below HS.out HB7.out) (Nat.ne_of_gt HGS.out) (.int .i64 x))⟩, ⟨(blk_far (blk_below HZr.out HB7.out) (Nat.ne_of_lt HLT.out) (.int .i64 x))⟩, ⟨(KT.setCell (KT.below HKr.out HB7.out) (blk_below HGr.out HB7.out) (by decide) (.int .i64 x))⟩, ⟨(Below.setCell (below_step HBr.out HB7.out) (p := ⟨gt, 8, none⟩) (Nat.le_of_lt HLT.out) (.int .i64 x))⟩⟩
      · rw [if_neg c] at hh
        obtain rfl := Option.some.inj hh
        have hz : (e != 0) = true := bne_iff_ne.2 c
        clear hh c
        go_wp2_with (go_at_call 68; refine (num_lit k (rfS l 5) x e b5 gt 8 #[.int .i64 t.f0, .int .i64 t.f1, .int .i64 t.f2, .string t.f3.f0, .int .i64 t.f3.f1, .int .i64 t.f3.f2, .int .i64 t.f3.f3, .int .i64 t.f4, .int .i64 t.f5, .string t.f6.f0, .string t.f6.f1, .string t.f7.f0, .string t.f7.f1] t.f5 wr HQ.out HBX.out HGr.out rfl).mono ?_; rintro e6 w6 ⟨rfl, w7, hb7, rfl⟩; have HB7 := Aside0.mk hb7; have hZ6 : (w7.setCell ⟨gt, 8, none⟩ (.int .i64 x)).heap[w.heap.size]? = some (.cells #[.int .i64 0, .int .i64 0, .int .i64 0, .string (⟨#[]⟩ : ByteArray), .int .i64 0, .int .i64 0, .int .i64 0, .int .i64 0, .int .i64 0, .string (⟨#[]⟩ : ByteArray), .string (⟨#[]⟩ : ByteArray), .string (⟨#[]⟩ : ByteArray), .string (⟨#[]⟩ : ByteArray)] 30 (0, 0)) := (blk_far (blk_below HZr.out hb7) (Nat.ne_of_lt HLT.out) (.int .i64 x)); have hfc0 : (w7.setCell ⟨gt, 8, none⟩ (.int .i64 x)).cell? ⟨w.heap.size, 0, none⟩ = some (.int .i64 0) := blk_cell hZ6 0; have hf0 : (w7.setCell ⟨gt, 8, none⟩ (.int .i64 x)).frozen? ⟨w.heap.size, 0, none⟩ = false := blk_frozen hZ6 0; have hfc1 : (w7.setCell ⟨gt, 8, none⟩ (.int .i64 x)).cell? ⟨w.heap.size, 1, none⟩ = some (.int .i64 0) := blk_cell hZ6 1; have hf1 : (w7.setCell ⟨gt, 8, none⟩ (.int .i64 x)).frozen? ⟨w.heap.size, 1, none⟩ = false := blk_frozen hZ6 1; have hfc2 : (w7.setCell ⟨gt, 8, none⟩ (.int .i64 x)).cell? ⟨w.heap.size, 2, none⟩ = some (.int .i64 0) := blk_cell hZ6 2; have hf2 : (w7.setCell ⟨gt, 8, none⟩ (.int .i64 x)).frozen? ⟨w.heap.size, 2, none⟩ = false := blk_frozen hZ6 2; have hfc3 : (w7.setCell ⟨gt, 8, none⟩ (.int .i64 x)).cell? ⟨w.heap.size, 3, none⟩ = some (.string (⟨#[]⟩ : ByteArray)) := blk_cell hZ6 3; have hf3 : (w7.setCell ⟨gt, 8, none⟩ (.int .i64 x)).frozen? ⟨w.heap.size, 3, none⟩ = false := blk_frozen hZ6 3; have hfc4 : (w7.setCell ⟨gt, 8, none⟩ (.int .i64 x)).cell? ⟨w.heap.size, 4, none⟩ = some (.int .i64 0) := blk_cell hZ6 4; have hf4 : (w7.setCell ⟨gt, 8, none⟩ (.int .i64 x)).frozen? ⟨w.heap.size, 4, none⟩ = false := blk_frozen hZ6 4; have hfc5 : (w7.setCell ⟨gt, 8, none⟩ (.int .i64 x)).cell? ⟨w.heap.size, 5, none⟩ = some (.int .i64 0) := blk_cell hZ6 5; have hf5 : (w7.setCell ⟨gt, 8, none⟩ (.int .i64 x)).frozen? ⟨w.heap.size, 5, none⟩ = false := blk_frozen hZ6 5; have hfc6 : (w7.setCell ⟨gt, 8, none⟩ (.int .i64 x)).cell? ⟨w.heap.size, 6, none⟩ = some (.int .i64 0) := blk_cell hZ6 6; have hf6 : (w7.setCell ⟨gt, 8, none⟩ (.int .i64 x)).frozen? ⟨w.heap.size, 6, none⟩ = false := blk_frozen hZ6 6; have hfc7 : (w7.setCell ⟨gt, 8, none⟩ (.int .i64 x)).cell? ⟨w.heap.size, 7, none⟩ = some (.int .i64 0) := blk_cell hZ6 7; have hf7 : (w7.setCell ⟨gt, 8, none⟩ (.int .i64 x)).frozen? ⟨w.heap.size, 7, none⟩ = false := blk_frozen hZ6 7; have hfc8 : (w7.setCell ⟨gt, 8, none⟩ (.int .i64 x)).cell? ⟨w.heap.size, 8, none⟩ = some (.int .i64 0) := blk_cell hZ6 8; have hf8 : (w7.setCell ⟨gt, 8, none⟩ (.int .i64 x)).frozen? ⟨w.heap.size, 8, none⟩ = false := blk_frozen hZ6 8; have hfc9 : (w7.setCell ⟨gt, 8, none⟩ (.int .i64 x)).cell? ⟨w.heap.size, 9, none⟩ = some (.string (⟨#[]⟩ : ByteArray)) := blk_cell hZ6 9; have hf9 : (w7.setCell ⟨gt, 8, none⟩ (.int .i64 x)).frozen? ⟨w.heap.size, 9, none⟩ = false := blk_frozen hZ6 9; have hfc10 : (w7.setCell ⟨gt, 8, none⟩ (.int .i64 x)).cell? ⟨w.heap.size, 10, none⟩ = some (.string (⟨#[]⟩ : ByteArray)) := blk_cell hZ6 10; have hf10 : (w7.setCell ⟨gt, 8, none⟩ (.int .i64 x)).frozen? ⟨w.heap.size, 10, none⟩ = false := blk_frozen hZ6 10; have hfc11 : (w7.setCell ⟨gt, 8, none⟩ (.int .i64 x)).cell? ⟨w.heap.size, 11, none⟩ = some (.string (⟨#[]⟩ : ByteArray)) := blk_cell hZ6 11; have hf11 : (w7.setCell ⟨gt, 8, none⟩ (.int .i64 x)).frozen? ⟨w.heap.size, 11, none⟩ = false := blk_frozen hZ6 11; have hfc12 : (w7.setCell ⟨gt, 8, none⟩ (.int .i64 x)).cell? ⟨w.heap.size, 12, none⟩ = some (.string (⟨#[]⟩ : ByteArray)) := blk_cell hZ6 12; have hf12 : (w7.setCell ⟨gt, 8, none⟩ (.int .i64 x)).frozen? ⟨w.heap.size, 12, none⟩ = false := blk_frozen hZ6 12; have HZ6 := Aside0.mk hZ6; clear hZ6; clear hb7)
        refine bodyPost_ret (results_ct rfl _ _ w.heap.size 30 #[.int .i64 0, .int .i64 0, .int .i64 0, .string (⟨#[]⟩ : ByteArray), .int .i64 0, .int .i64 0, .int .i64 0, .int .i64 0, .int .i64 0, .string (⟨#[]⟩ : ByteArray), .string (⟨#[]⟩ : ByteArray), .string (⟨#[]⟩ : ByteArray), .string (⟨#[]⟩ : ByteArray)] (0, 0) _ rfl (blk_put (cs := #[.int .i64 0, .int .i64 0, .int .i64 0, .string (⟨#[]⟩ : ByteArray), .int .i64 0, .int .i64 0, .int .i64 0, .int .i64 0, .int .i64 0, .string (⟨#[]⟩ : ByteArray), .string (⟨#[]⟩ : ByteArray), .string (⟨#[]⟩ : ByteArray), .string (⟨#[]⟩ : ByteArray)]) (blk_put (cs := #[.int .i64 0, .int .i64 0, .int .i64 0, .string (⟨#[]⟩ : ByteArray), .int .i64 0, .int .i64 0, .int .i64 0, .int .i64 0, .int .i64 0, .string (⟨#[]⟩ : ByteArray), .string (⟨#[]⟩ : ByteArray), .string (⟨#[]⟩ : ByteArray), .string (⟨#[]⟩ : ByteArray)]) (blk_put (cs := #[.int .i64 0, .int .i64 0, .int .i64 0, .string (⟨#[]⟩ : ByteArray), .int .i64 0, .int .i64 0, .int .i64 0, .int .i64 0, .int .i64 0, .string (⟨#[]⟩ : ByteArray), .string (⟨#[]⟩ : ByteArray), .string (⟨#[]⟩ : ByteArray), .string (⟨#[]⟩ : ByteArray)]) (blk_put (cs := #[.int .i64 0, .int .i64 0, .int .i64 0, .string (⟨#[]⟩ : ByteArray), .int .i64 0, .int .i64 0, .int .i64 0, .int .i64 0, .int .i64 0, .string (⟨#[]⟩ : ByteArray), .string (⟨#[]⟩ : ByteArray), .string (⟨#[]⟩ : ByteArray), .string (⟨#[]⟩ : ByteArray)]) (blk_put (cs := #[.int .i64 0, .int .i64 0, .int .i64 0, .string (⟨#[]⟩ : ByteArray), .int .i64 0, .int .i64 0, .int .i64 0, .int .i64 0, .int .i64 0, .string (⟨#[]⟩ : ByteArray), .string (⟨#[]⟩ : ByteArray), .string (⟨#[]⟩ : ByteArray), .string (⟨#[]⟩ : ByteArray)]) (blk_put (cs := #[.int .i64 0, .int .i64 0, .int .i64 0, .string (⟨#[]⟩ : ByteArray), .int .i64 0, .int .i64 0, .int .i64 0, .int .i64 0, .int .i64 0, .string (⟨#[]⟩ : ByteArray), .string (⟨#[]⟩ : ByteArray), .string (⟨#[]⟩ : ByteArray), .string (⟨#[]⟩ : ByteArray)]) (blk_put (cs := #[.int .i64 0, .int .i64 0, .int .i64 0, .string (⟨#[]⟩ : ByteArray), .int .i64 0, .int .i64 0, .int .i64 0, .int .i64 0, .int .i64 0, .string (⟨#[]⟩ : ByteArray), .string (⟨#[]⟩ : ByteArray), .string (⟨#[]⟩ : ByteArray), .string (⟨#[]⟩ : ByteArray)]) (blk_put (cs := #[.int .i64 0, .int .i64 0, .int .i64 0, .string (⟨#[]⟩ : ByteArray), .int .i64 0, .int .i64 0, .int .i64 0, .int .i64 0, .int .i64 0, .string (⟨#[]⟩ : ByteArray), .string (⟨#[]⟩ : ByteArray), .string (⟨#[]⟩ : ByteArray), .string (⟨#[]⟩ : ByteArray)]) (blk_put (cs := #[.int .i64 0, .int .i64 0, .int .i64 0, .string (⟨#[]⟩ : ByteArray), .int .i64 0, .int .i64 0, .int .i64 0, .int .i64 0, .int .i64 0, .string (⟨#[]⟩ : ByteArray), .string (⟨#[]⟩ : ByteArray), .string (⟨#[]⟩ : ByteArray), .string (⟨#[]⟩ : ByteArray)]) (blk_put (cs := #[.int .i64 0, .int .i64 0, .int .i64 0, .string (⟨#[]⟩ : ByteArray), .int .i64 0, .int .i64 0, .int .i64 0, .int .i64 0, .int .i64 0, .string (⟨#[]⟩ : ByteArray), .string (⟨#[]⟩ : ByteArray), .string (⟨#[]⟩ : ByteArray), .string (⟨#[]⟩ : ByteArray)]) (blk_put (cs := #[.int .i64 0, .int .i64 0, .int .i64 0, .string (⟨#[]⟩ : ByteArray), .int .i64 0, .int .i64 0, .int .i64 0, .int .i64 0, .int .i64 0, .string (⟨#[]⟩ : ByteArray), .string (⟨#[]⟩ : ByteArray), .string (⟨#[]⟩ : ByteArray), .string (⟨#[]⟩ : ByteArray)]) (blk_put (cs := #[.int .i64 0, .int .i64 0, .int .i64 0, .string (⟨#[]⟩ : ByteArray), .int .i64 0, .int .i64 0, .int .i64 0, .int .i64 0, .int .i64 0, .string (⟨#[]⟩ : ByteArray), .string (⟨#[]⟩ : ByteArray), .string (⟨#[]⟩ : ByteArray), .string (⟨#[]⟩ : ByteArray)]) (blk_put (cs := #[.int .i64 0, .int .i64 0, .int .i64 0, .string (⟨#[]⟩ : ByteArray), .int .i64 0, .int .i64 0, .int .i64 0, .int .i64 0, .int .i64 0, .string (⟨#[]⟩ : ByteArray), .string (⟨#[]⟩ : ByteArray), .string (⟨#[]⟩ : ByteArray), .string (⟨#[]⟩ : ByteArray)]) (HZ6.out) 0 _ rfl) 1 _ rfl) 2 _ rfl) 3 _ rfl) 4 _ rfl) 5 _ rfl) 6 _ rfl) 7 _ rfl) 8 _ rfl) 9 _ rfl) 10 _ rfl) 11 _ rfl) 12 _ rfl) Tryz.underlying30 rfl (by kernel_rfl)) rfl ⟨rfl, ?_⟩
        exact (Below.setCell (Below.setCell (Below.setCell (Below.setCell (Below.setCell (Below.setCell (Below.setCell (Below.setCell (Below.setCell (Below.setCell (Below.setCell (Below.setCell (Below.setCell (Below.setCell (below_step HBr.out HB7.out) (p := ⟨gt, 8, none⟩) (Nat.le_of_lt HLT.out) (.int .i64 x)) (p := ⟨w.heap.size, 0, none⟩) (by first | exact Nat.le_refl _ | exact Nat.le_succ _) _) (p := ⟨w.heap.size, 1, none⟩) (by first | exact Nat.le_refl _ | exact Nat.le_succ _) _) (p := ⟨w.heap.size, 2, none⟩) (by first | exact Nat.le_refl _ | exact Nat.le_succ _) _) (p := ⟨w.heap.size, 3, none⟩) (by first | exact Nat.le_refl _ | exact Nat.le_succ _) _) (p := ⟨w.heap.size, 4, none⟩) (by first | exact Nat.le_refl _ | exact Nat.le_succ _) _) (p := ⟨w.heap.size, 5, none⟩) (by first | exact Nat.le_refl _ | exact Nat.le_succ _) _) (p := ⟨w.heap.size, 6, none⟩) (by first | exact Nat.le_refl _ | exact Nat.le_succ _) _) (p := ⟨w.heap.size, 7, none⟩) (by first | exact Nat.le_refl _ | exact Nat.le_succ _) _) (p := ⟨w.heap.size, 8, none⟩) (by first | exact Nat.le_refl _ | exact Nat.le_succ _) _) (p := ⟨w.heap.size, 9, none⟩) (by first | exact Nat.le_refl _ | exact Nat.le_succ _) _) (p := ⟨w.heap.size, 10, none⟩) (by first | exact Nat.le_refl _ | exact Nat.le_succ _) _) (p := ⟨w.heap.size, 11, none⟩) (by first | exact Nat.le_refl _ | exact Nat.le_succ _) _) (p := ⟨w.heap.size, 12, none⟩) (by first | exact Nat.le_refl _ | exact Nat.le_succ _) _)
    · obtain rfl := Option.some.inj (show some (t, (0 : Int)) = some p from HP.out)
      have hfc0 : wr.cell? ⟨w.heap.size, 0, none⟩ = some (.int .i64 0) := blk_cell HZr.out 0
      have hf0 : wr.frozen? ⟨w.heap.size, 0, none⟩ = false := blk_frozen HZr.out 0
      have hfc1 : wr.cell? ⟨w.heap.size, 1, none⟩ = some (.int .i64 0) := blk_cell HZr.out 1
      have hf1 : wr.frozen? ⟨w.heap.size, 1, none⟩ = false := blk_frozen HZr.out 1
      have hfc2 : wr.cell? ⟨w.heap.size, 2, none⟩ = some (.int .i64 0) := blk_cell HZr.out 2
      have hf2 : wr.frozen? ⟨w.heap.size, 2, none⟩ = false := blk_frozen HZr.out 2
      have hfc3 : wr.cell? ⟨w.heap.size, 3, none⟩ = some (.string (⟨#[]⟩ : ByteArray)) := blk_cell HZr.out 3
      have hf3 : wr.frozen? ⟨w.heap.size, 3, none⟩ = false := blk_frozen HZr.out 3
      have hfc4 : wr.cell? ⟨w.heap.size, 4, none⟩ = some (.int .i64 0) := blk_cell HZr.out 4
      have hf4 : wr.frozen? ⟨w.heap.size, 4, none⟩ = false := blk_frozen HZr.out 4
      have hfc5 : wr.cell? ⟨w.heap.size, 5, none⟩ = some (.int .i64 0) := blk_cell HZr.out 5
      have hf5 : wr.frozen? ⟨w.heap.size, 5, none⟩ = false := blk_frozen HZr.out 5
      have hfc6 : wr.cell? ⟨w.heap.size, 6, none⟩ = some (.int .i64 0) := blk_cell HZr.out 6
      have hf6 : wr.frozen? ⟨w.heap.size, 6, none⟩ = false := blk_frozen HZr.out 6
      have hfc7 : wr.cell? ⟨w.heap.size, 7, none⟩ = some (.int .i64 0) := blk_cell HZr.out 7
      have hf7 : wr.frozen? ⟨w.heap.size, 7, none⟩ = false := blk_frozen HZr.out 7
      have hfc8 : wr.cell? ⟨w.heap.size, 8, none⟩ = some (.int .i64 0) := blk_cell HZr.out 8
      have hf8 : wr.frozen? ⟨w.heap.size, 8, none⟩ = false := blk_frozen HZr.out 8
      have hfc9 : wr.cell? ⟨w.heap.size, 9, none⟩ = some (.string (⟨#[]⟩ : ByteArray)) := blk_cell HZr.out 9
      have hf9 : wr.frozen? ⟨w.heap.size, 9, none⟩ = false := blk_frozen HZr.out 9
      have hfc10 : wr.cell? ⟨w.heap.size, 10, none⟩ = some (.string (⟨#[]⟩ : ByteArray)) := blk_cell HZr.out 10
      have hf10 : wr.frozen? ⟨w.heap.size, 10, none⟩ = false := blk_frozen HZr.out 10
      have hfc11 : wr.cell? ⟨w.heap.size, 11, none⟩ = some (.string (⟨#[]⟩ : ByteArray)) := blk_cell HZr.out 11
      have hf11 : wr.frozen? ⟨w.heap.size, 11, none⟩ = false := blk_frozen HZr.out 11
      have hfc12 : wr.cell? ⟨w.heap.size, 12, none⟩ = some (.string (⟨#[]⟩ : ByteArray)) := blk_cell HZr.out 12
      have hf12 : wr.frozen? ⟨w.heap.size, 12, none⟩ = false := blk_frozen HZr.out 12
      have hg0 : wr.cell? ⟨gt, 0, none⟩ = some (.int .i64 t.f0) := blk_cell HGr.out 0
      have hg1 : wr.cell? ⟨gt, 1, none⟩ = some (.int .i64 t.f1) := blk_cell HGr.out 1
      have hg2 : wr.cell? ⟨gt, 2, none⟩ = some (.int .i64 t.f2) := blk_cell HGr.out 2
      have hg3 : wr.cell? ⟨gt, 3, none⟩ = some (.string t.f3.f0) := blk_cell HGr.out 3
      have hg4 : wr.cell? ⟨gt, 4, none⟩ = some (.int .i64 t.f3.f1) := blk_cell HGr.out 4
      have hg5 : wr.cell? ⟨gt, 5, none⟩ = some (.int .i64 t.f3.f2) := blk_cell HGr.out 5
      have hg6 : wr.cell? ⟨gt, 6, none⟩ = some (.int .i64 t.f3.f3) := blk_cell HGr.out 6
      have hg7 : wr.cell? ⟨gt, 7, none⟩ = some (.int .i64 t.f4) := blk_cell HGr.out 7
      have hg8 : wr.cell? ⟨gt, 8, none⟩ = some (.int .i64 t.f5) := blk_cell HGr.out 8
      have hg9 : wr.cell? ⟨gt, 9, none⟩ = some (.string t.f6.f0) := blk_cell HGr.out 9
      have hg10 : wr.cell? ⟨gt, 10, none⟩ = some (.string t.f6.f1) := blk_cell HGr.out 10
      have hg11 : wr.cell? ⟨gt, 11, none⟩ = some (.string t.f7.f0) := blk_cell HGr.out 11
      have hg12 : wr.cell? ⟨gt, 12, none⟩ = some (.string t.f7.f1) := blk_cell HGr.out 12
      go_wp2_with fail
      refine bodyPost_ret (results_ct rfl _ _ w.heap.size 30 #[.int .i64 t.f0, .int .i64 t.f1, .int .i64 t.f2, .string t.f3.f0, .int .i64 t.f3.f1, .int .i64 t.f3.f2, .int .i64 t.f3.f3, .int .i64 t.f4, .int .i64 t.f5, .string t.f6.f0, .string t.f6.f1, .string t.f7.f0, .string t.f7.f1] (0, 0) _ rfl (blk_put (cs := #[.int .i64 t.f0, .int .i64 t.f1, .int .i64 t.f2, .string t.f3.f0, .int .i64 t.f3.f1, .int .i64 t.f3.f2, .int .i64 t.f3.f3, .int .i64 t.f4, .int .i64 t.f5, .string t.f6.f0, .string t.f6.f1, .string t.f7.f0, .string (⟨#[]⟩ : ByteArray)]) (blk_put (cs := #[.int .i64 t.f0, .int .i64 t.f1, .int .i64 t.f2, .string t.f3.f0, .int .i64 t.f3.f1, .int .i64 t.f3.f2, .int .i64 t.f3.f3, .int .i64 t.f4, .int .i64 t.f5, .string t.f6.f0, .string t.f6.f1, .string (⟨#[]⟩ : ByteArray), .string (⟨#[]⟩ : ByteArray)]) (blk_put (cs := #[.int .i64 t.f0, .int .i64 t.f1, .int .i64 t.f2, .string t.f3.f0, .int .i64 t.f3.f1, .int .i64 t.f3.f2, .int .i64 t.f3.f3, .int .i64 t.f4, .int .i64 t.f5, .string t.f6.f0, .string (⟨#[]⟩ : ByteArray), .string (⟨#[]⟩ : ByteArray), .string (⟨#[]⟩ : ByteArray)]) (blk_put (cs := #[.int .i64 t.f0, .int .i64 t.f1, .int .i64 t.f2, .string t.f3.f0, .int .i64 t.f3.f1, .int .i64 t.f3.f2, .int .i64 t.f3.f3, .int .i64 t.f4, .int .i64 t.f5, .string (⟨#[]⟩ : ByteArray), .string (⟨#[]⟩ : ByteArray), .string (⟨#[]⟩ : ByteArray), .string (⟨#[]⟩ : ByteArray)]) (blk_put (cs := #[.int .i64 t.f0, .int .i64 t.f1, .int .i64 t.f2, .string t.f3.f0, .int .i64 t.f3.f1, .int .i64 t.f3.f2, .int .i64 t.f3.f3, .int .i64 t.f4, .int .i64 0, .string (⟨#[]⟩ : ByteArray), .string (⟨#[]⟩ : ByteArray), .string (⟨#[]⟩ : ByteArray), .string (⟨#[]⟩ : ByteArray)]) (blk_put (cs := #[.int .i64 t.f0, .int .i64 t.f1, .int .i64 t.f2, .string t.f3.f0, .int .i64 t.f3.f1, .int .i64 t.f3.f2, .int .i64 t.f3.f3, .int .i64 0, .int .i64 0, .string (⟨#[]⟩ : ByteArray), .string (⟨#[]⟩ : ByteArray), .string (⟨#[]⟩ : ByteArray), .string (⟨#[]⟩ : ByteArray)]) (blk_put (cs := #[.int .i64 t.f0, .int .i64 t.f1, .int .i64 t.f2, .string t.f3.f0, .int .i64 t.f3.f1, .int .i64 t.f3.f2, .int .i64 0, .int .i64 0, .int .i64 0, .string (⟨#[]⟩ : ByteArray), .string (⟨#[]⟩ : ByteArray), .string (⟨#[]⟩ : ByteArray), .string (⟨#[]⟩ : ByteArray)]) (blk_put (cs := #[.int .i64 t.f0, .int .i64 t.f1, .int .i64 t.f2, .string t.f3.f0, .int .i64 t.f3.f1, .int .i64 0, .int .i64 0, .int .i64 0, .int .i64 0, .string (⟨#[]⟩ : ByteArray), .string (⟨#[]⟩ : ByteArray), .string (⟨#[]⟩ : ByteArray), .string (⟨#[]⟩ : ByteArray)]) (blk_put (cs := #[.int .i64 t.f0, .int .i64 t.f1, .int .i64 t.f2, .string t.f3.f0, .int .i64 0, .int .i64 0, .int .i64 0, .int .i64 0, .int .i64 0, .string (⟨#[]⟩ : ByteArray), .string (⟨#[]⟩ : ByteArray), .string (⟨#[]⟩ : ByteArray), .string (⟨#[]⟩ : ByteArray)]) (blk_put (cs := #[.int .i64 t.f0, .int .i64 t.f1, .int .i64 t.f2, .string (⟨#[]⟩ : ByteArray), .int .i64 0, .int .i64 0, .int .i64 0, .int .i64 0, .int .i64 0, .string (⟨#[]⟩ : ByteArray), .string (⟨#[]⟩ : ByteArray), .string (⟨#[]⟩ : ByteArray), .string (⟨#[]⟩ : ByteArray)]) (blk_put (cs := #[.int .i64 t.f0, .int .i64 t.f1, .int .i64 0, .string (⟨#[]⟩ : ByteArray), .int .i64 0, .int .i64 0, .int .i64 0, .int .i64 0, .int .i64 0, .string (⟨#[]⟩ : ByteArray), .string (⟨#[]⟩ : ByteArray), .string (⟨#[]⟩ : ByteArray), .string (⟨#[]⟩ : ByteArray)]) (blk_put (cs := #[.int .i64 t.f0, .int .i64 0, .int .i64 0, .string (⟨#[]⟩ : ByteArray), .int .i64 0, .int .i64 0, .int .i64 0, .int .i64 0, .int .i64 0, .string (⟨#[]⟩ : ByteArray), .string (⟨#[]⟩ : ByteArray), .string (⟨#[]⟩ : ByteArray), .string (⟨#[]⟩ : ByteArray)]) (blk_put (cs := #[.int .i64 0, .int .i64 0, .int .i64 0, .string (⟨#[]⟩ : ByteArray), .int .i64 0, .int .i64 0, .int .i64 0, .int .i64 0, .int .i64 0, .string (⟨#[]⟩ : ByteArray), .string (⟨#[]⟩ : ByteArray), .string (⟨#[]⟩ : ByteArray), .string (⟨#[]⟩ : ByteArray)]) (HZr.out) 0 _ rfl) 1 _ rfl) 2 _ rfl) 3 _ rfl) 4 _ rfl) 5 _ rfl) 6 _ rfl) 7 _ rfl) 8 _ rfl) 9 _ rfl) 10 _ rfl) 11 _ rfl) 12 _ rfl) Tryz.underlying30 rfl (by kernel_rfl)) rfl ⟨rfl, ?_⟩
      exact (Below.setCell (Below.setCell (Below.setCell (Below.setCell (Below.setCell (Below.setCell (Below.setCell (Below.setCell (Below.setCell (Below.setCell (Below.setCell (Below.setCell (Below.setCell HBr.out (p := ⟨w.heap.size, 0, none⟩) (by first | exact Nat.le_refl _ | exact Nat.le_succ _) _) (p := ⟨w.heap.size, 1, none⟩) (by first | exact Nat.le_refl _ | exact Nat.le_succ _) _) (p := ⟨w.heap.size, 2, none⟩) (by first | exact Nat.le_refl _ | exact Nat.le_succ _) _) (p := ⟨w.heap.size, 3, none⟩) (by first | exact Nat.le_refl _ | exact Nat.le_succ _) _) (p := ⟨w.heap.size, 4, none⟩) (by first | exact Nat.le_refl _ | exact Nat.le_succ _) _) (p := ⟨w.heap.size, 5, none⟩) (by first | exact Nat.le_refl _ | exact Nat.le_succ _) _) (p := ⟨w.heap.size, 6, none⟩) (by first | exact Nat.le_refl _ | exact Nat.le_succ _) _) (p := ⟨w.heap.size, 7, none⟩) (by first | exact Nat.le_refl _ | exact Nat.le_succ _) _) (p := ⟨w.heap.size, 8, none⟩) (by first | exact Nat.le_refl _ | exact Nat.le_succ _) _) (p := ⟨w.heap.size, 9, none⟩) (by first | exact Nat.le_refl _ | exact Nat.le_succ _) _) (p := ⟨w.heap.size, 10, none⟩) (by first | exact Nat.le_refl _ | exact Nat.le_succ _) _) (p := ⟨w.heap.size, 11, none⟩) (by first | exact Nat.le_refl _ | exact Nat.le_succ _) _) (p := ⟨w.heap.size, 12, none⟩) (by first | exact Nat.le_refl _ | exact Nat.le_succ _) _)
theorem trade_Parse.calls (k : Nat) (a0 : ByteArray) (r1 r2 r3 : Int) (r4 : ByteArray) (r5 r6 r7 r8 r9 : Int) (r10 r11 r12 r13 : ByteArray) (r14 : Int) (w : World) (h : trade_Parse.f k a0 = some (r1, r2, r3, r4, r5, r6, r7, r8, r9, r10, r11, r12, r13, r14)) (hGL : GlobD w) :
    Calls Tryz.prog 10 #[.string a0] w fun e w' => e = .returned (.tuple #[.agg #[.int .i64 r1, .int .i64 r2, .int .i64 r3, .string r4, .int .i64 r5, .int .i64 r6, .int .i64 r7, .int .i64 r8, .int .i64 r9, .string r10, .string r11, .string r12, .string r13], .int .i64 r14]) ∧ Below w.heap.size w w' := by
  unfold trade_Parse.f at h
  obtain ⟨p, hp, h⟩ := Option.bind_eq_some_iff.1 h
  simp only [Option.some.injEq, Prod.mk.injEq] at h
  obtain ⟨rfl, rfl, rfl, rfl, rfl, rfl, rfl, rfl, rfl, rfl, rfl, rfl, rfl, rfl⟩ := h
  exact parse_core k a0 p w hp hGL
def decL : Nat → Int → List Int → List Int
  | 0, _, acc => acc
  | k + 1, u, acc => if u / 10 = 0 then (48 + u % 10) :: acc else decL k (u / 10) ((48 + u % 10) :: acc)
def words_decimal.f (a0 : Int) : Option ByteArray := if 0 ≤ a0 ∧ a0 < 18446744073709551616 then some (strOfNums (decL 20 a0 [])) else none
theorem dec_u (x : Int) (h0 : 0 ≤ x) (h1 : x < 18446744073709551616) : IntKind.u64.wrap x = x := by
  simp only [IntKind.wrap, IntKind.bits, IntKind.signed, Bool.false_and, Bool.false_eq_true, if_false]
  omega
set_option maxHeartbeats 1600000 in
set_option maxRecDepth 100000 in
theorem words_decimal.calls (a0 : Int) (r : ByteArray) (w : World) (h : words_decimal.f a0 = some r) :
    Calls Tryz.prog 49 #[.int .u64 a0] w fun e w' => e = .returned (.string r) ∧ Below w.heap.size w w' := by
  unfold words_decimal.f at h
  by_cases c : 0 ≤ a0 ∧ a0 < 18446744073709551616
  case neg => rw [if_neg c] at h; cases h
  rw [if_pos c] at h
  have HH := Aside0.mk (Option.some.inj h)
  have HC := Aside0.mk c
  clear h c
  go_enter Tryz.func49, Tryz.ntmps49
  go_wp2_with fail
  go_loopg [0, 4] 20 (fun kq v0 v4 wr => ∃ (u : Int) (acc : List Int) (xs : Array Value), v0 = .int .u64 u ∧ v4 = .int .i64 (kq : Int) ∧ Aside0 (1 ≤ kq ∧ kq ≤ 20 ∧ 0 ≤ u ∧ u < 10 ^ kq ∧ u < 18446744073709551616) ∧ Aside0 (strOfNums (decL kq u acc) = r) ∧ Aside0 (acc.length + kq = 20 ∧ xs.size = 20 ∧ ∀ j, kq ≤ j → j < 20 → xs[j]? = some (.int .u8 (acc.getD (j - kq) 0))) ∧ Aside0 (wr.heap[w.heap.size]? = some (.cells xs 129 (0, 0))) ∧ Aside0 (Below w.heap.size w wr))
  case atStart => exact ⟨a0, [], _, rfl, rfl, ⟨by have := HC.out; omega⟩, HH, ⟨rfl, rfl, fun j h1 h2 => by omega⟩, ⟨blk_new _ _⟩, ⟨below_alloc (Below.refl _ _) _⟩⟩
  case round =>
    obtain ⟨u, acc, xs, rfl, rfl, HU, HF, HX, HL, HB⟩ := hrel
    cases gk with
    | zero => exact absurd HU.out.1 (by omega)
    | succ k =>
      have hat : ((k + 1 : Nat) : Int) - 1 = (k : Int) := by omega
      have hf := fun q => blk_frozen HL.out q
      have hk0 : (0 : Int) ≤ (k : Int) := by omega
      have hk1 : (k : Int) < 20 := by have := HU.out.2.1; omega
      have HK := Aside0.mk hk1
      have hm : Int.tmod u 10 = u % 10 := Int.tmod_eq_emod_of_nonneg HU.out.2.2.1
      have hq : Int.tdiv u 10 = u / 10 := Int.tdiv_eq_ediv_of_nonneg HU.out.2.2.1
      have hwm : IntKind.u64.wrap (u % 10) = u % 10 := dec_u _ (by omega) (by omega)
      have hwa : IntKind.u64.wrap (48 + u % 10) = 48 + u % 10 := dec_u _ (by omega) (by omega)
      have hwq : IntKind.u64.wrap (u / 10) = u / 10 := dec_u _ (by have := HU.out.2.2.1; omega) (by have := HU.out.2.2; omega)
      have hw8 : IntKind.u8.wrap (48 + u % 10) = 48 + u % 10 := by
        simp only [IntKind.wrap, IntKind.bits, IntKind.signed, Bool.false_and, Bool.false_eq_true, if_false]
        omega
      obtain ⟨v0, hc0⟩ : ∃ v0, wr.cell? ⟨w.heap.size, k, none⟩ = some v0 := by
        rw [blk_cell HL.out k]
        exact ⟨_, Array.getElem?_eq_getElem (by have := HX.out.2.1; omega)⟩
      have hX := HX.out
      have hset : ∀ j, k ≤ j → j < 20 → (xs.setIfInBounds k (.int .u8 (48 + u % 10)))[j]? = some (.int .u8 (((48 + u % 10) :: acc).getD (j - k) 0)) := by
        intro j h1 h2
        rw [Array.getElem?_setIfInBounds]
        by_cases hj : k = j
        · subst hj
          simp [show k < xs.size by omega]
        · rw [if_neg hj, hX.2.2 j (by omega) h2, show j - k = (j - (k + 1)) + 1 by omega, List.getD_cons_succ]
      have HS := Aside0.mk hset
      have hfr : (wr.setCell ⟨w.heap.size, k, none⟩ (.int .u8 (48 + u % 10))).heap[w.heap.size]? = some (.cells (xs.setIfInBounds k (.int .u8 (48 + u % 10))) 129 (0, 0)) := blk_set HL.out k _
      have HR := Aside0.mk hfr
      have hsl : ∀ W : World, (Instr.sliceAt 129 (.pointer (some ⟨w.heap.size, 0, none⟩)) (some (.int .i64 (k : Int))) none none).run Tryz.prog W = .ok (.slice (some ⟨w.heap.size, k, none⟩) (20 - k) (20 - k)) W := by
        intro W
        have hal : Tryz.prog.arrayLen 129 = 20 := by kernel_rfl
        rw [run_sliceAt_array_l W 129 _ Tryz.underlying129 .i64 (k : Int) hk0 (by rw [hal]; omega)]
        have hne : ¬ (20 = k) := by omega
        simp only [hal, Int.toNat_natCast, slicedAt, if_neg hne]
        go_simp
      have hcv : (convert 96 9 (.slice (some ⟨w.heap.size, k, none⟩) (20 - k) (20 - k))).run Tryz.prog (wr.setCell ⟨w.heap.size, k, none⟩ (.int .u8 (48 + u % 10))) = .ok (.string (strOfNums ((48 + u % 10) :: acc))) (wr.setCell ⟨w.heap.size, k, none⟩ (.int .u8 (48 + u % 10))) := by
        refine run_convert_bytes_arg _ 96 5 Tryz.underlying96 Tryz.underlying5 _ k _ _ _ (by simp only [List.length_cons]; omega) (fun i hi => ?_) 9 Tryz.underlying9
        rw [blk_cell hfr (k + i), hset (k + i) (by omega) (by omega), show k + i - k = i by omega]
      clear hfr hset hX
      by_cases c1 : u / 10 = 0
      · have c1b := beq_iff_eq.2 c1
        have HC1 := Aside0.mk c1
        clear c1
        go_wp2_with fail
        go_ret
        refine ⟨?_, ?_⟩
        · have h2 := HF.out
          unfold decL at h2
          rw [if_pos HC1.out] at h2
          rw [← h2]
          rfl
        · exact Below.setCell HB.out (p := ⟨w.heap.size, k, none⟩) (Nat.le_refl _) _
      · have c1b := beq_eq_false_iff_ne.2 c1
        have HC1 := Aside0.mk c1
        clear c1
        go_wp2_with fail
        go_roundg k
        case measure => omega
        case rel =>
          refine ⟨u / 10, (48 + u % 10) :: acc, _, rfl, rfl, ⟨?_⟩, ⟨?_⟩, ⟨?_, ?_, HS.out⟩, HR, ⟨Below.setCell HB.out (p := ⟨w.heap.size, k, none⟩) (Nat.le_refl _) _⟩⟩
          · have h1 := HU.out
            have h2 := HC1.out
            have h3 : k ≠ 0 := by
              intro h
              subst h
              have := h1.2.2.2.1
              simp at this
              omega
            refine ⟨by omega, by omega, by omega, ?_, by omega⟩
            have h4 := h1.2.2.2.1
            rw [Int.pow_succ] at h4
            generalize (10 : Int) ^ k = p at h4 ⊢
            omega
          · have h2 := HF.out
            unfold decL at h2
            rw [if_neg HC1.out] at h2
            exact h2
          · have := HX.out.1
            simp only [List.length_cons]
            omega
          · rw [Array.size_setIfInBounds]
            exact HX.out.2.1
def words_size.f (a0 : Int) : Option (Int × ByteArray) := if a0 < 0 then (some (IntKind.u64.wrap (-(IntKind.u64.wrap (a0))), (⟨#[45]⟩ : ByteArray))) else (some (IntKind.u64.wrap (a0), (⟨#[]⟩ : ByteArray)))
set_option maxHeartbeats 8000000 in
set_option maxRecDepth 100000 in
theorem words_size.calls (a0 : Int) (r1 : Int) (r2 : ByteArray) (w : World) (h : words_size.f a0 = some (r1, r2)) :
    Calls Tryz.prog 48 #[.int .i64 a0] w fun e w' => e = .returned (.tuple #[.int .u64 r1, .string r2]) ∧ Drawn0 w w' := by
  have H : (if a0 < 0 then (some (IntKind.u64.wrap (-(IntKind.u64.wrap (a0))), (⟨#[45]⟩ : ByteArray))) else (some (IntKind.u64.wrap (a0), (⟨#[]⟩ : ByteArray)))) = some (r1, r2) := h
  clear h
  by_cases c2 : a0 < 0
  · rw [if_pos c2] at H
    have c2b0 := decide_eq_true c2
    clear c2
    simp only [Option.some.injEq, Prod.mk.injEq] at H
    obtain ⟨rfl, rfl⟩ := H
    go_enter Tryz.func48, Tryz.ntmps48
    go_wp2
    go_ret2
    exact ⟨eqs, drz⟩
  · rw [if_neg c2] at H
    have c2b0 := decide_eq_false c2
    clear c2
    simp only [Option.some.injEq, Prod.mk.injEq] at H
    obtain ⟨rfl, rfl⟩ := H
    go_enter Tryz.func48, Tryz.ntmps48
    go_wp2
    go_ret2
    exact ⟨eqs, drz⟩
def strings_Join.f (l : List ByteArray) (sep : ByteArray) : Option ByteArray := if (Lib.join (l.map (·.data.toList)) sep.data.toList).length ≤ 140737488355328 ∧ l.length ≤ 140737488355328 then some ⟨(Lib.join (l.map (·.data.toList)) sep.data.toList).toArray⟩ else none
theorem strings_Join.calls (A0 : Option Addr) (c0 : Nat) (l0 : List ByteArray) (a1 : ByteArray) (r : ByteArray) (w : World) (hr0 : Kd.C Kd.string w A0 l0.length l0) (hc0 : l0.length ≤ c0) (h : strings_Join.f l0 a1 = some r) :
    Calls Tryz.prog 69 #[.slice A0 l0.length c0, .string a1] w fun e w' => e = .returned (.string r) ∧ Below w.heap.size w w' := by
  unfold strings_Join.f at h
  by_cases c : (Lib.join (l0.map (·.data.toList)) a1.data.toList).length ≤ 140737488355328 ∧ l0.length ≤ 140737488355328
  case neg => rw [if_neg c] at h; cases h
  rw [if_pos c] at h
  obtain rfl := Option.some.inj h
  cases l0 with
  | nil =>
    refine (Go.Proofs.Tryz.strings_Join_none A0 c0 a1 w).mono ?_
    rintro e w' ⟨rfl, rfl⟩
    exact ⟨rfl, Below.refl _ _⟩
  | cons x l =>
    obtain ⟨ad, e0, hx0⟩ := Kd.at_string hr0 (0 : Int) (by omega) (by simp)
    subst e0
    obtain ⟨bk, o, t⟩ := ad
    have ht : t = none := by
      cases t with
      | none => rfl
      | some z =>
        exfalso
        have h1 : w.cell? ⟨bk, o, some z⟩ = some (.string (rdOf ByteArray.empty (x :: l) 0)) := hx0
        unfold World.cell? at h1
        split at h1 <;> simp at h1
    subst ht
    have hadd : ∀ j, (⟨bk, o, none⟩ : Addr).add j = ⟨bk, o + j, none⟩ := fun j => by unfold Addr.add; split <;> simp_all
    refine (Go.Proofs.Tryz.strings_Join bk o c0 (x :: l) a1 w (fun j y hj => ?_) (World.block_lt_of_cell? w _ hx0) c.2 hc0 c.1).mono ?_
    · have hjl : j < (x :: l).length := (List.getElem?_eq_some_iff.1 hj).1
      obtain ⟨ad2, e2, hx2⟩ := Kd.at_string hr0 (j : Int) (by omega) (by omega)
      cases e2
      rw [hadd, Int.toNat_natCast] at hx2
      rw [hx2]
      have : rdOf ByteArray.empty (x :: l) (j : Int) = y := by
        simp only [rdOf, Int.toNat_natCast, List.getD_eq_getElem?_getD, hj, Option.getD_some]
      rw [this]
    · rintro e w' ⟨rfl, hb⟩
      exact ⟨rfl, hb⟩
def words_together.f (a0 : ByteArray) (l1 : List ByteArray) : Option (ByteArray) := (strings_Join.f l1 a0).bind fun t101 => (some t101)
set_option maxHeartbeats 8000000 in
set_option maxRecDepth 100000 in
theorem words_together.calls (a0 : ByteArray) (A1 : Option Addr) (c1 : Nat) (l1 : List ByteArray) (r : ByteArray) (w : World) (hr1 : Kd.C Kd.string w A1 l1.length l1) (hc1 : l1.length ≤ c1) (h : words_together.f a0 l1 = some r) :
    Calls Tryz.prog 36 #[.string a0, .slice A1 l1.length c1] w fun e w' => e = .returned (.string r) ∧ Below w.heap.size w w' := by
  have HR1 := Aside0.mk hr1
  have HC1 := Aside0.mk hc1
  clear hr1 hc1
  have HB := Aside0.mk (Below.refl w.heap.size w)
  have H : ((strings_Join.f l1 a0).bind fun t101 => (some t101)) = some r := h
  clear h
  replace H := bnd H
  obtain ⟨t101, A30, H⟩ := H
  have A3 := Aside0.mk A30
  clear A30
  obtain rfl := Option.some.inj H
  go_enter Tryz.func36, Tryz.ntmps36
  go_wp2_with (first | ((with_reducible refine gate_callee (f := 69) rfl ?_); refine goesL_ (some 7) rfl rfl Tryz.func69 (by kernel_rfl) rfl #[.slice A1 l1.length c1, .string a0] rfl arg ?_; (with_reducible refine (strings_Join.calls _ _ l1 a0 t101 _ ?side1 ?side2 A3.out).mono ?_); (case side1 => repeat (first | exact HR1.out | (with_reducible refine Kd.C_alloc ?_ _) | (with_reducible refine Kd.C_drewN ?_ _) | (with_reducible refine Kd.C_drew ?_))); (case side2 => exact HC1.out); rintro e w4 ⟨rfl, hb⟩; refine ⟨_, rfl, ?_⟩; replace HB := Aside0.mk (below_step bel hb); (try clear hb); (try clear hb2); (try clear hk); (try clear hi)))
  go_ret
  exact ⟨ers, bel⟩
def words_Money.f (a0 : Int) : Option (ByteArray) := (words_size.f a0).bind fun bt101 => ((words_decimal.f (IntKind.u64.wrap (Int.tdiv bt101.1 100))).bind fun t103 => ((words_decimal.f (Int.tmod (IntKind.u64.wrap (Int.tdiv bt101.1 10)) 10)).bind fun t104 => ((words_decimal.f (Int.tmod bt101.1 10)).bind fun t105 => ((words_together.f (⟨#[]⟩ : ByteArray) (([bt101.2, t103, (⟨#[46]⟩ : ByteArray), t104, t105] : List ByteArray))).bind fun t109 => (some t109)))))
set_option maxHeartbeats 8000000 in
set_option maxRecDepth 100000 in
theorem words_Money.calls (a0 : Int) (r : ByteArray) (w : World) (h : words_Money.f a0 = some r) :
    Calls Tryz.prog 19 #[.int .i64 a0] w fun e w' => e = .returned (.string r) ∧ Below w.heap.size w w' := by
  have HB := Aside0.mk (Below.refl w.heap.size w)
  have H : ((words_size.f a0).bind fun bt101 => ((words_decimal.f (IntKind.u64.wrap (Int.tdiv bt101.1 100))).bind fun t103 => ((words_decimal.f (Int.tmod (IntKind.u64.wrap (Int.tdiv bt101.1 10)) 10)).bind fun t104 => ((words_decimal.f (Int.tmod bt101.1 10)).bind fun t105 => ((words_together.f (⟨#[]⟩ : ByteArray) (([bt101.2, t103, (⟨#[46]⟩ : ByteArray), t104, t105] : List ByteArray))).bind fun t109 => (some t109)))))) = some r := h
  clear h
  replace H := bnd H
  obtain ⟨⟨t101, t102⟩, A20, H⟩ := H
  replace H : ((words_decimal.f (IntKind.u64.wrap (Int.tdiv t101 100))).bind fun t103 => ((words_decimal.f (Int.tmod (IntKind.u64.wrap (Int.tdiv t101 10)) 10)).bind fun t104 => ((words_decimal.f (Int.tmod t101 10)).bind fun t105 => ((words_together.f (⟨#[]⟩ : ByteArray) (([t102, t103, (⟨#[46]⟩ : ByteArray), t104, t105] : List ByteArray))).bind fun t109 => (some t109))))) = some r := H
  have A2 := Aside0.mk A20
  clear A20
  replace H := bnd H
  obtain ⟨t103, A30, H⟩ := H
  have A3 := Aside0.mk A30
  clear A30
  replace H := bnd H
  obtain ⟨t104, A40, H⟩ := H
  have A4 := Aside0.mk A40
  clear A40
  replace H := bnd H
  obtain ⟨t105, A50, H⟩ := H
  have A5 := Aside0.mk A50
  clear A50
  obtain ⟨y106, hy106⟩ : ∃ y_ : List ByteArray, y_ = (([t102, t103, (⟨#[46]⟩ : ByteArray), t104, t105] : List ByteArray)) := ⟨_, rfl⟩
  replace H : ((words_together.f (⟨#[]⟩ : ByteArray) y106).bind fun t109 => (some t109)) = some r := by first | (rw [hy106]; with_reducible exact H) | (have H2_ := (Option.bind_some _ _).symm.trans H; rw [hy106]; with_reducible exact H2_) | (have H2_ := (Option.bind_some _ _).symm.trans H; with_reducible exact H2_) | with_reducible exact H | (rw [hy106]; exact H) | exact H
  have Ny106 := Aside0.mk hy106
  clear hy106
  replace H := bnd H
  obtain ⟨t109, A60, H⟩ := H
  have A6 := Aside0.mk A60
  clear A60
  obtain rfl := Option.some.inj H
  go_enter Tryz.func19, Tryz.ntmps19
  go_wp2_with (first | ((with_reducible refine gate_callee (f := 48) rfl ?_); refine goesL_ (some 7) rfl rfl Tryz.func48 (by kernel_rfl) rfl #[.int .i64 a0] rfl arg ?_; (with_reducible refine (words_size.calls a0 t101 t102 _ A2.out).mono ?_); rintro e w' ⟨rfl, ⟨nd, rfl⟩⟩; refine ⟨_, rfl, ?_⟩) | ((with_reducible refine gate_callee (f := 49) rfl ?_); refine goesL_ (some 13) rfl rfl Tryz.func49 (by kernel_rfl) rfl #[.int .u64 (IntKind.u64.wrap (Int.tdiv t101 100))] rfl arg ?_; (with_reducible refine (words_decimal.calls (IntKind.u64.wrap (Int.tdiv t101 100)) t103 _ A3.out).mono ?_); rintro e w7 ⟨rfl, hb⟩; refine ⟨_, rfl, ?_⟩; replace HB := Aside0.mk (below_step bel hb); (try clear hb); (try clear hb2); (try clear hk); (try clear hi)) | ((with_reducible refine gate_callee (f := 49) rfl ?_); refine goesL_ (some 17) rfl rfl Tryz.func49 (by kernel_rfl) rfl #[.int .u64 (Int.tmod (IntKind.u64.wrap (Int.tdiv t101 10)) 10)] rfl arg ?_; (with_reducible refine (words_decimal.calls (Int.tmod (IntKind.u64.wrap (Int.tdiv t101 10)) 10) t104 _ A4.out).mono ?_); rintro e w8 ⟨rfl, hb⟩; refine ⟨_, rfl, ?_⟩; replace HB := Aside0.mk (below_step bel hb); (try clear hb); (try clear hb2); (try clear hk); (try clear hi)) | ((with_reducible refine gate_callee (f := 49) rfl ?_); refine goesL_ (some 20) rfl rfl Tryz.func49 (by kernel_rfl) rfl #[.int .u64 (Int.tmod t101 10)] rfl arg ?_; (with_reducible refine (words_decimal.calls (Int.tmod t101 10) t105 _ A5.out).mono ?_); rintro e w9 ⟨rfl, hb⟩; refine ⟨_, rfl, ?_⟩; replace HB := Aside0.mk (below_step bel hb); (try clear hb); (try clear hb2); (try clear hk); (try clear hi)) | ((with_reducible refine gate_dst (N := 21) rfl ?_); refine Kd.R_lit Kd.string _ 9 ?hg (N := 21) ?hd (xs := ([t102, t103, (⟨#[46]⟩ : ByteArray), t104, t105] : List ByteArray)) (inner := [.string t102, .string t103, .string (⟨#[46]⟩ : ByteArray), .string t104, .string t105]) (ok := fun _ => True) (okp := fun _ => True) ?hr ?hp (fun _ hk => hk) trivial (Below.refl _ _) (Nat.le_refl _) (by simp) ?_; (case hd => rfl); (case hg => rfl); (case hr => first | (go_simp; done) | (go_simp; rfl)); (case hp => exact (Reps.one (show Kd.M Kd.string _ _ _ t102 [.string t102] from rfl) (Reps.one (show Kd.M Kd.string _ _ _ t103 [.string t103] from rfl) (Reps.one (show Kd.M Kd.string _ _ _ (⟨#[46]⟩ : ByteArray) [.string (⟨#[46]⟩ : ByteArray)] from rfl) (Reps.one (show Kd.M Kd.string _ _ _ t104 [.string t104] from rfl) (Reps.one (show Kd.M Kd.string _ _ _ t105 [.string t105] from rfl) (Reps.none _ _))))))); intro v107 w10 ho11 hb hg_ hnew_; clear hg_ hnew_; (first | rw [← Ny106.out] at ho11 | (simp only [Int.reduceToNat] at ho11; rw [← Ny106.out] at ho11)); have HO108 := Aside0.mk (Kd.R_lower ho11 (below_size bel)); replace HB := Aside0.mk (below_step bel hb); clear hb ho11; obtain ⟨Ao12, co12, eo12⟩ := Kd.R_slice HO108.out; subst eo12) | ((with_reducible refine gate_callee (f := 36) rfl ?_); refine goesL_ (some 22) rfl rfl Tryz.func36 (by kernel_rfl) rfl #[.string (⟨#[]⟩ : ByteArray), .slice Ao12 y106.length co12] rfl arg ?_; (with_reducible refine (words_together.calls (⟨#[]⟩ : ByteArray) _ _ y106 t109 _ ?side1 ?side2 A6.out).mono ?_); (case side1 => repeat (first | exact (Kd.R_reads' HO108.out).2.2 | (with_reducible refine Kd.C_alloc ?_ _) | (with_reducible refine Kd.C_drewN ?_ _) | (with_reducible refine Kd.C_drew ?_))); (case side2 => exact (Kd.R_reads' HO108.out).2.1); rintro e w13 ⟨rfl, hb⟩; refine ⟨_, rfl, ?_⟩; replace HO108 := Aside0.mk (Kd.R_below (kr HO108.out) hb); replace HB := Aside0.mk (below_step bel hb); (try clear hb); (try clear hb2); (try clear hk); (try clear hi)))
  go_ret
  exact ⟨ers, bel⟩
def contangotop_goes06.f (k : Nat)  : Option (Bool) := (trade_Parse.f k (⟨#[55, 32, 53, 32, 54, 48, 32, 111, 105, 108, 46, 50, 48, 48, 48, 48, 49, 50, 49, 46, 102, 32, 51, 32, 49, 53, 32, 97, 32, 120, 32, 98, 32, 121]⟩ : ByteArray)).bind fun bt101 => (if bt101.2.2.2.2.2.2.2.2.2.2.2.2.2 = 0 then (if bt101.1 = 7 then (if bt101.2.2.2.2.2.1 = 20 then ((series_Live.f bt101.2.2.2.1 bt101.2.2.2.2.1 bt101.2.2.2.2.2.1 bt101.2.2.2.2.2.2.1 20).bind fun t116 => (if t116 = true then ((series_Live.f bt101.2.2.2.1 bt101.2.2.2.2.1 bt101.2.2.2.2.2.1 bt101.2.2.2.2.2.2.1 21).bind fun t117 => (if t117 = true then (none) else ((words_Money.f (-120)).bind fun t118 => (some (t118.toList == ([45, 49, 46, 50, 48] : List UInt8)))))) else (none))) else (none)) else (none)) else (none))
theorem contangotop_goes06.mono : ∀ k, LeO (contangotop_goes06.f k ) (contangotop_goes06.f (k + 1) ) := by
  intro  k
  unfold contangotop_goes06.f
  repeat' first
      | (with_reducible exact trade_Parse.mono _ _)
      | (with_reducible exact LeO.refl _)
      | (with_reducible exact LeO.none _)
      | (with_reducible refine LeO.ite ?_ ?_)
      | (with_reducible refine LeO.bind ?_ (fun _ => ?_))
      | exact trade_Parse.mono _ _
      | exact LeO.none _
      | refine LeO.ite ?_ ?_
      | refine LeO.bind ?_ (fun _ => ?_)
set_option maxHeartbeats 8000000 in
set_option maxRecDepth 100000 in
theorem contangotop_goes06.calls (k : Nat)  (r : Bool) (w : World) (h : contangotop_goes06.f k  = some r) (hGL : GlobD w) :
    Calls Tryz.prog 5 #[] w fun e w' => e = .returned (.bool r) ∧ Below w.heap.size w w' := by
  have hu30 := Tryz.underlying30
  have hu26 := Tryz.underlying26
  have HB := Aside0.mk (Below.refl w.heap.size w)
  have HGL := Aside0.mk hGL
  clear hGL
  have H : ((trade_Parse.f k (⟨#[55, 32, 53, 32, 54, 48, 32, 111, 105, 108, 46, 50, 48, 48, 48, 48, 49, 50, 49, 46, 102, 32, 51, 32, 49, 53, 32, 97, 32, 120, 32, 98, 32, 121]⟩ : ByteArray)).bind fun bt101 => (if bt101.2.2.2.2.2.2.2.2.2.2.2.2.2 = 0 then (if bt101.1 = 7 then (if bt101.2.2.2.2.2.1 = 20 then ((series_Live.f bt101.2.2.2.1 bt101.2.2.2.2.1 bt101.2.2.2.2.2.1 bt101.2.2.2.2.2.2.1 20).bind fun t116 => (if t116 = true then ((series_Live.f bt101.2.2.2.1 bt101.2.2.2.2.1 bt101.2.2.2.2.2.1 bt101.2.2.2.2.2.2.1 21).bind fun t117 => (if t117 = true then (none) else ((words_Money.f (-120)).bind fun t118 => (some (t118.toList == ([45, 49, 46, 50, 48] : List UInt8)))))) else (none))) else (none)) else (none)) else (none))) = some r := h
  clear h
  replace H := bnd H
  obtain ⟨⟨t101, t102, t103, t104, t105, t106, t107, t108, t109, t110, t111, t112, t113, t114⟩, A10, H⟩ := H
  replace H : (if t114 = 0 then (if t101 = 7 then (if t106 = 20 then ((series_Live.f t104 t105 t106 t107 20).bind fun t116 => (if t116 = true then ((series_Live.f t104 t105 t106 t107 21).bind fun t117 => (if t117 = true then (none) else ((words_Money.f (-120)).bind fun t118 => (some (t118.toList == ([45, 49, 46, 50, 48] : List UInt8)))))) else (none))) else (none)) else (none)) else (none)) = some r := H
  have A1 := Aside0.mk A10
  clear A10
  by_cases c2 : t114 = 0
  · rw [if_pos c2] at H
    have c2b0 : (t114 == 0) = true := beq_iff_eq.mpr c2
    have c2b1 : (t114 != 0) = false := bne_eq_false_iff_eq.mpr c2
    clear c2
    by_cases c3 : t101 = 7
    · rw [if_pos c3] at H
      have c3b0 : (t101 == 7) = true := beq_iff_eq.mpr c3
      have c3b1 : (t101 != 7) = false := bne_eq_false_iff_eq.mpr c3
      clear c3
      by_cases c4 : t106 = 20
      · rw [if_pos c4] at H
        have c4b0 : (t106 == 20) = true := beq_iff_eq.mpr c4
        have c4b1 : (t106 != 20) = false := bne_eq_false_iff_eq.mpr c4
        clear c4
        replace H := bnd H
        obtain ⟨t116, A50, H⟩ := H
        have A5 := Aside0.mk A50
        clear A50
        by_cases c6 : t116 = true
        · subst c6
          rw [if_pos rfl] at H
          replace H := bnd H
          obtain ⟨t117, A70, H⟩ := H
          have A7 := Aside0.mk A70
          clear A70
          by_cases c8 : t117 = true
          · subst c8
            rw [if_pos rfl] at H
            exact absurd H (by simp)
          · replace c8 := Bool.eq_false_iff.mpr c8
            subst c8
            rw [if_neg (show ¬ (false = true) by decide)] at H
            replace H := bnd H
            obtain ⟨t118, A90, H⟩ := H
            have A9 := Aside0.mk A90
            clear A90
            obtain rfl := Option.some.inj H
            go_enter Tryz.func5, Tryz.ntmps5
            go_wp2_with (first | ((with_reducible refine gate_callee (f := 10) rfl ?_); refine goesL_ (some 4) rfl rfl Tryz.func10 (by kernel_rfl) rfl #[.string (⟨#[55, 32, 53, 32, 54, 48, 32, 111, 105, 108, 46, 50, 48, 48, 48, 48, 49, 50, 49, 46, 102, 32, 51, 32, 49, 53, 32, 97, 32, 120, 32, 98, 32, 121]⟩ : ByteArray)] rfl arg ?_; (with_reducible refine (trade_Parse.calls k (⟨#[55, 32, 53, 32, 54, 48, 32, 111, 105, 108, 46, 50, 48, 48, 48, 48, 49, 50, 49, 46, 102, 32, 51, 32, 49, 53, 32, 97, 32, 120, 32, 98, 32, 121]⟩ : ByteArray) t101 t102 t103 t104 t105 t106 t107 t108 t109 t110 t111 t112 t113 t114 _ A1.out (glob_of HGL.out bel)).mono ?_); rintro e w10 ⟨rfl, hb⟩; refine ⟨_, rfl, ?_⟩; replace HB := Aside0.mk (below_step bel hb); (try clear hb); (try clear hb2); (try clear hk); (try clear hi)) | ((with_reducible refine gate_dst (N := 1) rfl ?_); refine box_event ?hg (N := 1) ?hd (cs := #[.int .i64 0, .int .i64 0, .int .i64 0, .string (⟨#[]⟩ : ByteArray), .int .i64 0, .int .i64 0, .int .i64 0, .int .i64 0, .int .i64 0, .string (⟨#[]⟩ : ByteArray), .string (⟨#[]⟩ : ByteArray), .string (⟨#[]⟩ : ByteArray), .string (⟨#[]⟩ : ByteArray)]) (t := 30) ?hr ?_; (case hd => rfl); (case hg => rfl); (case hr => first | (go_simp; done) | (go_simp; rfl)); intro gb115 hg w11 hbox hb; have BK115 := Aside0.mk (hbox); have GW115 := Aside0.mk ((gsz hg : w.heap.size ≤ gb115)); have GE115 := Aside0.mk ((gsz hg : w.heap.size ≤ gb115)); replace HB := Aside0.mk (below_step bel hb); clear hb hbox hg; obtain ⟨hcz12_0, hcz12_1, hcz12_2, hcz12_3, hcz12_4, hcz12_5, hcz12_6, hcz12_7, hcz12_8, hcz12_9, hcz12_10, hcz12_11, hcz12_12, hfz12_0, hfz12_1, hfz12_2, hfz12_3, hfz12_4, hfz12_5, hfz12_6, hfz12_7, hfz12_8, hfz12_9, hfz12_10, hfz12_11, hfz12_12⟩ := cz13 BK115.out) | (go_at_call 18; (with_reducible refine (series_Live.calls t104 t105 t106 t107 20 true _ A5.out).mono ?_); rintro e w13 ⟨rfl, hb⟩; replace BK115 := Aside0.mk (blk_below (g := gb115) (o := .cells #[.int .i64 t101, .int .i64 t102, .int .i64 t103, .string t104, .int .i64 t105, .int .i64 t106, .int .i64 t107, .int .i64 t108, .int .i64 t109, .string t110, .string t111, .string t112, .string t113] 30 (0, 0)) (bs BK115.out) hb); replace HB := Aside0.mk (below_step bel hb); (try clear hb); (try clear hb2); (try clear hk); (try clear hi); obtain ⟨hcz14_0, hcz14_1, hcz14_2, hcz14_3, hcz14_4, hcz14_5, hcz14_6, hcz14_7, hcz14_8, hcz14_9, hcz14_10, hcz14_11, hcz14_12, hfz14_0, hfz14_1, hfz14_2, hfz14_3, hfz14_4, hfz14_5, hfz14_6, hfz14_7, hfz14_8, hfz14_9, hfz14_10, hfz14_11, hfz14_12⟩ := cz13 BK115.out) | (go_at_call 18; (with_reducible refine (series_Live.calls t104 t105 t106 t107 21 false _ A7.out).mono ?_); rintro e w15 ⟨rfl, hb⟩; replace BK115 := Aside0.mk (blk_below (g := gb115) (bw BK115.out) hb); replace HB := Aside0.mk (below_step bel hb); (try clear hb); (try clear hb2); (try clear hk); (try clear hi)) | (go_at_call 19; (with_reducible refine (words_Money.calls (-120) t118 _ A9.out).mono ?_); rintro e w16 ⟨rfl, hb⟩; replace BK115 := Aside0.mk (blk_below (g := gb115) (bw BK115.out) hb); replace HB := Aside0.mk (below_step bel hb); (try clear hb); (try clear hb2); (try clear hk); (try clear hi)))
            go_ret
            exact ⟨ers, bel⟩
        · replace c6 := Bool.eq_false_iff.mpr c6
          subst c6
          rw [if_neg (show ¬ (false = true) by decide)] at H
          exact absurd H (by simp)
      · rw [if_neg c4] at H
        exact absurd H (by simp)
    · rw [if_neg c3] at H
      exact absurd H (by simp)
  · rw [if_neg c2] at H
    exact absurd H (by simp)
def member_kind.f (a0 : Int) : Option (Bool) := if a0 ≥ 1 then (some (decide (a0 ≤ 3))) else (some false)
set_option maxHeartbeats 8000000 in
set_option maxRecDepth 100000 in
theorem member_kind.calls (a0 : Int) (r : Bool) (w : World) (h : member_kind.f a0 = some r) :
    Calls Tryz.prog 59 #[.int .i64 a0] w fun e w' => e = .returned (.bool r) ∧ Drawn0 w w' := by
  have H : (if a0 ≥ 1 then (some (decide (a0 ≤ 3))) else (some false)) = some r := h
  clear h
  by_cases c2 : a0 ≥ 1
  · rw [if_pos c2] at H
    have c2b0 : decide (1 ≤ a0) = true := decide_eq_true c2
    clear c2
    obtain rfl := Option.some.inj H
    go_enter Tryz.func59, Tryz.ntmps59
    go_wp2
    go_ret
    exact ⟨eqs, drz⟩
  · rw [if_neg c2] at H
    have c2b0 : decide (1 ≤ a0) = false := decide_eq_false c2
    clear c2
    obtain rfl := Option.some.inj H
    go_enter Tryz.func59, Tryz.ntmps59
    go_wp2
    go_ret
    exact ⟨eqs, drz⟩
def nameE (b : Bool) (i : Nat) (p x : ByteArray) : Int := if b = true then (if 0 < i ∧ Op.bytesLess p.toList x.toList = false then 12 else 0) else 10
def accE (k : Nat) (l : List S110) : List S110 → Nat → Option Int
  | [], _ => some 0
  | a :: r, i => (words_Name.f k a.f0).bind fun b => if nameE b i (rd_T110 l ((i : Int) - 1)).f0 a.f0 = 0 then (if 1 ≤ a.f1 ∧ a.f1 ≤ 3 then accE k l r (i + 1) else some 21) else some (nameE b i (rd_T110 l ((i : Int) - 1)).f0 a.f0)
def memE (k : Nat) (l : List S107) : List S107 → Nat → Option Int
  | [], _ => some 0
  | m :: r, i => (words_Name.f k m.f0).bind fun b => if nameE b i (rd_T107 l ((i : Int) - 1)).f0 m.f0 = 0 then (if 1 ≤ m.f1 ∧ m.f1 ≤ 4 then (if m.f2.length ≤ 16 then (accE k m.f2 m.f2 0).bind fun e => if e = 0 then memE k l r (i + 1) else some e else some 8) else some 13) else some (nameE b i (rd_T107 l ((i : Int) - 1)).f0 m.f0)
def member_Check.f (k : Nat) (l : List S107) : Option Int := if 32 < l.length then some 8 else memE k l l 0
set_option maxHeartbeats 1600000 in
set_option maxRecDepth 100000 in
theorem litMn (g c n : Nat) (ad : Addr) (i : Nat) (x : ByteArray) (w : World) (hg : w.heap[g]? = some (.cells #[.slice (some ad) n c] 24 (0, 0))) (hi : i < n) (hx : w.cell? (ad.add (i * 3)) = some (.string x)) :
    Calls Tryz.prog 57 #[.int .i64 (i : Int), .pointer (some ⟨g, 0, none⟩)] w fun e w' => e = .returned (.string x) ∧ Below w.heap.size w w' := by
  have hc0 : w.cell? ⟨g, 0, none⟩ = some (.slice (some ad) n c) := blk_cell hg 0
  have p0 := eq_true (show 0 ≤ (i : Int) by omega)
  have q0 := eq_true (show (i : Int) < (n : Int) by omega)
  clear hg hi
  go_enter Tryz.func57, Tryz.ntmps57
  go_wp2
  go_ret
  exact ⟨eqs, Below.refl _ _⟩
set_option maxHeartbeats 1600000 in
set_option maxRecDepth 100000 in
theorem nmM_calls (k : Nat) (g c n : Nat) (ad : Addr) (i : Nat) (x p : ByteArray) (b : Bool) (w : World) (hg : w.heap[g]? = some (.cells #[.slice (some ad) n c] 24 (0, 0))) (hn : n ≤ 4611686018427387904) (hi : i < n) (hx : w.cell? (ad.add (i * 3)) = some (.string x)) (hp : 0 < i → w.cell? (ad.add ((i - 1) * 3)) = some (.string p)) (hb : words_Name.f k x = some b) :
    Calls Tryz.prog 56 #[.func (.func 57) #[] #[.pointer (some ⟨g, 0, none⟩)], .int .i64 (i : Int)] w fun e w' => e = .returned (.int .i64 (nameE b i p x)) ∧ Below w.heap.size w w' := by
  have HG := Aside0.mk hg
  have HX := Aside0.mk hx
  have HN := Aside0.mk hb
  have HI := Aside0.mk hi
  have HB := Aside0.mk (Below.refl w.heap.size w)
  clear hg hx hb
  cases b with
  | false =>
    have HP := Aside0.mk hp
    clear hp hi hn
    go_enter Tryz.func56, Tryz.ntmps56
    go_wp2_with (first | (go_at_call 57; with_reducible refine (litMn g c n ad i x _ HG.out (by have := HI.out; omega) HX.out).mono ?_; rintro e1 w1 ⟨rfl, hb1⟩; have HB := Aside0.mk (below_step HB.out hb1); have HG := Aside0.mk (blk_below HG.out hb1); have HX := Aside0.mk ((hb1.cell (World.block_lt_of_cell? _ _ HX.out)).trans HX.out); have HP := Aside0.mk (fun hq => (hb1.cell (World.block_lt_of_cell? _ _ (HP.out hq))).trans (HP.out hq)); clear hb1) | (go_at_call 33; refine (words_Name.calls k x _ _ HN.out).mono ?_; rintro e1 w1 ⟨rfl, hd1⟩; have hb1 := hd1.below; have HB := Aside0.mk (below_step HB.out hb1); have HG := Aside0.mk (blk_below HG.out hb1); have HX := Aside0.mk ((hb1.cell (World.block_lt_of_cell? _ _ HX.out)).trans HX.out); have HP := Aside0.mk (fun hq => (hb1.cell (World.block_lt_of_cell? _ _ (HP.out hq))).trans (HP.out hq)); clear hb1 hd1))
    go_ret
    exact ⟨rfl, HB.out⟩
  | true =>
    by_cases h0 : 0 < i
    · obtain ⟨j, hj⟩ : ∃ j, j = i - 1 := ⟨_, rfl⟩
      have hgt := eq_true (show 0 < i from h0)
      have HW := Aside0.mk (show Go.RowKit.wrap64 ((i : Int) - 1) = (j : Int) by unfold wrap64; omega)
      have hw := HW.out
      have HP := Aside0.mk hp
      rw [← hj] at HP
      have HIJ := Aside0.mk h0
      have HI := Aside0.mk (show i < n ∧ j < n by omega)
      clear hp hj hn hi
      cases hl : Op.bytesLess p.toList x.toList with
      | true =>
        have HE := Aside0.mk (show nameE true i p x = 0 by unfold nameE; rw [if_pos rfl, if_neg (by rw [hl]; simp)])
        rw [HE.out]
        clear HE h0
        go_enter Tryz.func56, Tryz.ntmps56
        go_wp2_with (first | (go_at_call 57; with_reducible refine (litMn g c n ad i x _ HG.out (by have := HI.out; omega) HX.out).mono ?_; rintro e1 w1 ⟨rfl, hb1⟩; have HB := Aside0.mk (below_step HB.out hb1); have HG := Aside0.mk (blk_below HG.out hb1); have HX := Aside0.mk ((hb1.cell (World.block_lt_of_cell? _ _ HX.out)).trans HX.out); have HP := Aside0.mk (fun hq => (hb1.cell (World.block_lt_of_cell? _ _ (HP.out hq))).trans (HP.out hq)); clear hb1) | (go_at_call 33; refine (words_Name.calls k x _ _ HN.out).mono ?_; rintro e1 w1 ⟨rfl, hd1⟩; have hb1 := hd1.below; have HB := Aside0.mk (below_step HB.out hb1); have HG := Aside0.mk (blk_below HG.out hb1); have HX := Aside0.mk ((hb1.cell (World.block_lt_of_cell? _ _ HX.out)).trans HX.out); have HP := Aside0.mk (fun hq => (hb1.cell (World.block_lt_of_cell? _ _ (HP.out hq))).trans (HP.out hq)); clear hb1 hd1) | (go_at_call 57; with_reducible refine (litMn g c n ad j p _ HG.out (by have := HI.out; omega) (HP.out HIJ.out)).mono ?_; rintro e1 w1 ⟨rfl, hb1⟩; have HB := Aside0.mk (below_step HB.out hb1); have HG := Aside0.mk (blk_below HG.out hb1); have HX := Aside0.mk ((hb1.cell (World.block_lt_of_cell? _ _ HX.out)).trans HX.out); have HP := Aside0.mk (fun hq => (hb1.cell (World.block_lt_of_cell? _ _ (HP.out hq))).trans (HP.out hq)); clear hb1) | (go_at_call 57; rw [HW.out]; with_reducible refine (litMn g c n ad j p _ HG.out (by have := HI.out; omega) (HP.out HIJ.out)).mono ?_; rintro e1 w1 ⟨rfl, hb1⟩; have HB := Aside0.mk (below_step HB.out hb1); have HG := Aside0.mk (blk_below HG.out hb1); have HX := Aside0.mk ((hb1.cell (World.block_lt_of_cell? _ _ HX.out)).trans HX.out); have HP := Aside0.mk (fun hq => (hb1.cell (World.block_lt_of_cell? _ _ (HP.out hq))).trans (HP.out hq)); clear hb1))
        go_ret
        exact ⟨rfl, HB.out⟩
      | false =>
        have HE := Aside0.mk (show nameE true i p x = 12 by unfold nameE; rw [if_pos rfl, if_pos ⟨h0, hl⟩])
        rw [HE.out]
        clear HE h0
        go_enter Tryz.func56, Tryz.ntmps56
        go_wp2_with (first | (go_at_call 57; with_reducible refine (litMn g c n ad i x _ HG.out (by have := HI.out; omega) HX.out).mono ?_; rintro e1 w1 ⟨rfl, hb1⟩; have HB := Aside0.mk (below_step HB.out hb1); have HG := Aside0.mk (blk_below HG.out hb1); have HX := Aside0.mk ((hb1.cell (World.block_lt_of_cell? _ _ HX.out)).trans HX.out); have HP := Aside0.mk (fun hq => (hb1.cell (World.block_lt_of_cell? _ _ (HP.out hq))).trans (HP.out hq)); clear hb1) | (go_at_call 33; refine (words_Name.calls k x _ _ HN.out).mono ?_; rintro e1 w1 ⟨rfl, hd1⟩; have hb1 := hd1.below; have HB := Aside0.mk (below_step HB.out hb1); have HG := Aside0.mk (blk_below HG.out hb1); have HX := Aside0.mk ((hb1.cell (World.block_lt_of_cell? _ _ HX.out)).trans HX.out); have HP := Aside0.mk (fun hq => (hb1.cell (World.block_lt_of_cell? _ _ (HP.out hq))).trans (HP.out hq)); clear hb1 hd1) | (go_at_call 57; with_reducible refine (litMn g c n ad j p _ HG.out (by have := HI.out; omega) (HP.out HIJ.out)).mono ?_; rintro e1 w1 ⟨rfl, hb1⟩; have HB := Aside0.mk (below_step HB.out hb1); have HG := Aside0.mk (blk_below HG.out hb1); have HX := Aside0.mk ((hb1.cell (World.block_lt_of_cell? _ _ HX.out)).trans HX.out); have HP := Aside0.mk (fun hq => (hb1.cell (World.block_lt_of_cell? _ _ (HP.out hq))).trans (HP.out hq)); clear hb1) | (go_at_call 57; rw [HW.out]; with_reducible refine (litMn g c n ad j p _ HG.out (by have := HI.out; omega) (HP.out HIJ.out)).mono ?_; rintro e1 w1 ⟨rfl, hb1⟩; have HB := Aside0.mk (below_step HB.out hb1); have HG := Aside0.mk (blk_below HG.out hb1); have HX := Aside0.mk ((hb1.cell (World.block_lt_of_cell? _ _ HX.out)).trans HX.out); have HP := Aside0.mk (fun hq => (hb1.cell (World.block_lt_of_cell? _ _ (HP.out hq))).trans (HP.out hq)); clear hb1))
        go_ret
        exact ⟨rfl, HB.out⟩
    · have hgt := eq_false (show ¬ 0 < i from h0)
      have HE := Aside0.mk (show nameE true i p x = 0 by unfold nameE; rw [if_pos rfl, if_neg (fun h => h0 h.1)])
      rw [HE.out]
      have HP := Aside0.mk hp
      clear HE hp hi hn h0
      go_enter Tryz.func56, Tryz.ntmps56
      go_wp2_with (first | (go_at_call 57; with_reducible refine (litMn g c n ad i x _ HG.out (by have := HI.out; omega) HX.out).mono ?_; rintro e1 w1 ⟨rfl, hb1⟩; have HB := Aside0.mk (below_step HB.out hb1); have HG := Aside0.mk (blk_below HG.out hb1); have HX := Aside0.mk ((hb1.cell (World.block_lt_of_cell? _ _ HX.out)).trans HX.out); have HP := Aside0.mk (fun hq => (hb1.cell (World.block_lt_of_cell? _ _ (HP.out hq))).trans (HP.out hq)); clear hb1) | (go_at_call 33; refine (words_Name.calls k x _ _ HN.out).mono ?_; rintro e1 w1 ⟨rfl, hd1⟩; have hb1 := hd1.below; have HB := Aside0.mk (below_step HB.out hb1); have HG := Aside0.mk (blk_below HG.out hb1); have HX := Aside0.mk ((hb1.cell (World.block_lt_of_cell? _ _ HX.out)).trans HX.out); have HP := Aside0.mk (fun hq => (hb1.cell (World.block_lt_of_cell? _ _ (HP.out hq))).trans (HP.out hq)); clear hb1 hd1))
      go_ret
      exact ⟨rfl, HB.out⟩
set_option maxHeartbeats 1600000 in
set_option maxRecDepth 100000 in
theorem litAn (s0 : ByteArray) (s1 : Int) (g c n : Nat) (ad : Addr) (i : Nat) (x : ByteArray) (w : World) (hg : w.heap[g]? = some (.cells #[.string s0, .int .i64 s1, .slice (some ad) n c] 107 (0, 0))) (hi : i < n) (hx : w.cell? (ad.add (i * 2)) = some (.string x)) :
    Calls Tryz.prog 58 #[.int .i64 (i : Int), .pointer (some ⟨g, 0, none⟩)] w fun e w' => e = .returned (.string x) ∧ Below w.heap.size w w' := by
  have hc0 : w.cell? ⟨g, 2, none⟩ = some (.slice (some ad) n c) := blk_cell hg 2
  have p0 := eq_true (show 0 ≤ (i : Int) by omega)
  have q0 := eq_true (show (i : Int) < (n : Int) by omega)
  clear hg hi
  go_enter Tryz.func58, Tryz.ntmps58
  go_wp2
  go_ret
  exact ⟨eqs, Below.refl _ _⟩
set_option maxHeartbeats 1600000 in
set_option maxRecDepth 100000 in
theorem nmA_calls (k : Nat) (s0 : ByteArray) (s1 : Int) (g c n : Nat) (ad : Addr) (i : Nat) (x p : ByteArray) (b : Bool) (w : World) (hg : w.heap[g]? = some (.cells #[.string s0, .int .i64 s1, .slice (some ad) n c] 107 (0, 0))) (hn : n ≤ 4611686018427387904) (hi : i < n) (hx : w.cell? (ad.add (i * 2)) = some (.string x)) (hp : 0 < i → w.cell? (ad.add ((i - 1) * 2)) = some (.string p)) (hb : words_Name.f k x = some b) :
    Calls Tryz.prog 56 #[.func (.func 58) #[] #[.pointer (some ⟨g, 0, none⟩)], .int .i64 (i : Int)] w fun e w' => e = .returned (.int .i64 (nameE b i p x)) ∧ Below w.heap.size w w' := by
  have HG := Aside0.mk hg
  have HX := Aside0.mk hx
  have HN := Aside0.mk hb
  have HI := Aside0.mk hi
  have HB := Aside0.mk (Below.refl w.heap.size w)
  clear hg hx hb
  cases b with
  | false =>
    have HP := Aside0.mk hp
    clear hp hi hn
    go_enter Tryz.func56, Tryz.ntmps56
    go_wp2_with (first | (go_at_call 58; with_reducible refine (litAn s0 s1 g c n ad i x _ HG.out (by have := HI.out; omega) HX.out).mono ?_; rintro e1 w1 ⟨rfl, hb1⟩; have HB := Aside0.mk (below_step HB.out hb1); have HG := Aside0.mk (blk_below HG.out hb1); have HX := Aside0.mk ((hb1.cell (World.block_lt_of_cell? _ _ HX.out)).trans HX.out); have HP := Aside0.mk (fun hq => (hb1.cell (World.block_lt_of_cell? _ _ (HP.out hq))).trans (HP.out hq)); clear hb1) | (go_at_call 33; refine (words_Name.calls k x _ _ HN.out).mono ?_; rintro e1 w1 ⟨rfl, hd1⟩; have hb1 := hd1.below; have HB := Aside0.mk (below_step HB.out hb1); have HG := Aside0.mk (blk_below HG.out hb1); have HX := Aside0.mk ((hb1.cell (World.block_lt_of_cell? _ _ HX.out)).trans HX.out); have HP := Aside0.mk (fun hq => (hb1.cell (World.block_lt_of_cell? _ _ (HP.out hq))).trans (HP.out hq)); clear hb1 hd1))
    go_ret
    exact ⟨rfl, HB.out⟩
  | true =>
    by_cases h0 : 0 < i
    · obtain ⟨j, hj⟩ : ∃ j, j = i - 1 := ⟨_, rfl⟩
      have hgt := eq_true (show 0 < i from h0)
      have HW := Aside0.mk (show Go.RowKit.wrap64 ((i : Int) - 1) = (j : Int) by unfold wrap64; omega)
      have hw := HW.out
      have HP := Aside0.mk hp
      rw [← hj] at HP
      have HIJ := Aside0.mk h0
      have HI := Aside0.mk (show i < n ∧ j < n by omega)
      clear hp hj hn hi
      cases hl : Op.bytesLess p.toList x.toList with
      | true =>
        have HE := Aside0.mk (show nameE true i p x = 0 by unfold nameE; rw [if_pos rfl, if_neg (by rw [hl]; simp)])
        rw [HE.out]
        clear HE h0
        go_enter Tryz.func56, Tryz.ntmps56
        go_wp2_with (first | (go_at_call 58; with_reducible refine (litAn s0 s1 g c n ad i x _ HG.out (by have := HI.out; omega) HX.out).mono ?_; rintro e1 w1 ⟨rfl, hb1⟩; have HB := Aside0.mk (below_step HB.out hb1); have HG := Aside0.mk (blk_below HG.out hb1); have HX := Aside0.mk ((hb1.cell (World.block_lt_of_cell? _ _ HX.out)).trans HX.out); have HP := Aside0.mk (fun hq => (hb1.cell (World.block_lt_of_cell? _ _ (HP.out hq))).trans (HP.out hq)); clear hb1) | (go_at_call 33; refine (words_Name.calls k x _ _ HN.out).mono ?_; rintro e1 w1 ⟨rfl, hd1⟩; have hb1 := hd1.below; have HB := Aside0.mk (below_step HB.out hb1); have HG := Aside0.mk (blk_below HG.out hb1); have HX := Aside0.mk ((hb1.cell (World.block_lt_of_cell? _ _ HX.out)).trans HX.out); have HP := Aside0.mk (fun hq => (hb1.cell (World.block_lt_of_cell? _ _ (HP.out hq))).trans (HP.out hq)); clear hb1 hd1) | (go_at_call 58; with_reducible refine (litAn s0 s1 g c n ad j p _ HG.out (by have := HI.out; omega) (HP.out HIJ.out)).mono ?_; rintro e1 w1 ⟨rfl, hb1⟩; have HB := Aside0.mk (below_step HB.out hb1); have HG := Aside0.mk (blk_below HG.out hb1); have HX := Aside0.mk ((hb1.cell (World.block_lt_of_cell? _ _ HX.out)).trans HX.out); have HP := Aside0.mk (fun hq => (hb1.cell (World.block_lt_of_cell? _ _ (HP.out hq))).trans (HP.out hq)); clear hb1) | (go_at_call 58; rw [HW.out]; with_reducible refine (litAn s0 s1 g c n ad j p _ HG.out (by have := HI.out; omega) (HP.out HIJ.out)).mono ?_; rintro e1 w1 ⟨rfl, hb1⟩; have HB := Aside0.mk (below_step HB.out hb1); have HG := Aside0.mk (blk_below HG.out hb1); have HX := Aside0.mk ((hb1.cell (World.block_lt_of_cell? _ _ HX.out)).trans HX.out); have HP := Aside0.mk (fun hq => (hb1.cell (World.block_lt_of_cell? _ _ (HP.out hq))).trans (HP.out hq)); clear hb1))
        go_ret
        exact ⟨rfl, HB.out⟩
      | false =>
        have HE := Aside0.mk (show nameE true i p x = 12 by unfold nameE; rw [if_pos rfl, if_pos ⟨h0, hl⟩])
        rw [HE.out]
        clear HE h0
        go_enter Tryz.func56, Tryz.ntmps56
        go_wp2_with (first | (go_at_call 58; with_reducible refine (litAn s0 s1 g c n ad i x _ HG.out (by have := HI.out; omega) HX.out).mono ?_; rintro e1 w1 ⟨rfl, hb1⟩; have HB := Aside0.mk (below_step HB.out hb1); have HG := Aside0.mk (blk_below HG.out hb1); have HX := Aside0.mk ((hb1.cell (World.block_lt_of_cell? _ _ HX.out)).trans HX.out); have HP := Aside0.mk (fun hq => (hb1.cell (World.block_lt_of_cell? _ _ (HP.out hq))).trans (HP.out hq)); clear hb1) | (go_at_call 33; refine (words_Name.calls k x _ _ HN.out).mono ?_; rintro e1 w1 ⟨rfl, hd1⟩; have hb1 := hd1.below; have HB := Aside0.mk (below_step HB.out hb1); have HG := Aside0.mk (blk_below HG.out hb1); have HX := Aside0.mk ((hb1.cell (World.block_lt_of_cell? _ _ HX.out)).trans HX.out); have HP := Aside0.mk (fun hq => (hb1.cell (World.block_lt_of_cell? _ _ (HP.out hq))).trans (HP.out hq)); clear hb1 hd1) | (go_at_call 58; with_reducible refine (litAn s0 s1 g c n ad j p _ HG.out (by have := HI.out; omega) (HP.out HIJ.out)).mono ?_; rintro e1 w1 ⟨rfl, hb1⟩; have HB := Aside0.mk (below_step HB.out hb1); have HG := Aside0.mk (blk_below HG.out hb1); have HX := Aside0.mk ((hb1.cell (World.block_lt_of_cell? _ _ HX.out)).trans HX.out); have HP := Aside0.mk (fun hq => (hb1.cell (World.block_lt_of_cell? _ _ (HP.out hq))).trans (HP.out hq)); clear hb1) | (go_at_call 58; rw [HW.out]; with_reducible refine (litAn s0 s1 g c n ad j p _ HG.out (by have := HI.out; omega) (HP.out HIJ.out)).mono ?_; rintro e1 w1 ⟨rfl, hb1⟩; have HB := Aside0.mk (below_step HB.out hb1); have HG := Aside0.mk (blk_below HG.out hb1); have HX := Aside0.mk ((hb1.cell (World.block_lt_of_cell? _ _ HX.out)).trans HX.out); have HP := Aside0.mk (fun hq => (hb1.cell (World.block_lt_of_cell? _ _ (HP.out hq))).trans (HP.out hq)); clear hb1))
        go_ret
        exact ⟨rfl, HB.out⟩
    · have hgt := eq_false (show ¬ 0 < i from h0)
      have HE := Aside0.mk (show nameE true i p x = 0 by unfold nameE; rw [if_pos rfl, if_neg (fun h => h0 h.1)])
      rw [HE.out]
      have HP := Aside0.mk hp
      clear HE hp hi hn h0
      go_enter Tryz.func56, Tryz.ntmps56
      go_wp2_with (first | (go_at_call 58; with_reducible refine (litAn s0 s1 g c n ad i x _ HG.out (by have := HI.out; omega) HX.out).mono ?_; rintro e1 w1 ⟨rfl, hb1⟩; have HB := Aside0.mk (below_step HB.out hb1); have HG := Aside0.mk (blk_below HG.out hb1); have HX := Aside0.mk ((hb1.cell (World.block_lt_of_cell? _ _ HX.out)).trans HX.out); have HP := Aside0.mk (fun hq => (hb1.cell (World.block_lt_of_cell? _ _ (HP.out hq))).trans (HP.out hq)); clear hb1) | (go_at_call 33; refine (words_Name.calls k x _ _ HN.out).mono ?_; rintro e1 w1 ⟨rfl, hd1⟩; have hb1 := hd1.below; have HB := Aside0.mk (below_step HB.out hb1); have HG := Aside0.mk (blk_below HG.out hb1); have HX := Aside0.mk ((hb1.cell (World.block_lt_of_cell? _ _ HX.out)).trans HX.out); have HP := Aside0.mk (fun hq => (hb1.cell (World.block_lt_of_cell? _ _ (HP.out hq))).trans (HP.out hq)); clear hb1 hd1))
      go_ret
      exact ⟨rfl, HB.out⟩
set_option maxHeartbeats 3200000 in
set_option maxRecDepth 100000 in
theorem member_Check.calls (k : Nat) (A0 : Option Addr) (c0 : Nat) (l0 : List S107) (r : Int) (w : World) (hr0 : Kd.C k107 w A0 l0.length l0) (hc0 : l0.length ≤ c0) (h : member_Check.f k l0 = some r) :
    Calls Tryz.prog 26 #[.slice A0 l0.length c0] w fun e w' => e = .returned (.int .i64 r) ∧ Below w.heap.size w w' := by
  unfold member_Check.f at h
  have HR := Aside0.mk hr0
  by_cases h32 : 32 < l0.length
  · rw [if_pos h32] at h
    obtain rfl := Option.some.inj h
    have hd := decide_eq_true (show (32 : Int) < (l0.length : Int) by omega)
    clear h h32 hr0 hc0
    go_enter Tryz.func26, Tryz.ntmps26
    go_wp2_with fail
    go_ret
    exact ⟨rfl, below_alloc (Below.refl _ _) _⟩
  rw [if_neg h32] at h
  have hd := decide_eq_false (show ¬ (32 : Int) < (l0.length : Int) by omega)
  have HL := Aside0.mk (show l0.length ≤ 32 by omega)
  have HF0 := Aside0.mk h
  clear h h32 hr0 hc0
  go_enter Tryz.func26, Tryz.ntmps26
  go_wp2_with fail
  go_loopg [12] l0.length (fun kq v12 wr => ∃ i : Nat, v12 = .int .i64 (i : Int) ∧ Aside0 (kq + i = l0.length) ∧ Aside0 (memE k l0 (l0.drop i) i = some r) ∧ Aside0 (wr.heap[w.heap.size]? = some (.cells #[.slice A0 l0.length c0] 24 (0, 0))) ∧ Aside0 (Below w.heap.size w wr))
  case atStart => exact ⟨0, rfl, ⟨by omega⟩, HF0, ⟨blk_new _ _⟩, ⟨below_alloc (Below.refl _ _) _⟩⟩
  case round =>
    obtain ⟨i, rfl, HK, HF, HG, HB⟩ := hrel
    obtain ⟨wo, hwo⟩ : ∃ wo, wo = wr := ⟨_, rfl⟩
    subst hwo
    have hl32 := HL.out
    clear hd HF0
    by_cases hlt : i < l0.length
    · obtain ⟨k', rfl⟩ : ∃ k', gk = k' + 1 := ⟨gk - 1, by have := HK.out; omega⟩
      have hti : rd_T107 l0 (i : Int) = l0[i] := by simp [rd_T107, hlt]
      obtain ⟨ad, A2, c2, ea, hx0, hx1, hx2, hl2, hr2⟩ := at_T107 (Kd.C_below HR.out HB.out) (i : Int) (by omega) (by omega)
      cases ea
      obtain ⟨p, hpd⟩ : ∃ p, (rd_T107 l0 ((i : Int) - 1)).f0 = p := ⟨_, rfl⟩
      have HP := Aside0.mk (show 0 < i → wo.cell? (ad.add ((i - 1) * 3)) = some (.string p) from fun h0 => by
        obtain ⟨ad', A2', c2', ea', hy0, _, _, _, _⟩ := at_T107 (Kd.C_below HR.out HB.out) ((i : Int) - 1) (by omega) (by omega)
        obtain rfl := Option.some.inj ea'
        rw [hpd, show ((i : Int) - 1).toNat = i - 1 by omega] at hy0
        exact hy0)
      rw [Int.toNat_natCast] at hx0 hx1 hx2
      rw [hti] at hx0 hx1 hx2 hl2 hr2
      have hf := HF.out
      rw [(List.getElem_cons_drop hlt).symm, memE, hpd] at hf
      generalize l0[i] = t at hx0 hx1 hx2 hl2 hr2 hf
      have HI := Aside0.mk hlt
      have HX := Aside0.mk hx0
      have HRA := Aside0.mk hr2
      obtain ⟨b, hb, hf⟩ := Option.bind_eq_some_iff.1 hf
      have HN := Aside0.mk hb
      have p0 := eq_true (show 0 ≤ (i : Int) by omega)
      have q0 := eq_true (show (i : Int) < (l0.length : Int) by omega)
      clear hti HF hpd hr2 hb
      by_cases hne : nameE b i p t.f0 = 0
      case neg =>
        rw [if_neg hne] at hf
        obtain ⟨ne, hn⟩ : ∃ ne, nameE b i p t.f0 = ne := ⟨_, rfl⟩
        rw [hn] at hf hne
        obtain rfl := Option.some.inj hf
        have hbn : (ne != 0) = true := bne_iff_ne.2 hne
        have HE := Aside0.mk hn
        clear hf hne hl2 hn
        go_wp2_with (go_at_call 56; refine (nmM_calls k w.heap.size c0 l0.length ad i t.f0 p b _ (blk_alloc HG.out _) (by have := HL.out; omega) HI.out (((below_alloc (Below.refl wo.heap.size wo) _).cell (World.block_lt_of_cell? _ _ HX.out)).trans HX.out) (fun h0 => ((below_alloc (Below.refl wo.heap.size wo) _).cell (World.block_lt_of_cell? _ _ (HP.out h0))).trans (HP.out h0)) HN.out).mono ?_; rw [HE.out]; rintro e1_ w1 ⟨rfl, hb1⟩; have HB1 := Aside0.mk (below_step (below_alloc HB.out _) hb1); have HG1 := Aside0.mk (blk_below (blk_alloc HG.out _) hb1); have HM1 := Aside0.mk (blk_below (blk_new wo _) hb1); have HRA1 := Aside0.mk (Kd.C_below (Kd.C_alloc HRA.out _) hb1); have hm1 := blk_cell HM1.out 1; have hm2 := blk_cell HM1.out 2; clear hb1)
        go_ret
        exact ⟨rfl, HB1.out⟩
      rw [if_pos hne] at hf
      have HE := Aside0.mk hne
      clear hne
      have hst : (¬ (1 ≤ t.f1 ∧ t.f1 ≤ 4) ∧ r = 13) ∨ ((1 ≤ t.f1 ∧ t.f1 ≤ 4) ∧ ((16 < t.f2.length ∧ r = 8) ∨ (t.f2.length ≤ 16 ∧ ∃ e, accE k t.f2 t.f2 0 = some e ∧ ((e = 0 ∧ memE k l0 (l0.drop (i + 1)) (i + 1) = some r) ∨ (e ≠ 0 ∧ r = e))))) := by
        by_cases c1 : 1 ≤ t.f1 ∧ t.f1 ≤ 4
        · rw [if_pos c1] at hf
          by_cases c2 : t.f2.length ≤ 16
          · rw [if_pos c2] at hf
            obtain ⟨e, he, hf⟩ := Option.bind_eq_some_iff.1 hf
            by_cases c3 : e = 0
            · rw [if_pos c3] at hf; exact Or.inr ⟨c1, Or.inr ⟨c2, e, he, Or.inl ⟨c3, hf⟩⟩⟩
            · rw [if_neg c3] at hf; exact Or.inr ⟨c1, Or.inr ⟨c2, e, he, Or.inr ⟨c3, (Option.some.inj hf).symm⟩⟩⟩
          · rw [if_neg c2] at hf; exact Or.inr ⟨c1, Or.inl ⟨by omega, (Option.some.inj hf).symm⟩⟩
        · rw [if_neg c1] at hf; exact Or.inl ⟨c1, (Option.some.inj hf).symm⟩
      clear hf
      rcases hst with ⟨c1, rfl⟩ | ⟨c1, hst⟩
      · by_cases d1 : t.f1 < 1
        · have hd1 := decide_eq_true d1
          have hd1' := eq_true d1
          clear c1 hl2 d1
          go_wp2_with (go_at_call 56; refine (nmM_calls k w.heap.size c0 l0.length ad i t.f0 p b _ (blk_alloc HG.out _) (by have := HL.out; omega) HI.out (((below_alloc (Below.refl wo.heap.size wo) _).cell (World.block_lt_of_cell? _ _ HX.out)).trans HX.out) (fun h0 => ((below_alloc (Below.refl wo.heap.size wo) _).cell (World.block_lt_of_cell? _ _ (HP.out h0))).trans (HP.out h0)) HN.out).mono ?_; rw [HE.out]; rintro e1_ w1 ⟨rfl, hb1⟩; have HB1 := Aside0.mk (below_step (below_alloc HB.out _) hb1); have HG1 := Aside0.mk (blk_below (blk_alloc HG.out _) hb1); have HM1 := Aside0.mk (blk_below (blk_new wo _) hb1); have HRA1 := Aside0.mk (Kd.C_below (Kd.C_alloc HRA.out _) hb1); have hm1 := blk_cell HM1.out 1; have hm2 := blk_cell HM1.out 2; clear hb1)
          go_ret
          exact ⟨rfl, HB1.out⟩
        · have hd1 := decide_eq_false d1
          have hd2 := decide_eq_true (show 4 < t.f1 by omega)
          clear c1 hl2 d1
          go_wp2_with (go_at_call 56; refine (nmM_calls k w.heap.size c0 l0.length ad i t.f0 p b _ (blk_alloc HG.out _) (by have := HL.out; omega) HI.out (((below_alloc (Below.refl wo.heap.size wo) _).cell (World.block_lt_of_cell? _ _ HX.out)).trans HX.out) (fun h0 => ((below_alloc (Below.refl wo.heap.size wo) _).cell (World.block_lt_of_cell? _ _ (HP.out h0))).trans (HP.out h0)) HN.out).mono ?_; rw [HE.out]; rintro e1_ w1 ⟨rfl, hb1⟩; have HB1 := Aside0.mk (below_step (below_alloc HB.out _) hb1); have HG1 := Aside0.mk (blk_below (blk_alloc HG.out _) hb1); have HM1 := Aside0.mk (blk_below (blk_new wo _) hb1); have HRA1 := Aside0.mk (Kd.C_below (Kd.C_alloc HRA.out _) hb1); have hm1 := blk_cell HM1.out 1; have hm2 := blk_cell HM1.out 2; clear hb1)
          go_ret
          exact ⟨rfl, HB1.out⟩
      have hd1 := decide_eq_false (show ¬ t.f1 < 1 by omega)
      have hd2 := decide_eq_false (show ¬ 4 < t.f1 by omega)
      clear c1
      rcases hst with ⟨c2, rfl⟩ | ⟨c2, e1, he1, hst⟩
      · have hd3 := decide_eq_true (show (16 : Int) < (t.f2.length : Int) by omega)
        clear c2 hl2
        go_wp2_with (go_at_call 56; refine (nmM_calls k w.heap.size c0 l0.length ad i t.f0 p b _ (blk_alloc HG.out _) (by have := HL.out; omega) HI.out (((below_alloc (Below.refl wo.heap.size wo) _).cell (World.block_lt_of_cell? _ _ HX.out)).trans HX.out) (fun h0 => ((below_alloc (Below.refl wo.heap.size wo) _).cell (World.block_lt_of_cell? _ _ (HP.out h0))).trans (HP.out h0)) HN.out).mono ?_; rw [HE.out]; rintro e1_ w1 ⟨rfl, hb1⟩; have HB1 := Aside0.mk (below_step (below_alloc HB.out _) hb1); have HG1 := Aside0.mk (blk_below (blk_alloc HG.out _) hb1); have HM1 := Aside0.mk (blk_below (blk_new wo _) hb1); have HRA1 := Aside0.mk (Kd.C_below (Kd.C_alloc HRA.out _) hb1); have hm1 := blk_cell HM1.out 1; have hm2 := blk_cell HM1.out 2; clear hb1)
        go_ret
        exact ⟨rfl, HB1.out⟩
      have hd3 := decide_eq_false (show ¬ (16 : Int) < (t.f2.length : Int) by omega)
      have HAE := Aside0.mk he1
      have HST := Aside0.mk hst
      have HL2 := Aside0.mk hl2
      have HL16 := Aside0.mk c2
      clear c2 hl2 he1 hst
      go_wp2_with (go_at_call 56; refine (nmM_calls k w.heap.size c0 l0.length ad i t.f0 p b _ (blk_alloc HG.out _) (by have := HL.out; omega) HI.out (((below_alloc (Below.refl wo.heap.size wo) _).cell (World.block_lt_of_cell? _ _ HX.out)).trans HX.out) (fun h0 => ((below_alloc (Below.refl wo.heap.size wo) _).cell (World.block_lt_of_cell? _ _ (HP.out h0))).trans (HP.out h0)) HN.out).mono ?_; rw [HE.out]; rintro e1_ w1 ⟨rfl, hb1⟩; have HB1 := Aside0.mk (below_step (below_alloc HB.out _) hb1); have HG1 := Aside0.mk (blk_below (blk_alloc HG.out _) hb1); have HM1 := Aside0.mk (blk_below (blk_new wo _) hb1); have HRA1 := Aside0.mk (Kd.C_below (Kd.C_alloc HRA.out _) hb1); have hm1 := blk_cell HM1.out 1; have hm2 := blk_cell HM1.out 2; clear hb1)
      clear hm1 hm2 hd1 hd2 hd3 p0 q0 hx0 hx1 hx2
      go_loopg [38] t.f2.length (fun kq v38 wr => ∃ j : Nat, v38 = .int .i64 (j : Int) ∧ Aside0 (kq + j = t.f2.length) ∧ Aside0 (accE k t.f2 (t.f2.drop j) j = some e1) ∧ Aside0 (Below w1.heap.size w1 wr))
      case atStart => exact ⟨0, rfl, ⟨by omega⟩, HAE, ⟨Below.refl _ _⟩⟩
      case round =>
        obtain ⟨j, rfl, HKi, HFi, HBi⟩ := hrel
        clear HAE
        have HGi := Aside0.mk (blk_below HG1.out HBi.out)
        have HMi := Aside0.mk (blk_below HM1.out HBi.out)
        by_cases hlj : j < t.f2.length
        · have htj : rd_T110 t.f2 (j : Int) = t.f2[j] := by simp [rd_T110, hlj]
          obtain ⟨ad2, ea2, hy0, hy1⟩ := at_T110 (Kd.C_below HRA1.out HBi.out) (j : Int) (by omega) (by omega)
          cases ea2
          obtain ⟨p2, hpd2⟩ : ∃ p2, (rd_T110 t.f2 ((j : Int) - 1)).f0 = p2 := ⟨_, rfl⟩
          have HP2 := Aside0.mk (show 0 < j → wr.cell? (ad2.add ((j - 1) * 2)) = some (.string p2) from fun h0 => by
            obtain ⟨ad', ea', hz0, _⟩ := at_T110 (Kd.C_below HRA1.out HBi.out) ((j : Int) - 1) (by omega) (by omega)
            obtain rfl := Option.some.inj ea'
            rw [hpd2, show ((j : Int) - 1).toNat = j - 1 by omega] at hz0
            exact hz0)
          rw [Int.toNat_natCast] at hy0 hy1
          rw [htj] at hy0 hy1
          have hf := HFi.out
          rw [(List.getElem_cons_drop hlj).symm, accE, hpd2] at hf
          have hj16 := HL16.out
          have HJ := Aside0.mk hlj
          generalize t.f2[j] = a at hy0 hy1 hf
          have HY := Aside0.mk hy0
          obtain ⟨b2, hb2, hf⟩ := Option.bind_eq_some_iff.1 hf
          have HN2 := Aside0.mk hb2
          have p1 := eq_true (show 0 ≤ (j : Int) by omega)
          have q1 := eq_true (show (j : Int) < (t.f2.length : Int) by omega)
          clear htj HFi hpd2 hb2
          by_cases hne : nameE b2 j p2 a.f0 = 0
          case neg =>
            rw [if_neg hne] at hf
            obtain ⟨ne, hn⟩ : ∃ ne, nameE b2 j p2 a.f0 = ne := ⟨_, rfl⟩
            rw [hn] at hf hne
            obtain rfl := Option.some.inj hf
            have hr : r = ne := HST.out.elim (fun h => absurd h.1 hne) (fun h => h.2)
            subst hr
            have hbn : (r != 0) = true := bne_iff_ne.2 hne
            have HE2 := Aside0.mk hn
            clear hf hne hn
            go_wp2_with (first | (go_at_call 56; refine (nmA_calls k t.f0 t.f1 wo.heap.size c2 t.f2.length ad2 j a.f0 p2 b2 _ (blk_alloc HMi.out _) (by have := HL16.out; omega) HJ.out (((below_alloc (Below.refl wr.heap.size wr) _).cell (World.block_lt_of_cell? _ _ HY.out)).trans HY.out) (fun h0 => ((below_alloc (Below.refl wr.heap.size wr) _).cell (World.block_lt_of_cell? _ _ (HP2.out h0))).trans (HP2.out h0)) HN2.out).mono ?_; rw [HE2.out]; rintro e2_ w2 ⟨rfl, hb2⟩; have HBj := Aside0.mk (below_step (below_alloc HBi.out _) hb2); have HB2 := Aside0.mk (below_step HB1.out HBj.out); have hk1 := blk_cell (blk_below (blk_new wr _) hb2) 1; clear hb2))
            go_ret
            exact ⟨rfl, HB2.out⟩
          rw [if_pos hne] at hf
          have HE2 := Aside0.mk hne
          clear hne
          obtain ⟨q, hq⟩ : ∃ q, member_kind.f a.f1 = some q := by unfold member_kind.f; split <;> exact ⟨_, rfl⟩
          have HQ := Aside0.mk hq
          have hqd : q = true ↔ 1 ≤ a.f1 ∧ a.f1 ≤ 3 := by
            unfold member_kind.f at hq
            split at hq
            · obtain rfl := Option.some.inj hq; simp; omega
            · obtain rfl := Option.some.inj hq; simp; omega
          clear hq
          cases q with
          | false =>
            rw [if_neg (by rw [← hqd]; simp)] at hf
            obtain rfl := Option.some.inj hf
            have hr : r = 21 := HST.out.elim (fun h => absurd h.1 (by decide)) (fun h => h.2)
            subst hr
            clear hf hqd
            go_wp2_with (first | (go_at_call 56; refine (nmA_calls k t.f0 t.f1 wo.heap.size c2 t.f2.length ad2 j a.f0 p2 b2 _ (blk_alloc HMi.out _) (by have := HL16.out; omega) HJ.out (((below_alloc (Below.refl wr.heap.size wr) _).cell (World.block_lt_of_cell? _ _ HY.out)).trans HY.out) (fun h0 => ((below_alloc (Below.refl wr.heap.size wr) _).cell (World.block_lt_of_cell? _ _ (HP2.out h0))).trans (HP2.out h0)) HN2.out).mono ?_; rw [HE2.out]; rintro e2_ w2 ⟨rfl, hb2⟩; have HBj := Aside0.mk (below_step (below_alloc HBi.out _) hb2); have HB2 := Aside0.mk (below_step HB1.out HBj.out); have hk1 := blk_cell (blk_below (blk_new wr _) hb2) 1; clear hb2) | (go_at_call 59; refine (member_kind.calls a.f1 _ _ HQ.out).mono ?_; rintro e3_ w3 ⟨rfl, hd3⟩; have hb3 := hd3.below; have HBj := Aside0.mk (below_step HBj.out hb3); have HB3 := Aside0.mk (below_step HB1.out HBj.out); clear hd3 hb3))
            go_ret
            exact ⟨rfl, HB3.out⟩
          | true =>
            rw [if_pos (hqd.1 rfl)] at hf
            have HF2 := Aside0.mk hf
            clear hf hqd
            go_wp2_with (first | (go_at_call 56; refine (nmA_calls k t.f0 t.f1 wo.heap.size c2 t.f2.length ad2 j a.f0 p2 b2 _ (blk_alloc HMi.out _) (by have := HL16.out; omega) HJ.out (((below_alloc (Below.refl wr.heap.size wr) _).cell (World.block_lt_of_cell? _ _ HY.out)).trans HY.out) (fun h0 => ((below_alloc (Below.refl wr.heap.size wr) _).cell (World.block_lt_of_cell? _ _ (HP2.out h0))).trans (HP2.out h0)) HN2.out).mono ?_; rw [HE2.out]; rintro e2_ w2 ⟨rfl, hb2⟩; have HBj := Aside0.mk (below_step (below_alloc HBi.out _) hb2); have HB2 := Aside0.mk (below_step HB1.out HBj.out); have hk1 := blk_cell (blk_below (blk_new wr _) hb2) 1; clear hb2) | (go_at_call 59; refine (member_kind.calls a.f1 _ _ HQ.out).mono ?_; rintro e3_ w3 ⟨rfl, hd3⟩; have hb3 := hd3.below; have HBj := Aside0.mk (below_step HBj.out hb3); have HB3 := Aside0.mk (below_step HB1.out HBj.out); clear hd3 hb3))
            go_roundg (gk - 1)
            case measure => have := HKi.out; have := HJ.out; omega
            case rel => exact ⟨j + 1, by go_num, ⟨by have := HKi.out; omega⟩, HF2, HBj⟩
        · have hf := HFi.out
          rw [List.drop_of_length_le (by omega), accE] at hf
          obtain rfl := Option.some.inj hf
          have HM2 := Aside0.mk (show memE k l0 (l0.drop (i + 1)) (i + 1) = some r from HST.out.elim (fun h => h.2) (fun h => absurd rfl h.1))
          clear hf HFi
          go_wp2_with fail
          go_roundg k'
          case measure => omega
          case rel => exact ⟨i + 1, by go_num, ⟨by have := HK.out; omega⟩, HM2, HGi, ⟨below_step HB1.out HBi.out⟩⟩
    · have hf := HF.out
      rw [List.drop_of_length_le (by omega), memE] at hf
      obtain rfl := Option.some.inj hf
      clear hf HF
      go_wp2_with fail
      go_ret
      exact ⟨rfl, HB.out⟩
def api_Account_85.f (l : List S110) : Option (List S110) := if l.length < 137438953472 then some l else none
set_option maxHeartbeats 1600000 in
set_option maxRecDepth 100000 in
theorem api_Account_85.calls (A0 : Option Addr) (c0 : Nat) (l0 : List S110) (r : List S110) (w : World) (hr0 : Kd.C k110 w A0 l0.length l0) (hc0 : l0.length ≤ c0) (h : api_Account_85.f l0 = some r) :
    Calls Tryz.prog 85 #[.slice A0 l0.length c0] w fun e w' => ∃ v0_ : Value, e = .returned (v0_) ∧ Kd.R k110 110 w' w.heap.size (fun _ => True) v0_ r ∧ Below w.heap.size w w' := by
  unfold api_Account_85.f at h
  by_cases hlim : l0.length < 137438953472
  case neg => rw [if_neg hlim] at h; exact absurd h (by simp)
  case pos =>
    rw [if_pos hlim] at h
    obtain rfl := Option.some.inj h
    have HR := Aside0.mk hr0
    have HL := Aside0.mk hlim
    clear h hlim hr0
    cases A0 with
    | none =>
      have hnil := fun W => Lib.run_eql_slice_nil (P := Tryz.prog) W 105 110 none 0 c0 0 0 Tryz.underlying105
      have h0 : l0 = [] := by
        by_cases hp : 0 < l0.length
        · obtain ⟨a, ha, _⟩ := HR.out.2.2 hp
          cases ha
        · exact List.length_eq_zero_iff.1 (by omega)
      subst h0
      go_enter Tryz.func85, Tryz.ntmps85
      go_wp2
      go_ret
      exact ⟨_, rfl, Kd.R_nil _ _ _ _ _, Below.refl _ _⟩
    | some ad =>
      have hnil := fun W => Lib.run_eql_slice_nil (P := Tryz.prog) W 105 110 (some ad) l0.length c0 0 0 Tryz.underlying105
      go_enter Tryz.func85, Tryz.ntmps85
      go_wp2_with (first
        | ((with_reducible refine gate_dst (N := 5) rfl ?_); (try (refine gate_guard (by rfl) ?_; dsimp only)); refine Kd.R_lit k110 _ 110 ?hg (N := 5) ?hd (xs := ([] : List S110)) (inner := []) (ok := fun _ => True) (okp := fun _ => True) ?hr ?hp (fun _ hk => hk) trivial (Below.refl _ _) (Nat.le_refl _) (by simp) ?_; (case hd => rfl); (case hg => rfl); (case hr => first | (go_simp; done) | (go_simp; rfl)); (case hp => exact (Reps.none _ _)); intro v1 w1 ho hb hg_ hnew_; clear hg_ hnew_; have HO := Aside0.mk ho; have HB := Aside0.mk hb; clear ho hb)
        | ((with_reducible refine gate_builtin (b := .append) (xs := #[.tmp 5, .tmp 6]) rfl ?_); at_builtin; refine Kd.R_append_rows k110 (w0 := w) w.heap.size rfl (.tmp 5) (.tmp 6) 105 110 _ _ rfl Tryz.underlying105 info110 rfl (by decide) (by omega) v1 ([] : List S110) l0 _ _ _ (fun _ => True) (fun _ => False) rfl rfl ?aO ?aR (fun _ _ h => h) (fun _ h => h.elim) (fun _ _ => trivial) ?aB ?aS ?aL ?_; (case aO => exact HO.out); (case aR => exact (Kd.C_below HR.out HB.out)); (case aB => exact HB.out); (case aS => exact (below_size HB.out)); (case aL => have := HL.out; simp; omega); intro v2 w2 ho hb hg hat; have HO2 := Aside0.mk ho; have HB2 := Aside0.mk hb; clear ho hb hg hat))
      go_ret
      exact ⟨_, rfl, by simpa using HO2.out, HB2.out⟩
def idxM (p : S107 → Bool) : List S107 → Int → Int
  | [], _ => -1
  | x :: r, i => if p x = true then i else idxM p r (i + 1)
set_option maxHeartbeats 1600000 in
set_option maxRecDepth 100000 in
theorem litM (s0 : ByteArray) (s1 : Int) (A2 : Option Addr) (n2 c2 : Nat) (q : ByteArray) (g : Nat) (w : World) (hg : w.heap[g]? = some (.cells #[.string q] 9 (0, 0))) :
    Calls Tryz.prog 104 #[.agg #[.string s0, .int .i64 s1, .slice A2 n2 c2], .pointer (some ⟨g, 0, none⟩)] w fun e w' => e = .returned (.bool (s0.toList == q.toList)) ∧ Below w.heap.size w w' := by
  have hc0 : ∀ o, (w.alloc o).cell? ⟨g, 0, none⟩ = some (.string q) := fun o => blk_cell (blk_alloc hg o) 0
  go_enter Tryz.func104, Tryz.ntmps104
  go_wp2
  go_ret
  exact ⟨eqs, (Below.refl _ _).alloc (Nat.le_refl _) _⟩
set_option maxHeartbeats 1600000 in
set_option maxRecDepth 100000 in
theorem ixM_calls (A : Option Addr) (c : Nat) (l : List S107) (q : ByteArray) (g : Nat) (w : World) (hr : Kd.C k107 w A l.length l) (hg : w.heap[g]? = some (.cells #[.string q] 9 (0, 0))) :
    Calls Tryz.prog 103 #[.slice A l.length c, .func (.func 104) #[] #[.pointer (some ⟨g, 0, none⟩)]] w fun e w' => e = .returned (.int .i64 (idxM (fun t => t.f0.toList == q.toList) l 0)) ∧ Below w.heap.size w w' := by
  have HR := Aside0.mk hr
  have HG := Aside0.mk hg
  have hlen := (show l.length ≤ 9223372036854775807 from Kd.C_max hr)
  clear hr hg
  go_enter Tryz.func103, Tryz.ntmps103
  go_wp2_with fail
  go_loopg [8] l.length (fun kq v8 wr => ∃ i : Nat, v8 = .int .i64 (i : Int) ∧ Aside0 (kq + i = l.length) ∧ Aside0 (idxM (fun t => t.f0.toList == q.toList) (l.drop i) (i : Int) = idxM (fun t => t.f0.toList == q.toList) l 0) ∧ Aside0 (Below w.heap.size w wr))
  case atStart => exact ⟨0, rfl, ⟨by omega⟩, ⟨rfl⟩, ⟨Below.refl _ _⟩⟩
  case round =>
    obtain ⟨i, rfl, HK, HF, HB2⟩ := hrel
    by_cases hlt : i < l.length
    · have hti : rd_T107 l (i : Int) = l[i] := by simp [rd_T107, hlt]
      obtain ⟨ad, A2, c2, ea, hx0, hx1, hx2, hl2, hr2⟩ := at_T107 HR.out (i : Int) (by omega) (by omega)
      cases ea
      rw [Int.toNat_natCast] at hx0 hx1 hx2
      replace hx0 := (HB2.out.cell (World.block_lt_of_cell? w _ hx0)).trans hx0
      replace hx1 := (HB2.out.cell (World.block_lt_of_cell? w _ hx1)).trans hx1
      replace hx2 := (HB2.out.cell (World.block_lt_of_cell? w _ hx2)).trans hx2
      rw [hti] at hx0 hx1 hx2
      have hf := HF.out
      rw [(List.getElem_cons_drop hlt).symm, idxM] at hf
      generalize l[i] = t at hx0 hx1 hx2 hf hl2 hr2
      clear hti HF hl2 hr2
      by_cases hb : (t.f0.toList == q.toList) = true
      · rw [if_pos hb] at hf
        have HBB := Aside0.mk hb
        have HF := Aside0.mk hf
        clear hb hf
        go_wp2_with (go_at_call 104; refine (litM t.f0 t.f1 A2 t.f2.length c2 q g _ (blk_below HG.out HB2.out)).mono ?_; rw [HBB.out]; rintro e1 w1 ⟨rfl, hb1⟩; have HB3 := Aside0.mk (below_step HB2.out hb1); clear hb1)
        exact bodyPost_ret (v := .int .i64 (i : Int)) (by simp [results, Tryz.results103, go_sem]) rfl ⟨by rw [← HF.out], HB3.out⟩
      · rw [if_neg hb] at hf
        have HBB := Aside0.mk (show (t.f0.toList == q.toList) = false by simpa using hb)
        have HF := Aside0.mk hf
        clear hb hf
        go_wp2_with (go_at_call 104; refine (litM t.f0 t.f1 A2 t.f2.length c2 q g _ (blk_below HG.out HB2.out)).mono ?_; rw [HBB.out]; rintro e1 w1 ⟨rfl, hb1⟩; have HB3 := Aside0.mk (below_step HB2.out hb1); clear hb1)
        go_roundg (gk - 1)
        case measure => have := HK.out; omega
        case rel => exact ⟨i + 1, by go_num, ⟨by have := HK.out; omega⟩, ⟨by have := HF.out; simpa using this⟩, HB3⟩
    · have hf := HF.out
      rw [List.drop_of_length_le (by omega), idxM] at hf
      have HF := Aside0.mk hf
      clear hf
      go_wp2_with fail
      exact bodyPost_ret (v := .int .i64 (-1)) (by simp [results, Tryz.results103, go_sem]) rfl ⟨by rw [← HF.out], HB2.out⟩
def member_at.f (l : List S107) (q : ByteArray) : Option Int := some (idxM (fun t => t.f0.toList == q.toList) l 0)
set_option maxHeartbeats 1600000 in
set_option maxRecDepth 100000 in
theorem member_at.calls (A0 : Option Addr) (c0 : Nat) (l0 : List S107) (a1 : ByteArray) (r : Int) (w : World) (hr0 : Kd.C k107 w A0 l0.length l0) (hc0 : l0.length ≤ c0) (h : member_at.f l0 a1 = some r) :
    Calls Tryz.prog 84 #[.slice A0 l0.length c0, .string a1] w fun e w' => e = .returned (.int .i64 r) ∧ Below w.heap.size w w' := by
  unfold member_at.f at h
  have HR := Aside0.mk hr0
  have HP := Aside0.mk (Option.some.inj h)
  have HBA := Aside0.mk (below_alloc (Below.refl w.heap.size w) (.cells #[.string a1] 9))
  clear hr0 h
  go_enter Tryz.func84, Tryz.ntmps84
  go_wp2_with (go_at_call 103; refine (ixM_calls _ _ l0 a1 w.heap.size _ (Kd.C_alloc HR.out _) (blk_new w _)).mono ?_; rw [HP.out]; rintro e1 w1 ⟨rfl, hb1⟩; have HB3 := Aside0.mk (below_step HBA.out hb1); clear hb1)
  exact bodyPost_ret (v := .int .i64 r) (by simp [results, Tryz.results84, go_sem]) rfl ⟨rfl, HB3.out⟩
def member_Find.f (l0 : List (S107)) (a1 : ByteArray) : Option (ByteArray × Int × (List (S110)) × Bool) := (member_at.f l0 a1).bind fun t102 => (if t102 < 0 then (some ((⟨#[]⟩ : ByteArray), 0, ([] : List (S110)), false)) else (if 0 ≤ t102 then (if t102 < (l0.length : Int) then ((api_Account_85.f ((rd_T107 l0 t102).f2)).bind fun t104 => (some ((rd_T107 l0 t102).f0, (rd_T107 l0 t102).f1, t104, true))) else (none)) else (none)))
set_option maxHeartbeats 8000000 in
set_option maxRecDepth 100000 in
theorem member_Find.calls (A0 : Option Addr) (c0 : Nat) (l0 : List (S107)) (a1 : ByteArray) (r1 : ByteArray) (r2 : Int) (r3 : List (S110)) (r4 : Bool) (w : World) (hr0 : Kd.C k107 w A0 l0.length l0) (hc0 : l0.length ≤ c0) (h : member_Find.f l0 a1 = some (r1, r2, r3, r4)) :
    Calls Tryz.prog 60 #[.slice A0 l0.length c0, .string a1] w fun e w' => ∃ v2_ : Value, e = .returned (.tuple #[.agg #[.string r1, .int .i64 r2, v2_], .bool r4]) ∧ Kd.R k110 110 w' w.heap.size (fun _ => True) v2_ r3 ∧ Below w.heap.size w w' := by
  have hu107 := Tryz.underlying107
  have HR0 := Aside0.mk hr0
  have HC0 := Aside0.mk hc0
  clear hr0 hc0
  have HB := Aside0.mk (Below.refl w.heap.size w)
  have H : ((member_at.f l0 a1).bind fun t102 => (if t102 < 0 then (some ((⟨#[]⟩ : ByteArray), 0, ([] : List (S110)), false)) else (if 0 ≤ t102 then (if t102 < (l0.length : Int) then ((api_Account_85.f ((rd_T107 l0 t102).f2)).bind fun t104 => (some ((rd_T107 l0 t102).f0, (rd_T107 l0 t102).f1, t104, true))) else (none)) else (none)))) = some (r1, r2, r3, r4) := h
  clear h
  replace H := bnd H
  obtain ⟨t102, A30, H⟩ := H
  have A3 := Aside0.mk A30
  clear A30
  by_cases c4 : t102 < 0
  · rw [if_pos c4] at H
    have c4b0 := decide_eq_true c4
    clear c4
    simp only [Option.some.injEq, Prod.mk.injEq] at H
    obtain ⟨rfl, rfl, rfl, rfl⟩ := H
    go_enter Tryz.func60, Tryz.ntmps60
    go_wp2_with (first | ((with_reducible refine gate_dst (N := 4) rfl ?_); refine box_event ?hg (N := 4) ?hd (cs := #[.string (⟨#[]⟩ : ByteArray), .int .i64 0, .slice none 0 0]) (t := 107) ?hr ?_; (case hd => rfl); (case hg => rfl); (case hr => first | (go_simp; done) | (go_simp; rfl)); intro gb101 hg w5 hbox hb; have BK101 := Aside0.mk (hbox); have GW101 := Aside0.mk ((gsz hg : w.heap.size ≤ gb101)); have GE101 := Aside0.mk ((gsz hg : w.heap.size ≤ gb101)); replace HB := Aside0.mk (below_step bel hb); clear hb hbox hg) | ((with_reducible refine gate_callee (f := 84) rfl ?_); refine goesL_ (some 9) rfl rfl Tryz.func84 (by kernel_rfl) rfl #[.slice A0 l0.length c0, .string a1] rfl arg ?_; (with_reducible refine (member_at.calls _ _ l0 a1 t102 _ ?side1 ?side2 A3.out).mono ?_); (case side1 => repeat (first | exact (Kd.C_below HR0.out HB.out) | (with_reducible refine Kd.C_alloc ?_ _) | (with_reducible refine Kd.C_drewN ?_ _) | (with_reducible refine Kd.C_drew ?_))); (case side2 => exact HC0.out); rintro e w6 ⟨rfl, hb⟩; refine ⟨_, rfl, ?_⟩; replace BK101 := Aside0.mk (blk_below (g := gb101) (bw BK101.out) hb); replace HB := Aside0.mk (below_step bel hb); (try clear hb); (try clear hb2); (try clear hk); (try clear hi); obtain ⟨hcz7_0, hcz7_1, hcz7_2, hfz7_0, hfz7_1, hfz7_2⟩ := cz3 BK101.out))
    refine bodyPost_ret (results_ct rfl _ _ gb101 107 #[.string (⟨#[]⟩ : ByteArray), .int .i64 0, .slice none 0 0] (0, 0) _ rfl (bs BK101.out) Tryz.underlying107 rfl (by kernel_rfl)) rfl ?_
    exact ⟨_, ers, by first | exact Kd.R_nil _ _ _ _ _ | exact Kd.N_nil _ _ _ _ _ | exact Kd.V_nil _ _ _ _ _ | exact Kd.Q_nil _ _ _ _ _ | exact Kd.S_nil _ _ _ _ _, bel⟩
  · rw [if_neg c4] at H
    have c4b0 := decide_eq_false c4
    clear c4
    by_cases c8 : 0 ≤ t102
    · rw [if_pos c8] at H
      have c8b0 := decide_eq_true c8
      clear c8
      by_cases c9 : t102 < (l0.length : Int)
      · rw [if_pos c9] at H
        have c9b0 := decide_eq_true c9
        clear c9
        replace H := bnd H
        obtain ⟨t104, A100, H⟩ := H
        have A10 := Aside0.mk A100
        clear A100
        simp only [Option.some.injEq, Prod.mk.injEq] at H
        obtain ⟨rfl, rfl, rfl, rfl⟩ := H
        go_enter Tryz.func60, Tryz.ntmps60
        go_wp2_with (first | ((with_reducible refine gate_dst (N := 4) rfl ?_); refine box_event ?hg (N := 4) ?hd (cs := #[.string (⟨#[]⟩ : ByteArray), .int .i64 0, .slice none 0 0]) (t := 107) ?hr ?_; (case hd => rfl); (case hg => rfl); (case hr => first | (go_simp; done) | (go_simp; rfl)); intro gb101 hg w11 hbox hb; have BK101 := Aside0.mk (hbox); have GW101 := Aside0.mk ((gsz hg : w.heap.size ≤ gb101)); have GE101 := Aside0.mk ((gsz hg : w.heap.size ≤ gb101)); replace HB := Aside0.mk (below_step bel hb); clear hb hbox hg) | ((with_reducible refine gate_callee (f := 84) rfl ?_); refine goesL_ (some 9) rfl rfl Tryz.func84 (by kernel_rfl) rfl #[.slice A0 l0.length c0, .string a1] rfl arg ?_; (with_reducible refine (member_at.calls _ _ l0 a1 t102 _ ?side1 ?side2 A3.out).mono ?_); (case side1 => repeat (first | exact (Kd.C_below HR0.out HB.out) | (with_reducible refine Kd.C_alloc ?_ _) | (with_reducible refine Kd.C_drewN ?_ _) | (with_reducible refine Kd.C_drew ?_))); (case side2 => exact HC0.out); rintro e w12 ⟨rfl, hb⟩; refine ⟨_, rfl, ?_⟩; replace BK101 := Aside0.mk (blk_below (g := gb101) (bw BK101.out) hb); replace HB := Aside0.mk (below_step bel hb); (try clear hb); (try clear hb2); (try clear hk); (try clear hi); have p103 : 0 ≤ (t102 : Int) := dt; have q103 : t102 < (l0.length : Int) := dt; obtain ⟨ad103, A103_2, c103_2, e103, hx103_0, hx103_1, hx103_2, hl103_2, hi103_2⟩ := at_T107 HR0.out t102 p103 q103; cases e103; replace hx103_0 := (HB.out.cell (World.block_lt_of_cell? w _ hx103_0)).trans hx103_0; replace hx103_1 := (HB.out.cell (World.block_lt_of_cell? w _ hx103_1)).trans hx103_1; replace hx103_2 := (HB.out.cell (World.block_lt_of_cell? w _ hx103_2)).trans hx103_2; have HR103_2 := Aside0.mk hi103_2; have HC103_2 := Aside0.mk hl103_2; clear hi103_2 hl103_2; replace p103 := eq_true p103; replace q103 := eq_true q103; obtain ⟨hcz13_0, hcz13_1, hcz13_2, hfz13_0, hfz13_1, hfz13_2⟩ := cz3 BK101.out) | ((with_reducible refine gate_callee (f := 85) rfl ?_); refine goesL_ (some 19) rfl rfl Tryz.func85 (by kernel_rfl) rfl #[.slice A103_2 ((rd_T107 l0 t102).f2).length c103_2] rfl arg ?_; (with_reducible refine (api_Account_85.calls _ _ ((rd_T107 l0 t102).f2) t104 _ ?side1 ?side2 A10.out).mono ?_); (case side1 => exact Kd.C_below HR103_2.out bel); (case side2 => exact HC103_2.out); rintro e w14 ⟨v105, rfl, ho0, hb⟩; refine ⟨_, rfl, ?_⟩; have HO106 := Aside0.mk (Kd.R_lower ho0 (below_size bel)); replace BK101 := Aside0.mk (blk_below (g := gb101) (o := .cells #[.string ((rd_T107 l0 t102).f0), .int .i64 ((rd_T107 l0 t102).f1), .slice A103_2 ((rd_T107 l0 t102).f2).length c103_2] 107 (0, 0)) (bs BK101.out) hb); replace HB := Aside0.mk (below_step bel hb); (try clear hb); (try clear hb2); (try clear hk); (try clear hi); (try clear ho0); obtain ⟨Ao15, co15, eo15⟩ := Kd.R_slice HO106.out; subst eo15; obtain ⟨hcz16_0, hcz16_1, hcz16_2, hfz16_0, hfz16_1, hfz16_2⟩ := cz3 BK101.out))
        refine bodyPost_ret (results_ct rfl _ _ gb101 107 #[.string ((rd_T107 l0 t102).f0), .int .i64 ((rd_T107 l0 t102).f1), .slice Ao15 t104.length co15] (0, 0) _ rfl (bs BK101.out) Tryz.underlying107 rfl (by kernel_rfl)) rfl ?_
        exact ⟨_, ers, by (with_reducible repeat (first | apply Kd.R_alloc | apply Kd.R_drewN | apply Kd.R_drew)); exact Kd.R_mono (Kd.R_far (p := ⟨gb101, 2, none⟩) (Kd.R_far (p := ⟨gb101, 1, none⟩) (Kd.R_far (p := ⟨gb101, 0, none⟩) (Kd.R_far (p := ⟨gb101, 2, none⟩) (Kd.R_types HO106.out BK101.out (by decide)) (fun _ hk => hk.2) (.slice Ao15 t104.length co15)) (fun _ hk => hk.2) (.string ((rd_T107 l0 t102).f0))) (fun _ hk => hk.2) (.int .i64 ((rd_T107 l0 t102).f1))) (fun _ hk => hk.2) (.slice Ao15 t104.length co15)) (fun _ hk => trivial), bel⟩
      · rw [if_neg c9] at H
        exact absurd H (by simp)
    · rw [if_neg c8] at H
      exact absurd H (by simp)
end Go.Proofs.YtliooghmpkdmoaaGreatDoor.X
end
