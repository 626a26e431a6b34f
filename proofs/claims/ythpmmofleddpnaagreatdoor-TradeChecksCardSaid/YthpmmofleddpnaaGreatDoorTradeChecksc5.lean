/- For TradeChecks: contracts, and facts on lists and numbers, that it uses (part 5). -/
import Derived.Lib.SliceRun
import Derived.Test.YthpmmofleddpnaaGreatDoorTradeChecksc4
section
namespace Go.Proofs.YthpmmofleddpnaaGreatDoor.X
open Go.RowKit Go.Proofs.YthpmmofleddpnaaGreatDoorW.PrintWords Go.Proofs.YthpmmofleddpnaaGreatDoorW.PrintLast Go.Proofs.YthpmmofleddpnaaGreatDoorW.PrintMore
attribute [local go_sem] max2_int min2_int max_two min_two max_three min_three max_four min_four
set_option linter.unusedVariables false
set_option linter.unusedSimpArgs false
def member_kind.f (a0 : Int) : Option (Bool) := if a0 ≥ 1 then (some (decide (a0 ≤ 3))) else (some false)
set_option maxHeartbeats 8000000 in
set_option maxRecDepth 100000 in
theorem member_kind.calls (a0 : Int) (r : Bool) (w : World) (h : member_kind.f a0 = some r) :
    Calls Tryz.prog 88 #[.int .i64 a0] w fun e w' => e = .returned (.bool r) ∧ Drawn0 w w' := by
  have H : (if a0 ≥ 1 then (some (decide (a0 ≤ 3))) else (some false)) = some r := h
  clear h
  by_cases c2 : a0 ≥ 1
  · rw [if_pos c2] at H
    have c2b0 : decide (1 ≤ a0) = true := decide_eq_true c2
    clear c2
    obtain rfl := Option.some.inj H
    go_enter Tryz.func88, Tryz.ntmps88
    go_wp2
    go_ret
    exact ⟨eqs, drz⟩
  · rw [if_neg c2] at H
    have c2b0 : decide (1 ≤ a0) = false := decide_eq_false c2
    clear c2
    obtain rfl := Option.some.inj H
    go_enter Tryz.func88, Tryz.ntmps88
    go_wp2
    go_ret
    exact ⟨eqs, drz⟩
def nameE (b : Bool) (i : Nat) (p x : ByteArray) : Int := if b = true then (if 0 < i ∧ Op.bytesLess p.toList x.toList = false then 12 else 0) else 10
def accE (k : Nat) (l : List S151) : List S151 → Nat → Option Int
  | [], _ => some 0
  | a :: r, i => (words_Name.f k a.f0).bind fun b => if nameE b i (rd_T151 l ((i : Int) - 1)).f0 a.f0 = 0 then (if 1 ≤ a.f1 ∧ a.f1 ≤ 3 then accE k l r (i + 1) else some 21) else some (nameE b i (rd_T151 l ((i : Int) - 1)).f0 a.f0)
def memE (k : Nat) (l : List S148) : List S148 → Nat → Option Int
  | [], _ => some 0
  | m :: r, i => (words_Name.f k m.f0).bind fun b => if nameE b i (rd_T148 l ((i : Int) - 1)).f0 m.f0 = 0 then (if 1 ≤ m.f1 ∧ m.f1 ≤ 4 then (if m.f2.length ≤ 16 then (accE k m.f2 m.f2 0).bind fun e => if e = 0 then memE k l r (i + 1) else some e else some 8) else some 13) else some (nameE b i (rd_T148 l ((i : Int) - 1)).f0 m.f0)
def member_Check.f (k : Nat) (l : List S148) : Option Int := if 32 < l.length then some 8 else memE k l l 0
set_option maxHeartbeats 1600000 in
set_option maxRecDepth 100000 in
theorem litMn (g c n : Nat) (ad : Addr) (i : Nat) (x : ByteArray) (w : World) (hg : w.heap[g]? = some (.cells #[.slice (some ad) n c] 29 (0, 0))) (hi : i < n) (hx : w.cell? (ad.add (i * 3)) = some (.string x)) :
    Calls Tryz.prog 86 #[.int .i64 (i : Int), .pointer (some ⟨g, 0, none⟩)] w fun e w' => e = .returned (.string x) ∧ Below w.heap.size w w' := by
  have hc0 : w.cell? ⟨g, 0, none⟩ = some (.slice (some ad) n c) := blk_cell hg 0
  have p0 := eq_true (show 0 ≤ (i : Int) by omega)
  have q0 := eq_true (show (i : Int) < (n : Int) by omega)
  clear hg hi
  go_enter Tryz.func86, Tryz.ntmps86
  go_wp2
  go_ret
  exact ⟨eqs, Below.refl _ _⟩
set_option maxHeartbeats 1600000 in
set_option maxRecDepth 100000 in
theorem nmM_calls (k : Nat) (g c n : Nat) (ad : Addr) (i : Nat) (x p : ByteArray) (b : Bool) (w : World) (hg : w.heap[g]? = some (.cells #[.slice (some ad) n c] 29 (0, 0))) (hn : n ≤ 4611686018427387904) (hi : i < n) (hx : w.cell? (ad.add (i * 3)) = some (.string x)) (hp : 0 < i → w.cell? (ad.add ((i - 1) * 3)) = some (.string p)) (hb : words_Name.f k x = some b) :
    Calls Tryz.prog 85 #[.func (.func 86) #[] #[.pointer (some ⟨g, 0, none⟩)], .int .i64 (i : Int)] w fun e w' => e = .returned (.int .i64 (nameE b i p x)) ∧ Below w.heap.size w w' := by
  have HG := Aside0.mk hg
  have HX := Aside0.mk hx
  have HN := Aside0.mk hb
  have HI := Aside0.mk hi
  have HB := Aside0.mk (Below.refl w.heap.size w)
  clear hg hx hb
  cases b with
  | false =>
    have HP := Aside0.mk hp
    clear hp hi hn
    go_enter Tryz.func85, Tryz.ntmps85
    go_wp2_with (first | (go_at_call 86; with_reducible refine (litMn g c n ad i x _ HG.out (by have := HI.out; omega) HX.out).mono ?_; rintro e1 w1 ⟨rfl, hb1⟩; have HB := Aside0.mk (below_step HB.out hb1); have HG := Aside0.mk (blk_below HG.out hb1); have HX := Aside0.mk ((hb1.cell (World.block_lt_of_cell? _ _ HX.out)).trans HX.out); have HP := Aside0.mk (fun hq => (hb1.cell (World.block_lt_of_cell? _ _ (HP.out hq))).trans (HP.out hq)); clear hb1) | (go_at_call 48; refine (words_Name.calls k x _ _ HN.out).mono ?_; rintro e1 w1 ⟨rfl, hd1⟩; have hb1 := hd1.below; have HB := Aside0.mk (below_step HB.out hb1); have HG := Aside0.mk (blk_below HG.out hb1); have HX := Aside0.mk ((hb1.cell (World.block_lt_of_cell? _ _ HX.out)).trans HX.out); have HP := Aside0.mk (fun hq => (hb1.cell (World.block_lt_of_cell? _ _ (HP.out hq))).trans (HP.out hq)); clear hb1 hd1))
    go_ret
    exact ⟨rfl, HB.out⟩
  | true =>
    by_cases h0 : 0 < i
    · obtain ⟨j, hj⟩ : ∃ j, j = i - 1 := ⟨_, rfl⟩
      have hgt := eq_true (show 0 < i from h0)
      have HW := Aside0.mk (show Go.RowKit.wrap64 ((i : Int) - 1) = (j : Int) by unfold wrap64; omega)
      have hw := HW.out
      have HP := Aside0.mk hp
      rw [← hj] at HP
      have HIJ := Aside0.mk h0
      have HI := Aside0.mk (show i < n ∧ j < n by omega)
      clear hp hj hn hi
      cases hl : Op.bytesLess p.toList x.toList with
      | true =>
        have HE := Aside0.mk (show nameE true i p x = 0 by unfold nameE; rw [if_pos rfl, if_neg (by rw [hl]; simp)])
        rw [HE.out]
        clear HE h0
        go_enter Tryz.func85, Tryz.ntmps85
        go_wp2_with (first | (go_at_call 86; with_reducible refine (litMn g c n ad i x _ HG.out (by have := HI.out; omega) HX.out).mono ?_; rintro e1 w1 ⟨rfl, hb1⟩; have HB := Aside0.mk (below_step HB.out hb1); have HG := Aside0.mk (blk_below HG.out hb1); have HX := Aside0.mk ((hb1.cell (World.block_lt_of_cell? _ _ HX.out)).trans HX.out); have HP := Aside0.mk (fun hq => (hb1.cell (World.block_lt_of_cell? _ _ (HP.out hq))).trans (HP.out hq)); clear hb1) | (go_at_call 48; refine (words_Name.calls k x _ _ HN.out).mono ?_; rintro e1 w1 ⟨rfl, hd1⟩; have hb1 := hd1.below; have HB := Aside0.mk (below_step HB.out hb1); have HG := Aside0.mk (blk_below HG.out hb1); have HX := Aside0.mk ((hb1.cell (World.block_lt_of_cell? _ _ HX.out)).trans HX.out); have HP := Aside0.mk (fun hq => (hb1.cell (World.block_lt_of_cell? _ _ (HP.out hq))).trans (HP.out hq)); clear hb1 hd1) | (go_at_call 86; with_reducible refine (litMn g c n ad j p _ HG.out (by have := HI.out; omega) (HP.out HIJ.out)).mono ?_; rintro e1 w1 ⟨rfl, hb1⟩; have HB := Aside0.mk (below_step HB.out hb1); have HG := Aside0.mk (blk_below HG.out hb1); have HX := Aside0.mk ((hb1.cell (World.block_lt_of_cell? _ _ HX.out)).trans HX.out); have HP := Aside0.mk (fun hq => (hb1.cell (World.block_lt_of_cell? _ _ (HP.out hq))).trans (HP.out hq)); clear hb1) | (go_at_call 86; rw [HW.out]; with_reducible refine (litMn g c n ad j p _ HG.out (by have := HI.out; omega) (HP.out HIJ.out)).mono ?_; rintro e1 w1 ⟨rfl, hb1⟩; have HB := Aside0.mk (below_step HB.out hb1); have HG := Aside0.mk (blk_below HG.out hb1); have HX := Aside0.mk ((hb1.cell (World.block_lt_of_cell? _ _ HX.out)).trans HX.out); have HP := Aside0.mk (fun hq => (hb1.cell (World.block_lt_of_cell? _ _ (HP.out hq))).trans (HP.out hq)); clear hb1))
        go_ret
        exact ⟨rfl, HB.out⟩
      | false =>
        have HE := Aside0.mk (show nameE true i p x = 12 by unfold nameE; rw [if_pos rfl, if_pos ⟨h0, hl⟩])
        rw [HE.out]
        clear HE h0
        go_enter Tryz.func85, Tryz.ntmps85
        go_wp2_with (first | (go_at_call 86; with_reducible refine (litMn g c n ad i x _ HG.out (by have := HI.out; omega) HX.out).mono ?_; rintro e1 w1 ⟨rfl, hb1⟩; have HB := Aside0.mk (below_step HB.out hb1); have HG := Aside0.mk (blk_below HG.out hb1); have HX := Aside0.mk ((hb1.cell (World.block_lt_of_cell? _ _ HX.out)).trans HX.out); have HP := Aside0.mk (fun hq => (hb1.cell (World.block_lt_of_cell? _ _ (HP.out hq))).trans (HP.out hq)); clear hb1) | (go_at_call 48; refine (words_Name.calls k x _ _ HN.out).mono ?_; rintro e1 w1 ⟨rfl, hd1⟩; have hb1 := hd1.below; have HB := Aside0.mk (below_step HB.out hb1); have HG := Aside0.mk (blk_below HG.out hb1); have HX := Aside0.mk ((hb1.cell (World.block_lt_of_cell? _ _ HX.out)).trans HX.out); have HP := Aside0.mk (fun hq => (hb1.cell (World.block_lt_of_cell? _ _ (HP.out hq))).trans (HP.out hq)); clear hb1 hd1) | (go_at_call 86; with_reducible refine (litMn g c n ad j p _ HG.out (by have := HI.out; omega) (HP.out HIJ.out)).mono ?_; rintro e1 w1 ⟨rfl, hb1⟩; have HB := Aside0.mk (below_step HB.out hb1); have HG := Aside0.mk (blk_below HG.out hb1); have HX := Aside0.mk ((hb1.cell (World.block_lt_of_cell? _ _ HX.out)).trans HX.out); have HP := Aside0.mk (fun hq => (hb1.cell (World.block_lt_of_cell? _ _ (HP.out hq))).trans (HP.out hq)); clear hb1) | (go_at_call 86; rw [HW.out]; with_reducible refine (litMn g c n ad j p _ HG.out (by have := HI.out; omega) (HP.out HIJ.out)).mono ?_; rintro e1 w1 ⟨rfl, hb1⟩; have HB := Aside0.mk (below_step HB.out hb1); have HG := Aside0.mk (blk_below HG.out hb1); have HX := Aside0.mk ((hb1.cell (World.block_lt_of_cell? _ _ HX.out)).trans HX.out); have HP := Aside0.mk (fun hq => (hb1.cell (World.block_lt_of_cell? _ _ (HP.out hq))).trans (HP.out hq)); clear hb1))
        go_ret
        exact ⟨rfl, HB.out⟩
    · have hgt := eq_false (show ¬ 0 < i from h0)
      have HE := Aside0.mk (show nameE true i p x = 0 by unfold nameE; rw [if_pos rfl, if_neg (fun h => h0 h.1)])
      rw [HE.out]
      have HP := Aside0.mk hp
      clear HE hp hi hn h0
      go_enter Tryz.func85, Tryz.ntmps85
      go_wp2_with (first | (go_at_call 86; with_reducible refine (litMn g c n ad i x _ HG.out (by have := HI.out; omega) HX.out).mono ?_; rintro e1 w1 ⟨rfl, hb1⟩; have HB := Aside0.mk (below_step HB.out hb1); have HG := Aside0.mk (blk_below HG.out hb1); have HX := Aside0.mk ((hb1.cell (World.block_lt_of_cell? _ _ HX.out)).trans HX.out); have HP := Aside0.mk (fun hq => (hb1.cell (World.block_lt_of_cell? _ _ (HP.out hq))).trans (HP.out hq)); clear hb1) | (go_at_call 48; refine (words_Name.calls k x _ _ HN.out).mono ?_; rintro e1 w1 ⟨rfl, hd1⟩; have hb1 := hd1.below; have HB := Aside0.mk (below_step HB.out hb1); have HG := Aside0.mk (blk_below HG.out hb1); have HX := Aside0.mk ((hb1.cell (World.block_lt_of_cell? _ _ HX.out)).trans HX.out); have HP := Aside0.mk (fun hq => (hb1.cell (World.block_lt_of_cell? _ _ (HP.out hq))).trans (HP.out hq)); clear hb1 hd1))
      go_ret
      exact ⟨rfl, HB.out⟩
set_option maxHeartbeats 1600000 in
set_option maxRecDepth 100000 in
theorem litAn (s0 : ByteArray) (s1 : Int) (g c n : Nat) (ad : Addr) (i : Nat) (x : ByteArray) (w : World) (hg : w.heap[g]? = some (.cells #[.string s0, .int .i64 s1, .slice (some ad) n c] 148 (0, 0))) (hi : i < n) (hx : w.cell? (ad.add (i * 2)) = some (.string x)) :
    Calls Tryz.prog 87 #[.int .i64 (i : Int), .pointer (some ⟨g, 0, none⟩)] w fun e w' => e = .returned (.string x) ∧ Below w.heap.size w w' := by
  have hc0 : w.cell? ⟨g, 2, none⟩ = some (.slice (some ad) n c) := blk_cell hg 2
  have p0 := eq_true (show 0 ≤ (i : Int) by omega)
  have q0 := eq_true (show (i : Int) < (n : Int) by omega)
  clear hg hi
  go_enter Tryz.func87, Tryz.ntmps87
  go_wp2
  go_ret
  exact ⟨eqs, Below.refl _ _⟩
set_option maxHeartbeats 1600000 in
set_option maxRecDepth 100000 in
theorem nmA_calls (k : Nat) (s0 : ByteArray) (s1 : Int) (g c n : Nat) (ad : Addr) (i : Nat) (x p : ByteArray) (b : Bool) (w : World) (hg : w.heap[g]? = some (.cells #[.string s0, .int .i64 s1, .slice (some ad) n c] 148 (0, 0))) (hn : n ≤ 4611686018427387904) (hi : i < n) (hx : w.cell? (ad.add (i * 2)) = some (.string x)) (hp : 0 < i → w.cell? (ad.add ((i - 1) * 2)) = some (.string p)) (hb : words_Name.f k x = some b) :
    Calls Tryz.prog 85 #[.func (.func 87) #[] #[.pointer (some ⟨g, 0, none⟩)], .int .i64 (i : Int)] w fun e w' => e = .returned (.int .i64 (nameE b i p x)) ∧ Below w.heap.size w w' := by
  have HG := Aside0.mk hg
  have HX := Aside0.mk hx
  have HN := Aside0.mk hb
  have HI := Aside0.mk hi
  have HB := Aside0.mk (Below.refl w.heap.size w)
  clear hg hx hb
  cases b with
  | false =>
    have HP := Aside0.mk hp
    clear hp hi hn
    go_enter Tryz.func85, Tryz.ntmps85
    go_wp2_with (first | (go_at_call 87; with_reducible refine (litAn s0 s1 g c n ad i x _ HG.out (by have := HI.out; omega) HX.out).mono ?_; rintro e1 w1 ⟨rfl, hb1⟩; have HB := Aside0.mk (below_step HB.out hb1); have HG := Aside0.mk (blk_below HG.out hb1); have HX := Aside0.mk ((hb1.cell (World.block_lt_of_cell? _ _ HX.out)).trans HX.out); have HP := Aside0.mk (fun hq => (hb1.cell (World.block_lt_of_cell? _ _ (HP.out hq))).trans (HP.out hq)); clear hb1) | (go_at_call 48; refine (words_Name.calls k x _ _ HN.out).mono ?_; rintro e1 w1 ⟨rfl, hd1⟩; have hb1 := hd1.below; have HB := Aside0.mk (below_step HB.out hb1); have HG := Aside0.mk (blk_below HG.out hb1); have HX := Aside0.mk ((hb1.cell (World.block_lt_of_cell? _ _ HX.out)).trans HX.out); have HP := Aside0.mk (fun hq => (hb1.cell (World.block_lt_of_cell? _ _ (HP.out hq))).trans (HP.out hq)); clear hb1 hd1))
    go_ret
    exact ⟨rfl, HB.out⟩
  | true =>
    by_cases h0 : 0 < i
    · obtain ⟨j, hj⟩ : ∃ j, j = i - 1 := ⟨_, rfl⟩
      have hgt := eq_true (show 0 < i from h0)
      have HW := Aside0.mk (show Go.RowKit.wrap64 ((i : Int) - 1) = (j : Int) by unfold wrap64; omega)
      have hw := HW.out
      have HP := Aside0.mk hp
      rw [← hj] at HP
      have HIJ := Aside0.mk h0
      have HI := Aside0.mk (show i < n ∧ j < n by omega)
      clear hp hj hn hi
      cases hl : Op.bytesLess p.toList x.toList with
      | true =>
        have HE := Aside0.mk (show nameE true i p x = 0 by unfold nameE; rw [if_pos rfl, if_neg (by rw [hl]; simp)])
        rw [HE.out]
        clear HE h0
        go_enter Tryz.func85, Tryz.ntmps85
        go_wp2_with (first | (go_at_call 87; with_reducible refine (litAn s0 s1 g c n ad i x _ HG.out (by have := HI.out; omega) HX.out).mono ?_; rintro e1 w1 ⟨rfl, hb1⟩; have HB := Aside0.mk (below_step HB.out hb1); have HG := Aside0.mk (blk_below HG.out hb1); have HX := Aside0.mk ((hb1.cell (World.block_lt_of_cell? _ _ HX.out)).trans HX.out); have HP := Aside0.mk (fun hq => (hb1.cell (World.block_lt_of_cell? _ _ (HP.out hq))).trans (HP.out hq)); clear hb1) | (go_at_call 48; refine (words_Name.calls k x _ _ HN.out).mono ?_; rintro e1 w1 ⟨rfl, hd1⟩; have hb1 := hd1.below; have HB := Aside0.mk (below_step HB.out hb1); have HG := Aside0.mk (blk_below HG.out hb1); have HX := Aside0.mk ((hb1.cell (World.block_lt_of_cell? _ _ HX.out)).trans HX.out); have HP := Aside0.mk (fun hq => (hb1.cell (World.block_lt_of_cell? _ _ (HP.out hq))).trans (HP.out hq)); clear hb1 hd1) | (go_at_call 87; with_reducible refine (litAn s0 s1 g c n ad j p _ HG.out (by have := HI.out; omega) (HP.out HIJ.out)).mono ?_; rintro e1 w1 ⟨rfl, hb1⟩; have HB := Aside0.mk (below_step HB.out hb1); have HG := Aside0.mk (blk_below HG.out hb1); have HX := Aside0.mk ((hb1.cell (World.block_lt_of_cell? _ _ HX.out)).trans HX.out); have HP := Aside0.mk (fun hq => (hb1.cell (World.block_lt_of_cell? _ _ (HP.out hq))).trans (HP.out hq)); clear hb1) | (go_at_call 87; rw [HW.out]; with_reducible refine (litAn s0 s1 g c n ad j p _ HG.out (by have := HI.out; omega) (HP.out HIJ.out)).mono ?_; rintro e1 w1 ⟨rfl, hb1⟩; have HB := Aside0.mk (below_step HB.out hb1); have HG := Aside0.mk (blk_below HG.out hb1); have HX := Aside0.mk ((hb1.cell (World.block_lt_of_cell? _ _ HX.out)).trans HX.out); have HP := Aside0.mk (fun hq => (hb1.cell (World.block_lt_of_cell? _ _ (HP.out hq))).trans (HP.out hq)); clear hb1))
        go_ret
        exact ⟨rfl, HB.out⟩
      | false =>
        have HE := Aside0.mk (show nameE true i p x = 12 by unfold nameE; rw [if_pos rfl, if_pos ⟨h0, hl⟩])
        rw [HE.out]
        clear HE h0
        go_enter Tryz.func85, Tryz.ntmps85
        go_wp2_with (first | (go_at_call 87; with_reducible refine (litAn s0 s1 g c n ad i x _ HG.out (by have := HI.out; omega) HX.out).mono ?_; rintro e1 w1 ⟨rfl, hb1⟩; have HB := Aside0.mk (below_step HB.out hb1); have HG := Aside0.mk (blk_below HG.out hb1); have HX := Aside0.mk ((hb1.cell (World.block_lt_of_cell? _ _ HX.out)).trans HX.out); have HP := Aside0.mk (fun hq => (hb1.cell (World.block_lt_of_cell? _ _ (HP.out hq))).trans (HP.out hq)); clear hb1) | (go_at_call 48; refine (words_Name.calls k x _ _ HN.out).mono ?_; rintro e1 w1 ⟨rfl, hd1⟩; have hb1 := hd1.below; have HB := Aside0.mk (below_step HB.out hb1); have HG := Aside0.mk (blk_below HG.out hb1); have HX := Aside0.mk ((hb1.cell (World.block_lt_of_cell? _ _ HX.out)).trans HX.out); have HP := Aside0.mk (fun hq => (hb1.cell (World.block_lt_of_cell? _ _ (HP.out hq))).trans (HP.out hq)); clear hb1 hd1) | (go_at_call 87; with_reducible refine (litAn s0 s1 g c n ad j p _ HG.out (by have := HI.out; omega) (HP.out HIJ.out)).mono ?_; rintro e1 w1 ⟨rfl, hb1⟩; have HB := Aside0.mk (below_step HB.out hb1); have HG := Aside0.mk (blk_below HG.out hb1); have HX := Aside0.mk ((hb1.cell (World.block_lt_of_cell? _ _ HX.out)).trans HX.out); have HP := Aside0.mk (fun hq => (hb1.cell (World.block_lt_of_cell? _ _ (HP.out hq))).trans (HP.out hq)); clear hb1) | (go_at_call 87; rw [HW.out]; with_reducible refine (litAn s0 s1 g c n ad j p _ HG.out (by have := HI.out; omega) (HP.out HIJ.out)).mono ?_; rintro e1 w1 ⟨rfl, hb1⟩; have HB := Aside0.mk (below_step HB.out hb1); have HG := Aside0.mk (blk_below HG.out hb1); have HX := Aside0.mk ((hb1.cell (World.block_lt_of_cell? _ _ HX.out)).trans HX.out); have HP := Aside0.mk (fun hq => (hb1.cell (World.block_lt_of_cell? _ _ (HP.out hq))).trans (HP.out hq)); clear hb1))
        go_ret
        exact ⟨rfl, HB.out⟩
    · have hgt := eq_false (show ¬ 0 < i from h0)
      have HE := Aside0.mk (show nameE true i p x = 0 by unfold nameE; rw [if_pos rfl, if_neg (fun h => h0 h.1)])
      rw [HE.out]
      have HP := Aside0.mk hp
      clear HE hp hi hn h0
      go_enter Tryz.func85, Tryz.ntmps85
      go_wp2_with (first | (go_at_call 87; with_reducible refine (litAn s0 s1 g c n ad i x _ HG.out (by have := HI.out; omega) HX.out).mono ?_; rintro e1 w1 ⟨rfl, hb1⟩; have HB := Aside0.mk (below_step HB.out hb1); have HG := Aside0.mk (blk_below HG.out hb1); have HX := Aside0.mk ((hb1.cell (World.block_lt_of_cell? _ _ HX.out)).trans HX.out); have HP := Aside0.mk (fun hq => (hb1.cell (World.block_lt_of_cell? _ _ (HP.out hq))).trans (HP.out hq)); clear hb1) | (go_at_call 48; refine (words_Name.calls k x _ _ HN.out).mono ?_; rintro e1 w1 ⟨rfl, hd1⟩; have hb1 := hd1.below; have HB := Aside0.mk (below_step HB.out hb1); have HG := Aside0.mk (blk_below HG.out hb1); have HX := Aside0.mk ((hb1.cell (World.block_lt_of_cell? _ _ HX.out)).trans HX.out); have HP := Aside0.mk (fun hq => (hb1.cell (World.block_lt_of_cell? _ _ (HP.out hq))).trans (HP.out hq)); clear hb1 hd1))
      go_ret
      exact ⟨rfl, HB.out⟩
set_option maxHeartbeats 3200000 in
set_option maxRecDepth 100000 in
theorem member_Check.calls (k : Nat) (A0 : Option Addr) (c0 : Nat) (l0 : List S148) (r : Int) (w : World) (hr0 : Kd.C k148 w A0 l0.length l0) (hc0 : l0.length ≤ c0) (h : member_Check.f k l0 = some r) :
    Calls Tryz.prog 35 #[.slice A0 l0.length c0] w fun e w' => e = .returned (.int .i64 r) ∧ Below w.heap.size w w' := by
  unfold member_Check.f at h
  have HR := Aside0.mk hr0
  by_cases h32 : 32 < l0.length
  · rw [if_pos h32] at h
    obtain rfl := Option.some.inj h
    have hd := decide_eq_true (show (32 : Int) < (l0.length : Int) by omega)
    clear h h32 hr0 hc0
    go_enter Tryz.func35, Tryz.ntmps35
    go_wp2_with fail
    go_ret
    exact ⟨rfl, below_alloc (Below.refl _ _) _⟩
  rw [if_neg h32] at h
  have hd := decide_eq_false (show ¬ (32 : Int) < (l0.length : Int) by omega)
  have HL := Aside0.mk (show l0.length ≤ 32 by omega)
  have HF0 := Aside0.mk h
  clear h h32 hr0 hc0
  go_enter Tryz.func35, Tryz.ntmps35
  go_wp2_with fail
  go_loopg [12] l0.length (fun kq v12 wr => ∃ i : Nat, v12 = .int .i64 (i : Int) ∧ Aside0 (kq + i = l0.length) ∧ Aside0 (memE k l0 (l0.drop i) i = some r) ∧ Aside0 (wr.heap[w.heap.size]? = some (.cells #[.slice A0 l0.length c0] 29 (0, 0))) ∧ Aside0 (Below w.heap.size w wr))
  case atStart => exact ⟨0, rfl, ⟨by omega⟩, HF0, ⟨blk_new _ _⟩, ⟨below_alloc (Below.refl _ _) _⟩⟩
  case round =>
    obtain ⟨i, rfl, HK, HF, HG, HB⟩ := hrel
    obtain ⟨wo, hwo⟩ : ∃ wo, wo = wr := ⟨_, rfl⟩
    subst hwo
    have hl32 := HL.out
    clear hd HF0
    by_cases hlt : i < l0.length
    · obtain ⟨k', rfl⟩ : ∃ k', gk = k' + 1 := ⟨gk - 1, by have := HK.out; omega⟩
      have hti : rd_T148 l0 (i : Int) = l0[i] := by simp [rd_T148, hlt]
      obtain ⟨ad, A2, c2, ea, hx0, hx1, hx2, hl2, hr2⟩ := at_T148 (Kd.C_below HR.out HB.out) (i : Int) (by omega) (by omega)
      cases ea
      obtain ⟨p, hpd⟩ : ∃ p, (rd_T148 l0 ((i : Int) - 1)).f0 = p := ⟨_, rfl⟩
      have HP := Aside0.mk (show 0 < i → wo.cell? (ad.add ((i - 1) * 3)) = some (.string p) from fun h0 => by
        obtain ⟨ad', A2', c2', ea', hy0, _, _, _, _⟩ := at_T148 (Kd.C_below HR.out HB.out) ((i : Int) - 1) (by omega) (by omega)
        obtain rfl := Option.some.inj ea'
        rw [hpd, show ((i : Int) - 1).toNat = i - 1 by omega] at hy0
        exact hy0)
      rw [Int.toNat_natCast] at hx0 hx1 hx2
      rw [hti] at hx0 hx1 hx2 hl2 hr2
      have hf := HF.out
      rw [(List.getElem_cons_drop hlt).symm, memE, hpd] at hf
      generalize l0[i] = t at hx0 hx1 hx2 hl2 hr2 hf
      have HI := Aside0.mk hlt
      have HX := Aside0.mk hx0
      have HRA := Aside0.mk hr2
      obtain ⟨b, hb, hf⟩ := Option.bind_eq_some_iff.1 hf
      have HN := Aside0.mk hb
      have p0 := eq_true (show 0 ≤ (i : Int) by omega)
      have q0 := eq_true (show (i : Int) < (l0.length : Int) by omega)
      clear hti HF hpd hr2 hb
      by_cases hne : nameE b i p t.f0 = 0
      case neg =>
        rw [if_neg hne] at hf
        obtain ⟨ne, hn⟩ : ∃ ne, nameE b i p t.f0 = ne := ⟨_, rfl⟩
        rw [hn] at hf hne
        obtain rfl := Option.some.inj hf
        have hbn : (ne != 0) = true := bne_iff_ne.2 hne
        have HE := Aside0.mk hn
        clear hf hne hl2 hn
        go_wp2_with (go_at_call 85; refine (nmM_calls k w.heap.size c0 l0.length ad i t.f0 p b _ (blk_alloc HG.out _) (by have := HL.out; omega) HI.out (((below_alloc (Below.refl wo.heap.size wo) _).cell (World.block_lt_of_cell? _ _ HX.out)).trans HX.out) (fun h0 => ((below_alloc (Below.refl wo.heap.size wo) _).cell (World.block_lt_of_cell? _ _ (HP.out h0))).trans (HP.out h0)) HN.out).mono ?_; rw [HE.out]; rintro e1_ w1 ⟨rfl, hb1⟩; have HB1 := Aside0.mk (below_step (below_alloc HB.out _) hb1); have HG1 := Aside0.mk (blk_below (blk_alloc HG.out _) hb1); have HM1 := Aside0.mk (blk_below (blk_new wo _) hb1); have HRA1 := Aside0.mk (Kd.C_below (Kd.C_alloc HRA.out _) hb1); have hm1 := blk_cell HM1.out 1; have hm2 := blk_cell HM1.out 2; clear hb1)
        go_ret
        exact ⟨rfl, HB1.out⟩
      rw [if_pos hne] at hf
      have HE := Aside0.mk hne
      clear hne
      have hst : (¬ (1 ≤ t.f1 ∧ t.f1 ≤ 4) ∧ r = 13) ∨ ((1 ≤ t.f1 ∧ t.f1 ≤ 4) ∧ ((16 < t.f2.length ∧ r = 8) ∨ (t.f2.length ≤ 16 ∧ ∃ e, accE k t.f2 t.f2 0 = some e ∧ ((e = 0 ∧ memE k l0 (l0.drop (i + 1)) (i + 1) = some r) ∨ (e ≠ 0 ∧ r = e))))) := by
        by_cases c1 : 1 ≤ t.f1 ∧ t.f1 ≤ 4
        · rw [if_pos c1] at hf
          by_cases c2 : t.f2.length ≤ 16
          · rw [if_pos c2] at hf
            obtain ⟨e, he, hf⟩ := Option.bind_eq_some_iff.1 hf
            by_cases c3 : e = 0
            · rw [if_pos c3] at hf; exact Or.inr ⟨c1, Or.inr ⟨c2, e, he, Or.inl ⟨c3, hf⟩⟩⟩
            · rw [if_neg c3] at hf; exact Or.inr ⟨c1, Or.inr ⟨c2, e, he, Or.inr ⟨c3, (Option.some.inj hf).symm⟩⟩⟩
          · rw [if_neg c2] at hf; exact Or.inr ⟨c1, Or.inl ⟨by omega, (Option.some.inj hf).symm⟩⟩
        · rw [if_neg c1] at hf; exact Or.inl ⟨c1, (Option.some.inj hf).symm⟩
      clear hf
      rcases hst with ⟨c1, rfl⟩ | ⟨c1, hst⟩
      · by_cases d1 : t.f1 < 1
        · have hd1 := decide_eq_true d1
          have hd1' := eq_true d1
          clear c1 hl2 d1
          go_wp2_with (go_at_call 85; refine (nmM_calls k w.heap.size c0 l0.length ad i t.f0 p b _ (blk_alloc HG.out _) (by have := HL.out; omega) HI.out (((below_alloc (Below.refl wo.heap.size wo) _).cell (World.block_lt_of_cell? _ _ HX.out)).trans HX.out) (fun h0 => ((below_alloc (Below.refl wo.heap.size wo) _).cell (World.block_lt_of_cell? _ _ (HP.out h0))).trans (HP.out h0)) HN.out).mono ?_; rw [HE.out]; rintro e1_ w1 ⟨rfl, hb1⟩; have HB1 := Aside0.mk (below_step (below_alloc HB.out _) hb1); have HG1 := Aside0.mk (blk_below (blk_alloc HG.out _) hb1); have HM1 := Aside0.mk (blk_below (blk_new wo _) hb1); have HRA1 := Aside0.mk (Kd.C_below (Kd.C_alloc HRA.out _) hb1); have hm1 := blk_cell HM1.out 1; have hm2 := blk_cell HM1.out 2; clear hb1)
          go_ret
          exact ⟨rfl, HB1.out⟩
        · have hd1 := decide_eq_false d1
          have hd2 := decide_eq_true (show 4 < t.f1 by omega)
          clear c1 hl2 d1
          go_wp2_with (go_at_call 85; refine (nmM_calls k w.heap.size c0 l0.length ad i t.f0 p b _ (blk_alloc HG.out _) (by have := HL.out; omega) HI.out (((below_alloc (Below.refl wo.heap.size wo) _).cell (World.block_lt_of_cell? _ _ HX.out)).trans HX.out) (fun h0 => ((below_alloc (Below.refl wo.heap.size wo) _).cell (World.block_lt_of_cell? _ _ (HP.out h0))).trans (HP.out h0)) HN.out).mono ?_; rw [HE.out]; rintro e1_ w1 ⟨rfl, hb1⟩; have HB1 := Aside0.mk (below_step (below_alloc HB.out _) hb1); have HG1 := Aside0.mk (blk_below (blk_alloc HG.out _) hb1); have HM1 := Aside0.mk (blk_below (blk_new wo _) hb1); have HRA1 := Aside0.mk (Kd.C_below (Kd.C_alloc HRA.out _) hb1); have hm1 := blk_cell HM1.out 1; have hm2 := blk_cell HM1.out 2; clear hb1)
          go_ret
          exact ⟨rfl, HB1.out⟩
      have hd1 := decide_eq_false (show ¬ t.f1 < 1 by omega)
      have hd2 := decide_eq_false (show ¬ 4 < t.f1 by omega)
      clear c1
      rcases hst with ⟨c2, rfl⟩ | ⟨c2, e1, he1, hst⟩
      · have hd3 := decide_eq_true (show (16 : Int) < (t.f2.length : Int) by omega)
        clear c2 hl2
        go_wp2_with (go_at_call 85; refine (nmM_calls k w.heap.size c0 l0.length ad i t.f0 p b _ (blk_alloc HG.out _) (by have := HL.out; omega) HI.out (((below_alloc (Below.refl wo.heap.size wo) _).cell (World.block_lt_of_cell? _ _ HX.out)).trans HX.out) (fun h0 => ((below_alloc (Below.refl wo.heap.size wo) _).cell (World.block_lt_of_cell? _ _ (HP.out h0))).trans (HP.out h0)) HN.out).mono ?_; rw [HE.out]; rintro e1_ w1 ⟨rfl, hb1⟩; have HB1 := Aside0.mk (below_step (below_alloc HB.out _) hb1); have HG1 := Aside0.mk (blk_below (blk_alloc HG.out _) hb1); have HM1 := Aside0.mk (blk_below (blk_new wo _) hb1); have HRA1 := Aside0.mk (Kd.C_below (Kd.C_alloc HRA.out _) hb1); have hm1 := blk_cell HM1.out 1; have hm2 := blk_cell HM1.out 2; clear hb1)
        go_ret
        exact ⟨rfl, HB1.out⟩
      have hd3 := decide_eq_false (show ¬ (16 : Int) < (t.f2.length : Int) by omega)
      have HAE := Aside0.mk he1
      have HST := Aside0.mk hst
      have HL2 := Aside0.mk hl2
      have HL16 := Aside0.mk c2
      clear c2 hl2 he1 hst
      go_wp2_with (go_at_call 85; refine (nmM_calls k w.heap.size c0 l0.length ad i t.f0 p b _ (blk_alloc HG.out _) (by have := HL.out; omega) HI.out (((below_alloc (Below.refl wo.heap.size wo) _).cell (World.block_lt_of_cell? _ _ HX.out)).trans HX.out) (fun h0 => ((below_alloc (Below.refl wo.heap.size wo) _).cell (World.block_lt_of_cell? _ _ (HP.out h0))).trans (HP.out h0)) HN.out).mono ?_; rw [HE.out]; rintro e1_ w1 ⟨rfl, hb1⟩; have HB1 := Aside0.mk (below_step (below_alloc HB.out _) hb1); have HG1 := Aside0.mk (blk_below (blk_alloc HG.out _) hb1); have HM1 := Aside0.mk (blk_below (blk_new wo _) hb1); have HRA1 := Aside0.mk (Kd.C_below (Kd.C_alloc HRA.out _) hb1); have hm1 := blk_cell HM1.out 1; have hm2 := blk_cell HM1.out 2; clear hb1)
      clear hm1 hm2 hd1 hd2 hd3 p0 q0 hx0 hx1 hx2
      go_loopg [38] t.f2.length (fun kq v38 wr => ∃ j : Nat, v38 = .int .i64 (j : Int) ∧ Aside0 (kq + j = t.f2.length) ∧ Aside0 (accE k t.f2 (t.f2.drop j) j = some e1) ∧ Aside0 (Below w1.heap.size w1 wr))
      case atStart => exact ⟨0, rfl, ⟨by omega⟩, HAE, ⟨Below.refl _ _⟩⟩
      case round =>
        obtain ⟨j, rfl, HKi, HFi, HBi⟩ := hrel
        clear HAE
        have HGi := Aside0.mk (blk_below HG1.out HBi.out)
        have HMi := Aside0.mk (blk_below HM1.out HBi.out)
        by_cases hlj : j < t.f2.length
        · have htj : rd_T151 t.f2 (j : Int) = t.f2[j] := by simp [rd_T151, hlj]
          obtain ⟨ad2, ea2, hy0, hy1⟩ := at_T151 (Kd.C_below HRA1.out HBi.out) (j : Int) (by omega) (by omega)
          cases ea2
          obtain ⟨p2, hpd2⟩ : ∃ p2, (rd_T151 t.f2 ((j : Int) - 1)).f0 = p2 := ⟨_, rfl⟩
          have HP2 := Aside0.mk (show 0 < j → wr.cell? (ad2.add ((j - 1) * 2)) = some (.string p2) from fun h0 => by
            obtain ⟨ad', ea', hz0, _⟩ := at_T151 (Kd.C_below HRA1.out HBi.out) ((j : Int) - 1) (by omega) (by omega)
            obtain rfl := Option.some.inj ea'
            rw [hpd2, show ((j : Int) - 1).toNat = j - 1 by omega] at hz0
            exact hz0)
          rw [Int.toNat_natCast] at hy0 hy1
          rw [htj] at hy0 hy1
          have hf := HFi.out
          rw [(List.getElem_cons_drop hlj).symm, accE, hpd2] at hf
          have hj16 := HL16.out
          have HJ := Aside0.mk hlj
          generalize t.f2[j] = a at hy0 hy1 hf
          have HY := Aside0.mk hy0
          obtain ⟨b2, hb2, hf⟩ := Option.bind_eq_some_iff.1 hf
          have HN2 := Aside0.mk hb2
          have p1 := eq_true (show 0 ≤ (j : Int) by omega)
          have q1 := eq_true (show (j : Int) < (t.f2.length : Int) by omega)
          clear htj HFi hpd2 hb2
          by_cases hne : nameE b2 j p2 a.f0 = 0
          case neg =>
            rw [if_neg hne] at hf
            obtain ⟨ne, hn⟩ : ∃ ne, nameE b2 j p2 a.f0 = ne := ⟨_, rfl⟩
            rw [hn] at hf hne
            obtain rfl := Option.some.inj hf
            have hr : r = ne := HST.out.elim (fun h => absurd h.1 hne) (fun h => h.2)
            subst hr
            have hbn : (r != 0) = true := bne_iff_ne.2 hne
            have HE2 := Aside0.mk hn
            clear hf hne hn
            go_wp2_with (first | (go_at_call 85; refine (nmA_calls k t.f0 t.f1 wo.heap.size c2 t.f2.length ad2 j a.f0 p2 b2 _ (blk_alloc HMi.out _) (by have := HL16.out; omega) HJ.out (((below_alloc (Below.refl wr.heap.size wr) _).cell (World.block_lt_of_cell? _ _ HY.out)).trans HY.out) (fun h0 => ((below_alloc (Below.refl wr.heap.size wr) _).cell (World.block_lt_of_cell? _ _ (HP2.out h0))).trans (HP2.out h0)) HN2.out).mono ?_; rw [HE2.out]; rintro e2_ w2 ⟨rfl, hb2⟩; have HBj := Aside0.mk (below_step (below_alloc HBi.out _) hb2); have HB2 := Aside0.mk (below_step HB1.out HBj.out); have hk1 := blk_cell (blk_below (blk_new wr _) hb2) 1; clear hb2))
            go_ret
            exact ⟨rfl, HB2.out⟩
          rw [if_pos hne] at hf
          have HE2 := Aside0.mk hne
          clear hne
          obtain ⟨q, hq⟩ : ∃ q, member_kind.f a.f1 = some q := by unfold member_kind.f; split <;> exact ⟨_, rfl⟩
          have HQ := Aside0.mk hq
          have hqd : q = true ↔ 1 ≤ a.f1 ∧ a.f1 ≤ 3 := by
            unfold member_kind.f at hq
            split at hq
            · obtain rfl := Option.some.inj hq; simp; omega
            · obtain rfl := Option.some.inj hq; simp; omega
          clear hq
          cases q with
          | false =>
            rw [if_neg (by rw [← hqd]; simp)] at hf
            obtain rfl := Option.some.inj hf
            have hr : r = 21 := HST.out.elim (fun h => absurd h.1 (by decide)) (fun h => h.2)
            subst hr
            clear hf hqd
            go_wp2_with (first | (go_at_call 85; refine (nmA_calls k t.f0 t.f1 wo.heap.size c2 t.f2.length ad2 j a.f0 p2 b2 _ (blk_alloc HMi.out _) (by have := HL16.out; omega) HJ.out (((below_alloc (Below.refl wr.heap.size wr) _).cell (World.block_lt_of_cell? _ _ HY.out)).trans HY.out) (fun h0 => ((below_alloc (Below.refl wr.heap.size wr) _).cell (World.block_lt_of_cell? _ _ (HP2.out h0))).trans (HP2.out h0)) HN2.out).mono ?_; rw [HE2.out]; rintro e2_ w2 ⟨rfl, hb2⟩; have HBj := Aside0.mk (below_step (below_alloc HBi.out _) hb2); have HB2 := Aside0.mk (below_step HB1.out HBj.out); have hk1 := blk_cell (blk_below (blk_new wr _) hb2) 1; clear hb2) | (go_at_call 88; refine (member_kind.calls a.f1 _ _ HQ.out).mono ?_; rintro e3_ w3 ⟨rfl, hd3⟩; have hb3 := hd3.below; have HBj := Aside0.mk (below_step HBj.out hb3); have HB3 := Aside0.mk (below_step HB1.out HBj.out); clear hd3 hb3))
            go_ret
            exact ⟨rfl, HB3.out⟩
          | true =>
            rw [if_pos (hqd.1 rfl)] at hf
            have HF2 := Aside0.mk hf
            clear hf hqd
            go_wp2_with (first | (go_at_call 85; refine (nmA_calls k t.f0 t.f1 wo.heap.size c2 t.f2.length ad2 j a.f0 p2 b2 _ (blk_alloc HMi.out _) (by have := HL16.out; omega) HJ.out (((below_alloc (Below.refl wr.heap.size wr) _).cell (World.block_lt_of_cell? _ _ HY.out)).trans HY.out) (fun h0 => ((below_alloc (Below.refl wr.heap.size wr) _).cell (World.block_lt_of_cell? _ _ (HP2.out h0))).trans (HP2.out h0)) HN2.out).mono ?_; rw [HE2.out]; rintro e2_ w2 ⟨rfl, hb2⟩; have HBj := Aside0.mk (below_step (below_alloc HBi.out _) hb2); have HB2 := Aside0.mk (below_step HB1.out HBj.out); have hk1 := blk_cell (blk_below (blk_new wr _) hb2) 1; clear hb2) | (go_at_call 88; refine (member_kind.calls a.f1 _ _ HQ.out).mono ?_; rintro e3_ w3 ⟨rfl, hd3⟩; have hb3 := hd3.below; have HBj := Aside0.mk (below_step HBj.out hb3); have HB3 := Aside0.mk (below_step HB1.out HBj.out); clear hd3 hb3))
            go_roundg (gk - 1)
            case measure => have := HKi.out; have := HJ.out; omega
            case rel => exact ⟨j + 1, by go_num, ⟨by have := HKi.out; omega⟩, HF2, HBj⟩
        · have hf := HFi.out
          rw [List.drop_of_length_le (by omega), accE] at hf
          obtain rfl := Option.some.inj hf
          have HM2 := Aside0.mk (show memE k l0 (l0.drop (i + 1)) (i + 1) = some r from HST.out.elim (fun h => h.2) (fun h => absurd rfl h.1))
          clear hf HFi
          go_wp2_with fail
          go_roundg k'
          case measure => omega
          case rel => exact ⟨i + 1, by go_num, ⟨by have := HK.out; omega⟩, HM2, HGi, ⟨below_step HB1.out HBi.out⟩⟩
    · have hf := HF.out
      rw [List.drop_of_length_le (by omega), memE] at hf
      obtain rfl := Option.some.inj hf
      clear hf HF
      go_wp2_with fail
      go_ret
      exact ⟨rfl, HB.out⟩
def api_Account_130.f (l : List S151) : Option (List S151) := if l.length < 137438953472 then some l else none
set_option maxHeartbeats 1600000 in
set_option maxRecDepth 100000 in
theorem api_Account_130.calls (A0 : Option Addr) (c0 : Nat) (l0 : List S151) (r : List S151) (w : World) (hr0 : Kd.C k151 w A0 l0.length l0) (hc0 : l0.length ≤ c0) (h : api_Account_130.f l0 = some r) :
    Calls Tryz.prog 130 #[.slice A0 l0.length c0] w fun e w' => ∃ v0_ : Value, e = .returned (v0_) ∧ Kd.R k151 151 w' w.heap.size (fun _ => True) v0_ r ∧ Below w.heap.size w w' := by
  unfold api_Account_130.f at h
  by_cases hlim : l0.length < 137438953472
  case neg => rw [if_neg hlim] at h; exact absurd h (by simp)
  case pos =>
    rw [if_pos hlim] at h
    obtain rfl := Option.some.inj h
    have HR := Aside0.mk hr0
    have HL := Aside0.mk hlim
    clear h hlim hr0
    cases A0 with
    | none =>
      have hnil := fun W => Lib.run_eql_slice_nil (P := Tryz.prog) W 146 151 none 0 c0 0 0 Tryz.underlying146
      have h0 : l0 = [] := by
        by_cases hp : 0 < l0.length
        · obtain ⟨a, ha, _⟩ := HR.out.2.2 hp
          cases ha
        · exact List.length_eq_zero_iff.1 (by omega)
      subst h0
      go_enter Tryz.func130, Tryz.ntmps130
      go_wp2
      go_ret
      exact ⟨_, rfl, Kd.R_nil _ _ _ _ _, Below.refl _ _⟩
    | some ad =>
      have hnil := fun W => Lib.run_eql_slice_nil (P := Tryz.prog) W 146 151 (some ad) l0.length c0 0 0 Tryz.underlying146
      go_enter Tryz.func130, Tryz.ntmps130
      go_wp2_with (first
        | ((with_reducible refine gate_dst (N := 5) rfl ?_); (try (refine gate_guard (by rfl) ?_; dsimp only)); refine Kd.R_lit k151 _ 151 ?hg (N := 5) ?hd (xs := ([] : List S151)) (inner := []) (ok := fun _ => True) (okp := fun _ => True) ?hr ?hp (fun _ hk => hk) trivial (Below.refl _ _) (Nat.le_refl _) (by simp) ?_; (case hd => rfl); (case hg => rfl); (case hr => first | (go_simp; done) | (go_simp; rfl)); (case hp => exact (Reps.none _ _)); intro v1 w1 ho hb hg_ hnew_; clear hg_ hnew_; have HO := Aside0.mk ho; have HB := Aside0.mk hb; clear ho hb)
        | ((with_reducible refine gate_builtin (b := .append) (xs := #[.tmp 5, .tmp 6]) rfl ?_); at_builtin; refine Kd.R_append_rows k151 (w0 := w) w.heap.size rfl (.tmp 5) (.tmp 6) 146 151 _ _ rfl Tryz.underlying146 info151 rfl (by decide) (by omega) v1 ([] : List S151) l0 _ _ _ (fun _ => True) (fun _ => False) rfl rfl ?aO ?aR (fun _ _ h => h) (fun _ h => h.elim) (fun _ _ => trivial) ?aB ?aS ?aL ?_; (case aO => exact HO.out); (case aR => exact (Kd.C_below HR.out HB.out)); (case aB => exact HB.out); (case aS => exact (below_size HB.out)); (case aL => have := HL.out; simp; omega); intro v2 w2 ho hb hg hat; have HO2 := Aside0.mk ho; have HB2 := Aside0.mk hb; clear ho hb hg hat))
      go_ret
      exact ⟨_, rfl, by simpa using HO2.out, HB2.out⟩
def idxM (p : S148 → Bool) : List S148 → Int → Int
  | [], _ => -1
  | x :: r, i => if p x = true then i else idxM p r (i + 1)
set_option maxHeartbeats 1600000 in
set_option maxRecDepth 100000 in
theorem litM (s0 : ByteArray) (s1 : Int) (A2 : Option Addr) (n2 c2 : Nat) (q : ByteArray) (g : Nat) (w : World) (hg : w.heap[g]? = some (.cells #[.string q] 9 (0, 0))) :
    Calls Tryz.prog 162 #[.agg #[.string s0, .int .i64 s1, .slice A2 n2 c2], .pointer (some ⟨g, 0, none⟩)] w fun e w' => e = .returned (.bool (s0.toList == q.toList)) ∧ Below w.heap.size w w' := by
  have hc0 : ∀ o, (w.alloc o).cell? ⟨g, 0, none⟩ = some (.string q) := fun o => blk_cell (blk_alloc hg o) 0
  go_enter Tryz.func162, Tryz.ntmps162
  go_wp2
  go_ret
  exact ⟨eqs, (Below.refl _ _).alloc (Nat.le_refl _) _⟩
set_option maxHeartbeats 1600000 in
set_option maxRecDepth 100000 in
theorem ixM_calls (A : Option Addr) (c : Nat) (l : List S148) (q : ByteArray) (g : Nat) (w : World) (hr : Kd.C k148 w A l.length l) (hg : w.heap[g]? = some (.cells #[.string q] 9 (0, 0))) :
    Calls Tryz.prog 161 #[.slice A l.length c, .func (.func 162) #[] #[.pointer (some ⟨g, 0, none⟩)]] w fun e w' => e = .returned (.int .i64 (idxM (fun t => t.f0.toList == q.toList) l 0)) ∧ Below w.heap.size w w' := by
  have HR := Aside0.mk hr
  have HG := Aside0.mk hg
  have hlen := (show l.length ≤ 9223372036854775807 from Kd.C_max hr)
  clear hr hg
  go_enter Tryz.func161, Tryz.ntmps161
  go_wp2_with fail
  go_loopg [8] l.length (fun kq v8 wr => ∃ i : Nat, v8 = .int .i64 (i : Int) ∧ Aside0 (kq + i = l.length) ∧ Aside0 (idxM (fun t => t.f0.toList == q.toList) (l.drop i) (i : Int) = idxM (fun t => t.f0.toList == q.toList) l 0) ∧ Aside0 (Below w.heap.size w wr))
  case atStart => exact ⟨0, rfl, ⟨by omega⟩, ⟨rfl⟩, ⟨Below.refl _ _⟩⟩
  case round =>
    obtain ⟨i, rfl, HK, HF, HB2⟩ := hrel
    by_cases hlt : i < l.length
    · have hti : rd_T148 l (i : Int) = l[i] := by simp [rd_T148, hlt]
      obtain ⟨ad, A2, c2, ea, hx0, hx1, hx2, hl2, hr2⟩ := at_T148 HR.out (i : Int) (by omega) (by omega)
      cases ea
      rw [Int.toNat_natCast] at hx0 hx1 hx2
      replace hx0 := (HB2.out.cell (World.block_lt_of_cell? w _ hx0)).trans hx0
      replace hx1 := (HB2.out.cell (World.block_lt_of_cell? w _ hx1)).trans hx1
      replace hx2 := (HB2.out.cell (World.block_lt_of_cell? w _ hx2)).trans hx2
      rw [hti] at hx0 hx1 hx2
      have hf := HF.out
      rw [(List.getElem_cons_drop hlt).symm, idxM] at hf
      generalize l[i] = t at hx0 hx1 hx2 hf hl2 hr2
      clear hti HF hl2 hr2
      by_cases hb : (t.f0.toList == q.toList) = true
      · rw [if_pos hb] at hf
        have HBB := Aside0.mk hb
        have HF := Aside0.mk hf
        clear hb hf
        go_wp2_with (go_at_call 162; refine (litM t.f0 t.f1 A2 t.f2.length c2 q g _ (blk_below HG.out HB2.out)).mono ?_; rw [HBB.out]; rintro e1 w1 ⟨rfl, hb1⟩; have HB3 := Aside0.mk (below_step HB2.out hb1); clear hb1)
        exact bodyPost_ret (v := .int .i64 (i : Int)) (by simp [results, Tryz.results161, go_sem]) rfl ⟨by rw [← HF.out], HB3.out⟩
      · rw [if_neg hb] at hf
        have HBB := Aside0.mk (show (t.f0.toList == q.toList) = false by simpa using hb)
        have HF := Aside0.mk hf
        clear hb hf
        go_wp2_with (go_at_call 162; refine (litM t.f0 t.f1 A2 t.f2.length c2 q g _ (blk_below HG.out HB2.out)).mono ?_; rw [HBB.out]; rintro e1 w1 ⟨rfl, hb1⟩; have HB3 := Aside0.mk (below_step HB2.out hb1); clear hb1)
        go_roundg (gk - 1)
        case measure => have := HK.out; omega
        case rel => exact ⟨i + 1, by go_num, ⟨by have := HK.out; omega⟩, ⟨by have := HF.out; simpa using this⟩, HB3⟩
    · have hf := HF.out
      rw [List.drop_of_length_le (by omega), idxM] at hf
      have HF := Aside0.mk hf
      clear hf
      go_wp2_with fail
      exact bodyPost_ret (v := .int .i64 (-1)) (by simp [results, Tryz.results161, go_sem]) rfl ⟨by rw [← HF.out], HB2.out⟩
def member_at.f (l : List S148) (q : ByteArray) : Option Int := some (idxM (fun t => t.f0.toList == q.toList) l 0)
set_option maxHeartbeats 1600000 in
set_option maxRecDepth 100000 in
theorem member_at.calls (A0 : Option Addr) (c0 : Nat) (l0 : List S148) (a1 : ByteArray) (r : Int) (w : World) (hr0 : Kd.C k148 w A0 l0.length l0) (hc0 : l0.length ≤ c0) (h : member_at.f l0 a1 = some r) :
    Calls Tryz.prog 129 #[.slice A0 l0.length c0, .string a1] w fun e w' => e = .returned (.int .i64 r) ∧ Below w.heap.size w w' := by
  unfold member_at.f at h
  have HR := Aside0.mk hr0
  have HP := Aside0.mk (Option.some.inj h)
  have HBA := Aside0.mk (below_alloc (Below.refl w.heap.size w) (.cells #[.string a1] 9))
  clear hr0 h
  go_enter Tryz.func129, Tryz.ntmps129
  go_wp2_with (go_at_call 161; refine (ixM_calls _ _ l0 a1 w.heap.size _ (Kd.C_alloc HR.out _) (blk_new w _)).mono ?_; rw [HP.out]; rintro e1 w1 ⟨rfl, hb1⟩; have HB3 := Aside0.mk (below_step HBA.out hb1); clear hb1)
  exact bodyPost_ret (v := .int .i64 r) (by simp [results, Tryz.results129, go_sem]) rfl ⟨rfl, HB3.out⟩
def member_Find.f (l0 : List (S148)) (a1 : ByteArray) : Option (ByteArray × Int × (List (S151)) × Bool) := (member_at.f l0 a1).bind fun t102 => (if t102 < 0 then (some ((⟨#[]⟩ : ByteArray), 0, ([] : List (S151)), false)) else (if 0 ≤ t102 then (if t102 < (l0.length : Int) then ((api_Account_130.f ((rd_T148 l0 t102).f2)).bind fun t104 => (some ((rd_T148 l0 t102).f0, (rd_T148 l0 t102).f1, t104, true))) else (none)) else (none)))
set_option maxHeartbeats 8000000 in
set_option maxRecDepth 100000 in
theorem member_Find.calls (A0 : Option Addr) (c0 : Nat) (l0 : List (S148)) (a1 : ByteArray) (r1 : ByteArray) (r2 : Int) (r3 : List (S151)) (r4 : Bool) (w : World) (hr0 : Kd.C k148 w A0 l0.length l0) (hc0 : l0.length ≤ c0) (h : member_Find.f l0 a1 = some (r1, r2, r3, r4)) :
    Calls Tryz.prog 89 #[.slice A0 l0.length c0, .string a1] w fun e w' => ∃ v2_ : Value, e = .returned (.tuple #[.agg #[.string r1, .int .i64 r2, v2_], .bool r4]) ∧ Kd.R k151 151 w' w.heap.size (fun _ => True) v2_ r3 ∧ Below w.heap.size w w' := by
  have hu148 := Tryz.underlying148
  have HR0 := Aside0.mk hr0
  have HC0 := Aside0.mk hc0
  clear hr0 hc0
  have HB := Aside0.mk (Below.refl w.heap.size w)
  have H : ((member_at.f l0 a1).bind fun t102 => (if t102 < 0 then (some ((⟨#[]⟩ : ByteArray), 0, ([] : List (S151)), false)) else (if 0 ≤ t102 then (if t102 < (l0.length : Int) then ((api_Account_130.f ((rd_T148 l0 t102).f2)).bind fun t104 => (some ((rd_T148 l0 t102).f0, (rd_T148 l0 t102).f1, t104, true))) else (none)) else (none)))) = some (r1, r2, r3, r4) := h
  clear h
  replace H := bnd H
  obtain ⟨t102, A30, H⟩ := H
  have A3 := Aside0.mk A30
  clear A30
  by_cases c4 : t102 < 0
  · rw [if_pos c4] at H
    have c4b0 := decide_eq_true c4
    clear c4
    simp only [Option.some.injEq, Prod.mk.injEq] at H
    obtain ⟨rfl, rfl, rfl, rfl⟩ := H
    go_enter Tryz.func89, Tryz.ntmps89
    go_wp2_with (first | ((with_reducible refine gate_dst (N := 4) rfl ?_); refine box_event ?hg (N := 4) ?hd (cs := #[.string (⟨#[]⟩ : ByteArray), .int .i64 0, .slice none 0 0]) (t := 148) ?hr ?_; (case hd => rfl); (case hg => rfl); (case hr => first | (go_simp; done) | (go_simp; rfl)); intro gb101 hg w5 hbox hb; have BK101 := Aside0.mk (hbox); have GW101 := Aside0.mk ((gsz hg : w.heap.size ≤ gb101)); have GE101 := Aside0.mk ((gsz hg : w.heap.size ≤ gb101)); replace HB := Aside0.mk (below_step bel hb); clear hb hbox hg) | ((with_reducible refine gate_callee (f := 129) rfl ?_); refine goesL_ (some 9) rfl rfl Tryz.func129 (by kernel_rfl) rfl #[.slice A0 l0.length c0, .string a1] rfl arg ?_; (with_reducible refine (member_at.calls _ _ l0 a1 t102 _ ?side1 ?side2 A3.out).mono ?_); (case side1 => repeat (first | exact (Kd.C_below HR0.out HB.out) | (with_reducible refine Kd.C_alloc ?_ _) | (with_reducible refine Kd.C_drewN ?_ _) | (with_reducible refine Kd.C_drew ?_))); (case side2 => exact HC0.out); rintro e w6 ⟨rfl, hb⟩; refine ⟨_, rfl, ?_⟩; replace BK101 := Aside0.mk (blk_below (g := gb101) (bw BK101.out) hb); replace HB := Aside0.mk (below_step bel hb); (try clear hb); (try clear hb2); (try clear hk); (try clear hi); obtain ⟨hcz7_0, hcz7_1, hcz7_2, hfz7_0, hfz7_1, hfz7_2⟩ := cz3 BK101.out))
    refine bodyPost_ret (results_ct rfl _ _ gb101 148 #[.string (⟨#[]⟩ : ByteArray), .int .i64 0, .slice none 0 0] (0, 0) _ rfl (bs BK101.out) Tryz.underlying148 rfl (by kernel_rfl)) rfl ?_
    exact ⟨_, ers, by first | exact Kd.R_nil _ _ _ _ _ | exact Kd.N_nil _ _ _ _ _ | exact Kd.V_nil _ _ _ _ _ | exact Kd.Q_nil _ _ _ _ _ | exact Kd.S_nil _ _ _ _ _, bel⟩
  · rw [if_neg c4] at H
    have c4b0 := decide_eq_false c4
    clear c4
    by_cases c8 : 0 ≤ t102
    · rw [if_pos c8] at H
      have c8b0 := decide_eq_true c8
      clear c8
      by_cases c9 : t102 < (l0.length : Int)
      · rw [if_pos c9] at H
        have c9b0 := decide_eq_true c9
        clear c9
        replace H := bnd H
        obtain ⟨t104, A100, H⟩ := H
        have A10 := Aside0.mk A100
        clear A100
        simp only [Option.some.injEq, Prod.mk.injEq] at H
        obtain ⟨rfl, rfl, rfl, rfl⟩ := H
        go_enter Tryz.func89, Tryz.ntmps89
        go_wp2_with (first | ((with_reducible refine gate_dst (N := 4) rfl ?_); refine box_event ?hg (N := 4) ?hd (cs := #[.string (⟨#[]⟩ : ByteArray), .int .i64 0, .slice none 0 0]) (t := 148) ?hr ?_; (case hd => rfl); (case hg => rfl); (case hr => first | (go_simp; done) | (go_simp; rfl)); intro gb101 hg w11 hbox hb; have BK101 := Aside0.mk (hbox); have GW101 := Aside0.mk ((gsz hg : w.heap.size ≤ gb101)); have GE101 := Aside0.mk ((gsz hg : w.heap.size ≤ gb101)); replace HB := Aside0.mk (below_step bel hb); clear hb hbox hg) | ((with_reducible refine gate_callee (f := 129) rfl ?_); refine goesL_ (some 9) rfl rfl Tryz.func129 (by kernel_rfl) rfl #[.slice A0 l0.length c0, .string a1] rfl arg ?_; (with_reducible refine (member_at.calls _ _ l0 a1 t102 _ ?side1 ?side2 A3.out).mono ?_); (case side1 => repeat (first | exact (Kd.C_below HR0.out HB.out) | (with_reducible refine Kd.C_alloc ?_ _) | (with_reducible refine Kd.C_drewN ?_ _) | (with_reducible refine Kd.C_drew ?_))); (case side2 => exact HC0.out); rintro e w12 ⟨rfl, hb⟩; refine ⟨_, rfl, ?_⟩; replace BK101 := Aside0.mk (blk_below (g := gb101) (bw BK101.out) hb); replace HB := Aside0.mk (below_step bel hb); (try clear hb); (try clear hb2); (try clear hk); (try clear hi); have p103 : 0 ≤ (t102 : Int) := dt; have q103 : t102 < (l0.length : Int) := dt; obtain ⟨ad103, A103_2, c103_2, e103, hx103_0, hx103_1, hx103_2, hl103_2, hi103_2⟩ := at_T148 HR0.out t102 p103 q103; cases e103; replace hx103_0 := (HB.out.cell (World.block_lt_of_cell? w _ hx103_0)).trans hx103_0; replace hx103_1 := (HB.out.cell (World.block_lt_of_cell? w _ hx103_1)).trans hx103_1; replace hx103_2 := (HB.out.cell (World.block_lt_of_cell? w _ hx103_2)).trans hx103_2; have HR103_2 := Aside0.mk hi103_2; have HC103_2 := Aside0.mk hl103_2; clear hi103_2 hl103_2; replace p103 := eq_true p103; replace q103 := eq_true q103; obtain ⟨hcz13_0, hcz13_1, hcz13_2, hfz13_0, hfz13_1, hfz13_2⟩ := cz3 BK101.out) | ((with_reducible refine gate_callee (f := 130) rfl ?_); refine goesL_ (some 19) rfl rfl Tryz.func130 (by kernel_rfl) rfl #[.slice A103_2 ((rd_T148 l0 t102).f2).length c103_2] rfl arg ?_; (with_reducible refine (api_Account_130.calls _ _ ((rd_T148 l0 t102).f2) t104 _ ?side1 ?side2 A10.out).mono ?_); (case side1 => exact Kd.C_below HR103_2.out bel); (case side2 => exact HC103_2.out); rintro e w14 ⟨v105, rfl, ho0, hb⟩; refine ⟨_, rfl, ?_⟩; have HO106 := Aside0.mk (Kd.R_lower ho0 (below_size bel)); replace BK101 := Aside0.mk (blk_below (g := gb101) (o := .cells #[.string ((rd_T148 l0 t102).f0), .int .i64 ((rd_T148 l0 t102).f1), .slice A103_2 ((rd_T148 l0 t102).f2).length c103_2] 148 (0, 0)) (bs BK101.out) hb); replace HB := Aside0.mk (below_step bel hb); (try clear hb); (try clear hb2); (try clear hk); (try clear hi); (try clear ho0); obtain ⟨Ao15, co15, eo15⟩ := Kd.R_slice HO106.out; subst eo15; obtain ⟨hcz16_0, hcz16_1, hcz16_2, hfz16_0, hfz16_1, hfz16_2⟩ := cz3 BK101.out))
        refine bodyPost_ret (results_ct rfl _ _ gb101 148 #[.string ((rd_T148 l0 t102).f0), .int .i64 ((rd_T148 l0 t102).f1), .slice Ao15 t104.length co15] (0, 0) _ rfl (bs BK101.out) Tryz.underlying148 rfl (by kernel_rfl)) rfl ?_
        exact ⟨_, ers, by (with_reducible repeat (first | apply Kd.R_alloc | apply Kd.R_drewN | apply Kd.R_drew)); exact Kd.R_mono (Kd.R_far (p := ⟨gb101, 2, none⟩) (Kd.R_far (p := ⟨gb101, 1, none⟩) (Kd.R_far (p := ⟨gb101, 0, none⟩) (Kd.R_far (p := ⟨gb101, 2, none⟩) (Kd.R_types HO106.out BK101.out (by decide)) (fun _ hk => hk.2) (.slice Ao15 t104.length co15)) (fun _ hk => hk.2) (.string ((rd_T148 l0 t102).f0))) (fun _ hk => hk.2) (.int .i64 ((rd_T148 l0 t102).f1))) (fun _ hk => hk.2) (.slice Ao15 t104.length co15)) (fun _ hk => trivial), bel⟩
      · rw [if_neg c9] at H
        exact absurd H (by simp)
    · rw [if_neg c8] at H
      exact absurd H (by simp)
def idxA (p : S151 → Bool) : List S151 → Int → Int
  | [], _ => -1
  | x :: r, i => if p x = true then i else idxA p r (i + 1)
theorem idxA_rng (p : S151 → Bool) : ∀ (l : List S151) (i : Nat), idxA p l (i : Int) = -1 ∨ ∃ j : Nat, j < l.length ∧ idxA p l (i : Int) = ((i + j : Nat) : Int)
  | [], i => Or.inl rfl
  | x :: r, i => by
    unfold idxA
    by_cases h : p x = true
    · rw [if_pos h]; exact Or.inr ⟨0, by simp, rfl⟩
    · rw [if_neg h]
      rcases idxA_rng p r (i + 1) with h1 | ⟨j, h1, h2⟩
      · exact Or.inl h1
      · exact Or.inr ⟨j + 1, by simp; omega, by rw [show (i : Int) + 1 = ((i + 1 : Nat) : Int) by omega, h2]; congr 1; omega⟩
set_option maxHeartbeats 1600000 in
set_option maxRecDepth 100000 in
theorem litA (s0 : ByteArray) (s1 : Int) (p q : ByteArray) (g : Nat) (w : World) (hg : w.heap[g]? = some (.cells #[.string p, .string q] 25 (0, 0))) :
    Calls Tryz.prog 132 #[.agg #[.string s0, .int .i64 s1], .pointer (some ⟨g, 0, none⟩)] w fun e w' => e = .returned (.bool (s0.toList == q.toList)) ∧ Below w.heap.size w w' := by
  have hc0 : ∀ o, (w.alloc o).cell? ⟨g, 1, none⟩ = some (.string q) := fun o => blk_cell (blk_alloc hg o) 1
  go_enter Tryz.func132, Tryz.ntmps132
  go_wp2
  go_ret
  exact ⟨eqs, (Below.refl _ _).alloc (Nat.le_refl _) _⟩
set_option maxHeartbeats 1600000 in
set_option maxRecDepth 100000 in
theorem ixA_calls (A : Option Addr) (c : Nat) (l : List S151) (p q : ByteArray) (g : Nat) (w : World) (hr : Kd.C k151 w A l.length l) (hg : w.heap[g]? = some (.cells #[.string p, .string q] 25 (0, 0))) :
    Calls Tryz.prog 131 #[.slice A l.length c, .func (.func 132) #[] #[.pointer (some ⟨g, 0, none⟩)]] w fun e w' => e = .returned (.int .i64 (idxA (fun t => t.f0.toList == q.toList) l 0)) ∧ Below w.heap.size w w' := by
  have HR := Aside0.mk hr
  have HG := Aside0.mk hg
  have hlen := (show l.length ≤ 9223372036854775807 from Kd.C_max hr)
  clear hr hg
  go_enter Tryz.func131, Tryz.ntmps131
  go_wp2_with fail
  go_loopg [8] l.length (fun kq v8 wr => ∃ i : Nat, v8 = .int .i64 (i : Int) ∧ Aside0 (kq + i = l.length) ∧ Aside0 (idxA (fun t => t.f0.toList == q.toList) (l.drop i) (i : Int) = idxA (fun t => t.f0.toList == q.toList) l 0) ∧ Aside0 (Below w.heap.size w wr))
  case atStart => exact ⟨0, rfl, ⟨by omega⟩, ⟨rfl⟩, ⟨Below.refl _ _⟩⟩
  case round =>
    obtain ⟨i, rfl, HK, HF, HB2⟩ := hrel
    by_cases hlt : i < l.length
    · have hti : rd_T151 l (i : Int) = l[i] := by simp [rd_T151, hlt]
      obtain ⟨ad, ea, hx0, hx1⟩ := at_T151 HR.out (i : Int) (by omega) (by omega)
      cases ea
      rw [Int.toNat_natCast] at hx0 hx1
      replace hx0 := (HB2.out.cell (World.block_lt_of_cell? w _ hx0)).trans hx0
      replace hx1 := (HB2.out.cell (World.block_lt_of_cell? w _ hx1)).trans hx1
      rw [hti] at hx0 hx1
      have hf := HF.out
      rw [(List.getElem_cons_drop hlt).symm, idxA] at hf
      generalize l[i] = t at hx0 hx1 hf
      clear hti HF
      by_cases hb : (t.f0.toList == q.toList) = true
      · rw [if_pos hb] at hf
        have HBB := Aside0.mk hb
        have HF := Aside0.mk hf
        clear hb hf
        go_wp2_with (go_at_call 132; refine (litA t.f0 t.f1 p q g _ (blk_below HG.out HB2.out)).mono ?_; rw [HBB.out]; rintro e1 w1 ⟨rfl, hb1⟩; have HB3 := Aside0.mk (below_step HB2.out hb1); clear hb1)
        exact bodyPost_ret (v := .int .i64 (i : Int)) (by simp [results, Tryz.results131, go_sem]) rfl ⟨by rw [← HF.out], HB3.out⟩
      · rw [if_neg hb] at hf
        have HBB := Aside0.mk (show (t.f0.toList == q.toList) = false by simpa using hb)
        have HF := Aside0.mk hf
        clear hb hf
        go_wp2_with (go_at_call 132; refine (litA t.f0 t.f1 p q g _ (blk_below HG.out HB2.out)).mono ?_; rw [HBB.out]; rintro e1 w1 ⟨rfl, hb1⟩; have HB3 := Aside0.mk (below_step HB2.out hb1); clear hb1)
        go_roundg (gk - 1)
        case measure => have := HK.out; omega
        case rel => exact ⟨i + 1, by go_num, ⟨by have := HK.out; omega⟩, ⟨by have := HF.out; simpa using this⟩, HB3⟩
    · have hf := HF.out
      rw [List.drop_of_length_le (by omega), idxA] at hf
      have HF := Aside0.mk hf
      clear hf
      go_wp2_with fail
      exact bodyPost_ret (v := .int .i64 (-1)) (by simp [results, Tryz.results131, go_sem]) rfl ⟨by rw [← HF.out], HB2.out⟩
def accM (q : ByteArray) (l : List S151) : ByteArray × Int × Bool := if idxA (fun t => t.f0.toList == q.toList) l 0 < 0 then ((⟨#[]⟩ : ByteArray), 0, false) else ((rd_T151 l (idxA (fun t => t.f0.toList == q.toList) l 0)).f0, (rd_T151 l (idxA (fun t => t.f0.toList == q.toList) l 0)).f1, true)
def member_Account.f (l : List S148) (p q : ByteArray) : Option (ByteArray × Int × Bool) := (member_Find.f l p).bind fun t => some (accM q t.2.2.1)
set_option maxHeartbeats 1600000 in
set_option maxRecDepth 100000 in
theorem member_Account.calls (A0 : Option Addr) (c0 : Nat) (l0 : List S148) (a1_0 a1_1 : ByteArray) (r1 : ByteArray) (r2 : Int) (r3 : Bool) (w : World) (hr0 : Kd.C k148 w A0 l0.length l0) (hc0 : l0.length ≤ c0) (h : member_Account.f l0 a1_0 a1_1 = some (r1, r2, r3)) :
    Calls Tryz.prog 90 #[.slice A0 l0.length c0, .agg #[.string a1_0, .string a1_1]] w fun e w' => e = .returned (.tuple #[.agg #[.string r1, .int .i64 r2], .bool r3]) ∧ Below w.heap.size w w' := by
  unfold member_Account.f at h
  obtain ⟨⟨t1, t2, t3, t4⟩, hF, h⟩ := Option.bind_eq_some_iff.1 h
  replace h := Option.some.inj h
  dsimp only at h
  have HF := Aside0.mk hF
  have HR := Aside0.mk hr0
  have HC := Aside0.mk hc0
  clear hF hr0 hc0
  have HBA := Aside0.mk (below_alloc (below_alloc (Below.refl w.heap.size w) (.cells #[.string a1_0, .string a1_1] 25)) (.cells #[.string (⟨#[]⟩ : ByteArray), .int .i64 0] 151))
  have HQA := Aside0.mk (blk_alloc (blk_new w (.cells #[.string a1_0, .string a1_1] 25)) (.cells #[.string (⟨#[]⟩ : ByteArray), .int .i64 0] 151))
  have HZA := Aside0.mk (show ((w.alloc (.cells #[.string a1_0, .string a1_1] 25)).alloc (.cells #[.string (⟨#[]⟩ : ByteArray), .int .i64 0] 151)).heap[w.heap.size + 1]? = some (.cells #[.string (⟨#[]⟩ : ByteArray), .int .i64 0] 151 (0, 0)) from by simpa using blk_new (w.alloc (.cells #[.string a1_0, .string a1_1] 25)) (.cells #[.string (⟨#[]⟩ : ByteArray), .int .i64 0] 151))
  unfold accM at h
  obtain ⟨j, hj⟩ : ∃ j, idxA (fun t => t.f0.toList == a1_1.toList) t3 0 = j := ⟨_, rfl⟩
  have HJ := Aside0.mk hj
  have hrng : j = -1 ∨ ∃ i : Nat, i < t3.length ∧ j = (i : Int) := by
    rcases idxA_rng (fun t => t.f0.toList == a1_1.toList) t3 0 with h | ⟨i, h, h2⟩
    · exact Or.inl (hj.symm.trans h)
    · exact Or.inr ⟨i, h, by rw [Nat.zero_add] at h2; exact hj.symm.trans h2⟩
  rw [hj] at h
  clear hj
  by_cases hneg : j < 0
  · rw [if_pos hneg] at h
    simp only [Prod.mk.injEq] at h
    obtain ⟨rfl, rfl, rfl⟩ := h
    have hb := decide_eq_true hneg
    clear hneg hrng
    go_enter Tryz.func90, Tryz.ntmps90
    go_wp2_with (first
      | (go_at_call 89; refine (member_Find.calls _ _ l0 a1_0 t1 t2 t3 t4 _ (Kd.C_below HR.out HBA.out) HC.out HF.out).mono ?_; rintro e1 w1 ⟨v2, rfl, hv2, hb1⟩; obtain ⟨A2, c2, rfl⟩ := Kd.R_slice hv2; have HV2 := Aside0.mk (Kd.R_reads' hv2).2.2; have HZ1 := Aside0.mk (blk_below HZA.out hb1); have HQ1 := Aside0.mk (blk_below HQA.out hb1); have HB1 := Aside0.mk (below_step HBA.out hb1); clear hv2 hb1)
      | (go_at_call 131; refine (ixA_calls A2 c2 t3 a1_0 a1_1 w.heap.size _ (Kd.C_alloc HV2.out _) (blk_alloc HQ1.out _)).mono ?_; rw [HJ.out]; rintro e2 w2 ⟨rfl, hb2⟩; have HB2 := Aside0.mk (below_step (below_alloc HB1.out _) hb2); have HZ2 := Aside0.mk (blk_below (blk_alloc HZ1.out _) hb2); have zc0 : w2.cell? ⟨w.heap.size + 1, 0, none⟩ = some (.string (⟨#[]⟩ : ByteArray)) := blk_cell HZ2.out 0; have zf0 : w2.frozen? ⟨w.heap.size + 1, 0, none⟩ = false := blk_frozen HZ2.out 0; have zc1 : w2.cell? ⟨w.heap.size + 1, 1, none⟩ = some (.int .i64 0) := blk_cell HZ2.out 1; have zf1 : w2.frozen? ⟨w.heap.size + 1, 1, none⟩ = false := blk_frozen HZ2.out 1; clear hb2))
    refine bodyPost_ret (results_ct rfl _ _ (w.heap.size + 1) 151 #[.string (⟨#[]⟩ : ByteArray), .int .i64 0] (0, 0) _ rfl (blk_put (cs := #[.string (⟨#[]⟩ : ByteArray), .int .i64 0]) (blk_put (cs := #[.string (⟨#[]⟩ : ByteArray), .int .i64 0]) (HZ2.out) 0 _ rfl) 1 _ rfl) Tryz.underlying151 rfl (by kernel_rfl)) rfl ⟨rfl, ?_⟩
    exact (Below.setCell (Below.setCell HB2.out (p := ⟨w.heap.size + 1, 0, none⟩) (Nat.le_succ _) _) (p := ⟨w.heap.size + 1, 1, none⟩) (Nat.le_succ _) _)
  · rw [if_neg hneg] at h
    obtain ⟨i, hi, hji⟩ := hrng.resolve_left (by omega)
    have hb := decide_eq_false hneg
    have p0 := eq_true (show 0 ≤ j by omega)
    have q0 := eq_true (show j < (t3.length : Int) by omega)
    have hj0 : 0 ≤ j := by omega
    have hj1 : j < (t3.length : Int) := by omega
    have HJR := Aside0.mk (show 0 ≤ j ∧ j < (t3.length : Int) from ⟨hj0, hj1⟩)
    generalize hT : rd_T151 t3 j = T at h
    have HT := Aside0.mk hT
    simp only [Prod.mk.injEq] at h
    obtain ⟨rfl, rfl, rfl⟩ := h
    clear hneg hrng hji hi hj0 hj1 hT
    go_enter Tryz.func90, Tryz.ntmps90
    go_wp2_with (first
      | (go_at_call 89; refine (member_Find.calls _ _ l0 a1_0 t1 t2 t3 t4 _ (Kd.C_below HR.out HBA.out) HC.out HF.out).mono ?_; rintro e1 w1 ⟨v2, rfl, hv2, hb1⟩; obtain ⟨A2, c2, rfl⟩ := Kd.R_slice hv2; have HV2 := Aside0.mk (Kd.R_reads' hv2).2.2; have HZ1 := Aside0.mk (blk_below HZA.out hb1); have HQ1 := Aside0.mk (blk_below HQA.out hb1); have HB1 := Aside0.mk (below_step HBA.out hb1); clear hv2 hb1)
      | (go_at_call 131; refine (ixA_calls A2 c2 t3 a1_0 a1_1 w.heap.size _ (Kd.C_alloc HV2.out _) (blk_alloc HQ1.out _)).mono ?_; rw [HJ.out]; rintro e2 w2 ⟨rfl, hb2⟩; have HB2 := Aside0.mk (below_step (below_alloc HB1.out _) hb2); have HZ2 := Aside0.mk (blk_below (blk_alloc HZ1.out _) hb2); have hm2 : w2.cell? ⟨w1.heap.size, 2, none⟩ = some (.slice A2 t3.length c2) := blk_cell (blk_below (blk_new w1 _) hb2) 2; obtain ⟨ad, ea, hx0, hx1⟩ := at_T151 (Kd.C_below (Kd.C_alloc HV2.out _) hb2) j HJR.out.1 HJR.out.2; cases ea; rw [HT.out] at hx0 hx1; have zc0 : w2.cell? ⟨w.heap.size + 1, 0, none⟩ = some (.string (⟨#[]⟩ : ByteArray)) := blk_cell HZ2.out 0; have zf0 : w2.frozen? ⟨w.heap.size + 1, 0, none⟩ = false := blk_frozen HZ2.out 0; have zc1 : w2.cell? ⟨w.heap.size + 1, 1, none⟩ = some (.int .i64 0) := blk_cell HZ2.out 1; have zf1 : w2.frozen? ⟨w.heap.size + 1, 1, none⟩ = false := blk_frozen HZ2.out 1; clear hb2))
    refine bodyPost_ret (results_ct rfl _ _ (w.heap.size + 1) 151 #[.string T.f0, .int .i64 T.f1] (0, 0) _ rfl (blk_put (cs := #[.string T.f0, .int .i64 0]) (blk_put (cs := #[.string (⟨#[]⟩ : ByteArray), .int .i64 0]) (HZ2.out) 0 _ rfl) 1 _ rfl) Tryz.underlying151 rfl (by kernel_rfl)) rfl ⟨rfl, ?_⟩
    exact (Below.setCell (Below.setCell HB2.out (p := ⟨w.heap.size + 1, 0, none⟩) (Nat.le_succ _) _) (p := ⟨w.heap.size + 1, 1, none⟩) (Nat.le_succ _) _)
def slices_Index_int_int.l0 : Nat → List Int → Int → Int → Int → Option (Int)
  | 0, _, _, _, _ => none
  | k + 1, x0, x1, x7, x8 => if x8 < x7 then (if 0 ≤ x8 then (if x8 < (x0.length : Int) then (if x1 = (rd x0 x8) then (some x8) else (slices_Index_int_int.l0 k x0 x1 x7 (wrap64 (x8 + 1)))) else (none)) else (none)) else (some (-1))
def slices_Index_int_int.f (k : Nat) (l0 : List Int) (a1 : Int) : Option (Int) := slices_Index_int_int.l0 k l0 a1 (l0.length : Int) 0
theorem slices_Index_int_int.mono_l : ∀ k, (∀ y0 y1 y2 y3, LeO (slices_Index_int_int.l0 k y0 y1 y2 y3) (slices_Index_int_int.l0 (k + 1) y0 y1 y2 y3))
  | 0 => fun _ _ _ _ r h => by simp [slices_Index_int_int.l0] at h
  | k + 1 => by
    have ih0 := slices_Index_int_int.mono_l k
    · intro y0 y1 y2 y3
      unfold slices_Index_int_int.l0
      repeat' first
      | (with_reducible exact ih0 _ _ _ _)
      | (with_reducible exact LeO.refl _)
      | (with_reducible exact LeO.none _)
      | (with_reducible refine LeO.ite ?_ ?_)
      | (with_reducible refine LeO.bind ?_ (fun _ => ?_))
      | exact ih0 _ _ _ _
      | exact LeO.none _
      | refine LeO.ite ?_ ?_
      | refine LeO.bind ?_ (fun _ => ?_)
theorem slices_Index_int_int.mono : ∀ a0 a1 k, LeO (slices_Index_int_int.f k a0 a1) (slices_Index_int_int.f (k + 1) a0 a1) := by
  intro a0 a1 k
  have ih0 := slices_Index_int_int.mono_l k
  unfold slices_Index_int_int.f
  repeat' first
      | (with_reducible exact ih0 _ _ _ _)
      | (with_reducible exact LeO.refl _)
      | (with_reducible exact LeO.none _)
      | (with_reducible refine LeO.ite ?_ ?_)
      | (with_reducible refine LeO.bind ?_ (fun _ => ?_))
      | exact ih0 _ _ _ _
      | exact LeO.none _
      | refine LeO.ite ?_ ?_
      | refine LeO.bind ?_ (fun _ => ?_)
set_option maxHeartbeats 8000000 in
set_option maxRecDepth 100000 in
theorem slices_Index_int_int.calls (k : Nat) (A0 : Option Addr) (c0 : Nat) (l0 : List Int) (a1 : Int) (r : Int) (w : World) (hr0 : Kd.C (Kd.int .i64) w A0 l0.length l0) (hc0 : l0.length ≤ c0) (h : slices_Index_int_int.f k l0 a1 = some r) :
    Calls Tryz.prog 133 #[.slice A0 l0.length c0, .int .i64 a1] w fun e w' => e = .returned (.int .i64 r) ∧ Drawn0 w w' := by
  have HR0 := Aside0.mk hr0
  have HC0 := Aside0.mk hc0
  clear hr0 hc0
  have H : (slices_Index_int_int.l0 k l0 a1 (l0.length : Int) 0) = some r := h
  clear h
  have H' := Aside0.mk H
  clear H
  go_enter Tryz.func133, Tryz.ntmps133
  go_wp2
  go_loopg [8] k (fun kq v8 w' => ∃ (x8_1 : Int), v8 = .int .i64 x8_1 ∧ Aside0 (slices_Index_int_int.l0 kq l0 a1 (l0.length : Int) x8_1 = some r) ∧ Aside0 (kq ≤ k) ∧ Drawn0 w w')
  case atStart => exact ⟨(0), eqs, H', ⟨Nat.le_refl _⟩, drz⟩
  case round =>
    clear H'
    try clear c1
    try clear p2
    obtain ⟨x8_1, rfl, HA, HK1, ⟨m1, rfl⟩⟩ := hrel
    cases gk with
    | zero => exact absurd HA.out (by simp [slices_Index_int_int.l0])
    | succ k1 =>
      have H := HA.out
      clear HA
      simp only [slices_Index_int_int.l0] at H
      by_cases c3 : x8_1 < (l0.length : Int)
      · rw [if_pos c3] at H
        have c3b0 := decide_eq_true c3
        clear c3
        by_cases c4 : 0 ≤ x8_1
        · rw [if_pos c4] at H
          have c4b0 := decide_eq_true c4
          clear c4
          by_cases c5 : x8_1 < (l0.length : Int)
          · rw [if_pos c5] at H
            have c5b0 := decide_eq_true c5
            clear c5
            by_cases c6 : a1 = (rd l0 x8_1)
            · rw [if_pos c6] at H
              have c6b0 : (a1 == (rd l0 x8_1)) = true := beq_iff_eq.mpr c6
              have c6b1 : (a1 != (rd l0 x8_1)) = false := bne_eq_false_iff_eq.mpr c6
              clear c6
              obtain rfl := Option.some.inj H
              have p101 : 0 ≤ (x8_1 : Int) := dt
              have q101 : x8_1 < (l0.length : Int) := dt
              obtain ⟨ad101, e101, hx101_0⟩ := Kd.at_int HR0.out x8_1 p101 q101
              cases e101
              replace p101 := eq_true p101
              replace q101 := eq_true q101
              go_wp2
              go_ret
              exact ⟨eqs, drz⟩
            · rw [if_neg c6] at H
              have c6b0 : (a1 == (rd l0 x8_1)) = false := beq_eq_false_iff_ne.mpr c6
              have c6b1 : (a1 != (rd l0 x8_1)) = true := bne_iff_ne.mpr c6
              have H' := Aside0.mk H
              clear H
              have p101 : 0 ≤ (x8_1 : Int) := dt
              have q101 : x8_1 < (l0.length : Int) := dt
              obtain ⟨ad101, e101, hx101_0⟩ := Kd.at_int HR0.out x8_1 p101 q101
              cases e101
              replace p101 := eq_true p101
              replace q101 := eq_true q101
              go_wp2
              go_roundg k1
              case measure => have := HK1.out; omega
              case rel => exact ⟨(wrap64 (x8_1 + 1)), eqs, H', ⟨hko⟩, drz⟩
          · rw [if_neg c5] at H
            exact absurd H (by simp)
        · rw [if_neg c4] at H
          exact absurd H (by simp)
      · rw [if_neg c3] at H
        have c3b0 := decide_eq_false c3
        clear c3
        obtain rfl := Option.some.inj H
        go_wp2
        go_ret
        exact ⟨eqs, drz⟩
def slices_Contains_int_int.f (k : Nat) (l0 : List Int) (a1 : Int) : Option (Bool) := (slices_Index_int_int.f k l0 a1).bind fun t101 => (some (decide (t101 ≥ 0)))
theorem slices_Contains_int_int.mono : ∀ a0 a1 k, LeO (slices_Contains_int_int.f k a0 a1) (slices_Contains_int_int.f (k + 1) a0 a1) := by
  intro a0 a1 k
  unfold slices_Contains_int_int.f
  repeat' first
      | (with_reducible exact slices_Index_int_int.mono _ _ _)
      | (with_reducible exact LeO.refl _)
      | (with_reducible exact LeO.none _)
      | (with_reducible refine LeO.ite ?_ ?_)
      | (with_reducible refine LeO.bind ?_ (fun _ => ?_))
      | exact slices_Index_int_int.mono _ _ _
      | exact LeO.none _
      | refine LeO.ite ?_ ?_
      | refine LeO.bind ?_ (fun _ => ?_)
set_option maxHeartbeats 8000000 in
set_option maxRecDepth 100000 in
theorem slices_Contains_int_int.calls (k : Nat) (A0 : Option Addr) (c0 : Nat) (l0 : List Int) (a1 : Int) (r : Bool) (w : World) (hr0 : Kd.C (Kd.int .i64) w A0 l0.length l0) (hc0 : l0.length ≤ c0) (h : slices_Contains_int_int.f k l0 a1 = some r) :
    Calls Tryz.prog 91 #[.slice A0 l0.length c0, .int .i64 a1] w fun e w' => e = .returned (.bool r) ∧ Drawn0 w w' := by
  have HR0 := Aside0.mk hr0
  have HC0 := Aside0.mk hc0
  clear hr0 hc0
  have H : ((slices_Index_int_int.f k l0 a1).bind fun t101 => (some (decide (t101 ≥ 0)))) = some r := h
  clear h
  replace H := bnd H
  obtain ⟨t101, A30, H⟩ := H
  have A3 := Aside0.mk A30
  clear A30
  obtain rfl := Option.some.inj H
  go_enter Tryz.func91, Tryz.ntmps91
  go_wp2_with (first | ((with_reducible refine gate_callee (f := 133) rfl ?_); refine goesL_ (some 7) rfl rfl Tryz.func133 (by kernel_rfl) rfl #[.slice A0 l0.length c0, .int .i64 a1] rfl arg ?_; (with_reducible refine (slices_Index_int_int.calls k _ _ l0 a1 t101 _ ?side1 ?side2 A3.out).mono ?_); (case side1 => repeat (first | exact HR0.out | (with_reducible refine Kd.C_alloc ?_ _) | (with_reducible refine Kd.C_drewN ?_ _) | (with_reducible refine Kd.C_drew ?_))); (case side2 => exact HC0.out); rintro e w' ⟨rfl, ⟨nd, rfl⟩⟩; refine ⟨_, rfl, ?_⟩))
  go_ret
  exact ⟨eqs, drz⟩
def member_May.f (k : Nat) (l0 : List (S148)) (a1_0 : ByteArray) (a1_1 : ByteArray) (a2 : Int) : Option (Int) := (member_Find.f l0 a1_0).bind fun bt102 => (if bt102.2.2.2 = true then ((member_Account.f l0 a1_0 a1_1).bind fun bt109 => (if bt109.2.2 = true then (if bt102.2.1 = 1 then (some 0) else (if bt102.2.1 = 2 then (if a2 = 1 then (some 13) else (if a2 = 3 then (some 13) else (some 0))) else (if bt102.2.1 = 3 then ((slices_Contains_int_int.f k (([4, 5, 6, 7, 8] : List Int)) a2).bind fun t116 => (if t116 = true then (some 0) else (some 13))) else (some 13)))) else (some 21))) else (some 20))
set_option maxHeartbeats 8000000 in
set_option maxRecDepth 100000 in
theorem member_May.calls (k : Nat) (A0 : Option Addr) (c0 : Nat) (l0 : List (S148)) (a1_0 : ByteArray) (a1_1 : ByteArray) (a2 : Int) (r : Int) (w : World) (hr0 : Kd.C k148 w A0 l0.length l0) (hc0 : l0.length ≤ c0) (h : member_May.f k l0 a1_0 a1_1 a2 = some r) :
    Calls Tryz.prog 36 #[.slice A0 l0.length c0, .agg #[.string a1_0, .string a1_1], .int .i64 a2] w fun e w' => e = .returned (.int .i64 r) ∧ Below w.heap.size w w' := by
  have hu25 := Tryz.underlying25
  have hu148 := Tryz.underlying148
  have hu151 := Tryz.underlying151
  have HR0 := Aside0.mk hr0
  have HC0 := Aside0.mk hc0
  clear hr0 hc0
  have HB := Aside0.mk (Below.refl w.heap.size w)
  have H : ((member_Find.f l0 a1_0).bind fun bt102 => (if bt102.2.2.2 = true then ((member_Account.f l0 a1_0 a1_1).bind fun bt109 => (if bt109.2.2 = true then (if bt102.2.1 = 1 then (some 0) else (if bt102.2.1 = 2 then (if a2 = 1 then (some 13) else (if a2 = 3 then (some 13) else (some 0))) else (if bt102.2.1 = 3 then ((slices_Contains_int_int.f k (([4, 5, 6, 7, 8] : List Int)) a2).bind fun t116 => (if t116 = true then (some 0) else (some 13))) else (some 13)))) else (some 21))) else (some 20))) = some r := h
  clear h
  replace H := bnd H
  obtain ⟨⟨t102, t103, t104, t107⟩, A40, H⟩ := H
  replace H : (if t107 = true then ((member_Account.f l0 a1_0 a1_1).bind fun bt109 => (if bt109.2.2 = true then (if t103 = 1 then (some 0) else (if t103 = 2 then (if a2 = 1 then (some 13) else (if a2 = 3 then (some 13) else (some 0))) else (if t103 = 3 then ((slices_Contains_int_int.f k (([4, 5, 6, 7, 8] : List Int)) a2).bind fun t116 => (if t116 = true then (some 0) else (some 13))) else (some 13)))) else (some 21))) else (some 20)) = some r := H
  have A4 := Aside0.mk A40
  clear A40
  by_cases c5 : t107 = true
  · subst c5
    rw [if_pos rfl] at H
    replace H := bnd H
    obtain ⟨⟨t109, t110, t111⟩, A60, H⟩ := H
    replace H : (if t111 = true then (if t103 = 1 then (some 0) else (if t103 = 2 then (if a2 = 1 then (some 13) else (if a2 = 3 then (some 13) else (some 0))) else (if t103 = 3 then ((slices_Contains_int_int.f k (([4, 5, 6, 7, 8] : List Int)) a2).bind fun t116 => (if t116 = true then (some 0) else (some 13))) else (some 13)))) else (some 21)) = some r := H
    have A6 := Aside0.mk A60
    clear A60
    go_enter Tryz.func36, Tryz.ntmps36
    go_wp2_with (first | ((with_reducible refine gate_dst (N := 4) rfl ?_); refine box_event ?hg (N := 4) ?hd (cs := #[.string a1_0, .string a1_1]) (t := 25) ?hr ?_; (case hd => rfl); (case hg => rfl); (case hr => first | (go_simp; done) | (go_simp; rfl)); intro gb101 hg w9 hbox hb; have BK101 := Aside0.mk (hbox); have GW101 := Aside0.mk ((gsz hg : w.heap.size ≤ gb101)); have GE101 := Aside0.mk ((gsz hg : w.heap.size ≤ gb101)); replace HB := Aside0.mk (below_step bel hb); clear hb hbox hg; obtain ⟨hcz10_0, hcz10_1, hfz10_0, hfz10_1⟩ := cz2 BK101.out) | ((with_reducible refine gate_callee (f := 89) rfl ?_); refine goesL_ (some 16) rfl rfl Tryz.func89 (by kernel_rfl) rfl #[.slice A0 l0.length c0, .string a1_0] rfl arg ?_; (with_reducible refine (member_Find.calls _ _ l0 a1_0 t102 t103 t104 true _ ?side1 ?side2 A4.out).mono ?_); (case side1 => repeat (first | exact (Kd.C_below HR0.out HB.out) | (with_reducible refine Kd.C_alloc ?_ _) | (with_reducible refine Kd.C_drewN ?_ _) | (with_reducible refine Kd.C_drew ?_))); (case side2 => exact HC0.out); rintro e w11 ⟨v105, rfl, ho0, hb⟩; refine ⟨_, rfl, ?_⟩; have HO106 := Aside0.mk (Kd.R_lower ho0 (below_size bel)); replace BK101 := Aside0.mk (blk_below (g := gb101) (bw BK101.out) hb); replace HB := Aside0.mk (below_step bel hb); (try clear hb); (try clear hb2); (try clear hk); (try clear hi); (try clear ho0)) | ((with_reducible refine gate_dst (N := 7) rfl ?_); refine Aside0.out ?_))
    by_cases c7 : t111 = true
    · subst c7
      rw [if_pos rfl] at H
      refine Aside0.mk ?_
      (refine box_event ?hg (N := 7) ?hd (cs := #[.string (⟨#[]⟩ : ByteArray), .int .i64 0, .slice none 0 0]) (t := 148) ?hr ?_; (case hd => rfl); (case hg => rfl); (case hr => first | (go_simp; done) | (go_simp; rfl)); intro gb108 hg w12 hbox hb; replace HO106 := Aside0.mk (Kd.R_below (kr HO106.out) hb); have BK108 := Aside0.mk (hbox); have GW108 := Aside0.mk ((gsz hg : w.heap.size ≤ gb108)); have GE108 := Aside0.mk ((gsz hg : w.heap.size ≤ gb108)); have NB101_108 := Aside0.mk ((nlt hg (bw BK101.out) : gb101 ≠ gb108)); have NB108_101 := Aside0.mk ((ngt hg (bw BK101.out) : gb108 ≠ gb101)); replace BK101 := Aside0.mk (blk_below (g := gb101) (bw BK101.out) hb); replace HB := Aside0.mk (below_step bel hb); clear hb hbox hg; have hnb13 := NB108_101.out; have hnc13 := NB101_108.out; obtain ⟨hcz14_0, hcz14_1, hcz14_2, hfz14_0, hfz14_1, hfz14_2⟩ := cz3 BK108.out; obtain ⟨Ao15, co15, eo15⟩ := Kd.R_slice HO106.out; subst eo15; obtain ⟨hcz16_0, hcz16_1, hfz16_0, hfz16_1⟩ := cz2 BK101.out)
      go_wp2_with (first | ((with_reducible refine gate_callee (f := 90) rfl ?_); refine goesL_ (some 24) rfl rfl Tryz.func90 (by kernel_rfl) rfl #[.slice A0 l0.length c0, .agg #[.string a1_0, .string a1_1]] rfl arg ?_; (with_reducible refine (member_Account.calls _ _ l0 a1_0 a1_1 t109 t110 true _ ?side1 ?side2 A6.out).mono ?_); (case side1 => exact Kd.C_below HR0.out bel); (case side2 => exact HC0.out); rintro e w17 ⟨rfl, hb⟩; refine ⟨_, rfl, ?_⟩; replace HO106 := Aside0.mk (Kd.R_below (by (with_reducible repeat (first | apply Kd.R_alloc | apply Kd.R_drewN | apply Kd.R_drew)); exact (Kd.R_mono (Kd.R_far (p := ⟨gb108, 2, none⟩) (Kd.R_far (p := ⟨gb108, 1, none⟩) (Kd.R_far (p := ⟨gb108, 0, none⟩) (Kd.R_types HO106.out BK108.out (by decide)) (fun _ hk => hk.2) (.string t102)) (fun _ hk => hk.2) (.int .i64 t103)) (fun _ hk => hk.2) (.slice Ao15 t104.length co15)) (fun _ h_ => h_.1))) hb); replace BK101 := Aside0.mk (blk_below (g := gb101) (o := .cells #[.string a1_0, .string a1_1] 25 (0, 0)) (bs BK101.out) hb); replace BK108 := Aside0.mk (blk_below (g := gb108) (o := .cells #[.string t102, .int .i64 t103, .slice Ao15 t104.length co15] 148 (0, 0)) (bs BK108.out) hb); replace HB := Aside0.mk (below_step bel hb); (try clear hb); (try clear hb2); (try clear hk); (try clear hi)) | ((with_reducible refine gate_dst (N := 9) rfl ?_); refine Aside0.out ?_))
      by_cases c8 : t103 = 1
      · rw [if_pos c8] at H
        have c8b0 : (t103 == 1) = true := beq_iff_eq.mpr c8
        have c8b1 : (t103 != 1) = false := bne_eq_false_iff_eq.mpr c8
        clear c8
        obtain rfl := Option.some.inj H
        refine Aside0.mk ?_
        (refine box_event ?hg (N := 9) ?hd (cs := #[.string (⟨#[]⟩ : ByteArray), .int .i64 0]) (t := 151) ?hr ?_; (case hd => rfl); (case hg => rfl); (case hr => first | (go_simp; done) | (go_simp; rfl)); intro gb112 hg w18 hbox hb; replace HO106 := Aside0.mk (Kd.R_below (Kd.R_elderB (kr HO106.out) gb112 (Nat.le_of_eq hg.symm)) hb); have BK112 := Aside0.mk (hbox); have GW112 := Aside0.mk ((gsz hg : w.heap.size ≤ gb112)); have GE112 := Aside0.mk ((gsz hg : w.heap.size ≤ gb112)); have NB101_112 := Aside0.mk ((nlt hg (bw BK101.out) : gb101 ≠ gb112)); have NB112_101 := Aside0.mk ((ngt hg (bw BK101.out) : gb112 ≠ gb101)); replace BK101 := Aside0.mk (blk_below (g := gb101) (bw BK101.out) hb); have NB108_112 := Aside0.mk ((nlt hg (bw BK108.out) : gb108 ≠ gb112)); have NB112_108 := Aside0.mk ((ngt hg (bw BK108.out) : gb112 ≠ gb108)); replace BK108 := Aside0.mk (blk_below (g := gb108) (bw BK108.out) hb); replace HB := Aside0.mk (below_step bel hb); clear hb hbox hg; have hnb19 := NB112_101.out; have hnc19 := NB101_112.out; have hnb20 := NB112_108.out; have hnc20 := NB108_112.out; obtain ⟨hcz21_0, hcz21_1, hfz21_0, hfz21_1⟩ := cz2 BK112.out; obtain ⟨hcz22_0, hcz22_1, hcz22_2, hfz22_0, hfz22_1, hfz22_2⟩ := cz3 BK108.out)
        go_wp2_with (fail)
        go_ret
        exact ⟨ers, bel⟩
      · rw [if_neg c8] at H
        have c8b0 : (t103 == 1) = false := beq_eq_false_iff_ne.mpr c8
        have c8b1 : (t103 != 1) = true := bne_iff_ne.mpr c8
        by_cases c23 : t103 = 2
        · rw [if_pos c23] at H
          have c23b0 : (t103 == 2) = true := beq_iff_eq.mpr c23
          have c23b1 : (t103 != 2) = false := bne_eq_false_iff_eq.mpr c23
          clear c23
          by_cases c24 : a2 = 1
          · rw [if_pos c24] at H
            have c24b0 : (a2 == 1) = true := beq_iff_eq.mpr c24
            have c24b1 : (a2 != 1) = false := bne_eq_false_iff_eq.mpr c24
            clear c24
            obtain rfl := Option.some.inj H
            refine Aside0.mk ?_
            (refine box_event ?hg (N := 9) ?hd (cs := #[.string (⟨#[]⟩ : ByteArray), .int .i64 0]) (t := 151) ?hr ?_; (case hd => rfl); (case hg => rfl); (case hr => first | (go_simp; done) | (go_simp; rfl)); intro gb112 hg w34 hbox hb; replace HO106 := Aside0.mk (Kd.R_below (Kd.R_elderB (kr HO106.out) gb112 (Nat.le_of_eq hg.symm)) hb); have BK112 := Aside0.mk (hbox); have GW112 := Aside0.mk ((gsz hg : w.heap.size ≤ gb112)); have GE112 := Aside0.mk ((gsz hg : w.heap.size ≤ gb112)); have NB101_112 := Aside0.mk ((nlt hg (bw BK101.out) : gb101 ≠ gb112)); have NB112_101 := Aside0.mk ((ngt hg (bw BK101.out) : gb112 ≠ gb101)); replace BK101 := Aside0.mk (blk_below (g := gb101) (bw BK101.out) hb); have NB108_112 := Aside0.mk ((nlt hg (bw BK108.out) : gb108 ≠ gb112)); have NB112_108 := Aside0.mk ((ngt hg (bw BK108.out) : gb112 ≠ gb108)); replace BK108 := Aside0.mk (blk_below (g := gb108) (bw BK108.out) hb); replace HB := Aside0.mk (below_step bel hb); clear hb hbox hg; have hnb35 := NB112_101.out; have hnc35 := NB101_112.out; have hnb36 := NB112_108.out; have hnc36 := NB108_112.out; obtain ⟨hcz37_0, hcz37_1, hfz37_0, hfz37_1⟩ := cz2 BK112.out; obtain ⟨hcz38_0, hcz38_1, hcz38_2, hfz38_0, hfz38_1, hfz38_2⟩ := cz3 BK108.out)
            go_wp2_with (fail)
            go_ret
            exact ⟨ers, bel⟩
          · rw [if_neg c24] at H
            have c24b0 : (a2 == 1) = false := beq_eq_false_iff_ne.mpr c24
            have c24b1 : (a2 != 1) = true := bne_iff_ne.mpr c24
            by_cases c39 : a2 = 3
            · rw [if_pos c39] at H
              have c39b0 : (a2 == 3) = true := beq_iff_eq.mpr c39
              have c39b1 : (a2 != 3) = false := bne_eq_false_iff_eq.mpr c39
              clear c39
              obtain rfl := Option.some.inj H
              refine Aside0.mk ?_
              (refine box_event ?hg (N := 9) ?hd (cs := #[.string (⟨#[]⟩ : ByteArray), .int .i64 0]) (t := 151) ?hr ?_; (case hd => rfl); (case hg => rfl); (case hr => first | (go_simp; done) | (go_simp; rfl)); intro gb112 hg w49 hbox hb; replace HO106 := Aside0.mk (Kd.R_below (Kd.R_elderB (kr HO106.out) gb112 (Nat.le_of_eq hg.symm)) hb); have BK112 := Aside0.mk (hbox); have GW112 := Aside0.mk ((gsz hg : w.heap.size ≤ gb112)); have GE112 := Aside0.mk ((gsz hg : w.heap.size ≤ gb112)); have NB101_112 := Aside0.mk ((nlt hg (bw BK101.out) : gb101 ≠ gb112)); have NB112_101 := Aside0.mk ((ngt hg (bw BK101.out) : gb112 ≠ gb101)); replace BK101 := Aside0.mk (blk_below (g := gb101) (bw BK101.out) hb); have NB108_112 := Aside0.mk ((nlt hg (bw BK108.out) : gb108 ≠ gb112)); have NB112_108 := Aside0.mk ((ngt hg (bw BK108.out) : gb112 ≠ gb108)); replace BK108 := Aside0.mk (blk_below (g := gb108) (bw BK108.out) hb); replace HB := Aside0.mk (below_step bel hb); clear hb hbox hg; have hnb50 := NB112_101.out; have hnc50 := NB101_112.out; have hnb51 := NB112_108.out; have hnc51 := NB108_112.out; obtain ⟨hcz52_0, hcz52_1, hfz52_0, hfz52_1⟩ := cz2 BK112.out; obtain ⟨hcz53_0, hcz53_1, hcz53_2, hfz53_0, hfz53_1, hfz53_2⟩ := cz3 BK108.out)
              go_wp2_with (fail)
              go_ret
              exact ⟨ers, bel⟩
            · rw [if_neg c39] at H
              have c39b0 : (a2 == 3) = false := beq_eq_false_iff_ne.mpr c39
              have c39b1 : (a2 != 3) = true := bne_iff_ne.mpr c39
              obtain rfl := Option.some.inj H
              refine Aside0.mk ?_
              (refine box_event ?hg (N := 9) ?hd (cs := #[.string (⟨#[]⟩ : ByteArray), .int .i64 0]) (t := 151) ?hr ?_; (case hd => rfl); (case hg => rfl); (case hr => first | (go_simp; done) | (go_simp; rfl)); intro gb112 hg w63 hbox hb; replace HO106 := Aside0.mk (Kd.R_below (Kd.R_elderB (kr HO106.out) gb112 (Nat.le_of_eq hg.symm)) hb); have BK112 := Aside0.mk (hbox); have GW112 := Aside0.mk ((gsz hg : w.heap.size ≤ gb112)); have GE112 := Aside0.mk ((gsz hg : w.heap.size ≤ gb112)); have NB101_112 := Aside0.mk ((nlt hg (bw BK101.out) : gb101 ≠ gb112)); have NB112_101 := Aside0.mk ((ngt hg (bw BK101.out) : gb112 ≠ gb101)); replace BK101 := Aside0.mk (blk_below (g := gb101) (bw BK101.out) hb); have NB108_112 := Aside0.mk ((nlt hg (bw BK108.out) : gb108 ≠ gb112)); have NB112_108 := Aside0.mk ((ngt hg (bw BK108.out) : gb112 ≠ gb108)); replace BK108 := Aside0.mk (blk_below (g := gb108) (bw BK108.out) hb); replace HB := Aside0.mk (below_step bel hb); clear hb hbox hg; have hnb64 := NB112_101.out; have hnc64 := NB101_112.out; have hnb65 := NB112_108.out; have hnc65 := NB108_112.out; obtain ⟨hcz66_0, hcz66_1, hfz66_0, hfz66_1⟩ := cz2 BK112.out; obtain ⟨hcz67_0, hcz67_1, hcz67_2, hfz67_0, hfz67_1, hfz67_2⟩ := cz3 BK108.out)
              go_wp2_with (fail)
              go_ret
              exact ⟨ers, bel⟩
        · rw [if_neg c23] at H
          have c23b0 : (t103 == 2) = false := beq_eq_false_iff_ne.mpr c23
          have c23b1 : (t103 != 2) = true := bne_iff_ne.mpr c23
          by_cases c68 : t103 = 3
          · rw [if_pos c68] at H
            have c68b0 : (t103 == 3) = true := beq_iff_eq.mpr c68
            have c68b1 : (t103 != 3) = false := bne_eq_false_iff_eq.mpr c68
            clear c68
            obtain ⟨y113, hy113⟩ : ∃ y_ : List Int, y_ = (([4, 5, 6, 7, 8] : List Int)) := ⟨_, rfl⟩
            replace H : ((slices_Contains_int_int.f k y113 a2).bind fun t116 => (if t116 = true then (some 0) else (some 13))) = some r := by first | (rw [hy113]; with_reducible exact H) | (have H2_ := (Option.bind_some _ _).symm.trans H; rw [hy113]; with_reducible exact H2_) | (have H2_ := (Option.bind_some _ _).symm.trans H; with_reducible exact H2_) | with_reducible exact H | (rw [hy113]; exact H) | exact H
            have Ny113 := Aside0.mk hy113
            clear hy113
            replace H := bnd H
            obtain ⟨t116, A690, H⟩ := H
            have A69 := Aside0.mk A690
            clear A690
            refine Aside0.mk ?_
            (refine box_event ?hg (N := 9) ?hd (cs := #[.string (⟨#[]⟩ : ByteArray), .int .i64 0]) (t := 151) ?hr ?_; (case hd => rfl); (case hg => rfl); (case hr => first | (go_simp; done) | (go_simp; rfl)); intro gb112 hg w80 hbox hb; replace HO106 := Aside0.mk (Kd.R_below (Kd.R_elderB (kr HO106.out) gb112 (Nat.le_of_eq hg.symm)) hb); have BK112 := Aside0.mk (hbox); have GW112 := Aside0.mk ((gsz hg : w.heap.size ≤ gb112)); have GE112 := Aside0.mk ((gsz hg : w.heap.size ≤ gb112)); have NB101_112 := Aside0.mk ((nlt hg (bw BK101.out) : gb101 ≠ gb112)); have NB112_101 := Aside0.mk ((ngt hg (bw BK101.out) : gb112 ≠ gb101)); replace BK101 := Aside0.mk (blk_below (g := gb101) (bw BK101.out) hb); have NB108_112 := Aside0.mk ((nlt hg (bw BK108.out) : gb108 ≠ gb112)); have NB112_108 := Aside0.mk ((ngt hg (bw BK108.out) : gb112 ≠ gb108)); replace BK108 := Aside0.mk (blk_below (g := gb108) (bw BK108.out) hb); replace HB := Aside0.mk (below_step bel hb); clear hb hbox hg; have hnb81 := NB112_101.out; have hnc81 := NB101_112.out; have hnb82 := NB112_108.out; have hnc82 := NB108_112.out; obtain ⟨hcz83_0, hcz83_1, hfz83_0, hfz83_1⟩ := cz2 BK112.out; obtain ⟨hcz84_0, hcz84_1, hcz84_2, hfz84_0, hfz84_1, hfz84_2⟩ := cz3 BK108.out)
            go_wp2_with (((with_reducible refine gate_dst (N := 43) rfl ?_); refine Aside0.out ?_))
            by_cases c70 : t116 = true
            · subst c70
              rw [if_pos rfl] at H
              obtain rfl := Option.some.inj H
              refine Aside0.mk ?_
              (refine Kd.R_lit (Kd.int .i64) _ 3 ?hg (N := 43) ?hd (xs := ([4, 5, 6, 7, 8] : List Int)) (inner := [.int .i64 4, .int .i64 5, .int .i64 6, .int .i64 7, .int .i64 8]) (ok := fun _ => True) (okp := fun _ => True) ?hr ?hp (fun _ hk => hk) trivial (Below.refl _ _) (Nat.le_refl _) (by simp) ?_; (case hd => rfl); (case hg => rfl); (case hr => first | (go_simp; done) | (go_simp; rfl)); (case hp => exact (Reps.one (show Kd.M (Kd.int .i64) _ _ _ 4 [.int .i64 4] from rfl) (Reps.one (show Kd.M (Kd.int .i64) _ _ _ 5 [.int .i64 5] from rfl) (Reps.one (show Kd.M (Kd.int .i64) _ _ _ 6 [.int .i64 6] from rfl) (Reps.one (show Kd.M (Kd.int .i64) _ _ _ 7 [.int .i64 7] from rfl) (Reps.one (show Kd.M (Kd.int .i64) _ _ _ 8 [.int .i64 8] from rfl) (Reps.none _ _))))))); intro v114 w85 ho86 hb hg_ hnew_; clear hg_ hnew_; (first | rw [← Ny113.out] at ho86 | (simp only [Int.reduceToNat] at ho86; rw [← Ny113.out] at ho86)); replace HO106 := Aside0.mk (Kd.R_below (by (with_reducible repeat (first | apply Kd.R_alloc | apply Kd.R_drewN | apply Kd.R_drew)); exact (Kd.R_mono (Kd.R_far (p := ⟨gb112, 1, none⟩) (Kd.R_far (p := ⟨gb112, 0, none⟩) (Kd.R_mono HO106.out (fun k_ hk => (⟨hk, hk.2⟩ : _ ∧ k_ ≠ gb112))) (fun _ hk => hk.2) (.string t109)) (fun _ hk => hk.2) (.int .i64 t110)) (fun _ h_ => h_.1))) hb); have HO115 := Aside0.mk (Kd.R_lower ho86 (below_size bel)); replace BK101 := Aside0.mk (blk_below (g := gb101) (o := .cells #[.string a1_0, .string a1_1] 25 (0, 0)) (bs BK101.out) hb); replace BK108 := Aside0.mk (blk_below (g := gb108) (o := .cells #[.string t102, .int .i64 t103, .slice Ao15 t104.length co15] 148 (0, 0)) (bs BK108.out) hb); replace BK112 := Aside0.mk (blk_below (g := gb112) (o := .cells #[.string t109, .int .i64 t110] 151 (0, 0)) (bs BK112.out) hb); replace HB := Aside0.mk (below_step bel hb); clear hb ho86; obtain ⟨Ao87, co87, eo87⟩ := Kd.R_slice HO115.out; subst eo87)
              go_wp2_with (((with_reducible refine gate_callee (f := 91) rfl ?_); refine goesL_ (some 45) rfl rfl Tryz.func91 (by kernel_rfl) rfl #[.slice Ao87 y113.length co87, .int .i64 a2] rfl arg ?_; (with_reducible refine (slices_Contains_int_int.calls k _ _ y113 a2 true _ ?side1 ?side2 A69.out).mono ?_); (case side1 => repeat (first | exact (Kd.R_reads' HO115.out).2.2 | (with_reducible refine Kd.C_alloc ?_ _) | (with_reducible refine Kd.C_drewN ?_ _) | (with_reducible refine Kd.C_drew ?_))); (case side2 => exact (Kd.R_reads' HO115.out).2.1); rintro e w' ⟨rfl, ⟨nd, rfl⟩⟩; refine ⟨_, rfl, ?_⟩))
              go_ret
              exact ⟨ers, bel⟩
            · replace c70 := Bool.eq_false_iff.mpr c70
              subst c70
              rw [if_neg (show ¬ (false = true) by decide)] at H
              obtain rfl := Option.some.inj H
              refine Aside0.mk ?_
              (refine Kd.R_lit (Kd.int .i64) _ 3 ?hg (N := 43) ?hd (xs := ([4, 5, 6, 7, 8] : List Int)) (inner := [.int .i64 4, .int .i64 5, .int .i64 6, .int .i64 7, .int .i64 8]) (ok := fun _ => True) (okp := fun _ => True) ?hr ?hp (fun _ hk => hk) trivial (Below.refl _ _) (Nat.le_refl _) (by simp) ?_; (case hd => rfl); (case hg => rfl); (case hr => first | (go_simp; done) | (go_simp; rfl)); (case hp => exact (Reps.one (show Kd.M (Kd.int .i64) _ _ _ 4 [.int .i64 4] from rfl) (Reps.one (show Kd.M (Kd.int .i64) _ _ _ 5 [.int .i64 5] from rfl) (Reps.one (show Kd.M (Kd.int .i64) _ _ _ 6 [.int .i64 6] from rfl) (Reps.one (show Kd.M (Kd.int .i64) _ _ _ 7 [.int .i64 7] from rfl) (Reps.one (show Kd.M (Kd.int .i64) _ _ _ 8 [.int .i64 8] from rfl) (Reps.none _ _))))))); intro v114 w102 ho103 hb hg_ hnew_; clear hg_ hnew_; (first | rw [← Ny113.out] at ho103 | (simp only [Int.reduceToNat] at ho103; rw [← Ny113.out] at ho103)); replace HO106 := Aside0.mk (Kd.R_below (by (with_reducible repeat (first | apply Kd.R_alloc | apply Kd.R_drewN | apply Kd.R_drew)); exact (Kd.R_mono (Kd.R_far (p := ⟨gb112, 1, none⟩) (Kd.R_far (p := ⟨gb112, 0, none⟩) (Kd.R_mono HO106.out (fun k_ hk => (⟨hk, hk.2⟩ : _ ∧ k_ ≠ gb112))) (fun _ hk => hk.2) (.string t109)) (fun _ hk => hk.2) (.int .i64 t110)) (fun _ h_ => h_.1))) hb); have HO115 := Aside0.mk (Kd.R_lower ho103 (below_size bel)); replace BK101 := Aside0.mk (blk_below (g := gb101) (o := .cells #[.string a1_0, .string a1_1] 25 (0, 0)) (bs BK101.out) hb); replace BK108 := Aside0.mk (blk_below (g := gb108) (o := .cells #[.string t102, .int .i64 t103, .slice Ao15 t104.length co15] 148 (0, 0)) (bs BK108.out) hb); replace BK112 := Aside0.mk (blk_below (g := gb112) (o := .cells #[.string t109, .int .i64 t110] 151 (0, 0)) (bs BK112.out) hb); replace HB := Aside0.mk (below_step bel hb); clear hb ho103; obtain ⟨Ao104, co104, eo104⟩ := Kd.R_slice HO115.out; subst eo104)
              go_wp2_with (((with_reducible refine gate_callee (f := 91) rfl ?_); refine goesL_ (some 45) rfl rfl Tryz.func91 (by kernel_rfl) rfl #[.slice Ao104 y113.length co104, .int .i64 a2] rfl arg ?_; (with_reducible refine (slices_Contains_int_int.calls k _ _ y113 a2 false _ ?side1 ?side2 A69.out).mono ?_); (case side1 => repeat (first | exact (Kd.R_reads' HO115.out).2.2 | (with_reducible refine Kd.C_alloc ?_ _) | (with_reducible refine Kd.C_drewN ?_ _) | (with_reducible refine Kd.C_drew ?_))); (case side2 => exact (Kd.R_reads' HO115.out).2.1); rintro e w' ⟨rfl, ⟨nd, rfl⟩⟩; refine ⟨_, rfl, ?_⟩))
              go_ret
              exact ⟨ers, bel⟩
          · rw [if_neg c68] at H
            have c68b0 : (t103 == 3) = false := beq_eq_false_iff_ne.mpr c68
            have c68b1 : (t103 != 3) = true := bne_iff_ne.mpr c68
            obtain rfl := Option.some.inj H
            refine Aside0.mk ?_
            (refine box_event ?hg (N := 9) ?hd (cs := #[.string (⟨#[]⟩ : ByteArray), .int .i64 0]) (t := 151) ?hr ?_; (case hd => rfl); (case hg => rfl); (case hr => first | (go_simp; done) | (go_simp; rfl)); intro gb112 hg w114 hbox hb; replace HO106 := Aside0.mk (Kd.R_below (Kd.R_elderB (kr HO106.out) gb112 (Nat.le_of_eq hg.symm)) hb); have BK112 := Aside0.mk (hbox); have GW112 := Aside0.mk ((gsz hg : w.heap.size ≤ gb112)); have GE112 := Aside0.mk ((gsz hg : w.heap.size ≤ gb112)); have NB101_112 := Aside0.mk ((nlt hg (bw BK101.out) : gb101 ≠ gb112)); have NB112_101 := Aside0.mk ((ngt hg (bw BK101.out) : gb112 ≠ gb101)); replace BK101 := Aside0.mk (blk_below (g := gb101) (bw BK101.out) hb); have NB108_112 := Aside0.mk ((nlt hg (bw BK108.out) : gb108 ≠ gb112)); have NB112_108 := Aside0.mk ((ngt hg (bw BK108.out) : gb112 ≠ gb108)); replace BK108 := Aside0.mk (blk_below (g := gb108) (bw BK108.out) hb); replace HB := Aside0.mk (below_step bel hb); clear hb hbox hg; have hnb115 := NB112_101.out; have hnc115 := NB101_112.out; have hnb116 := NB112_108.out; have hnc116 := NB108_112.out; obtain ⟨hcz117_0, hcz117_1, hfz117_0, hfz117_1⟩ := cz2 BK112.out; obtain ⟨hcz118_0, hcz118_1, hcz118_2, hfz118_0, hfz118_1, hfz118_2⟩ := cz3 BK108.out)
            go_wp2_with (fail)
            go_ret
            exact ⟨ers, bel⟩
    · replace c7 := Bool.eq_false_iff.mpr c7
      subst c7
      rw [if_neg (show ¬ (false = true) by decide)] at H
      obtain rfl := Option.some.inj H
      refine Aside0.mk ?_
      (refine box_event ?hg (N := 7) ?hd (cs := #[.string (⟨#[]⟩ : ByteArray), .int .i64 0, .slice none 0 0]) (t := 148) ?hr ?_; (case hd => rfl); (case hg => rfl); (case hr => first | (go_simp; done) | (go_simp; rfl)); intro gb108 hg w122 hbox hb; replace HO106 := Aside0.mk (Kd.R_below (kr HO106.out) hb); have BK108 := Aside0.mk (hbox); have GW108 := Aside0.mk ((gsz hg : w.heap.size ≤ gb108)); have GE108 := Aside0.mk ((gsz hg : w.heap.size ≤ gb108)); have NB101_108 := Aside0.mk ((nlt hg (bw BK101.out) : gb101 ≠ gb108)); have NB108_101 := Aside0.mk ((ngt hg (bw BK101.out) : gb108 ≠ gb101)); replace BK101 := Aside0.mk (blk_below (g := gb101) (bw BK101.out) hb); replace HB := Aside0.mk (below_step bel hb); clear hb hbox hg; have hnb123 := NB108_101.out; have hnc123 := NB101_108.out; obtain ⟨hcz124_0, hcz124_1, hcz124_2, hfz124_0, hfz124_1, hfz124_2⟩ := cz3 BK108.out; obtain ⟨Ao125, co125, eo125⟩ := Kd.R_slice HO106.out; subst eo125; obtain ⟨hcz126_0, hcz126_1, hfz126_0, hfz126_1⟩ := cz2 BK101.out)
      go_wp2_with (first | ((with_reducible refine gate_callee (f := 90) rfl ?_); refine goesL_ (some 24) rfl rfl Tryz.func90 (by kernel_rfl) rfl #[.slice A0 l0.length c0, .agg #[.string a1_0, .string a1_1]] rfl arg ?_; (with_reducible refine (member_Account.calls _ _ l0 a1_0 a1_1 t109 t110 false _ ?side1 ?side2 A6.out).mono ?_); (case side1 => exact Kd.C_below HR0.out bel); (case side2 => exact HC0.out); rintro e w127 ⟨rfl, hb⟩; refine ⟨_, rfl, ?_⟩; replace HO106 := Aside0.mk (Kd.R_below (by (with_reducible repeat (first | apply Kd.R_alloc | apply Kd.R_drewN | apply Kd.R_drew)); exact (Kd.R_mono (Kd.R_far (p := ⟨gb108, 2, none⟩) (Kd.R_far (p := ⟨gb108, 1, none⟩) (Kd.R_far (p := ⟨gb108, 0, none⟩) (Kd.R_types HO106.out BK108.out (by decide)) (fun _ hk => hk.2) (.string t102)) (fun _ hk => hk.2) (.int .i64 t103)) (fun _ hk => hk.2) (.slice Ao125 t104.length co125)) (fun _ h_ => h_.1))) hb); replace BK101 := Aside0.mk (blk_below (g := gb101) (o := .cells #[.string a1_0, .string a1_1] 25 (0, 0)) (bs BK101.out) hb); replace BK108 := Aside0.mk (blk_below (g := gb108) (o := .cells #[.string t102, .int .i64 t103, .slice Ao125 t104.length co125] 148 (0, 0)) (bs BK108.out) hb); replace HB := Aside0.mk (below_step bel hb); (try clear hb); (try clear hb2); (try clear hk); (try clear hi)) | ((with_reducible refine gate_dst (N := 9) rfl ?_); refine box_event ?hg (N := 9) ?hd (cs := #[.string (⟨#[]⟩ : ByteArray), .int .i64 0]) (t := 151) ?hr ?_; (case hd => rfl); (case hg => rfl); (case hr => first | (go_simp; done) | (go_simp; rfl)); intro gb112 hg w128 hbox hb; replace HO106 := Aside0.mk (Kd.R_below (Kd.R_elderB (kr HO106.out) gb112 (Nat.le_of_eq hg.symm)) hb); have BK112 := Aside0.mk (hbox); have GW112 := Aside0.mk ((gsz hg : w.heap.size ≤ gb112)); have GE112 := Aside0.mk ((gsz hg : w.heap.size ≤ gb112)); have NB101_112 := Aside0.mk ((nlt hg (bw BK101.out) : gb101 ≠ gb112)); have NB112_101 := Aside0.mk ((ngt hg (bw BK101.out) : gb112 ≠ gb101)); replace BK101 := Aside0.mk (blk_below (g := gb101) (bw BK101.out) hb); have NB108_112 := Aside0.mk ((nlt hg (bw BK108.out) : gb108 ≠ gb112)); have NB112_108 := Aside0.mk ((ngt hg (bw BK108.out) : gb112 ≠ gb108)); replace BK108 := Aside0.mk (blk_below (g := gb108) (bw BK108.out) hb); replace HB := Aside0.mk (below_step bel hb); clear hb hbox hg; have hnb129 := NB112_101.out; have hnc129 := NB101_112.out; have hnb130 := NB112_108.out; have hnc130 := NB108_112.out; obtain ⟨hcz131_0, hcz131_1, hfz131_0, hfz131_1⟩ := cz2 BK112.out))
      go_ret
      exact ⟨ers, bel⟩
  · replace c5 := Bool.eq_false_iff.mpr c5
    subst c5
    rw [if_neg (show ¬ (false = true) by decide)] at H
    obtain rfl := Option.some.inj H
    go_enter Tryz.func36, Tryz.ntmps36
    go_wp2_with (first | ((with_reducible refine gate_dst (N := 4) rfl ?_); refine box_event ?hg (N := 4) ?hd (cs := #[.string a1_0, .string a1_1]) (t := 25) ?hr ?_; (case hd => rfl); (case hg => rfl); (case hr => first | (go_simp; done) | (go_simp; rfl)); intro gb101 hg w132 hbox hb; have BK101 := Aside0.mk (hbox); have GW101 := Aside0.mk ((gsz hg : w.heap.size ≤ gb101)); have GE101 := Aside0.mk ((gsz hg : w.heap.size ≤ gb101)); replace HB := Aside0.mk (below_step bel hb); clear hb hbox hg; obtain ⟨hcz133_0, hcz133_1, hfz133_0, hfz133_1⟩ := cz2 BK101.out) | ((with_reducible refine gate_callee (f := 89) rfl ?_); refine goesL_ (some 16) rfl rfl Tryz.func89 (by kernel_rfl) rfl #[.slice A0 l0.length c0, .string a1_0] rfl arg ?_; (with_reducible refine (member_Find.calls _ _ l0 a1_0 t102 t103 t104 false _ ?side1 ?side2 A4.out).mono ?_); (case side1 => repeat (first | exact (Kd.C_below HR0.out HB.out) | (with_reducible refine Kd.C_alloc ?_ _) | (with_reducible refine Kd.C_drewN ?_ _) | (with_reducible refine Kd.C_drew ?_))); (case side2 => exact HC0.out); rintro e w134 ⟨v105, rfl, ho0, hb⟩; refine ⟨_, rfl, ?_⟩; have HO106 := Aside0.mk (Kd.R_lower ho0 (below_size bel)); replace BK101 := Aside0.mk (blk_below (g := gb101) (bw BK101.out) hb); replace HB := Aside0.mk (below_step bel hb); (try clear hb); (try clear hb2); (try clear hk); (try clear hi); (try clear ho0)) | ((with_reducible refine gate_dst (N := 7) rfl ?_); refine box_event ?hg (N := 7) ?hd (cs := #[.string (⟨#[]⟩ : ByteArray), .int .i64 0, .slice none 0 0]) (t := 148) ?hr ?_; (case hd => rfl); (case hg => rfl); (case hr => first | (go_simp; done) | (go_simp; rfl)); intro gb108 hg w135 hbox hb; replace HO106 := Aside0.mk (Kd.R_below (kr HO106.out) hb); have BK108 := Aside0.mk (hbox); have GW108 := Aside0.mk ((gsz hg : w.heap.size ≤ gb108)); have GE108 := Aside0.mk ((gsz hg : w.heap.size ≤ gb108)); have NB101_108 := Aside0.mk ((nlt hg (bw BK101.out) : gb101 ≠ gb108)); have NB108_101 := Aside0.mk ((ngt hg (bw BK101.out) : gb108 ≠ gb101)); replace BK101 := Aside0.mk (blk_below (g := gb101) (bw BK101.out) hb); replace HB := Aside0.mk (below_step bel hb); clear hb hbox hg; have hnb136 := NB108_101.out; have hnc136 := NB101_108.out; obtain ⟨hcz137_0, hcz137_1, hcz137_2, hfz137_0, hfz137_1, hfz137_2⟩ := cz3 BK108.out; obtain ⟨Ao138, co138, eo138⟩ := Kd.R_slice HO106.out; subst eo138))
    go_ret
    exact ⟨ers, bel⟩
def fstP (name : ByteArray) : List S69 → S69 × Bool
  | [] => (z69, false)
  | p :: r => if p.f0.toList = name.toList then (p, true) else fstP name r
def vP (p : S69) : Array Value := #[.string p.f0, .int .i64 p.f1, .int .i64 p.f2, .int .i64 p.f3, .int .i64 p.f4, .int .i64 p.f5, .bool p.f6]
set_option maxHeartbeats 1600000 in
set_option maxRecDepth 100000 in
theorem findP_lit (m : S69) (s : ByteArray) (g : Nat) (w : World) (hg : w.heap[g]? = some (.cells #[.string s] 9 (0, 0))) :
    Calls Tryz.prog 83 #[.agg #[.string m.f0, .int .i64 m.f1, .int .i64 m.f2, .int .i64 m.f3, .int .i64 m.f4, .int .i64 m.f5, .bool m.f6], .pointer (some ⟨g, 0, none⟩)] w fun e w' => e = .returned (.bool (m.f0.toList == s.toList)) ∧ Below w.heap.size w w' := by
  have hc0 : ∀ o, (w.alloc o).cell? ⟨g, 0, none⟩ = some (.string s) := fun o => blk_cell (blk_alloc hg o) 0
  go_enter Tryz.func83, Tryz.ntmps83
  go_wp2
  go_ret
  exact ⟨eqs, (Below.refl _ _).alloc (Nat.le_refl _) _⟩
set_option maxHeartbeats 1600000 in
set_option maxRecDepth 100000 in
theorem firstP_calls (A : Option Addr) (c : Nat) (l : List S69) (s : ByteArray) (g : Nat) (w : World) (hr : Kd.C k69 w A l.length l) (hg : w.heap[g]? = some (.cells #[.string s] 9 (0, 0))) :
    Calls Tryz.prog 82 #[.slice A l.length c, .func (.func 83) #[] #[.pointer (some ⟨g, 0, none⟩)]] w fun e w' => e = .returned (.tuple #[.agg (vP (fstP s l).1), .bool (fstP s l).2]) ∧ Below w.heap.size w w' := by
  have HR := Aside0.mk hr
  have HG := Aside0.mk hg
  have hlen := (show l.length ≤ 9223372036854775807 from Kd.C_max hr)
  clear hr hg
  go_enter Tryz.func82, Tryz.ntmps82
  go_wp2_with fail
  go_loopg [11] l.length (fun kq v11 wr => ∃ i : Nat, v11 = .int .i64 (i : Int) ∧ Aside0 (kq + i = l.length) ∧ Aside0 (fstP s (l.drop i) = fstP s l) ∧ Aside0 (wr.heap[w.heap.size]? = some (.cells (vP z69) 69 (0, 0))) ∧ Aside0 (Below w.heap.size w wr))
  case atStart => exact ⟨0, rfl, ⟨by omega⟩, ⟨rfl⟩, ⟨blk_new _ _⟩, ⟨below_alloc (Below.refl _ _) _⟩⟩
  case round =>
    obtain ⟨i, rfl, HK, HF, HL, HB2⟩ := hrel
    by_cases hlt : i < l.length
    · have hti : rd_T69 l (i : Int) = l[i] := by simp [rd_T69, hlt]
      obtain ⟨ad, ea, hx0, hx1, hx2, hx3, hx4, hx5, hx6⟩ := at_T69 HR.out (i : Int) (by omega) (by omega)
      cases ea
      rw [Int.toNat_natCast] at hx0 hx1 hx2 hx3 hx4 hx5 hx6
      replace hx0 := (HB2.out.cell (World.block_lt_of_cell? w _ hx0)).trans hx0
      replace hx1 := (HB2.out.cell (World.block_lt_of_cell? w _ hx1)).trans hx1
      replace hx2 := (HB2.out.cell (World.block_lt_of_cell? w _ hx2)).trans hx2
      replace hx3 := (HB2.out.cell (World.block_lt_of_cell? w _ hx3)).trans hx3
      replace hx4 := (HB2.out.cell (World.block_lt_of_cell? w _ hx4)).trans hx4
      replace hx5 := (HB2.out.cell (World.block_lt_of_cell? w _ hx5)).trans hx5
      replace hx6 := (HB2.out.cell (World.block_lt_of_cell? w _ hx6)).trans hx6
      rw [hti] at hx0 hx1 hx2 hx3 hx4 hx5 hx6
      have hf := HF.out
      rw [(List.getElem_cons_drop hlt).symm, fstP] at hf
      generalize l[i] = t at hx0 hx1 hx2 hx3 hx4 hx5 hx6 hf
      clear hti HF
      by_cases hb : t.f0.toList = s.toList
      · rw [if_pos hb] at hf
        have HBB := Aside0.mk (beq_iff_eq.2 hb)
        have HF := Aside0.mk hf
        clear hb hf
        go_wp2_with (go_at_call 83; refine (findP_lit t s g _ (blk_below (blk_below HG.out HB2.out) (below_alloc (Below.refl _ _) _))).mono ?_; rw [HBB.out]; rintro e1 w1 ⟨rfl, hb1⟩; have HB3 := Aside0.mk (below_step (below_alloc HB2.out _) hb1); have HT := blk_below (blk_new wr (.cells #[.string t.f0, .int .i64 t.f1, .int .i64 t.f2, .int .i64 t.f3, .int .i64 t.f4, .int .i64 t.f5, .bool t.f6] 69)) hb1; have HL3 := blk_below (blk_alloc HL.out (.cells #[.string t.f0, .int .i64 t.f1, .int .i64 t.f2, .int .i64 t.f3, .int .i64 t.f4, .int .i64 t.f5, .bool t.f6] 69)) hb1; have hz0 : w1.cell? ⟨wr.heap.size, 0, none⟩ = some (.string t.f0) := blk_cell HT 0; have hz1 : w1.cell? ⟨wr.heap.size, 1, none⟩ = some (.int .i64 t.f1) := blk_cell HT 1; have hz2 : w1.cell? ⟨wr.heap.size, 2, none⟩ = some (.int .i64 t.f2) := blk_cell HT 2; have hz3 : w1.cell? ⟨wr.heap.size, 3, none⟩ = some (.int .i64 t.f3) := blk_cell HT 3; have hz4 : w1.cell? ⟨wr.heap.size, 4, none⟩ = some (.int .i64 t.f4) := blk_cell HT 4; have hz5 : w1.cell? ⟨wr.heap.size, 5, none⟩ = some (.int .i64 t.f5) := blk_cell HT 5; have hz6 : w1.cell? ⟨wr.heap.size, 6, none⟩ = some (.bool t.f6) := blk_cell HT 6; have hfc0 : w1.cell? ⟨w.heap.size, 0, none⟩ = some (.string z69.f0) := blk_cell HL3 0; have hfc1 : w1.cell? ⟨w.heap.size, 1, none⟩ = some (.int .i64 z69.f1) := blk_cell HL3 1; have hfc2 : w1.cell? ⟨w.heap.size, 2, none⟩ = some (.int .i64 z69.f2) := blk_cell HL3 2; have hfc3 : w1.cell? ⟨w.heap.size, 3, none⟩ = some (.int .i64 z69.f3) := blk_cell HL3 3; have hfc4 : w1.cell? ⟨w.heap.size, 4, none⟩ = some (.int .i64 z69.f4) := blk_cell HL3 4; have hfc5 : w1.cell? ⟨w.heap.size, 5, none⟩ = some (.int .i64 z69.f5) := blk_cell HL3 5; have hfc6 : w1.cell? ⟨w.heap.size, 6, none⟩ = some (.bool z69.f6) := blk_cell HL3 6; have hf0 : w1.frozen? ⟨w.heap.size, 0, none⟩ = false := blk_frozen HL3 0; have hf1 : w1.frozen? ⟨w.heap.size, 1, none⟩ = false := blk_frozen HL3 1; have hf2 : w1.frozen? ⟨w.heap.size, 2, none⟩ = false := blk_frozen HL3 2; have hf3 : w1.frozen? ⟨w.heap.size, 3, none⟩ = false := blk_frozen HL3 3; have hf4 : w1.frozen? ⟨w.heap.size, 4, none⟩ = false := blk_frozen HL3 4; have hf5 : w1.frozen? ⟨w.heap.size, 5, none⟩ = false := blk_frozen HL3 5; have hf6 : w1.frozen? ⟨w.heap.size, 6, none⟩ = false := blk_frozen HL3 6; have HL4 := Aside0.mk HL3; clear hb1 HT HL3)
        refine bodyPost_ret (results_ct rfl _ _ w.heap.size 69 (vP t) (0, 0) _ rfl (blk_set (blk_set (blk_set (blk_set (blk_set (blk_set (blk_set (HL4.out) 0 _) 1 _) 2 _) 3 _) 4 _) 5 _) 6 _) Tryz.underlying69 rfl (by kernel_rfl)) rfl ⟨?_, ?_⟩
        · rw [← HF.out]; rfl
        · exact (Below.setCell (Below.setCell (Below.setCell (Below.setCell (Below.setCell (Below.setCell (Below.setCell HB3.out (p := ⟨w.heap.size, 0, none⟩) (by first | exact Nat.le_refl _ | exact Nat.le_succ _) _) (p := ⟨w.heap.size, 1, none⟩) (by first | exact Nat.le_refl _ | exact Nat.le_succ _) _) (p := ⟨w.heap.size, 2, none⟩) (by first | exact Nat.le_refl _ | exact Nat.le_succ _) _) (p := ⟨w.heap.size, 3, none⟩) (by first | exact Nat.le_refl _ | exact Nat.le_succ _) _) (p := ⟨w.heap.size, 4, none⟩) (by first | exact Nat.le_refl _ | exact Nat.le_succ _) _) (p := ⟨w.heap.size, 5, none⟩) (by first | exact Nat.le_refl _ | exact Nat.le_succ _) _) (p := ⟨w.heap.size, 6, none⟩) (by first | exact Nat.le_refl _ | exact Nat.le_succ _) _)
      · rw [if_neg hb] at hf
        have HBB := Aside0.mk (beq_eq_false_iff_ne.2 hb)
        have HF := Aside0.mk hf
        clear hb hf
        go_wp2_with (go_at_call 83; refine (findP_lit t s g _ (blk_below (blk_below HG.out HB2.out) (below_alloc (Below.refl _ _) _))).mono ?_; rw [HBB.out]; rintro e1 w1 ⟨rfl, hb1⟩; have HB3 := Aside0.mk (below_step (below_alloc HB2.out _) hb1); have HL4 := Aside0.mk (blk_below (blk_alloc HL.out (.cells #[.string t.f0, .int .i64 t.f1, .int .i64 t.f2, .int .i64 t.f3, .int .i64 t.f4, .int .i64 t.f5, .bool t.f6] 69)) hb1); clear hb1)
        go_roundg (gk - 1)
        case measure => have := HK.out; omega
        case rel => exact ⟨i + 1, by go_num, ⟨by have := HK.out; omega⟩, HF, HL4, HB3⟩
    · have hf := HF.out
      rw [List.drop_of_length_le (by omega), fstP] at hf
      have HF := Aside0.mk hf
      have HLL := HL.out
      have hfc0 : ∀ o, (wr.alloc o).cell? ⟨w.heap.size, 0, none⟩ = some (.string z69.f0) := fun o => blk_cell (blk_alloc HLL o) 0
      have hfc1 : ∀ o, (wr.alloc o).cell? ⟨w.heap.size, 1, none⟩ = some (.int .i64 z69.f1) := fun o => blk_cell (blk_alloc HLL o) 1
      have hfc2 : ∀ o, (wr.alloc o).cell? ⟨w.heap.size, 2, none⟩ = some (.int .i64 z69.f2) := fun o => blk_cell (blk_alloc HLL o) 2
      have hfc3 : ∀ o, (wr.alloc o).cell? ⟨w.heap.size, 3, none⟩ = some (.int .i64 z69.f3) := fun o => blk_cell (blk_alloc HLL o) 3
      have hfc4 : ∀ o, (wr.alloc o).cell? ⟨w.heap.size, 4, none⟩ = some (.int .i64 z69.f4) := fun o => blk_cell (blk_alloc HLL o) 4
      have hfc5 : ∀ o, (wr.alloc o).cell? ⟨w.heap.size, 5, none⟩ = some (.int .i64 z69.f5) := fun o => blk_cell (blk_alloc HLL o) 5
      have hfc6 : ∀ o, (wr.alloc o).cell? ⟨w.heap.size, 6, none⟩ = some (.bool z69.f6) := fun o => blk_cell (blk_alloc HLL o) 6
      have hf0 : ∀ o, (wr.alloc o).frozen? ⟨w.heap.size, 0, none⟩ = false := fun o => blk_frozen (blk_alloc HLL o) 0
      have hf1 : ∀ o, (wr.alloc o).frozen? ⟨w.heap.size, 1, none⟩ = false := fun o => blk_frozen (blk_alloc HLL o) 1
      have hf2 : ∀ o, (wr.alloc o).frozen? ⟨w.heap.size, 2, none⟩ = false := fun o => blk_frozen (blk_alloc HLL o) 2
      have hf3 : ∀ o, (wr.alloc o).frozen? ⟨w.heap.size, 3, none⟩ = false := fun o => blk_frozen (blk_alloc HLL o) 3
      have hf4 : ∀ o, (wr.alloc o).frozen? ⟨w.heap.size, 4, none⟩ = false := fun o => blk_frozen (blk_alloc HLL o) 4
      have hf5 : ∀ o, (wr.alloc o).frozen? ⟨w.heap.size, 5, none⟩ = false := fun o => blk_frozen (blk_alloc HLL o) 5
      have hf6 : ∀ o, (wr.alloc o).frozen? ⟨w.heap.size, 6, none⟩ = false := fun o => blk_frozen (blk_alloc HLL o) 6
      clear hf HLL
      go_wp2_with fail
      refine bodyPost_ret (results_ct rfl _ _ w.heap.size 69 (vP z69) (0, 0) _ rfl (blk_set (blk_set (blk_set (blk_set (blk_set (blk_set (blk_set (blk_alloc HL.out _) 0 _) 1 _) 2 _) 3 _) 4 _) 5 _) 6 _) Tryz.underlying69 rfl (by kernel_rfl)) rfl ⟨?_, ?_⟩
      · rw [← HF.out]; rfl
      · exact (Below.setCell (Below.setCell (Below.setCell (Below.setCell (Below.setCell (Below.setCell (Below.setCell (below_alloc HB2.out _) (p := ⟨w.heap.size, 0, none⟩) (by first | exact Nat.le_refl _ | exact Nat.le_succ _) _) (p := ⟨w.heap.size, 1, none⟩) (by first | exact Nat.le_refl _ | exact Nat.le_succ _) _) (p := ⟨w.heap.size, 2, none⟩) (by first | exact Nat.le_refl _ | exact Nat.le_succ _) _) (p := ⟨w.heap.size, 3, none⟩) (by first | exact Nat.le_refl _ | exact Nat.le_succ _) _) (p := ⟨w.heap.size, 4, none⟩) (by first | exact Nat.le_refl _ | exact Nat.le_succ _) _) (p := ⟨w.heap.size, 5, none⟩) (by first | exact Nat.le_refl _ | exact Nat.le_succ _) _) (p := ⟨w.heap.size, 6, none⟩) (by first | exact Nat.le_refl _ | exact Nat.le_succ _) _)
def product_Find.f (l : List S69) (s : ByteArray) : Option (ByteArray × Int × Int × Int × Int × Int × Bool × Bool) := some ((fstP s l).1.f0, (fstP s l).1.f1, (fstP s l).1.f2, (fstP s l).1.f3, (fstP s l).1.f4, (fstP s l).1.f5, (fstP s l).1.f6, (fstP s l).2)
set_option maxHeartbeats 1600000 in
set_option maxRecDepth 100000 in
theorem product_Find.calls (A0 : Option Addr) (c0 : Nat) (l0 : List S69) (a1 : ByteArray) (r1 : ByteArray) (r2 r3 r4 r5 r6 : Int) (r7 r8 : Bool) (w : World) (hr0 : Kd.C k69 w A0 l0.length l0) (hc0 : l0.length ≤ c0) (h : product_Find.f l0 a1 = some (r1, r2, r3, r4, r5, r6, r7, r8)) :
    Calls Tryz.prog 33 #[.slice A0 l0.length c0, .string a1] w fun e w' => e = .returned (.tuple #[.agg #[.string r1, .int .i64 r2, .int .i64 r3, .int .i64 r4, .int .i64 r5, .int .i64 r6, .bool r7], .bool r8]) ∧ Below w.heap.size w w' := by
  unfold product_Find.f at h
  simp only [Option.some.injEq, Prod.mk.injEq] at h
  obtain ⟨rfl, rfl, rfl, rfl, rfl, rfl, rfl, rfl⟩ := h
  have HR := Aside0.mk hr0
  have HBA := Aside0.mk (below_alloc (below_alloc (Below.refl w.heap.size w) (.cells #[.string a1] 9)) (.cells #[.string (⟨#[]⟩ : ByteArray), .int .i64 0, .int .i64 0, .int .i64 0, .int .i64 0, .int .i64 0, .bool false] 69))
  have hsz : ∀ o, (w.alloc o).heap.size = w.heap.size + 1 := fun o => by simp
  have HZ := Aside0.mk (show ((w.alloc (.cells #[.string a1] 9)).alloc (.cells #[.string (⟨#[]⟩ : ByteArray), .int .i64 0, .int .i64 0, .int .i64 0, .int .i64 0, .int .i64 0, .bool false] 69)).heap[w.heap.size + 1]? = some (.cells #[.string (⟨#[]⟩ : ByteArray), .int .i64 0, .int .i64 0, .int .i64 0, .int .i64 0, .int .i64 0, .bool false] 69 (0, 0)) by rw [← hsz (.cells #[.string a1] 9)]; exact blk_new _ _)
  clear hsz
  generalize hp : fstP a1 l0 = p
  have HP := Aside0.mk hp
  clear hr0 hp
  go_enter Tryz.func33, Tryz.ntmps33
  go_wp2_with (go_at_call 82; refine (firstP_calls _ _ l0 a1 w.heap.size _ (Kd.C_alloc (Kd.C_alloc HR.out _) _) (blk_alloc (blk_new w _) _)).mono ?_; rw [HP.out, vP]; rintro e1 w1 ⟨rfl, hb1⟩; have HB3 := Aside0.mk (below_step HBA.out hb1); have HT := blk_below HZ.out hb1; have hfc0 : w1.cell? ⟨w.heap.size + 1, 0, none⟩ = some (.string z69.f0) := blk_cell HT 0; have hfc1 : w1.cell? ⟨w.heap.size + 1, 1, none⟩ = some (.int .i64 z69.f1) := blk_cell HT 1; have hfc2 : w1.cell? ⟨w.heap.size + 1, 2, none⟩ = some (.int .i64 z69.f2) := blk_cell HT 2; have hfc3 : w1.cell? ⟨w.heap.size + 1, 3, none⟩ = some (.int .i64 z69.f3) := blk_cell HT 3; have hfc4 : w1.cell? ⟨w.heap.size + 1, 4, none⟩ = some (.int .i64 z69.f4) := blk_cell HT 4; have hfc5 : w1.cell? ⟨w.heap.size + 1, 5, none⟩ = some (.int .i64 z69.f5) := blk_cell HT 5; have hfc6 : w1.cell? ⟨w.heap.size + 1, 6, none⟩ = some (.bool z69.f6) := blk_cell HT 6; have hf0 : w1.frozen? ⟨w.heap.size + 1, 0, none⟩ = false := blk_frozen HT 0; have hf1 : w1.frozen? ⟨w.heap.size + 1, 1, none⟩ = false := blk_frozen HT 1; have hf2 : w1.frozen? ⟨w.heap.size + 1, 2, none⟩ = false := blk_frozen HT 2; have hf3 : w1.frozen? ⟨w.heap.size + 1, 3, none⟩ = false := blk_frozen HT 3; have hf4 : w1.frozen? ⟨w.heap.size + 1, 4, none⟩ = false := blk_frozen HT 4; have hf5 : w1.frozen? ⟨w.heap.size + 1, 5, none⟩ = false := blk_frozen HT 5; have hf6 : w1.frozen? ⟨w.heap.size + 1, 6, none⟩ = false := blk_frozen HT 6; have HT4 := Aside0.mk HT; clear hb1 HT)
  refine bodyPost_ret (results_ct rfl _ _ (w.heap.size + 1) 69 (vP p.1) (0, 0) _ rfl (blk_set (blk_set (blk_set (blk_set (blk_set (blk_set (blk_set (HT4.out) 0 _) 1 _) 2 _) 3 _) 4 _) 5 _) 6 _) Tryz.underlying69 rfl (by kernel_rfl)) rfl ⟨rfl, ?_⟩
  exact (Below.setCell (Below.setCell (Below.setCell (Below.setCell (Below.setCell (Below.setCell (Below.setCell HB3.out (p := ⟨w.heap.size + 1, 0, none⟩) (by first | exact Nat.le_refl _ | exact Nat.le_succ _) _) (p := ⟨w.heap.size + 1, 1, none⟩) (by first | exact Nat.le_refl _ | exact Nat.le_succ _) _) (p := ⟨w.heap.size + 1, 2, none⟩) (by first | exact Nat.le_refl _ | exact Nat.le_succ _) _) (p := ⟨w.heap.size + 1, 3, none⟩) (by first | exact Nat.le_refl _ | exact Nat.le_succ _) _) (p := ⟨w.heap.size + 1, 4, none⟩) (by first | exact Nat.le_refl _ | exact Nat.le_succ _) _) (p := ⟨w.heap.size + 1, 5, none⟩) (by first | exact Nat.le_refl _ | exact Nat.le_succ _) _) (p := ⟨w.heap.size + 1, 6, none⟩) (by first | exact Nat.le_refl _ | exact Nat.le_succ _) _)
def product_within.f (a0 : Int) (a1 : Int) : Option (Bool) := if a0 ≥ (wrap64 (-a1)) then (some (decide (a0 ≤ a1))) else (some false)
set_option maxHeartbeats 8000000 in
set_option maxRecDepth 100000 in
theorem product_within.calls (a0 : Int) (a1 : Int) (r : Bool) (w : World) (h : product_within.f a0 a1 = some r) :
    Calls Tryz.prog 128 #[.int .i64 a0, .int .i64 a1] w fun e w' => e = .returned (.bool r) ∧ Drawn0 w w' := by
  have H : (if a0 ≥ (wrap64 (-a1)) then (some (decide (a0 ≤ a1))) else (some false)) = some r := h
  clear h
  by_cases c3 : a0 ≥ (wrap64 (-a1))
  · rw [if_pos c3] at H
    have c3b0 : decide ((wrap64 (-a1)) ≤ a0) = true := decide_eq_true c3
    clear c3
    obtain rfl := Option.some.inj H
    go_enter Tryz.func128, Tryz.ntmps128
    go_wp2
    go_ret
    exact ⟨eqs, drz⟩
  · rw [if_neg c3] at H
    have c3b0 : decide ((wrap64 (-a1)) ≤ a0) = false := decide_eq_false c3
    clear c3
    obtain rfl := Option.some.inj H
    go_enter Tryz.func128, Tryz.ntmps128
    go_wp2
    go_ret
    exact ⟨eqs, drz⟩
theorem eqA69 (d : Nat) (w : World) (x0 y0 : ByteArray) (x1 y1 : Int) (x2 y2 : Int) (x3 y3 : Int) (x4 y4 : Int) (x5 y5 : Int) (x6 y6 : Bool) :
    (Op.equalIn (d + 2) 69 (.agg #[.string x0, .int .i64 x1, .int .i64 x2, .int .i64 x3, .int .i64 x4, .int .i64 x5, .bool x6]) (.agg #[.string y0, .int .i64 y1, .int .i64 y2, .int .i64 y3, .int .i64 y4, .int .i64 y5, .bool y6])).run Tryz.prog w = .ok (x0.toList == y0.toList && (x1 == y1 && (x2 == y2 && (x3 == y3 && (x4 == y4 && (x5 == y5 && (x6 == y6))))))) w := by
  refine eqA_of Tryz.underlying69 (by kernel_rfl) ?_
  refine eqf_cons (by rfl) (by go_simp; rfl) (by go_simp; rfl) (by go_simp) ?_
  refine eqf_cons (by rfl) (by go_simp; rfl) (by go_simp; rfl) (by go_simp) ?_
  refine eqf_cons (by rfl) (by go_simp; rfl) (by go_simp; rfl) (by go_simp) ?_
  refine eqf_cons (by rfl) (by go_simp; rfl) (by go_simp; rfl) (by go_simp) ?_
  refine eqf_cons (by rfl) (by go_simp; rfl) (by go_simp; rfl) (by go_simp) ?_
  refine eqf_cons (by rfl) (by go_simp; rfl) (by go_simp; rfl) (by go_simp) ?_
  exact eqf_last (by rfl) (by go_simp; rfl) (by go_simp; rfl) (by go_simp)
end Go.Proofs.YthpmmofleddpnaaGreatDoor.X
end
section
namespace Go.Proofs.YthpmmofleddpnaaGreatDoor.X
open Go.RowKit Go.Proofs.YthpmmofleddpnaaGreatDoorW.PrintWords Go.Proofs.YthpmmofleddpnaaGreatDoorW.PrintLast Go.Proofs.YthpmmofleddpnaaGreatDoorW.PrintMore
attribute [local go_sem] max2_int min2_int max_two min_two max_three min_three max_four min_four
set_option linter.unusedVariables false
set_option linter.unusedSimpArgs false
attribute [local go_sem high] eqA69
mutual
def product_Check.j0 : Nat → Bool → ByteArray → Int → Int → Int → Int → Int → Bool → Option (Int)
  | 0, _, _, _, _, _, _, _, _ => none
  | k + 1, x3, x102000, x102001, x102002, x102003, x102004, x102005, x102006 => if x3 = true then (some 10) else (if x102001 < 0 then (product_Check.j1 k true x102000 x102001 x102002 x102003 x102004 x102005 x102006) else (product_Check.j1 k (decide (x102001 ≥ 8)) x102000 x102001 x102002 x102003 x102004 x102005 x102006))
def product_Check.j1 : Nat → Bool → ByteArray → Int → Int → Int → Int → Int → Bool → Option (Int)
  | 0, _, _, _, _, _, _, _, _ => none
  | k + 1, x13, x102000, x102001, x102002, x102003, x102004, x102005, x102006 => if x13 = true then (some 25) else (if x102002 < 1 then (product_Check.j2 k true x102000 x102001 x102002 x102003 x102004 x102005 x102006) else (product_Check.j2 k (decide (x102002 > 4096)) x102000 x102001 x102002 x102003 x102004 x102005 x102006))
def product_Check.j2 : Nat → Bool → ByteArray → Int → Int → Int → Int → Int → Bool → Option (Int)
  | 0, _, _, _, _, _, _, _, _ => none
  | k + 1, x22, x102000, x102001, x102002, x102003, x102004, x102005, x102006 => if x22 = true then (some 2) else (if x102003 < 1 then (product_Check.j3 k true x102000 x102001 x102002 x102003 x102004 x102005 x102006) else (product_Check.j3 k (decide (x102003 > 16777216)) x102000 x102001 x102002 x102003 x102004 x102005 x102006))
def product_Check.j3 : Nat → Bool → ByteArray → Int → Int → Int → Int → Int → Bool → Option (Int)
  | 0, _, _, _, _, _, _, _, _ => none
  | k + 1, x31, x102000, x102001, x102002, x102003, x102004, x102005, x102006 => if x31 = true then (some 16) else ((product_within.f x102004 16777216).bind fun t103 => (if t103 = true then ((product_within.f x102005 16777216).bind fun t104 => (if t104 = true then (if x102004 > x102005 then (some 17) else (if x102003 = 0 then (none) else (if (Int.tmod x102004 x102003) = 0 then (if (Int.tmod x102005 x102003) = 0 then (some 0) else (some 17)) else (some 17)))) else (some 17))) else (some 17)))
end
def product_Check.f (k : Nat) (a0_0 : ByteArray) (a0_1 : Int) (a0_2 : Int) (a0_3 : Int) (a0_4 : Int) (a0_5 : Int) (a0_6 : Bool) : Option (Int) := if (a0_0.toList == ([] : List UInt8) && (a0_1 == 0 && (a0_2 == 0 && (a0_3 == 0 && (a0_4 == 0 && (a0_5 == 0 && (!a0_6))))))) = true then (product_Check.j0 k true a0_0 a0_1 a0_2 a0_3 a0_4 a0_5 a0_6) else ((words_Name.f k a0_0).bind fun t102 => (product_Check.j0 k (!t102) a0_0 a0_1 a0_2 a0_3 a0_4 a0_5 a0_6))
set_option maxHeartbeats 8000000 in
set_option maxRecDepth 100000 in
theorem product_Check.calls (k : Nat) (a0_0 : ByteArray) (a0_1 : Int) (a0_2 : Int) (a0_3 : Int) (a0_4 : Int) (a0_5 : Int) (a0_6 : Bool) (r : Int) (w : World) (h : product_Check.f k a0_0 a0_1 a0_2 a0_3 a0_4 a0_5 a0_6 = some r) :
    Calls Tryz.prog 84 #[.agg #[.string a0_0, .int .i64 a0_1, .int .i64 a0_2, .int .i64 a0_3, .int .i64 a0_4, .int .i64 a0_5, .bool a0_6]] w fun e w' => e = .returned (.int .i64 r) ∧ Below w.heap.size w w' := by
  have hu69 := Tryz.underlying69
  have HB := Aside0.mk (Below.refl w.heap.size w)
  have H : (if (a0_0.toList == ([] : List UInt8) && (a0_1 == 0 && (a0_2 == 0 && (a0_3 == 0 && (a0_4 == 0 && (a0_5 == 0 && (!a0_6))))))) = true then (product_Check.j0 k true a0_0 a0_1 a0_2 a0_3 a0_4 a0_5 a0_6) else ((words_Name.f k a0_0).bind fun t102 => (product_Check.j0 k (!t102) a0_0 a0_1 a0_2 a0_3 a0_4 a0_5 a0_6))) = some r := h
  clear h
  have HC2 := Aside0.mk H
  clear H
  go_enter Tryz.func84, Tryz.ntmps84
  go_upto_region 1 with (first | ((with_reducible refine gate_dst (N := 1) rfl ?_); refine box_event ?hg (N := 1) ?hd (cs := #[.string a0_0, .int .i64 a0_1, .int .i64 a0_2, .int .i64 a0_3, .int .i64 a0_4, .int .i64 a0_5, .bool a0_6]) (t := 69) ?hr ?_; (case hd => rfl); (case hg => rfl); (case hr => first | (go_simp; done) | (go_simp; rfl)); intro gb101 hg w3 hbox hb; have BK101 := Aside0.mk (hbox); have GW101 := Aside0.mk ((gsz hg : w.heap.size ≤ gb101)); have GE101 := Aside0.mk ((gsz hg : w.heap.size ≤ gb101)); replace HB := Aside0.mk (below_step bel hb); clear hb hbox hg))
  (try simp only [Act.put, List.setIfInBounds_toArray, List.set_cons_zero, List.set_cons_succ])
  go_cut [3] (fun v3 wc => ∃ (kq : Nat) (x3_1 : Bool), v3 = .bool x3_1 ∧ Aside0 (product_Check.j0 kq x3_1 a0_0 a0_1 a0_2 a0_3 a0_4 a0_5 a0_6 = some r) ∧ Aside0 (kq ≤ k) ∧ Aside0 (wc.heap[gb101]? = some (.cells #[.string a0_0, .int .i64 a0_1, .int .i64 a0_2, .int .i64 a0_3, .int .i64 a0_4, .int .i64 a0_5, .bool a0_6] 69 (0, 0))) ∧ Aside0 (Below w.heap.size w wc))
  case first =>
    have H := HC2.out
    clear HC2
    by_cases c4 : (a0_0.toList == ([] : List UInt8) && (a0_1 == 0 && (a0_2 == 0 && (a0_3 == 0 && (a0_4 == 0 && (a0_5 == 0 && (!a0_6))))))) = true
    · rw [if_pos c4] at H
      obtain ⟨c4f, c4g, c4n⟩ : ∃ f_ : Bool, f_ = true ∧ (a0_0.toList.isEmpty && (a0_1 == 0 && (a0_2 == 0 && (a0_3 == 0 && (a0_4 == 0 && (a0_5 == 0 && (!a0_6))))))) = f_ := ⟨_, by simpa using c4, rfl⟩
      clear c4
      have H' := Aside0.mk H
      clear H
      obtain ⟨hcz5_0, hcz5_1, hcz5_2, hcz5_3, hcz5_4, hcz5_5, hcz5_6, hfz5_0, hfz5_1, hfz5_2, hfz5_3, hfz5_4, hfz5_5, hfz5_6⟩ := cz7 BK101.out
      go_wp2
      go_meet
      case rel => exact ⟨_, (true), eqs, H', ⟨by first | omega | exact Nat.le_refl _⟩, ⟨bw BK101.out⟩, ⟨bel⟩⟩
    · rw [if_neg c4] at H
      obtain ⟨c4f, c4g, c4n⟩ : ∃ f_ : Bool, f_ = false ∧ (a0_0.toList.isEmpty && (a0_1 == 0 && (a0_2 == 0 && (a0_3 == 0 && (a0_4 == 0 && (a0_5 == 0 && (!a0_6))))))) = f_ := ⟨_, by simpa using c4, rfl⟩
      clear c4
      replace H := bnd H
      obtain ⟨t102, A60, H⟩ := H
      have A6 := Aside0.mk A60
      clear A60
      have H' := Aside0.mk H
      clear H
      obtain ⟨hcz7_0, hcz7_1, hcz7_2, hcz7_3, hcz7_4, hcz7_5, hcz7_6, hfz7_0, hfz7_1, hfz7_2, hfz7_3, hfz7_4, hfz7_5, hfz7_6⟩ := cz7 BK101.out
      go_wp2_with (first | (go_at_call 48; (with_reducible refine (words_Name.calls k a0_0 t102 _ A6.out).mono ?_); rintro e w' ⟨rfl, ⟨nd, rfl⟩⟩))
      go_meet
      case rel => exact ⟨_, (!t102), eqs, H', ⟨by first | omega | exact Nat.le_refl _⟩, ⟨bw BK101.out⟩, ⟨bel⟩⟩
  case rest =>
    clear HC2
    try clear p2
    try clear c4
    try clear c4b0
    try clear c4b1
    try clear c4b2
    try clear hcz5_0 hcz5_1 hcz5_2 hcz5_3 hcz5_4 hcz5_5 hcz5_6
    try clear hcz7_0 hcz7_1 hcz7_2 hcz7_3 hcz7_4 hcz7_5 hcz7_6
    try clear hfz5_0 hfz5_1 hfz5_2 hfz5_3 hfz5_4 hfz5_5 hfz5_6
    try clear hfz7_0 hfz7_1 hfz7_2 hfz7_3 hfz7_4 hfz7_5 hfz7_6
    obtain ⟨kq, x3_1, rfl, HA, HJ1, BK101, HB⟩ := hcut
    cases kq with
    | zero => exact absurd HA.out (by simp [product_Check.j0])
    | succ kj1 =>
      have H := HA.out
      clear HA
      simp only [product_Check.j0] at H
      by_cases c8 : x3_1 = true
      · subst c8
        rw [if_pos rfl] at H
        obtain rfl := Option.some.inj H
        go_wp2
        go_ret
        exact ⟨ers, bel⟩
      · replace c8 := Bool.eq_false_iff.mpr c8
        subst c8
        rw [if_neg (show ¬ (false = true) by decide)] at H
        have HC9 := Aside0.mk H
        clear H
        go_upto_region 3 with (fail)
        go_cut [13] (fun v13 wc => ∃ (kq : Nat) (x13_8 : Bool), v13 = .bool x13_8 ∧ Aside0 (product_Check.j1 kq x13_8 a0_0 a0_1 a0_2 a0_3 a0_4 a0_5 a0_6 = some r) ∧ Aside0 (kq ≤ kj1) ∧ Aside0 (wc.heap[gb101]? = some (.cells #[.string a0_0, .int .i64 a0_1, .int .i64 a0_2, .int .i64 a0_3, .int .i64 a0_4, .int .i64 a0_5, .bool a0_6] 69 (0, 0))) ∧ Aside0 (Below w.heap.size w wc))
        case first =>
          have H := HC9.out
          clear HC9
          by_cases c10 : a0_1 < 0
          · rw [if_pos c10] at H
            have c10b0 := decide_eq_true c10
            clear c10
            (first | rw [c10b0] | (simp only [i64_w, i32_w]; rw [c10b0]) | skip)
            have H' := Aside0.mk H
            clear H
            obtain ⟨hcz11_0, hcz11_1, hcz11_2, hcz11_3, hcz11_4, hcz11_5, hcz11_6, hfz11_0, hfz11_1, hfz11_2, hfz11_3, hfz11_4, hfz11_5, hfz11_6⟩ := cz7 BK101.out
            go_wp2
            go_meet
            case rel => exact ⟨_, (true), eqs, H', ⟨by have := HJ1.out; first | omega | exact Nat.le_refl _⟩, ⟨bw BK101.out⟩, ⟨bel⟩⟩
          · rw [if_neg c10] at H
            have c10b0 := decide_eq_false c10
            clear c10
            (first | rw [c10b0] | (simp only [i64_w, i32_w]; rw [c10b0]) | skip)
            have H' := Aside0.mk H
            clear H
            obtain ⟨hcz12_0, hcz12_1, hcz12_2, hcz12_3, hcz12_4, hcz12_5, hcz12_6, hfz12_0, hfz12_1, hfz12_2, hfz12_3, hfz12_4, hfz12_5, hfz12_6⟩ := cz7 BK101.out
            go_wp2
            go_meet
            case rel => exact ⟨_, (decide (a0_1 ≥ 8)), eqs, H', ⟨by have := HJ1.out; first | omega | exact Nat.le_refl _⟩, ⟨bw BK101.out⟩, ⟨bel⟩⟩
        case rest =>
          clear HC9
          try clear c1
          try clear p2
          try clear c4
          try clear c4b0
          try clear c4b1
          try clear c4b2
          try clear c8
          try clear c10
          try clear c10b0
          try clear hcz11_0 hcz11_1 hcz11_2 hcz11_3 hcz11_4 hcz11_5 hcz11_6
          try clear hcz12_0 hcz12_1 hcz12_2 hcz12_3 hcz12_4 hcz12_5 hcz12_6
          try clear hcz5_0 hcz5_1 hcz5_2 hcz5_3 hcz5_4 hcz5_5 hcz5_6
          try clear hcz7_0 hcz7_1 hcz7_2 hcz7_3 hcz7_4 hcz7_5 hcz7_6
          try clear hfz11_0 hfz11_1 hfz11_2 hfz11_3 hfz11_4 hfz11_5 hfz11_6
          try clear hfz12_0 hfz12_1 hfz12_2 hfz12_3 hfz12_4 hfz12_5 hfz12_6
          try clear hfz5_0 hfz5_1 hfz5_2 hfz5_3 hfz5_4 hfz5_5 hfz5_6
          try clear hfz7_0 hfz7_1 hfz7_2 hfz7_3 hfz7_4 hfz7_5 hfz7_6
          try clear p2
          obtain ⟨kq, x13_8, rfl, HA, HJ8, BK101, HB⟩ := hcut
          cases kq with
          | zero => exact absurd HA.out (by simp [product_Check.j1])
          | succ kj8 =>
            have H := HA.out
            clear HA
            simp only [product_Check.j1] at H
            by_cases c13 : x13_8 = true
            · subst c13
              rw [if_pos rfl] at H
              obtain rfl := Option.some.inj H
              go_wp2
              go_ret
              exact ⟨ers, bel⟩
            · replace c13 := Bool.eq_false_iff.mpr c13
              subst c13
              rw [if_neg (show ¬ (false = true) by decide)] at H
              have HC14 := Aside0.mk H
              clear H
              go_upto_region 5 with (fail)
              go_cut [22] (fun v22 wc => ∃ (kq : Nat) (x22_13 : Bool), v22 = .bool x22_13 ∧ Aside0 (product_Check.j2 kq x22_13 a0_0 a0_1 a0_2 a0_3 a0_4 a0_5 a0_6 = some r) ∧ Aside0 (kq ≤ kj8) ∧ Aside0 (wc.heap[gb101]? = some (.cells #[.string a0_0, .int .i64 a0_1, .int .i64 a0_2, .int .i64 a0_3, .int .i64 a0_4, .int .i64 a0_5, .bool a0_6] 69 (0, 0))) ∧ Aside0 (Below w.heap.size w wc))
              case first =>
                have H := HC14.out
                clear HC14
                by_cases c15 : a0_2 < 1
                · rw [if_pos c15] at H
                  have c15b0 := decide_eq_true c15
                  clear c15
                  (first | rw [c15b0] | (simp only [i64_w, i32_w]; rw [c15b0]) | skip)
                  have H' := Aside0.mk H
                  clear H
                  obtain ⟨hcz16_0, hcz16_1, hcz16_2, hcz16_3, hcz16_4, hcz16_5, hcz16_6, hfz16_0, hfz16_1, hfz16_2, hfz16_3, hfz16_4, hfz16_5, hfz16_6⟩ := cz7 BK101.out
                  go_wp2
                  go_meet
                  case rel => exact ⟨_, (true), eqs, H', ⟨by have := HJ1.out; have := HJ8.out; first | omega | exact Nat.le_refl _⟩, ⟨bw BK101.out⟩, ⟨bel⟩⟩
                · rw [if_neg c15] at H
                  have c15b0 := decide_eq_false c15
                  clear c15
                  (first | rw [c15b0] | (simp only [i64_w, i32_w]; rw [c15b0]) | skip)
                  have H' := Aside0.mk H
                  clear H
                  obtain ⟨hcz17_0, hcz17_1, hcz17_2, hcz17_3, hcz17_4, hcz17_5, hcz17_6, hfz17_0, hfz17_1, hfz17_2, hfz17_3, hfz17_4, hfz17_5, hfz17_6⟩ := cz7 BK101.out
                  go_wp2
                  go_meet
                  case rel => exact ⟨_, (decide (a0_2 > 4096)), eqs, H', ⟨by have := HJ1.out; have := HJ8.out; first | omega | exact Nat.le_refl _⟩, ⟨bw BK101.out⟩, ⟨bel⟩⟩
              case rest =>
                clear HC14
                try clear c1
                try clear p2
                try clear c4
                try clear c4b0
                try clear c4b1
                try clear c4b2
                try clear c8
                try clear c10
                try clear c10b0
                try clear c13
                try clear c15
                try clear c15b0
                try clear hcz11_0 hcz11_1 hcz11_2 hcz11_3 hcz11_4 hcz11_5 hcz11_6
                try clear hcz12_0 hcz12_1 hcz12_2 hcz12_3 hcz12_4 hcz12_5 hcz12_6
                try clear hcz16_0 hcz16_1 hcz16_2 hcz16_3 hcz16_4 hcz16_5 hcz16_6
                try clear hcz17_0 hcz17_1 hcz17_2 hcz17_3 hcz17_4 hcz17_5 hcz17_6
                try clear hcz5_0 hcz5_1 hcz5_2 hcz5_3 hcz5_4 hcz5_5 hcz5_6
                try clear hcz7_0 hcz7_1 hcz7_2 hcz7_3 hcz7_4 hcz7_5 hcz7_6
                try clear hfz11_0 hfz11_1 hfz11_2 hfz11_3 hfz11_4 hfz11_5 hfz11_6
                try clear hfz12_0 hfz12_1 hfz12_2 hfz12_3 hfz12_4 hfz12_5 hfz12_6
                try clear hfz16_0 hfz16_1 hfz16_2 hfz16_3 hfz16_4 hfz16_5 hfz16_6
                try clear hfz17_0 hfz17_1 hfz17_2 hfz17_3 hfz17_4 hfz17_5 hfz17_6
                try clear hfz5_0 hfz5_1 hfz5_2 hfz5_3 hfz5_4 hfz5_5 hfz5_6
                try clear hfz7_0 hfz7_1 hfz7_2 hfz7_3 hfz7_4 hfz7_5 hfz7_6
                try clear p2
                obtain ⟨kq, x22_13, rfl, HA, HJ13, BK101, HB⟩ := hcut
                cases kq with
                | zero => exact absurd HA.out (by simp [product_Check.j2])
                | succ kj13 =>
                  have H := HA.out
                  clear HA
                  simp only [product_Check.j2] at H
                  by_cases c18 : x22_13 = true
                  · subst c18
                    rw [if_pos rfl] at H
                    obtain rfl := Option.some.inj H
                    go_wp2
                    go_ret
                    exact ⟨ers, bel⟩
                  · replace c18 := Bool.eq_false_iff.mpr c18
                    subst c18
                    rw [if_neg (show ¬ (false = true) by decide)] at H
                    have HC19 := Aside0.mk H
                    clear H
                    go_upto_region 7 with (fail)
                    go_cut [31] (fun v31 wc => ∃ (kq : Nat) (x31_18 : Bool), v31 = .bool x31_18 ∧ Aside0 (product_Check.j3 kq x31_18 a0_0 a0_1 a0_2 a0_3 a0_4 a0_5 a0_6 = some r) ∧ Aside0 (kq ≤ kj13) ∧ Aside0 (wc.heap[gb101]? = some (.cells #[.string a0_0, .int .i64 a0_1, .int .i64 a0_2, .int .i64 a0_3, .int .i64 a0_4, .int .i64 a0_5, .bool a0_6] 69 (0, 0))) ∧ Aside0 (Below w.heap.size w wc))
                    case first =>
                      have H := HC19.out
                      clear HC19
                      by_cases c20 : a0_3 < 1
                      · rw [if_pos c20] at H
                        have c20b0 := decide_eq_true c20
                        clear c20
                        (first | rw [c20b0] | (simp only [i64_w, i32_w]; rw [c20b0]) | skip)
                        have H' := Aside0.mk H
                        clear H
                        obtain ⟨hcz21_0, hcz21_1, hcz21_2, hcz21_3, hcz21_4, hcz21_5, hcz21_6, hfz21_0, hfz21_1, hfz21_2, hfz21_3, hfz21_4, hfz21_5, hfz21_6⟩ := cz7 BK101.out
                        go_wp2
                        go_meet
                        case rel => exact ⟨_, (true), eqs, H', ⟨by have := HJ1.out; have := HJ8.out; have := HJ13.out; first | omega | exact Nat.le_refl _⟩, ⟨bw BK101.out⟩, ⟨bel⟩⟩
                      · rw [if_neg c20] at H
                        have c20b0 := decide_eq_false c20
                        clear c20
                        (first | rw [c20b0] | (simp only [i64_w, i32_w]; rw [c20b0]) | skip)
                        have H' := Aside0.mk H
                        clear H
                        obtain ⟨hcz22_0, hcz22_1, hcz22_2, hcz22_3, hcz22_4, hcz22_5, hcz22_6, hfz22_0, hfz22_1, hfz22_2, hfz22_3, hfz22_4, hfz22_5, hfz22_6⟩ := cz7 BK101.out
                        go_wp2
                        go_meet
                        case rel => exact ⟨_, (decide (a0_3 > 16777216)), eqs, H', ⟨by have := HJ1.out; have := HJ8.out; have := HJ13.out; first | omega | exact Nat.le_refl _⟩, ⟨bw BK101.out⟩, ⟨bel⟩⟩
                    case rest =>
                      clear HC19
                      try clear c1
                      try clear c2
                      try clear p2
                      try clear c4
                      try clear c4b0
                      try clear c4b1
                      try clear c4b2
                      try clear c8
                      try clear c10
                      try clear c10b0
                      try clear c13
                      try clear c15
                      try clear c15b0
                      try clear c18
                      try clear c20
                      try clear c20b0
                      try clear hcz11_0 hcz11_1 hcz11_2 hcz11_3 hcz11_4 hcz11_5 hcz11_6
                      try clear hcz12_0 hcz12_1 hcz12_2 hcz12_3 hcz12_4 hcz12_5 hcz12_6
                      try clear hcz16_0 hcz16_1 hcz16_2 hcz16_3 hcz16_4 hcz16_5 hcz16_6
                      try clear hcz17_0 hcz17_1 hcz17_2 hcz17_3 hcz17_4 hcz17_5 hcz17_6
                      try clear hcz21_0 hcz21_1 hcz21_2 hcz21_3 hcz21_4 hcz21_5 hcz21_6
                      try clear hcz22_0 hcz22_1 hcz22_2 hcz22_3 hcz22_4 hcz22_5 hcz22_6
                      try clear hcz5_0 hcz5_1 hcz5_2 hcz5_3 hcz5_4 hcz5_5 hcz5_6
                      try clear hcz7_0 hcz7_1 hcz7_2 hcz7_3 hcz7_4 hcz7_5 hcz7_6
                      try clear hfz11_0 hfz11_1 hfz11_2 hfz11_3 hfz11_4 hfz11_5 hfz11_6
                      try clear hfz12_0 hfz12_1 hfz12_2 hfz12_3 hfz12_4 hfz12_5 hfz12_6
                      try clear hfz16_0 hfz16_1 hfz16_2 hfz16_3 hfz16_4 hfz16_5 hfz16_6
                      try clear hfz17_0 hfz17_1 hfz17_2 hfz17_3 hfz17_4 hfz17_5 hfz17_6
                      try clear hfz21_0 hfz21_1 hfz21_2 hfz21_3 hfz21_4 hfz21_5 hfz21_6
                      try clear hfz22_0 hfz22_1 hfz22_2 hfz22_3 hfz22_4 hfz22_5 hfz22_6
                      try clear hfz5_0 hfz5_1 hfz5_2 hfz5_3 hfz5_4 hfz5_5 hfz5_6
                      try clear hfz7_0 hfz7_1 hfz7_2 hfz7_3 hfz7_4 hfz7_5 hfz7_6
                      try clear p2
                      obtain ⟨kq, x31_18, rfl, HA, HJ18, BK101, HB⟩ := hcut
                      cases kq with
                      | zero => exact absurd HA.out (by simp [product_Check.j3])
                      | succ kj18 =>
                        have H := HA.out
                        clear HA
                        simp only [product_Check.j3] at H
                        by_cases c23 : x31_18 = true
                        · subst c23
                          rw [if_pos rfl] at H
                          obtain rfl := Option.some.inj H
                          go_wp2
                          go_ret
                          exact ⟨ers, bel⟩
                        · replace c23 := Bool.eq_false_iff.mpr c23
                          subst c23
                          rw [if_neg (show ¬ (false = true) by decide)] at H
                          replace H := bnd H
                          obtain ⟨t103, A240, H⟩ := H
                          have A24 := Aside0.mk A240
                          clear A240
                          by_cases c25 : t103 = true
                          · subst c25
                            rw [if_pos rfl] at H
                            replace H := bnd H
                            obtain ⟨t104, A260, H⟩ := H
                            have A26 := Aside0.mk A260
                            clear A260
                            by_cases c27 : t104 = true
                            · subst c27
                              rw [if_pos rfl] at H
                              by_cases c28 : a0_4 > a0_5
                              · rw [if_pos c28] at H
                                have c28b0 : decide (a0_5 < a0_4) = true := decide_eq_true c28
                                clear c28
                                obtain rfl := Option.some.inj H
                                obtain ⟨hcz29_0, hcz29_1, hcz29_2, hcz29_3, hcz29_4, hcz29_5, hcz29_6, hfz29_0, hfz29_1, hfz29_2, hfz29_3, hfz29_4, hfz29_5, hfz29_6⟩ := cz7 BK101.out
                                go_wp2_with (first | ((with_reducible refine gate_callee (f := 128) rfl ?_); refine goesL_ (some 43) rfl rfl Tryz.func128 (by kernel_rfl) rfl #[.int .i64 a0_4, .int .i64 16777216] rfl arg ?_; (with_reducible refine (product_within.calls a0_4 16777216 true _ A24.out).mono ?_); rintro e w' ⟨rfl, ⟨nd, rfl⟩⟩; refine ⟨_, rfl, ?_⟩) | (go_at_call 128; (with_reducible refine (product_within.calls a0_5 16777216 true _ A26.out).mono ?_); rintro e w' ⟨rfl, ⟨nd, rfl⟩⟩))
                                go_ret
                                exact ⟨ers, bel⟩
                              · rw [if_neg c28] at H
                                have c28b0 : decide (a0_5 < a0_4) = false := decide_eq_false c28
                                clear c28
                                by_cases c30 : a0_3 = 0
                                · rw [if_pos c30] at H
                                  exact absurd H (by simp)
                                · rw [if_neg c30] at H
                                  have c30b0 : (a0_3 == 0) = false := beq_eq_false_iff_ne.mpr c30
                                  have c30b1 : (a0_3 != 0) = true := bne_iff_ne.mpr c30
                                  by_cases c31 : (Int.tmod a0_4 a0_3) = 0
                                  · rw [if_pos c31] at H
                                    have c31b0 : ((Int.tmod a0_4 a0_3) == 0) = true := beq_iff_eq.mpr c31
                                    have c31b1 : ((Int.tmod a0_4 a0_3) != 0) = false := bne_eq_false_iff_eq.mpr c31
                                    clear c31
                                    by_cases c32 : (Int.tmod a0_5 a0_3) = 0
                                    · rw [if_pos c32] at H
                                      have c32b0 : ((Int.tmod a0_5 a0_3) == 0) = true := beq_iff_eq.mpr c32
                                      have c32b1 : ((Int.tmod a0_5 a0_3) != 0) = false := bne_eq_false_iff_eq.mpr c32
                                      clear c32
                                      obtain rfl := Option.some.inj H
                                      obtain ⟨hcz33_0, hcz33_1, hcz33_2, hcz33_3, hcz33_4, hcz33_5, hcz33_6, hfz33_0, hfz33_1, hfz33_2, hfz33_3, hfz33_4, hfz33_5, hfz33_6⟩ := cz7 BK101.out
                                      go_wp2_with (first | ((with_reducible refine gate_callee (f := 128) rfl ?_); refine goesL_ (some 43) rfl rfl Tryz.func128 (by kernel_rfl) rfl #[.int .i64 a0_4, .int .i64 16777216] rfl arg ?_; (with_reducible refine (product_within.calls a0_4 16777216 true _ A24.out).mono ?_); rintro e w' ⟨rfl, ⟨nd, rfl⟩⟩; refine ⟨_, rfl, ?_⟩) | (go_at_call 128; (with_reducible refine (product_within.calls a0_5 16777216 true _ A26.out).mono ?_); rintro e w' ⟨rfl, ⟨nd, rfl⟩⟩))
                                      go_ret
                                      exact ⟨ers, bel⟩
                                    · rw [if_neg c32] at H
                                      have c32b0 : ((Int.tmod a0_5 a0_3) == 0) = false := beq_eq_false_iff_ne.mpr c32
                                      have c32b1 : ((Int.tmod a0_5 a0_3) != 0) = true := bne_iff_ne.mpr c32
                                      obtain rfl := Option.some.inj H
                                      obtain ⟨hcz34_0, hcz34_1, hcz34_2, hcz34_3, hcz34_4, hcz34_5, hcz34_6, hfz34_0, hfz34_1, hfz34_2, hfz34_3, hfz34_4, hfz34_5, hfz34_6⟩ := cz7 BK101.out
                                      go_wp2_with (first | ((with_reducible refine gate_callee (f := 128) rfl ?_); refine goesL_ (some 43) rfl rfl Tryz.func128 (by kernel_rfl) rfl #[.int .i64 a0_4, .int .i64 16777216] rfl arg ?_; (with_reducible refine (product_within.calls a0_4 16777216 true _ A24.out).mono ?_); rintro e w' ⟨rfl, ⟨nd, rfl⟩⟩; refine ⟨_, rfl, ?_⟩) | (go_at_call 128; (with_reducible refine (product_within.calls a0_5 16777216 true _ A26.out).mono ?_); rintro e w' ⟨rfl, ⟨nd, rfl⟩⟩))
                                      go_ret
                                      exact ⟨ers, bel⟩
                                  · rw [if_neg c31] at H
                                    have c31b0 : ((Int.tmod a0_4 a0_3) == 0) = false := beq_eq_false_iff_ne.mpr c31
                                    have c31b1 : ((Int.tmod a0_4 a0_3) != 0) = true := bne_iff_ne.mpr c31
                                    obtain rfl := Option.some.inj H
                                    obtain ⟨hcz35_0, hcz35_1, hcz35_2, hcz35_3, hcz35_4, hcz35_5, hcz35_6, hfz35_0, hfz35_1, hfz35_2, hfz35_3, hfz35_4, hfz35_5, hfz35_6⟩ := cz7 BK101.out
                                    go_wp2_with (first | ((with_reducible refine gate_callee (f := 128) rfl ?_); refine goesL_ (some 43) rfl rfl Tryz.func128 (by kernel_rfl) rfl #[.int .i64 a0_4, .int .i64 16777216] rfl arg ?_; (with_reducible refine (product_within.calls a0_4 16777216 true _ A24.out).mono ?_); rintro e w' ⟨rfl, ⟨nd, rfl⟩⟩; refine ⟨_, rfl, ?_⟩) | (go_at_call 128; (with_reducible refine (product_within.calls a0_5 16777216 true _ A26.out).mono ?_); rintro e w' ⟨rfl, ⟨nd, rfl⟩⟩))
                                    go_ret
                                    exact ⟨ers, bel⟩
                            · replace c27 := Bool.eq_false_iff.mpr c27
                              subst c27
                              rw [if_neg (show ¬ (false = true) by decide)] at H
                              obtain rfl := Option.some.inj H
                              obtain ⟨hcz36_0, hcz36_1, hcz36_2, hcz36_3, hcz36_4, hcz36_5, hcz36_6, hfz36_0, hfz36_1, hfz36_2, hfz36_3, hfz36_4, hfz36_5, hfz36_6⟩ := cz7 BK101.out
                              go_wp2_with (first | ((with_reducible refine gate_callee (f := 128) rfl ?_); refine goesL_ (some 43) rfl rfl Tryz.func128 (by kernel_rfl) rfl #[.int .i64 a0_4, .int .i64 16777216] rfl arg ?_; (with_reducible refine (product_within.calls a0_4 16777216 true _ A24.out).mono ?_); rintro e w' ⟨rfl, ⟨nd, rfl⟩⟩; refine ⟨_, rfl, ?_⟩) | (go_at_call 128; (with_reducible refine (product_within.calls a0_5 16777216 false _ A26.out).mono ?_); rintro e w' ⟨rfl, ⟨nd, rfl⟩⟩))
                              go_ret
                              exact ⟨ers, bel⟩
                          · replace c25 := Bool.eq_false_iff.mpr c25
                            subst c25
                            rw [if_neg (show ¬ (false = true) by decide)] at H
                            obtain rfl := Option.some.inj H
                            obtain ⟨hcz37_0, hcz37_1, hcz37_2, hcz37_3, hcz37_4, hcz37_5, hcz37_6, hfz37_0, hfz37_1, hfz37_2, hfz37_3, hfz37_4, hfz37_5, hfz37_6⟩ := cz7 BK101.out
                            go_wp2_with (first | ((with_reducible refine gate_callee (f := 128) rfl ?_); refine goesL_ (some 43) rfl rfl Tryz.func128 (by kernel_rfl) rfl #[.int .i64 a0_4, .int .i64 16777216] rfl arg ?_; (with_reducible refine (product_within.calls a0_4 16777216 false _ A24.out).mono ?_); rintro e w' ⟨rfl, ⟨nd, rfl⟩⟩; refine ⟨_, rfl, ?_⟩))
                            go_ret
                            exact ⟨ers, bel⟩
end Go.Proofs.YthpmmofleddpnaaGreatDoor.X
end
section
namespace Go.Proofs.YthpmmofleddpnaaGreatDoor.X
open Go.RowKit Go.Proofs.YthpmmofleddpnaaGreatDoorW.PrintWords Go.Proofs.YthpmmofleddpnaaGreatDoorW.PrintLast Go.Proofs.YthpmmofleddpnaaGreatDoorW.PrintMore
attribute [local go_sem] max2_int min2_int max_two min_two max_three min_three max_four min_four
set_option linter.unusedVariables false
set_option linter.unusedSimpArgs false
def product_Price.j0 : Nat → Int → Bool → ByteArray → Int → Int → Int → Int → Int → Bool → Option (Int)
  | 0, _, _, _, _, _, _, _, _, _ => none
  | k + 1, x1, x20, x102000, x102001, x102002, x102003, x102004, x102005, x102006 => if x20 = true then (some 17) else (if x102003 = 0 then (none) else (if (Int.tmod x1 x102003) = 0 then (some 0) else (some 16)))
def product_Price.f (k : Nat) (a0_0 : ByteArray) (a0_1 : Int) (a0_2 : Int) (a0_3 : Int) (a0_4 : Int) (a0_5 : Int) (a0_6 : Bool) (a1 : Int) : Option (Int) := (product_Check.f k a0_0 a0_1 a0_2 a0_3 a0_4 a0_5 a0_6).bind fun t102 => (if t102 = 0 then (if a1 < a0_4 then (product_Price.j0 k a1 true a0_0 a0_1 a0_2 a0_3 a0_4 a0_5 a0_6) else (product_Price.j0 k a1 (decide (a1 > a0_5)) a0_0 a0_1 a0_2 a0_3 a0_4 a0_5 a0_6)) else (some t102))
set_option maxHeartbeats 8000000 in
set_option maxRecDepth 100000 in
theorem product_Price.calls (k : Nat) (a0_0 : ByteArray) (a0_1 : Int) (a0_2 : Int) (a0_3 : Int) (a0_4 : Int) (a0_5 : Int) (a0_6 : Bool) (a1 : Int) (r : Int) (w : World) (h : product_Price.f k a0_0 a0_1 a0_2 a0_3 a0_4 a0_5 a0_6 a1 = some r) :
    Calls Tryz.prog 34 #[.agg #[.string a0_0, .int .i64 a0_1, .int .i64 a0_2, .int .i64 a0_3, .int .i64 a0_4, .int .i64 a0_5, .bool a0_6], .int .i64 a1] w fun e w' => e = .returned (.int .i64 r) ∧ Below w.heap.size w w' := by
  have hu69 := Tryz.underlying69
  have HB := Aside0.mk (Below.refl w.heap.size w)
  have H : ((product_Check.f k a0_0 a0_1 a0_2 a0_3 a0_4 a0_5 a0_6).bind fun t102 => (if t102 = 0 then (if a1 < a0_4 then (product_Price.j0 k a1 true a0_0 a0_1 a0_2 a0_3 a0_4 a0_5 a0_6) else (product_Price.j0 k a1 (decide (a1 > a0_5)) a0_0 a0_1 a0_2 a0_3 a0_4 a0_5 a0_6)) else (some t102))) = some r := h
  clear h
  replace H := bnd H
  obtain ⟨t102, A30, H⟩ := H
  have A3 := Aside0.mk A30
  clear A30
  go_enter Tryz.func34, Tryz.ntmps34
  go_wp2_with (first | ((with_reducible refine gate_dst (N := 2) rfl ?_); refine box_event ?hg (N := 2) ?hd (cs := #[.string a0_0, .int .i64 a0_1, .int .i64 a0_2, .int .i64 a0_3, .int .i64 a0_4, .int .i64 a0_5, .bool a0_6]) (t := 69) ?hr ?_; (case hd => rfl); (case hg => rfl); (case hr => first | (go_simp; done) | (go_simp; rfl)); intro gb101 hg w6 hbox hb; have BK101 := Aside0.mk (hbox); have GW101 := Aside0.mk ((gsz hg : w.heap.size ≤ gb101)); have GE101 := Aside0.mk ((gsz hg : w.heap.size ≤ gb101)); replace HB := Aside0.mk (below_step bel hb); clear hb hbox hg; obtain ⟨hcz7_0, hcz7_1, hcz7_2, hcz7_3, hcz7_4, hcz7_5, hcz7_6, hfz7_0, hfz7_1, hfz7_2, hfz7_3, hfz7_4, hfz7_5, hfz7_6⟩ := cz7 BK101.out) | ((with_reducible refine gate_callee (f := 84) rfl ?_); refine Aside0.out ?_))
  by_cases c4 : t102 = 0
  · rw [if_pos c4] at H
    have c4b0 : (t102 == 0) = true := beq_iff_eq.mpr c4
    have c4b1 : (t102 != 0) = false := bne_eq_false_iff_eq.mpr c4
    clear c4
    have HC5 := Aside0.mk H
    clear H
    refine Aside0.mk ?_
    (refine goesL_ (some 7) rfl rfl Tryz.func84 (by kernel_rfl) rfl #[.agg #[.string a0_0, .int .i64 a0_1, .int .i64 a0_2, .int .i64 a0_3, .int .i64 a0_4, .int .i64 a0_5, .bool a0_6]] rfl arg ?_; (with_reducible refine (product_Check.calls k a0_0 a0_1 a0_2 a0_3 a0_4 a0_5 a0_6 t102 _ A3.out).mono ?_); rintro e w8 ⟨rfl, hb⟩; refine ⟨_, rfl, ?_⟩; replace BK101 := Aside0.mk (blk_below (g := gb101) (bw BK101.out) hb); replace HB := Aside0.mk (below_step bel hb); (try clear hb); (try clear hb2); (try clear hk); (try clear hi))
    go_upto_region 4 with (fail)
    (try simp only [Act.put, List.setIfInBounds_toArray, List.set_cons_zero, List.set_cons_succ])
    go_cut [20] (fun v20 wc => ∃ (kq : Nat) (x20_4 : Bool), v20 = .bool x20_4 ∧ Aside0 (product_Price.j0 kq a1 x20_4 a0_0 a0_1 a0_2 a0_3 a0_4 a0_5 a0_6 = some r) ∧ Aside0 (kq ≤ k) ∧ Aside0 (wc.heap[gb101]? = some (.cells #[.string a0_0, .int .i64 a0_1, .int .i64 a0_2, .int .i64 a0_3, .int .i64 a0_4, .int .i64 a0_5, .bool a0_6] 69 (0, 0))) ∧ Aside0 (Below w.heap.size w wc))
    case first =>
      have H := HC5.out
      clear HC5
      by_cases c9 : a1 < a0_4
      · rw [if_pos c9] at H
        have c9b0 := decide_eq_true c9
        clear c9
        (first | rw [c9b0] | (simp only [i64_w, i32_w]; rw [c9b0]) | skip)
        have H' := Aside0.mk H
        clear H
        obtain ⟨hcz10_0, hcz10_1, hcz10_2, hcz10_3, hcz10_4, hcz10_5, hcz10_6, hfz10_0, hfz10_1, hfz10_2, hfz10_3, hfz10_4, hfz10_5, hfz10_6⟩ := cz7 BK101.out
        go_wp2
        go_meet
        case rel => exact ⟨_, (true), eqs, H', ⟨by first | omega | exact Nat.le_refl _⟩, ⟨bw BK101.out⟩, ⟨bel⟩⟩
      · rw [if_neg c9] at H
        have c9b0 := decide_eq_false c9
        clear c9
        (first | rw [c9b0] | (simp only [i64_w, i32_w]; rw [c9b0]) | skip)
        have H' := Aside0.mk H
        clear H
        obtain ⟨hcz11_0, hcz11_1, hcz11_2, hcz11_3, hcz11_4, hcz11_5, hcz11_6, hfz11_0, hfz11_1, hfz11_2, hfz11_3, hfz11_4, hfz11_5, hfz11_6⟩ := cz7 BK101.out
        go_wp2
        go_meet
        case rel => exact ⟨_, (decide (a1 > a0_5)), eqs, H', ⟨by first | omega | exact Nat.le_refl _⟩, ⟨bw BK101.out⟩, ⟨bel⟩⟩
    case rest =>
      clear HC5
      try clear p2
      try clear c3
      try clear c4
      try clear c4b0
      try clear c4b1
      try clear c8
      try clear c9
      try clear c9b0
      try clear hcz10_0 hcz10_1 hcz10_2 hcz10_3 hcz10_4 hcz10_5 hcz10_6
      try clear hcz11_0 hcz11_1 hcz11_2 hcz11_3 hcz11_4 hcz11_5 hcz11_6
      try clear hcz7_0 hcz7_1 hcz7_2 hcz7_3 hcz7_4 hcz7_5 hcz7_6
      try clear hfz10_0 hfz10_1 hfz10_2 hfz10_3 hfz10_4 hfz10_5 hfz10_6
      try clear hfz11_0 hfz11_1 hfz11_2 hfz11_3 hfz11_4 hfz11_5 hfz11_6
      try clear hfz7_0 hfz7_1 hfz7_2 hfz7_3 hfz7_4 hfz7_5 hfz7_6
      obtain ⟨kq, x20_4, rfl, HA, HJ4, BK101, HB⟩ := hcut
      cases kq with
      | zero => exact absurd HA.out (by simp [product_Price.j0])
      | succ kj4 =>
        have H := HA.out
        clear HA
        simp only [product_Price.j0] at H
        by_cases c12 : x20_4 = true
        · subst c12
          rw [if_pos rfl] at H
          obtain rfl := Option.some.inj H
          go_wp2
          go_ret
          exact ⟨ers, bel⟩
        · replace c12 := Bool.eq_false_iff.mpr c12
          subst c12
          rw [if_neg (show ¬ (false = true) by decide)] at H
          by_cases c13 : a0_3 = 0
          · rw [if_pos c13] at H
            exact absurd H (by simp)
          · rw [if_neg c13] at H
            have c13b0 : (a0_3 == 0) = false := beq_eq_false_iff_ne.mpr c13
            have c13b1 : (a0_3 != 0) = true := bne_iff_ne.mpr c13
            by_cases c14 : (Int.tmod a1 a0_3) = 0
            · rw [if_pos c14] at H
              have c14b0 : ((Int.tmod a1 a0_3) == 0) = true := beq_iff_eq.mpr c14
              have c14b1 : ((Int.tmod a1 a0_3) != 0) = false := bne_eq_false_iff_eq.mpr c14
              clear c14
              obtain rfl := Option.some.inj H
              obtain ⟨hcz15_0, hcz15_1, hcz15_2, hcz15_3, hcz15_4, hcz15_5, hcz15_6, hfz15_0, hfz15_1, hfz15_2, hfz15_3, hfz15_4, hfz15_5, hfz15_6⟩ := cz7 BK101.out
              go_wp2
              go_ret
              exact ⟨ers, bel⟩
            · rw [if_neg c14] at H
              have c14b0 : ((Int.tmod a1 a0_3) == 0) = false := beq_eq_false_iff_ne.mpr c14
              have c14b1 : ((Int.tmod a1 a0_3) != 0) = true := bne_iff_ne.mpr c14
              obtain rfl := Option.some.inj H
              obtain ⟨hcz16_0, hcz16_1, hcz16_2, hcz16_3, hcz16_4, hcz16_5, hcz16_6, hfz16_0, hfz16_1, hfz16_2, hfz16_3, hfz16_4, hfz16_5, hfz16_6⟩ := cz7 BK101.out
              go_wp2
              go_ret
              exact ⟨ers, bel⟩
  · rw [if_neg c4] at H
    have c4b0 : (t102 == 0) = false := beq_eq_false_iff_ne.mpr c4
    have c4b1 : (t102 != 0) = true := bne_iff_ne.mpr c4
    obtain rfl := Option.some.inj H
    refine Aside0.mk ?_
    (refine goesL_ (some 7) rfl rfl Tryz.func84 (by kernel_rfl) rfl #[.agg #[.string a0_0, .int .i64 a0_1, .int .i64 a0_2, .int .i64 a0_3, .int .i64 a0_4, .int .i64 a0_5, .bool a0_6]] rfl arg ?_; (with_reducible refine (product_Check.calls k a0_0 a0_1 a0_2 a0_3 a0_4 a0_5 a0_6 t102 _ A3.out).mono ?_); rintro e w19 ⟨rfl, hb⟩; refine ⟨_, rfl, ?_⟩; replace BK101 := Aside0.mk (blk_below (g := gb101) (bw BK101.out) hb); replace HB := Aside0.mk (below_step bel hb); (try clear hb); (try clear hb2); (try clear hk); (try clear hi))
    go_wp2_with (fail)
    go_ret
    exact ⟨ers, bel⟩
def product_CheckAll.l0 : Nat → List (S69) → List (S69) → Int → Int → Option (Int)
  | 0, _, _, _, _ => none
  | k + 1, x0, x9, x10, x11 => if x11 < x10 then (if 0 ≤ x11 then (if x11 < (x9.length : Int) then ((product_Check.f k ((rd_T69 x9 x11).f0) ((rd_T69 x9 x11).f1) ((rd_T69 x9 x11).f2) ((rd_T69 x9 x11).f3) ((rd_T69 x9 x11).f4) ((rd_T69 x9 x11).f5) ((rd_T69 x9 x11).f6)).bind fun t103 => (if t103 = 0 then (if x11 > 0 then (if 0 ≤ (wrap64 (x11 - 1)) then (if (wrap64 (x11 - 1)) < (x0.length : Int) then (if ((Op.bytesLess (((rd_T69 x0 (wrap64 (x11 - 1))).f0).toList) (((rd_T69 x9 x11).f0).toList)) = true) then (product_CheckAll.l0 k x0 x9 x10 (wrap64 (x11 + 1))) else (some 12)) else (none)) else (none)) else (product_CheckAll.l0 k x0 x9 x10 (wrap64 (x11 + 1)))) else (some t103))) else (none)) else (none)) else (some 0)
def product_CheckAll.f (k : Nat) (l0 : List (S69)) : Option (Int) := if (l0.length : Int) > 32 then (some 8) else (product_CheckAll.l0 k l0 l0 (l0.length : Int) 0)
set_option maxHeartbeats 8000000 in
set_option maxRecDepth 100000 in
theorem product_CheckAll.calls (k : Nat) (A0 : Option Addr) (c0 : Nat) (l0 : List (S69)) (r : Int) (w : World) (hr0 : Kd.C k69 w A0 l0.length l0) (hc0 : l0.length ≤ c0) (h : product_CheckAll.f k l0 = some r) :
    Calls Tryz.prog 81 #[.slice A0 l0.length c0] w fun e w' => e = .returned (.int .i64 r) ∧ Below w.heap.size w w' := by
  have hu69 := Tryz.underlying69
  have HR0 := Aside0.mk hr0
  have HC0 := Aside0.mk hc0
  clear hr0 hc0
  have HB := Aside0.mk (Below.refl w.heap.size w)
  have H : (if (l0.length : Int) > 32 then (some 8) else (product_CheckAll.l0 k l0 l0 (l0.length : Int) 0)) = some r := h
  clear h
  by_cases c2 : (l0.length : Int) > 32
  · rw [if_pos c2] at H
    have c2b0 : decide (32 < (l0.length : Int)) = true := decide_eq_true c2
    have c2b1 : decide (32 < l0.length) = true := decide_eq_true (by omega)
    clear c2
    obtain rfl := Option.some.inj H
    go_enter Tryz.func81, Tryz.ntmps81
    go_wp2
    repeat (go_quiet (fail); try go_wp2)
    go_ret
    exact ⟨ers, bel⟩
  · rw [if_neg c2] at H
    have c2b0 : decide (32 < (l0.length : Int)) = false := decide_eq_false c2
    have c2b1 : decide (32 < l0.length) = false := decide_eq_false (by omega)
    clear c2
    have H' := Aside0.mk H
    clear H
    go_enter Tryz.func81, Tryz.ntmps81
    go_wp2
    repeat (go_quiet (fail); try go_wp2)
    go_loopg [11] k (fun kq v11 w' => ∃ (x11_1 : Int), v11 = .int .i64 x11_1 ∧ Aside0 (product_CheckAll.l0 kq l0 l0 (l0.length : Int) x11_1 = some r) ∧ Aside0 (kq ≤ k) ∧ Aside0 (Below w.heap.size w w'))
    case atStart => exact ⟨(0), eqs, H', ⟨Nat.le_refl _⟩, ⟨bel⟩⟩
    case round =>
      clear H'
      try clear c2
      try clear c2b0
      try clear c2b1
      try clear p2
      obtain ⟨x11_1, rfl, HA, HK1, HB⟩ := hrel
      cases gk with
      | zero => exact absurd HA.out (by simp [product_CheckAll.l0])
      | succ k1 =>
        have H := HA.out
        clear HA
        simp only [product_CheckAll.l0] at H
        by_cases c3 : x11_1 < (l0.length : Int)
        · rw [if_pos c3] at H
          have c3b0 := decide_eq_true c3
          clear c3
          by_cases c4 : 0 ≤ x11_1
          · rw [if_pos c4] at H
            have c4b0 := decide_eq_true c4
            clear c4
            by_cases c5 : x11_1 < (l0.length : Int)
            · rw [if_pos c5] at H
              have c5b0 := decide_eq_true c5
              clear c5
              replace H := bnd H
              obtain ⟨t103, A60, H⟩ := H
              have A6 := Aside0.mk A60
              clear A60
              by_cases c7 : t103 = 0
              · rw [if_pos c7] at H
                have c7b0 : (t103 == 0) = true := beq_iff_eq.mpr c7
                have c7b1 : (t103 != 0) = false := bne_eq_false_iff_eq.mpr c7
                clear c7
                by_cases c8 : x11_1 > 0
                · rw [if_pos c8] at H
                  have c8b0 : decide (0 < x11_1) = true := decide_eq_true c8
                  clear c8
                  obtain ⟨ji9, hji9⟩ : ∃ j_ : Int, (wrap64 (x11_1 - 1)) = j_ := ⟨_, rfl⟩
                  replace H : (if 0 ≤ (ji9) then (if (ji9) < (l0.length : Int) then (if ((Op.bytesLess (((rd_T69 l0 (ji9)).f0).toList) (((rd_T69 l0 x11_1).f0).toList)) = true) then (product_CheckAll.l0 k1 l0 l0 (l0.length : Int) (wrap64 (x11_1 + 1))) else (some 12)) else (none)) else (none)) = some r := by first | (rw [hji9] at H; exact H) | (simp only [hji9] at H ⊢; exact H)
                  (try rw [hji9] at A6)
                  have hji9w : (IntKind.i64.wrap (x11_1 - 1)) = ji9 := (i64_w _).trans hji9
                  have p101 : 0 ≤ (x11_1 : Int) := dt
                  have q101 : x11_1 < (l0.length : Int) := dt
                  obtain ⟨ad101, e101, hx101_0, hx101_1, hx101_2, hx101_3, hx101_4, hx101_5, hx101_6⟩ := at_T69 HR0.out x11_1 p101 q101
                  cases e101
                  replace hx101_0 := (HB.out.cell (World.block_lt_of_cell? w _ hx101_0)).trans hx101_0
                  replace hx101_1 := (HB.out.cell (World.block_lt_of_cell? w _ hx101_1)).trans hx101_1
                  replace hx101_2 := (HB.out.cell (World.block_lt_of_cell? w _ hx101_2)).trans hx101_2
                  replace hx101_3 := (HB.out.cell (World.block_lt_of_cell? w _ hx101_3)).trans hx101_3
                  replace hx101_4 := (HB.out.cell (World.block_lt_of_cell? w _ hx101_4)).trans hx101_4
                  replace hx101_5 := (HB.out.cell (World.block_lt_of_cell? w _ hx101_5)).trans hx101_5
                  replace hx101_6 := (HB.out.cell (World.block_lt_of_cell? w _ hx101_6)).trans hx101_6
                  replace p101 := eq_true p101
                  replace q101 := eq_true q101
                  go_wp2_with (((with_reducible refine gate_dst (N := 4) rfl ?_); refine box_event ?hg (N := 4) ?hd (cs := #[.string (⟨#[]⟩ : ByteArray), .int .i64 0, .int .i64 0, .int .i64 0, .int .i64 0, .int .i64 0, .bool false]) (t := 69) ?hr ?_; (case hd => rfl); (case hg => rfl); (case hr => first | (go_simp; done) | (go_simp; rfl)); intro gb102 hg w13 hbox hb; have BK102 := Aside0.mk (hbox); have GW102 := Aside0.mk ((gsz hg : w.heap.size ≤ gb102)); have GE102 := Aside0.mk ((gsz hg : w.heap.size ≤ gb102)); replace HB := Aside0.mk (below_step bel hb); clear hb hbox hg; obtain ⟨hcz14_0, hcz14_1, hcz14_2, hcz14_3, hcz14_4, hcz14_5, hcz14_6, hfz14_0, hfz14_1, hfz14_2, hfz14_3, hfz14_4, hfz14_5, hfz14_6⟩ := cz7 BK102.out))
                  by_cases c10 : 0 ≤ (ji9)
                  · rw [if_pos c10] at H
                    have c10b0 := decide_eq_true c10
                    clear c10
                    by_cases c11 : (ji9) < (l0.length : Int)
                    · rw [if_pos c11] at H
                      have c11b0 := decide_eq_true c11
                      clear c11
                      by_cases c12 : ((Op.bytesLess (((rd_T69 l0 (ji9)).f0).toList) (((rd_T69 l0 x11_1).f0).toList)) = true)
                      · rw [if_pos c12] at H
                        have c12b0 : (Op.bytesLess (((rd_T69 l0 (ji9)).f0).toList) (((rd_T69 l0 x11_1).f0).toList)) = true := c12
                        clear c12
                        have H' := Aside0.mk H
                        clear H
                        go_wp2_with ((go_at_call 84; (with_reducible refine (product_Check.calls k1 ((rd_T69 l0 x11_1).f0) ((rd_T69 l0 x11_1).f1) ((rd_T69 l0 x11_1).f2) ((rd_T69 l0 x11_1).f3) ((rd_T69 l0 x11_1).f4) ((rd_T69 l0 x11_1).f5) ((rd_T69 l0 x11_1).f6) t103 _ A6.out).mono ?_); rintro e w15 ⟨rfl, hb⟩; replace BK102 := Aside0.mk (blk_below (g := gb102) (o := .cells #[.string ((rd_T69 l0 x11_1).f0), .int .i64 ((rd_T69 l0 x11_1).f1), .int .i64 ((rd_T69 l0 x11_1).f2), .int .i64 ((rd_T69 l0 x11_1).f3), .int .i64 ((rd_T69 l0 x11_1).f4), .int .i64 ((rd_T69 l0 x11_1).f5), .bool ((rd_T69 l0 x11_1).f6)] 69 (0, 0)) (bs BK102.out) hb); replace HB := Aside0.mk (below_step bel hb); (try clear hb); (try clear hb2); (try clear hk); (try clear hi); obtain ⟨hcz16_0, hcz16_1, hcz16_2, hcz16_3, hcz16_4, hcz16_5, hcz16_6, hfz16_0, hfz16_1, hfz16_2, hfz16_3, hfz16_4, hfz16_5, hfz16_6⟩ := cz7 BK102.out; have p104 : 0 ≤ ((ji9) : Int) := dt; have q104 : (ji9) < (l0.length : Int) := dt; obtain ⟨ad104, e104, hx104_0, hx104_1, hx104_2, hx104_3, hx104_4, hx104_5, hx104_6⟩ := at_T69 HR0.out (ji9) p104 q104; obtain rfl : ad101 = ad104 := (by injection e104); replace hx104_0 := (HB.out.cell (World.block_lt_of_cell? w _ hx104_0)).trans hx104_0; replace hx104_1 := (HB.out.cell (World.block_lt_of_cell? w _ hx104_1)).trans hx104_1; replace hx104_2 := (HB.out.cell (World.block_lt_of_cell? w _ hx104_2)).trans hx104_2; replace hx104_3 := (HB.out.cell (World.block_lt_of_cell? w _ hx104_3)).trans hx104_3; replace hx104_4 := (HB.out.cell (World.block_lt_of_cell? w _ hx104_4)).trans hx104_4; replace hx104_5 := (HB.out.cell (World.block_lt_of_cell? w _ hx104_5)).trans hx104_5; replace hx104_6 := (HB.out.cell (World.block_lt_of_cell? w _ hx104_6)).trans hx104_6; replace p104 := eq_true p104; replace q104 := eq_true q104))
                        repeat (go_quiet (first | ((with_reducible refine gate_dst (N := 4) rfl ?_); refine box_event ?hg (N := 4) ?hd (cs := #[.string (⟨#[]⟩ : ByteArray), .int .i64 0, .int .i64 0, .int .i64 0, .int .i64 0, .int .i64 0, .bool false]) (t := 69) ?hr ?_; (case hd => rfl); (case hg => rfl); (case hr => first | (go_simp; done) | (go_simp; rfl)); intro gb102 hg w13 hbox hb; have BK102 := Aside0.mk (hbox); have GW102 := Aside0.mk ((gsz hg : w.heap.size ≤ gb102)); have GE102 := Aside0.mk ((gsz hg : w.heap.size ≤ gb102)); replace HB := Aside0.mk (below_step bel hb); clear hb hbox hg; obtain ⟨hcz14_0, hcz14_1, hcz14_2, hcz14_3, hcz14_4, hcz14_5, hcz14_6, hfz14_0, hfz14_1, hfz14_2, hfz14_3, hfz14_4, hfz14_5, hfz14_6⟩ := cz7 BK102.out) | (go_at_call 84; (with_reducible refine (product_Check.calls k1 ((rd_T69 l0 x11_1).f0) ((rd_T69 l0 x11_1).f1) ((rd_T69 l0 x11_1).f2) ((rd_T69 l0 x11_1).f3) ((rd_T69 l0 x11_1).f4) ((rd_T69 l0 x11_1).f5) ((rd_T69 l0 x11_1).f6) t103 _ A6.out).mono ?_); rintro e w15 ⟨rfl, hb⟩; replace BK102 := Aside0.mk (blk_below (g := gb102) (o := .cells #[.string ((rd_T69 l0 x11_1).f0), .int .i64 ((rd_T69 l0 x11_1).f1), .int .i64 ((rd_T69 l0 x11_1).f2), .int .i64 ((rd_T69 l0 x11_1).f3), .int .i64 ((rd_T69 l0 x11_1).f4), .int .i64 ((rd_T69 l0 x11_1).f5), .bool ((rd_T69 l0 x11_1).f6)] 69 (0, 0)) (bs BK102.out) hb); replace HB := Aside0.mk (below_step bel hb); (try clear hb); (try clear hb2); (try clear hk); (try clear hi); obtain ⟨hcz16_0, hcz16_1, hcz16_2, hcz16_3, hcz16_4, hcz16_5, hcz16_6, hfz16_0, hfz16_1, hfz16_2, hfz16_3, hfz16_4, hfz16_5, hfz16_6⟩ := cz7 BK102.out; have p104 : 0 ≤ ((ji9) : Int) := dt; have q104 : (ji9) < (l0.length : Int) := dt; obtain ⟨ad104, e104, hx104_0, hx104_1, hx104_2, hx104_3, hx104_4, hx104_5, hx104_6⟩ := at_T69 HR0.out (ji9) p104 q104; obtain rfl : ad101 = ad104 := (by injection e104); replace hx104_0 := (HB.out.cell (World.block_lt_of_cell? w _ hx104_0)).trans hx104_0; replace hx104_1 := (HB.out.cell (World.block_lt_of_cell? w _ hx104_1)).trans hx104_1; replace hx104_2 := (HB.out.cell (World.block_lt_of_cell? w _ hx104_2)).trans hx104_2; replace hx104_3 := (HB.out.cell (World.block_lt_of_cell? w _ hx104_3)).trans hx104_3; replace hx104_4 := (HB.out.cell (World.block_lt_of_cell? w _ hx104_4)).trans hx104_4; replace hx104_5 := (HB.out.cell (World.block_lt_of_cell? w _ hx104_5)).trans hx104_5; replace hx104_6 := (HB.out.cell (World.block_lt_of_cell? w _ hx104_6)).trans hx104_6; replace p104 := eq_true p104; replace q104 := eq_true q104)); try go_wp2_with (first | ((with_reducible refine gate_dst (N := 4) rfl ?_); refine box_event ?hg (N := 4) ?hd (cs := #[.string (⟨#[]⟩ : ByteArray), .int .i64 0, .int .i64 0, .int .i64 0, .int .i64 0, .int .i64 0, .bool false]) (t := 69) ?hr ?_; (case hd => rfl); (case hg => rfl); (case hr => first | (go_simp; done) | (go_simp; rfl)); intro gb102 hg w13 hbox hb; have BK102 := Aside0.mk (hbox); have GW102 := Aside0.mk ((gsz hg : w.heap.size ≤ gb102)); have GE102 := Aside0.mk ((gsz hg : w.heap.size ≤ gb102)); replace HB := Aside0.mk (below_step bel hb); clear hb hbox hg; obtain ⟨hcz14_0, hcz14_1, hcz14_2, hcz14_3, hcz14_4, hcz14_5, hcz14_6, hfz14_0, hfz14_1, hfz14_2, hfz14_3, hfz14_4, hfz14_5, hfz14_6⟩ := cz7 BK102.out) | (go_at_call 84; (with_reducible refine (product_Check.calls k1 ((rd_T69 l0 x11_1).f0) ((rd_T69 l0 x11_1).f1) ((rd_T69 l0 x11_1).f2) ((rd_T69 l0 x11_1).f3) ((rd_T69 l0 x11_1).f4) ((rd_T69 l0 x11_1).f5) ((rd_T69 l0 x11_1).f6) t103 _ A6.out).mono ?_); rintro e w15 ⟨rfl, hb⟩; replace BK102 := Aside0.mk (blk_below (g := gb102) (o := .cells #[.string ((rd_T69 l0 x11_1).f0), .int .i64 ((rd_T69 l0 x11_1).f1), .int .i64 ((rd_T69 l0 x11_1).f2), .int .i64 ((rd_T69 l0 x11_1).f3), .int .i64 ((rd_T69 l0 x11_1).f4), .int .i64 ((rd_T69 l0 x11_1).f5), .bool ((rd_T69 l0 x11_1).f6)] 69 (0, 0)) (bs BK102.out) hb); replace HB := Aside0.mk (below_step bel hb); (try clear hb); (try clear hb2); (try clear hk); (try clear hi); obtain ⟨hcz16_0, hcz16_1, hcz16_2, hcz16_3, hcz16_4, hcz16_5, hcz16_6, hfz16_0, hfz16_1, hfz16_2, hfz16_3, hfz16_4, hfz16_5, hfz16_6⟩ := cz7 BK102.out; have p104 : 0 ≤ ((ji9) : Int) := dt; have q104 : (ji9) < (l0.length : Int) := dt; obtain ⟨ad104, e104, hx104_0, hx104_1, hx104_2, hx104_3, hx104_4, hx104_5, hx104_6⟩ := at_T69 HR0.out (ji9) p104 q104; obtain rfl : ad101 = ad104 := (by injection e104); replace hx104_0 := (HB.out.cell (World.block_lt_of_cell? w _ hx104_0)).trans hx104_0; replace hx104_1 := (HB.out.cell (World.block_lt_of_cell? w _ hx104_1)).trans hx104_1; replace hx104_2 := (HB.out.cell (World.block_lt_of_cell? w _ hx104_2)).trans hx104_2; replace hx104_3 := (HB.out.cell (World.block_lt_of_cell? w _ hx104_3)).trans hx104_3; replace hx104_4 := (HB.out.cell (World.block_lt_of_cell? w _ hx104_4)).trans hx104_4; replace hx104_5 := (HB.out.cell (World.block_lt_of_cell? w _ hx104_5)).trans hx104_5; replace hx104_6 := (HB.out.cell (World.block_lt_of_cell? w _ hx104_6)).trans hx104_6; replace p104 := eq_true p104; replace q104 := eq_true q104)))
                        go_roundg k1
                        case measure => have := HK1.out; omega
                        case rel => exact ⟨(wrap64 (x11_1 + 1)), eqs, H', ⟨hko⟩, ⟨bel⟩⟩
                      · rw [if_neg c12] at H
                        have c12b0 : (Op.bytesLess (((rd_T69 l0 (ji9)).f0).toList) (((rd_T69 l0 x11_1).f0).toList)) = false := by simpa using c12
                        clear c12
                        obtain rfl := Option.some.inj H
                        go_wp2_with ((go_at_call 84; (with_reducible refine (product_Check.calls k1 ((rd_T69 l0 x11_1).f0) ((rd_T69 l0 x11_1).f1) ((rd_T69 l0 x11_1).f2) ((rd_T69 l0 x11_1).f3) ((rd_T69 l0 x11_1).f4) ((rd_T69 l0 x11_1).f5) ((rd_T69 l0 x11_1).f6) t103 _ A6.out).mono ?_); rintro e w19 ⟨rfl, hb⟩; replace BK102 := Aside0.mk (blk_below (g := gb102) (o := .cells #[.string ((rd_T69 l0 x11_1).f0), .int .i64 ((rd_T69 l0 x11_1).f1), .int .i64 ((rd_T69 l0 x11_1).f2), .int .i64 ((rd_T69 l0 x11_1).f3), .int .i64 ((rd_T69 l0 x11_1).f4), .int .i64 ((rd_T69 l0 x11_1).f5), .bool ((rd_T69 l0 x11_1).f6)] 69 (0, 0)) (bs BK102.out) hb); replace HB := Aside0.mk (below_step bel hb); (try clear hb); (try clear hb2); (try clear hk); (try clear hi); obtain ⟨hcz20_0, hcz20_1, hcz20_2, hcz20_3, hcz20_4, hcz20_5, hcz20_6, hfz20_0, hfz20_1, hfz20_2, hfz20_3, hfz20_4, hfz20_5, hfz20_6⟩ := cz7 BK102.out; have p104 : 0 ≤ ((ji9) : Int) := dt; have q104 : (ji9) < (l0.length : Int) := dt; obtain ⟨ad104, e104, hx104_0, hx104_1, hx104_2, hx104_3, hx104_4, hx104_5, hx104_6⟩ := at_T69 HR0.out (ji9) p104 q104; obtain rfl : ad101 = ad104 := (by injection e104); replace hx104_0 := (HB.out.cell (World.block_lt_of_cell? w _ hx104_0)).trans hx104_0; replace hx104_1 := (HB.out.cell (World.block_lt_of_cell? w _ hx104_1)).trans hx104_1; replace hx104_2 := (HB.out.cell (World.block_lt_of_cell? w _ hx104_2)).trans hx104_2; replace hx104_3 := (HB.out.cell (World.block_lt_of_cell? w _ hx104_3)).trans hx104_3; replace hx104_4 := (HB.out.cell (World.block_lt_of_cell? w _ hx104_4)).trans hx104_4; replace hx104_5 := (HB.out.cell (World.block_lt_of_cell? w _ hx104_5)).trans hx104_5; replace hx104_6 := (HB.out.cell (World.block_lt_of_cell? w _ hx104_6)).trans hx104_6; replace p104 := eq_true p104; replace q104 := eq_true q104))
                        repeat (go_quiet (first | ((with_reducible refine gate_dst (N := 4) rfl ?_); refine box_event ?hg (N := 4) ?hd (cs := #[.string (⟨#[]⟩ : ByteArray), .int .i64 0, .int .i64 0, .int .i64 0, .int .i64 0, .int .i64 0, .bool false]) (t := 69) ?hr ?_; (case hd => rfl); (case hg => rfl); (case hr => first | (go_simp; done) | (go_simp; rfl)); intro gb102 hg w13 hbox hb; have BK102 := Aside0.mk (hbox); have GW102 := Aside0.mk ((gsz hg : w.heap.size ≤ gb102)); have GE102 := Aside0.mk ((gsz hg : w.heap.size ≤ gb102)); replace HB := Aside0.mk (below_step bel hb); clear hb hbox hg; obtain ⟨hcz14_0, hcz14_1, hcz14_2, hcz14_3, hcz14_4, hcz14_5, hcz14_6, hfz14_0, hfz14_1, hfz14_2, hfz14_3, hfz14_4, hfz14_5, hfz14_6⟩ := cz7 BK102.out) | (go_at_call 84; (with_reducible refine (product_Check.calls k1 ((rd_T69 l0 x11_1).f0) ((rd_T69 l0 x11_1).f1) ((rd_T69 l0 x11_1).f2) ((rd_T69 l0 x11_1).f3) ((rd_T69 l0 x11_1).f4) ((rd_T69 l0 x11_1).f5) ((rd_T69 l0 x11_1).f6) t103 _ A6.out).mono ?_); rintro e w19 ⟨rfl, hb⟩; replace BK102 := Aside0.mk (blk_below (g := gb102) (o := .cells #[.string ((rd_T69 l0 x11_1).f0), .int .i64 ((rd_T69 l0 x11_1).f1), .int .i64 ((rd_T69 l0 x11_1).f2), .int .i64 ((rd_T69 l0 x11_1).f3), .int .i64 ((rd_T69 l0 x11_1).f4), .int .i64 ((rd_T69 l0 x11_1).f5), .bool ((rd_T69 l0 x11_1).f6)] 69 (0, 0)) (bs BK102.out) hb); replace HB := Aside0.mk (below_step bel hb); (try clear hb); (try clear hb2); (try clear hk); (try clear hi); obtain ⟨hcz20_0, hcz20_1, hcz20_2, hcz20_3, hcz20_4, hcz20_5, hcz20_6, hfz20_0, hfz20_1, hfz20_2, hfz20_3, hfz20_4, hfz20_5, hfz20_6⟩ := cz7 BK102.out; have p104 : 0 ≤ ((ji9) : Int) := dt; have q104 : (ji9) < (l0.length : Int) := dt; obtain ⟨ad104, e104, hx104_0, hx104_1, hx104_2, hx104_3, hx104_4, hx104_5, hx104_6⟩ := at_T69 HR0.out (ji9) p104 q104; obtain rfl : ad101 = ad104 := (by injection e104); replace hx104_0 := (HB.out.cell (World.block_lt_of_cell? w _ hx104_0)).trans hx104_0; replace hx104_1 := (HB.out.cell (World.block_lt_of_cell? w _ hx104_1)).trans hx104_1; replace hx104_2 := (HB.out.cell (World.block_lt_of_cell? w _ hx104_2)).trans hx104_2; replace hx104_3 := (HB.out.cell (World.block_lt_of_cell? w _ hx104_3)).trans hx104_3; replace hx104_4 := (HB.out.cell (World.block_lt_of_cell? w _ hx104_4)).trans hx104_4; replace hx104_5 := (HB.out.cell (World.block_lt_of_cell? w _ hx104_5)).trans hx104_5; replace hx104_6 := (HB.out.cell (World.block_lt_of_cell? w _ hx104_6)).trans hx104_6; replace p104 := eq_true p104; replace q104 := eq_true q104)); try go_wp2_with (first | ((with_reducible refine gate_dst (N := 4) rfl ?_); refine box_event ?hg (N := 4) ?hd (cs := #[.string (⟨#[]⟩ : ByteArray), .int .i64 0, .int .i64 0, .int .i64 0, .int .i64 0, .int .i64 0, .bool false]) (t := 69) ?hr ?_; (case hd => rfl); (case hg => rfl); (case hr => first | (go_simp; done) | (go_simp; rfl)); intro gb102 hg w13 hbox hb; have BK102 := Aside0.mk (hbox); have GW102 := Aside0.mk ((gsz hg : w.heap.size ≤ gb102)); have GE102 := Aside0.mk ((gsz hg : w.heap.size ≤ gb102)); replace HB := Aside0.mk (below_step bel hb); clear hb hbox hg; obtain ⟨hcz14_0, hcz14_1, hcz14_2, hcz14_3, hcz14_4, hcz14_5, hcz14_6, hfz14_0, hfz14_1, hfz14_2, hfz14_3, hfz14_4, hfz14_5, hfz14_6⟩ := cz7 BK102.out) | (go_at_call 84; (with_reducible refine (product_Check.calls k1 ((rd_T69 l0 x11_1).f0) ((rd_T69 l0 x11_1).f1) ((rd_T69 l0 x11_1).f2) ((rd_T69 l0 x11_1).f3) ((rd_T69 l0 x11_1).f4) ((rd_T69 l0 x11_1).f5) ((rd_T69 l0 x11_1).f6) t103 _ A6.out).mono ?_); rintro e w19 ⟨rfl, hb⟩; replace BK102 := Aside0.mk (blk_below (g := gb102) (o := .cells #[.string ((rd_T69 l0 x11_1).f0), .int .i64 ((rd_T69 l0 x11_1).f1), .int .i64 ((rd_T69 l0 x11_1).f2), .int .i64 ((rd_T69 l0 x11_1).f3), .int .i64 ((rd_T69 l0 x11_1).f4), .int .i64 ((rd_T69 l0 x11_1).f5), .bool ((rd_T69 l0 x11_1).f6)] 69 (0, 0)) (bs BK102.out) hb); replace HB := Aside0.mk (below_step bel hb); (try clear hb); (try clear hb2); (try clear hk); (try clear hi); obtain ⟨hcz20_0, hcz20_1, hcz20_2, hcz20_3, hcz20_4, hcz20_5, hcz20_6, hfz20_0, hfz20_1, hfz20_2, hfz20_3, hfz20_4, hfz20_5, hfz20_6⟩ := cz7 BK102.out; have p104 : 0 ≤ ((ji9) : Int) := dt; have q104 : (ji9) < (l0.length : Int) := dt; obtain ⟨ad104, e104, hx104_0, hx104_1, hx104_2, hx104_3, hx104_4, hx104_5, hx104_6⟩ := at_T69 HR0.out (ji9) p104 q104; obtain rfl : ad101 = ad104 := (by injection e104); replace hx104_0 := (HB.out.cell (World.block_lt_of_cell? w _ hx104_0)).trans hx104_0; replace hx104_1 := (HB.out.cell (World.block_lt_of_cell? w _ hx104_1)).trans hx104_1; replace hx104_2 := (HB.out.cell (World.block_lt_of_cell? w _ hx104_2)).trans hx104_2; replace hx104_3 := (HB.out.cell (World.block_lt_of_cell? w _ hx104_3)).trans hx104_3; replace hx104_4 := (HB.out.cell (World.block_lt_of_cell? w _ hx104_4)).trans hx104_4; replace hx104_5 := (HB.out.cell (World.block_lt_of_cell? w _ hx104_5)).trans hx104_5; replace hx104_6 := (HB.out.cell (World.block_lt_of_cell? w _ hx104_6)).trans hx104_6; replace p104 := eq_true p104; replace q104 := eq_true q104)))
                        go_ret
                        exact ⟨by first | rfl | (simp [errW_none, errW_some] <;> rfl) | (simp only [← hji9]; first | rfl | (simp [errW_none, errW_some] <;> rfl)) | (simp [*, errW_none, errW_some] <;> rfl), bel⟩
                    · rw [if_neg c11] at H
                      exact absurd H (by simp)
                  · rw [if_neg c10] at H
                    exact absurd H (by simp)
                · rw [if_neg c8] at H
                  have c8b0 : decide (0 < x11_1) = false := decide_eq_false c8
                  clear c8
                  have H' := Aside0.mk H
                  clear H
                  have p101 : 0 ≤ (x11_1 : Int) := dt
                  have q101 : x11_1 < (l0.length : Int) := dt
                  obtain ⟨ad101, e101, hx101_0, hx101_1, hx101_2, hx101_3, hx101_4, hx101_5, hx101_6⟩ := at_T69 HR0.out x11_1 p101 q101
                  cases e101
                  replace hx101_0 := (HB.out.cell (World.block_lt_of_cell? w _ hx101_0)).trans hx101_0
                  replace hx101_1 := (HB.out.cell (World.block_lt_of_cell? w _ hx101_1)).trans hx101_1
                  replace hx101_2 := (HB.out.cell (World.block_lt_of_cell? w _ hx101_2)).trans hx101_2
                  replace hx101_3 := (HB.out.cell (World.block_lt_of_cell? w _ hx101_3)).trans hx101_3
                  replace hx101_4 := (HB.out.cell (World.block_lt_of_cell? w _ hx101_4)).trans hx101_4
                  replace hx101_5 := (HB.out.cell (World.block_lt_of_cell? w _ hx101_5)).trans hx101_5
                  replace hx101_6 := (HB.out.cell (World.block_lt_of_cell? w _ hx101_6)).trans hx101_6
                  replace p101 := eq_true p101
                  replace q101 := eq_true q101
                  go_wp2_with (first | ((with_reducible refine gate_dst (N := 4) rfl ?_); refine box_event ?hg (N := 4) ?hd (cs := #[.string (⟨#[]⟩ : ByteArray), .int .i64 0, .int .i64 0, .int .i64 0, .int .i64 0, .int .i64 0, .bool false]) (t := 69) ?hr ?_; (case hd => rfl); (case hg => rfl); (case hr => first | (go_simp; done) | (go_simp; rfl)); intro gb102 hg w21 hbox hb; have BK102 := Aside0.mk (hbox); have GW102 := Aside0.mk ((gsz hg : w.heap.size ≤ gb102)); have GE102 := Aside0.mk ((gsz hg : w.heap.size ≤ gb102)); replace HB := Aside0.mk (below_step bel hb); clear hb hbox hg; obtain ⟨hcz22_0, hcz22_1, hcz22_2, hcz22_3, hcz22_4, hcz22_5, hcz22_6, hfz22_0, hfz22_1, hfz22_2, hfz22_3, hfz22_4, hfz22_5, hfz22_6⟩ := cz7 BK102.out) | (go_at_call 84; (with_reducible refine (product_Check.calls k1 ((rd_T69 l0 x11_1).f0) ((rd_T69 l0 x11_1).f1) ((rd_T69 l0 x11_1).f2) ((rd_T69 l0 x11_1).f3) ((rd_T69 l0 x11_1).f4) ((rd_T69 l0 x11_1).f5) ((rd_T69 l0 x11_1).f6) t103 _ A6.out).mono ?_); rintro e w23 ⟨rfl, hb⟩; replace BK102 := Aside0.mk (blk_below (g := gb102) (o := .cells #[.string ((rd_T69 l0 x11_1).f0), .int .i64 ((rd_T69 l0 x11_1).f1), .int .i64 ((rd_T69 l0 x11_1).f2), .int .i64 ((rd_T69 l0 x11_1).f3), .int .i64 ((rd_T69 l0 x11_1).f4), .int .i64 ((rd_T69 l0 x11_1).f5), .bool ((rd_T69 l0 x11_1).f6)] 69 (0, 0)) (bs BK102.out) hb); replace HB := Aside0.mk (below_step bel hb); (try clear hb); (try clear hb2); (try clear hk); (try clear hi)))
                  repeat (go_quiet (first | ((with_reducible refine gate_dst (N := 4) rfl ?_); refine box_event ?hg (N := 4) ?hd (cs := #[.string (⟨#[]⟩ : ByteArray), .int .i64 0, .int .i64 0, .int .i64 0, .int .i64 0, .int .i64 0, .bool false]) (t := 69) ?hr ?_; (case hd => rfl); (case hg => rfl); (case hr => first | (go_simp; done) | (go_simp; rfl)); intro gb102 hg w21 hbox hb; have BK102 := Aside0.mk (hbox); have GW102 := Aside0.mk ((gsz hg : w.heap.size ≤ gb102)); have GE102 := Aside0.mk ((gsz hg : w.heap.size ≤ gb102)); replace HB := Aside0.mk (below_step bel hb); clear hb hbox hg; obtain ⟨hcz22_0, hcz22_1, hcz22_2, hcz22_3, hcz22_4, hcz22_5, hcz22_6, hfz22_0, hfz22_1, hfz22_2, hfz22_3, hfz22_4, hfz22_5, hfz22_6⟩ := cz7 BK102.out) | (go_at_call 84; (with_reducible refine (product_Check.calls k1 ((rd_T69 l0 x11_1).f0) ((rd_T69 l0 x11_1).f1) ((rd_T69 l0 x11_1).f2) ((rd_T69 l0 x11_1).f3) ((rd_T69 l0 x11_1).f4) ((rd_T69 l0 x11_1).f5) ((rd_T69 l0 x11_1).f6) t103 _ A6.out).mono ?_); rintro e w23 ⟨rfl, hb⟩; replace BK102 := Aside0.mk (blk_below (g := gb102) (o := .cells #[.string ((rd_T69 l0 x11_1).f0), .int .i64 ((rd_T69 l0 x11_1).f1), .int .i64 ((rd_T69 l0 x11_1).f2), .int .i64 ((rd_T69 l0 x11_1).f3), .int .i64 ((rd_T69 l0 x11_1).f4), .int .i64 ((rd_T69 l0 x11_1).f5), .bool ((rd_T69 l0 x11_1).f6)] 69 (0, 0)) (bs BK102.out) hb); replace HB := Aside0.mk (below_step bel hb); (try clear hb); (try clear hb2); (try clear hk); (try clear hi))); try go_wp2_with (first | ((with_reducible refine gate_dst (N := 4) rfl ?_); refine box_event ?hg (N := 4) ?hd (cs := #[.string (⟨#[]⟩ : ByteArray), .int .i64 0, .int .i64 0, .int .i64 0, .int .i64 0, .int .i64 0, .bool false]) (t := 69) ?hr ?_; (case hd => rfl); (case hg => rfl); (case hr => first | (go_simp; done) | (go_simp; rfl)); intro gb102 hg w21 hbox hb; have BK102 := Aside0.mk (hbox); have GW102 := Aside0.mk ((gsz hg : w.heap.size ≤ gb102)); have GE102 := Aside0.mk ((gsz hg : w.heap.size ≤ gb102)); replace HB := Aside0.mk (below_step bel hb); clear hb hbox hg; obtain ⟨hcz22_0, hcz22_1, hcz22_2, hcz22_3, hcz22_4, hcz22_5, hcz22_6, hfz22_0, hfz22_1, hfz22_2, hfz22_3, hfz22_4, hfz22_5, hfz22_6⟩ := cz7 BK102.out) | (go_at_call 84; (with_reducible refine (product_Check.calls k1 ((rd_T69 l0 x11_1).f0) ((rd_T69 l0 x11_1).f1) ((rd_T69 l0 x11_1).f2) ((rd_T69 l0 x11_1).f3) ((rd_T69 l0 x11_1).f4) ((rd_T69 l0 x11_1).f5) ((rd_T69 l0 x11_1).f6) t103 _ A6.out).mono ?_); rintro e w23 ⟨rfl, hb⟩; replace BK102 := Aside0.mk (blk_below (g := gb102) (o := .cells #[.string ((rd_T69 l0 x11_1).f0), .int .i64 ((rd_T69 l0 x11_1).f1), .int .i64 ((rd_T69 l0 x11_1).f2), .int .i64 ((rd_T69 l0 x11_1).f3), .int .i64 ((rd_T69 l0 x11_1).f4), .int .i64 ((rd_T69 l0 x11_1).f5), .bool ((rd_T69 l0 x11_1).f6)] 69 (0, 0)) (bs BK102.out) hb); replace HB := Aside0.mk (below_step bel hb); (try clear hb); (try clear hb2); (try clear hk); (try clear hi))))
                  go_roundg k1
                  case measure => have := HK1.out; omega
                  case rel => exact ⟨(wrap64 (x11_1 + 1)), eqs, H', ⟨hko⟩, ⟨bel⟩⟩
              · rw [if_neg c7] at H
                have c7b0 : (t103 == 0) = false := beq_eq_false_iff_ne.mpr c7
                have c7b1 : (t103 != 0) = true := bne_iff_ne.mpr c7
                obtain rfl := Option.some.inj H
                have p101 : 0 ≤ (x11_1 : Int) := dt
                have q101 : x11_1 < (l0.length : Int) := dt
                obtain ⟨ad101, e101, hx101_0, hx101_1, hx101_2, hx101_3, hx101_4, hx101_5, hx101_6⟩ := at_T69 HR0.out x11_1 p101 q101
                cases e101
                replace hx101_0 := (HB.out.cell (World.block_lt_of_cell? w _ hx101_0)).trans hx101_0
                replace hx101_1 := (HB.out.cell (World.block_lt_of_cell? w _ hx101_1)).trans hx101_1
                replace hx101_2 := (HB.out.cell (World.block_lt_of_cell? w _ hx101_2)).trans hx101_2
                replace hx101_3 := (HB.out.cell (World.block_lt_of_cell? w _ hx101_3)).trans hx101_3
                replace hx101_4 := (HB.out.cell (World.block_lt_of_cell? w _ hx101_4)).trans hx101_4
                replace hx101_5 := (HB.out.cell (World.block_lt_of_cell? w _ hx101_5)).trans hx101_5
                replace hx101_6 := (HB.out.cell (World.block_lt_of_cell? w _ hx101_6)).trans hx101_6
                replace p101 := eq_true p101
                replace q101 := eq_true q101
                go_wp2_with (first | ((with_reducible refine gate_dst (N := 4) rfl ?_); refine box_event ?hg (N := 4) ?hd (cs := #[.string (⟨#[]⟩ : ByteArray), .int .i64 0, .int .i64 0, .int .i64 0, .int .i64 0, .int .i64 0, .bool false]) (t := 69) ?hr ?_; (case hd => rfl); (case hg => rfl); (case hr => first | (go_simp; done) | (go_simp; rfl)); intro gb102 hg w24 hbox hb; have BK102 := Aside0.mk (hbox); have GW102 := Aside0.mk ((gsz hg : w.heap.size ≤ gb102)); have GE102 := Aside0.mk ((gsz hg : w.heap.size ≤ gb102)); replace HB := Aside0.mk (below_step bel hb); clear hb hbox hg; obtain ⟨hcz25_0, hcz25_1, hcz25_2, hcz25_3, hcz25_4, hcz25_5, hcz25_6, hfz25_0, hfz25_1, hfz25_2, hfz25_3, hfz25_4, hfz25_5, hfz25_6⟩ := cz7 BK102.out) | (go_at_call 84; (with_reducible refine (product_Check.calls k1 ((rd_T69 l0 x11_1).f0) ((rd_T69 l0 x11_1).f1) ((rd_T69 l0 x11_1).f2) ((rd_T69 l0 x11_1).f3) ((rd_T69 l0 x11_1).f4) ((rd_T69 l0 x11_1).f5) ((rd_T69 l0 x11_1).f6) t103 _ A6.out).mono ?_); rintro e w26 ⟨rfl, hb⟩; replace BK102 := Aside0.mk (blk_below (g := gb102) (o := .cells #[.string ((rd_T69 l0 x11_1).f0), .int .i64 ((rd_T69 l0 x11_1).f1), .int .i64 ((rd_T69 l0 x11_1).f2), .int .i64 ((rd_T69 l0 x11_1).f3), .int .i64 ((rd_T69 l0 x11_1).f4), .int .i64 ((rd_T69 l0 x11_1).f5), .bool ((rd_T69 l0 x11_1).f6)] 69 (0, 0)) (bs BK102.out) hb); replace HB := Aside0.mk (below_step bel hb); (try clear hb); (try clear hb2); (try clear hk); (try clear hi)))
                repeat (go_quiet (first | ((with_reducible refine gate_dst (N := 4) rfl ?_); refine box_event ?hg (N := 4) ?hd (cs := #[.string (⟨#[]⟩ : ByteArray), .int .i64 0, .int .i64 0, .int .i64 0, .int .i64 0, .int .i64 0, .bool false]) (t := 69) ?hr ?_; (case hd => rfl); (case hg => rfl); (case hr => first | (go_simp; done) | (go_simp; rfl)); intro gb102 hg w24 hbox hb; have BK102 := Aside0.mk (hbox); have GW102 := Aside0.mk ((gsz hg : w.heap.size ≤ gb102)); have GE102 := Aside0.mk ((gsz hg : w.heap.size ≤ gb102)); replace HB := Aside0.mk (below_step bel hb); clear hb hbox hg; obtain ⟨hcz25_0, hcz25_1, hcz25_2, hcz25_3, hcz25_4, hcz25_5, hcz25_6, hfz25_0, hfz25_1, hfz25_2, hfz25_3, hfz25_4, hfz25_5, hfz25_6⟩ := cz7 BK102.out) | (go_at_call 84; (with_reducible refine (product_Check.calls k1 ((rd_T69 l0 x11_1).f0) ((rd_T69 l0 x11_1).f1) ((rd_T69 l0 x11_1).f2) ((rd_T69 l0 x11_1).f3) ((rd_T69 l0 x11_1).f4) ((rd_T69 l0 x11_1).f5) ((rd_T69 l0 x11_1).f6) t103 _ A6.out).mono ?_); rintro e w26 ⟨rfl, hb⟩; replace BK102 := Aside0.mk (blk_below (g := gb102) (o := .cells #[.string ((rd_T69 l0 x11_1).f0), .int .i64 ((rd_T69 l0 x11_1).f1), .int .i64 ((rd_T69 l0 x11_1).f2), .int .i64 ((rd_T69 l0 x11_1).f3), .int .i64 ((rd_T69 l0 x11_1).f4), .int .i64 ((rd_T69 l0 x11_1).f5), .bool ((rd_T69 l0 x11_1).f6)] 69 (0, 0)) (bs BK102.out) hb); replace HB := Aside0.mk (below_step bel hb); (try clear hb); (try clear hb2); (try clear hk); (try clear hi))); try go_wp2_with (first | ((with_reducible refine gate_dst (N := 4) rfl ?_); refine box_event ?hg (N := 4) ?hd (cs := #[.string (⟨#[]⟩ : ByteArray), .int .i64 0, .int .i64 0, .int .i64 0, .int .i64 0, .int .i64 0, .bool false]) (t := 69) ?hr ?_; (case hd => rfl); (case hg => rfl); (case hr => first | (go_simp; done) | (go_simp; rfl)); intro gb102 hg w24 hbox hb; have BK102 := Aside0.mk (hbox); have GW102 := Aside0.mk ((gsz hg : w.heap.size ≤ gb102)); have GE102 := Aside0.mk ((gsz hg : w.heap.size ≤ gb102)); replace HB := Aside0.mk (below_step bel hb); clear hb hbox hg; obtain ⟨hcz25_0, hcz25_1, hcz25_2, hcz25_3, hcz25_4, hcz25_5, hcz25_6, hfz25_0, hfz25_1, hfz25_2, hfz25_3, hfz25_4, hfz25_5, hfz25_6⟩ := cz7 BK102.out) | (go_at_call 84; (with_reducible refine (product_Check.calls k1 ((rd_T69 l0 x11_1).f0) ((rd_T69 l0 x11_1).f1) ((rd_T69 l0 x11_1).f2) ((rd_T69 l0 x11_1).f3) ((rd_T69 l0 x11_1).f4) ((rd_T69 l0 x11_1).f5) ((rd_T69 l0 x11_1).f6) t103 _ A6.out).mono ?_); rintro e w26 ⟨rfl, hb⟩; replace BK102 := Aside0.mk (blk_below (g := gb102) (o := .cells #[.string ((rd_T69 l0 x11_1).f0), .int .i64 ((rd_T69 l0 x11_1).f1), .int .i64 ((rd_T69 l0 x11_1).f2), .int .i64 ((rd_T69 l0 x11_1).f3), .int .i64 ((rd_T69 l0 x11_1).f4), .int .i64 ((rd_T69 l0 x11_1).f5), .bool ((rd_T69 l0 x11_1).f6)] 69 (0, 0)) (bs BK102.out) hb); replace HB := Aside0.mk (below_step bel hb); (try clear hb); (try clear hb2); (try clear hk); (try clear hi))))
                go_ret
                exact ⟨ers, bel⟩
            · rw [if_neg c5] at H
              exact absurd H (by simp)
          · rw [if_neg c4] at H
            exact absurd H (by simp)
        · rw [if_neg c3] at H
          have c3b0 := decide_eq_false c3
          clear c3
          obtain rfl := Option.some.inj H
          go_wp2
          repeat (go_quiet (fail); try go_wp2)
          go_ret
          exact ⟨ers, bel⟩
mutual
def series_Check.j0 : Nat → Bool → ByteArray → Int → Int → Int → ByteArray → Int → Int → Int → Int → Int → Bool → Option (Int)
  | 0, _, _, _, _, _, _, _, _, _, _, _, _ => none
  | k + 1, x19, x102000, x102001, x102002, x102003, x112000, x112001, x112002, x112003, x112004, x112005, x112006 => if x19 = true then (some 19) else (if x102002 < 0 then (series_Check.j1 k true x102000 x102001 x102002 x102003 x112000 x112001 x112002 x112003 x112004 x112005 x112006) else (series_Check.j1 k (decide (x102002 > 73048)) x102000 x102001 x102002 x102003 x112000 x112001 x112002 x112003 x112004 x112005 x112006))
def series_Check.j1 : Nat → Bool → ByteArray → Int → Int → Int → ByteArray → Int → Int → Int → Int → Int → Bool → Option (Int)
  | 0, _, _, _, _, _, _, _, _, _, _, _, _ => none
  | k + 1, x32, x102000, x102001, x102002, x102003, x112000, x112001, x112002, x112003, x112004, x112005, x112006 => if x32 = true then (some 15) else (if x102001 = 1 then (series_Check.j2 k (x102003 != 0) x102000 x102001 x102002 x102003 x112000 x112001 x112002 x112003 x112004 x112005 x112006) else (series_Check.j2 k false x102000 x102001 x102002 x102003 x112000 x112001 x112002 x112003 x112004 x112005 x112006))
def series_Check.j2 : Nat → Bool → ByteArray → Int → Int → Int → ByteArray → Int → Int → Int → Int → Int → Bool → Option (Int)
  | 0, _, _, _, _, _, _, _, _, _, _, _, _ => none
  | k + 1, x41, x102000, x102001, x102002, x102003, x112000, x112001, x112002, x112003, x112004, x112005, x112006 => if x41 = true then (some 17) else (if x102001 = 1 then (some 0) else ((product_Price.f k x112000 x112001 x112002 x112003 x112004 x112005 x112006 x102003).bind fun t112 => (if t112 = 0 then (some 0) else (some 17))))
end
def series_Check.f (k : Nat) (l0 : List (S69)) (a1_0 : ByteArray) (a1_1 : Int) (a1_2 : Int) (a1_3 : Int) : Option (Int) := (product_CheckAll.f k l0).bind fun t102 => (if t102 = 0 then ((product_Find.f l0 a1_0).bind fun bt103 => (if bt103.2.2.2.2.2.2.2 = true then (if a1_1 < 1 then (series_Check.j0 k true a1_0 a1_1 a1_2 a1_3 bt103.1 bt103.2.1 bt103.2.2.1 bt103.2.2.2.1 bt103.2.2.2.2.1 bt103.2.2.2.2.2.1 bt103.2.2.2.2.2.2.1) else (series_Check.j0 k (decide (a1_1 > 3)) a1_0 a1_1 a1_2 a1_3 bt103.1 bt103.2.1 bt103.2.2.1 bt103.2.2.2.1 bt103.2.2.2.2.1 bt103.2.2.2.2.2.1 bt103.2.2.2.2.2.2.1)) else (series_Check.j0 k true a1_0 a1_1 a1_2 a1_3 bt103.1 bt103.2.1 bt103.2.2.1 bt103.2.2.2.1 bt103.2.2.2.2.1 bt103.2.2.2.2.2.1 bt103.2.2.2.2.2.2.1))) else (some t102))
set_option maxHeartbeats 8000000 in
set_option maxRecDepth 100000 in
theorem series_Check.calls (k : Nat) (A0 : Option Addr) (c0 : Nat) (l0 : List (S69)) (a1_0 : ByteArray) (a1_1 : Int) (a1_2 : Int) (a1_3 : Int) (r : Int) (w : World) (hr0 : Kd.C k69 w A0 l0.length l0) (hc0 : l0.length ≤ c0) (h : series_Check.f k l0 a1_0 a1_1 a1_2 a1_3 = some r) :
    Calls Tryz.prog 31 #[.slice A0 l0.length c0, .agg #[.string a1_0, .int .i64 a1_1, .int .i64 a1_2, .int .i64 a1_3]] w fun e w' => e = .returned (.int .i64 r) ∧ Below w.heap.size w w' := by
  have hu23 := Tryz.underlying23
  have hu69 := Tryz.underlying69
  have HR0 := Aside0.mk hr0
  have HC0 := Aside0.mk hc0
  clear hr0 hc0
  have HB := Aside0.mk (Below.refl w.heap.size w)
  have H : ((product_CheckAll.f k l0).bind fun t102 => (if t102 = 0 then ((product_Find.f l0 a1_0).bind fun bt103 => (if bt103.2.2.2.2.2.2.2 = true then (if a1_1 < 1 then (series_Check.j0 k true a1_0 a1_1 a1_2 a1_3 bt103.1 bt103.2.1 bt103.2.2.1 bt103.2.2.2.1 bt103.2.2.2.2.1 bt103.2.2.2.2.2.1 bt103.2.2.2.2.2.2.1) else (series_Check.j0 k (decide (a1_1 > 3)) a1_0 a1_1 a1_2 a1_3 bt103.1 bt103.2.1 bt103.2.2.1 bt103.2.2.2.1 bt103.2.2.2.2.1 bt103.2.2.2.2.2.1 bt103.2.2.2.2.2.2.1)) else (series_Check.j0 k true a1_0 a1_1 a1_2 a1_3 bt103.1 bt103.2.1 bt103.2.2.1 bt103.2.2.2.1 bt103.2.2.2.2.1 bt103.2.2.2.2.2.1 bt103.2.2.2.2.2.2.1))) else (some t102))) = some r := h
  clear h
  replace H := bnd H
  obtain ⟨t102, A30, H⟩ := H
  have A3 := Aside0.mk A30
  clear A30
  by_cases c4 : t102 = 0
  · rw [if_pos c4] at H
    have c4b0 : (t102 == 0) = true := beq_iff_eq.mpr c4
    have c4b1 : (t102 != 0) = false := bne_eq_false_iff_eq.mpr c4
    clear c4
    replace H := bnd H
    obtain ⟨⟨t103, t104, t105, t106, t107, t108, t109, t110⟩, A50, H⟩ := H
    replace H : (if t110 = true then (if a1_1 < 1 then (series_Check.j0 k true a1_0 a1_1 a1_2 a1_3 t103 t104 t105 t106 t107 t108 t109) else (series_Check.j0 k (decide (a1_1 > 3)) a1_0 a1_1 a1_2 a1_3 t103 t104 t105 t106 t107 t108 t109)) else (series_Check.j0 k true a1_0 a1_1 a1_2 a1_3 t103 t104 t105 t106 t107 t108 t109)) = some r := H
    have A5 := Aside0.mk A50
    clear A50
    have HC6 := Aside0.mk H
    clear H
    go_enter Tryz.func31, Tryz.ntmps31
    go_upto_region 5 with (first | ((with_reducible refine gate_dst (N := 3) rfl ?_); refine box_event ?hg (N := 3) ?hd (cs := #[.string a1_0, .int .i64 a1_1, .int .i64 a1_2, .int .i64 a1_3]) (t := 23) ?hr ?_; (case hd => rfl); (case hg => rfl); (case hr => first | (go_simp; done) | (go_simp; rfl)); intro gb101 hg w7 hbox hb; have BK101 := Aside0.mk (hbox); have GW101 := Aside0.mk ((gsz hg : w.heap.size ≤ gb101)); have GE101 := Aside0.mk ((gsz hg : w.heap.size ≤ gb101)); replace HB := Aside0.mk (below_step bel hb); clear hb hbox hg) | ((with_reducible refine gate_callee (f := 81) rfl ?_); refine goesL_ (some 8) rfl rfl Tryz.func81 (by kernel_rfl) rfl #[.slice A0 l0.length c0] rfl arg ?_; (with_reducible refine (product_CheckAll.calls k _ _ l0 t102 _ ?side1 ?side2 A3.out).mono ?_); (case side1 => repeat (first | exact (Kd.C_below HR0.out HB.out) | (with_reducible refine Kd.C_alloc ?_ _) | (with_reducible refine Kd.C_drewN ?_ _) | (with_reducible refine Kd.C_drew ?_))); (case side2 => exact HC0.out); rintro e w8 ⟨rfl, hb⟩; refine ⟨_, rfl, ?_⟩; replace BK101 := Aside0.mk (blk_below (g := gb101) (bw BK101.out) hb); replace HB := Aside0.mk (below_step bel hb); (try clear hb); (try clear hb2); (try clear hk); (try clear hi); obtain ⟨hcz9_0, hcz9_1, hcz9_2, hcz9_3, hfz9_0, hfz9_1, hfz9_2, hfz9_3⟩ := cz4 BK101.out) | ((with_reducible refine gate_callee (f := 33) rfl ?_); refine goesL_ (some 16) rfl rfl Tryz.func33 (by kernel_rfl) rfl #[.slice A0 l0.length c0, .string a1_0] rfl arg ?_; (with_reducible refine (product_Find.calls _ _ l0 a1_0 t103 t104 t105 t106 t107 t108 t109 t110 _ ?side1 ?side2 A5.out).mono ?_); (case side1 => repeat (first | exact (Kd.C_below HR0.out HB.out) | (with_reducible refine Kd.C_alloc ?_ _) | (with_reducible refine Kd.C_drewN ?_ _) | (with_reducible refine Kd.C_drew ?_))); (case side2 => exact HC0.out); rintro e w10 ⟨rfl, hb⟩; refine ⟨_, rfl, ?_⟩; replace BK101 := Aside0.mk (blk_below (g := gb101) (bw BK101.out) hb); replace HB := Aside0.mk (below_step bel hb); (try clear hb); (try clear hb2); (try clear hk); (try clear hi)) | ((with_reducible refine gate_dst (N := 5) rfl ?_); refine box_event ?hg (N := 5) ?hd (cs := #[.string (⟨#[]⟩ : ByteArray), .int .i64 0, .int .i64 0, .int .i64 0, .int .i64 0, .int .i64 0, .bool false]) (t := 69) ?hr ?_; (case hd => rfl); (case hg => rfl); (case hr => first | (go_simp; done) | (go_simp; rfl)); intro gb111 hg w11 hbox hb; have BK111 := Aside0.mk (hbox); have GW111 := Aside0.mk ((gsz hg : w.heap.size ≤ gb111)); have GE111 := Aside0.mk ((gsz hg : w.heap.size ≤ gb111)); have NB101_111 := Aside0.mk ((nlt hg (bw BK101.out) : gb101 ≠ gb111)); have NB111_101 := Aside0.mk ((ngt hg (bw BK101.out) : gb111 ≠ gb101)); replace BK101 := Aside0.mk (blk_below (g := gb101) (bw BK101.out) hb); replace HB := Aside0.mk (below_step bel hb); clear hb hbox hg; have hnb12 := NB111_101.out; have hnc12 := NB101_111.out; obtain ⟨hcz13_0, hcz13_1, hcz13_2, hcz13_3, hcz13_4, hcz13_5, hcz13_6, hfz13_0, hfz13_1, hfz13_2, hfz13_3, hfz13_4, hfz13_5, hfz13_6⟩ := cz7 BK111.out))
    (try simp only [Act.put, List.setIfInBounds_toArray, List.set_cons_zero, List.set_cons_succ])
    go_cut [19] (fun v19 wc => ∃ (kq : Nat) (x19_5 : Bool), v19 = .bool x19_5 ∧ Aside0 (series_Check.j0 kq x19_5 a1_0 a1_1 a1_2 a1_3 t103 t104 t105 t106 t107 t108 t109 = some r) ∧ Aside0 (kq ≤ k) ∧ Aside0 (wc.heap[gb101]? = some (.cells #[.string a1_0, .int .i64 a1_1, .int .i64 a1_2, .int .i64 a1_3] 23 (0, 0))) ∧ Aside0 (wc.heap[gb111]? = some (.cells #[.string t103, .int .i64 t104, .int .i64 t105, .int .i64 t106, .int .i64 t107, .int .i64 t108, .bool t109] 69 (0, 0))) ∧ Aside0 (Below w.heap.size w wc))
    case first =>
      have H := HC6.out
      clear HC6
      by_cases c14 : t110 = true
      · subst c14
        rw [if_pos rfl] at H
        by_cases c15 : a1_1 < 1
        · rw [if_pos c15] at H
          have c15b0 := decide_eq_true c15
          clear c15
          (first | rw [c15b0] | (simp only [i64_w, i32_w]; rw [c15b0]) | skip)
          have H' := Aside0.mk H
          clear H
          have hnb16 := NB101_111.out
          have hnc16 := NB111_101.out
          obtain ⟨hcz17_0, hcz17_1, hcz17_2, hcz17_3, hfz17_0, hfz17_1, hfz17_2, hfz17_3⟩ := cz4 BK101.out
          go_wp2
          go_meet
          case rel => exact ⟨_, (true), eqs, H', ⟨by first | omega | exact Nat.le_refl _⟩, ⟨bs BK101.out⟩, ⟨bs BK111.out⟩, ⟨bel⟩⟩
        · rw [if_neg c15] at H
          have c15b0 := decide_eq_false c15
          clear c15
          (first | rw [c15b0] | (simp only [i64_w, i32_w]; rw [c15b0]) | skip)
          have H' := Aside0.mk H
          clear H
          have hnb18 := NB101_111.out
          have hnc18 := NB111_101.out
          obtain ⟨hcz19_0, hcz19_1, hcz19_2, hcz19_3, hfz19_0, hfz19_1, hfz19_2, hfz19_3⟩ := cz4 BK101.out
          go_wp2
          go_meet
          case rel => exact ⟨_, (decide (a1_1 > 3)), eqs, H', ⟨by first | omega | exact Nat.le_refl _⟩, ⟨bs BK101.out⟩, ⟨bs BK111.out⟩, ⟨bel⟩⟩
      · replace c14 := Bool.eq_false_iff.mpr c14
        subst c14
        rw [if_neg (show ¬ (false = true) by decide)] at H
        have H' := Aside0.mk H
        clear H
        go_wp2
        go_meet
        case rel => exact ⟨_, (true), eqs, H', ⟨by first | omega | exact Nat.le_refl _⟩, ⟨bs BK101.out⟩, ⟨bs BK111.out⟩, ⟨bel⟩⟩
    case rest =>
      clear HC6
      try clear c1
      try clear p2
      try clear c3
      try clear c4
      try clear c4b0
      try clear c4b1
      try clear c8
      try clear c12
      try clear c14
      try clear c15
      try clear c15b0
      try clear c16
      try clear c18
      try clear hcz13_0 hcz13_1 hcz13_2 hcz13_3 hcz13_4 hcz13_5 hcz13_6
      try clear hcz17_0 hcz17_1 hcz17_2 hcz17_3
      try clear hcz19_0 hcz19_1 hcz19_2 hcz19_3
      try clear hcz9_0 hcz9_1 hcz9_2 hcz9_3
      try clear hfz13_0 hfz13_1 hfz13_2 hfz13_3 hfz13_4 hfz13_5 hfz13_6
      try clear hfz17_0 hfz17_1 hfz17_2 hfz17_3
      try clear hfz19_0 hfz19_1 hfz19_2 hfz19_3
      try clear hfz9_0 hfz9_1 hfz9_2 hfz9_3
      obtain ⟨kq, x19_5, rfl, HA, HJ5, BK101, BK111, HB⟩ := hcut
      cases kq with
      | zero => exact absurd HA.out (by simp [series_Check.j0])
      | succ kj5 =>
        have H := HA.out
        clear HA
        simp only [series_Check.j0] at H
        by_cases c20 : x19_5 = true
        · subst c20
          rw [if_pos rfl] at H
          obtain rfl := Option.some.inj H
          go_wp2
          go_ret
          exact ⟨ers, bel⟩
        · replace c20 := Bool.eq_false_iff.mpr c20
          subst c20
          rw [if_neg (show ¬ (false = true) by decide)] at H
          have HC21 := Aside0.mk H
          clear H
          go_upto_region 7 with (fail)
          go_cut [32] (fun v32 wc => ∃ (kq : Nat) (x32_20 : Bool), v32 = .bool x32_20 ∧ Aside0 (series_Check.j1 kq x32_20 a1_0 a1_1 a1_2 a1_3 t103 t104 t105 t106 t107 t108 t109 = some r) ∧ Aside0 (kq ≤ kj5) ∧ Aside0 (wc.heap[gb101]? = some (.cells #[.string a1_0, .int .i64 a1_1, .int .i64 a1_2, .int .i64 a1_3] 23 (0, 0))) ∧ Aside0 (wc.heap[gb111]? = some (.cells #[.string t103, .int .i64 t104, .int .i64 t105, .int .i64 t106, .int .i64 t107, .int .i64 t108, .bool t109] 69 (0, 0))) ∧ Aside0 (Below w.heap.size w wc))
          case first =>
            have H := HC21.out
            clear HC21
            by_cases c22 : a1_2 < 0
            · rw [if_pos c22] at H
              have c22b0 := decide_eq_true c22
              clear c22
              (first | rw [c22b0] | (simp only [i64_w, i32_w]; rw [c22b0]) | skip)
              have H' := Aside0.mk H
              clear H
              have hnb23 := NB101_111.out
              have hnc23 := NB111_101.out
              obtain ⟨hcz24_0, hcz24_1, hcz24_2, hcz24_3, hfz24_0, hfz24_1, hfz24_2, hfz24_3⟩ := cz4 BK101.out
              go_wp2
              go_meet
              case rel => exact ⟨_, (true), eqs, H', ⟨by have := HJ5.out; first | omega | exact Nat.le_refl _⟩, ⟨bw BK101.out⟩, ⟨bw BK111.out⟩, ⟨bel⟩⟩
            · rw [if_neg c22] at H
              have c22b0 := decide_eq_false c22
              clear c22
              (first | rw [c22b0] | (simp only [i64_w, i32_w]; rw [c22b0]) | skip)
              have H' := Aside0.mk H
              clear H
              have hnb25 := NB101_111.out
              have hnc25 := NB111_101.out
              obtain ⟨hcz26_0, hcz26_1, hcz26_2, hcz26_3, hfz26_0, hfz26_1, hfz26_2, hfz26_3⟩ := cz4 BK101.out
              go_wp2
              go_meet
              case rel => exact ⟨_, (decide (a1_2 > 73048)), eqs, H', ⟨by have := HJ5.out; first | omega | exact Nat.le_refl _⟩, ⟨bw BK101.out⟩, ⟨bw BK111.out⟩, ⟨bel⟩⟩
          case rest =>
            clear HC21
            try clear c1
            try clear c2
            try clear p2
            try clear c3
            try clear c4
            try clear c4b0
            try clear c4b1
            try clear c8
            try clear c12
            try clear c14
            try clear c15
            try clear c15b0
            try clear c16
            try clear c18
            try clear c20
            try clear c22
            try clear c22b0
            try clear c23
            try clear c25
            try clear hcz13_0 hcz13_1 hcz13_2 hcz13_3 hcz13_4 hcz13_5 hcz13_6
            try clear hcz17_0 hcz17_1 hcz17_2 hcz17_3
            try clear hcz19_0 hcz19_1 hcz19_2 hcz19_3
            try clear hcz24_0 hcz24_1 hcz24_2 hcz24_3
            try clear hcz26_0 hcz26_1 hcz26_2 hcz26_3
            try clear hcz9_0 hcz9_1 hcz9_2 hcz9_3
            try clear hfz13_0 hfz13_1 hfz13_2 hfz13_3 hfz13_4 hfz13_5 hfz13_6
            try clear hfz17_0 hfz17_1 hfz17_2 hfz17_3
            try clear hfz19_0 hfz19_1 hfz19_2 hfz19_3
            try clear hfz24_0 hfz24_1 hfz24_2 hfz24_3
            try clear hfz26_0 hfz26_1 hfz26_2 hfz26_3
            try clear hfz9_0 hfz9_1 hfz9_2 hfz9_3
            try clear p2
            obtain ⟨kq, x32_20, rfl, HA, HJ20, BK101, BK111, HB⟩ := hcut
            cases kq with
            | zero => exact absurd HA.out (by simp [series_Check.j1])
            | succ kj20 =>
              have H := HA.out
              clear HA
              simp only [series_Check.j1] at H
              by_cases c27 : x32_20 = true
              · subst c27
                rw [if_pos rfl] at H
                obtain rfl := Option.some.inj H
                go_wp2
                go_ret
                exact ⟨ers, bel⟩
              · replace c27 := Bool.eq_false_iff.mpr c27
                subst c27
                rw [if_neg (show ¬ (false = true) by decide)] at H
                have HC28 := Aside0.mk H
                clear H
                go_upto_region 9 with (fail)
                go_cut [41] (fun v41 wc => ∃ (kq : Nat) (x41_27 : Bool), v41 = .bool x41_27 ∧ Aside0 (series_Check.j2 kq x41_27 a1_0 a1_1 a1_2 a1_3 t103 t104 t105 t106 t107 t108 t109 = some r) ∧ Aside0 (kq ≤ kj20) ∧ Aside0 (wc.heap[gb101]? = some (.cells #[.string a1_0, .int .i64 a1_1, .int .i64 a1_2, .int .i64 a1_3] 23 (0, 0))) ∧ Aside0 (wc.heap[gb111]? = some (.cells #[.string t103, .int .i64 t104, .int .i64 t105, .int .i64 t106, .int .i64 t107, .int .i64 t108, .bool t109] 69 (0, 0))) ∧ Aside0 (Below w.heap.size w wc))
                case first =>
                  have H := HC28.out
                  clear HC28
                  by_cases c29 : a1_1 = 1
                  · rw [if_pos c29] at H
                    have c29b0 : (a1_1 == 1) = true := beq_iff_eq.mpr c29
                    have c29b1 : (a1_1 != 1) = false := bne_eq_false_iff_eq.mpr c29
                    clear c29
                    (first | rw [c29b0] | (simp only [i64_w, i32_w]; rw [c29b0]) | skip)
                    have H' := Aside0.mk H
                    clear H
                    have hnb30 := NB101_111.out
                    have hnc30 := NB111_101.out
                    obtain ⟨hcz31_0, hcz31_1, hcz31_2, hcz31_3, hfz31_0, hfz31_1, hfz31_2, hfz31_3⟩ := cz4 BK101.out
                    go_wp2
                    go_meet
                    case rel => exact ⟨_, ((a1_3 != 0)), eqs, H', ⟨by have := HJ5.out; have := HJ20.out; first | omega | exact Nat.le_refl _⟩, ⟨bw BK101.out⟩, ⟨bw BK111.out⟩, ⟨bel⟩⟩
                  · rw [if_neg c29] at H
                    have c29b0 : (a1_1 == 1) = false := beq_eq_false_iff_ne.mpr c29
                    have c29b1 : (a1_1 != 1) = true := bne_iff_ne.mpr c29
                    (first | rw [c29b0] | (simp only [i64_w, i32_w]; rw [c29b0]) | skip)
                    have H' := Aside0.mk H
                    clear H
                    have hnb32 := NB101_111.out
                    have hnc32 := NB111_101.out
                    obtain ⟨hcz33_0, hcz33_1, hcz33_2, hcz33_3, hfz33_0, hfz33_1, hfz33_2, hfz33_3⟩ := cz4 BK101.out
                    go_wp2
                    go_meet
                    case rel => exact ⟨_, (false), eqs, H', ⟨by have := HJ5.out; have := HJ20.out; first | omega | exact Nat.le_refl _⟩, ⟨bw BK101.out⟩, ⟨bw BK111.out⟩, ⟨bel⟩⟩
                case rest =>
                  clear HC28
                  try clear c1
                  try clear c2
                  try clear p2
                  try clear c3
                  try clear c4
                  try clear c4b0
                  try clear c4b1
                  try clear c8
                  try clear c12
                  try clear c14
                  try clear c15
                  try clear c15b0
                  try clear c16
                  try clear c18
                  try clear c20
                  try clear c22
                  try clear c22b0
                  try clear c23
                  try clear c25
                  try clear c27
                  try clear c29
                  try clear c29b0
                  try clear c29b1
                  try clear c30
                  try clear c31
                  try clear c32
                  try clear c33
                  try clear hcz13_0 hcz13_1 hcz13_2 hcz13_3 hcz13_4 hcz13_5 hcz13_6
                  try clear hcz17_0 hcz17_1 hcz17_2 hcz17_3
                  try clear hcz19_0 hcz19_1 hcz19_2 hcz19_3
                  try clear hcz24_0 hcz24_1 hcz24_2 hcz24_3
                  try clear hcz26_0 hcz26_1 hcz26_2 hcz26_3
                  try clear hcz31_0 hcz31_1 hcz31_2 hcz31_3
                  try clear hcz33_0 hcz33_1 hcz33_2 hcz33_3
                  try clear hcz9_0 hcz9_1 hcz9_2 hcz9_3
                  try clear hfz13_0 hfz13_1 hfz13_2 hfz13_3 hfz13_4 hfz13_5 hfz13_6
                  try clear hfz17_0 hfz17_1 hfz17_2 hfz17_3
                  try clear hfz19_0 hfz19_1 hfz19_2 hfz19_3
                  try clear hfz24_0 hfz24_1 hfz24_2 hfz24_3
                  try clear hfz26_0 hfz26_1 hfz26_2 hfz26_3
                  try clear hfz31_0 hfz31_1 hfz31_2 hfz31_3
                  try clear hfz33_0 hfz33_1 hfz33_2 hfz33_3
                  try clear hfz9_0 hfz9_1 hfz9_2 hfz9_3
                  try clear p2
                  obtain ⟨kq, x41_27, rfl, HA, HJ27, BK101, BK111, HB⟩ := hcut
                  cases kq with
                  | zero => exact absurd HA.out (by simp [series_Check.j2])
                  | succ kj27 =>
                    have H := HA.out
                    clear HA
                    simp only [series_Check.j2] at H
                    by_cases c34 : x41_27 = true
                    · subst c34
                      rw [if_pos rfl] at H
                      obtain rfl := Option.some.inj H
                      go_wp2
                      go_ret
                      exact ⟨ers, bel⟩
                    · replace c34 := Bool.eq_false_iff.mpr c34
                      subst c34
                      rw [if_neg (show ¬ (false = true) by decide)] at H
                      by_cases c35 : a1_1 = 1
                      · rw [if_pos c35] at H
                        have c35b0 : (a1_1 == 1) = true := beq_iff_eq.mpr c35
                        have c35b1 : (a1_1 != 1) = false := bne_eq_false_iff_eq.mpr c35
                        clear c35
                        obtain rfl := Option.some.inj H
                        have hnb36 := NB101_111.out
                        have hnc36 := NB111_101.out
                        obtain ⟨hcz37_0, hcz37_1, hcz37_2, hcz37_3, hfz37_0, hfz37_1, hfz37_2, hfz37_3⟩ := cz4 BK101.out
                        go_wp2
                        go_ret
                        exact ⟨ers, bel⟩
                      · rw [if_neg c35] at H
                        have c35b0 : (a1_1 == 1) = false := beq_eq_false_iff_ne.mpr c35
                        have c35b1 : (a1_1 != 1) = true := bne_iff_ne.mpr c35
                        replace H := bnd H
                        obtain ⟨t112, A380, H⟩ := H
                        have A38 := Aside0.mk A380
                        clear A380
                        by_cases c39 : t112 = 0
                        · rw [if_pos c39] at H
                          have c39b0 : (t112 == 0) = true := beq_iff_eq.mpr c39
                          have c39b1 : (t112 != 0) = false := bne_eq_false_iff_eq.mpr c39
                          clear c39
                          obtain rfl := Option.some.inj H
                          have hnb40 := NB101_111.out
                          have hnc40 := NB111_101.out
                          obtain ⟨hcz41_0, hcz41_1, hcz41_2, hcz41_3, hfz41_0, hfz41_1, hfz41_2, hfz41_3⟩ := cz4 BK101.out
                          obtain ⟨hcz42_0, hcz42_1, hcz42_2, hcz42_3, hcz42_4, hcz42_5, hcz42_6, hfz42_0, hfz42_1, hfz42_2, hfz42_3, hfz42_4, hfz42_5, hfz42_6⟩ := cz7 BK111.out
                          go_wp2_with (first | (go_at_call 34; (with_reducible refine (product_Price.calls kj27 t103 t104 t105 t106 t107 t108 t109 a1_3 t112 _ A38.out).mono ?_); rintro e w43 ⟨rfl, hb⟩; replace BK101 := Aside0.mk (blk_below (g := gb101) (bw BK101.out) hb); replace BK111 := Aside0.mk (blk_below (g := gb111) (bw BK111.out) hb); replace HB := Aside0.mk (below_step bel hb); (try clear hb); (try clear hb2); (try clear hk); (try clear hi)))
                          go_ret
                          exact ⟨ers, bel⟩
                        · rw [if_neg c39] at H
                          have c39b0 : (t112 == 0) = false := beq_eq_false_iff_ne.mpr c39
                          have c39b1 : (t112 != 0) = true := bne_iff_ne.mpr c39
                          obtain rfl := Option.some.inj H
                          have hnb44 := NB101_111.out
                          have hnc44 := NB111_101.out
                          obtain ⟨hcz45_0, hcz45_1, hcz45_2, hcz45_3, hfz45_0, hfz45_1, hfz45_2, hfz45_3⟩ := cz4 BK101.out
                          obtain ⟨hcz46_0, hcz46_1, hcz46_2, hcz46_3, hcz46_4, hcz46_5, hcz46_6, hfz46_0, hfz46_1, hfz46_2, hfz46_3, hfz46_4, hfz46_5, hfz46_6⟩ := cz7 BK111.out
                          go_wp2_with (first | (go_at_call 34; (with_reducible refine (product_Price.calls kj27 t103 t104 t105 t106 t107 t108 t109 a1_3 t112 _ A38.out).mono ?_); rintro e w47 ⟨rfl, hb⟩; replace BK101 := Aside0.mk (blk_below (g := gb101) (bw BK101.out) hb); replace BK111 := Aside0.mk (blk_below (g := gb111) (bw BK111.out) hb); replace HB := Aside0.mk (below_step bel hb); (try clear hb); (try clear hb2); (try clear hk); (try clear hi)))
                          go_ret
                          exact ⟨ers, bel⟩
  · rw [if_neg c4] at H
    have c4b0 : (t102 == 0) = false := beq_eq_false_iff_ne.mpr c4
    have c4b1 : (t102 != 0) = true := bne_iff_ne.mpr c4
    obtain rfl := Option.some.inj H
    go_enter Tryz.func31, Tryz.ntmps31
    go_wp2_with (first | ((with_reducible refine gate_dst (N := 3) rfl ?_); refine box_event ?hg (N := 3) ?hd (cs := #[.string a1_0, .int .i64 a1_1, .int .i64 a1_2, .int .i64 a1_3]) (t := 23) ?hr ?_; (case hd => rfl); (case hg => rfl); (case hr => first | (go_simp; done) | (go_simp; rfl)); intro gb101 hg w48 hbox hb; have BK101 := Aside0.mk (hbox); have GW101 := Aside0.mk ((gsz hg : w.heap.size ≤ gb101)); have GE101 := Aside0.mk ((gsz hg : w.heap.size ≤ gb101)); replace HB := Aside0.mk (below_step bel hb); clear hb hbox hg) | ((with_reducible refine gate_callee (f := 81) rfl ?_); refine goesL_ (some 8) rfl rfl Tryz.func81 (by kernel_rfl) rfl #[.slice A0 l0.length c0] rfl arg ?_; (with_reducible refine (product_CheckAll.calls k _ _ l0 t102 _ ?side1 ?side2 A3.out).mono ?_); (case side1 => repeat (first | exact (Kd.C_below HR0.out HB.out) | (with_reducible refine Kd.C_alloc ?_ _) | (with_reducible refine Kd.C_drewN ?_ _) | (with_reducible refine Kd.C_drew ?_))); (case side2 => exact HC0.out); rintro e w49 ⟨rfl, hb⟩; refine ⟨_, rfl, ?_⟩; replace BK101 := Aside0.mk (blk_below (g := gb101) (bw BK101.out) hb); replace HB := Aside0.mk (below_step bel hb); (try clear hb); (try clear hb2); (try clear hk); (try clear hi)))
    go_ret
    exact ⟨ers, bel⟩
def series_Live.f (a0_0 : ByteArray) (a0_1 : Int) (a0_2 : Int) (a0_3 : Int) (a1 : Int) : Option (Bool) := some (decide (a0_2 ≥ a1))
set_option maxHeartbeats 8000000 in
set_option maxRecDepth 100000 in
theorem series_Live.calls (a0_0 : ByteArray) (a0_1 : Int) (a0_2 : Int) (a0_3 : Int) (a1 : Int) (r : Bool) (w : World) (h : series_Live.f a0_0 a0_1 a0_2 a0_3 a1 = some r) :
    Calls Tryz.prog 32 #[.agg #[.string a0_0, .int .i64 a0_1, .int .i64 a0_2, .int .i64 a0_3], .int .i64 a1] w fun e w' => e = .returned (.bool r) ∧ Below w.heap.size w w' := by
  have hu23 := Tryz.underlying23
  have HB := Aside0.mk (Below.refl w.heap.size w)
  have H : (some (decide (a0_2 ≥ a1))) = some r := h
  clear h
  obtain rfl := Option.some.inj H
  go_enter Tryz.func32, Tryz.ntmps32
  go_wp2_with (first | ((with_reducible refine gate_dst (N := 2) rfl ?_); refine box_event ?hg (N := 2) ?hd (cs := #[.string a0_0, .int .i64 a0_1, .int .i64 a0_2, .int .i64 a0_3]) (t := 23) ?hr ?_; (case hd => rfl); (case hg => rfl); (case hr => first | (go_simp; done) | (go_simp; rfl)); intro gb101 hg w3 hbox hb; have BK101 := Aside0.mk (hbox); have GW101 := Aside0.mk ((gsz hg : w.heap.size ≤ gb101)); have GE101 := Aside0.mk ((gsz hg : w.heap.size ≤ gb101)); replace HB := Aside0.mk (below_step bel hb); clear hb hbox hg; obtain ⟨hcz4_0, hcz4_1, hcz4_2, hcz4_3, hfz4_0, hfz4_1, hfz4_2, hfz4_3⟩ := cz4 BK101.out))
  go_ret
  exact ⟨ers, bel⟩
end Go.Proofs.YthpmmofleddpnaaGreatDoor.X
end
