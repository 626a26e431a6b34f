/- For WordsWrites: contracts, and facts on lists and numbers, that it uses (part 2). -/
import Derived.ChangeArms
import Derived.Deep.Slices
import Derived.Laws.BitsLemmas
import Derived.Laws.Strings
import Derived.Lib.Bytealg
import Derived.OpenShut
import Derived.SizedLaws
import Derived.Test.YtgaicbhbgephbaaDoorWordsWritesc1
import Derived.WideShapes
section
namespace Go.Proofs.YtgaicbhbgephbaaDoor.X
open Go.RowKit Go.Proofs.YtgaicbhbgephbaaDoorW.PrintWords Go.Proofs.YtgaicbhbgephbaaDoorW.PrintLast Go.Proofs.YtgaicbhbgephbaaDoorW.PrintMore
attribute [local go_sem] max2_int min2_int max_two min_two max_three min_three max_four min_four
set_option linter.unusedVariables false
set_option linter.unusedSimpArgs false
def contangoref03_Money.f (k : Nat) (a0 : Int) : Option (ByteArray) := if a0 < 0 then ((contangoref03_text.f k (wrap64 (Int.tdiv a0 100))).bind fun t101 => (if 1 + t101.size ≤ 9223372036854775807 then (if ((⟨#[45]⟩ : ByteArray) ++ t101).size + 1 ≤ 9223372036854775807 then ((contangoref03_text.f k (Int.tmod (wrap64 (Int.tdiv a0 10)) 10)).bind fun t102 => (if (((⟨#[45]⟩ : ByteArray) ++ t101) ++ (⟨#[46]⟩ : ByteArray)).size + t102.size ≤ 9223372036854775807 then ((contangoref03_text.f k (Int.tmod a0 10)).bind fun t103 => (if ((((⟨#[45]⟩ : ByteArray) ++ t101) ++ (⟨#[46]⟩ : ByteArray)) ++ t102).size + t103.size ≤ 9223372036854775807 then (some (((((⟨#[45]⟩ : ByteArray) ++ t101) ++ (⟨#[46]⟩ : ByteArray)) ++ t102) ++ t103)) else (none))) else (none))) else (none)) else (none))) else ((contangoref03_text.f k (wrap64 (Int.tdiv (wrap64 (-a0)) 100))).bind fun t104 => (if 0 + t104.size ≤ 9223372036854775807 then (if ((⟨#[]⟩ : ByteArray) ++ t104).size + 1 ≤ 9223372036854775807 then ((contangoref03_text.f k (Int.tmod (wrap64 (Int.tdiv (wrap64 (-a0)) 10)) 10)).bind fun t105 => (if (((⟨#[]⟩ : ByteArray) ++ t104) ++ (⟨#[46]⟩ : ByteArray)).size + t105.size ≤ 9223372036854775807 then ((contangoref03_text.f k (Int.tmod (wrap64 (-a0)) 10)).bind fun t106 => (if ((((⟨#[]⟩ : ByteArray) ++ t104) ++ (⟨#[46]⟩ : ByteArray)) ++ t105).size + t106.size ≤ 9223372036854775807 then (some (((((⟨#[]⟩ : ByteArray) ++ t104) ++ (⟨#[46]⟩ : ByteArray)) ++ t105) ++ t106)) else (none))) else (none))) else (none)) else (none)))
set_option maxHeartbeats 8000000 in
set_option maxRecDepth 100000 in
theorem contangoref03_Money.calls (k : Nat) (a0 : Int) (r : ByteArray) (w : World) (h : contangoref03_Money.f k a0 = some r) :
    Calls Tryd.prog 25 #[.int .i64 a0] w fun e w' => e = .returned (.string r) ∧ Below w.heap.size w w' := by
  have HB := Aside0.mk (Below.refl w.heap.size w)
  have H : (if a0 < 0 then ((contangoref03_text.f k (wrap64 (Int.tdiv a0 100))).bind fun t101 => (if 1 + t101.size ≤ 9223372036854775807 then (if ((⟨#[45]⟩ : ByteArray) ++ t101).size + 1 ≤ 9223372036854775807 then ((contangoref03_text.f k (Int.tmod (wrap64 (Int.tdiv a0 10)) 10)).bind fun t102 => (if (((⟨#[45]⟩ : ByteArray) ++ t101) ++ (⟨#[46]⟩ : ByteArray)).size + t102.size ≤ 9223372036854775807 then ((contangoref03_text.f k (Int.tmod a0 10)).bind fun t103 => (if ((((⟨#[45]⟩ : ByteArray) ++ t101) ++ (⟨#[46]⟩ : ByteArray)) ++ t102).size + t103.size ≤ 9223372036854775807 then (some (((((⟨#[45]⟩ : ByteArray) ++ t101) ++ (⟨#[46]⟩ : ByteArray)) ++ t102) ++ t103)) else (none))) else (none))) else (none)) else (none))) else ((contangoref03_text.f k (wrap64 (Int.tdiv (wrap64 (-a0)) 100))).bind fun t104 => (if 0 + t104.size ≤ 9223372036854775807 then (if ((⟨#[]⟩ : ByteArray) ++ t104).size + 1 ≤ 9223372036854775807 then ((contangoref03_text.f k (Int.tmod (wrap64 (Int.tdiv (wrap64 (-a0)) 10)) 10)).bind fun t105 => (if (((⟨#[]⟩ : ByteArray) ++ t104) ++ (⟨#[46]⟩ : ByteArray)).size + t105.size ≤ 9223372036854775807 then ((contangoref03_text.f k (Int.tmod (wrap64 (-a0)) 10)).bind fun t106 => (if ((((⟨#[]⟩ : ByteArray) ++ t104) ++ (⟨#[46]⟩ : ByteArray)) ++ t105).size + t106.size ≤ 9223372036854775807 then (some (((((⟨#[]⟩ : ByteArray) ++ t104) ++ (⟨#[46]⟩ : ByteArray)) ++ t105) ++ t106)) else (none))) else (none))) else (none)) else (none)))) = some r := h
  clear h
  by_cases c2 : a0 < 0
  · rw [if_pos c2] at H
    have c2b0 : decide (a0 < 0) = true := decide_eq_true c2
    clear c2
    replace H := Option.bind_eq_some_iff.mp H
    obtain ⟨t101, A30, H⟩ := H
    replace H : (if 1 + t101.size ≤ 9223372036854775807 then (if ((⟨#[45]⟩ : ByteArray) ++ t101).size + 1 ≤ 9223372036854775807 then ((contangoref03_text.f k (Int.tmod (wrap64 (Int.tdiv a0 10)) 10)).bind fun t102 => (if (((⟨#[45]⟩ : ByteArray) ++ t101) ++ (⟨#[46]⟩ : ByteArray)).size + t102.size ≤ 9223372036854775807 then ((contangoref03_text.f k (Int.tmod a0 10)).bind fun t103 => (if ((((⟨#[45]⟩ : ByteArray) ++ t101) ++ (⟨#[46]⟩ : ByteArray)) ++ t102).size + t103.size ≤ 9223372036854775807 then (some (((((⟨#[45]⟩ : ByteArray) ++ t101) ++ (⟨#[46]⟩ : ByteArray)) ++ t102) ++ t103)) else (none))) else (none))) else (none)) else (none)) = some r := H
    have A3 := Aside0.mk A30
    clear A30
    by_cases c4 : 1 + t101.size ≤ 9223372036854775807
    · rw [if_pos c4] at H
      have c4b0 := eq_true c4
      have c4b1 : decide (1 + t101.size ≤ 9223372036854775807) = true := decide_eq_true c4
      try have c4b2 : (9223372036854775807 < 1 + t101.size) = False := eq_false (Nat.not_lt.2 c4)
      try (have c4b3 := c4; simp only [ByteArray.size_append, ByteArray.size_extract, Nat.min_self, Nat.zero_add] at c4b3; replace c4b3 := eq_false (Nat.not_lt.2 c4b3))
      by_cases c5 : ((⟨#[45]⟩ : ByteArray) ++ t101).size + 1 ≤ 9223372036854775807
      · rw [if_pos c5] at H
        have c5b0 := eq_true c5
        have c5b1 : decide (((⟨#[45]⟩ : ByteArray) ++ t101).size + 1 ≤ 9223372036854775807) = true := decide_eq_true c5
        try have c5b2 : (9223372036854775807 < ((⟨#[45]⟩ : ByteArray) ++ t101).size + 1) = False := eq_false (Nat.not_lt.2 c5)
        try (have c5b3 := c5; simp only [ByteArray.size_append, ByteArray.size_extract, Nat.min_self, Nat.zero_add, show (⟨#[45]⟩ : ByteArray).size = 1 from rfl] at c5b3; replace c5b3 := eq_false (Nat.not_lt.2 c5b3))
        replace H := Option.bind_eq_some_iff.mp H
        obtain ⟨t102, A60, H⟩ := H
        replace H : (if (((⟨#[45]⟩ : ByteArray) ++ t101) ++ (⟨#[46]⟩ : ByteArray)).size + t102.size ≤ 9223372036854775807 then ((contangoref03_text.f k (Int.tmod a0 10)).bind fun t103 => (if ((((⟨#[45]⟩ : ByteArray) ++ t101) ++ (⟨#[46]⟩ : ByteArray)) ++ t102).size + t103.size ≤ 9223372036854775807 then (some (((((⟨#[45]⟩ : ByteArray) ++ t101) ++ (⟨#[46]⟩ : ByteArray)) ++ t102) ++ t103)) else (none))) else (none)) = some r := H
        have A6 := Aside0.mk A60
        clear A60
        by_cases c7 : (((⟨#[45]⟩ : ByteArray) ++ t101) ++ (⟨#[46]⟩ : ByteArray)).size + t102.size ≤ 9223372036854775807
        · rw [if_pos c7] at H
          have c7b0 := eq_true c7
          have c7b1 : decide ((((⟨#[45]⟩ : ByteArray) ++ t101) ++ (⟨#[46]⟩ : ByteArray)).size + t102.size ≤ 9223372036854775807) = true := decide_eq_true c7
          try have c7b2 : (9223372036854775807 < (((⟨#[45]⟩ : ByteArray) ++ t101) ++ (⟨#[46]⟩ : ByteArray)).size + t102.size) = False := eq_false (Nat.not_lt.2 c7)
          try (have c7b3 := c7; simp only [ByteArray.size_append, ByteArray.size_extract, Nat.min_self, Nat.zero_add, show (⟨#[45]⟩ : ByteArray).size = 1 from rfl, show (⟨#[46]⟩ : ByteArray).size = 1 from rfl] at c7b3; replace c7b3 := eq_false (Nat.not_lt.2 c7b3))
          replace H := Option.bind_eq_some_iff.mp H
          obtain ⟨t103, A80, H⟩ := H
          replace H : (if ((((⟨#[45]⟩ : ByteArray) ++ t101) ++ (⟨#[46]⟩ : ByteArray)) ++ t102).size + t103.size ≤ 9223372036854775807 then (some (((((⟨#[45]⟩ : ByteArray) ++ t101) ++ (⟨#[46]⟩ : ByteArray)) ++ t102) ++ t103)) else (none)) = some r := H
          have A8 := Aside0.mk A80
          clear A80
          by_cases c9 : ((((⟨#[45]⟩ : ByteArray) ++ t101) ++ (⟨#[46]⟩ : ByteArray)) ++ t102).size + t103.size ≤ 9223372036854775807
          · rw [if_pos c9] at H
            have c9b0 := eq_true c9
            have c9b1 : decide (((((⟨#[45]⟩ : ByteArray) ++ t101) ++ (⟨#[46]⟩ : ByteArray)) ++ t102).size + t103.size ≤ 9223372036854775807) = true := decide_eq_true c9
            try have c9b2 : (9223372036854775807 < ((((⟨#[45]⟩ : ByteArray) ++ t101) ++ (⟨#[46]⟩ : ByteArray)) ++ t102).size + t103.size) = False := eq_false (Nat.not_lt.2 c9)
            try (have c9b3 := c9; simp only [ByteArray.size_append, ByteArray.size_extract, Nat.min_self, Nat.zero_add, show (⟨#[45]⟩ : ByteArray).size = 1 from rfl, show (⟨#[46]⟩ : ByteArray).size = 1 from rfl] at c9b3; replace c9b3 := eq_false (Nat.not_lt.2 c9b3))
            obtain rfl := Option.some.inj H
            go_enter Tryd.func25, Tryd.ntmps25
            go_wp2_with (first | ((with_reducible refine gate_callee (f := 40) rfl ?_); refine goesL_ (some 11) rfl rfl Tryd.func40 (by kernel_rfl) rfl #[.int .i64 (wrap64 (Int.tdiv a0 100))] rfl (by (try simp only [List.map_toArray, List.map_cons, List.map_nil]); first | done | rfl | (simp only [List.length_drop, List.length_take]; rfl)) ?_; (with_reducible refine (contangoref03_text.calls k (wrap64 (Int.tdiv a0 100)) t101 _ A3.out).mono ?_); rintro e w10 ⟨rfl, hb⟩; refine ⟨_, rfl, ?_⟩; have n0_ := Aside0.mk (below_step (by repeat (first | (with_reducible first | exact HB.out | apply below_alloc | apply pw_below_drewN | apply below_drew1) | exact HB.out)) hb); clear HB; have HB := n0_; clear n0_; (try clear hb); (try clear hb2); (try clear hk); (try clear hi)) | ((with_reducible refine gate_callee (f := 40) rfl ?_); refine goesL_ (some 17) rfl rfl Tryd.func40 (by kernel_rfl) rfl #[.int .i64 (Int.tmod (wrap64 (Int.tdiv a0 10)) 10)] rfl (by (try simp only [List.map_toArray, List.map_cons, List.map_nil]); first | done | rfl | (simp only [List.length_drop, List.length_take]; rfl)) ?_; (with_reducible refine (contangoref03_text.calls k (Int.tmod (wrap64 (Int.tdiv a0 10)) 10) t102 _ A6.out).mono ?_); rintro e w11 ⟨rfl, hb⟩; refine ⟨_, rfl, ?_⟩; have n0_ := Aside0.mk (below_step (by repeat (first | (with_reducible first | exact HB.out | apply below_alloc | apply pw_below_drewN | apply below_drew1) | exact HB.out)) hb); clear HB; have HB := n0_; clear n0_; (try clear hb); (try clear hb2); (try clear hk); (try clear hi)) | ((with_reducible refine gate_callee (f := 40) rfl ?_); refine goesL_ (some 21) rfl rfl Tryd.func40 (by kernel_rfl) rfl #[.int .i64 (Int.tmod a0 10)] rfl (by (try simp only [List.map_toArray, List.map_cons, List.map_nil]); first | done | rfl | (simp only [List.length_drop, List.length_take]; rfl)) ?_; (with_reducible refine (contangoref03_text.calls k (Int.tmod a0 10) t103 _ A8.out).mono ?_); rintro e w12 ⟨rfl, hb⟩; refine ⟨_, rfl, ?_⟩; have n0_ := Aside0.mk (below_step (by repeat (first | (with_reducible first | exact HB.out | apply below_alloc | apply pw_below_drewN | apply below_drew1) | exact HB.out)) hb); clear HB; have HB := n0_; clear n0_; (try clear hb); (try clear hb2); (try clear hk); (try clear hi)))
            go_ret
            exact ⟨by first | rfl | (simp [errW_none, errW_some] <;> rfl) | (simp [*, errW_none, errW_some] <;> rfl), by repeat (first | (with_reducible first | exact HB.out | apply below_alloc | apply pw_below_drewN | apply below_drew1) | exact HB.out)⟩
          · rw [if_neg c9] at H
            exact absurd H (by simp)
        · rw [if_neg c7] at H
          exact absurd H (by simp)
      · rw [if_neg c5] at H
        exact absurd H (by simp)
    · rw [if_neg c4] at H
      exact absurd H (by simp)
  · rw [if_neg c2] at H
    have c2b0 : decide (a0 < 0) = false := decide_eq_false c2
    clear c2
    replace H := Option.bind_eq_some_iff.mp H
    obtain ⟨t104, A130, H⟩ := H
    replace H : (if 0 + t104.size ≤ 9223372036854775807 then (if ((⟨#[]⟩ : ByteArray) ++ t104).size + 1 ≤ 9223372036854775807 then ((contangoref03_text.f k (Int.tmod (wrap64 (Int.tdiv (wrap64 (-a0)) 10)) 10)).bind fun t105 => (if (((⟨#[]⟩ : ByteArray) ++ t104) ++ (⟨#[46]⟩ : ByteArray)).size + t105.size ≤ 9223372036854775807 then ((contangoref03_text.f k (Int.tmod (wrap64 (-a0)) 10)).bind fun t106 => (if ((((⟨#[]⟩ : ByteArray) ++ t104) ++ (⟨#[46]⟩ : ByteArray)) ++ t105).size + t106.size ≤ 9223372036854775807 then (some (((((⟨#[]⟩ : ByteArray) ++ t104) ++ (⟨#[46]⟩ : ByteArray)) ++ t105) ++ t106)) else (none))) else (none))) else (none)) else (none)) = some r := H
    have A13 := Aside0.mk A130
    clear A130
    by_cases c14 : 0 + t104.size ≤ 9223372036854775807
    · rw [if_pos c14] at H
      have c14b0 := eq_true c14
      have c14b1 : decide (0 + t104.size ≤ 9223372036854775807) = true := decide_eq_true c14
      try have c14b2 : (9223372036854775807 < 0 + t104.size) = False := eq_false (Nat.not_lt.2 c14)
      try (have c14b3 := c14; simp only [ByteArray.size_append, ByteArray.size_extract, Nat.min_self, Nat.zero_add] at c14b3; replace c14b3 := eq_false (Nat.not_lt.2 c14b3))
      by_cases c15 : ((⟨#[]⟩ : ByteArray) ++ t104).size + 1 ≤ 9223372036854775807
      · rw [if_pos c15] at H
        have c15b0 := eq_true c15
        have c15b1 : decide (((⟨#[]⟩ : ByteArray) ++ t104).size + 1 ≤ 9223372036854775807) = true := decide_eq_true c15
        try have c15b2 : (9223372036854775807 < ((⟨#[]⟩ : ByteArray) ++ t104).size + 1) = False := eq_false (Nat.not_lt.2 c15)
        try (have c15b3 := c15; simp only [ByteArray.size_append, ByteArray.size_extract, Nat.min_self, Nat.zero_add, show (⟨#[]⟩ : ByteArray).size = 0 from rfl] at c15b3; replace c15b3 := eq_false (Nat.not_lt.2 c15b3))
        replace H := Option.bind_eq_some_iff.mp H
        obtain ⟨t105, A160, H⟩ := H
        replace H : (if (((⟨#[]⟩ : ByteArray) ++ t104) ++ (⟨#[46]⟩ : ByteArray)).size + t105.size ≤ 9223372036854775807 then ((contangoref03_text.f k (Int.tmod (wrap64 (-a0)) 10)).bind fun t106 => (if ((((⟨#[]⟩ : ByteArray) ++ t104) ++ (⟨#[46]⟩ : ByteArray)) ++ t105).size + t106.size ≤ 9223372036854775807 then (some (((((⟨#[]⟩ : ByteArray) ++ t104) ++ (⟨#[46]⟩ : ByteArray)) ++ t105) ++ t106)) else (none))) else (none)) = some r := H
        have A16 := Aside0.mk A160
        clear A160
        by_cases c17 : (((⟨#[]⟩ : ByteArray) ++ t104) ++ (⟨#[46]⟩ : ByteArray)).size + t105.size ≤ 9223372036854775807
        · rw [if_pos c17] at H
          have c17b0 := eq_true c17
          have c17b1 : decide ((((⟨#[]⟩ : ByteArray) ++ t104) ++ (⟨#[46]⟩ : ByteArray)).size + t105.size ≤ 9223372036854775807) = true := decide_eq_true c17
          try have c17b2 : (9223372036854775807 < (((⟨#[]⟩ : ByteArray) ++ t104) ++ (⟨#[46]⟩ : ByteArray)).size + t105.size) = False := eq_false (Nat.not_lt.2 c17)
          try (have c17b3 := c17; simp only [ByteArray.size_append, ByteArray.size_extract, Nat.min_self, Nat.zero_add, show (⟨#[]⟩ : ByteArray).size = 0 from rfl, show (⟨#[46]⟩ : ByteArray).size = 1 from rfl] at c17b3; replace c17b3 := eq_false (Nat.not_lt.2 c17b3))
          replace H := Option.bind_eq_some_iff.mp H
          obtain ⟨t106, A180, H⟩ := H
          replace H : (if ((((⟨#[]⟩ : ByteArray) ++ t104) ++ (⟨#[46]⟩ : ByteArray)) ++ t105).size + t106.size ≤ 9223372036854775807 then (some (((((⟨#[]⟩ : ByteArray) ++ t104) ++ (⟨#[46]⟩ : ByteArray)) ++ t105) ++ t106)) else (none)) = some r := H
          have A18 := Aside0.mk A180
          clear A180
          by_cases c19 : ((((⟨#[]⟩ : ByteArray) ++ t104) ++ (⟨#[46]⟩ : ByteArray)) ++ t105).size + t106.size ≤ 9223372036854775807
          · rw [if_pos c19] at H
            have c19b0 := eq_true c19
            have c19b1 : decide (((((⟨#[]⟩ : ByteArray) ++ t104) ++ (⟨#[46]⟩ : ByteArray)) ++ t105).size + t106.size ≤ 9223372036854775807) = true := decide_eq_true c19
            try have c19b2 : (9223372036854775807 < ((((⟨#[]⟩ : ByteArray) ++ t104) ++ (⟨#[46]⟩ : ByteArray)) ++ t105).size + t106.size) = False := eq_false (Nat.not_lt.2 c19)
            try (have c19b3 := c19; simp only [ByteArray.size_append, ByteArray.size_extract, Nat.min_self, Nat.zero_add, show (⟨#[]⟩ : ByteArray).size = 0 from rfl, show (⟨#[46]⟩ : ByteArray).size = 1 from rfl] at c19b3; replace c19b3 := eq_false (Nat.not_lt.2 c19b3))
            obtain rfl := Option.some.inj H
            go_enter Tryd.func25, Tryd.ntmps25
            go_wp2_with (first | ((with_reducible refine gate_callee (f := 40) rfl ?_); refine goesL_ (some 11) rfl rfl Tryd.func40 (by kernel_rfl) rfl #[.int .i64 (wrap64 (Int.tdiv (wrap64 (-a0)) 100))] rfl (by (try simp only [List.map_toArray, List.map_cons, List.map_nil]); first | done | rfl | (simp only [List.length_drop, List.length_take]; rfl)) ?_; (with_reducible refine (contangoref03_text.calls k (wrap64 (Int.tdiv (wrap64 (-a0)) 100)) t104 _ A13.out).mono ?_); rintro e w20 ⟨rfl, hb⟩; refine ⟨_, rfl, ?_⟩; have n0_ := Aside0.mk (below_step (by repeat (first | (with_reducible first | exact HB.out | apply below_alloc | apply pw_below_drewN | apply below_drew1) | exact HB.out)) hb); clear HB; have HB := n0_; clear n0_; (try clear hb); (try clear hb2); (try clear hk); (try clear hi)) | ((with_reducible refine gate_callee (f := 40) rfl ?_); refine goesL_ (some 17) rfl rfl Tryd.func40 (by kernel_rfl) rfl #[.int .i64 (Int.tmod (wrap64 (Int.tdiv (wrap64 (-a0)) 10)) 10)] rfl (by (try simp only [List.map_toArray, List.map_cons, List.map_nil]); first | done | rfl | (simp only [List.length_drop, List.length_take]; rfl)) ?_; (with_reducible refine (contangoref03_text.calls k (Int.tmod (wrap64 (Int.tdiv (wrap64 (-a0)) 10)) 10) t105 _ A16.out).mono ?_); rintro e w21 ⟨rfl, hb⟩; refine ⟨_, rfl, ?_⟩; have n0_ := Aside0.mk (below_step (by repeat (first | (with_reducible first | exact HB.out | apply below_alloc | apply pw_below_drewN | apply below_drew1) | exact HB.out)) hb); clear HB; have HB := n0_; clear n0_; (try clear hb); (try clear hb2); (try clear hk); (try clear hi)) | ((with_reducible refine gate_callee (f := 40) rfl ?_); refine goesL_ (some 21) rfl rfl Tryd.func40 (by kernel_rfl) rfl #[.int .i64 (Int.tmod (wrap64 (-a0)) 10)] rfl (by (try simp only [List.map_toArray, List.map_cons, List.map_nil]); first | done | rfl | (simp only [List.length_drop, List.length_take]; rfl)) ?_; (with_reducible refine (contangoref03_text.calls k (Int.tmod (wrap64 (-a0)) 10) t106 _ A18.out).mono ?_); rintro e w22 ⟨rfl, hb⟩; refine ⟨_, rfl, ?_⟩; have n0_ := Aside0.mk (below_step (by repeat (first | (with_reducible first | exact HB.out | apply below_alloc | apply pw_below_drewN | apply below_drew1) | exact HB.out)) hb); clear HB; have HB := n0_; clear n0_; (try clear hb); (try clear hb2); (try clear hk); (try clear hi)))
            go_ret
            exact ⟨by first | rfl | (simp [errW_none, errW_some] <;> rfl) | (simp [*, errW_none, errW_some] <;> rfl), by repeat (first | (with_reducible first | exact HB.out | apply below_alloc | apply pw_below_drewN | apply below_drew1) | exact HB.out)⟩
          · rw [if_neg c19] at H
            exact absurd H (by simp)
        · rw [if_neg c17] at H
          exact absurd H (by simp)
      · rw [if_neg c15] at H
        exact absurd H (by simp)
    · rw [if_neg c14] at H
      exact absurd H (by simp)
end Go.Proofs.YtgaicbhbgephbaaDoor.X
end
section
namespace Go.Proofs.YtgaicbhbgephbaaDoor.X
open Go.RowKit Go.Proofs.YtgaicbhbgephbaaDoorW.PrintWords Go.Proofs.YtgaicbhbgephbaaDoorW.PrintLast Go.Proofs.YtgaicbhbgephbaaDoorW.PrintMore
attribute [local go_sem] max2_int min2_int max_two min_two max_three min_three max_four min_four
set_option linter.unusedVariables false
set_option linter.unusedSimpArgs false
def contangoref03_Text.f (k : Nat) (a0 : Int) : Option (ByteArray) := if a0 < 0 then ((contangoref03_text.f k a0).bind fun t101 => (if 1 + t101.size ≤ 9223372036854775807 then (some ((⟨#[45]⟩ : ByteArray) ++ t101)) else (none))) else ((contangoref03_text.f k (wrap64 (-a0))).bind fun t102 => (some t102))
set_option maxHeartbeats 8000000 in
set_option maxRecDepth 100000 in
theorem contangoref03_Text.calls (k : Nat) (a0 : Int) (r : ByteArray) (w : World) (h : contangoref03_Text.f k a0 = some r) :
    Calls Tryd.prog 23 #[.int .i64 a0] w fun e w' => e = .returned (.string r) ∧ Below w.heap.size w w' := by
  have HB := Aside0.mk (Below.refl w.heap.size w)
  have H : (if a0 < 0 then ((contangoref03_text.f k a0).bind fun t101 => (if 1 + t101.size ≤ 9223372036854775807 then (some ((⟨#[45]⟩ : ByteArray) ++ t101)) else (none))) else ((contangoref03_text.f k (wrap64 (-a0))).bind fun t102 => (some t102))) = some r := h
  clear h
  by_cases c2 : a0 < 0
  · rw [if_pos c2] at H
    have c2b0 : decide (a0 < 0) = true := decide_eq_true c2
    clear c2
    replace H := Option.bind_eq_some_iff.mp H
    obtain ⟨t101, A30, H⟩ := H
    replace H : (if 1 + t101.size ≤ 9223372036854775807 then (some ((⟨#[45]⟩ : ByteArray) ++ t101)) else (none)) = some r := H
    have A3 := Aside0.mk A30
    clear A30
    by_cases c4 : 1 + t101.size ≤ 9223372036854775807
    · rw [if_pos c4] at H
      have c4b0 := eq_true c4
      have c4b1 : decide (1 + t101.size ≤ 9223372036854775807) = true := decide_eq_true c4
      try have c4b2 : (9223372036854775807 < 1 + t101.size) = False := eq_false (Nat.not_lt.2 c4)
      obtain rfl := Option.some.inj H
      go_enter Tryd.func23, Tryd.ntmps23
      go_wp2_with (first | ((with_reducible refine gate_callee (f := 40) rfl ?_); refine goesL_ (some 6) rfl rfl Tryd.func40 (by kernel_rfl) rfl #[.int .i64 a0] rfl (by (try simp only [List.map_toArray, List.map_cons, List.map_nil]); first | done | rfl | (simp only [List.length_drop, List.length_take]; rfl)) ?_; (with_reducible refine (contangoref03_text.calls k a0 t101 _ A3.out).mono ?_); rintro e w5 ⟨rfl, hb⟩; refine ⟨_, rfl, ?_⟩; have n0_ := Aside0.mk (below_step (by repeat (first | (with_reducible first | exact HB.out | apply below_alloc | apply pw_below_drewN | apply below_drew1) | exact HB.out)) hb); clear HB; have HB := n0_; clear n0_; (try clear hb); (try clear hb2); (try clear hk); (try clear hi)))
      go_ret
      exact ⟨by first | rfl | (simp [errW_none, errW_some] <;> rfl) | (simp [*, errW_none, errW_some] <;> rfl), by repeat (first | (with_reducible first | exact HB.out | apply below_alloc | apply pw_below_drewN | apply below_drew1) | exact HB.out)⟩
    · rw [if_neg c4] at H
      exact absurd H (by simp)
  · rw [if_neg c2] at H
    have c2b0 : decide (a0 < 0) = false := decide_eq_false c2
    clear c2
    replace H := Option.bind_eq_some_iff.mp H
    obtain ⟨t102, A60, H⟩ := H
    replace H : (some t102) = some r := H
    have A6 := Aside0.mk A60
    clear A60
    obtain rfl := Option.some.inj H
    go_enter Tryd.func23, Tryd.ntmps23
    go_wp2_with (first | ((with_reducible refine gate_callee (f := 40) rfl ?_); refine goesL_ (some 10) rfl rfl Tryd.func40 (by kernel_rfl) rfl #[.int .i64 (wrap64 (-a0))] rfl (by (try simp only [List.map_toArray, List.map_cons, List.map_nil]); first | done | rfl | (simp only [List.length_drop, List.length_take]; rfl)) ?_; (with_reducible refine (contangoref03_text.calls k (wrap64 (-a0)) t102 _ A6.out).mono ?_); rintro e w7 ⟨rfl, hb⟩; refine ⟨_, rfl, ?_⟩; have n0_ := Aside0.mk (below_step (by repeat (first | (with_reducible first | exact HB.out | apply below_alloc | apply pw_below_drewN | apply below_drew1) | exact HB.out)) hb); clear HB; have HB := n0_; clear n0_; (try clear hb); (try clear hb2); (try clear hk); (try clear hi)))
    go_ret
    exact ⟨by first | rfl | (simp [errW_none, errW_some] <;> rfl) | (simp [*, errW_none, errW_some] <;> rfl), by repeat (first | (with_reducible first | exact HB.out | apply below_alloc | apply pw_below_drewN | apply below_drew1) | exact HB.out)⟩
end Go.Proofs.YtgaicbhbgephbaaDoor.X
end
section
namespace Go.Proofs.YtgaicbhbgephbaaDoor.X
open Go.RowKit Go.Proofs.YtgaicbhbgephbaaDoorW.PrintWords Go.Proofs.YtgaicbhbgephbaaDoorW.PrintLast Go.Proofs.YtgaicbhbgephbaaDoorW.PrintMore
attribute [local go_sem] max2_int min2_int max_two min_two max_three min_three max_four min_four
set_option linter.unusedVariables false
set_option linter.unusedSimpArgs false
def words_Text.f (a0 : Int) : Option (ByteArray) := (words_size.f a0).bind fun bt101 => ((words_decimal.f bt101.1).bind fun t103 => ((words_together.f (⟨#[]⟩ : ByteArray) (([bt101.2, t103] : List ByteArray))).bind fun t107 => (some t107)))
set_option maxHeartbeats 8000000 in
set_option maxRecDepth 100000 in
theorem words_Text.calls (a0 : Int) (r : ByteArray) (w : World) (h : words_Text.f a0 = some r) :
    Calls Tryd.prog 22 #[.int .i64 a0] w fun e w' => e = .returned (.string r) ∧ Below w.heap.size w w' := by
  have HB := Aside0.mk (Below.refl w.heap.size w)
  have H : ((words_size.f a0).bind fun bt101 => ((words_decimal.f bt101.1).bind fun t103 => ((words_together.f (⟨#[]⟩ : ByteArray) (([bt101.2, t103] : List ByteArray))).bind fun t107 => (some t107)))) = some r := h
  clear h
  replace H := Option.bind_eq_some_iff.mp H
  obtain ⟨⟨t101, t102⟩, A20, H⟩ := H
  replace H : ((words_decimal.f t101).bind fun t103 => ((words_together.f (⟨#[]⟩ : ByteArray) (([t102, t103] : List ByteArray))).bind fun t107 => (some t107))) = some r := H
  have A2 := Aside0.mk A20
  clear A20
  replace H := Option.bind_eq_some_iff.mp H
  obtain ⟨t103, A30, H⟩ := H
  replace H : ((words_together.f (⟨#[]⟩ : ByteArray) (([t102, t103] : List ByteArray))).bind fun t107 => (some t107)) = some r := H
  have A3 := Aside0.mk A30
  clear A30
  obtain ⟨y104, hy104⟩ : ∃ y_ : List ByteArray, y_ = (([t102, t103] : List ByteArray)) := ⟨_, rfl⟩
  replace H : ((words_together.f (⟨#[]⟩ : ByteArray) y104).bind fun t107 => (some t107)) = some r := by first | (rw [hy104]; with_reducible exact H) | (have H2_ := (Option.bind_some _ _).symm.trans H; rw [hy104]; with_reducible exact H2_) | (have H2_ := (Option.bind_some _ _).symm.trans H; with_reducible exact H2_) | with_reducible exact H | (rw [hy104]; exact H) | exact H
  have Ny104 := Aside0.mk hy104
  clear hy104
  replace H := Option.bind_eq_some_iff.mp H
  obtain ⟨t107, A40, H⟩ := H
  replace H : (some t107) = some r := H
  have A4 := Aside0.mk A40
  clear A40
  obtain rfl := Option.some.inj H
  go_enter Tryd.func22, Tryd.ntmps22
  go_wp2_with (first | ((with_reducible refine gate_callee (f := 38) rfl ?_); refine goesL_ (some 7) rfl rfl Tryd.func38 (by kernel_rfl) rfl #[.int .i64 a0] rfl (by (try simp only [List.map_toArray, List.map_cons, List.map_nil]); first | done | rfl | (simp only [List.length_drop, List.length_take]; rfl)) ?_; (with_reducible refine (words_size.calls a0 t101 t102 _ A2.out).mono ?_); rintro e w' ⟨rfl, ⟨nd, rfl⟩⟩; refine ⟨_, rfl, ?_⟩) | ((with_reducible refine gate_callee (f := 39) rfl ?_); refine goesL_ (some 12) rfl rfl Tryd.func39 (by kernel_rfl) rfl #[.int .u64 t101] rfl (by (try simp only [List.map_toArray, List.map_cons, List.map_nil]); first | done | rfl | (simp only [List.length_drop, List.length_take]; rfl)) ?_; (with_reducible refine (words_decimal.calls t101 t103 _ A3.out).mono ?_); rintro e w5 ⟨rfl, hb⟩; refine ⟨_, rfl, ?_⟩; have n0_ := Aside0.mk (below_step (by repeat (first | (with_reducible first | exact HB.out | apply below_alloc | apply pw_below_drewN | apply below_drew1) | exact HB.out)) hb); clear HB; have HB := n0_; clear n0_; (try clear hb); (try clear hb2); (try clear hk); (try clear hi)) | ((with_reducible refine gate_dst (N := 13) rfl ?_); refine Kd.R_lit Kd.string _ 9 ?hg (N := 13) ?hd (xs := ([t102, t103] : List ByteArray)) (inner := [.string t102, .string t103]) (ok := fun _ => True) (okp := fun _ => True) ?hr ?hp (fun _ hk => hk) trivial (Below.refl _ _) (Nat.le_refl _) (by simp) ?_; (case hd => rfl); (case hg => rfl); (case hr => first | (go_simp; done) | (go_simp; rfl)); (case hp => exact (Reps.one (show Kd.M Kd.string _ _ _ t102 [.string t102] from rfl) (Reps.one (show Kd.M Kd.string _ _ _ t103 [.string t103] from rfl) (Reps.none _ _)))); intro v105 w6 ho7 hb hg_ hnew_; clear hg_ hnew_; (first | rw [← Ny104.out] at ho7 | (simp only [Int.reduceToNat] at ho7; rw [← Ny104.out] at ho7)); have n0_ := Aside0.mk (Kd.R_lower ho7 (below_size (by repeat (first | (with_reducible first | exact HB.out | apply below_alloc | apply pw_below_drewN | apply below_drew1) | exact HB.out)))); have n1_ := Aside0.mk (below_step (by repeat (first | (with_reducible first | exact HB.out | apply below_alloc | apply pw_below_drewN | apply below_drew1) | exact HB.out)) hb); clear HB; have HO106 := n0_; have HB := n1_; clear n0_ n1_; clear hb ho7; obtain ⟨Ao8, co8, eo8⟩ := Kd.R_slice HO106.out; subst eo8) | ((with_reducible refine gate_callee (f := 37) rfl ?_); refine goesL_ (some 14) rfl rfl Tryd.func37 (by kernel_rfl) rfl #[.string (⟨#[]⟩ : ByteArray), .slice Ao8 y104.length co8] rfl (by (try simp only [List.map_toArray, List.map_cons, List.map_nil]); first | done | rfl | (simp only [List.length_drop, List.length_take]; rfl)) ?_; (with_reducible refine (words_together.calls (⟨#[]⟩ : ByteArray) _ _ y104 t107 _ ?side1 ?side2 A4.out).mono ?_); (case side1 => repeat (first | exact (Kd.R_reads' HO106.out).2.2 | (with_reducible refine Kd.C_alloc ?_ _) | (with_reducible refine Kd.C_drewN ?_ _) | (with_reducible refine Kd.C_drew ?_))); (case side2 => exact (Kd.R_reads' HO106.out).2.1); rintro e w9 ⟨rfl, hb⟩; refine ⟨_, rfl, ?_⟩; have n0_ := Aside0.mk (Kd.R_below (by (with_reducible repeat (first | apply Kd.R_alloc | apply Kd.R_drewN | apply Kd.R_drew)); exact HO106.out) hb); have n1_ := Aside0.mk (below_step (by repeat (first | (with_reducible first | exact HB.out | apply below_alloc | apply pw_below_drewN | apply below_drew1) | exact HB.out)) hb); clear HO106; clear HB; have HO106 := n0_; have HB := n1_; clear n0_ n1_; (try clear hb); (try clear hb2); (try clear hk); (try clear hi)))
  go_ret
  exact ⟨by first | rfl | (simp [errW_none, errW_some] <;> rfl) | (simp [*, errW_none, errW_some] <;> rfl), by repeat (first | (with_reducible first | exact HB.out | apply below_alloc | apply pw_below_drewN | apply below_drew1) | exact HB.out)⟩
end Go.Proofs.YtgaicbhbgephbaaDoor.X
end
section
namespace Go.Proofs.YtgaicbhbgephbaaDoor.X
open Go.RowKit Go.Proofs.YtgaicbhbgephbaaDoorW.PrintWords Go.Proofs.YtgaicbhbgephbaaDoorW.PrintLast Go.Proofs.YtgaicbhbgephbaaDoorW.PrintMore
attribute [local go_sem] max2_int min2_int max_two min_two max_three min_three max_four min_four
set_option linter.unusedVariables false
set_option linter.unusedSimpArgs false
def contangolaw03_WordsWrites.f (k : Nat) (a0 : Int) : Option (Bool) := (words_Text.f a0).bind fun t101 => ((contangoref03_Text.f k a0).bind fun t102 => (if t101.toList = t102.toList then ((words_Money.f a0).bind fun t103 => ((contangoref03_Money.f k a0).bind fun t104 => (if t103.toList = t104.toList then ((contangolaw03_goes.f k).bind fun t105 => (some t105)) else (none)))) else (none)))
set_option maxHeartbeats 8000000 in
set_option maxRecDepth 100000 in
theorem contangolaw03_WordsWrites.calls (k : Nat) (a0 : Int) (r : Bool) (w : World) (h : contangolaw03_WordsWrites.f k a0 = some r) :
    Calls Tryd.prog 6 #[.int .i64 a0] w fun e w' => e = .returned (.bool r) ∧ Below w.heap.size w w' := by
  have HB := Aside0.mk (Below.refl w.heap.size w)
  have H : ((words_Text.f a0).bind fun t101 => ((contangoref03_Text.f k a0).bind fun t102 => (if t101.toList = t102.toList then ((words_Money.f a0).bind fun t103 => ((contangoref03_Money.f k a0).bind fun t104 => (if t103.toList = t104.toList then ((contangolaw03_goes.f k).bind fun t105 => (some t105)) else (none)))) else (none)))) = some r := h
  clear h
  replace H := Option.bind_eq_some_iff.mp H
  obtain ⟨t101, A20, H⟩ := H
  replace H : ((contangoref03_Text.f k a0).bind fun t102 => (if t101.toList = t102.toList then ((words_Money.f a0).bind fun t103 => ((contangoref03_Money.f k a0).bind fun t104 => (if t103.toList = t104.toList then ((contangolaw03_goes.f k).bind fun t105 => (some t105)) else (none)))) else (none))) = some r := H
  have A2 := Aside0.mk A20
  clear A20
  replace H := Option.bind_eq_some_iff.mp H
  obtain ⟨t102, A30, H⟩ := H
  replace H : (if t101.toList = t102.toList then ((words_Money.f a0).bind fun t103 => ((contangoref03_Money.f k a0).bind fun t104 => (if t103.toList = t104.toList then ((contangolaw03_goes.f k).bind fun t105 => (some t105)) else (none)))) else (none)) = some r := H
  have A3 := Aside0.mk A30
  clear A30
  by_cases c4 : t101.toList = t102.toList
  · rw [if_pos c4] at H
    have c4b0 : (t101.toList == t102.toList) = true := beq_iff_eq.mpr c4
    have c4b1 : (t101.toList != t102.toList) = false := bne_eq_false_iff_eq.mpr c4
    clear c4
    replace H := Option.bind_eq_some_iff.mp H
    obtain ⟨t103, A50, H⟩ := H
    replace H : ((contangoref03_Money.f k a0).bind fun t104 => (if t103.toList = t104.toList then ((contangolaw03_goes.f k).bind fun t105 => (some t105)) else (none))) = some r := H
    have A5 := Aside0.mk A50
    clear A50
    replace H := Option.bind_eq_some_iff.mp H
    obtain ⟨t104, A60, H⟩ := H
    replace H : (if t103.toList = t104.toList then ((contangolaw03_goes.f k).bind fun t105 => (some t105)) else (none)) = some r := H
    have A6 := Aside0.mk A60
    clear A60
    by_cases c7 : t103.toList = t104.toList
    · rw [if_pos c7] at H
      have c7b0 : (t103.toList == t104.toList) = true := beq_iff_eq.mpr c7
      have c7b1 : (t103.toList != t104.toList) = false := bne_eq_false_iff_eq.mpr c7
      clear c7
      replace H := Option.bind_eq_some_iff.mp H
      obtain ⟨t105, A80, H⟩ := H
      replace H : (some t105) = some r := H
      have A8 := Aside0.mk A80
      clear A80
      obtain rfl := Option.some.inj H
      go_enter Tryd.func6, Tryd.ntmps6
      go_wp2_with (first | ((with_reducible refine gate_callee (f := 22) rfl ?_); refine goesL_ (some 4) rfl rfl Tryd.func22 (by kernel_rfl) rfl #[.int .i64 a0] rfl (by (try simp only [List.map_toArray, List.map_cons, List.map_nil]); first | done | rfl | (simp only [List.length_drop, List.length_take]; rfl)) ?_; (with_reducible refine (words_Text.calls a0 t101 _ A2.out).mono ?_); rintro e w9 ⟨rfl, hb⟩; refine ⟨_, rfl, ?_⟩; have n0_ := Aside0.mk (below_step (by repeat (first | (with_reducible first | exact HB.out | apply below_alloc | apply pw_below_drewN | apply below_drew1) | exact HB.out)) hb); clear HB; have HB := n0_; clear n0_; (try clear hb); (try clear hb2); (try clear hk); (try clear hi)) | ((with_reducible refine gate_callee (f := 23) rfl ?_); refine goesL_ (some 6) rfl rfl Tryd.func23 (by kernel_rfl) rfl #[.int .i64 a0] rfl (by (try simp only [List.map_toArray, List.map_cons, List.map_nil]); first | done | rfl | (simp only [List.length_drop, List.length_take]; rfl)) ?_; (with_reducible refine (contangoref03_Text.calls k a0 t102 _ A3.out).mono ?_); rintro e w10 ⟨rfl, hb⟩; refine ⟨_, rfl, ?_⟩; have n0_ := Aside0.mk (below_step (by repeat (first | (with_reducible first | exact HB.out | apply below_alloc | apply pw_below_drewN | apply below_drew1) | exact HB.out)) hb); clear HB; have HB := n0_; clear n0_; (try clear hb); (try clear hb2); (try clear hk); (try clear hi)) | (go_at_call 24; (with_reducible refine (words_Money.calls a0 t103 _ A5.out).mono ?_); rintro e w11 ⟨rfl, hb⟩; have n0_ := Aside0.mk (below_step (by repeat (first | (with_reducible first | exact HB.out | apply below_alloc | apply pw_below_drewN | apply below_drew1) | exact HB.out)) hb); clear HB; have HB := n0_; clear n0_; (try clear hb); (try clear hb2); (try clear hk); (try clear hi)) | (go_at_call 25; (with_reducible refine (contangoref03_Money.calls k a0 t104 _ A6.out).mono ?_); rintro e w12 ⟨rfl, hb⟩; have n0_ := Aside0.mk (below_step (by repeat (first | (with_reducible first | exact HB.out | apply below_alloc | apply pw_below_drewN | apply below_drew1) | exact HB.out)) hb); clear HB; have HB := n0_; clear n0_; (try clear hb); (try clear hb2); (try clear hk); (try clear hi)) | (go_at_call 14; (with_reducible refine (contangolaw03_goes.calls k  t105 _ A8.out).mono ?_); rintro e w13 ⟨rfl, hb⟩; have n0_ := Aside0.mk (below_step (by repeat (first | (with_reducible first | exact HB.out | apply below_alloc | apply pw_below_drewN | apply below_drew1) | exact HB.out)) hb); clear HB; have HB := n0_; clear n0_; (try clear hb); (try clear hb2); (try clear hk); (try clear hi)))
      go_ret
      exact ⟨by first | rfl | (simp [errW_none, errW_some] <;> rfl) | (simp [*, errW_none, errW_some] <;> rfl), by repeat (first | (with_reducible first | exact HB.out | apply below_alloc | apply pw_below_drewN | apply below_drew1) | exact HB.out)⟩
    · rw [if_neg c7] at H
      exact absurd H (by simp)
  · rw [if_neg c4] at H
    exact absurd H (by simp)
end Go.Proofs.YtgaicbhbgephbaaDoor.X
end
section
namespace Go.Proofs.YtgaicbhbgephbaaDoor.Opn
open Go.ChangeShapes Go.WideShapes Go.Proofs.YtgaicbhbgephbaaDoorW.PrintWords
set_option linter.unusedVariables false
set_option linter.unusedSimpArgs false
structure Opens (P : Program) (t : TypeId) {α : Type} (d : Kd α) (Ok : α → Prop) : Prop where
  sz : d.sz = P.cellsOf t
  opens : ∀ {H : Type} {enc : TypeId × Value → H} {w : World} {base : Nat} {spare : Nat → Bool} {held : Bool} {fuel : Nat} {cs : List Value} {x : DataW H × List MemPlace},
    DataW.trod enc P w base spare held fuel t cs = some x → (∀ n ∈ x.1.weights P t, n ≤ reachBytes) → ∃ v, d.K w v cs ∧ Ok v
structure OpensF (P : Program) (fs : List Field) (off : Nat) {α : Type} (d : Kd α) (Ok : α → Prop) : Prop where
  opens : ∀ {H : Type} {enc : TypeId × Value → H} {w : World} {base : Nat} {spare : Nat → Bool} {held : Bool} {n : Nat} {cs : List Value} {xs : List (DataW H × List MemPlace)},
    xs.length = fs.length → (∀ (i : Nat) (f : Field), fs[i]? = some f → DataW.trod enc P w base spare held n f.type ((cs.drop f.offset).take (P.cellsOf f.type)) = xs[i]?) →
    (∀ m ∈ DataW.weightsEach P (fs.map (·.type)) (xs.map (·.1)), m ≤ reachBytes) → ∃ v, d.K w v ((cs.drop off).take d.sz) ∧ Ok v
end Go.Proofs.YtgaicbhbgephbaaDoor.Opn
end
section
namespace Go.Proofs.YtgaicbhbgephbaaDoor.P
open Go.RowKit Go.Proofs.YtgaicbhbgephbaaDoorW.PrintWords Go.Proofs.YtgaicbhbgephbaaDoorW.PrintMore Go.Proofs.YtgaicbhbgephbaaDoor.X
theorem Ev_succ {α : Type} {g : Nat → Option α} {r : α} (h : Ev (fun k => g (k + 1)) r) : Ev g r := Ev.step (fun _ => rfl) h
theorem Ev_bind {α β : Type} {g : Nat → Option α} {f : Nat → α → Option β} {a : α} {r : β} (h : Ev g a) (k : Ev (fun n => f n a) r) : Ev (fun n => (g n).bind (f n)) r := Ev.bind h k
theorem Ev_id {α : Type} {g : Nat → Option α} {r : α} (h : Ev g r) : Ev (fun n => (g n).bind fun x => some x) r := Ev.bind h (Ev.now _)
theorem w_id {x : Int} (h1 : -9223372036854775808 ≤ x) (h2 : x ≤ 9223372036854775807) : wrap64 x = x := by unfold wrap64; omega
theorem wf_rng {a : Int} (h : (Lit.int .i64 a).wf = true) : -9223372036854775808 ≤ a ∧ a ≤ 9223372036854775807 := by
  simpa [Lit.wf, IntKind.min, IntKind.max, IntKind.signed, IntKind.bits] using h
end Go.Proofs.YtgaicbhbgephbaaDoor.P
end
section
namespace Go.Proofs.YtgaicbhbgephbaaDoor.P
set_option linter.unusedVariables false
set_option linter.unusedSimpArgs false
open Go.RowKit Go.Proofs.YtgaicbhbgephbaaDoorW.PrintWords Go.Proofs.YtgaicbhbgephbaaDoorW.PrintMore Go.Proofs.YtgaicbhbgephbaaDoor.X
theorem by_rng (s : ByteArray) : ∀ x ∈ bytesOf s, 0 ≤ x ∧ x < 256 := by
  intro x hx
  unfold bytesOf at hx
  obtain ⟨b, hb, rfl⟩ := List.mem_map.1 hx
  have := b.toNat_lt
  omega
theorem by_len (s : ByteArray) : (bytesOf s).length = s.size := bytesOf_length s
theorem by_str (L : List Int) (h : ∀ x ∈ L, 0 ≤ x ∧ x < 256) : bytesOf (strOfNums L) = L := by
  unfold bytesOf
  rw [strOfNums_data, List.map_map]
  conv => rhs; rw [← List.map_id L]
  refine List.map_congr_left fun x hx => ?_
  have := h x hx
  simp only [Function.comp, id, UInt8.toNat_ofNat']
  omega
theorem by_data (s : ByteArray) : s.data.toList = (bytesOf s).map fun n => UInt8.ofNat n.toNat := by
  unfold bytesOf
  rw [List.map_map]
  conv => lhs; rw [← List.map_id s.data.toList]
  refine List.map_congr_left fun x hx => ?_
  simp only [Function.comp, id, Int.toNat_natCast, UInt8.ofNat_toNat]
theorem str_by (s : ByteArray) : strOfNums (bytesOf s) = s := by
  cases s with
  | mk d =>
    unfold strOfNums
    rw [← by_data]
theorem by_inj {a b : ByteArray} (h : bytesOf a = bytesOf b) : a = b := by rw [← str_by a, ← str_by b, h]
theorem by_app (a b : ByteArray) : bytesOf (a ++ b) = bytesOf a ++ bytesOf b := by
  unfold bytesOf
  rw [show (a ++ b).data = a.data ++ b.data from ByteArray.data_append, Array.toList_append, List.map_append]
theorem str_app (a b : List Int) : strOfNums (a ++ b) = strOfNums a ++ strOfNums b := by
  apply by_inj
  rw [by_app]
  unfold bytesOf
  simp only [strOfNums_data, List.map_append]
end Go.Proofs.YtgaicbhbgephbaaDoor.P
end
section
namespace Go.Proofs.YtgaicbhbgephbaaDoor.P
set_option linter.unusedVariables false
set_option linter.unusedSimpArgs false
open Go.RowKit Go.Proofs.YtgaicbhbgephbaaDoorW.PrintWords Go.Proofs.YtgaicbhbgephbaaDoorW.PrintMore Go.Proofs.YtgaicbhbgephbaaDoor.X
def digitB (n : Int) : Bool := decide (48 ≤ n) && decide (n ≤ 57)
end Go.Proofs.YtgaicbhbgephbaaDoor.P
end
section
namespace Go.Proofs.YtgaicbhbgephbaaDoor.P
set_option linter.unusedVariables false
set_option linter.unusedSimpArgs false
open Go.RowKit Go.Proofs.YtgaicbhbgephbaaDoorW.PrintWords Go.Proofs.YtgaicbhbgephbaaDoorW.PrintMore Go.Proofs.YtgaicbhbgephbaaDoor.X
theorem dig_rng {x : Int} (h : digitB x = true) : 48 ≤ x ∧ x ≤ 57 := by
  unfold digitB at h
  simp only [Bool.and_eq_true, decide_eq_true_eq] at h
  exact h
end Go.Proofs.YtgaicbhbgephbaaDoor.P
end
section
namespace Go.Proofs.YtgaicbhbgephbaaDoor.P
set_option linter.unusedVariables false
set_option linter.unusedSimpArgs false
open Go.RowKit Go.Proofs.YtgaicbhbgephbaaDoorW.PrintWords Go.Proofs.YtgaicbhbgephbaaDoorW.PrintMore Go.Proofs.YtgaicbhbgephbaaDoor.X
def digs (n : Nat) : List Int := if n < 10 then [48 + (n : Int)] else digs (n / 10) ++ [48 + ((n % 10 : Nat) : Int)]
termination_by n
decreasing_by omega
theorem digs_lt {n : Nat} (h : n < 10) : digs n = [48 + (n : Int)] := by rw [digs, if_pos h]
theorem digs_ge {n : Nat} (h : 10 ≤ n) : digs n = digs (n / 10) ++ [48 + ((n % 10 : Nat) : Int)] := by rw [digs, if_neg (by omega)]
theorem digs_ind {p : Nat → Prop} (h0 : ∀ n, n < 10 → p n) (h1 : ∀ n, 10 ≤ n → p (n / 10) → p n) (n : Nat) : p n := by
  induction n using Nat.strongRecOn with
  | _ n ih =>
    by_cases h : n < 10
    · exact h0 n h
    · exact h1 n (by omega) (ih _ (by omega))
theorem digitB_of {x : Int} (h1 : 48 ≤ x) (h2 : x ≤ 57) : digitB x = true := by
  unfold digitB
  rw [decide_eq_true h1, decide_eq_true h2, Bool.and_true]
theorem digs_all (n : Nat) : ∀ x ∈ digs n, digitB x = true := by
  induction n using digs_ind with
  | h0 n h =>
    rw [digs_lt h]
    intro x hx
    obtain rfl := List.mem_singleton.1 hx
    exact digitB_of (by omega) (by omega)
  | h1 n h ih =>
    rw [digs_ge h]
    intro x hx
    rcases List.mem_append.1 hx with h2 | h2
    · exact ih x h2
    · obtain rfl := List.mem_singleton.1 h2
      exact digitB_of (by omega) (by omega)
theorem digs_rng (n : Nat) : ∀ x ∈ digs n, 0 ≤ x ∧ x < 256 := fun x hx => by have := dig_rng (digs_all n x hx); omega
theorem digs_len : ∀ (k n : Nat), 0 < k → n < 10 ^ k → (digs n).length ≤ k
  | 0, n, h, _ => absurd h (by decide)
  | k + 1, n, _, h => by
    by_cases h2 : n < 10
    · rw [digs_lt h2]; simp
    · rw [digs_ge (by omega)]
      have hk : 0 < k := by
        rcases Nat.eq_zero_or_pos k with rfl | h3
        · simp at h; omega
        · exact h3
      have := digs_len k (n / 10) hk (by rw [Nat.pow_succ] at h; omega)
      simp only [List.length_append, List.length_cons, List.length_nil]
      omega
theorem decL_digs : ∀ (k : Nat) (u : Int) (acc : List Int), 0 < k → 0 ≤ u → u < 10 ^ k → decL k u acc = digs u.toNat ++ acc
  | 0, u, acc, h, _, _ => absurd h (by decide)
  | k + 1, u, acc, _, h0, h1 => by
    unfold decL
    by_cases c : u / 10 = 0
    · rw [if_pos c, digs_lt (by omega), show 48 + u % 10 = 48 + (u.toNat : Int) by omega]
      rfl
    · rw [if_neg c, digs_ge (by omega)]
      have hk : 0 < k := by
        rcases Nat.eq_zero_or_pos k with rfl | h3
        · simp at h1; omega
        · exact h3
      rw [decL_digs k (u / 10) _ hk (by omega) (by rw [Int.pow_succ] at h1; omega), show (u / 10).toNat = u.toNat / 10 by omega, show 48 + u % 10 = 48 + ((u.toNat % 10 : Nat) : Int) by omega, List.append_assoc]
      rfl
theorem decimal_f (u : Int) (h0 : 0 ≤ u) (h1 : u < 18446744073709551616) : words_decimal.f u = some (strOfNums (digs u.toNat)) := by
  unfold words_decimal.f
  rw [if_pos ⟨h0, h1⟩, decL_digs 20 u [] (by decide) h0 (by omega), List.append_nil]
theorem rtext_step (n : Int) (h0 : n ≤ 0) (h1 : -9223372036854775808 ≤ n) (ih : ¬ n > -10 → Ev (fun k => contangoref03_text.f k (-((-n) / 10))) (strOfNums (digs ((-n).toNat / 10)))) : Ev (fun k => contangoref03_text.f k n) (strOfNums (digs (-n).toNat)) := by
  refine Ev_succ ?_
  have hm : Int.tmod n 10 = -((-n) % 10) := by
    have := Int.neg_tmod (a := -n) (b := 10)
    rw [Int.neg_neg] at this
    rw [this, Int.tmod_eq_emod_of_nonneg (by omega)]
  have hq : Int.tdiv n 10 = -((-n) / 10) := by
    have := Int.neg_tdiv (-n) 10
    rw [Int.neg_neg] at this
    rw [this, Int.tdiv_eq_ediv_of_nonneg (by omega)]
  have hw : wrap64 (48 - Int.tmod n 10) % 256 = 48 + (-n) % 10 := by rw [hm, w_id (by omega) (by omega)]; omega
  have hw2 : wrap64 (Int.tdiv n 10) = -((-n) / 10) := by rw [hq, w_id (by omega) (by omega)]
  simp only [contangoref03_text.f, Option.bind_some, hw, hw2]
  by_cases c : n > -10
  · simp only [if_pos c]
    rw [digs_lt (by omega), show (48 + (((-n).toNat : Nat) : Int)) = 48 + (-n) % 10 by omega]
    exact Ev.now _
  · simp only [if_neg c]
    refine Ev_bind (ih c) ?_
    have hp : (-n).toNat / 10 < 10 ^ 20 := by omega
    have hsz := digs_len 20 ((-n).toNat / 10) (by decide) hp
    have hs1 : (strOfNums (digs ((-n).toNat / 10))).size + (strOfNums [48 + (-n) % 10]).size ≤ 9223372036854775807 := by
      rw [strOfNums_size, strOfNums_size]
      simp only [List.length_cons, List.length_nil]
      omega
    have he : digs (-n).toNat = digs ((-n).toNat / 10) ++ [48 + (-n) % 10] := by
      rw [digs_ge (n := (-n).toNat) (by omega), show (48 + (((-n).toNat % 10 : Nat) : Int)) = 48 + (-n) % 10 by omega]
    rw [if_pos hs1, he, str_app]
    exact Ev.now _
theorem rtext_all : ∀ (d : Nat) (n : Int), n ≤ 0 → -9223372036854775808 ≤ n → (-n).toNat < 10 ^ (d + 1) → Ev (fun k => contangoref03_text.f k n) (strOfNums (digs (-n).toNat))
  | 0, n, h0, h1, h2 => rtext_step n h0 h1 fun c => by rw [Nat.zero_add, Nat.pow_one] at h2; omega
  | d + 1, n, h0, h1, h2 => rtext_step n h0 h1 fun c => by
    have hp : (- -((-n) / 10)).toNat < 10 ^ (d + 1) := by rw [Nat.pow_succ] at h2; omega
    have := rtext_all d (-((-n) / 10)) (by omega) (by omega) hp
    rwa [show (- -((-n) / 10)).toNat = (-n).toNat / 10 by omega] at this
theorem rtext_f (n : Int) (h0 : n ≤ 0) (h1 : -9223372036854775808 ≤ n) : Ev (fun k => contangoref03_text.f k n) (strOfNums (digs (-n).toNat)) := rtext_all 19 n h0 h1 (by omega)
theorem size_app (a b : ByteArray) : (a ++ b).size = a.size + b.size := ByteArray.size_append
def sgnL (n : Int) : List Int := if n < 0 then [45] else []
theorem len20 (n : Nat) (h : n < 18446744073709551616) : (digs n).length ≤ 20 := digs_len 20 n (by decide) (by omega)
def textL (n : Int) : List Int := sgnL n ++ digs n.natAbs
def moneyL (n : Int) : List Int := sgnL n ++ (digs (n.natAbs / 100) ++ (46 :: (digs (n.natAbs / 10 % 10) ++ digs (n.natAbs % 10))))
theorem size_f (n : Int) (h1 : -9223372036854775808 ≤ n) (h2 : n ≤ 9223372036854775807) : words_size.f n = some ((n.natAbs : Int), strOfNums (sgnL n)) := by
  unfold words_size.f sgnL
  by_cases c : n < 0
  · rw [if_pos c, if_pos c]
    have : IntKind.u64.wrap (-(IntKind.u64.wrap n)) = (n.natAbs : Int) := by
      simp only [IntKind.wrap, IntKind.bits, IntKind.signed, Bool.false_and, Bool.false_eq_true, if_false]
      omega
    rw [this]
    rfl
  · rw [if_neg c, if_neg c]
    have : IntKind.u64.wrap n = (n.natAbs : Int) := by
      simp only [IntKind.wrap, IntKind.bits, IntKind.signed, Bool.false_and, Bool.false_eq_true, if_false]
      omega
    rw [this]
    rfl
theorem flat_join (l : List ByteArray) : bytesOf ⟨(Lib.join (l.map (·.data.toList)) (⟨#[]⟩ : ByteArray).data.toList).toArray⟩ = (l.map bytesOf).flatten := by
  unfold bytesOf
  show ((Lib.join (l.map (·.data.toList)) []).toArray.toList).map _ = _
  rw [List.toList_toArray]
  unfold Lib.join
  rw [List.intercalate]
  have e : ∀ m : List (List UInt8), (List.intersperse [] m).flatten = m.flatten := by
    intro m
    induction m with
    | nil => rfl
    | cons x r ih =>
      cases r with
      | nil => rfl
      | cons y r =>
        simp only [List.intersperse_cons_cons, List.flatten_cons, List.nil_append] at ih ⊢
        rw [ih]
  rw [e, List.map_flatten, List.map_map]
  rfl
theorem join0_f (l : List ByteArray) (h : (l.map bytesOf).flatten.length ≤ 140737488355328) (h2 : l.length ≤ 140737488355328) : strings_Join.f l (⟨#[]⟩ : ByteArray) = some (strOfNums (l.map bytesOf).flatten) := by
  unfold strings_Join.f
  have e := flat_join l
  have hl : (Lib.join (l.map (·.data.toList)) (⟨#[]⟩ : ByteArray).data.toList).length = (l.map bytesOf).flatten.length := by
    rw [← e, by_len]
    rfl
  rw [if_pos ⟨by rw [hl]; exact h, h2⟩]
  congr 1
  apply by_inj
  rw [e, by_str]
  intro x hx
  obtain ⟨y, hy, hx⟩ := List.mem_flatten.1 hx
  obtain ⟨s, _, rfl⟩ := List.mem_map.1 hy
  exact by_rng s x hx
theorem sgn_rng (n : Int) : ∀ x ∈ sgnL n, 0 ≤ x ∧ x < 256 := by
  unfold sgnL
  intro x hx
  split at hx
  · obtain rfl := List.mem_singleton.1 hx; omega
  · cases hx
theorem sgn_len (n : Int) : (sgnL n).length ≤ 1 := by
  unfold sgnL
  split <;> simp
theorem bnd {α β : Type} {x : Option α} {a : α} {f : α → Option β} {r : Option β} (h : x = some a) (k : f a = r) : x.bind f = r := by rw [h]; exact k
theorem dec_nat (n : Nat) (h : n < 18446744073709551616) : words_decimal.f (n : Int) = some (strOfNums (digs n)) := by
  have := decimal_f (n : Int) (by omega) (by omega)
  rwa [Int.toNat_natCast] at this
theorem text_join (n : Int) (h1 : -9223372036854775808 ≤ n) (h2 : n ≤ 9223372036854775807) : strings_Join.f [strOfNums (sgnL n), strOfNums (digs n.natAbs)] (⟨#[]⟩ : ByteArray) = some (strOfNums (textL n)) := by
  have e : ([strOfNums (sgnL n), strOfNums (digs n.natAbs)].map bytesOf).flatten = textL n := by
    simp only [List.map_cons, List.map_nil, List.flatten_cons, List.flatten_nil, List.append_nil]
    rw [by_str _ (sgn_rng n), by_str _ (digs_rng _), textL]
  have hl : (textL n).length ≤ 140737488355328 := by
    unfold textL
    rw [List.length_append]
    have := sgn_len n
    have := len20 n.natAbs (by omega)
    omega
  rw [join0_f _ (by rw [e]; exact hl) (by simp), e]
theorem text_f (n : Int) (h1 : -9223372036854775808 ≤ n) (h2 : n ≤ 9223372036854775807) : words_Text.f n = some (strOfNums (textL n)) := by
  unfold words_Text.f words_together.f
  refine bnd (size_f n h1 h2) ?_
  refine bnd (dec_nat n.natAbs (by omega)) ?_
  exact bnd (bnd (text_join n h1 h2) (Eq.refl _)) (Eq.refl _)
theorem money_join (n : Int) (h1 : -9223372036854775808 ≤ n) (h2 : n ≤ 9223372036854775807) : strings_Join.f [strOfNums (sgnL n), strOfNums (digs (n.natAbs / 100)), (⟨#[46]⟩ : ByteArray), strOfNums (digs (n.natAbs / 10 % 10)), strOfNums (digs (n.natAbs % 10))] (⟨#[]⟩ : ByteArray) = some (strOfNums (moneyL n)) := by
  have e : ([strOfNums (sgnL n), strOfNums (digs (n.natAbs / 100)), (⟨#[46]⟩ : ByteArray), strOfNums (digs (n.natAbs / 10 % 10)), strOfNums (digs (n.natAbs % 10))].map bytesOf).flatten = moneyL n := by
    simp only [List.map_cons, List.map_nil, List.flatten_cons, List.flatten_nil, List.append_nil]
    rw [by_str _ (sgn_rng n), by_str _ (digs_rng _), by_str _ (digs_rng _), by_str _ (digs_rng _), show bytesOf (⟨#[46]⟩ : ByteArray) = [46] from rfl, moneyL, List.singleton_append]
  have hl : (moneyL n).length ≤ 140737488355328 := by
    unfold moneyL
    simp only [List.length_append, List.length_cons]
    have := sgn_len n
    have := len20 (n.natAbs / 100) (by omega)
    have := len20 (n.natAbs / 10 % 10) (by omega)
    have := len20 (n.natAbs % 10) (by omega)
    omega
  rw [join0_f _ (by rw [e]; exact hl) (by simp), e]
theorem money_f (n : Int) (h1 : -9223372036854775808 ≤ n) (h2 : n ≤ 9223372036854775807) : words_Money.f n = some (strOfNums (moneyL n)) := by
  unfold words_Money.f words_together.f
  refine bnd (size_f n h1 h2) ?_
  have wu : ∀ x : Int, 0 ≤ x → x < 18446744073709551616 → IntKind.u64.wrap x = x := fun x a b => dec_u x a b
  have q1 : IntKind.u64.wrap (Int.tdiv (n.natAbs : Int) 100) = ((n.natAbs / 100 : Nat) : Int) := by
    rw [Int.tdiv_eq_ediv_of_nonneg (by omega), wu _ (by omega) (by omega)]; omega
  have q2 : Int.tmod (IntKind.u64.wrap (Int.tdiv (n.natAbs : Int) 10)) 10 = ((n.natAbs / 10 % 10 : Nat) : Int) := by
    rw [Int.tdiv_eq_ediv_of_nonneg (by omega), wu _ (by omega) (by omega), Int.tmod_eq_emod_of_nonneg (by omega)]; omega
  have q3 : Int.tmod (n.natAbs : Int) 10 = ((n.natAbs % 10 : Nat) : Int) := by
    rw [Int.tmod_eq_emod_of_nonneg (by omega)]; omega
  rw [q1, q2, q3]
  refine bnd (dec_nat _ (by omega)) ?_
  refine bnd (dec_nat _ (by omega)) ?_
  refine bnd (dec_nat _ (by omega)) ?_
  exact bnd (bnd (money_join n h1 h2) (Eq.refl _)) (Eq.refl _)
theorem digs_size (n : Nat) (h : n < 18446744073709551616) : (strOfNums (digs n)).size ≤ 20 := by
  rw [strOfNums_size]
  exact digs_len 20 n (by decide) (by omega)
theorem rText_f (n : Int) (h1 : -9223372036854775808 ≤ n) (h2 : n ≤ 9223372036854775807) : Ev (fun k => contangoref03_Text.f k n) (strOfNums (textL n)) := by
  unfold contangoref03_Text.f textL sgnL
  rw [str_app]
  by_cases c : n < 0
  · simp only [if_pos c]
    refine Ev_bind (rtext_f n (by omega) h1) ?_
    have e : (-n).toNat = n.natAbs := by omega
    rw [e]
    have := digs_size n.natAbs (by omega)
    rw [if_pos (by omega)]
    exact Ev.now _
  · simp only [if_neg c]
    rw [w_id (x := -n) (by omega) (by omega)]
    refine Ev_bind (rtext_f (-n) (by omega) (by omega)) ?_
    have e : (- -n).toNat = n.natAbs := by omega
    rw [e, show strOfNums [] ++ strOfNums (digs n.natAbs) = strOfNums (digs n.natAbs) by rw [← str_app]; rfl]
    exact Ev.now _
theorem rMoney_f (n : Int) (h1 : -9223372036854775808 ≤ n) (h2 : n ≤ 9223372036854775807) : Ev (fun k => contangoref03_Money.f k n) (strOfNums (moneyL n)) := by
  have td : ∀ (m b : Int), m ≤ 0 → 0 < b → Int.tdiv m b = -((-m) / b) := by
    intro m b h hb
    have := Int.neg_tdiv (-m) b
    rw [Int.neg_neg] at this
    rw [this, Int.tdiv_eq_ediv_of_nonneg (by omega)]
  have tm : ∀ (m b : Int), m ≤ 0 → 0 < b → Int.tmod m b = -((-m) % b) := by
    intro m b h hb
    have := Int.neg_tmod (a := -m) (b := b)
    rw [Int.neg_neg] at this
    rw [this, Int.tmod_eq_emod_of_nonneg (by omega)]
  have key : ∀ m : Int, m = -(n.natAbs : Int) → Ev (fun k => contangoref03_text.f k (wrap64 (Int.tdiv m 100))) (strOfNums (digs (n.natAbs / 100))) ∧ Ev (fun k => contangoref03_text.f k (Int.tmod (wrap64 (Int.tdiv m 10)) 10)) (strOfNums (digs (n.natAbs / 10 % 10))) ∧ Ev (fun k => contangoref03_text.f k (Int.tmod m 10)) (strOfNums (digs (n.natAbs % 10))) := by
    intro m hm
    have q1 : wrap64 (Int.tdiv m 100) = -((n.natAbs / 100 : Nat) : Int) := by
      rw [td m 100 (by omega) (by decide), w_id (by omega) (by omega)]; omega
    have q2 : Int.tmod (wrap64 (Int.tdiv m 10)) 10 = -((n.natAbs / 10 % 10 : Nat) : Int) := by
      rw [td m 10 (by omega) (by decide), w_id (by omega) (by omega), tm _ 10 (by omega) (by decide)]; omega
    have q3 : Int.tmod m 10 = -((n.natAbs % 10 : Nat) : Int) := by
      rw [tm _ 10 (by omega) (by decide)]; omega
    have r : ∀ x : Nat, x < 9223372036854775808 → Ev (fun k => contangoref03_text.f k (-(x : Int))) (strOfNums (digs x)) := by
      intro x hx
      have := rtext_f (-(x : Int)) (by omega) (by omega)
      rwa [show (- -(x : Int)).toNat = x by omega] at this
    rw [q1, q2, q3]
    exact ⟨r _ (by omega), r _ (by omega), r _ (by omega)⟩
  have z1 := digs_size (n.natAbs / 100) (by omega)
  have z2 := digs_size (n.natAbs / 10 % 10) (by omega)
  have z3 := digs_size (n.natAbs % 10) (by omega)
  have one : ∀ b : UInt8, (⟨#[b]⟩ : ByteArray).size = 1 := fun _ => rfl
  have non : (⟨#[]⟩ : ByteArray).size = 0 := rfl
  unfold contangoref03_Money.f
  by_cases c : n < 0
  · simp only [if_pos c]
    obtain ⟨k1, k2, k3⟩ := key n (by omega)
    have e : strOfNums (moneyL n) = ((((⟨#[45]⟩ : ByteArray) ++ strOfNums (digs (n.natAbs / 100))) ++ (⟨#[46]⟩ : ByteArray)) ++ strOfNums (digs (n.natAbs / 10 % 10))) ++ strOfNums (digs (n.natAbs % 10)) := by
      have : moneyL n = (((([45] : List Int) ++ digs (n.natAbs / 100)) ++ [46]) ++ digs (n.natAbs / 10 % 10)) ++ digs (n.natAbs % 10) := by
        unfold moneyL sgnL
        rw [if_pos c]
        simp
      rw [this, str_app, str_app, str_app, str_app]
      rfl
    rw [e]
    refine Ev_bind k1 ?_
    have y1 := size_app ((⟨#[45]⟩ : ByteArray)) (strOfNums (digs (n.natAbs / 100)))
    rw [one] at y1
    simp only [if_pos (show 1 + (strOfNums (digs (n.natAbs / 100))).size ≤ 9223372036854775807 by omega), if_pos (show ((⟨#[45]⟩ : ByteArray) ++ strOfNums (digs (n.natAbs / 100))).size + 1 ≤ 9223372036854775807 by omega)]
    refine Ev_bind k2 ?_
    have y2 := size_app ((⟨#[45]⟩ : ByteArray) ++ strOfNums (digs (n.natAbs / 100))) (⟨#[46]⟩ : ByteArray)
    rw [one] at y2
    have y3 := size_app (((⟨#[45]⟩ : ByteArray) ++ strOfNums (digs (n.natAbs / 100))) ++ (⟨#[46]⟩ : ByteArray)) (strOfNums (digs (n.natAbs / 10 % 10)))
    simp only [if_pos (show (((⟨#[45]⟩ : ByteArray) ++ strOfNums (digs (n.natAbs / 100))) ++ (⟨#[46]⟩ : ByteArray)).size + (strOfNums (digs (n.natAbs / 10 % 10))).size ≤ 9223372036854775807 by omega)]
    refine Ev_bind k3 ?_
    rw [if_pos (show ((((⟨#[45]⟩ : ByteArray) ++ strOfNums (digs (n.natAbs / 100))) ++ (⟨#[46]⟩ : ByteArray)) ++ strOfNums (digs (n.natAbs / 10 % 10))).size + (strOfNums (digs (n.natAbs % 10))).size ≤ 9223372036854775807 by omega)]
    exact Ev.now _
  · simp only [if_neg c]
    rw [w_id (x := -n) (by omega) (by omega)]
    obtain ⟨k1, k2, k3⟩ := key (-n) (by omega)
    have e : strOfNums (moneyL n) = ((((⟨#[]⟩ : ByteArray) ++ strOfNums (digs (n.natAbs / 100))) ++ (⟨#[46]⟩ : ByteArray)) ++ strOfNums (digs (n.natAbs / 10 % 10))) ++ strOfNums (digs (n.natAbs % 10)) := by
      have : moneyL n = (((([] : List Int) ++ digs (n.natAbs / 100)) ++ [46]) ++ digs (n.natAbs / 10 % 10)) ++ digs (n.natAbs % 10) := by
        unfold moneyL sgnL
        rw [if_neg c]
        simp
      rw [this, str_app, str_app, str_app, str_app]
      rfl
    rw [e]
    refine Ev_bind k1 ?_
    have y1 := size_app ((⟨#[]⟩ : ByteArray)) (strOfNums (digs (n.natAbs / 100)))
    rw [non] at y1
    simp only [if_pos (show 0 + (strOfNums (digs (n.natAbs / 100))).size ≤ 9223372036854775807 by omega), if_pos (show ((⟨#[]⟩ : ByteArray) ++ strOfNums (digs (n.natAbs / 100))).size + 1 ≤ 9223372036854775807 by omega)]
    refine Ev_bind k2 ?_
    have y2 := size_app ((⟨#[]⟩ : ByteArray) ++ strOfNums (digs (n.natAbs / 100))) (⟨#[46]⟩ : ByteArray)
    rw [one] at y2
    have y3 := size_app (((⟨#[]⟩ : ByteArray) ++ strOfNums (digs (n.natAbs / 100))) ++ (⟨#[46]⟩ : ByteArray)) (strOfNums (digs (n.natAbs / 10 % 10)))
    simp only [if_pos (show (((⟨#[]⟩ : ByteArray) ++ strOfNums (digs (n.natAbs / 100))) ++ (⟨#[46]⟩ : ByteArray)).size + (strOfNums (digs (n.natAbs / 10 % 10))).size ≤ 9223372036854775807 by omega)]
    refine Ev_bind k3 ?_
    rw [if_pos (show ((((⟨#[]⟩ : ByteArray) ++ strOfNums (digs (n.natAbs / 100))) ++ (⟨#[46]⟩ : ByteArray)) ++ strOfNums (digs (n.natAbs / 10 % 10))).size + (strOfNums (digs (n.natAbs % 10))).size ≤ 9223372036854775807 by omega)]
    exact Ev.now _
end Go.Proofs.YtgaicbhbgephbaaDoor.P
end
section
namespace Go.Proofs.YtgaicbhbgephbaaDoor.P
open Go.RowKit Go.Proofs.YtgaicbhbgephbaaDoorW.PrintWords Go.Proofs.YtgaicbhbgephbaaDoorW.PrintMore Go.Proofs.YtgaicbhbgephbaaDoor.X
set_option maxRecDepth 100000 in
theorem goes03 : Ev (fun k => contangolaw03_goes.f k) true := Ev.of (k := 40) (contangolaw03_goes.mono) (by decide +kernel)
end Go.Proofs.YtgaicbhbgephbaaDoor.P
end
section
namespace Go.Proofs.YtgaicbhbgephbaaDoor.Pure
set_option linter.unusedVariables false
set_option linter.unusedSimpArgs false
open Go.RowKit Go.Proofs.YtgaicbhbgephbaaDoorW.PrintWords Go.Proofs.YtgaicbhbgephbaaDoorW.PrintMore Go.Proofs.YtgaicbhbgephbaaDoor.X Go.Proofs.YtgaicbhbgephbaaDoor.P
theorem WordsWrites : ∀ (a0 : Int), (Lit.int .i64 a0).wf = true → ∃ k, X.contangolaw03_WordsWrites.f k a0 = some true := by
  intro a0 h0
  obtain ⟨h1, h2⟩ := wf_rng h0
  refine Ev.rounds ?_
  unfold contangolaw03_WordsWrites.f
  rw [text_f a0 h1 h2]
  simp only [Option.bind_some]
  refine Ev_bind (rText_f a0 h1 h2) ?_
  simp only [if_true]
  rw [money_f a0 h1 h2]
  simp only [Option.bind_some]
  refine Ev_bind (rMoney_f a0 h1 h2) ?_
  simp only [if_true]
  exact Ev_id goes03
end Go.Proofs.YtgaicbhbgephbaaDoor.Pure
end
