/- For TopTradeLine: contracts, and facts on lists and numbers, that it uses (part 6). -/
import Derived.Test.YtliooghmpkdmoaaGreatDoorTopTradeLinec5
section
namespace Go.Proofs.YtliooghmpkdmoaaGreatDoor.P
set_option linter.unusedVariables false
set_option linter.unusedSimpArgs false
open Go.RowKit Go.Proofs.YtliooghmpkdmoaaGreatDoorW.PrintWords Go.Proofs.YtliooghmpkdmoaaGreatDoorW.PrintMore Go.Proofs.YtliooghmpkdmoaaGreatDoor.X
theorem fields_512 {s : ByteArray} : ∀ x ∈ (fieldsS s).1, x.size ≤ 512 := by
  intro x hx
  unfold fieldsS fieldsE at hx
  by_cases c1 : 512 < (bytesOf s).length
  · rw [if_pos c1] at hx; simp at hx
  rw [if_neg c1] at hx
  by_cases c2 : bytesOf s = []
  · rw [if_pos c2] at hx; simp at hx
  rw [if_neg c2] at hx
  by_cases c3 : (splitI 32 (bytesOf s)).all goodP = true
  case neg => rw [if_neg c3] at hx; simp at hx
  rw [if_pos c3] at hx
  obtain ⟨p, hp, rfl⟩ := List.mem_map.1 hx
  rw [strOfNums_size]
  have := (split_le 32 _ p hp).1
  omega
theorem rfS_eq (l : List ByteArray) (i : Nat) (h : i < l.length) : rfS l i = l[i] := rdOf_nat _ _ i h
theorem rfS_512 {s : ByteArray} (i : Nat) (h : i < (fieldsS s).1.length) : (rfS (fieldsS s).1 i).size ≤ 512 := by
  rw [rfS_eq _ i h]
  exact fields_512 _ (List.getElem_mem h)
def stI (x : ByteArray) : Int × Int := intL (bytesOf x)
def zT : Trd := z30
def q5 (l : List ByteArray) (t : Trd) : Trd × Int := if (stI (rfS l 5)).2 = 0 then ({ t with f5 := (stI (rfS l 5)).1 }, 0) else (zT, (stI (rfS l 5)).2)
def q4 (l : List ByteArray) (t : Trd) : Trd × Int := if (stI (rfS l 4)).2 = 0 then q5 l { t with f4 := (stI (rfS l 4)).1 } else (zT, (stI (rfS l 4)).2)
def q3 (l : List ByteArray) (t : Trd) : Trd × Int := if (parseS (rfS l 3)).2 = 0 then q4 l { t with f3 := (parseS (rfS l 3)).1 } else (zT, (parseS (rfS l 3)).2)
def q2 (l : List ByteArray) (t : Trd) : Trd × Int := if (stI (rfS l 2)).2 = 0 then q3 l { t with f2 := (stI (rfS l 2)).1 } else (zT, (stI (rfS l 2)).2)
def q1 (l : List ByteArray) (t : Trd) : Trd × Int := if (stI (rfS l 1)).2 = 0 then q2 l { t with f1 := (stI (rfS l 1)).1 } else (zT, (stI (rfS l 1)).2)
def q0 (l : List ByteArray) (t : Trd) : Trd × Int := if (stI (rfS l 0)).2 = 0 then q1 l { t with f0 := (stI (rfS l 0)).1 } else (zT, (stI (rfS l 0)).2)
def parseT (s : ByteArray) : Trd × Int := if (fieldsS s).2 = 0 then (if (fieldsS s).1.length = 10 then (if ((fieldsS s).1.drop 6).all nameB = true then q0 (fieldsS s).1 (t0T (fieldsS s).1) else (zT, 5)) else (zT, 5)) else (zT, (fieldsS s).2)
theorem Ev_q {α : Type} {g : Nat → Int × Int → Option α} {f : Nat → Option (Int × Int)} {v : Int × Int} {a b : α} (hf : Ev f v) (h1 : v.2 = 0 → Ev (fun k => g k v) a) (h2 : v.2 ≠ 0 → Ev (fun k => g k v) b) : Ev (fun k => (f k).bind (g k)) (if v.2 = 0 then a else b) := by
  refine Ev_bind hf ?_
  by_cases c : v.2 = 0
  · rw [if_pos c]; exact h1 c
  · rw [if_neg c]; exact h2 c
theorem int_fT (x : ByteArray) (h : x.size ≤ 512) : Ev (fun k => words_Int.f k x) (stI x) := int_f x (by omega)
theorem pr5_f (l : List ByteArray) (t : Trd) (h : ∀ i, i < 10 → (rfS l i).size ≤ 512) : Ev (fun k => pr5 k l t) (q5 l t) := by
  unfold pr5 q5
  refine Ev_q (int_fT _ (h 5 (by omega))) (fun c => ?_) (fun c => ?_)
  · simp only [if_pos c, pr6]; exact Ev.now _
  · simp only [if_neg c]; exact Ev.now _
theorem pr4_f (l : List ByteArray) (t : Trd) (h : ∀ i, i < 10 → (rfS l i).size ≤ 512) : Ev (fun k => pr4 k l t) (q4 l t) := by
  unfold pr4 q4
  refine Ev_q (int_fT _ (h 4 (by omega))) (fun c => ?_) (fun c => ?_)
  · simp only [if_pos c]; exact pr5_f l _ h
  · simp only [if_neg c]; exact Ev.now _
theorem pr3_f (l : List ByteArray) (t : Trd) (h : ∀ i, i < 10 → (rfS l i).size ≤ 512) : Ev (fun k => pr3 k l t) (q3 l t) := by
  unfold pr3 q3
  refine Ev_bind (parse_f10 _ (by have := h 3 (by omega); omega)) ?_
  by_cases c : (parseS (rfS l 3)).2 = 0
  · simp only [if_pos c, if_pos (show (tS (parseS (rfS l 3))).2.2.2.2 = 0 from c)]; exact pr4_f l _ h
  · simp only [if_neg c, if_neg (show ¬ (tS (parseS (rfS l 3))).2.2.2.2 = 0 from c)]; exact Ev.now _
theorem pr2_f (l : List ByteArray) (t : Trd) (h : ∀ i, i < 10 → (rfS l i).size ≤ 512) : Ev (fun k => pr2 k l t) (q2 l t) := by
  unfold pr2 q2
  refine Ev_q (int_fT _ (h 2 (by omega))) (fun c => ?_) (fun c => ?_)
  · simp only [if_pos c]; exact pr3_f l _ h
  · simp only [if_neg c]; exact Ev.now _
theorem pr1_f (l : List ByteArray) (t : Trd) (h : ∀ i, i < 10 → (rfS l i).size ≤ 512) : Ev (fun k => pr1 k l t) (q1 l t) := by
  unfold pr1 q1
  refine Ev_q (int_fT _ (h 1 (by omega))) (fun c => ?_) (fun c => ?_)
  · simp only [if_pos c]; exact pr2_f l _ h
  · simp only [if_neg c]; exact Ev.now _
theorem pr0_f (l : List ByteArray) (t : Trd) (h : ∀ i, i < 10 → (rfS l i).size ≤ 512) : Ev (fun k => pr0 k l t) (q0 l t) := by
  unfold pr0 q0
  refine Ev_q (int_fT _ (h 0 (by omega))) (fun c => ?_) (fun c => ?_)
  · simp only [if_pos c]; exact pr1_f l _ h
  · simp only [if_neg c]; exact Ev.now _
theorem ixf_loop (l : List ByteArray) (hl : l.length ≤ 100000) : ∀ (d i : Nat), i + d = l.length → ∃ r, Ev (fun k => slices_IndexFunc_string_string.l0 k l l.length (i : Int)) r ∧ decide (r ≥ 0) = !((l.drop i).all nameB)
  | 0, i, hd => by
    refine ⟨-1, Ev_succ ?_, ?_⟩
    · simp only [slices_IndexFunc_string_string.l0, if_neg (show ¬ (i : Int) < (l.length : Int) by omega)]
      exact Ev.now _
    · rw [List.drop_of_length_le (by omega)]; rfl
  | d + 1, i, hd => by
    have hi : i < l.length := by omega
    have hr : rdOf ByteArray.empty l (i : Int) = l[i] := rdOf_nat _ _ i hi
    have hp : Ev (fun k => trade_Parse_1.f k l[i]) (!nameB l[i]) := by
      unfold trade_Parse_1.f
      exact Ev_bind (name_f l[i]) (Ev.now _)
    obtain ⟨r, h1, h2⟩ := ixf_loop l hl d (i + 1) (by omega)
    by_cases c : nameB l[i] = true
    · refine ⟨r, Ev_succ ?_, ?_⟩
      · simp only [slices_IndexFunc_string_string.l0, if_pos (show (i : Int) < (l.length : Int) by omega), if_pos (show 0 ≤ (i : Int) by omega), hr, w_succ hi (by omega)]
        refine Ev_bind hp ?_
        rw [c]
        simp only [Bool.not_true, Bool.false_eq_true, if_false]
        exact h1
      · rw [h2, drop_cons l i hi, List.all_cons, c, Bool.true_and]
    · have c' : nameB l[i] = false := by simpa using c
      refine ⟨(i : Int), Ev_succ ?_, ?_⟩
      · simp only [slices_IndexFunc_string_string.l0, if_pos (show (i : Int) < (l.length : Int) by omega), if_pos (show 0 ≤ (i : Int) by omega), hr, w_succ hi (by omega)]
        refine Ev_bind hp ?_
        rw [c']
        simp only [Bool.not_false, if_true]
        exact Ev.now _
      · rw [drop_cons l i hi, List.all_cons, c', Bool.false_and, decide_eq_true (by omega)]
        rfl
theorem contains_f (l : List ByteArray) (hl : l.length ≤ 100000) : Ev (fun k => slices_ContainsFunc_string_string.f k l) (!(l.all nameB)) := by
  unfold slices_ContainsFunc_string_string.f
  obtain ⟨r, h1, h2⟩ := ixf_loop l hl l.length 0 (by omega)
  rw [List.drop_zero] at h2
  refine Ev_bind (g := fun k => slices_IndexFunc_string_string.f k l) h1 ?_
  rw [h2]
  exact Ev.now _
theorem prs_f (s : ByteArray) : Ev (fun k => prsT k s) (parseT s) := by
  unfold prsT parseT
  refine Ev_bind (fields_f s) ?_
  by_cases c1 : (fieldsS s).2 = 0
  case neg => simp only [if_neg c1]; exact Ev.now _
  simp only [if_pos c1]
  by_cases c2 : (fieldsS s).1.length = 10
  case neg => simp only [if_neg c2]; exact Ev.now _
  simp only [if_pos c2]
  refine Ev_bind (contains_f _ (by rw [List.length_drop]; omega)) ?_
  by_cases c3 : ((fieldsS s).1.drop 6).all nameB = true
  · simp only [c3, Bool.not_true, Bool.false_eq_true, if_false, if_true]
    exact pr0_f _ _ fun i hi => rfS_512 i (by omega)
  · have c3' : ((fieldsS s).1.drop 6).all nameB = false := by simpa using c3
    simp only [c3', Bool.not_false, if_true, Bool.false_eq_true, if_false]
    exact Ev.now _
theorem tparse_f (s : ByteArray) : Ev (fun k => trade_Parse.f k s) (tupE (parseT s).1 (parseT s).2) := by
  unfold trade_Parse.f
  exact Ev_bind (prs_f s) (Ev.now _)
def lineT (t : Trd) : List ByteArray := [textS t.f0, textS t.f1, textS t.f2, printS t.f3, textS t.f4, textS t.f5, t.f6.f0, t.f6.f1, t.f7.f0, t.f7.f1]
def I64T (t : Trd) : Prop := I64 t.f0 ∧ I64 t.f1 ∧ I64 t.f2 ∧ I64 t.f3.f3 ∧ I64 t.f4 ∧ I64 t.f5
theorem tprint_f (t : Trd) (hI : I64T t) (h3 : t.f3.f0.size ≤ 140737488351232) (hs : sumZ (lineT t) ≤ 140737488355328) : Ev (fun k => trade_Print.f k t.f0 t.f1 t.f2 t.f3.f0 t.f3.f1 t.f3.f2 t.f3.f3 t.f4 t.f5 t.f6.f0 t.f6.f1 t.f7.f0 t.f7.f1) (joinS (lineT t)) := by
  obtain ⟨i0, i1, i2, i3, i4, i5⟩ := hI
  unfold trade_Print.f
  have e0 : words_Text.f t.f0 = some (textS t.f0) := text_f _ i0.1 i0.2
  have e1 : words_Text.f t.f1 = some (textS t.f1) := text_f _ i1.1 i1.2
  have e2 : words_Text.f t.f2 = some (textS t.f2) := text_f _ i2.1 i2.2
  have e4 : words_Text.f t.f4 = some (textS t.f4) := text_f _ i4.1 i4.2
  have e5 : words_Text.f t.f5 = some (textS t.f5) := text_f _ i5.1 i5.2
  rw [e0, e1, e2, e4, e5]
  simp only [Option.bind_some]
  refine Ev_bind (print_f10 t.f3 h3 i3) ?_
  have hj := join_f (lineT t) hs
  have hl : ([textS t.f0, textS t.f1, textS t.f2, printS t.f3, textS t.f4, textS t.f5, t.f6.f0, t.f6.f1, t.f7.f0, t.f7.f1] : List ByteArray) = lineT t := rfl
  rw [hl, hj]
  exact Ev.now _
theorem parse_rngS (t : ByteArray) : (parseS t).1.f0.size ≤ t.size ∧ I64 (parseS t).1.f3 := by
  have hz : zS.f0.size ≤ t.size ∧ I64 zS.f3 := ⟨Nat.zero_le _, by show (-9223372036854775808 : Int) ≤ 0 ∧ (0 : Int) ≤ 9223372036854775807; omega⟩
  unfold parseS parseL
  by_cases c0 : (piecesS t).length = 3
  case neg => rw [if_neg c0]; exact hz
  rw [if_pos c0]
  have h0 : (rdOf ByteArray.empty (piecesS t) 0).size ≤ t.size := by
    have e : rdOf ByteArray.empty (piecesS t) 0 = (piecesS t)[0]'(by omega) := rdOf_nat _ _ 0 _
    rw [e]; exact pieces_sz (List.getElem_mem _)
  generalize rdOf ByteArray.empty (piecesS t) 0 = a at *
  generalize rdOf ByteArray.empty (piecesS t) 1 = b at *
  generalize rdOf ByteArray.empty (piecesS t) 2 = c at *
  unfold parse3
  by_cases c1 : okForm a b c
  case neg => rw [if_neg c1]; exact hz
  rw [if_pos c1]
  by_cases c2 : (dayOf (numV 0 (bytesOf b))).2 = 0
  case neg => rw [if_neg c2]; exact hz
  rw [if_pos c2]
  by_cases c3 : kindI (bytesOf c) = 1
  · rw [if_pos c3]; exact ⟨h0, hz.2⟩
  rw [if_neg c3]
  by_cases c4 : (intL (bytesOf c).tail).2 = 0
  case neg => rw [if_neg c4]; exact hz
  rw [if_pos c4]
  by_cases c5 : (intL (bytesOf c).tail).1 < -16777216 ∨ (intL (bytesOf c).tail).1 > 16777216
  · rw [if_pos c5]; exact hz
  rw [if_neg c5]
  refine ⟨h0, ?_⟩
  show (-9223372036854775808 : Int) ≤ (intL (bytesOf c).tail).1 ∧ (intL (bytesOf c).tail).1 ≤ 9223372036854775807
  omega
theorem st_back {x : ByteArray} (h : (stI x).2 = 0) : textS (stI x).1 = x ∧ I64 (stI x).1 := by
  obtain ⟨t1, t2, t3, _⟩ := text_int h
  refine ⟨?_, ?_⟩
  · unfold textS stI; rw [t1, str_by]
  · unfold stI; exact ⟨by omega, by omega⟩
theorem q0_back {l : List ByteArray} {t : Trd} (h : (q0 l t).2 = 0) : (stI (rfS l 0)).2 = 0 ∧ (stI (rfS l 1)).2 = 0 ∧ (stI (rfS l 2)).2 = 0 ∧ (parseS (rfS l 3)).2 = 0 ∧ (stI (rfS l 4)).2 = 0 ∧ (stI (rfS l 5)).2 = 0 ∧ (q0 l t).1 = { t with f0 := (stI (rfS l 0)).1, f1 := (stI (rfS l 1)).1, f2 := (stI (rfS l 2)).1, f3 := (parseS (rfS l 3)).1, f4 := (stI (rfS l 4)).1, f5 := (stI (rfS l 5)).1 } := by
  unfold q0 at h ⊢
  by_cases c0 : (stI (rfS l 0)).2 = 0
  case neg => rw [if_neg c0] at h; exact absurd h c0
  rw [if_pos c0] at h ⊢
  unfold q1 at h ⊢
  by_cases c1 : (stI (rfS l 1)).2 = 0
  case neg => rw [if_neg c1] at h; exact absurd h c1
  rw [if_pos c1] at h ⊢
  unfold q2 at h ⊢
  by_cases c2 : (stI (rfS l 2)).2 = 0
  case neg => rw [if_neg c2] at h; exact absurd h c2
  rw [if_pos c2] at h ⊢
  unfold q3 at h ⊢
  by_cases c3 : (parseS (rfS l 3)).2 = 0
  case neg => rw [if_neg c3] at h; exact absurd h c3
  rw [if_pos c3] at h ⊢
  unfold q4 at h ⊢
  by_cases c4 : (stI (rfS l 4)).2 = 0
  case neg => rw [if_neg c4] at h; exact absurd h c4
  rw [if_pos c4] at h ⊢
  unfold q5 at h ⊢
  by_cases c5 : (stI (rfS l 5)).2 = 0
  case neg => rw [if_neg c5] at h; exact absurd h c5
  rw [if_pos c5]
  exact ⟨c0, c1, c2, c3, c4, c5, rfl⟩
theorem list10 {l : List ByteArray} (h : l.length = 10) : [rfS l 0, rfS l 1, rfS l 2, rfS l 3, rfS l 4, rfS l 5, rfS l 6, rfS l 7, rfS l 8, rfS l 9] = l := by
  rcases l with _ | ⟨a, _ | ⟨b, _ | ⟨c, _ | ⟨d, _ | ⟨e, _ | ⟨f, _ | ⟨g, _ | ⟨i, _ | ⟨j, _ | ⟨k, _ | ⟨m, r⟩⟩⟩⟩⟩⟩⟩⟩⟩⟩⟩
  case cons.cons.cons.cons.cons.cons.cons.cons.cons.cons.nil => rfl
  all_goals (simp at h)
theorem parse_back {s : ByteArray} (h : (parseT s).2 = 0) : lineT (parseT s).1 = (fieldsS s).1 ∧ joinS (lineT (parseT s).1) = s ∧ I64T (parseT s).1 ∧ (parseT s).1.f3.f0.size ≤ 512 ∧ (fieldsS s).1.length = 10 := by
  unfold parseT at h ⊢
  by_cases c1 : (fieldsS s).2 = 0
  case neg => rw [if_neg c1] at h; exact absurd h c1
  rw [if_pos c1] at h ⊢
  by_cases c2 : (fieldsS s).1.length = 10
  case neg => rw [if_neg c2] at h; exact absurd h (by decide)
  rw [if_pos c2] at h ⊢
  by_cases c3 : ((fieldsS s).1.drop 6).all nameB = true
  case neg => rw [if_neg c3] at h; exact absurd h (by decide)
  rw [if_pos c3] at h ⊢
  have hj := join_of_fields c1
  have h3 : (rfS (fieldsS s).1 3).size ≤ 512 := rfS_512 3 (by omega)
  generalize (fieldsS s).1 = l at *
  obtain ⟨a0, a1, a2, a3, a4, a5, e⟩ := q0_back h
  rw [e]
  have b0 := st_back a0
  have b1 := st_back a1
  have b2 := st_back a2
  have b4 := st_back a4
  have b5 := st_back a5
  have hl : lineT { t0T l with f0 := (stI (rfS l 0)).1, f1 := (stI (rfS l 1)).1, f2 := (stI (rfS l 2)).1, f3 := (parseS (rfS l 3)).1, f4 := (stI (rfS l 4)).1, f5 := (stI (rfS l 5)).1 } = l := by
    show [textS (stI (rfS l 0)).1, textS (stI (rfS l 1)).1, textS (stI (rfS l 2)).1, printS (parseS (rfS l 3)).1, textS (stI (rfS l 4)).1, textS (stI (rfS l 5)).1, rfS l 6, rfS l 7, rfS l 8, rfS l 9] = l
    rw [b0.1, b1.1, b2.1, print_parse10 a3, b4.1, b5.1, list10 c2]
  have hr := parse_rngS (rfS l 3)
  exact ⟨hl, by rw [hl]; exact hj, ⟨b0.2, b1.2, b2.2, hr.2, b4.2, b5.2⟩, Nat.le_trans hr.1 h3, c2⟩
theorem fndM_mem {q : ByteArray} : ∀ {l : List Mem}, (fndM q l).2 = true → (fndM q l).1 ∈ l ∧ (fndM q l).1.f0.toList = q.toList
  | [], h => by cases h
  | x :: r, h => by
    unfold fndM at h ⊢
    by_cases c : x.f0.toList = q.toList
    · rw [if_pos c]; exact ⟨by simp, c⟩
    · rw [if_neg c] at h ⊢
      obtain ⟨h1, h2⟩ := fndM_mem h
      exact ⟨by simp [h1], h2⟩
theorem fndA_mem {q : ByteArray} : ∀ {l : List Act11}, (fndA q l).2.2 = true → ∃ a ∈ l, a.f0.toList = q.toList
  | [], h => by cases h
  | x :: r, h => by
    unfold fndA at h
    by_cases c : x.f0.toList = q.toList
    · exact ⟨x, by simp, c⟩
    · rw [if_neg c] at h
      obtain ⟨a, h1, h2⟩ := fndA_mem h
      exact ⟨a, by simp [h1], h2⟩
theorem may_names {l : List Mem} {p q : ByteArray} (hc : memC l = 0) (h : mayT l p q = 0) : nameB p = true ∧ nameB q = true := by
  obtain ⟨h1, h2⟩ := mayT_zero h
  obtain ⟨m1, m2⟩ := fndM_mem h1
  obtain ⟨n1, n2, n3⟩ := memC_zero hc _ m1
  obtain ⟨a, a1, a2⟩ := fndA_mem h2
  exact ⟨by rw [← ba_ext m2]; exact n1, by rw [← ba_ext a2]; exact accV_zero _ _ 0 n3 a a1⟩
theorem fstP_mem {q : ByteArray} : ∀ {l : List Prod9}, (fstP q l).2 = true → (fstP q l).1.f0.toList = q.toList
  | [], h => by cases h
  | x :: r, h => by
    unfold fstP at h ⊢
    by_cases c : x.f0.toList = q.toList
    · rw [if_pos c]; exact c
    · rw [if_neg c] at h ⊢
      exact fstP_mem h
theorem price_zero {p : Prod9} {n : Int} (h : prodPrice p n = 0) : prodE p = 0 ∧ -16777216 ≤ n ∧ n ≤ 16777216 := by
  unfold prodPrice at h
  by_cases c : prodE p = 0
  case neg => rw [if_neg c] at h; exact absurd h c
  rw [if_pos c] at h
  by_cases c2 : n < p.f4 ∨ n > p.f5
  · rw [if_pos c2] at h; exact absurd h (by decide)
  have ok := prodE_zero c
  unfold ProdOk at ok
  exact ⟨c, by omega, by omega⟩
theorem prodE_name {p : Prod9} (h : prodE p = 0) : nameB p.f0 = true := by
  unfold prodE at h
  by_cases a : nameB p.f0 = true
  · exact a
  · rw [if_neg a] at h; exact absurd h (by decide)
theorem good_series {s : Ser} (h : okPrint s) (hn : nameB s.f0 = true) (h3 : I64 s.f3) : goodP (bytesOf (printS s)) = true ∧ (printS s).size ≤ 60 := by
  have g0 := name_good hn
  have hd := fun x hx => dig_rng (dayL_dig s.f2 x hx)
  have hl : ∀ x ∈ lastL s, okB x = true := by
    intro x hx
    unfold lastL at hx
    split at hx
    · rcases List.mem_cons.1 hx with rfl | hx
      · decide
      · exact text_rng9 _ x hx
    · split at hx
      · rcases List.mem_cons.1 hx with rfl | hx
        · decide
        · exact text_rng9 _ x hx
      · rcases List.mem_cons.1 hx with rfl | hx
        · decide
        · cases hx
  have hsz := textS_size s.f3 h3.1 h3.2
  have hll : (lastL s).length ≤ 22 := by
    have e : (textS s.f3).size = (textL s.f3).length := by rw [← textS_by, by_len]
    unfold lastL
    split
    · simp only [List.length_cons]; omega
    · split
      · simp only [List.length_cons]; omega
      · simp
  refine ⟨ok_good ?_ ?_, ?_⟩
  · rw [print_by h]; simp
  · rw [print_by h]
    intro x hx
    rcases List.mem_append.1 hx with hx | hx
    · exact (good_ok g0.1).2 x hx
    rcases List.mem_cons.1 hx with rfl | hx
    · decide
    rcases List.mem_append.1 hx with hx | hx
    · have := hd x hx; exact (okb_iff x).2 (by omega)
    rcases List.mem_cons.1 hx with rfl | hx
    · decide
    · exact hl x hx
  · have e : (printS s).size = (bytesOf (printS s)).length := by rw [by_len]
    rw [e, print_by h]
    have e2 : (dayL s.f2).length = 8 := by rw [dayL_eq]; rfl
    have e3 := g0.2
    simp only [List.length_append, List.length_cons, e2, by_len]
    omega
theorem st_text {n : Int} (h : -1152921504606846976 ≤ n ∧ n ≤ 1152921504606846976) : stI (textS n) = (n, 0) := by
  unfold stI
  rw [textS_by, int_text, if_pos (by omega)]
theorem parse_print12 (t : Trd) (h0 : 1 ≤ t.f0 ∧ t.f0 ≤ 1152921504606846976) (h1 : 0 ≤ t.f1 ∧ t.f1 ≤ 73048) (h2 : 0 ≤ t.f2 ∧ t.f2 ≤ 86399) (h4 : 1 ≤ t.f4 ∧ t.f4 ≤ 1048576) (h5 : -16777216 ≤ t.f5 ∧ t.f5 ≤ 16777216) (hk : okPrint t.f3) (hn : nameB t.f3.f0 = true) (h3 : -16777216 ≤ t.f3.f3 ∧ t.f3.f3 ≤ 16777216) (hf : t.f3.f1 = 1 → t.f3.f3 = 0) (n6 : nameB t.f6.f0 = true) (n7 : nameB t.f6.f1 = true) (n8 : nameB t.f7.f0 = true) (n9 : nameB t.f7.f1 = true) : parseT (joinS (lineT t)) = (t, 0) ∧ sumZ (lineT t) ≤ 512 := by
  obtain ⟨g3, z3⟩ := good_series hk hn ⟨by omega, by omega⟩
  have g6 := name_good n6
  have g7 := name_good n7
  have g8 := name_good n8
  have g9 := name_good n9
  have hgood : ∀ x ∈ lineT t, goodP (bytesOf x) = true := by
    intro x hx
    simp only [lineT, List.mem_cons, List.mem_nil_iff, or_false] at hx
    rcases hx with rfl | rfl | rfl | rfl | rfl | rfl | rfl | rfl | rfl | rfl
    · exact textS_good _
    · exact textS_good _
    · exact textS_good _
    · exact g3
    · exact textS_good _
    · exact textS_good _
    · exact g6.1
    · exact g7.1
    · exact g8.1
    · exact g9.1
  have z0 := textS_size t.f0 (by omega) (by omega)
  have z1 := textS_size t.f1 (by omega) (by omega)
  have z2 := textS_size t.f2 (by omega) (by omega)
  have z4 := textS_size t.f4 (by omega) (by omega)
  have z5 := textS_size t.f5 (by omega) (by omega)
  have hsum : sumZ (lineT t) ≤ 512 := by
    unfold sumZ lineT
    simp only [List.map_cons, List.map_nil, List.sum_cons, List.sum_nil]
    omega
  have hsz : (joinS (lineT t)).size ≤ 512 := by
    unfold joinS
    rw [strOfNums_size]
    have h1 := join_len ((lineT t).map bytesOf)
    simp only [lineT, List.map_cons, List.map_nil, List.sum_cons, List.sum_nil, by_len] at h1 ⊢
    omega
  have hfl := fields_of_join (l := lineT t) (by simp [lineT]) hgood hsz
  refine ⟨?_, hsum⟩
  have hser := parse_print10 hk hn h3 hf
  have hall : ((lineT t).drop 6).all nameB = true := by
    show ([t.f6.f0, t.f6.f1, t.f7.f0, t.f7.f1] : List ByteArray).all nameB = true
    simp [n6, n7, n8, n9]
  unfold parseT
  rw [hfl, if_pos rfl, if_pos (show (lineT t).length = 10 from rfl), if_pos hall]
  have r0 : rfS (lineT t) 0 = textS t.f0 := rfl
  have r1 : rfS (lineT t) 1 = textS t.f1 := rfl
  have r2 : rfS (lineT t) 2 = textS t.f2 := rfl
  have r3 : rfS (lineT t) 3 = printS t.f3 := rfl
  have r4 : rfS (lineT t) 4 = textS t.f4 := rfl
  have r5 : rfS (lineT t) 5 = textS t.f5 := rfl
  unfold q0
  rw [r0, st_text (by omega), if_pos rfl]
  unfold q1
  rw [r1, st_text (by omega), if_pos rfl]
  unfold q2
  rw [r2, st_text (by omega), if_pos rfl]
  unfold q3
  rw [r3, hser, if_pos rfl]
  unfold q4
  rw [r4, st_text (by omega), if_pos rfl]
  unfold q5
  rw [r5, st_text (by omega), if_pos rfl]
  rfl
theorem ser_facts {ps : List Prod9} {s : Ser} {n : Int} (hc : chkE ps s = 0) (hp : prodPrice (fstP s.f0 ps).1 n = 0) : okPrint s ∧ nameB s.f0 = true ∧ (-16777216 ≤ s.f3 ∧ s.f3 ≤ 16777216) ∧ (s.f1 = 1 → s.f3 = 0) ∧ (-16777216 ≤ n ∧ n ≤ 16777216) := by
  obtain ⟨p1, p2, p3⟩ := price_zero hp
  unfold chkE at hc
  by_cases c0 : allC ps = 0
  case neg => rw [if_neg c0] at hc; exact absurd hc c0
  rw [if_pos c0] at hc
  by_cases c1 : (fstP s.f0 ps).2 = true ∧ 1 ≤ s.f1 ∧ s.f1 ≤ 3
  case neg => rw [if_neg c1] at hc; exact absurd hc (by decide)
  rw [if_pos c1] at hc
  obtain ⟨c1, c2, c3⟩ := c1
  have hn : nameB s.f0 = true := by rw [← ba_ext (fstP_mem c1)]; exact prodE_name p1
  unfold tailC at hc
  by_cases c4 : s.f2 < 0 ∨ s.f2 > 73048
  · rw [if_pos c4] at hc; exact absurd hc (by decide)
  rw [if_neg c4] at hc
  by_cases c5 : s.f1 = 1
  · rw [if_pos c5] at hc
    by_cases c6 : s.f3 = 0
    · exact ⟨⟨c2, c3, by omega⟩, hn, by omega, fun _ => c6, p2, p3⟩
    · rw [if_neg c6] at hc; exact absurd hc (by decide)
  · rw [if_neg c5] at hc
    by_cases c6 : prodPrice (fstP s.f0 ps).1 s.f3 = 0
    · obtain ⟨_, q2, q3⟩ := price_zero c6
      exact ⟨⟨c2, c3, by omega⟩, hn, ⟨q2, q3⟩, fun h => absurd h c5, p2, p3⟩
    · rw [if_neg c6] at hc; exact absurd hc (by decide)
def numsE : List ByteArray → Option (List Int)
  | [] => some []
  | x :: r => if (intL (bytesOf x)).2 = 0 then (numsE r).map ((intL (bytesOf x)).1 :: ·) else none
theorem numsE_f : ∀ l : List ByteArray, (∀ x ∈ l, x.size ≤ 4611686018427387904) → Ev (fun k => prsNums k l) (numsE l)
  | [], _ => Ev.now _
  | x :: r, h => by
    have ih := numsE_f r fun y hy => h y (by simp [hy])
    unfold prsNums numsE
    refine Ev_bind (int_f x (h x (by simp))) ?_
    by_cases c : (intL (bytesOf x)).2 = 0
    · simp only [if_pos c]
      exact Ev_bind ih (Ev.now _)
    · simp only [if_neg c]
      exact Ev.now _
def gP (l : List ByteArray) (o : Option (List Int)) : Prod9 × Int :=
  match o with
  | none => (z50, 5)
  | some n => if (prsKind (rdOf ByteArray.empty l 6)).isSome = true then (if prodE ⟨rdOf ByteArray.empty l 0, rd n 0, rd n 1, rd n 2, rd n 3, rd n 4, kb (prsKind (rdOf ByteArray.empty l 6))⟩ = 0 then (⟨rdOf ByteArray.empty l 0, rd n 0, rd n 1, rd n 2, rd n 3, rd n 4, kb (prsKind (rdOf ByteArray.empty l 6))⟩, 0) else (z50, prodE ⟨rdOf ByteArray.empty l 0, rd n 0, rd n 1, rd n 2, rd n 3, rd n 4, kb (prsKind (rdOf ByteArray.empty l 6))⟩)) else (z50, 5)
def parseP (s : ByteArray) : Prod9 × Int := if (fieldsS s).2 = 0 then (if (fieldsS s).1.length = 7 then gP (fieldsS s).1 (numsE (((fieldsS s).1.drop 1).take 5)) else (z50, 5)) else (z50, (fieldsS s).2)
def tP (q : Prod9 × Int) : ByteArray × Int × Int × Int × Int × Int × Bool × Int := (q.1.f0, q.1.f1, q.1.f2, q.1.f3, q.1.f4, q.1.f5, q.1.f6, q.2)
theorem parseP_f (s : ByteArray) : Ev (fun k => product_Parse.f k s) (tP (parseP s)) := by
  unfold product_Parse.f parseP
  refine Ev_bind (fields_f s) ?_
  by_cases c1 : (fieldsS s).2 = 0
  case neg => simp only [if_neg c1]; exact Ev.now _
  simp only [if_pos c1]
  by_cases c2 : (fieldsS s).1.length = 7
  case neg => simp only [if_neg c2]; exact Ev.now _
  simp only [if_pos c2]
  refine Ev_bind (numsE_f _ fun x hx => fields_sz x (List.mem_of_mem_drop (List.mem_of_mem_take hx))) ?_
  cases numsE (((fieldsS s).1.drop 1).take 5) with
  | none => exact Ev.now _
  | some n =>
    unfold product_Parse.g gP
    by_cases c3 : (prsKind (rdOf ByteArray.empty (fieldsS s).1 6)).isSome = true
    case neg => simp only [if_neg c3]; exact Ev.now _
    simp only [if_pos c3]
    refine Ev_bind (prod_f ⟨rdOf ByteArray.empty (fieldsS s).1 0, rd n 0, rd n 1, rd n 2, rd n 3, rd n 4, kb (prsKind (rdOf ByteArray.empty (fieldsS s).1 6))⟩) ?_
    by_cases c4 : prodE ⟨rdOf ByteArray.empty (fieldsS s).1 0, rd n 0, rd n 1, rd n 2, rd n 3, rd n 4, kb (prsKind (rdOf ByteArray.empty (fieldsS s).1 6))⟩ = 0
    · simp only [if_pos c4]; exact Ev.now _
    · simp only [if_neg c4]; exact Ev.now _
def kindS (b : Bool) : ByteArray := if b = true then (⟨#[112, 104, 121, 115, 105, 99, 97, 108]⟩ : ByteArray) else (⟨#[99, 97, 115, 104]⟩ : ByteArray)
def lineP (p : Prod9) : List ByteArray := [p.f0, textS p.f1, textS p.f2, textS p.f3, textS p.f4, textS p.f5, kindS p.f6]
theorem print_f (p : Prod9) (h0 : p.f0.size ≤ 140737488351232) (h1 : I64 p.f1) (h2 : I64 p.f2) (h3 : I64 p.f3) (h4 : I64 p.f4) (h5 : I64 p.f5) : Ev (fun k => product_Print.f k p.f0 p.f1 p.f2 p.f3 p.f4 p.f5 p.f6) (joinS (lineP p)) := by
  unfold product_Print.f
  simp only [Option.bind_some]
  have step : ∀ (acc : List ByteArray) (i : Nat) (n : Int) (r : ByteArray), i < 5 → acc.length ≤ 10 → I64 n → rd [p.f1, p.f2, p.f3, p.f4, p.f5] (i : Int) = n → Ev (fun k => product_Print.l0 k (acc ++ [textS n]) [p.f1, p.f2, p.f3, p.f4, p.f5] 5 ((i + 1 : Nat) : Int) p.f0 p.f1 p.f2 p.f3 p.f4 p.f5 p.f6) r → Ev (fun k => product_Print.l0 k acc [p.f1, p.f2, p.f3, p.f4, p.f5] 5 (i : Int) p.f0 p.f1 p.f2 p.f3 p.f4 p.f5 p.f6) r := by
    intro acc i n r hi ha hn hr ih
    refine Ev_succ ?_
    have hl : (([p.f1, p.f2, p.f3, p.f4, p.f5] : List Int).length : Int) = 5 := rfl
    have ht : words_Text.f n = some (textS n) := text_f n hn.1 hn.2
    simp only [product_Print.l0, if_pos (show (i : Int) < 5 by omega), if_pos (show 0 ≤ (i : Int) by omega), hl, hr, ht, Option.bind_some, if_pos (show acc.length < 8796093022208 by omega), w_succ hi (by omega)]
    exact ih
  refine step [p.f0] 0 p.f1 _ (by decide) (by simp) h1 rfl ?_
  refine step _ 1 p.f2 _ (by decide) (by simp) h2 rfl ?_
  refine step _ 2 p.f3 _ (by decide) (by simp) h3 rfl ?_
  refine step _ 3 p.f4 _ (by decide) (by simp) h4 rfl ?_
  refine step _ 4 p.f5 _ (by decide) (by simp) h5 rfl ?_
  refine Ev_succ ?_
  have hk : product_kind.f p.f6 = some (kindS p.f6) := by unfold product_kind.f kindS; cases p.f6 <;> rfl
  have hz : sumZ (lineP p) ≤ 140737488355328 := by
    have z1 := textS_size p.f1 h1.1 h1.2
    have z2 := textS_size p.f2 h2.1 h2.2
    have z3 := textS_size p.f3 h3.1 h3.2
    have z4 := textS_size p.f4 h4.1 h4.2
    have z5 := textS_size p.f5 h5.1 h5.2
    have z6 : (kindS p.f6).size ≤ 8 := by unfold kindS; cases p.f6 <;> decide
    simp only [sumZ, lineP, List.map_cons, List.map_nil, List.sum_cons, List.sum_nil]
    omega
  have hj := join_f (lineP p) hz
  have hl : ([p.f0] ++ [textS p.f1] ++ [textS p.f2] ++ [textS p.f3] ++ [textS p.f4] ++ [textS p.f5] ++ [kindS p.f6] : List ByteArray) = lineP p := rfl
  have hlen : ([p.f0] ++ [textS p.f1] ++ [textS p.f2] ++ [textS p.f3] ++ [textS p.f4] ++ [textS p.f5] : List ByteArray).length < 8796093022208 := by simp
  simp only [product_Print.l0, if_neg (show ¬ ((4 + 1 : Nat) : Int) < 5 by decide), hk, Option.bind_some, if_pos hlen, hl, hj]
  exact Ev.now _
theorem parse_print {p : Prod9} (h : prodE p = 0) : parseP (joinS (lineP p)) = (p, 0) := by
  have hn : nameB p.f0 = true ∧ (0 ≤ p.f1 ∧ p.f1 < 8) ∧ (1 ≤ p.f2 ∧ p.f2 ≤ 4096) := by
    have h' := h
    unfold prodE at h'
    by_cases a : nameB p.f0 = true
    case neg => rw [if_neg a] at h'; exact absurd h' (by decide)
    rw [if_pos a] at h'
    by_cases b : p.f1 < 0 ∨ p.f1 ≥ 8
    · rw [if_pos b] at h'; exact absurd h' (by decide)
    rw [if_neg b] at h'
    by_cases c : p.f2 < 1 ∨ p.f2 > 4096
    · rw [if_pos c] at h'; exact absurd h' (by decide)
    exact ⟨a, by omega, by omega⟩
  obtain ⟨n0, n1, n2⟩ := hn
  have ok := prodE_zero h
  unfold ProdOk at ok
  have g0 := name_good n0
  have hk : goodP (bytesOf (kindS p.f6)) = true := by unfold kindS; cases p.f6 <;> decide
  have hgood : ∀ x ∈ lineP p, goodP (bytesOf x) = true := by
    intro x hx
    simp only [lineP, List.mem_cons, List.mem_nil_iff, or_false] at hx
    rcases hx with rfl | rfl | rfl | rfl | rfl | rfl | rfl
    · exact g0.1
    · exact textS_good _
    · exact textS_good _
    · exact textS_good _
    · exact textS_good _
    · exact textS_good _
    · exact hk
  have hsz : (joinS (lineP p)).size ≤ 512 := by
    unfold joinS
    rw [strOfNums_size]
    have h1 := join_len ((lineP p).map bytesOf)
    have z1 := textS_size p.f1 (by omega) (by omega)
    have z2 := textS_size p.f2 (by omega) (by omega)
    have z3 := textS_size p.f3 (by omega) (by omega)
    have z4 := textS_size p.f4 (by omega) (by omega)
    have z5 := textS_size p.f5 (by omega) (by omega)
    have z6 : (kindS p.f6).size ≤ 8 := by unfold kindS; cases p.f6 <;> decide
    simp only [lineP, List.map_cons, List.map_nil, List.sum_cons, List.sum_nil, by_len] at h1 ⊢
    omega
  have hf := fields_of_join (l := lineP p) (by simp [lineP]) hgood hsz
  have it : ∀ n : Int, -16777216 ≤ n → n ≤ 16777216 → intL (bytesOf (textS n)) = (n, 0) := by
    intro n a b
    rw [textS_by, int_text, if_pos (by omega)]
  have hnum : numsE (((lineP p).drop 1).take 5) = some [p.f1, p.f2, p.f3, p.f4, p.f5] := by
    show numsE [textS p.f1, textS p.f2, textS p.f3, textS p.f4, textS p.f5] = _
    simp only [numsE, it p.f1 (by omega) (by omega), it p.f2 (by omega) (by omega), it p.f3 (by omega) (by omega), it p.f4 (by omega) (by omega), it p.f5 (by omega) (by omega), if_true, Option.map_some]
  have hkk : prsKind (kindS p.f6) = some p.f6 := by
    unfold kindS prsKind
    cases p.f6 with
    | true => rw [if_pos rfl, if_pos rfl]
    | false =>
      have hne : ¬ (⟨#[112, 104, 121, 115, 105, 99, 97, 108]⟩ : ByteArray).toList = (⟨#[99, 97, 115, 104]⟩ : ByteArray).toList := by
        intro h
        have := congrArg ByteArray.size ((by_eq _ _).1 h)
        exact absurd this (by decide)
      rw [show (if false = true then (⟨#[112, 104, 121, 115, 105, 99, 97, 108]⟩ : ByteArray) else (⟨#[99, 97, 115, 104]⟩ : ByteArray)) = (⟨#[99, 97, 115, 104]⟩ : ByteArray) from rfl, if_neg hne, if_pos rfl]
  have hp : (⟨p.f0, p.f1, p.f2, p.f3, p.f4, p.f5, p.f6⟩ : Prod9) = p := rfl
  unfold parseP
  rw [hf]
  show (if (0 : Int) = 0 then (if (lineP p).length = 7 then gP (lineP p) (numsE (((lineP p).drop 1).take 5)) else _) else _) = _
  rw [if_pos rfl, if_pos (show (lineP p).length = 7 from rfl), hnum]
  unfold gP
  have r6 : rdOf ByteArray.empty (lineP p) 6 = kindS p.f6 := rfl
  have r0 : rdOf ByteArray.empty (lineP p) 0 = p.f0 := rfl
  simp only [r6, r0, hkk]
  have e : (⟨p.f0, rd [p.f1, p.f2, p.f3, p.f4, p.f5] 0, rd [p.f1, p.f2, p.f3, p.f4, p.f5] 1, rd [p.f1, p.f2, p.f3, p.f4, p.f5] 2, rd [p.f1, p.f2, p.f3, p.f4, p.f5] 3, rd [p.f1, p.f2, p.f3, p.f4, p.f5] 4, kb (some p.f6)⟩ : Prod9) = p := rfl
  rw [e, if_pos (show (some p.f6).isSome = true from rfl), if_pos h]
theorem dp_small {X x : Int} (h1 : 0 ≤ X) (h2 : X ≤ 100000) (h3 : 0 ≤ x) (h4 : x ≤ 9) : dpAdd X (48 + x) = 10 * X + x := by
  unfold dpAdd
  rw [show (48 + x - 48) % 256 = x by omega, w_id (x := 10 * X) (by omega) (by omega), w_id (by omega) (by omega)]
theorem dp_all (s : ByteArray) (x0 x1 x2 x3 x5 x6 x8 x9 : Int) (g0 : 0 ≤ x0 ∧ x0 ≤ 9) (g1 : 0 ≤ x1 ∧ x1 ≤ 9) (g2 : 0 ≤ x2 ∧ x2 ≤ 9) (g3 : 0 ≤ x3 ∧ x3 ≤ 9) (g5 : 0 ≤ x5 ∧ x5 ≤ 9) (g6 : 0 ≤ x6 ∧ x6 ≤ 9) (g8 : 0 ≤ x8 ∧ x8 ≤ 9) (g9 : 0 ≤ x9 ∧ x9 ≤ 9)
    (h0 : bt s 0 = 48 + x0) (h1 : bt s 1 = 48 + x1) (h2 : bt s 2 = 48 + x2) (h3 : bt s 3 = 48 + x3) (h4 : bt s 4 = 45) (h5 : bt s 5 = 48 + x5) (h6 : bt s 6 = 48 + x6) (h7 : bt s 7 = 45) (h8 : bt s 8 = 48 + x8) (h9 : bt s 9 = 48 + x9) :
    dpGo s 10 0 0 0 = some (10 * (10 * (10 * x0 + x1) + x2) + x3, 10 * x5 + x6, 10 * x8 + x9) := by
  have dig : ∀ x : Int, 0 ≤ x ∧ x ≤ 9 → ¬ (48 + x < 48 ∨ 57 < 48 + x) := fun x h => by omega
  have e10 : ∀ a b c, dpGo s 10 a b c = (if bt s 0 < 48 ∨ 57 < bt s 0 then none else dpGo s 9 (dpAdd a (bt s 0)) b c) := fun _ _ _ => rfl
  have e9 : ∀ a b c, dpGo s 9 a b c = (if bt s 1 < 48 ∨ 57 < bt s 1 then none else dpGo s 8 (dpAdd a (bt s 1)) b c) := fun _ _ _ => rfl
  have e8 : ∀ a b c, dpGo s 8 a b c = (if bt s 2 < 48 ∨ 57 < bt s 2 then none else dpGo s 7 (dpAdd a (bt s 2)) b c) := fun _ _ _ => rfl
  have e7 : ∀ a b c, dpGo s 7 a b c = (if bt s 3 < 48 ∨ 57 < bt s 3 then none else dpGo s 6 (dpAdd a (bt s 3)) b c) := fun _ _ _ => rfl
  have e6 : ∀ a b c, dpGo s 6 a b c = (if bt s 4 = 45 then dpGo s 5 a b c else none) := fun _ _ _ => rfl
  have e5 : ∀ a b c, dpGo s 5 a b c = (if bt s 5 < 48 ∨ 57 < bt s 5 then none else dpGo s 4 a (dpAdd b (bt s 5)) c) := fun _ _ _ => rfl
  have e4 : ∀ a b c, dpGo s 4 a b c = (if bt s 6 < 48 ∨ 57 < bt s 6 then none else dpGo s 3 a (dpAdd b (bt s 6)) c) := fun _ _ _ => rfl
  have e3 : ∀ a b c, dpGo s 3 a b c = (if bt s 7 = 45 then dpGo s 2 a b c else none) := fun _ _ _ => rfl
  have e2 : ∀ a b c, dpGo s 2 a b c = (if bt s 8 < 48 ∨ 57 < bt s 8 then none else dpGo s 1 a b (dpAdd c (bt s 8))) := fun _ _ _ => rfl
  have e1 : ∀ a b c, dpGo s 1 a b c = (if bt s 9 < 48 ∨ 57 < bt s 9 then none else dpGo s 0 a b (dpAdd c (bt s 9))) := fun _ _ _ => rfl
  have e0 : ∀ a b c, dpGo s 0 a b c = some (a, b, c) := fun _ _ _ => rfl
  rw [e10, h0, if_neg (dig _ g0), dp_small (by omega) (by omega) g0.1 g0.2, e9, h1, if_neg (dig _ g1), dp_small (by omega) (by omega) g1.1 g1.2, e8, h2, if_neg (dig _ g2), dp_small (by omega) (by omega) g2.1 g2.2, e7, h3, if_neg (dig _ g3), dp_small (by omega) (by omega) g3.1 g3.2, e6, h4, if_pos rfl, e5, h5, if_neg (dig _ g5), dp_small (by omega) (by omega) g5.1 g5.2, e4, h6, if_neg (dig _ g6), dp_small (by omega) (by omega) g6.1 g6.2, e3, h7, if_pos rfl, e2, h8, if_neg (dig _ g8), dp_small (by omega) (by omega) g8.1 g8.2, e1, h9, if_neg (dig _ g9), dp_small (by omega) (by omega) g9.1 g9.2, e0]
  simp only [Int.mul_zero, Int.zero_add]
theorem bt_str (L : List Int) (h : ∀ x ∈ L, 0 ≤ x ∧ x < 256) (i : Nat) (hi : i < L.length) : bt (strOfNums L) (i : Int) = L[i] := by
  rw [by_bt _ i (by rw [by_str L h]; exact hi)]
  simp only [by_str L h]
theorem date_back {day : Int} (h : 0 ≤ day ∧ day ≤ 73048) : ∃ s, date_Print.f day = some s ∧ date_Parse.f s = some (day, 0) := by
  unfold date_Print.f
  rw [if_pos h]
  refine ⟨_, rfl, ?_⟩
  have ho := of_split h
  obtain ⟨q1, q2, q3⟩ := (split_rng h)
  have q4 := split_day h
  generalize (splitV day).1 = y at *
  generalize (splitV day).2.1 = m at *
  generalize (splitV day).2.2.1 = d at *
  have hr : ∀ x ∈ dateC y m d false false false, 0 ≤ x ∧ x < 256 := by
    intro x hx
    simp only [dateC, Bool.false_eq_true, if_false, List.mem_cons, List.mem_nil_iff, or_false] at hx
    omega
  unfold date_Parse.f
  rw [if_pos (by rw [strOfNums_size]; rfl)]
  have b := fun i hi => bt_str (dateC y m d false false false) hr i hi
  rw [dp_all (strOfNums (dateC y m d false false false)) (y / 1000 % 10) (y / 100 % 10) (y / 10 % 10) (y % 10) (m / 10 % 10) (m % 10) (d / 10 % 10) (d % 10) (by omega) (by omega) (by omega) (by omega) (by omega) (by omega) (by omega) (by omega) (b 0 (by show 0 < 10; decide)) (b 1 (by show 1 < 10; decide)) (b 2 (by show 2 < 10; decide)) (b 3 (by show 3 < 10; decide)) (b 4 (by show 4 < 10; decide)) (b 5 (by show 5 < 10; decide)) (b 6 (by show 6 < 10; decide)) (b 7 (by show 7 < 10; decide)) (b 8 (by show 8 < 10; decide)) (b 9 (by show 9 < 10; decide))]
  show some (ofV _ _ _) = some (day, 0)
  rw [← ho]
  congr 2 <;> omega
end Go.Proofs.YtliooghmpkdmoaaGreatDoor.P
end
section
namespace Go.Proofs.YtliooghmpkdmoaaGreatDoor.P
open Go.RowKit Go.Proofs.YtliooghmpkdmoaaGreatDoorW.PrintWords Go.Proofs.YtliooghmpkdmoaaGreatDoorW.PrintMore Go.Proofs.YtliooghmpkdmoaaGreatDoor.X
set_option maxRecDepth 100000 in
theorem goes06 : Ev (fun k => contangotop_goes06.f k) true := Ev.of (k := 60) (contangotop_goes06.mono) (by decide +kernel)
end Go.Proofs.YtliooghmpkdmoaaGreatDoor.P
end
section
namespace Go.Proofs.YtliooghmpkdmoaaGreatDoor.Pure
set_option linter.unusedVariables false
set_option linter.unusedSimpArgs false
open Go.RowKit Go.Proofs.YtliooghmpkdmoaaGreatDoorW.PrintWords Go.Proofs.YtliooghmpkdmoaaGreatDoorW.PrintMore Go.Proofs.YtliooghmpkdmoaaGreatDoor.X Go.Proofs.YtliooghmpkdmoaaGreatDoor.P
theorem prodE_rng {p : Prod9} (h : prodE p = 0) : I64 p.f1 ∧ I64 p.f2 ∧ I64 p.f3 ∧ I64 p.f4 ∧ I64 p.f5 := by
  have ho := prodE_zero h
  unfold ProdOk at ho
  unfold prodE at h
  by_cases c0 : nameB p.f0 = true
  case neg => rw [if_neg c0] at h; exact absurd h (by decide)
  rw [if_pos c0] at h
  by_cases c1 : p.f1 < 0 ∨ p.f1 ≥ 8
  · rw [if_pos c1] at h; exact absurd h (by decide)
  rw [if_neg c1] at h
  by_cases c2 : p.f2 < 1 ∨ p.f2 > 4096
  · rw [if_pos c2] at h; exact absurd h (by decide)
  unfold I64
  omega
theorem tl_end (t : Trd) (ps : List Prod9) (hd : 0 ≤ t.f1 ∧ t.f1 ≤ 73048) (hk : okPrint t.f3) (hn : nameB t.f3.f0 = true) (h3 : -16777216 ≤ t.f3.f3 ∧ t.f3.f3 ≤ 16777216) (h1 : t.f3.f1 = 1 → t.f3.f3 = 0)
    (hf : (fstP t.f3.f0 ps).2 = true) (hp : prodE (fstP t.f3.f0 ps).1 = 0) :
    Ev (fun k => contangotop_TopTradeLine.j0 k ps (lineT t) false t.f0 t.f1 t.f2 t.f3.f0 t.f3.f1 t.f3.f2 t.f3.f3 t.f4 t.f5 t.f6.f0 t.f6.f1 t.f7.f0 t.f7.f1) true := by
  have hz := (good_series hk hn ⟨by omega, by omega⟩).2
  obtain ⟨ds, e1, e2⟩ := date_back hd
  have hpn := (name_good (prodE_name hp)).2
  have hok := prodE_rng hp
  refine Ev_succ ?_
  simp only [contangotop_TopTradeLine.j0, Bool.false_eq_true, if_false]
  simp only [if_pos (show (3 : Int) < ((lineT t).length : Int) by simp [lineT])]
  have r3 : rdOf ByteArray.empty (lineT t) 3 = printS t.f3 := rfl
  rw [r3]
  refine Ev_bind (parse_f10 _ (by omega)) ?_
  rw [parse_print10 hk hn h3 h1]
  have ef : product_Find.f ps t.f3.f0 = some (fstT (fstP t.f3.f0 ps)) := rfl
  rw [ef]
  simp only [Option.bind_some]
  generalize fstP t.f3.f0 ps = q at *
  obtain ⟨p, b⟩ := q
  dsimp only at hf hp hpn hok ⊢
  subst hf
  refine Ev_bind (print_f p (by omega) hok.1 hok.2.1 hok.2.2.1 hok.2.2.2.1 hok.2.2.2.2) ?_
  refine Ev_bind (parseP_f _) ?_
  rw [parse_print hp, e1]
  simp only [Option.bind_some]
  rw [e2]
  simp only [Option.bind_some, tS, tP, fstT, beq_self_eq_true, Bool.and_self, if_true]
  exact Ev_id goes06
theorem TopTradeLine : ∀ (x0 : S30) (l1 : List (S50)) (l2 : List (S107)), ok30 x0 → (l1.length ≤ maxLen ∧ l1.length * 64 ≤ 140737488351232 ∧ ∀ x ∈ l1, ok50 x) → (l2.length ≤ maxLen ∧ l2.length * 48 ≤ 140737488351232 ∧ ∀ x ∈ l2, ok107 x) → ∃ k, X.contangotop_TopTradeLine.f k x0.f0 x0.f1 x0.f2 x0.f3.f0 x0.f3.f1 x0.f3.f2 x0.f3.f3 x0.f4 x0.f5 x0.f6.f0 x0.f6.f1 x0.f7.f0 x0.f7.f1 l1 l2 = some true := by
  intro t ps ms h0 h1 h2
  have hl : ps.length ≤ 4611686018427387904 := by have := h1.2.1; omega
  refine Ev.rounds ?_
  unfold contangotop_TopTradeLine.f
  refine Ev_bind (tcheck_f t ps ms hl) ?_
  by_cases c : chkT t ps ms = 0
  case neg => simp only [if_neg c]; exact Ev_id goes06
  simp only [if_pos c]
  obtain ⟨a0, a1, a2, a3, a4, a5, a6, a7, a8, _⟩ := chkT_zero c
  obtain ⟨b1, b2, b3, b4, b5⟩ := ser_facts a0 a5
  obtain ⟨n6, n7⟩ := may_names a6 a7
  obtain ⟨n8, n9⟩ := may_names a6 a8
  obtain ⟨hpp, hz⟩ := parse_print12 t a2 a1 a3 a4 b5 b1 b2 b3 b4 n6 n7 n8 n9
  have hfs : fieldsS (joinS (lineT t)) = (lineT t, 0) := by
    have hb := parse_back (s := joinS (lineT t)) (by rw [hpp])
    rw [hpp] at hb
    have hf0 : (fieldsS (joinS (lineT t))).2 = 0 := by
      have h := congrArg Prod.snd hpp
      unfold parseT at h
      by_cases z : (fieldsS (joinS (lineT t))).2 = 0
      · exact z
      · rw [if_neg z] at h; exact h
    exact Prod.ext hb.1.symm hf0
  refine Ev_bind (tprint_f t ⟨⟨by omega, by omega⟩, ⟨by omega, by omega⟩, ⟨by omega, by omega⟩, ⟨by omega, by omega⟩, ⟨by omega, by omega⟩, ⟨by omega, by omega⟩⟩ (by have := (name_good b2).2; omega) (by omega)) ?_
  refine Ev_bind (fields_f _) ?_
  refine Ev_bind (tparse_f _) ?_
  rw [hpp, hfs]
  simp only []
  rw [join_f (lineT t) (by omega)]
  have hlen : ((lineT t).length : Int) = 10 := by simp [lineT]
  simp only [tupE, if_true, hlen, Option.bind_some, beq_self_eq_true, Bool.not_true, Bool.or_self, Bool.false_eq_true, if_false]
  refine Ev_bind (tcheck_f t ps ms hl) ?_
  rw [c]
  have hfp : (fstP t.f3.f0 ps).2 = true := by
    unfold chkE at a0
    by_cases c0 : allC ps = 0
    · rw [if_pos c0] at a0
      by_cases c1 : (fstP t.f3.f0 ps).2 = true ∧ 1 ≤ t.f3.f1 ∧ t.f3.f1 ≤ 3
      · exact c1.1
      · rw [if_neg c1] at a0; exact absurd a0 (by decide)
    · rw [if_neg c0] at a0; exact absurd a0 c0
  exact tl_end t ps a1 b1 b2 b3 b4 hfp (price_zero a5).1
end Go.Proofs.YtliooghmpkdmoaaGreatDoor.Pure
end
