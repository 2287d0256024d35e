/- Contracts: CommonLog, LogDifference. -/
import Derived.Test.YtcnhokifbgbegaaViO8
set_option linter.unusedSimpArgs false
set_option linter.unusedVariables false
namespace Go.Vi.Code
def logInL (a b : List Op) (c : Bool) : List Op := a.filter fun o => inL b o == c
def logInH (a b : List Op) (c : Bool) : List Op := if validLog a = true ∧ validLog b = true then logInL a b c else []
theorem logIn_c (a b : List Op) (c : Bool) (ha : a.length ≤ 1048576) (hb : b.length ≤ 1048576) (ta : TX a) (tb : TX b) : CL 57 [.sl (a.map encO), .sl (b.map encO), .bool c] [] =
    some (if validLog a = true ∧ validLog b = true then (.osl 0 0 (logInL a b c).length, [some (.rw 39 ((logInL a b c).map encO))]) else (.nsl, [])) := by
  refine callL_W _ _ _ (F := v57) rfl ?_
  have va := validLog_c a ha ta
  have vb := validLog_c b hb tb
  by_cases v1 : validLog a = true
  case neg =>
    have v1' : validLog a = false := by simpa using v1
    simp only [v57, go_sem, Nat.reduceEqDiff, ↓reduceIte, reduceCtorEq, Nat.reduceAdd, Nat.reduceSub, Nat.reduceLeDiff, Nat.reduceMul, Nat.reduceLT, Int.reduceLT, Int.reduceLE, Int.reduceNeg, Int.cast_ofNat_Int, Int.reduceToNat, Int.toNat_zero, ne_eq, not_false_eq_true, Int.reduceEq, va, v1', Bool.not_false]
  by_cases v2 : validLog b = true
  case neg =>
    have v2' : validLog b = false := by simpa using v2
    simp only [v57, go_sem, Nat.reduceEqDiff, ↓reduceIte, reduceCtorEq, Nat.reduceAdd, Nat.reduceSub, Nat.reduceLeDiff, Nat.reduceMul, Nat.reduceLT, Int.reduceLT, Int.reduceLE, Int.reduceNeg, Int.cast_ofNat_Int, Int.reduceToNat, Int.toNat_zero, ne_eq, not_false_eq_true, Int.reduceEq, va, v1, vb, v2', Bool.not_true, Bool.not_false]
  simp only [v57, go_sem, Nat.reduceEqDiff, ↓reduceIte, reduceCtorEq, Nat.reduceAdd, Nat.reduceSub, Nat.reduceLeDiff, Nat.reduceMul, Nat.reduceLT, Int.reduceLT, Int.reduceLE, Int.reduceNeg, Int.cast_ofNat_Int, Int.reduceToNat, Int.toNat_zero, ne_eq, not_false_eq_true, Int.reduceEq, va, v1, vb, v2, Bool.not_true]
  refine W_rounds (T := Nat × List Op) (fun t => ⟨ofL [(1, .sl (b.map encO)), (2, .bool c), (7, .osl 0 0 t.2.length), (19, .sl (a.map encO)), (20, .int .i64 a.length), (21, .int .i64 t.1)], [some (.rw 39 (t.2.map encO))], 0⟩)
    (fun t => t.1 ≤ a.length ∧ t.2 = (a.take t.1).filter fun o => inL b o == c) (fun t => a.length - t.1) (0, []) rfl rfl ⟨Nat.zero_le _, rfl⟩ ?_
  rintro ⟨i, o⟩ ⟨hi, ho⟩ Q1 IH OUT
  simp only at hi ho
  by_cases h : i < a.length
  · have c1 : decide ((i : Int) < a.length) = true := decide_eq_true (by omega)
    have c2 : (0 : Int) ≤ i := by omega
    have hr : (List.map encO a)[i]? = some (encO a[i]) := by simp [h]
    have hw : IntKind.i64.wrap ((i : Int) + 1) = ((i + 1 : Nat) : Int) := by rw [wrap_small _ (by omega) (by omega)]; rfl
    have hnx := filter_next a (fun o => inL b o == c) i h
    have hol : o.length ≤ i := by rw [ho]; exact Nat.le_trans (List.length_filter_le _ _) (by rw [List.length_take]; omega)
    have c4 : o.length + 1 ≤ rowMax := by simp only [rowMax]; omega
    rw [← ho] at hnx
    generalize a[i] = x at hr hnx
    obtain ⟨⟨s1, s2⟩, kd, ⟨t1, t2⟩, ⟨f1, f2⟩, ⟨p1, p2⟩, vl, en, tx⟩ := x
    have hin := isIn_c b hb s1 s2 kd t1 t2 f1 f2 p1 p2 vl en tx
    by_cases hx : (inL b ⟨⟨s1, s2⟩, kd, ⟨t1, t2⟩, ⟨f1, f2⟩, ⟨p1, p2⟩, vl, en, tx⟩ == c) = true
    · rw [if_pos hx] at hnx
      simp only [go_sem, Nat.reduceEqDiff, ↓reduceIte, reduceCtorEq, Nat.reduceAdd, Nat.reduceSub, Nat.reduceLeDiff, Nat.reduceMul, Nat.reduceLT, Int.reduceLT, Int.reduceLE, Int.reduceNeg, Int.cast_ofNat_Int, Int.reduceToNat, Int.toNat_zero, ne_eq, not_false_eq_true, Int.reduceEq, c1, c2, c4, hr, hw, encO, hin, hx, beq_self_eq_true, List.length_map]
      refine IH (i + 1, o ++ [⟨⟨s1, s2⟩, kd, ⟨t1, t2⟩, ⟨f1, f2⟩, ⟨p1, p2⟩, vl, en, tx⟩]) _ ⟨by simp only; omega, hnx.symm⟩ (by simp only; omega) ?_ rfl
      rw [renorm_eq]; simp only [List.map_cons, List.map_nil, go_sem, Nat.reduceEqDiff, ↓reduceIte, reduceCtorEq, Nat.reduceAdd, Nat.reduceSub, Nat.reduceLeDiff, Nat.reduceMul, Nat.reduceLT, Int.reduceLT, Int.reduceLE, Int.reduceNeg, List.map_append, List.length_append]; rfl
    · have hx' : (inL b ⟨⟨s1, s2⟩, kd, ⟨t1, t2⟩, ⟨f1, f2⟩, ⟨p1, p2⟩, vl, en, tx⟩ == c) = false := by simpa using hx
      rw [if_neg hx, List.append_nil] at hnx
      simp only [go_sem, Nat.reduceEqDiff, ↓reduceIte, reduceCtorEq, Nat.reduceAdd, Nat.reduceSub, Nat.reduceLeDiff, Nat.reduceMul, Nat.reduceLT, Int.reduceLT, Int.reduceLE, Int.reduceNeg, Int.cast_ofNat_Int, Int.reduceToNat, Int.toNat_zero, ne_eq, not_false_eq_true, Int.reduceEq, c1, c2, c4, hr, hw, encO, hin, hx', beq_self_eq_true, List.length_map]
      exact IH (i + 1, o) _ ⟨by simp only; omega, hnx.symm⟩ (by simp only; omega) (by rw [renorm_eq]; simp only [List.map_cons, List.map_nil, go_sem, Nat.reduceEqDiff, ↓reduceIte, reduceCtorEq, Nat.reduceAdd, Nat.reduceSub, Nat.reduceLeDiff, Nat.reduceMul, Nat.reduceLT, Int.reduceLT, Int.reduceLE, Int.reduceNeg]; rfl) rfl
  · have c1 : decide ((i : Int) < a.length) = false := decide_eq_false (by omega)
    have hos : o = logInL a b c := by rw [ho, List.take_of_length_le (by omega)]; rfl
    simp only [go_sem, Nat.reduceEqDiff, ↓reduceIte, reduceCtorEq, Nat.reduceAdd, Nat.reduceSub, Nat.reduceLeDiff, Nat.reduceMul, Nat.reduceLT, Int.reduceLT, Int.reduceLE, Int.reduceNeg, c1]
    refine OUT _ _ (by simp) ?_
    simp only [go_sem, Nat.reduceEqDiff, ↓reduceIte, reduceCtorEq, Nat.reduceAdd, Nat.reduceSub, Nat.reduceLeDiff, Nat.reduceMul, Nat.reduceLT, Int.reduceLT, Int.reduceLE, Int.reduceNeg]
    rw [hos]; rfl
theorem CommonLog_c (a b : List Op) (ha : a.length ≤ 1048576) (hb : b.length ≤ 1048576) (ta : TX a) (tb : TX b) : CL 18 [.sl (a.map encO), .sl (b.map encO)] [] =
    some (.osl 0 0 (logInH a b true).length, [some (.rw 39 ((logInH a b true).map encO))]) := by
  refine callL_W _ _ _ (F := v18) rfl ?_
  have h := logIn_c a b true ha hb ta tb
  by_cases hv : validLog a = true ∧ validLog b = true
  · rw [if_pos hv] at h
    simp only [v18, go_sem, Nat.reduceEqDiff, ↓reduceIte, reduceCtorEq, Nat.reduceAdd, Nat.reduceSub, Nat.reduceLeDiff, Nat.reduceMul, Nat.reduceLT, Int.reduceLT, Int.reduceLE, Int.reduceNeg, Int.cast_ofNat_Int, Int.reduceToNat, Int.toNat_zero, ne_eq, not_false_eq_true, Int.reduceEq, h]
    rw [show logInH a b true = logInL a b true from if_pos hv]; rfl
  · rw [if_neg hv] at h
    simp only [v18, go_sem, Nat.reduceEqDiff, ↓reduceIte, reduceCtorEq, Nat.reduceAdd, Nat.reduceSub, Nat.reduceLeDiff, Nat.reduceMul, Nat.reduceLT, Int.reduceLT, Int.reduceLE, Int.reduceNeg, Int.cast_ofNat_Int, Int.reduceToNat, Int.toNat_zero, ne_eq, not_false_eq_true, Int.reduceEq, h]
    rw [show logInH a b true = [] from if_neg hv]; rfl
theorem LogDifference_c (a b : List Op) (ha : a.length ≤ 1048576) (hb : b.length ≤ 1048576) (ta : TX a) (tb : TX b) : CL 23 [.sl (a.map encO), .sl (b.map encO)] [] =
    some (.osl 0 0 (logInH a b false).length, [some (.rw 39 ((logInH a b false).map encO))]) := by
  refine callL_W _ _ _ (F := v23) rfl ?_
  have h := logIn_c a b false ha hb ta tb
  by_cases hv : validLog a = true ∧ validLog b = true
  · rw [if_pos hv] at h
    simp only [v23, go_sem, Nat.reduceEqDiff, ↓reduceIte, reduceCtorEq, Nat.reduceAdd, Nat.reduceSub, Nat.reduceLeDiff, Nat.reduceMul, Nat.reduceLT, Int.reduceLT, Int.reduceLE, Int.reduceNeg, Int.cast_ofNat_Int, Int.reduceToNat, Int.toNat_zero, ne_eq, not_false_eq_true, Int.reduceEq, h]
    rw [show logInH a b false = logInL a b false from if_pos hv]; rfl
  · rw [if_neg hv] at h
    simp only [v23, go_sem, Nat.reduceEqDiff, ↓reduceIte, reduceCtorEq, Nat.reduceAdd, Nat.reduceSub, Nat.reduceLeDiff, Nat.reduceMul, Nat.reduceLT, Int.reduceLT, Int.reduceLE, Int.reduceNeg, Int.cast_ofNat_Int, Int.reduceToNat, Int.toNat_zero, ne_eq, not_false_eq_true, Int.reduceEq, h]
    rw [show logInH a b false = [] from if_neg hv]; rfl
theorem fits_encO (l : List Op) (j : Nat) : rowFits 12 (l.map encO)[j]? = true := by
  by_cases h : j < l.length <;> simp [h, rowFits, encO]
theorem one_row (a : List Op) (i : Nat) (h : i < a.length) : List.take 1 (List.drop i (List.map encO a)) = List.map encO [a[i]] := by
  rw [← List.map_drop, ← List.map_take, drop_next a i h]; rfl
theorem logDifference_s (a b : List Op) (ha : a.length ≤ 1048576) (hb : b.length ≤ 1048576) : CL 60 [.sl (a.map encO), .sl (b.map encO)] [] =
    some (.osl 0 0 (logInL a b false).length, [some (.rw 39 ((logInL a b false).map encO))]) := by
  refine callL_W _ _ _ (F := v60) rfl ?_
  simp only [v60, go_sem, Nat.reduceEqDiff, ↓reduceIte, reduceCtorEq, Nat.reduceAdd, Nat.reduceSub, Nat.reduceLeDiff, Nat.reduceMul, Nat.reduceLT, Int.reduceLT, Int.reduceLE, Int.reduceNeg, Int.cast_ofNat_Int, Int.reduceToNat, Int.toNat_zero, ne_eq, not_false_eq_true, Int.reduceEq]
  refine W_rounds (T := Nat × List Op) (fun t => ⟨ofL [(0, .sl (a.map encO)), (1, .sl (b.map encO)), (5, .osl 0 0 t.2.length), (6, .int .i64 t.1)], [some (.rw 39 (t.2.map encO))], 0⟩)
    (fun t => t.1 ≤ a.length ∧ t.2 = (a.take t.1).filter fun o => inL b o == false) (fun t => a.length - t.1) (0, []) rfl rfl ⟨Nat.zero_le _, rfl⟩ ?_
  rintro ⟨i, o⟩ ⟨hi, ho⟩ Q1 IH OUT
  simp only at hi ho
  by_cases h : i < a.length
  · have c1 : decide ((i : Int) < a.length) = true := decide_eq_true (by omega)
    have c2 : (0 : Int) ≤ i := by omega
    have c3 : (i : Int) ≤ ((i + 1 : Nat) : Int) := by omega
    have c5 : ((i + 1 : Nat) : Int) ≤ a.length := by omega
    have hr : (List.map encO a)[i]? = some (encO a[i]) := by simp [h]
    have hw : IntKind.i64.wrap ((i : Int) + 1) = ((i + 1 : Nat) : Int) := by rw [wrap_small _ (by omega) (by omega)]; rfl
    have hnx := filter_next a (fun o => inL b o == false) i h
    have hol : o.length ≤ i := by rw [ho]; exact Nat.le_trans (List.length_filter_le _ _) (by rw [List.length_take]; omega)
    have c4 : o.length + 1 ≤ rowMax := by simp only [rowMax]; omega
    rw [← ho] at hnx
    have h1 := one_row a i h
    have hf := fits_encO a i
    have e1 : i + 1 - i = 1 := by omega
    generalize a[i] = x at hr hnx h1
    have hin := containsOps_s b [x] hb (by simp)
    obtain ⟨⟨s1, s2⟩, kd, ⟨t1, t2⟩, ⟨f1, f2⟩, ⟨p1, p2⟩, vl, en, tx⟩ := x
    simp only [List.all_cons, List.all_nil, Bool.and_true, List.map_cons, List.map_nil, encO] at hin h1
    by_cases hx : inL b ⟨⟨s1, s2⟩, kd, ⟨t1, t2⟩, ⟨f1, f2⟩, ⟨p1, p2⟩, vl, en, tx⟩ = true
    · rw [if_neg (by rw [hx]; simp), List.append_nil] at hnx
      rw [hx] at hin
      simp only [go_sem, Nat.reduceEqDiff, ↓reduceIte, reduceCtorEq, Nat.reduceAdd, Nat.reduceSub, Nat.reduceLeDiff, Nat.reduceMul, Nat.reduceLT, Int.reduceLT, Int.reduceLE, Int.reduceNeg, Int.cast_ofNat_Int, Int.reduceToNat, Int.toNat_zero, ne_eq, not_false_eq_true, Int.reduceEq, c1, c2, c3, c5, c4, hf, e1, h1, hin, hw, beq_self_eq_true, List.length_map, Bool.not_true]
      exact IH (i + 1, o) _ ⟨by simp only; omega, hnx.symm⟩ (by simp only; omega) (by rw [renorm_eq]; simp only [List.map_cons, List.map_nil, go_sem, Nat.reduceEqDiff, ↓reduceIte, reduceCtorEq, Nat.reduceAdd, Nat.reduceSub, Nat.reduceLeDiff, Nat.reduceMul, Nat.reduceLT, Int.reduceLT, Int.reduceLE, Int.reduceNeg]; rfl) rfl
    · have hx' : inL b ⟨⟨s1, s2⟩, kd, ⟨t1, t2⟩, ⟨f1, f2⟩, ⟨p1, p2⟩, vl, en, tx⟩ = false := by simpa using hx
      rw [if_pos (by rw [hx']; rfl)] at hnx
      rw [hx'] at hin
      have hr' : (List.map encO a)[i]? = some [.int .i64 s1, .int .i64 s2, .int .i64 kd, .int .i64 t1, .int .i64 t2, .int .i64 f1, .int .i64 f2, .int .i64 p1, .int .i64 p2, .int .i64 vl, .bool en, .str tx] := hr
      simp only [go_sem, Nat.reduceEqDiff, ↓reduceIte, reduceCtorEq, Nat.reduceAdd, Nat.reduceSub, Nat.reduceLeDiff, Nat.reduceMul, Nat.reduceLT, Int.reduceLT, Int.reduceLE, Int.reduceNeg, Int.cast_ofNat_Int, Int.reduceToNat, Int.toNat_zero, ne_eq, not_false_eq_true, Int.reduceEq, c1, c2, c3, c5, c4, hf, e1, h1, hr', hin, hw, beq_self_eq_true, List.length_map, Bool.not_false]
      refine IH (i + 1, o ++ [⟨⟨s1, s2⟩, kd, ⟨t1, t2⟩, ⟨f1, f2⟩, ⟨p1, p2⟩, vl, en, tx⟩]) _ ⟨by simp only; omega, hnx.symm⟩ (by simp only; omega) ?_ rfl
      rw [renorm_eq]; simp only [List.map_cons, List.map_nil, go_sem, Nat.reduceEqDiff, ↓reduceIte, reduceCtorEq, Nat.reduceAdd, Nat.reduceSub, Nat.reduceLeDiff, Nat.reduceMul, Nat.reduceLT, Int.reduceLT, Int.reduceLE, Int.reduceNeg, List.map_append, List.length_append]; rfl
  · have c1 : decide ((i : Int) < a.length) = false := decide_eq_false (by omega)
    have hos : o = logInL a b false := by rw [ho, List.take_of_length_le (by omega)]; rfl
    simp only [go_sem, Nat.reduceEqDiff, ↓reduceIte, reduceCtorEq, Nat.reduceAdd, Nat.reduceSub, Nat.reduceLeDiff, Nat.reduceMul, Nat.reduceLT, Int.reduceLT, Int.reduceLE, Int.reduceNeg, c1]
    refine OUT _ _ (by simp) ?_
    simp only [go_sem, Nat.reduceEqDiff, ↓reduceIte, reduceCtorEq, Nat.reduceAdd, Nat.reduceSub, Nat.reduceLeDiff, Nat.reduceMul, Nat.reduceLT, Int.reduceLT, Int.reduceLE, Int.reduceNeg]
    rw [hos]; rfl
theorem LogDifference_s (a b : List Op) (ha : a.length ≤ 1048576) (hb : b.length ≤ 1048576) (ta : TX a) (tb : TX b) : CL 22 [.sl (a.map encO), .sl (b.map encO)] [] =
    some (.sl ((logInH a b false).map encO), []) := by
  refine callL_W _ _ _ (F := v22) rfl ?_
  have va := validLog_s a ha ta
  have vb := validLog_s b hb tb
  have hd := logDifference_s a b ha hb
  by_cases v1 : validLog a = true
  case neg =>
    have v1' : validLog a = false := by simpa using v1
    simp only [v22, go_sem, Nat.reduceEqDiff, ↓reduceIte, reduceCtorEq, Nat.reduceAdd, Nat.reduceSub, Nat.reduceLeDiff, Nat.reduceMul, Nat.reduceLT, Int.reduceLT, Int.reduceLE, Int.reduceNeg, Int.cast_ofNat_Int, Int.reduceToNat, Int.toNat_zero, ne_eq, not_false_eq_true, Int.reduceEq, va, v1', Bool.not_false]
    rw [show logInH a b false = [] from if_neg (fun h => v1 h.1)]; rfl
  by_cases v2 : validLog b = true
  case neg =>
    have v2' : validLog b = false := by simpa using v2
    simp only [v22, go_sem, Nat.reduceEqDiff, ↓reduceIte, reduceCtorEq, Nat.reduceAdd, Nat.reduceSub, Nat.reduceLeDiff, Nat.reduceMul, Nat.reduceLT, Int.reduceLT, Int.reduceLE, Int.reduceNeg, Int.cast_ofNat_Int, Int.reduceToNat, Int.toNat_zero, ne_eq, not_false_eq_true, Int.reduceEq, va, v1, vb, v2', Bool.not_true, Bool.not_false]
    rw [show logInH a b false = [] from if_neg (fun h => v2 h.2)]; rfl
  simp only [v22, go_sem, Nat.reduceEqDiff, ↓reduceIte, reduceCtorEq, Nat.reduceAdd, Nat.reduceSub, Nat.reduceLeDiff, Nat.reduceMul, Nat.reduceLT, Int.reduceLT, Int.reduceLE, Int.reduceNeg, Int.cast_ofNat_Int, Int.reduceToNat, Int.toNat_zero, ne_eq, not_false_eq_true, Int.reduceEq, va, v1, vb, v2, hd, Bool.not_true, List.length_map]
  rw [show logInH a b false = logInL a b false from if_pos ⟨v1, v2⟩]
theorem CommonLog_s (a b : List Op) (ha : a.length ≤ 1048576) (hb : b.length ≤ 1048576) (ta : TX a) (tb : TX b) : CL 16 [.sl (a.map encO), .sl (b.map encO)] [] =
    some (if validLog a = true ∧ validLog b = true then (.osl 0 0 (logInL a b true).length, [some (.rw 39 ((logInL a b true).map encO))]) else (.sl [], [])) := by
  refine callL_W _ _ _ (F := v16) rfl ?_
  have va := validLog_s a ha ta
  have vb := validLog_s b hb tb
  by_cases v1 : validLog a = true
  case neg =>
    have v1' : validLog a = false := by simpa using v1
    simp only [v16, go_sem, Nat.reduceEqDiff, ↓reduceIte, reduceCtorEq, Nat.reduceAdd, Nat.reduceSub, Nat.reduceLeDiff, Nat.reduceMul, Nat.reduceLT, Int.reduceLT, Int.reduceLE, Int.reduceNeg, Int.cast_ofNat_Int, Int.reduceToNat, Int.toNat_zero, ne_eq, not_false_eq_true, Int.reduceEq, va, v1', Bool.not_false]
  by_cases v2 : validLog b = true
  case neg =>
    have v2' : validLog b = false := by simpa using v2
    simp only [v16, go_sem, Nat.reduceEqDiff, ↓reduceIte, reduceCtorEq, Nat.reduceAdd, Nat.reduceSub, Nat.reduceLeDiff, Nat.reduceMul, Nat.reduceLT, Int.reduceLT, Int.reduceLE, Int.reduceNeg, Int.cast_ofNat_Int, Int.reduceToNat, Int.toNat_zero, ne_eq, not_false_eq_true, Int.reduceEq, va, v1, vb, v2', Bool.not_true, Bool.not_false]
  simp only [v16, go_sem, Nat.reduceEqDiff, ↓reduceIte, reduceCtorEq, Nat.reduceAdd, Nat.reduceSub, Nat.reduceLeDiff, Nat.reduceMul, Nat.reduceLT, Int.reduceLT, Int.reduceLE, Int.reduceNeg, Int.cast_ofNat_Int, Int.reduceToNat, Int.toNat_zero, ne_eq, not_false_eq_true, Int.reduceEq, va, v1, vb, v2, Bool.not_true]
  refine W_rounds (T := Nat × List Op) (fun t => ⟨ofL [(0, .sl (a.map encO)), (1, .sl (b.map encO)), (5, .osl 0 0 t.2.length), (6, .int .i64 t.1)], [some (.rw 39 (t.2.map encO))], 0⟩)
    (fun t => t.1 ≤ a.length ∧ t.2 = (a.take t.1).filter fun o => inL b o == true) (fun t => a.length - t.1) (0, []) (by rw [renorm_eq]; simp only [List.map_cons, List.map_nil, go_sem, Nat.reduceEqDiff, ↓reduceIte, reduceCtorEq, Nat.reduceAdd, Nat.reduceSub, Nat.reduceLeDiff, Nat.reduceMul, Nat.reduceLT, Int.reduceLT, Int.reduceLE, Int.reduceNeg]; rfl) rfl ⟨Nat.zero_le _, rfl⟩ ?_
  rintro ⟨i, o⟩ ⟨hi, ho⟩ Q1 IH OUT
  simp only at hi ho
  by_cases h : i < a.length
  · have c1 : decide ((i : Int) < a.length) = true := decide_eq_true (by omega)
    have c2 : (0 : Int) ≤ i := by omega
    have c3 : (i : Int) ≤ ((i + 1 : Nat) : Int) := by omega
    have c5 : ((i + 1 : Nat) : Int) ≤ a.length := by omega
    have hr : (List.map encO a)[i]? = some (encO a[i]) := by simp [h]
    have hw : IntKind.i64.wrap ((i : Int) + 1) = ((i + 1 : Nat) : Int) := by rw [wrap_small _ (by omega) (by omega)]; rfl
    have hnx := filter_next a (fun o => inL b o == true) i h
    have hol : o.length ≤ i := by rw [ho]; exact Nat.le_trans (List.length_filter_le _ _) (by rw [List.length_take]; omega)
    have c4 : o.length + 1 ≤ rowMax := by simp only [rowMax]; omega
    rw [← ho] at hnx
    have h1 := one_row a i h
    have hf := fits_encO a i
    have e1 : i + 1 - i = 1 := by omega
    generalize a[i] = x at hr hnx h1
    have hin := containsOps_s b [x] hb (by simp)
    obtain ⟨⟨s1, s2⟩, kd, ⟨t1, t2⟩, ⟨f1, f2⟩, ⟨p1, p2⟩, vl, en, tx⟩ := x
    simp only [List.all_cons, List.all_nil, Bool.and_true, List.map_cons, List.map_nil, encO] at hin h1
    by_cases hx : inL b ⟨⟨s1, s2⟩, kd, ⟨t1, t2⟩, ⟨f1, f2⟩, ⟨p1, p2⟩, vl, en, tx⟩ = true
    · rw [if_pos (by rw [hx]; rfl)] at hnx
      rw [hx] at hin
      have hr' : (List.map encO a)[i]? = some [.int .i64 s1, .int .i64 s2, .int .i64 kd, .int .i64 t1, .int .i64 t2, .int .i64 f1, .int .i64 f2, .int .i64 p1, .int .i64 p2, .int .i64 vl, .bool en, .str tx] := hr
      simp only [go_sem, Nat.reduceEqDiff, ↓reduceIte, reduceCtorEq, Nat.reduceAdd, Nat.reduceSub, Nat.reduceLeDiff, Nat.reduceMul, Nat.reduceLT, Int.reduceLT, Int.reduceLE, Int.reduceNeg, Int.cast_ofNat_Int, Int.reduceToNat, Int.toNat_zero, ne_eq, not_false_eq_true, Int.reduceEq, c1, c2, c3, c5, c4, hf, e1, h1, hr', hin, hw, beq_self_eq_true, List.length_map]
      refine IH (i + 1, o ++ [⟨⟨s1, s2⟩, kd, ⟨t1, t2⟩, ⟨f1, f2⟩, ⟨p1, p2⟩, vl, en, tx⟩]) _ ⟨by simp only; omega, hnx.symm⟩ (by simp only; omega) ?_ rfl
      rw [renorm_eq]; simp only [List.map_cons, List.map_nil, go_sem, Nat.reduceEqDiff, ↓reduceIte, reduceCtorEq, Nat.reduceAdd, Nat.reduceSub, Nat.reduceLeDiff, Nat.reduceMul, Nat.reduceLT, Int.reduceLT, Int.reduceLE, Int.reduceNeg, List.map_append, List.length_append]; rfl
    · have hx' : inL b ⟨⟨s1, s2⟩, kd, ⟨t1, t2⟩, ⟨f1, f2⟩, ⟨p1, p2⟩, vl, en, tx⟩ = false := by simpa using hx
      rw [if_neg (by rw [hx']; simp), List.append_nil] at hnx
      rw [hx'] at hin
      simp only [go_sem, Nat.reduceEqDiff, ↓reduceIte, reduceCtorEq, Nat.reduceAdd, Nat.reduceSub, Nat.reduceLeDiff, Nat.reduceMul, Nat.reduceLT, Int.reduceLT, Int.reduceLE, Int.reduceNeg, Int.cast_ofNat_Int, Int.reduceToNat, Int.toNat_zero, ne_eq, not_false_eq_true, Int.reduceEq, c1, c2, c3, c5, c4, hf, e1, h1, hin, hw, beq_self_eq_true, List.length_map]
      exact IH (i + 1, o) _ ⟨by simp only; omega, hnx.symm⟩ (by simp only; omega) (by rw [renorm_eq]; simp only [List.map_cons, List.map_nil, go_sem, Nat.reduceEqDiff, ↓reduceIte, reduceCtorEq, Nat.reduceAdd, Nat.reduceSub, Nat.reduceLeDiff, Nat.reduceMul, Nat.reduceLT, Int.reduceLT, Int.reduceLE, Int.reduceNeg]; rfl) rfl
  · have c1 : decide ((i : Int) < a.length) = false := decide_eq_false (by omega)
    have hos : o = logInL a b true := by rw [ho, List.take_of_length_le (by omega)]; rfl
    simp only [go_sem, Nat.reduceEqDiff, ↓reduceIte, reduceCtorEq, Nat.reduceAdd, Nat.reduceSub, Nat.reduceLeDiff, Nat.reduceMul, Nat.reduceLT, Int.reduceLT, Int.reduceLE, Int.reduceNeg, c1]
    refine OUT _ _ (by simp) ?_
    simp only [go_sem, Nat.reduceEqDiff, ↓reduceIte, reduceCtorEq, Nat.reduceAdd, Nat.reduceSub, Nat.reduceLeDiff, Nat.reduceMul, Nat.reduceLT, Int.reduceLT, Int.reduceLE, Int.reduceNeg]
    rw [hos]; rfl
end Go.Vi.Code
