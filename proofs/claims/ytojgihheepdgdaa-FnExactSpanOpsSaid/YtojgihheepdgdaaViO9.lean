/- Contracts: SpanOps; its law. -/
import Derived.Test.YtojgihheepdgdaaViO8
set_option linter.unusedSimpArgs false
set_option linter.unusedVariables false
namespace Go.Vi.Code
/-- Within a span: not below its lower end, and below its upper end, if it has one. -/
def inSpan (lo hi t : Stamp) : Bool := !stampLess t lo && (zeroS hi || stampLess t hi)
theorem inSpan_s (t1 t2 a1 a2 b1 b2 : Int) : CL 84 [.agg [.int .i64 t1, .int .i64 t2], .agg [.int .i64 a1, .int .i64 a2, .int .i64 b1, .int .i64 b2]] [] = some (.bool (inSpan ⟨a1, a2⟩ ⟨b1, b2⟩ ⟨t1, t2⟩), []) := by
  refine callL_W _ _ _ (F := v84) rfl ?_
  unfold inSpan
  by_cases h1 : stampLess ⟨t1, t2⟩ ⟨a1, a2⟩ = true
  · simp only [v84, go_sem, Nat.reduceEqDiff, ↓reduceIte, reduceCtorEq, Nat.reduceAdd, Nat.reduceSub, Nat.reduceLeDiff, Nat.reduceMul, Nat.reduceLT, Int.reduceLT, Int.reduceLE, Int.reduceNeg, Int.cast_ofNat_Int, Int.reduceToNat, Int.toNat_zero, ne_eq, not_false_eq_true, Int.reduceEq, stampLess_s, h1, Bool.not_true]
  · have h1' : stampLess ⟨t1, t2⟩ ⟨a1, a2⟩ = false := by simpa using h1
    by_cases h2 : zeroS ⟨b1, b2⟩ = true
    · simp only [v84, go_sem, Nat.reduceEqDiff, ↓reduceIte, reduceCtorEq, Nat.reduceAdd, Nat.reduceSub, Nat.reduceLeDiff, Nat.reduceMul, Nat.reduceLT, Int.reduceLT, Int.reduceLE, Int.reduceNeg, Int.cast_ofNat_Int, Int.reduceToNat, Int.toNat_zero, ne_eq, not_false_eq_true, Int.reduceEq, stampLess_s, isZero_s, h1', h2, Bool.not_false]
    · have h2' : zeroS ⟨b1, b2⟩ = false := by simpa using h2
      simp only [v84, go_sem, Nat.reduceEqDiff, ↓reduceIte, reduceCtorEq, Nat.reduceAdd, Nat.reduceSub, Nat.reduceLeDiff, Nat.reduceMul, Nat.reduceLT, Int.reduceLT, Int.reduceLE, Int.reduceNeg, Int.cast_ofNat_Int, Int.reduceToNat, Int.toNat_zero, ne_eq, not_false_eq_true, Int.reduceEq, stampLess_s, isZero_s, h1', h2', Bool.not_false]
def spanL (l : List Op) (lo hi : Stamp) : List Op := l.filter fun o => inSpan lo hi o.id
theorem filter_next {α : Type} (l : List α) (p : α → Bool) (i : Nat) (h : i < l.length) : (l.take (i + 1)).filter p = (l.take i).filter p ++ (if p l[i] = true then [l[i]] else []) := by
  rw [take_next l i h, List.filter_append]
  by_cases hp : p l[i] = true <;> simp [List.filter_cons, hp]
theorem spanOps_s (l : List Op) (hl : l.length ≤ 1048576) (a1 a2 b1 b2 : Int) : CL 75 [.sl (l.map encO), .agg [.int .i64 a1, .int .i64 a2, .int .i64 b1, .int .i64 b2]] [] =
    some (.osl 0 0 (spanL l ⟨a1, a2⟩ ⟨b1, b2⟩).length, [some (.rw 95 ((spanL l ⟨a1, a2⟩ ⟨b1, b2⟩).map encO))]) := by
  refine callL_W _ _ _ (F := v75) rfl ?_
  simp only [v75, go_sem, Nat.reduceEqDiff, ↓reduceIte, reduceCtorEq, Nat.reduceAdd, Nat.reduceSub, Nat.reduceLeDiff, Nat.reduceMul, Nat.reduceLT, Int.reduceLT, Int.reduceLE, Int.reduceNeg, Int.cast_ofNat_Int, Int.reduceToNat, Int.toNat_zero, ne_eq, not_false_eq_true, Int.reduceEq]
  refine W_rounds (T := Nat × List Op) (fun t => ⟨ofL [(0, .sl (l.map encO)), (3, .ptr 0 0), (5, .osl 1 0 t.2.length), (6, .int .i64 t.1)], [some (.bx [.int .i64 a1, .int .i64 a2, .int .i64 b1, .int .i64 b2]), some (.rw 95 (t.2.map encO))], 0⟩)
    (fun t => t.1 ≤ l.length ∧ t.2 = (l.take t.1).filter fun o => inSpan ⟨a1, a2⟩ ⟨b1, b2⟩ o.id) (fun t => l.length - t.1) (0, []) rfl rfl ⟨Nat.zero_le _, rfl⟩ ?_
  rintro ⟨i, o⟩ ⟨hi, ho⟩ Q1 IH OUT
  simp only at hi ho
  by_cases h : i < l.length
  · have c1 : decide ((i : Int) < l.length) = true := decide_eq_true (by omega)
    have c2 : (0 : Int) ≤ i := by omega
    have hr : (List.map encO l)[i]? = some (encO l[i]) := by simp [h]
    have hw : IntKind.i64.wrap ((i : Int) + 1) = ((i + 1 : Nat) : Int) := by rw [wrap_small _ (by omega) (by omega)]; rfl
    have hnx := filter_next l (fun o => inSpan ⟨a1, a2⟩ ⟨b1, b2⟩ o.id) i h
    have hol : o.length ≤ i := by rw [ho]; exact Nat.le_trans (List.length_filter_le _ _) (by rw [List.length_take]; omega)
    have c4 : o.length + 1 ≤ rowMax := by simp only [rowMax]; omega
    rw [← ho] at hnx
    generalize l[i] = x at hr hnx
    obtain ⟨⟨s1, s2⟩, kd, ⟨t1, t2⟩, ⟨f1, f2⟩, ⟨p1, p2⟩, vl, en, tx⟩ := x
    by_cases hx : inSpan ⟨a1, a2⟩ ⟨b1, b2⟩ ⟨s1, s2⟩ = true
    · rw [if_pos hx] at hnx
      simp only [go_sem, Nat.reduceEqDiff, ↓reduceIte, reduceCtorEq, Nat.reduceAdd, Nat.reduceSub, Nat.reduceLeDiff, Nat.reduceMul, Nat.reduceLT, Int.reduceLT, Int.reduceLE, Int.reduceNeg, Int.cast_ofNat_Int, Int.reduceToNat, Int.toNat_zero, ne_eq, not_false_eq_true, Int.reduceEq, c1, c2, c4, hr, hw, encO, inSpan_s, hx, beq_self_eq_true, List.length_map]
      refine IH (i + 1, o ++ [⟨⟨s1, s2⟩, kd, ⟨t1, t2⟩, ⟨f1, f2⟩, ⟨p1, p2⟩, vl, en, tx⟩]) _ ⟨by simp only; omega, hnx.symm⟩ (by simp only; omega) ?_ rfl
      rw [renorm_eq]; simp only [List.map_cons, List.map_nil, go_sem, Nat.reduceEqDiff, ↓reduceIte, reduceCtorEq, Nat.reduceAdd, Nat.reduceSub, Nat.reduceLeDiff, Nat.reduceMul, Nat.reduceLT, Int.reduceLT, Int.reduceLE, Int.reduceNeg, List.map_append, List.length_append]; rfl
    · have hx' : inSpan ⟨a1, a2⟩ ⟨b1, b2⟩ ⟨s1, s2⟩ = false := by simpa using hx
      rw [if_neg hx, List.append_nil] at hnx
      simp only [go_sem, Nat.reduceEqDiff, ↓reduceIte, reduceCtorEq, Nat.reduceAdd, Nat.reduceSub, Nat.reduceLeDiff, Nat.reduceMul, Nat.reduceLT, Int.reduceLT, Int.reduceLE, Int.reduceNeg, Int.cast_ofNat_Int, Int.reduceToNat, Int.toNat_zero, ne_eq, not_false_eq_true, Int.reduceEq, c1, c2, c4, hr, hw, encO, inSpan_s, hx', beq_self_eq_true, List.length_map]
      exact IH (i + 1, o) _ ⟨by simp only; omega, hnx.symm⟩ (by simp only; omega) (by rw [renorm_eq]; simp only [List.map_cons, List.map_nil, go_sem, Nat.reduceEqDiff, ↓reduceIte, reduceCtorEq, Nat.reduceAdd, Nat.reduceSub, Nat.reduceLeDiff, Nat.reduceMul, Nat.reduceLT, Int.reduceLT, Int.reduceLE, Int.reduceNeg]; rfl) rfl
  · have c1 : decide ((i : Int) < l.length) = false := decide_eq_false (by omega)
    have hos : o = spanL l ⟨a1, a2⟩ ⟨b1, b2⟩ := by rw [ho, List.take_of_length_le (by omega)]; rfl
    simp only [go_sem, Nat.reduceEqDiff, ↓reduceIte, reduceCtorEq, Nat.reduceAdd, Nat.reduceSub, Nat.reduceLeDiff, Nat.reduceMul, Nat.reduceLT, Int.reduceLT, Int.reduceLE, Int.reduceNeg, c1]
    refine OUT _ _ (by simp) ?_
    simp only [go_sem, Nat.reduceEqDiff, ↓reduceIte, reduceCtorEq, Nat.reduceAdd, Nat.reduceSub, Nat.reduceLeDiff, Nat.reduceMul, Nat.reduceLT, Int.reduceLT, Int.reduceLE, Int.reduceNeg]
    rw [hos]; rfl
def spanH (l : List Op) (lo hi : Stamp) : List Op := if validLog l = true then spanL l lo hi else []
theorem SpanOps_s (l : List Op) (hl : l.length ≤ 1048576) (ht : TX l) (a1 a2 b1 b2 : Int) : CL 44 [.sl (l.map encO), .agg [.int .i64 a1, .int .i64 a2, .int .i64 b1, .int .i64 b2]] [] =
    some (.sl ((spanH l ⟨a1, a2⟩ ⟨b1, b2⟩).map encO), []) := by
  refine callL_W _ _ _ (F := v44) rfl ?_
  have hv := validLog_s l hl ht
  by_cases h : validLog l = true
  · have hs := spanOps_s l hl a1 a2 b1 b2
    simp only [v44, go_sem, Nat.reduceEqDiff, ↓reduceIte, reduceCtorEq, Nat.reduceAdd, Nat.reduceSub, Nat.reduceLeDiff, Nat.reduceMul, Nat.reduceLT, Int.reduceLT, Int.reduceLE, Int.reduceNeg, Int.cast_ofNat_Int, Int.reduceToNat, Int.toNat_zero, ne_eq, not_false_eq_true, Int.reduceEq, hv, h, Bool.not_true, hs, List.length_map]
    simp only [spanH, h, if_true]
  · have h' : validLog l = false := by simpa using h
    simp only [v44, go_sem, Nat.reduceEqDiff, ↓reduceIte, reduceCtorEq, Nat.reduceAdd, Nat.reduceSub, Nat.reduceLeDiff, Nat.reduceMul, Nat.reduceLT, Int.reduceLT, Int.reduceLE, Int.reduceNeg, Int.cast_ofNat_Int, Int.reduceToNat, Int.toNat_zero, ne_eq, not_false_eq_true, Int.reduceEq, hv, h', Bool.not_false]
    simp only [spanH, h', Bool.false_eq_true, if_false, List.map_nil]
theorem toSpan_c (a1 a2 b1 b2 : Int) : CL 45 [.agg [.int .i64 a1, .int .i64 a2, .int .i64 b1, .int .i64 b2]] [] = some (.agg [.int .i64 a1, .int .i64 a2, .int .i64 b1, .int .i64 b2], []) := by
  refine callL_W _ _ _ (F := v45) rfl ?_
  simp only [v45, go_sem, Nat.reduceEqDiff, ↓reduceIte, reduceCtorEq, Nat.reduceAdd, Nat.reduceSub, Nat.reduceLeDiff, Nat.reduceMul, Nat.reduceLT, Int.reduceLT, Int.reduceLE, Int.reduceNeg, Int.cast_ofNat_Int, Int.reduceToNat, Int.toNat_zero, ne_eq, not_false_eq_true, Int.reduceEq, toStamp_c]
  rfl
theorem SpanOps_c (l : List Op) (hl : l.length ≤ 1048576) (ht : TX l) (a1 a2 b1 b2 : Int) : CL 46 [.sl (l.map encO), .agg [.int .i64 a1, .int .i64 a2, .int .i64 b1, .int .i64 b2]] [] =
    some (if validLog l = true then (.osl 0 0 (spanL l ⟨a1, a2⟩ ⟨b1, b2⟩).length, [some (.rw 95 ((spanL l ⟨a1, a2⟩ ⟨b1, b2⟩).map encO))]) else (.nsl, [])) := by
  refine callL_W _ _ _ (F := v46) rfl ?_
  have hv := validLog_c l hl ht
  by_cases hvl : validLog l = true
  case neg =>
    have h' : validLog l = false := by simpa using hvl
    simp only [v46, go_sem, Nat.reduceEqDiff, ↓reduceIte, reduceCtorEq, Nat.reduceAdd, Nat.reduceSub, Nat.reduceLeDiff, Nat.reduceMul, Nat.reduceLT, Int.reduceLT, Int.reduceLE, Int.reduceNeg, Int.cast_ofNat_Int, Int.reduceToNat, Int.toNat_zero, ne_eq, not_false_eq_true, Int.reduceEq, hv, h', Bool.not_false]
  simp only [v46, go_sem, Nat.reduceEqDiff, ↓reduceIte, reduceCtorEq, Nat.reduceAdd, Nat.reduceSub, Nat.reduceLeDiff, Nat.reduceMul, Nat.reduceLT, Int.reduceLT, Int.reduceLE, Int.reduceNeg, Int.cast_ofNat_Int, Int.reduceToNat, Int.toNat_zero, ne_eq, not_false_eq_true, Int.reduceEq, hv, hvl, Bool.not_true]
  refine W_rounds (T := Nat × List Op) (fun t => ⟨ofL [(3, .ptr 0 0), (5, .osl 1 0 t.2.length), (12, .sl (l.map encO)), (13, .int .i64 l.length), (14, .int .i64 t.1)], [some (.bx [.int .i64 a1, .int .i64 a2, .int .i64 b1, .int .i64 b2]), some (.rw 95 (t.2.map encO))], 0⟩)
    (fun t => t.1 ≤ l.length ∧ t.2 = (l.take t.1).filter fun o => inSpan ⟨a1, a2⟩ ⟨b1, b2⟩ o.id) (fun t => l.length - t.1) (0, []) rfl rfl ⟨Nat.zero_le _, rfl⟩ ?_
  rintro ⟨i, o⟩ ⟨hi, ho⟩ Q1 IH OUT
  simp only at hi ho
  by_cases h : i < l.length
  · have c1 : decide ((i : Int) < l.length) = true := decide_eq_true (by omega)
    have c2 : (0 : Int) ≤ i := by omega
    have hr : (List.map encO l)[i]? = some (encO l[i]) := by simp [h]
    have hw : IntKind.i64.wrap ((i : Int) + 1) = ((i + 1 : Nat) : Int) := by rw [wrap_small _ (by omega) (by omega)]; rfl
    have hnx := filter_next l (fun o => inSpan ⟨a1, a2⟩ ⟨b1, b2⟩ o.id) i h
    have hol : o.length ≤ i := by rw [ho]; exact Nat.le_trans (List.length_filter_le _ _) (by rw [List.length_take]; omega)
    have c4 : o.length + 1 ≤ rowMax := by simp only [rowMax]; omega
    rw [← ho] at hnx
    generalize l[i] = x at hr hnx
    obtain ⟨⟨s1, s2⟩, kd, ⟨t1, t2⟩, ⟨f1, f2⟩, ⟨p1, p2⟩, vl, en, tx⟩ := x
    have e : (b1 == 0 && (b2 == 0)) = zeroS ⟨b1, b2⟩ := by
      by_cases h : b1 = 0 <;> by_cases h2 : b2 = 0 <;> simp [zeroS, h, h2]
    have e2 : (b1 == 0 && (b2 == 0 && true)) = zeroS ⟨b1, b2⟩ := by rw [Bool.and_true, e]
    have yes : inSpan ⟨a1, a2⟩ ⟨b1, b2⟩ ⟨s1, s2⟩ = true → ∀ σ', renorm [3, 5, 12, 13, 14] σ' = ⟨ofL [(3, .ptr 0 0), (5, .osl 1 0 (o.length + 1)), (12, .sl (l.map encO)), (13, .int .i64 l.length), (14, .int .i64 ((i + 1 : Nat) : Int))], [some (.bx [.int .i64 a1, .int .i64 a2, .int .i64 b1, .int .i64 b2]), some (.rw 95 (o.map encO ++ [[.int .i64 s1, .int .i64 s2, .int .i64 kd, .int .i64 t1, .int .i64 t2, .int .i64 f1, .int .i64 f2, .int .i64 p1, .int .i64 p2, .int .i64 vl, .bool en, .str tx]]))], 0⟩ → rootsLive σ'.m σ'.st = true → Q1 .normal σ' := by
      intro hx σ' h1 h2
      rw [if_pos hx] at hnx
      refine IH (i + 1, o ++ [⟨⟨s1, s2⟩, kd, ⟨t1, t2⟩, ⟨f1, f2⟩, ⟨p1, p2⟩, vl, en, tx⟩]) σ' ⟨by simp only; omega, hnx.symm⟩ (by simp only; omega) ?_ h2
      rw [h1]; simp only [List.map_append, List.length_append]; rfl
    have no : inSpan ⟨a1, a2⟩ ⟨b1, b2⟩ ⟨s1, s2⟩ = false → ∀ σ', renorm [3, 5, 12, 13, 14] σ' = ⟨ofL [(3, .ptr 0 0), (5, .osl 1 0 o.length), (12, .sl (l.map encO)), (13, .int .i64 l.length), (14, .int .i64 ((i + 1 : Nat) : Int))], [some (.bx [.int .i64 a1, .int .i64 a2, .int .i64 b1, .int .i64 b2]), some (.rw 95 (o.map encO))], 0⟩ → rootsLive σ'.m σ'.st = true → Q1 .normal σ' := by
      intro hx σ' h1 h2
      rw [if_neg (by simp only [hx]; simp), List.append_nil] at hnx
      exact IH (i + 1, o) σ' ⟨by simp only; omega, hnx.symm⟩ (by simp only; omega) h1 h2
    by_cases h1 : stampLess ⟨s1, s2⟩ ⟨a1, a2⟩ = true
    · simp only [go_sem, Nat.reduceEqDiff, ↓reduceIte, reduceCtorEq, Nat.reduceAdd, Nat.reduceSub, Nat.reduceLeDiff, Nat.reduceMul, Nat.reduceLT, Int.reduceLT, Int.reduceLE, Int.reduceNeg, Int.cast_ofNat_Int, Int.reduceToNat, Int.toNat_zero, ne_eq, not_false_eq_true, Int.reduceEq, c1, c2, c4, hr, hw, encO, stampLess_c, h1, Bool.not_true, beq_self_eq_true, List.length_map]
      exact no (by simp only [inSpan, h1, Bool.not_true, Bool.false_and]) _ (by rw [renorm_eq]; simp only [List.map_cons, List.map_nil, go_sem, Nat.reduceEqDiff, ↓reduceIte, reduceCtorEq, Nat.reduceAdd, Nat.reduceSub, Nat.reduceLeDiff, Nat.reduceMul, Nat.reduceLT, Int.reduceLT, Int.reduceLE, Int.reduceNeg]; rfl) rfl
    · have h1' : stampLess ⟨s1, s2⟩ ⟨a1, a2⟩ = false := by simpa using h1
      by_cases h2 : zeroS ⟨b1, b2⟩ = true
      · simp only [go_sem, Nat.reduceEqDiff, ↓reduceIte, reduceCtorEq, Nat.reduceAdd, Nat.reduceSub, Nat.reduceLeDiff, Nat.reduceMul, Nat.reduceLT, Int.reduceLT, Int.reduceLE, Int.reduceNeg, Int.cast_ofNat_Int, Int.reduceToNat, Int.toNat_zero, ne_eq, not_false_eq_true, Int.reduceEq, c1, c2, c4, hr, hw, encO, stampLess_c, h1', e, e2, h2, Bool.not_false, beq_self_eq_true, List.length_map]
        exact yes (by simp only [inSpan, h1', h2, Bool.not_false, Bool.true_or, Bool.and_self]) _ (by rw [renorm_eq]; simp only [List.map_cons, List.map_nil, go_sem, Nat.reduceEqDiff, ↓reduceIte, reduceCtorEq, Nat.reduceAdd, Nat.reduceSub, Nat.reduceLeDiff, Nat.reduceMul, Nat.reduceLT, Int.reduceLT, Int.reduceLE, Int.reduceNeg]; rfl) rfl
      · have h2' : zeroS ⟨b1, b2⟩ = false := by simpa using h2
        by_cases h3 : stampLess ⟨s1, s2⟩ ⟨b1, b2⟩ = true
        · simp only [go_sem, Nat.reduceEqDiff, ↓reduceIte, reduceCtorEq, Nat.reduceAdd, Nat.reduceSub, Nat.reduceLeDiff, Nat.reduceMul, Nat.reduceLT, Int.reduceLT, Int.reduceLE, Int.reduceNeg, Int.cast_ofNat_Int, Int.reduceToNat, Int.toNat_zero, ne_eq, not_false_eq_true, Int.reduceEq, c1, c2, c4, hr, hw, encO, stampLess_c, h1', e, e2, h2', h3, Bool.not_false, beq_self_eq_true, List.length_map]
          exact yes (by simp only [inSpan, h1', h2', h3, Bool.not_false, Bool.or_true, Bool.and_self]) _ (by rw [renorm_eq]; simp only [List.map_cons, List.map_nil, go_sem, Nat.reduceEqDiff, ↓reduceIte, reduceCtorEq, Nat.reduceAdd, Nat.reduceSub, Nat.reduceLeDiff, Nat.reduceMul, Nat.reduceLT, Int.reduceLT, Int.reduceLE, Int.reduceNeg]; rfl) rfl
        · have h3' : stampLess ⟨s1, s2⟩ ⟨b1, b2⟩ = false := by simpa using h3
          simp only [go_sem, Nat.reduceEqDiff, ↓reduceIte, reduceCtorEq, Nat.reduceAdd, Nat.reduceSub, Nat.reduceLeDiff, Nat.reduceMul, Nat.reduceLT, Int.reduceLT, Int.reduceLE, Int.reduceNeg, Int.cast_ofNat_Int, Int.reduceToNat, Int.toNat_zero, ne_eq, not_false_eq_true, Int.reduceEq, c1, c2, c4, hr, hw, encO, stampLess_c, h1', e, e2, h2', h3', Bool.not_false, beq_self_eq_true, List.length_map]
          exact no (by simp only [inSpan, h1', h2', h3', Bool.not_false, Bool.or_self, Bool.and_false]) _ (by rw [renorm_eq]; simp only [List.map_cons, List.map_nil, go_sem, Nat.reduceEqDiff, ↓reduceIte, reduceCtorEq, Nat.reduceAdd, Nat.reduceSub, Nat.reduceLeDiff, Nat.reduceMul, Nat.reduceLT, Int.reduceLT, Int.reduceLE, Int.reduceNeg]; rfl) rfl
  · have c1 : decide ((i : Int) < l.length) = false := decide_eq_false (by omega)
    have hos : o = spanL l ⟨a1, a2⟩ ⟨b1, b2⟩ := by rw [ho, List.take_of_length_le (by omega)]; rfl
    simp only [go_sem, Nat.reduceEqDiff, ↓reduceIte, reduceCtorEq, Nat.reduceAdd, Nat.reduceSub, Nat.reduceLeDiff, Nat.reduceMul, Nat.reduceLT, Int.reduceLT, Int.reduceLE, Int.reduceNeg, c1]
    refine OUT _ _ (by simp) ?_
    simp only [go_sem, Nat.reduceEqDiff, ↓reduceIte, reduceCtorEq, Nat.reduceAdd, Nat.reduceSub, Nat.reduceLeDiff, Nat.reduceMul, Nat.reduceLT, Int.reduceLT, Int.reduceLE, Int.reduceNeg]
    rw [hos]; rfl
theorem bare_encO (e : Nat) (l : List Op) : bareO (some (.rw e (l.map encO))) = true := by
  simp only [bareO, List.all_eq_true]
  intro r hr
  obtain ⟨g, _, rfl⟩ := List.mem_map.1 hr
  simp [encO, bare]
abbrev kSp : Bool × List Ty := (true, [.int .i64, .int .i64, .int .i64, .int .i64])
theorem arg_span {d : D} (h : ArgTy kSp d) : ∃ a b e f : Int, d = .agg [.int .i64 a, .int .i64 b, .int .i64 e, .int .i64 f] := by
  obtain ⟨ds, ⟨h1, h2⟩, rfl⟩ := h
  obtain ⟨a, b, c, d, rfl⟩ : ∃ a b c d, ds = [a, b, c, d] := by match ds, h1 with | [a, b, c, d], _ => exact ⟨a, b, c, d, rfl⟩
  have ha := h2 0 _ _ rfl rfl
  have hb := h2 1 _ _ rfl rfl
  have hc := h2 2 _ _ rfl rfl
  have hd := h2 3 _ _ rfl rfl
  cases ha; cases hb; cases hc; cases hd
  exact ⟨_, _, _, _, rfl⟩
set_option maxRecDepth 20000 in
set_option maxHeartbeats 1000000 in
theorem fnExactSpanOps_law {dd : List D} (h : ArgsTy [kO, kSp] dd) : CL 14 dd [] = some (.bool true, []) := by
  obtain ⟨_, _, rfl, hA, hB⟩ := args2 h
  obtain ⟨a, rfl, hla, hta⟩ := arg_ops hA
  obtain ⟨x1, x2, y1, y2, rfl⟩ := arg_span hB
  refine callL_W _ _ _ (F := v14) rfl ?_
  have hz := szOpS_c a 1048576 hla hta (by decide) (by decide)
  obtain ⟨e1, e2, e3⟩ := szL_le a 1048576 (by decide)
  generalize szL 1048576 a = n at hz e1 e2 e3
  by_cases h : n < 0
  · rw [e3 h] at hz
    simp only [v14, go_sem, Nat.reduceEqDiff, ↓reduceIte, reduceCtorEq, Nat.reduceAdd, Nat.reduceSub, Nat.reduceLeDiff, Nat.reduceMul, Nat.reduceLT, Int.reduceLT, Int.reduceLE, Int.reduceNeg, Int.cast_ofNat_Int, Int.reduceToNat, Int.toNat_zero, ne_eq, not_false_eq_true, Int.reduceEq, hz, neg1']
  obtain ⟨la, ta⟩ := e2 (by omega)
  have d1 : decide (n < 0) = false := decide_eq_false h
  have la' : a.length ≤ 1048576 := by omega
  have txa : TX a := fun o ho => by have := ta o ho; omega
  have tac := toOpS_c a la'
  have ss := SpanOps_s a la' txa x1 x2 y1 y2
  have sc := SpanOps_c a la' txa x1 x2 y1 y2
  have eqa := eqOpS_c a a la' la'
  have hr : (spanH a ⟨x1, x2⟩ ⟨y1, y2⟩).length ≤ 1048576 := by
    unfold spanH; split
    · exact Nat.le_trans (List.length_filter_le _ _) la'
    · simp
  have eqr := eqOpS_c (spanH a ⟨x1, x2⟩ ⟨y1, y2⟩) (spanH a ⟨x1, x2⟩ ⟨y1, y2⟩) hr hr
  simp only [decide_true] at eqa eqr
  have ba := bare_encO 95 (spanH a ⟨x1, x2⟩ ⟨y1, y2⟩)
  have m1 := markO_c a 1 la' (by omega) (by omega)
  have m3 := markO_c (spanH a ⟨x1, x2⟩ ⟨y1, y2⟩) 1 hr (by omega) (by omega)
  have hd := heldO_c (spanH a ⟨x1, x2⟩ ⟨y1, y2⟩).length 1 hr (by omega) (by omega)
  have k1 : decide (1 + 12 * (a.length : Int) < 0) = false := decide_eq_false (by omega)
  have k2 : decide (1 + 12 * ((spanH a ⟨x1, x2⟩ ⟨y1, y2⟩).length : Int) < 0) = false := decide_eq_false (by omega)
  have tm : List.take (spanH a ⟨x1, x2⟩ ⟨y1, y2⟩).length (List.map encO (marksO 1 (spanH a ⟨x1, x2⟩ ⟨y1, y2⟩).length)) = List.map encO (marksO 1 (spanH a ⟨x1, x2⟩ ⟨y1, y2⟩).length) := List.take_of_length_le (by simp [marksO_len])
  have r1 := callWith_root1 (call := CL) (x := .osl 1 0 a.length) (st := [some (.bx [.int .i64 x1, .int .i64 x2, .int .i64 y1, .int .i64 y2]), some (.rw 95 (a.map encO)), some (.rw 95 ((spanH a ⟨x1, x2⟩ ⟨y1, y2⟩).map encO))]) rfl rfl rfl rfl m1 rfl rfl
  have r3 := callWith_root1 (call := CL) (x := .osl 2 0 (spanH a ⟨x1, x2⟩ ⟨y1, y2⟩).length) (st := [some (.bx [.int .i64 x1, .int .i64 x2, .int .i64 y1, .int .i64 y2]), some (.rw 95 ((marksO 1 a.length).map encO)), some (.rw 95 ((spanH a ⟨x1, x2⟩ ⟨y1, y2⟩).map encO))]) rfl rfl rfl rfl m3 rfl rfl
  by_cases hv : validLog a = true
  · rw [if_pos hv] at sc
    have hsp : spanL a ⟨x1, x2⟩ ⟨y1, y2⟩ = spanH a ⟨x1, x2⟩ ⟨y1, y2⟩ := by simp only [spanH, hv, if_true]
    rw [hsp] at sc
    simp only [v14, go_sem, Nat.reduceEqDiff, ↓reduceIte, reduceCtorEq, Nat.reduceAdd, Nat.reduceSub, Nat.reduceLeDiff, Nat.reduceMul, Nat.reduceLT, Int.reduceLT, Int.reduceLE, Int.reduceNeg, Int.cast_ofNat_Int, Int.reduceToNat, Int.toNat_zero, ne_eq, not_false_eq_true, Int.reduceEq, hz, d1, tac, toSpan_c, ss, sc, eqa, eqr, ba, r1, r3, k1, k2, hd, tm, marksO_len, List.length_map, bne_self_eq_false, Bool.not_true]
  · rw [if_neg hv] at sc
    have hmg : spanH a ⟨x1, x2⟩ ⟨y1, y2⟩ = [] := by simp only [spanH, hv, if_false]; rfl
    rw [hmg] at ss eqr r1 r3 hd k2 tm
    simp only [List.length_nil, List.map_nil] at ss eqr r1 r3 hd k2 tm
    simp only [v14, go_sem, Nat.reduceEqDiff, ↓reduceIte, reduceCtorEq, Nat.reduceAdd, Nat.reduceSub, Nat.reduceLeDiff, Nat.reduceMul, Nat.reduceLT, Int.reduceLT, Int.reduceLE, Int.reduceNeg, Int.cast_ofNat_Int, Int.reduceToNat, Int.toNat_zero, ne_eq, not_false_eq_true, Int.reduceEq, hz, d1, tac, toSpan_c, ss, sc, eqa, eqr, r1, r3, k1, k2, hd, tm, marksO_len, List.length_map, List.length_nil, bne_self_eq_false, Bool.not_true]
    try simp
end Go.Vi.Code
