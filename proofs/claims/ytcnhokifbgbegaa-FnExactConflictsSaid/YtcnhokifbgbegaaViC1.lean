/- Contracts: conflicts. -/
import Derived.Test.YtcnhokifbgbegaaViO10
set_option linter.unusedSimpArgs false
set_option linter.unusedVariables false
namespace Go.Vi.Code
attribute [local congr] ite_congr
def wrB (k : Int) : Bool := decide (5 ≤ k ∧ k ≤ 7)
def confB (x y : Op) : Bool := wrB x.kind && (wrB y.kind && (decide (x.target = y.target) &&
  (if x.kind = y.kind then !decide (x.value = y.value) || (!decide (x.parent = y.parent) || !decide (x.after = y.after)) else decide (x.kind = 7 ∨ y.kind = 7))))
theorem eqS_t (a1 a2 c1 c2 : Int) : (a1 == c1 && (a2 == c2 && true)) = decide ((⟨a1, a2⟩ : Stamp) = ⟨c1, c2⟩) := by
  rw [Bool.eq_iff_iff]; simp only [Bool.and_eq_true, beq_iff_eq, decide_eq_true_eq, Stamp.mk.injEq, and_true]
theorem eqS_n (a1 a2 c1 c2 : Int) : (a1 == c1 && (a2 == c2)) = decide ((⟨a1, a2⟩ : Stamp) = ⟨c1, c2⟩) := by
  rw [← eqS_t, Bool.and_true]
set_option maxRecDepth 20000 in
set_option maxHeartbeats 2000000 in
theorem conflicting_c (a1 a2 a3 a4 a5 a6 a7 a8 a9 b1 c1 c2 c3 c4 c5 c6 c7 c8 c9 d1 : Int) (b3 d3 : Bool) (b4 d4 : List UInt8) : CL 70 [.agg [.int .i64 a1, .int .i64 a2, .int .i64 a3, .int .i64 a4, .int .i64 a5, .int .i64 a6, .int .i64 a7, .int .i64 a8, .int .i64 a9, .int .i64 b1, .bool b3, .str b4],
    .agg [.int .i64 c1, .int .i64 c2, .int .i64 c3, .int .i64 c4, .int .i64 c5, .int .i64 c6, .int .i64 c7, .int .i64 c8, .int .i64 c9, .int .i64 d1, .bool d3, .str d4]] [] =
    some (.bool (confB ⟨⟨a1, a2⟩, a3, ⟨a4, a5⟩, ⟨a6, a7⟩, ⟨a8, a9⟩, b1, b3, b4⟩ ⟨⟨c1, c2⟩, c3, ⟨c4, c5⟩, ⟨c6, c7⟩, ⟨c8, c9⟩, d1, d3, d4⟩), []) := by
  refine callL_W _ _ _ (F := v70) rfl ?_
  unfold confB
  simp only
  by_cases h1 : a3 < 5
  · have e1 : decide (a3 < 5) = true := decide_eq_true h1
    have w : wrB a3 = false := decide_eq_false (by omega)
    simp only [v70, go_sem, Nat.reduceEqDiff, ↓reduceIte, reduceCtorEq, Nat.reduceAdd, Nat.reduceSub, Nat.reduceLeDiff, Nat.reduceMul, Nat.reduceLT, Int.reduceLT, Int.reduceLE, Int.reduceNeg, Int.cast_ofNat_Int, Int.reduceToNat, Int.toNat_zero, ne_eq, not_false_eq_true, Int.reduceEq, e1, w, Bool.false_and]
  have e1 : decide (a3 < 5) = false := decide_eq_false h1
  by_cases h2 : a3 > 7
  · have e2 : decide (a3 > 7) = true := decide_eq_true h2
    have w : wrB a3 = false := decide_eq_false (by omega)
    simp only [v70, go_sem, Nat.reduceEqDiff, ↓reduceIte, reduceCtorEq, Nat.reduceAdd, Nat.reduceSub, Nat.reduceLeDiff, Nat.reduceMul, Nat.reduceLT, Int.reduceLT, Int.reduceLE, Int.reduceNeg, Int.cast_ofNat_Int, Int.reduceToNat, Int.toNat_zero, ne_eq, not_false_eq_true, Int.reduceEq, e1, e2, w, Bool.false_and]
  have e2 : decide (a3 > 7) = false := decide_eq_false h2
  have w1 : wrB a3 = true := decide_eq_true (by omega)
  by_cases h3 : c3 < 5
  · have e3 : decide (c3 < 5) = true := decide_eq_true h3
    have w : wrB c3 = false := decide_eq_false (by omega)
    simp only [v70, go_sem, Nat.reduceEqDiff, ↓reduceIte, reduceCtorEq, Nat.reduceAdd, Nat.reduceSub, Nat.reduceLeDiff, Nat.reduceMul, Nat.reduceLT, Int.reduceLT, Int.reduceLE, Int.reduceNeg, Int.cast_ofNat_Int, Int.reduceToNat, Int.toNat_zero, ne_eq, not_false_eq_true, Int.reduceEq, e1, e2, e3, w, Bool.false_and, Bool.and_false]
  have e3 : decide (c3 < 5) = false := decide_eq_false h3
  by_cases h4 : c3 > 7
  · have e4 : decide (c3 > 7) = true := decide_eq_true h4
    have w : wrB c3 = false := decide_eq_false (by omega)
    simp only [v70, go_sem, Nat.reduceEqDiff, ↓reduceIte, reduceCtorEq, Nat.reduceAdd, Nat.reduceSub, Nat.reduceLeDiff, Nat.reduceMul, Nat.reduceLT, Int.reduceLT, Int.reduceLE, Int.reduceNeg, Int.cast_ofNat_Int, Int.reduceToNat, Int.toNat_zero, ne_eq, not_false_eq_true, Int.reduceEq, e1, e2, e3, e4, w, Bool.false_and, Bool.and_false]
  have e4 : decide (c3 > 7) = false := decide_eq_false h4
  have w2 : wrB c3 = true := decide_eq_true (by omega)
  by_cases ht : (⟨a4, a5⟩ : Stamp) = ⟨c4, c5⟩
  case neg =>
    have et := decide_eq_false ht
    simp only [v70, go_sem, Nat.reduceEqDiff, ↓reduceIte, reduceCtorEq, Nat.reduceAdd, Nat.reduceSub, Nat.reduceLeDiff, Nat.reduceMul, Nat.reduceLT, Int.reduceLT, Int.reduceLE, Int.reduceNeg, Int.cast_ofNat_Int, Int.reduceToNat, Int.toNat_zero, ne_eq, not_false_eq_true, Int.reduceEq, e1, e2, e3, e4, w1, w2, eqS_t, eqS_n, et, Bool.not_false, Bool.true_and, Bool.false_and, Bool.and_false]
  have et := decide_eq_true ht
  by_cases hk : a3 = c3
  · have ek : (a3 == c3) = true := by simpa using hk
    rw [if_pos hk]
    by_cases hv : b1 = d1
    · have ev : (b1 != d1) = false := by simpa using hv
      have ev2 := decide_eq_true hv
      by_cases hp : (⟨a8, a9⟩ : Stamp) = ⟨c8, c9⟩
      · have ep := decide_eq_true hp
        simp only [v70, go_sem, Nat.reduceEqDiff, ↓reduceIte, reduceCtorEq, Nat.reduceAdd, Nat.reduceSub, Nat.reduceLeDiff, Nat.reduceMul, Nat.reduceLT, Int.reduceLT, Int.reduceLE, Int.reduceNeg, Int.cast_ofNat_Int, Int.reduceToNat, Int.toNat_zero, ne_eq, not_false_eq_true, Int.reduceEq, e1, e2, e3, e4, w1, w2, eqS_t, eqS_n, et, ek, ev, ev2, ep, Bool.not_false, Bool.not_true, Bool.true_and, Bool.false_or]
      · have ep := decide_eq_false hp
        simp only [v70, go_sem, Nat.reduceEqDiff, ↓reduceIte, reduceCtorEq, Nat.reduceAdd, Nat.reduceSub, Nat.reduceLeDiff, Nat.reduceMul, Nat.reduceLT, Int.reduceLT, Int.reduceLE, Int.reduceNeg, Int.cast_ofNat_Int, Int.reduceToNat, Int.toNat_zero, ne_eq, not_false_eq_true, Int.reduceEq, e1, e2, e3, e4, w1, w2, eqS_t, eqS_n, et, ek, ev, ev2, ep, Bool.not_false, Bool.not_true, Bool.true_and, Bool.false_or, Bool.true_or]
    · have ev : (b1 != d1) = true := by simpa using hv
      have ev2 := decide_eq_false hv
      simp only [v70, go_sem, Nat.reduceEqDiff, ↓reduceIte, reduceCtorEq, Nat.reduceAdd, Nat.reduceSub, Nat.reduceLeDiff, Nat.reduceMul, Nat.reduceLT, Int.reduceLT, Int.reduceLE, Int.reduceNeg, Int.cast_ofNat_Int, Int.reduceToNat, Int.toNat_zero, ne_eq, not_false_eq_true, Int.reduceEq, e1, e2, e3, e4, w1, w2, eqS_t, eqS_n, et, ek, ev, ev2, Bool.not_false, Bool.not_true, Bool.true_and, Bool.true_or]
  · have ek : (a3 == c3) = false := by simpa using hk
    rw [if_neg hk]
    by_cases h7 : a3 = 7
    · have e7 : (a3 == 7) = true := by simpa using h7
      have e8 : decide (a3 = 7 ∨ c3 = 7) = true := decide_eq_true (.inl h7)
      simp only [v70, go_sem, Nat.reduceEqDiff, ↓reduceIte, reduceCtorEq, Nat.reduceAdd, Nat.reduceSub, Nat.reduceLeDiff, Nat.reduceMul, Nat.reduceLT, Int.reduceLT, Int.reduceLE, Int.reduceNeg, Int.cast_ofNat_Int, Int.reduceToNat, Int.toNat_zero, ne_eq, not_false_eq_true, Int.reduceEq, e1, e2, e3, e4, w1, w2, eqS_t, eqS_n, et, ek, e7, e8, Bool.not_false, Bool.not_true, Bool.true_and]
    · have e7 : (a3 == 7) = false := by simpa using h7
      have e8 : decide (a3 = 7 ∨ c3 = 7) = (c3 == 7) := by
        by_cases h : c3 = 7 <;> simp [h, h7]
      simp only [v70, go_sem, Nat.reduceEqDiff, ↓reduceIte, reduceCtorEq, Nat.reduceAdd, Nat.reduceSub, Nat.reduceLeDiff, Nat.reduceMul, Nat.reduceLT, Int.reduceLT, Int.reduceLE, Int.reduceNeg, Int.cast_ofNat_Int, Int.reduceToNat, Int.toNat_zero, ne_eq, not_false_eq_true, Int.reduceEq, e1, e2, e3, e4, w1, w2, eqS_t, eqS_n, et, ek, e7, e8, Bool.not_false, Bool.not_true, Bool.true_and]
end Go.Vi.Code
