/- Contracts: stamps. -/
import Derived.Test.YtcnhokifbgbegaaViB
set_option linter.unusedSimpArgs false
set_option linter.unusedVariables false
namespace Go.Vi.Code
theorem isAuthor_c (n : Int) : CL 82 [.int .i64 n] [] = some (.bool (isAuthor n), []) := by
  refine callL_W _ _ _ (F := v82) rfl ?_
  simp only [v82, go_sem, Nat.reduceEqDiff, ↓reduceIte, reduceCtorEq, Nat.reduceAdd, Nat.reduceSub, Nat.reduceLeDiff, Nat.reduceMul, Nat.reduceLT, Int.reduceLT, Int.reduceLE, Int.reduceNeg]
  grind [isAuthor]
theorem inRange_c (n a b : Int) : CL 100 [.int .i64 n, .int .i64 a, .int .i64 b] [] = some (.bool (decide (a ≤ n ∧ n ≤ b)), []) := by
  refine callL_W _ _ _ (F := v100) rfl ?_
  simp only [v100, go_sem, Nat.reduceEqDiff, ↓reduceIte, reduceCtorEq, Nat.reduceAdd, Nat.reduceSub, Nat.reduceLeDiff, Nat.reduceMul, Nat.reduceLT, Int.reduceLT, Int.reduceLE, Int.reduceNeg]
  grind
theorem stampLess_c (a1 a2 b1 b2 : Int) : CL 37 [.agg [.int .i64 a1, .int .i64 a2], .agg [.int .i64 b1, .int .i64 b2]] [] = some (.bool (stampLess ⟨a1, a2⟩ ⟨b1, b2⟩), []) := by
  refine callL_W _ _ _ (F := v37) rfl ?_
  simp only [v37, encS, go_sem, Nat.reduceEqDiff, ↓reduceIte, reduceCtorEq, Nat.reduceAdd, Nat.reduceSub, Nat.reduceLeDiff, Nat.reduceMul, Nat.reduceLT, Int.reduceLT, Int.reduceLE, Int.reduceNeg]
  grind [stampLess]
theorem stampLess_s (a1 a2 b1 b2 : Int) : CL 86 [.agg [.int .i64 a1, .int .i64 a2], .agg [.int .i64 b1, .int .i64 b2]] [] = some (.bool (stampLess ⟨a1, a2⟩ ⟨b1, b2⟩), []) := by
  refine callL_W _ _ _ (F := v86) rfl ?_
  simp only [v86, encS, go_sem, Nat.reduceEqDiff, ↓reduceIte, reduceCtorEq, Nat.reduceAdd, Nat.reduceSub, Nat.reduceLeDiff, Nat.reduceMul, Nat.reduceLT, Int.reduceLT, Int.reduceLE, Int.reduceNeg]
  grind [stampLess]
theorem validStamp_c (a1 a2 : Int) : CL 81 [.agg [.int .i64 a1, .int .i64 a2]] [] = some (.bool (validStamp ⟨a1, a2⟩), []) := by
  refine callL_W _ _ _ (F := v81) rfl ?_
  simp only [v81, encS, go_sem, Nat.reduceEqDiff, ↓reduceIte, reduceCtorEq, Nat.reduceAdd, Nat.reduceSub, Nat.reduceLeDiff, Nat.reduceMul, Nat.reduceLT, Int.reduceLT, Int.reduceLE, Int.reduceNeg, isAuthor_c]
  grind [validStamp, isAuthor]
theorem validStamp_s (a1 a2 : Int) : CL 104 [.agg [.int .i64 a1, .int .i64 a2]] [] = some (.bool (validStamp ⟨a1, a2⟩), []) := by
  refine callL_W _ _ _ (F := v104) rfl ?_
  simp only [v104, encS, go_sem, Nat.reduceEqDiff, ↓reduceIte, reduceCtorEq, Nat.reduceAdd, Nat.reduceSub, Nat.reduceLeDiff, Nat.reduceMul, Nat.reduceLT, Int.reduceLT, Int.reduceLE, Int.reduceNeg, inRange_c]
  grind [validStamp, isAuthor]
theorem eqStamp_c (a1 a2 b1 b2 : Int) : CL 88 [.agg [.int .i64 a1, .int .i64 a2], .agg [.int .i64 b1, .int .i64 b2]] [] = some (.bool (decide (Stamp.mk a1 a2 = ⟨b1, b2⟩)), []) := by
  refine callL_W _ _ _ (F := v88) rfl ?_
  simp only [v88, go_sem, Nat.reduceEqDiff, ↓reduceIte, reduceCtorEq, Nat.reduceAdd, Nat.reduceSub, Nat.reduceLeDiff, Nat.reduceMul, Nat.reduceLT, Int.reduceLT, Int.reduceLE, Int.reduceNeg, Stamp.mk.injEq]
  grind
theorem toStamp_c (a1 a2 : Int) : CL 87 [.agg [.int .i64 a1, .int .i64 a2]] [] = some (.agg [.int .i64 a1, .int .i64 a2], []) := by
  refine callL_W _ _ _ (F := v87) rfl ?_
  simp only [v87, go_sem, Nat.reduceEqDiff, ↓reduceIte, reduceCtorEq, Nat.reduceAdd, Nat.reduceSub, Nat.reduceLeDiff, Nat.reduceMul, Nat.reduceLT, Int.reduceLT, Int.reduceLE, Int.reduceNeg]
  rfl
end Go.Vi.Code
