/- Contracts: stamps. -/
import Derived.Test.YtojgihheepdgdaaViB
set_option linter.unusedSimpArgs false
set_option linter.unusedVariables false
namespace Go.Vi.Code
theorem isAuthor_c (n : Int) : CL 52 [.int .i64 n] [] = some (.bool (isAuthor n), []) := by
  refine callL_W _ _ _ (F := v52) rfl ?_
  simp only [v52, go_sem, Nat.reduceEqDiff, ↓reduceIte, reduceCtorEq, Nat.reduceAdd, Nat.reduceSub, Nat.reduceLeDiff, Nat.reduceMul, Nat.reduceLT, Int.reduceLT, Int.reduceLE, Int.reduceNeg]
  grind [isAuthor]
theorem inRange_c (n a b : Int) : CL 55 [.int .i64 n, .int .i64 a, .int .i64 b] [] = some (.bool (decide (a ≤ n ∧ n ≤ b)), []) := by
  refine callL_W _ _ _ (F := v55) rfl ?_
  simp only [v55, go_sem, Nat.reduceEqDiff, ↓reduceIte, reduceCtorEq, Nat.reduceAdd, Nat.reduceSub, Nat.reduceLeDiff, Nat.reduceMul, Nat.reduceLT, Int.reduceLT, Int.reduceLE, Int.reduceNeg]
  grind
theorem stampLess_c (a1 a2 b1 b2 : Int) : CL 53 [.agg [.int .i64 a1, .int .i64 a2], .agg [.int .i64 b1, .int .i64 b2]] [] = some (.bool (stampLess ⟨a1, a2⟩ ⟨b1, b2⟩), []) := by
  refine callL_W _ _ _ (F := v53) rfl ?_
  simp only [v53, encS, go_sem, Nat.reduceEqDiff, ↓reduceIte, reduceCtorEq, Nat.reduceAdd, Nat.reduceSub, Nat.reduceLeDiff, Nat.reduceMul, Nat.reduceLT, Int.reduceLT, Int.reduceLE, Int.reduceNeg]
  grind [stampLess]
theorem stampLess_s (a1 a2 b1 b2 : Int) : CL 78 [.agg [.int .i64 a1, .int .i64 a2], .agg [.int .i64 b1, .int .i64 b2]] [] = some (.bool (stampLess ⟨a1, a2⟩ ⟨b1, b2⟩), []) := by
  refine callL_W _ _ _ (F := v78) rfl ?_
  simp only [v78, encS, go_sem, Nat.reduceEqDiff, ↓reduceIte, reduceCtorEq, Nat.reduceAdd, Nat.reduceSub, Nat.reduceLeDiff, Nat.reduceMul, Nat.reduceLT, Int.reduceLT, Int.reduceLE, Int.reduceNeg]
  grind [stampLess]
theorem validStamp_c (a1 a2 : Int) : CL 51 [.agg [.int .i64 a1, .int .i64 a2]] [] = some (.bool (validStamp ⟨a1, a2⟩), []) := by
  refine callL_W _ _ _ (F := v51) rfl ?_
  simp only [v51, encS, go_sem, Nat.reduceEqDiff, ↓reduceIte, reduceCtorEq, Nat.reduceAdd, Nat.reduceSub, Nat.reduceLeDiff, Nat.reduceMul, Nat.reduceLT, Int.reduceLT, Int.reduceLE, Int.reduceNeg, isAuthor_c]
  grind [validStamp, isAuthor]
theorem validStamp_s (a1 a2 : Int) : CL 85 [.agg [.int .i64 a1, .int .i64 a2]] [] = some (.bool (validStamp ⟨a1, a2⟩), []) := by
  refine callL_W _ _ _ (F := v85) rfl ?_
  simp only [v85, encS, go_sem, Nat.reduceEqDiff, ↓reduceIte, reduceCtorEq, Nat.reduceAdd, Nat.reduceSub, Nat.reduceLeDiff, Nat.reduceMul, Nat.reduceLT, Int.reduceLT, Int.reduceLE, Int.reduceNeg, inRange_c]
  grind [validStamp, isAuthor]
theorem eqStamp_c (a1 a2 b1 b2 : Int) : CL 79 [.agg [.int .i64 a1, .int .i64 a2], .agg [.int .i64 b1, .int .i64 b2]] [] = some (.bool (decide (Stamp.mk a1 a2 = ⟨b1, b2⟩)), []) := by
  refine callL_W _ _ _ (F := v79) rfl ?_
  simp only [v79, go_sem, Nat.reduceEqDiff, ↓reduceIte, reduceCtorEq, Nat.reduceAdd, Nat.reduceSub, Nat.reduceLeDiff, Nat.reduceMul, Nat.reduceLT, Int.reduceLT, Int.reduceLE, Int.reduceNeg, Stamp.mk.injEq]
  grind
theorem toStamp_c (a1 a2 : Int) : CL 21 [.agg [.int .i64 a1, .int .i64 a2]] [] = some (.agg [.int .i64 a1, .int .i64 a2], []) := by
  refine callL_W _ _ _ (F := v21) rfl ?_
  simp only [v21, go_sem, Nat.reduceEqDiff, ↓reduceIte, reduceCtorEq, Nat.reduceAdd, Nat.reduceSub, Nat.reduceLeDiff, Nat.reduceMul, Nat.reduceLT, Int.reduceLT, Int.reduceLE, Int.reduceNeg]
  rfl
end Go.Vi.Code
