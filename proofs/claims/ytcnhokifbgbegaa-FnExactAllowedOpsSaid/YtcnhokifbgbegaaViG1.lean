/- Contracts: grants. -/
import Derived.Test.YtcnhokifbgbegaaViSt
set_option linter.unusedSimpArgs false
set_option linter.unusedVariables false
namespace Go.Vi.Code
theorem validStamp_S (a1 a2 : Int) : CL 99 [.agg [.int .i64 a1, .int .i64 a2]] [] = some (.bool (validStamp ⟨a1, a2⟩), []) := by
  refine callL_W _ _ _ (F := v99) rfl ?_
  simp only [v99, go_sem, Nat.reduceEqDiff, ↓reduceIte, reduceCtorEq, Nat.reduceAdd, Nat.reduceSub, Nat.reduceLeDiff, Nat.reduceMul, Nat.reduceLT, Int.reduceLT, Int.reduceLE, Int.reduceNeg, validStamp_s]
structure Grant where
  id : Stamp
  who : Int
  right : Int
  enable : Bool
  deriving DecidableEq
def encG (g : Grant) : List D := [.int .i64 g.id.seq, .int .i64 g.id.author, .int .i64 g.who, .int .i64 g.right, .bool g.enable]
theorem Grant.eta (g : Grant) : Grant.mk g.id g.who g.right g.enable = g := rfl
theorem toGrant_c (a1 a2 a3 a4 : Int) (a5 : Bool) : CL 78 [.agg [.int .i64 a1, .int .i64 a2, .int .i64 a3, .int .i64 a4, .bool a5]] [] = some (.agg [.int .i64 a1, .int .i64 a2, .int .i64 a3, .int .i64 a4, .bool a5], []) := by
  refine callL_W _ _ _ (F := v78) rfl ?_
  simp only [v78, go_sem, Nat.reduceEqDiff, ↓reduceIte, reduceCtorEq, Nat.reduceAdd, Nat.reduceSub, Nat.reduceLeDiff, Nat.reduceMul, Nat.reduceLT, Int.reduceLT, Int.reduceLE, Int.reduceNeg, toStamp_c]
  rfl
theorem eqGrant_c (a1 a2 a3 a4 b1 b2 b3 b4 : Int) (a5 b5 : Bool) : CL 79 [.agg [.int .i64 a1, .int .i64 a2, .int .i64 a3, .int .i64 a4, .bool a5], .agg [.int .i64 b1, .int .i64 b2, .int .i64 b3, .int .i64 b4, .bool b5]] [] = some (.bool (decide (Grant.mk ⟨a1, a2⟩ a3 a4 a5 = ⟨⟨b1, b2⟩, b3, b4, b5⟩)), []) := by
  refine callL_W _ _ _ (F := v79) rfl ?_
  simp only [v79, go_sem, Nat.reduceEqDiff, ↓reduceIte, reduceCtorEq, Nat.reduceAdd, Nat.reduceSub, Nat.reduceLeDiff, Nat.reduceMul, Nat.reduceLT, Int.reduceLT, Int.reduceLE, Int.reduceNeg, eqStamp_c, Stamp.mk.injEq, Grant.mk.injEq]
  grind
end Go.Vi.Code
