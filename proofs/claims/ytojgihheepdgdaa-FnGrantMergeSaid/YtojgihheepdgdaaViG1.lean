/- Contracts: stamps, grants. -/
import Derived.Test.YtojgihheepdgdaaViWp2
import Derived.Test.YtojgihheepdgdaaViCode
set_option linter.unusedSimpArgs false
set_option linter.unusedVariables false
namespace Go.Vi.Code
abbrev gl : Nat → Option (List D) := fun _ => none
abbrev prim : CallF := fun _ _ _ => none
noncomputable abbrev CL : CallF := callL gl C prim
structure Stamp where
  seq : Int
  author : Int
  deriving DecidableEq
theorem Stamp.eta (s : Stamp) : Stamp.mk s.seq s.author = s := rfl
def encS (s : Stamp) : List D := [.int .i64 s.seq, .int .i64 s.author]
def isAuthor (n : Int) : Bool := decide (0 ≤ n ∧ n < 3)
def stampLess (a b : Stamp) : Bool := decide (a.seq < b.seq ∨ a.seq = b.seq ∧ a.author < b.author)
def validStamp (t : Stamp) : Bool := decide (1 ≤ t.seq ∧ t.seq ≤ 99 ∧ 0 ≤ t.author ∧ t.author < 3)

theorem isAuthor_c (n : Int) : CL 52 [.int .i64 n] [] = some (.bool (isAuthor n), []) := by
  refine callL_W _ _ _ (F := v52) rfl ?_
  simp only [v52, go_sem, Nat.reduceEqDiff, ↓reduceIte, reduceCtorEq, Nat.reduceAdd, Nat.reduceSub, Nat.reduceLeDiff, Nat.reduceMul, Nat.reduceLT, Int.reduceLT, Int.reduceLE, Int.reduceNeg]
  grind [isAuthor]
theorem inRange_c (n a b : Int) : CL 55 [.int .i64 n, .int .i64 a, .int .i64 b] [] = some (.bool (decide (a ≤ n ∧ n ≤ b)), []) := by
  refine callL_W _ _ _ (F := v55) rfl ?_
  simp only [v55, go_sem, Nat.reduceEqDiff, ↓reduceIte, reduceCtorEq, Nat.reduceAdd, Nat.reduceSub, Nat.reduceLeDiff, Nat.reduceMul, Nat.reduceLT, Int.reduceLT, Int.reduceLE, Int.reduceNeg]
  grind
theorem stampLess_c (a1 a2 b1 b2 : Int) : CL 53 [.agg [.int .i64 a1, .int .i64 a2], .agg [.int .i64 b1, .int .i64 b2]] [] = some (.bool (stampLess ⟨a1, a2⟩ ⟨b1, b2⟩), []) := by
  refine callL_W _ _ _ (F := v53) rfl ?_
  simp only [v53, encS, go_sem, Nat.reduceEqDiff, ↓reduceIte, reduceCtorEq, Nat.reduceAdd, Nat.reduceSub, Nat.reduceLeDiff, Nat.reduceMul, Nat.reduceLT, Int.reduceLT, Int.reduceLE, Int.reduceNeg]
  grind [stampLess]
theorem stampLess_s (a1 a2 b1 b2 : Int) : CL 78 [.agg [.int .i64 a1, .int .i64 a2], .agg [.int .i64 b1, .int .i64 b2]] [] = some (.bool (stampLess ⟨a1, a2⟩ ⟨b1, b2⟩), []) := by
  refine callL_W _ _ _ (F := v78) rfl ?_
  simp only [v78, encS, go_sem, Nat.reduceEqDiff, ↓reduceIte, reduceCtorEq, Nat.reduceAdd, Nat.reduceSub, Nat.reduceLeDiff, Nat.reduceMul, Nat.reduceLT, Int.reduceLT, Int.reduceLE, Int.reduceNeg]
  grind [stampLess]
theorem validStamp_c (a1 a2 : Int) : CL 51 [.agg [.int .i64 a1, .int .i64 a2]] [] = some (.bool (validStamp ⟨a1, a2⟩), []) := by
  refine callL_W _ _ _ (F := v51) rfl ?_
  simp only [v51, encS, go_sem, Nat.reduceEqDiff, ↓reduceIte, reduceCtorEq, Nat.reduceAdd, Nat.reduceSub, Nat.reduceLeDiff, Nat.reduceMul, Nat.reduceLT, Int.reduceLT, Int.reduceLE, Int.reduceNeg, isAuthor_c]
  grind [validStamp, isAuthor]
theorem validStamp_s (a1 a2 : Int) : CL 85 [.agg [.int .i64 a1, .int .i64 a2]] [] = some (.bool (validStamp ⟨a1, a2⟩), []) := by
  refine callL_W _ _ _ (F := v85) rfl ?_
  simp only [v85, encS, go_sem, Nat.reduceEqDiff, ↓reduceIte, reduceCtorEq, Nat.reduceAdd, Nat.reduceSub, Nat.reduceLeDiff, Nat.reduceMul, Nat.reduceLT, Int.reduceLT, Int.reduceLE, Int.reduceNeg, inRange_c]
  grind [validStamp, isAuthor]
theorem validStamp_S (a1 a2 : Int) : CL 77 [.agg [.int .i64 a1, .int .i64 a2]] [] = some (.bool (validStamp ⟨a1, a2⟩), []) := by
  refine callL_W _ _ _ (F := v77) rfl ?_
  simp only [v77, go_sem, Nat.reduceEqDiff, ↓reduceIte, reduceCtorEq, Nat.reduceAdd, Nat.reduceSub, Nat.reduceLeDiff, Nat.reduceMul, Nat.reduceLT, Int.reduceLT, Int.reduceLE, Int.reduceNeg, validStamp_s]
theorem eqStamp_c (a1 a2 b1 b2 : Int) : CL 79 [.agg [.int .i64 a1, .int .i64 a2], .agg [.int .i64 b1, .int .i64 b2]] [] = some (.bool (decide (Stamp.mk a1 a2 = ⟨b1, b2⟩)), []) := by
  refine callL_W _ _ _ (F := v79) rfl ?_
  simp only [v79, go_sem, Nat.reduceEqDiff, ↓reduceIte, reduceCtorEq, Nat.reduceAdd, Nat.reduceSub, Nat.reduceLeDiff, Nat.reduceMul, Nat.reduceLT, Int.reduceLT, Int.reduceLE, Int.reduceNeg, Stamp.mk.injEq]
  grind
structure Grant where
  id : Stamp
  who : Int
  right : Int
  enable : Bool
  deriving DecidableEq
def encG (g : Grant) : List D := [.int .i64 g.id.seq, .int .i64 g.id.author, .int .i64 g.who, .int .i64 g.right, .bool g.enable]
theorem Grant.eta (g : Grant) : Grant.mk g.id g.who g.right g.enable = g := rfl
theorem toStamp_c (a1 a2 : Int) : CL 21 [.agg [.int .i64 a1, .int .i64 a2]] [] = some (.agg [.int .i64 a1, .int .i64 a2], []) := by
  refine callL_W _ _ _ (F := v21) rfl ?_
  simp only [v21, go_sem, Nat.reduceEqDiff, ↓reduceIte, reduceCtorEq, Nat.reduceAdd, Nat.reduceSub, Nat.reduceLeDiff, Nat.reduceMul, Nat.reduceLT, Int.reduceLT, Int.reduceLE, Int.reduceNeg]
  rfl
theorem toGrant_c (a1 a2 a3 a4 : Int) (a5 : Bool) : CL 50 [.agg [.int .i64 a1, .int .i64 a2, .int .i64 a3, .int .i64 a4, .bool a5]] [] = some (.agg [.int .i64 a1, .int .i64 a2, .int .i64 a3, .int .i64 a4, .bool a5], []) := by
  refine callL_W _ _ _ (F := v50) rfl ?_
  simp only [v50, go_sem, Nat.reduceEqDiff, ↓reduceIte, reduceCtorEq, Nat.reduceAdd, Nat.reduceSub, Nat.reduceLeDiff, Nat.reduceMul, Nat.reduceLT, Int.reduceLT, Int.reduceLE, Int.reduceNeg, toStamp_c]
  rfl
theorem eqGrant_c (a1 a2 a3 a4 b1 b2 b3 b4 : Int) (a5 b5 : Bool) : CL 54 [.agg [.int .i64 a1, .int .i64 a2, .int .i64 a3, .int .i64 a4, .bool a5], .agg [.int .i64 b1, .int .i64 b2, .int .i64 b3, .int .i64 b4, .bool b5]] [] = some (.bool (decide (Grant.mk ⟨a1, a2⟩ a3 a4 a5 = ⟨⟨b1, b2⟩, b3, b4, b5⟩)), []) := by
  refine callL_W _ _ _ (F := v54) rfl ?_
  simp only [v54, go_sem, Nat.reduceEqDiff, ↓reduceIte, reduceCtorEq, Nat.reduceAdd, Nat.reduceSub, Nat.reduceLeDiff, Nat.reduceMul, Nat.reduceLT, Int.reduceLT, Int.reduceLE, Int.reduceNeg, eqStamp_c, Stamp.mk.injEq, Grant.mk.injEq]
  grind
end Go.Vi.Code
