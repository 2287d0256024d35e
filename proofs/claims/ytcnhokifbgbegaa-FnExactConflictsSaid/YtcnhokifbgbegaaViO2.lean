/- Contracts: the program's ValidOp. -/
import Derived.Test.YtcnhokifbgbegaaViO1
set_option linter.unusedSimpArgs false
set_option linter.unusedVariables false
namespace Go.Vi.Code
attribute [local congr] ite_congr
set_option maxRecDepth 20000 in
set_option maxHeartbeats 2000000 in
theorem validOp_c1 (a1 a2 a4 a5 a6 a7 a8 a9 b1 : Int) (b3 : Bool) (b4 : List UInt8) (hv : validStamp ⟨a1, a2⟩ = true) : CL 68 [.agg [.int .i64 a1, .int .i64 a2, .int .i64 1, .int .i64 a4, .int .i64 a5, .int .i64 a6, .int .i64 a7, .int .i64 a8, .int .i64 a9, .int .i64 b1, .bool b3, .str b4]] [] =
    some (.bool (validOp ⟨⟨a1, a2⟩, 1, ⟨a4, a5⟩, ⟨a6, a7⟩, ⟨a8, a9⟩, b1, b3, b4⟩), []) := by
  refine callL_W _ _ _ (F := v68) rfl ?_
  simp (config := { contextual := true }) only [v68, go_sem, Nat.reduceEqDiff, ↓reduceIte, reduceCtorEq, Nat.reduceAdd, Nat.reduceSub, Nat.reduceLeDiff, Nat.reduceMul, Nat.reduceLT, Int.reduceLT, Int.reduceLE, Int.reduceNeg, Int.cast_ofNat_Int, Int.reduceToNat, Int.toNat_zero, ne_eq, not_false_eq_true, Int.reduceEq, validStamp_c, hv, ref_c, some_c, Int.reduceBEq, Nat.reduceBNe, DynB_true, Bool.not_true, empty_beq, beq_self_eq_true, List.cons_append, List.nil_append]
  repeat' split
  all_goals (simp_all [validOp, zeroS, DynB_true] <;> try (intros; omega))
set_option maxRecDepth 20000 in
set_option maxHeartbeats 2000000 in
theorem validOp_c2 (a1 a2 a4 a5 a6 a7 a8 a9 b1 : Int) (b3 : Bool) (b4 : List UInt8) (hv : validStamp ⟨a1, a2⟩ = true) : CL 68 [.agg [.int .i64 a1, .int .i64 a2, .int .i64 2, .int .i64 a4, .int .i64 a5, .int .i64 a6, .int .i64 a7, .int .i64 a8, .int .i64 a9, .int .i64 b1, .bool b3, .str b4]] [] =
    some (.bool (validOp ⟨⟨a1, a2⟩, 2, ⟨a4, a5⟩, ⟨a6, a7⟩, ⟨a8, a9⟩, b1, b3, b4⟩), []) := by
  refine callL_W _ _ _ (F := v68) rfl ?_
  simp (config := { contextual := true }) only [v68, go_sem, Nat.reduceEqDiff, ↓reduceIte, reduceCtorEq, Nat.reduceAdd, Nat.reduceSub, Nat.reduceLeDiff, Nat.reduceMul, Nat.reduceLT, Int.reduceLT, Int.reduceLE, Int.reduceNeg, Int.cast_ofNat_Int, Int.reduceToNat, Int.toNat_zero, ne_eq, not_false_eq_true, Int.reduceEq, validStamp_c, hv, ref_c, some_c, Int.reduceBEq, Nat.reduceBNe, DynB_true, Bool.not_true, empty_beq, beq_self_eq_true, List.cons_append, List.nil_append]
  repeat' split
  all_goals (simp_all [validOp, zeroS, DynB_true] <;> try (intros; omega))
set_option maxRecDepth 20000 in
set_option maxHeartbeats 2000000 in
theorem validOp_c3 (a1 a2 a4 a5 a6 a7 a8 a9 b1 : Int) (b3 : Bool) (b4 : List UInt8) (hv : validStamp ⟨a1, a2⟩ = true) : CL 68 [.agg [.int .i64 a1, .int .i64 a2, .int .i64 3, .int .i64 a4, .int .i64 a5, .int .i64 a6, .int .i64 a7, .int .i64 a8, .int .i64 a9, .int .i64 b1, .bool b3, .str b4]] [] =
    some (.bool (validOp ⟨⟨a1, a2⟩, 3, ⟨a4, a5⟩, ⟨a6, a7⟩, ⟨a8, a9⟩, b1, b3, b4⟩), []) := by
  refine callL_W _ _ _ (F := v68) rfl ?_
  simp (config := { contextual := true }) only [v68, go_sem, Nat.reduceEqDiff, ↓reduceIte, reduceCtorEq, Nat.reduceAdd, Nat.reduceSub, Nat.reduceLeDiff, Nat.reduceMul, Nat.reduceLT, Int.reduceLT, Int.reduceLE, Int.reduceNeg, Int.cast_ofNat_Int, Int.reduceToNat, Int.toNat_zero, ne_eq, not_false_eq_true, Int.reduceEq, validStamp_c, hv, ref_c, some_c, Int.reduceBEq, Nat.reduceBNe, DynB_true, Bool.not_true, empty_beq, beq_self_eq_true, List.cons_append, List.nil_append]
  repeat' split
  all_goals (simp_all [validOp, zeroS, DynB_true] <;> try (intros; omega))
set_option maxRecDepth 20000 in
set_option maxHeartbeats 2000000 in
theorem validOp_c4 (a1 a2 a4 a5 a6 a7 a8 a9 b1 : Int) (b3 : Bool) (b4 : List UInt8) (hv : validStamp ⟨a1, a2⟩ = true) : CL 68 [.agg [.int .i64 a1, .int .i64 a2, .int .i64 4, .int .i64 a4, .int .i64 a5, .int .i64 a6, .int .i64 a7, .int .i64 a8, .int .i64 a9, .int .i64 b1, .bool b3, .str b4]] [] =
    some (.bool (validOp ⟨⟨a1, a2⟩, 4, ⟨a4, a5⟩, ⟨a6, a7⟩, ⟨a8, a9⟩, b1, b3, b4⟩), []) := by
  refine callL_W _ _ _ (F := v68) rfl ?_
  simp (config := { contextual := true }) only [v68, go_sem, Nat.reduceEqDiff, ↓reduceIte, reduceCtorEq, Nat.reduceAdd, Nat.reduceSub, Nat.reduceLeDiff, Nat.reduceMul, Nat.reduceLT, Int.reduceLT, Int.reduceLE, Int.reduceNeg, Int.cast_ofNat_Int, Int.reduceToNat, Int.toNat_zero, ne_eq, not_false_eq_true, Int.reduceEq, validStamp_c, hv, ref_c, some_c, Int.reduceBEq, Nat.reduceBNe, DynB_true, Bool.not_true, empty_beq, beq_self_eq_true, List.cons_append, List.nil_append]
  repeat' split
  all_goals (simp_all [validOp, zeroS, DynB_true] <;> try (intros; omega))
set_option maxRecDepth 20000 in
set_option maxHeartbeats 2000000 in
theorem validOp_c5 (a1 a2 a4 a5 a6 a7 a8 a9 b1 : Int) (b3 : Bool) (b4 : List UInt8) (hv : validStamp ⟨a1, a2⟩ = true) : CL 68 [.agg [.int .i64 a1, .int .i64 a2, .int .i64 5, .int .i64 a4, .int .i64 a5, .int .i64 a6, .int .i64 a7, .int .i64 a8, .int .i64 a9, .int .i64 b1, .bool b3, .str b4]] [] =
    some (.bool (validOp ⟨⟨a1, a2⟩, 5, ⟨a4, a5⟩, ⟨a6, a7⟩, ⟨a8, a9⟩, b1, b3, b4⟩), []) := by
  refine callL_W _ _ _ (F := v68) rfl ?_
  simp (config := { contextual := true }) only [v68, go_sem, Nat.reduceEqDiff, ↓reduceIte, reduceCtorEq, Nat.reduceAdd, Nat.reduceSub, Nat.reduceLeDiff, Nat.reduceMul, Nat.reduceLT, Int.reduceLT, Int.reduceLE, Int.reduceNeg, Int.cast_ofNat_Int, Int.reduceToNat, Int.toNat_zero, ne_eq, not_false_eq_true, Int.reduceEq, validStamp_c, hv, ref_c, some_c, Int.reduceBEq, Nat.reduceBNe, DynB_true, Bool.not_true, empty_beq, beq_self_eq_true, List.cons_append, List.nil_append]
  repeat' split
  all_goals (simp_all [validOp, zeroS, DynB_true] <;> try (intros; omega))
set_option maxRecDepth 20000 in
set_option maxHeartbeats 2000000 in
theorem validOp_c6 (a1 a2 a4 a5 a6 a7 a8 a9 b1 : Int) (b3 : Bool) (b4 : List UInt8) (hv : validStamp ⟨a1, a2⟩ = true) : CL 68 [.agg [.int .i64 a1, .int .i64 a2, .int .i64 6, .int .i64 a4, .int .i64 a5, .int .i64 a6, .int .i64 a7, .int .i64 a8, .int .i64 a9, .int .i64 b1, .bool b3, .str b4]] [] =
    some (.bool (validOp ⟨⟨a1, a2⟩, 6, ⟨a4, a5⟩, ⟨a6, a7⟩, ⟨a8, a9⟩, b1, b3, b4⟩), []) := by
  refine callL_W _ _ _ (F := v68) rfl ?_
  simp (config := { contextual := true }) only [v68, go_sem, Nat.reduceEqDiff, ↓reduceIte, reduceCtorEq, Nat.reduceAdd, Nat.reduceSub, Nat.reduceLeDiff, Nat.reduceMul, Nat.reduceLT, Int.reduceLT, Int.reduceLE, Int.reduceNeg, Int.cast_ofNat_Int, Int.reduceToNat, Int.toNat_zero, ne_eq, not_false_eq_true, Int.reduceEq, validStamp_c, hv, ref_c, some_c, Int.reduceBEq, Nat.reduceBNe, DynB_true, Bool.not_true, empty_beq, beq_self_eq_true, List.cons_append, List.nil_append]
  repeat' split
  all_goals (simp_all [validOp, zeroS, DynB_true] <;> try (intros; omega))
set_option maxRecDepth 20000 in
set_option maxHeartbeats 2000000 in
theorem validOp_c7 (a1 a2 a4 a5 a6 a7 a8 a9 b1 : Int) (b3 : Bool) (b4 : List UInt8) (hv : validStamp ⟨a1, a2⟩ = true) : CL 68 [.agg [.int .i64 a1, .int .i64 a2, .int .i64 7, .int .i64 a4, .int .i64 a5, .int .i64 a6, .int .i64 a7, .int .i64 a8, .int .i64 a9, .int .i64 b1, .bool b3, .str b4]] [] =
    some (.bool (validOp ⟨⟨a1, a2⟩, 7, ⟨a4, a5⟩, ⟨a6, a7⟩, ⟨a8, a9⟩, b1, b3, b4⟩), []) := by
  refine callL_W _ _ _ (F := v68) rfl ?_
  simp (config := { contextual := true }) only [v68, go_sem, Nat.reduceEqDiff, ↓reduceIte, reduceCtorEq, Nat.reduceAdd, Nat.reduceSub, Nat.reduceLeDiff, Nat.reduceMul, Nat.reduceLT, Int.reduceLT, Int.reduceLE, Int.reduceNeg, Int.cast_ofNat_Int, Int.reduceToNat, Int.toNat_zero, ne_eq, not_false_eq_true, Int.reduceEq, validStamp_c, hv, ref_c, some_c, Int.reduceBEq, Nat.reduceBNe, DynB_true, Bool.not_true, empty_beq, beq_self_eq_true, List.cons_append, List.nil_append]
  repeat' split
  all_goals (simp_all [validOp, zeroS, DynB_true] <;> try (intros; omega))
set_option maxRecDepth 20000 in
set_option maxHeartbeats 2000000 in
theorem validOp_c8 (a1 a2 a4 a5 a6 a7 a8 a9 b1 : Int) (b3 : Bool) (b4 : List UInt8) (hv : validStamp ⟨a1, a2⟩ = true) (hwd : CL 96 [.str b4] [] = some (.bool (isWord b4), [])) : CL 68 [.agg [.int .i64 a1, .int .i64 a2, .int .i64 8, .int .i64 a4, .int .i64 a5, .int .i64 a6, .int .i64 a7, .int .i64 a8, .int .i64 a9, .int .i64 b1, .bool b3, .str b4]] [] =
    some (.bool (validOp ⟨⟨a1, a2⟩, 8, ⟨a4, a5⟩, ⟨a6, a7⟩, ⟨a8, a9⟩, b1, b3, b4⟩), []) := by
  refine callL_W _ _ _ (F := v68) rfl ?_
  simp (config := { contextual := true }) only [v68, go_sem, Nat.reduceEqDiff, ↓reduceIte, reduceCtorEq, Nat.reduceAdd, Nat.reduceSub, Nat.reduceLeDiff, Nat.reduceMul, Nat.reduceLT, Int.reduceLT, Int.reduceLE, Int.reduceNeg, Int.cast_ofNat_Int, Int.reduceToNat, Int.toNat_zero, ne_eq, not_false_eq_true, Int.reduceEq, validStamp_c, hv, ref_c, some_c, Int.reduceBEq, Nat.reduceBNe, DynB_true, Bool.not_true, empty_beq, beq_self_eq_true, List.cons_append, List.nil_append, hwd]
  repeat' split
  all_goals (simp_all [validOp, zeroS, DynB_true] <;> try (intros; omega))
set_option maxRecDepth 20000 in
set_option maxHeartbeats 2000000 in
theorem validOp_c9 (a1 a2 a4 a5 a6 a7 a8 a9 b1 : Int) (b3 : Bool) (b4 : List UInt8) (hv : validStamp ⟨a1, a2⟩ = true) (hwd : CL 96 [.str b4] [] = some (.bool (isWord b4), [])) : CL 68 [.agg [.int .i64 a1, .int .i64 a2, .int .i64 9, .int .i64 a4, .int .i64 a5, .int .i64 a6, .int .i64 a7, .int .i64 a8, .int .i64 a9, .int .i64 b1, .bool b3, .str b4]] [] =
    some (.bool (validOp ⟨⟨a1, a2⟩, 9, ⟨a4, a5⟩, ⟨a6, a7⟩, ⟨a8, a9⟩, b1, b3, b4⟩), []) := by
  refine callL_W _ _ _ (F := v68) rfl ?_
  simp (config := { contextual := true }) only [v68, go_sem, Nat.reduceEqDiff, ↓reduceIte, reduceCtorEq, Nat.reduceAdd, Nat.reduceSub, Nat.reduceLeDiff, Nat.reduceMul, Nat.reduceLT, Int.reduceLT, Int.reduceLE, Int.reduceNeg, Int.cast_ofNat_Int, Int.reduceToNat, Int.toNat_zero, ne_eq, not_false_eq_true, Int.reduceEq, validStamp_c, hv, ref_c, some_c, Int.reduceBEq, Nat.reduceBNe, DynB_true, Bool.not_true, empty_beq, beq_self_eq_true, List.cons_append, List.nil_append, hwd]
  repeat' split
  all_goals (simp_all [validOp, zeroS, DynB_true] <;> try (intros; omega))
set_option maxRecDepth 20000 in
set_option maxHeartbeats 2000000 in
theorem validOp_c10 (a1 a2 a4 a5 a6 a7 a8 a9 b1 : Int) (b3 : Bool) (b4 : List UInt8) (hv : validStamp ⟨a1, a2⟩ = true) : CL 68 [.agg [.int .i64 a1, .int .i64 a2, .int .i64 10, .int .i64 a4, .int .i64 a5, .int .i64 a6, .int .i64 a7, .int .i64 a8, .int .i64 a9, .int .i64 b1, .bool b3, .str b4]] [] =
    some (.bool (validOp ⟨⟨a1, a2⟩, 10, ⟨a4, a5⟩, ⟨a6, a7⟩, ⟨a8, a9⟩, b1, b3, b4⟩), []) := by
  refine callL_W _ _ _ (F := v68) rfl ?_
  simp (config := { contextual := true }) only [v68, go_sem, Nat.reduceEqDiff, ↓reduceIte, reduceCtorEq, Nat.reduceAdd, Nat.reduceSub, Nat.reduceLeDiff, Nat.reduceMul, Nat.reduceLT, Int.reduceLT, Int.reduceLE, Int.reduceNeg, Int.cast_ofNat_Int, Int.reduceToNat, Int.toNat_zero, ne_eq, not_false_eq_true, Int.reduceEq, validStamp_c, hv, ref_c, some_c, Int.reduceBEq, Nat.reduceBNe, DynB_true, Bool.not_true, empty_beq, beq_self_eq_true, List.cons_append, List.nil_append]
  repeat' split
  all_goals (simp_all [validOp, zeroS, DynB_true] <;> try (intros; omega))
end Go.Vi.Code
