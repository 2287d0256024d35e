/- Contracts: operations. -/
import Derived.Test.YtcnhokifbgbegaaViSt
set_option linter.unusedSimpArgs false
set_option linter.unusedVariables false
namespace Go.Vi.Code
structure Op where
  id : Stamp
  kind : Int
  target : Stamp
  after : Stamp
  parent : Stamp
  value : Int
  enable : Bool
  text : List UInt8
  deriving DecidableEq
def encO (o : Op) : List D := [.int .i64 o.id.seq, .int .i64 o.id.author, .int .i64 o.kind, .int .i64 o.target.seq, .int .i64 o.target.author, .int .i64 o.after.seq, .int .i64 o.after.author, .int .i64 o.parent.seq, .int .i64 o.parent.author, .int .i64 o.value, .bool o.enable, .str o.text]
def zeroS (t : Stamp) : Bool := decide (t.seq = 0 ∧ t.author = 0)
def refS (o t : Stamp) : Bool := validStamp t && stampLess t o
def optS (o t : Stamp) : Bool := zeroS t || refS o t
def isWord (s : List UInt8) : Bool := s.all (fun c => decide (97 ≤ c.toNat ∧ c.toNat ≤ 122)) && decide (1 ≤ s.length ∧ s.length ≤ 8)
def validOp (o : Op) : Bool := validStamp o.id &&
  (if o.kind = 1 then optS o.id o.target && optS o.id o.after && zeroS o.parent && decide (32 ≤ o.value ∧ o.value ≤ 126) && !o.enable && o.text.isEmpty
   else if o.kind = 2 ∨ o.kind = 7 then refS o.id o.target && zeroS o.after && zeroS o.parent && decide (o.value = 0) && !o.enable && o.text.isEmpty
   else if o.kind = 3 then refS o.id o.target && refS o.id o.after && zeroS o.parent && decide (1 ≤ o.value ∧ o.value ≤ 3) && o.text.isEmpty
   else if o.kind = 4 then optS o.id o.target && optS o.id o.after && zeroS o.parent && decide (1 ≤ o.value ∧ o.value ≤ 4) && !o.enable && o.text.isEmpty
   else if o.kind = 5 then refS o.id o.target && optS o.id o.after && optS o.id o.parent && decide (o.value = 0) && !o.enable && o.text.isEmpty
   else if o.kind = 6 then refS o.id o.target && zeroS o.after && zeroS o.parent && decide (1 ≤ o.value ∧ o.value ≤ 4) && !o.enable && o.text.isEmpty
   else if o.kind = 8 then refS o.id o.target && refS o.id o.after && zeroS o.parent && decide (o.value = 0) && !o.enable && isWord o.text
   else if o.kind = 9 then refS o.id o.target && zeroS o.after && zeroS o.parent && decide (o.value = 0) && !o.enable && isWord o.text
   else if o.kind = 10 then refS o.id o.target && zeroS o.after && zeroS o.parent && decide (o.value = 0) && o.text.isEmpty
   else false)
attribute [local congr] ite_congr
theorem ref_c (x1 x2 a1 a2 a3 a4 a5 a6 a7 a8 a9 b1 : Int) (b3 : Bool) (b4 : List UInt8) : CL 94 [.agg [.int .i64 x1, .int .i64 x2], .ipt [.int .i64 a1, .int .i64 a2, .int .i64 a3, .int .i64 a4, .int .i64 a5, .int .i64 a6, .int .i64 a7, .int .i64 a8, .int .i64 a9, .int .i64 b1, .bool b3, .str b4]] [] =
    some (.bool (refS ⟨a1, a2⟩ ⟨x1, x2⟩), []) := by
  refine callL_W _ _ _ (F := v94) rfl ?_
  by_cases h : validStamp ⟨x1, x2⟩ = true
  · simp only [v94, go_sem, Nat.reduceEqDiff, ↓reduceIte, reduceCtorEq, Nat.reduceAdd, Nat.reduceSub, Nat.reduceLeDiff, Nat.reduceMul, Nat.reduceLT, Int.reduceLT, Int.reduceLE, Int.reduceNeg, Int.cast_ofNat_Int, Int.reduceToNat, Int.toNat_zero, ne_eq, not_false_eq_true, Int.reduceEq, validStamp_c, h, stampLess_c]
    simp only [refS, h, Bool.true_and]
  · have h' : validStamp ⟨x1, x2⟩ = false := by simpa using h
    simp only [v94, go_sem, Nat.reduceEqDiff, ↓reduceIte, reduceCtorEq, Nat.reduceAdd, Nat.reduceSub, Nat.reduceLeDiff, Nat.reduceMul, Nat.reduceLT, Int.reduceLT, Int.reduceLE, Int.reduceNeg, Int.cast_ofNat_Int, Int.reduceToNat, Int.toNat_zero, ne_eq, not_false_eq_true, Int.reduceEq, validStamp_c, h', stampLess_c]
    simp only [refS, h', Bool.false_and]
theorem some_c (x1 x2 a1 a2 a3 a4 a5 a6 a7 a8 a9 b1 : Int) (b3 : Bool) (b4 : List UInt8) : CL 95 [.agg [.int .i64 x1, .int .i64 x2], .ipt [.clo 94 [.ipt [.int .i64 a1, .int .i64 a2, .int .i64 a3, .int .i64 a4, .int .i64 a5, .int .i64 a6, .int .i64 a7, .int .i64 a8, .int .i64 a9, .int .i64 b1, .bool b3, .str b4]]]] [] =
    some (.bool (optS ⟨a1, a2⟩ ⟨x1, x2⟩), []) := by
  refine callL_W _ _ _ (F := v95) rfl ?_
  have hr := ref_c x1 x2 a1 a2 a3 a4 a5 a6 a7 a8 a9 b1 b3 b4
  by_cases h : zeroS ⟨x1, x2⟩ = true
  · have h2 : (x1 == 0 && x2 == 0) = true := by simpa [zeroS] using h
    have h3 : (x1 == 0 && (x2 == 0 && true)) = true := by simpa using h2
    simp only [v95, go_sem, Nat.reduceEqDiff, ↓reduceIte, reduceCtorEq, Nat.reduceAdd, Nat.reduceSub, Nat.reduceLeDiff, Nat.reduceMul, Nat.reduceLT, Int.reduceLT, Int.reduceLE, Int.reduceNeg, Int.cast_ofNat_Int, Int.reduceToNat, Int.toNat_zero, ne_eq, not_false_eq_true, Int.reduceEq, h2, h3, hr]
    simp only [optS, h, Bool.true_or]
  · have h2 : (x1 == 0 && x2 == 0) = false := by rw [Bool.eq_false_iff]; simpa [zeroS] using h
    have h3 : (x1 == 0 && (x2 == 0 && true)) = false := by simpa using h2
    have h' : zeroS ⟨x1, x2⟩ = false := by simpa using h
    simp only [v95, go_sem, Nat.reduceEqDiff, ↓reduceIte, reduceCtorEq, Nat.reduceAdd, Nat.reduceSub, Nat.reduceLeDiff, Nat.reduceMul, Nat.reduceLT, Int.reduceLT, Int.reduceLE, Int.reduceNeg, Int.cast_ofNat_Int, Int.reduceToNat, Int.toNat_zero, ne_eq, not_false_eq_true, Int.reduceEq, h2, h3, hr, List.cons_append, List.nil_append]
    simp only [optS, h', Bool.false_or]
abbrev cO (a1 a2 a3 a4 a5 a6 a7 a8 a9 b1 : Int) (b3 : Bool) (b4 : List UInt8) : List D := [.int .i64 a1, .int .i64 a2, .int .i64 a3, .int .i64 a4, .int .i64 a5, .int .i64 a6, .int .i64 a7, .int .i64 a8, .int .i64 a9, .int .i64 b1, .bool b3, .str b4]
theorem isZero_s (x1 x2 : Int) : CL 106 [.agg [.int .i64 x1, .int .i64 x2]] [] = some (.bool (zeroS ⟨x1, x2⟩), []) := by
  refine callL_W _ _ _ (F := v106) rfl ?_
  have e : (x1 == 0 && x2 == 0) = zeroS ⟨x1, x2⟩ := by
    by_cases h : x1 = 0 <;> by_cases h2 : x2 = 0 <;> simp [zeroS, h, h2]
  simp only [v106, go_sem, Nat.reduceEqDiff, ↓reduceIte, reduceCtorEq, Nat.reduceAdd, Nat.reduceSub, Nat.reduceLeDiff, Nat.reduceMul, Nat.reduceLT, Int.reduceLT, Int.reduceLE, Int.reduceNeg, Int.cast_ofNat_Int, Int.reduceToNat, Int.toNat_zero, ne_eq, not_false_eq_true, Int.reduceEq, e]
theorem validRef_s (x1 x2 a1 a2 a3 a4 a5 a6 a7 a8 a9 b1 : Int) (b3 : Bool) (b4 : List UInt8) (c : Bool) : CL 105 [.agg [.int .i64 a1, .int .i64 a2, .int .i64 a3, .int .i64 a4, .int .i64 a5, .int .i64 a6, .int .i64 a7, .int .i64 a8, .int .i64 a9, .int .i64 b1, .bool b3, .str b4], .agg [.int .i64 x1, .int .i64 x2], .bool c] [] =
    some (.bool (if zeroS ⟨x1, x2⟩ = true then c else refS ⟨a1, a2⟩ ⟨x1, x2⟩), []) := by
  refine callL_W _ _ _ (F := v105) rfl ?_
  have e : (x1 == 0 && x2 == 0) = zeroS ⟨x1, x2⟩ := by
    by_cases h : x1 = 0 <;> by_cases h2 : x2 = 0 <;> simp [zeroS, h, h2]
  by_cases h : zeroS ⟨x1, x2⟩ = true
  · simp only [v105, go_sem, Nat.reduceEqDiff, ↓reduceIte, reduceCtorEq, Nat.reduceAdd, Nat.reduceSub, Nat.reduceLeDiff, Nat.reduceMul, Nat.reduceLT, Int.reduceLT, Int.reduceLE, Int.reduceNeg, Int.cast_ofNat_Int, Int.reduceToNat, Int.toNat_zero, ne_eq, not_false_eq_true, Int.reduceEq, e, h]
  · have h' : zeroS ⟨x1, x2⟩ = false := by simpa using h
    by_cases hv : validStamp ⟨x1, x2⟩ = true
    · simp only [v105, go_sem, Nat.reduceEqDiff, ↓reduceIte, reduceCtorEq, Nat.reduceAdd, Nat.reduceSub, Nat.reduceLeDiff, Nat.reduceMul, Nat.reduceLT, Int.reduceLT, Int.reduceLE, Int.reduceNeg, Int.cast_ofNat_Int, Int.reduceToNat, Int.toNat_zero, ne_eq, not_false_eq_true, Int.reduceEq, e, h', validStamp_s, hv, stampLess_s]
      simp only [refS, hv, Bool.true_and]
    · have hv' : validStamp ⟨x1, x2⟩ = false := by simpa using hv
      simp only [v105, go_sem, Nat.reduceEqDiff, ↓reduceIte, reduceCtorEq, Nat.reduceAdd, Nat.reduceSub, Nat.reduceLeDiff, Nat.reduceMul, Nat.reduceLT, Int.reduceLT, Int.reduceLE, Int.reduceNeg, Int.cast_ofNat_Int, Int.reduceToNat, Int.toNat_zero, ne_eq, not_false_eq_true, Int.reduceEq, e, h', validStamp_s, hv', stampLess_s]
      simp only [refS, hv', Bool.false_and]
theorem ref_zero (o : Stamp) {t : Stamp} (h : zeroS t = true) : refS o t = false := by
  simp only [zeroS, decide_eq_true_eq] at h
  simp [refS, validStamp, h.1]
theorem validRef_f (o t : Stamp) : (if zeroS t = true then false else refS o t) = refS o t := by
  split
  · rename_i h; rw [ref_zero o h]
  · rfl
theorem validRef_t (o t : Stamp) : (if zeroS t = true then true else refS o t) = optS o t := by
  unfold optS
  split
  · rename_i h; rw [h]; rfl
  · rename_i h; have : zeroS t = false := by simpa using h
    rw [this]; rfl
theorem empty_beq (b : List UInt8) : (b == []) = b.isEmpty := by cases b <;> rfl
set_option maxRecDepth 20000 in
set_option maxHeartbeats 2000000 in
theorem validOp_s1 (a1 a2 a4 a5 a6 a7 a8 a9 b1 : Int) (b3 : Bool) (b4 : List UInt8) (hv : validStamp ⟨a1, a2⟩ = true) : CL 85 [.agg [.int .i64 a1, .int .i64 a2, .int .i64 1, .int .i64 a4, .int .i64 a5, .int .i64 a6, .int .i64 a7, .int .i64 a8, .int .i64 a9, .int .i64 b1, .bool b3, .str b4]] [] =
    some (.bool (validOp ⟨⟨a1, a2⟩, 1, ⟨a4, a5⟩, ⟨a6, a7⟩, ⟨a8, a9⟩, b1, b3, b4⟩), []) := by
  refine callL_W _ _ _ (F := v85) rfl ?_
  simp (config := { contextual := true }) only [v85, go_sem, Nat.reduceEqDiff, ↓reduceIte, reduceCtorEq, Nat.reduceAdd, Nat.reduceSub, Nat.reduceLeDiff, Nat.reduceMul, Nat.reduceLT, Int.reduceLT, Int.reduceLE, Int.reduceNeg, Int.cast_ofNat_Int, Int.reduceToNat, Int.toNat_zero, ne_eq, not_false_eq_true, Int.reduceEq, validStamp_s, hv, validRef_s, validRef_f, validRef_t, isZero_s, inRange_c, Int.reduceBEq, Bool.not_true, empty_beq]
  repeat' split
  all_goals (simp_all [validOp] <;> try (intros; omega))
set_option maxRecDepth 20000 in
set_option maxHeartbeats 2000000 in
theorem validOp_s2 (a1 a2 a4 a5 a6 a7 a8 a9 b1 : Int) (b3 : Bool) (b4 : List UInt8) (hv : validStamp ⟨a1, a2⟩ = true) : CL 85 [.agg [.int .i64 a1, .int .i64 a2, .int .i64 2, .int .i64 a4, .int .i64 a5, .int .i64 a6, .int .i64 a7, .int .i64 a8, .int .i64 a9, .int .i64 b1, .bool b3, .str b4]] [] =
    some (.bool (validOp ⟨⟨a1, a2⟩, 2, ⟨a4, a5⟩, ⟨a6, a7⟩, ⟨a8, a9⟩, b1, b3, b4⟩), []) := by
  refine callL_W _ _ _ (F := v85) rfl ?_
  simp (config := { contextual := true }) only [v85, go_sem, Nat.reduceEqDiff, ↓reduceIte, reduceCtorEq, Nat.reduceAdd, Nat.reduceSub, Nat.reduceLeDiff, Nat.reduceMul, Nat.reduceLT, Int.reduceLT, Int.reduceLE, Int.reduceNeg, Int.cast_ofNat_Int, Int.reduceToNat, Int.toNat_zero, ne_eq, not_false_eq_true, Int.reduceEq, validStamp_s, hv, validRef_s, validRef_f, validRef_t, isZero_s, inRange_c, Int.reduceBEq, Bool.not_true, empty_beq]
  repeat' split
  all_goals (simp_all [validOp] <;> try (intros; omega))
set_option maxRecDepth 20000 in
set_option maxHeartbeats 2000000 in
theorem validOp_s3 (a1 a2 a4 a5 a6 a7 a8 a9 b1 : Int) (b3 : Bool) (b4 : List UInt8) (hv : validStamp ⟨a1, a2⟩ = true) : CL 85 [.agg [.int .i64 a1, .int .i64 a2, .int .i64 3, .int .i64 a4, .int .i64 a5, .int .i64 a6, .int .i64 a7, .int .i64 a8, .int .i64 a9, .int .i64 b1, .bool b3, .str b4]] [] =
    some (.bool (validOp ⟨⟨a1, a2⟩, 3, ⟨a4, a5⟩, ⟨a6, a7⟩, ⟨a8, a9⟩, b1, b3, b4⟩), []) := by
  refine callL_W _ _ _ (F := v85) rfl ?_
  simp (config := { contextual := true }) only [v85, go_sem, Nat.reduceEqDiff, ↓reduceIte, reduceCtorEq, Nat.reduceAdd, Nat.reduceSub, Nat.reduceLeDiff, Nat.reduceMul, Nat.reduceLT, Int.reduceLT, Int.reduceLE, Int.reduceNeg, Int.cast_ofNat_Int, Int.reduceToNat, Int.toNat_zero, ne_eq, not_false_eq_true, Int.reduceEq, validStamp_s, hv, validRef_s, validRef_f, validRef_t, isZero_s, inRange_c, Int.reduceBEq, Bool.not_true, empty_beq]
  repeat' split
  all_goals (simp_all [validOp] <;> try (intros; omega))
set_option maxRecDepth 20000 in
set_option maxHeartbeats 2000000 in
theorem validOp_s4 (a1 a2 a4 a5 a6 a7 a8 a9 b1 : Int) (b3 : Bool) (b4 : List UInt8) (hv : validStamp ⟨a1, a2⟩ = true) : CL 85 [.agg [.int .i64 a1, .int .i64 a2, .int .i64 4, .int .i64 a4, .int .i64 a5, .int .i64 a6, .int .i64 a7, .int .i64 a8, .int .i64 a9, .int .i64 b1, .bool b3, .str b4]] [] =
    some (.bool (validOp ⟨⟨a1, a2⟩, 4, ⟨a4, a5⟩, ⟨a6, a7⟩, ⟨a8, a9⟩, b1, b3, b4⟩), []) := by
  refine callL_W _ _ _ (F := v85) rfl ?_
  simp (config := { contextual := true }) only [v85, go_sem, Nat.reduceEqDiff, ↓reduceIte, reduceCtorEq, Nat.reduceAdd, Nat.reduceSub, Nat.reduceLeDiff, Nat.reduceMul, Nat.reduceLT, Int.reduceLT, Int.reduceLE, Int.reduceNeg, Int.cast_ofNat_Int, Int.reduceToNat, Int.toNat_zero, ne_eq, not_false_eq_true, Int.reduceEq, validStamp_s, hv, validRef_s, validRef_f, validRef_t, isZero_s, inRange_c, Int.reduceBEq, Bool.not_true, empty_beq]
  repeat' split
  all_goals (simp_all [validOp] <;> try (intros; omega))
set_option maxRecDepth 20000 in
set_option maxHeartbeats 2000000 in
theorem validOp_s5 (a1 a2 a4 a5 a6 a7 a8 a9 b1 : Int) (b3 : Bool) (b4 : List UInt8) (hv : validStamp ⟨a1, a2⟩ = true) : CL 85 [.agg [.int .i64 a1, .int .i64 a2, .int .i64 5, .int .i64 a4, .int .i64 a5, .int .i64 a6, .int .i64 a7, .int .i64 a8, .int .i64 a9, .int .i64 b1, .bool b3, .str b4]] [] =
    some (.bool (validOp ⟨⟨a1, a2⟩, 5, ⟨a4, a5⟩, ⟨a6, a7⟩, ⟨a8, a9⟩, b1, b3, b4⟩), []) := by
  refine callL_W _ _ _ (F := v85) rfl ?_
  simp (config := { contextual := true }) only [v85, go_sem, Nat.reduceEqDiff, ↓reduceIte, reduceCtorEq, Nat.reduceAdd, Nat.reduceSub, Nat.reduceLeDiff, Nat.reduceMul, Nat.reduceLT, Int.reduceLT, Int.reduceLE, Int.reduceNeg, Int.cast_ofNat_Int, Int.reduceToNat, Int.toNat_zero, ne_eq, not_false_eq_true, Int.reduceEq, validStamp_s, hv, validRef_s, validRef_f, validRef_t, isZero_s, inRange_c, Int.reduceBEq, Bool.not_true, empty_beq]
  repeat' split
  all_goals (simp_all [validOp] <;> try (intros; omega))
set_option maxRecDepth 20000 in
set_option maxHeartbeats 2000000 in
theorem validOp_s6 (a1 a2 a4 a5 a6 a7 a8 a9 b1 : Int) (b3 : Bool) (b4 : List UInt8) (hv : validStamp ⟨a1, a2⟩ = true) : CL 85 [.agg [.int .i64 a1, .int .i64 a2, .int .i64 6, .int .i64 a4, .int .i64 a5, .int .i64 a6, .int .i64 a7, .int .i64 a8, .int .i64 a9, .int .i64 b1, .bool b3, .str b4]] [] =
    some (.bool (validOp ⟨⟨a1, a2⟩, 6, ⟨a4, a5⟩, ⟨a6, a7⟩, ⟨a8, a9⟩, b1, b3, b4⟩), []) := by
  refine callL_W _ _ _ (F := v85) rfl ?_
  simp (config := { contextual := true }) only [v85, go_sem, Nat.reduceEqDiff, ↓reduceIte, reduceCtorEq, Nat.reduceAdd, Nat.reduceSub, Nat.reduceLeDiff, Nat.reduceMul, Nat.reduceLT, Int.reduceLT, Int.reduceLE, Int.reduceNeg, Int.cast_ofNat_Int, Int.reduceToNat, Int.toNat_zero, ne_eq, not_false_eq_true, Int.reduceEq, validStamp_s, hv, validRef_s, validRef_f, validRef_t, isZero_s, inRange_c, Int.reduceBEq, Bool.not_true, empty_beq]
  repeat' split
  all_goals (simp_all [validOp] <;> try (intros; omega))
set_option maxRecDepth 20000 in
set_option maxHeartbeats 2000000 in
theorem validOp_s7 (a1 a2 a4 a5 a6 a7 a8 a9 b1 : Int) (b3 : Bool) (b4 : List UInt8) (hv : validStamp ⟨a1, a2⟩ = true) : CL 85 [.agg [.int .i64 a1, .int .i64 a2, .int .i64 7, .int .i64 a4, .int .i64 a5, .int .i64 a6, .int .i64 a7, .int .i64 a8, .int .i64 a9, .int .i64 b1, .bool b3, .str b4]] [] =
    some (.bool (validOp ⟨⟨a1, a2⟩, 7, ⟨a4, a5⟩, ⟨a6, a7⟩, ⟨a8, a9⟩, b1, b3, b4⟩), []) := by
  refine callL_W _ _ _ (F := v85) rfl ?_
  simp (config := { contextual := true }) only [v85, go_sem, Nat.reduceEqDiff, ↓reduceIte, reduceCtorEq, Nat.reduceAdd, Nat.reduceSub, Nat.reduceLeDiff, Nat.reduceMul, Nat.reduceLT, Int.reduceLT, Int.reduceLE, Int.reduceNeg, Int.cast_ofNat_Int, Int.reduceToNat, Int.toNat_zero, ne_eq, not_false_eq_true, Int.reduceEq, validStamp_s, hv, validRef_s, validRef_f, validRef_t, isZero_s, inRange_c, Int.reduceBEq, Bool.not_true, empty_beq]
  repeat' split
  all_goals (simp_all [validOp] <;> try (intros; omega))
set_option maxRecDepth 20000 in
set_option maxHeartbeats 2000000 in
theorem validOp_s8 (a1 a2 a4 a5 a6 a7 a8 a9 b1 : Int) (b3 : Bool) (b4 : List UInt8) (hv : validStamp ⟨a1, a2⟩ = true) (hwd : CL 107 [.str b4] [] = some (.bool (isWord b4), [])) : CL 85 [.agg [.int .i64 a1, .int .i64 a2, .int .i64 8, .int .i64 a4, .int .i64 a5, .int .i64 a6, .int .i64 a7, .int .i64 a8, .int .i64 a9, .int .i64 b1, .bool b3, .str b4]] [] =
    some (.bool (validOp ⟨⟨a1, a2⟩, 8, ⟨a4, a5⟩, ⟨a6, a7⟩, ⟨a8, a9⟩, b1, b3, b4⟩), []) := by
  refine callL_W _ _ _ (F := v85) rfl ?_
  simp (config := { contextual := true }) only [v85, go_sem, Nat.reduceEqDiff, ↓reduceIte, reduceCtorEq, Nat.reduceAdd, Nat.reduceSub, Nat.reduceLeDiff, Nat.reduceMul, Nat.reduceLT, Int.reduceLT, Int.reduceLE, Int.reduceNeg, Int.cast_ofNat_Int, Int.reduceToNat, Int.toNat_zero, ne_eq, not_false_eq_true, Int.reduceEq, validStamp_s, hv, validRef_s, validRef_f, validRef_t, isZero_s, inRange_c, Int.reduceBEq, Bool.not_true, empty_beq, hwd]
  repeat' split
  all_goals (simp_all [validOp] <;> try (intros; omega))
set_option maxRecDepth 20000 in
set_option maxHeartbeats 2000000 in
theorem validOp_s9 (a1 a2 a4 a5 a6 a7 a8 a9 b1 : Int) (b3 : Bool) (b4 : List UInt8) (hv : validStamp ⟨a1, a2⟩ = true) (hwd : CL 107 [.str b4] [] = some (.bool (isWord b4), [])) : CL 85 [.agg [.int .i64 a1, .int .i64 a2, .int .i64 9, .int .i64 a4, .int .i64 a5, .int .i64 a6, .int .i64 a7, .int .i64 a8, .int .i64 a9, .int .i64 b1, .bool b3, .str b4]] [] =
    some (.bool (validOp ⟨⟨a1, a2⟩, 9, ⟨a4, a5⟩, ⟨a6, a7⟩, ⟨a8, a9⟩, b1, b3, b4⟩), []) := by
  refine callL_W _ _ _ (F := v85) rfl ?_
  simp (config := { contextual := true }) only [v85, go_sem, Nat.reduceEqDiff, ↓reduceIte, reduceCtorEq, Nat.reduceAdd, Nat.reduceSub, Nat.reduceLeDiff, Nat.reduceMul, Nat.reduceLT, Int.reduceLT, Int.reduceLE, Int.reduceNeg, Int.cast_ofNat_Int, Int.reduceToNat, Int.toNat_zero, ne_eq, not_false_eq_true, Int.reduceEq, validStamp_s, hv, validRef_s, validRef_f, validRef_t, isZero_s, inRange_c, Int.reduceBEq, Bool.not_true, empty_beq, hwd]
  repeat' split
  all_goals (simp_all [validOp] <;> try (intros; omega))
set_option maxRecDepth 20000 in
set_option maxHeartbeats 2000000 in
theorem validOp_s10 (a1 a2 a4 a5 a6 a7 a8 a9 b1 : Int) (b3 : Bool) (b4 : List UInt8) (hv : validStamp ⟨a1, a2⟩ = true) : CL 85 [.agg [.int .i64 a1, .int .i64 a2, .int .i64 10, .int .i64 a4, .int .i64 a5, .int .i64 a6, .int .i64 a7, .int .i64 a8, .int .i64 a9, .int .i64 b1, .bool b3, .str b4]] [] =
    some (.bool (validOp ⟨⟨a1, a2⟩, 10, ⟨a4, a5⟩, ⟨a6, a7⟩, ⟨a8, a9⟩, b1, b3, b4⟩), []) := by
  refine callL_W _ _ _ (F := v85) rfl ?_
  simp (config := { contextual := true }) only [v85, go_sem, Nat.reduceEqDiff, ↓reduceIte, reduceCtorEq, Nat.reduceAdd, Nat.reduceSub, Nat.reduceLeDiff, Nat.reduceMul, Nat.reduceLT, Int.reduceLT, Int.reduceLE, Int.reduceNeg, Int.cast_ofNat_Int, Int.reduceToNat, Int.toNat_zero, ne_eq, not_false_eq_true, Int.reduceEq, validStamp_s, hv, validRef_s, validRef_f, validRef_t, isZero_s, inRange_c, Int.reduceBEq, Bool.not_true, empty_beq]
  repeat' split
  all_goals (simp_all [validOp] <;> try (intros; omega))
end Go.Vi.Code
