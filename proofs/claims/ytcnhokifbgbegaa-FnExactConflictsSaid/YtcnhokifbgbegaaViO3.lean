/- Contracts: words, operations, both. -/
import Derived.Test.YtcnhokifbgbegaaViO2
set_option linter.unusedSimpArgs false
set_option linter.unusedVariables false
namespace Go.Vi.Code
def lowC (c : UInt8) : Bool := decide (97 ≤ c.toNat ∧ c.toNat ≤ 122)
theorem isWord_low (s : List UInt8) : isWord s = (s.all lowC && decide (1 ≤ s.length ∧ s.length ≤ 8)) := rfl
theorem all_false {α : Type} {p : α → Bool} {l : List α} {i : Nat} (h : i < l.length) (hf : p l[i] = false) : l.all p = false := by
  rw [Bool.eq_false_iff]
  intro h2
  rw [List.all_eq_true.1 h2 _ (List.getElem_mem h)] at hf
  cases hf
theorem isWord_c (s : List UInt8) (hl : s.length ≤ 1048576) : CL 96 [.str s] [] = some (.bool (isWord s), []) := by
  refine callL_W _ _ _ (F := v96) rfl ?_
  simp only [v96, go_sem, Nat.reduceEqDiff, ↓reduceIte, reduceCtorEq, Nat.reduceAdd, Nat.reduceSub, Nat.reduceLeDiff, Nat.reduceMul, Nat.reduceLT, Int.reduceLT, Int.reduceLE, Int.reduceNeg]
  refine W_rounds (T := Nat) (fun i => ⟨ofL [(0, .str s), (3, .int .i64 i)], [], 0⟩) (fun i => i ≤ s.length ∧ ∀ j (h : j < s.length), j < i → lowC s[j] = true) (fun i => s.length - i) 0 rfl rfl ⟨Nat.zero_le _, fun j h h0 => by omega⟩ ?_
  rintro i ⟨hi, hlt⟩ Q1 IH OUT
  by_cases h : i < s.length
  · have c1 : decide ((i : Int) < s.length) = true := decide_eq_true (by omega)
    have c2 : (0 : Int) ≤ i := by omega
    have hr : s[i]? = some s[i] := by simp [h]
    have hw : IntKind.i64.wrap ((i : Int) + 1) = ((i + 1 : Nat) : Int) := by rw [wrap_small _ (by omega) (by omega)]; rfl
    have hlt' := fun (hs : lowC s[i] = true) j (hj : j < s.length) (hji : j < i + 1) => (show lowC s[j] = true from by
      rcases Nat.lt_succ_iff_lt_or_eq.1 hji with h3 | h3
      · exact hlt j hj h3
      · subst h3; exact hs)
    have hf := fun (hs : lowC s[i] = false) => all_false h hs
    generalize s[i] = c at hr hlt' hf
    by_cases k1 : c.toNat < 97
    · have d1 : decide ((c.toNat : Int) < 97) = true := decide_eq_true (by omega)
      simp only [go_sem, Nat.reduceEqDiff, ↓reduceIte, reduceCtorEq, Nat.reduceAdd, Nat.reduceSub, Nat.reduceLeDiff, Nat.reduceMul, Nat.reduceLT, Int.reduceLT, Int.reduceLE, Int.reduceNeg, Int.cast_ofNat_Int, Int.reduceToNat, Int.toNat_zero, ne_eq, not_false_eq_true, Int.reduceEq, c1, c2, hr, hw, d1]
      refine OUT _ _ (by simp) ?_
      simp only [go_sem, Nat.reduceEqDiff, ↓reduceIte, reduceCtorEq, Nat.reduceAdd, Nat.reduceSub, Nat.reduceLeDiff, Nat.reduceMul, Nat.reduceLT, Int.reduceLT, Int.reduceLE, Int.reduceNeg, Int.cast_ofNat_Int, Int.reduceToNat, Int.toNat_zero, ne_eq, not_false_eq_true, Int.reduceEq]
      rw [isWord_low, hf (by simp [lowC]; omega)]; rfl
    · have d1 : decide ((c.toNat : Int) < 97) = false := decide_eq_false (by omega)
      by_cases k2 : c.toNat > 122
      · have d2 : decide ((c.toNat : Int) > 122) = true := decide_eq_true (by omega)
        simp only [go_sem, Nat.reduceEqDiff, ↓reduceIte, reduceCtorEq, Nat.reduceAdd, Nat.reduceSub, Nat.reduceLeDiff, Nat.reduceMul, Nat.reduceLT, Int.reduceLT, Int.reduceLE, Int.reduceNeg, Int.cast_ofNat_Int, Int.reduceToNat, Int.toNat_zero, ne_eq, not_false_eq_true, Int.reduceEq, c1, c2, hr, hw, d1, d2]
        refine OUT _ _ (by simp) ?_
        simp only [go_sem, Nat.reduceEqDiff, ↓reduceIte, reduceCtorEq, Nat.reduceAdd, Nat.reduceSub, Nat.reduceLeDiff, Nat.reduceMul, Nat.reduceLT, Int.reduceLT, Int.reduceLE, Int.reduceNeg, Int.cast_ofNat_Int, Int.reduceToNat, Int.toNat_zero, ne_eq, not_false_eq_true, Int.reduceEq]
        rw [isWord_low, hf (by simp [lowC]; omega)]; rfl
      · have d2 : decide ((c.toNat : Int) > 122) = false := decide_eq_false (by omega)
        simp only [go_sem, Nat.reduceEqDiff, ↓reduceIte, reduceCtorEq, Nat.reduceAdd, Nat.reduceSub, Nat.reduceLeDiff, Nat.reduceMul, Nat.reduceLT, Int.reduceLT, Int.reduceLE, Int.reduceNeg, Int.cast_ofNat_Int, Int.reduceToNat, Int.toNat_zero, ne_eq, not_false_eq_true, Int.reduceEq, c1, c2, hr, hw, d1, d2]
        exact IH (i + 1) _ ⟨by omega, hlt' (by simp only [lowC, decide_eq_true_eq]; omega)⟩ (by omega) rfl rfl
  · have c1 : decide ((i : Int) < s.length) = false := decide_eq_false (by omega)
    have ha : s.all lowC = true := by
      rw [List.all_eq_true]
      intro x hx
      obtain ⟨j, hj, rfl⟩ := List.getElem_of_mem hx
      exact hlt j hj (by omega)
    simp only [go_sem, Nat.reduceEqDiff, ↓reduceIte, reduceCtorEq, Nat.reduceAdd, Nat.reduceSub, Nat.reduceLeDiff, Nat.reduceMul, Nat.reduceLT, Int.reduceLT, Int.reduceLE, Int.reduceNeg, c1]
    refine OUT _ _ (by simp) ?_
    by_cases k : (1 : Int) ≤ s.length
    · have d1 : decide ((s.length : Int) ≥ 1) = true := decide_eq_true (by omega)
      simp only [go_sem, Nat.reduceEqDiff, ↓reduceIte, reduceCtorEq, Nat.reduceAdd, Nat.reduceSub, Nat.reduceLeDiff, Nat.reduceMul, Nat.reduceLT, Int.reduceLT, Int.reduceLE, Int.reduceNeg, Int.cast_ofNat_Int, Int.reduceToNat, Int.toNat_zero, ne_eq, not_false_eq_true, Int.reduceEq, d1]
      rw [isWord_low, ha, show decide (1 ≤ s.length ∧ s.length ≤ 8) = decide ((s.length : Int) ≤ 8) from decide_eq_decide.2 (by omega)]; rfl
    · have d1 : decide ((s.length : Int) ≥ 1) = false := decide_eq_false (by omega)
      simp only [go_sem, Nat.reduceEqDiff, ↓reduceIte, reduceCtorEq, Nat.reduceAdd, Nat.reduceSub, Nat.reduceLeDiff, Nat.reduceMul, Nat.reduceLT, Int.reduceLT, Int.reduceLE, Int.reduceNeg, Int.cast_ofNat_Int, Int.reduceToNat, Int.toNat_zero, ne_eq, not_false_eq_true, Int.reduceEq, d1]
      rw [isWord_low, ha, show decide (1 ≤ s.length ∧ s.length ≤ 8) = false from decide_eq_false (by omega)]; rfl
theorem validWord_s (s : List UInt8) (hl : s.length ≤ 1048576) : CL 107 [.str s] [] = some (.bool (isWord s), []) := by
  refine callL_W _ _ _ (F := v107) rfl ?_
  simp only [v107, go_sem, Nat.reduceEqDiff, ↓reduceIte, reduceCtorEq, Nat.reduceAdd, Nat.reduceSub, Nat.reduceLeDiff, Nat.reduceMul, Nat.reduceLT, Int.reduceLT, Int.reduceLE, Int.reduceNeg]
  refine W_rounds (T := Nat) (fun i => ⟨ofL [(0, .str s), (3, .int .i64 i)], [], 0⟩) (fun i => i ≤ s.length ∧ ∀ j (h : j < s.length), j < i → lowC s[j] = true) (fun i => s.length - i) 0 rfl rfl ⟨Nat.zero_le _, fun j h h0 => by omega⟩ ?_
  rintro i ⟨hi, hlt⟩ Q1 IH OUT
  by_cases h : i < s.length
  · have c1 : decide ((i : Int) < s.length) = true := decide_eq_true (by omega)
    have c2 : (0 : Int) ≤ i := by omega
    have hr : s[i]? = some s[i] := by simp [h]
    have hw : IntKind.i64.wrap ((i : Int) + 1) = ((i + 1 : Nat) : Int) := by rw [wrap_small _ (by omega) (by omega)]; rfl
    have hlt' := fun (hs : lowC s[i] = true) j (hj : j < s.length) (hji : j < i + 1) => (show lowC s[j] = true from by
      rcases Nat.lt_succ_iff_lt_or_eq.1 hji with h3 | h3
      · exact hlt j hj h3
      · subst h3; exact hs)
    have hf := fun (hs : lowC s[i] = false) => all_false h hs
    generalize s[i] = c at hr hlt' hf
    by_cases k1 : c.toNat < 97
    · have d1 : decide ((c.toNat : Int) < 97) = true := decide_eq_true (by omega)
      simp only [go_sem, Nat.reduceEqDiff, ↓reduceIte, reduceCtorEq, Nat.reduceAdd, Nat.reduceSub, Nat.reduceLeDiff, Nat.reduceMul, Nat.reduceLT, Int.reduceLT, Int.reduceLE, Int.reduceNeg, Int.cast_ofNat_Int, Int.reduceToNat, Int.toNat_zero, ne_eq, not_false_eq_true, Int.reduceEq, c1, c2, hr, hw, d1]
      refine OUT _ _ (by simp) ?_
      simp only [go_sem, Nat.reduceEqDiff, ↓reduceIte, reduceCtorEq, Nat.reduceAdd, Nat.reduceSub, Nat.reduceLeDiff, Nat.reduceMul, Nat.reduceLT, Int.reduceLT, Int.reduceLE, Int.reduceNeg, Int.cast_ofNat_Int, Int.reduceToNat, Int.toNat_zero, ne_eq, not_false_eq_true, Int.reduceEq]
      rw [isWord_low, hf (by simp [lowC]; omega)]; rfl
    · have d1 : decide ((c.toNat : Int) < 97) = false := decide_eq_false (by omega)
      by_cases k2 : c.toNat > 122
      · have d2 : decide ((c.toNat : Int) > 122) = true := decide_eq_true (by omega)
        simp only [go_sem, Nat.reduceEqDiff, ↓reduceIte, reduceCtorEq, Nat.reduceAdd, Nat.reduceSub, Nat.reduceLeDiff, Nat.reduceMul, Nat.reduceLT, Int.reduceLT, Int.reduceLE, Int.reduceNeg, Int.cast_ofNat_Int, Int.reduceToNat, Int.toNat_zero, ne_eq, not_false_eq_true, Int.reduceEq, c1, c2, hr, hw, d1, d2]
        refine OUT _ _ (by simp) ?_
        simp only [go_sem, Nat.reduceEqDiff, ↓reduceIte, reduceCtorEq, Nat.reduceAdd, Nat.reduceSub, Nat.reduceLeDiff, Nat.reduceMul, Nat.reduceLT, Int.reduceLT, Int.reduceLE, Int.reduceNeg, Int.cast_ofNat_Int, Int.reduceToNat, Int.toNat_zero, ne_eq, not_false_eq_true, Int.reduceEq]
        rw [isWord_low, hf (by simp [lowC]; omega)]; rfl
      · have d2 : decide ((c.toNat : Int) > 122) = false := decide_eq_false (by omega)
        simp only [go_sem, Nat.reduceEqDiff, ↓reduceIte, reduceCtorEq, Nat.reduceAdd, Nat.reduceSub, Nat.reduceLeDiff, Nat.reduceMul, Nat.reduceLT, Int.reduceLT, Int.reduceLE, Int.reduceNeg, Int.cast_ofNat_Int, Int.reduceToNat, Int.toNat_zero, ne_eq, not_false_eq_true, Int.reduceEq, c1, c2, hr, hw, d1, d2]
        exact IH (i + 1) _ ⟨by omega, hlt' (by simp only [lowC, decide_eq_true_eq]; omega)⟩ (by omega) rfl rfl
  · have c1 : decide ((i : Int) < s.length) = false := decide_eq_false (by omega)
    have ha : s.all lowC = true := by
      rw [List.all_eq_true]
      intro x hx
      obtain ⟨j, hj, rfl⟩ := List.getElem_of_mem hx
      exact hlt j hj (by omega)
    simp only [go_sem, Nat.reduceEqDiff, ↓reduceIte, reduceCtorEq, Nat.reduceAdd, Nat.reduceSub, Nat.reduceLeDiff, Nat.reduceMul, Nat.reduceLT, Int.reduceLT, Int.reduceLE, Int.reduceNeg, c1]
    refine OUT _ _ (by simp) ?_
    simp only [go_sem, Nat.reduceEqDiff, ↓reduceIte, reduceCtorEq, Nat.reduceAdd, Nat.reduceSub, Nat.reduceLeDiff, Nat.reduceMul, Nat.reduceLT, Int.reduceLT, Int.reduceLE, Int.reduceNeg, Int.cast_ofNat_Int, Int.reduceToNat, Int.toNat_zero, ne_eq, not_false_eq_true, Int.reduceEq, inRange_c]
    rw [isWord_low, ha, show decide (1 ≤ s.length ∧ s.length ≤ 8) = decide ((1 : Int) ≤ s.length ∧ (s.length : Int) ≤ 8) from decide_eq_decide.2 (by omega)]; rfl

theorem validOp_c (a1 a2 a3 a4 a5 a6 a7 a8 a9 b1 : Int) (b3 : Bool) (b4 : List UInt8) (hl : b4.length ≤ 1048576) : CL 68 [.agg [.int .i64 a1, .int .i64 a2, .int .i64 a3, .int .i64 a4, .int .i64 a5, .int .i64 a6, .int .i64 a7, .int .i64 a8, .int .i64 a9, .int .i64 b1, .bool b3, .str b4]] [] =
    some (.bool (validOp ⟨⟨a1, a2⟩, a3, ⟨a4, a5⟩, ⟨a6, a7⟩, ⟨a8, a9⟩, b1, b3, b4⟩), []) := by
  by_cases hv : validStamp ⟨a1, a2⟩ = true
  case neg =>
    have hv' : validStamp ⟨a1, a2⟩ = false := by simpa using hv
    refine callL_W _ _ _ (F := v68) rfl ?_
    simp only [v68, go_sem, Nat.reduceEqDiff, ↓reduceIte, reduceCtorEq, Nat.reduceAdd, Nat.reduceSub, Nat.reduceLeDiff, Nat.reduceMul, Nat.reduceLT, Int.reduceLT, Int.reduceLE, Int.reduceNeg, Int.cast_ofNat_Int, Int.reduceToNat, Int.toNat_zero, ne_eq, not_false_eq_true, Int.reduceEq, validStamp_c, hv', Bool.not_false]
    simp only [validOp, hv', Bool.false_and]
  by_cases k1 : a3 = 1; · subst k1; exact validOp_c1 _ _ _ _ _ _ _ _ _ _ _ hv
  by_cases k2 : a3 = 2; · subst k2; exact validOp_c2 _ _ _ _ _ _ _ _ _ _ _ hv
  by_cases k3 : a3 = 3; · subst k3; exact validOp_c3 _ _ _ _ _ _ _ _ _ _ _ hv
  by_cases k4 : a3 = 4; · subst k4; exact validOp_c4 _ _ _ _ _ _ _ _ _ _ _ hv
  by_cases k5 : a3 = 5; · subst k5; exact validOp_c5 _ _ _ _ _ _ _ _ _ _ _ hv
  by_cases k6 : a3 = 6; · subst k6; exact validOp_c6 _ _ _ _ _ _ _ _ _ _ _ hv
  by_cases k7 : a3 = 7; · subst k7; exact validOp_c7 _ _ _ _ _ _ _ _ _ _ _ hv
  by_cases k8 : a3 = 8; · subst k8; exact validOp_c8 _ _ _ _ _ _ _ _ _ _ _ hv (isWord_c b4 hl)
  by_cases k9 : a3 = 9; · subst k9; exact validOp_c9 _ _ _ _ _ _ _ _ _ _ _ hv (isWord_c b4 hl)
  by_cases k10 : a3 = 10; · subst k10; exact validOp_c10 _ _ _ _ _ _ _ _ _ _ _ hv
  have e1 : (a3 == 1) = false := by simpa using k1
  have e2 : (a3 == 2) = false := by simpa using k2
  have e3 : (a3 == 3) = false := by simpa using k3
  have e4 : (a3 == 4) = false := by simpa using k4
  have e5 : (a3 == 5) = false := by simpa using k5
  have e6 : (a3 == 6) = false := by simpa using k6
  have e7 : (a3 == 7) = false := by simpa using k7
  have e8 : (a3 == 8) = false := by simpa using k8
  have e9 : (a3 == 9) = false := by simpa using k9
  have e10 : (a3 == 10) = false := by simpa using k10
  refine callL_W _ _ _ (F := v68) rfl ?_
  simp only [v68, go_sem, Nat.reduceEqDiff, ↓reduceIte, reduceCtorEq, Nat.reduceAdd, Nat.reduceSub, Nat.reduceLeDiff, Nat.reduceMul, Nat.reduceLT, Int.reduceLT, Int.reduceLE, Int.reduceNeg, Int.cast_ofNat_Int, Int.reduceToNat, Int.toNat_zero, ne_eq, not_false_eq_true, Int.reduceEq, validStamp_c, hv, Bool.not_true, e1, e2, e3, e4, e5, e6, e7, e8, e9, e10]
  simp only [validOp, k1, k2, k3, k4, k5, k6, k7, k8, k9, k10, or_self, if_false, Bool.and_false]
theorem validOp_s (a1 a2 a3 a4 a5 a6 a7 a8 a9 b1 : Int) (b3 : Bool) (b4 : List UInt8) (hl : b4.length ≤ 1048576) : CL 85 [.agg [.int .i64 a1, .int .i64 a2, .int .i64 a3, .int .i64 a4, .int .i64 a5, .int .i64 a6, .int .i64 a7, .int .i64 a8, .int .i64 a9, .int .i64 b1, .bool b3, .str b4]] [] =
    some (.bool (validOp ⟨⟨a1, a2⟩, a3, ⟨a4, a5⟩, ⟨a6, a7⟩, ⟨a8, a9⟩, b1, b3, b4⟩), []) := by
  by_cases hv : validStamp ⟨a1, a2⟩ = true
  case neg =>
    have hv' : validStamp ⟨a1, a2⟩ = false := by simpa using hv
    refine callL_W _ _ _ (F := v85) rfl ?_
    simp only [v85, go_sem, Nat.reduceEqDiff, ↓reduceIte, reduceCtorEq, Nat.reduceAdd, Nat.reduceSub, Nat.reduceLeDiff, Nat.reduceMul, Nat.reduceLT, Int.reduceLT, Int.reduceLE, Int.reduceNeg, Int.cast_ofNat_Int, Int.reduceToNat, Int.toNat_zero, ne_eq, not_false_eq_true, Int.reduceEq, validStamp_s, hv', Bool.not_false]
    simp only [validOp, hv', Bool.false_and]
  by_cases k1 : a3 = 1; · subst k1; exact validOp_s1 _ _ _ _ _ _ _ _ _ _ _ hv
  by_cases k2 : a3 = 2; · subst k2; exact validOp_s2 _ _ _ _ _ _ _ _ _ _ _ hv
  by_cases k3 : a3 = 3; · subst k3; exact validOp_s3 _ _ _ _ _ _ _ _ _ _ _ hv
  by_cases k4 : a3 = 4; · subst k4; exact validOp_s4 _ _ _ _ _ _ _ _ _ _ _ hv
  by_cases k5 : a3 = 5; · subst k5; exact validOp_s5 _ _ _ _ _ _ _ _ _ _ _ hv
  by_cases k6 : a3 = 6; · subst k6; exact validOp_s6 _ _ _ _ _ _ _ _ _ _ _ hv
  by_cases k7 : a3 = 7; · subst k7; exact validOp_s7 _ _ _ _ _ _ _ _ _ _ _ hv
  by_cases k8 : a3 = 8; · subst k8; exact validOp_s8 _ _ _ _ _ _ _ _ _ _ _ hv (validWord_s b4 hl)
  by_cases k9 : a3 = 9; · subst k9; exact validOp_s9 _ _ _ _ _ _ _ _ _ _ _ hv (validWord_s b4 hl)
  by_cases k10 : a3 = 10; · subst k10; exact validOp_s10 _ _ _ _ _ _ _ _ _ _ _ hv
  have e1 : (a3 == 1) = false := by simpa using k1
  have e2 : (a3 == 2) = false := by simpa using k2
  have e3 : (a3 == 3) = false := by simpa using k3
  have e4 : (a3 == 4) = false := by simpa using k4
  have e5 : (a3 == 5) = false := by simpa using k5
  have e6 : (a3 == 6) = false := by simpa using k6
  have e7 : (a3 == 7) = false := by simpa using k7
  have e8 : (a3 == 8) = false := by simpa using k8
  have e9 : (a3 == 9) = false := by simpa using k9
  have e10 : (a3 == 10) = false := by simpa using k10
  refine callL_W _ _ _ (F := v85) rfl ?_
  simp only [v85, go_sem, Nat.reduceEqDiff, ↓reduceIte, reduceCtorEq, Nat.reduceAdd, Nat.reduceSub, Nat.reduceLeDiff, Nat.reduceMul, Nat.reduceLT, Int.reduceLT, Int.reduceLE, Int.reduceNeg, Int.cast_ofNat_Int, Int.reduceToNat, Int.toNat_zero, ne_eq, not_false_eq_true, Int.reduceEq, validStamp_s, hv, Bool.not_true, e1, e2, e3, e4, e5, e6, e7, e8, e9, e10]
  simp only [validOp, k1, k2, k3, k4, k5, k6, k7, k8, k9, k10, or_self, if_false, Bool.and_false]
end Go.Vi.Code
