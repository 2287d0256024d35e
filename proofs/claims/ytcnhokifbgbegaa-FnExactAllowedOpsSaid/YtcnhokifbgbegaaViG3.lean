/- Contracts: the laws' helpers on lists of grants. -/
import Derived.Test.YtcnhokifbgbegaaViG2
set_option linter.unusedSimpArgs false
set_option linter.unusedVariables false
namespace Go.Vi.Code
def zG : List D := [.int .i64 0, .int .i64 0, .int .i64 0, .int .i64 0, .bool false]
theorem szGrantS_c (l : List Grant) (n : Int) (hl : l.length ≤ 9223372036854775807) (h0 : 0 ≤ n) (h1 : n ≤ 1048576) : CL 44 [.sl (l.map encG), .int .i64 n] [] = some (.int .i64 (if n - l.length < 0 then -1 else n - l.length), []) := by
  refine callL_W _ _ _ (F := v44) rfl ?_
  have hw : IntKind.i64.wrap (n - l.length) = n - l.length := wrap_small _ (by omega) (by omega)
  simp only [v44, go_sem, Nat.reduceEqDiff, ↓reduceIte, reduceCtorEq, Nat.reduceAdd, Nat.reduceSub, Nat.reduceLeDiff, Nat.reduceMul, Nat.reduceLT, Int.reduceLT, Int.reduceLE, Int.reduceNeg, hw]
  grind

theorem toGrantS_c (l : List Grant) (hl : l.length ≤ 1048576) : CL 46 [.sl (l.map encG)] [] = some (.osl 0 0 l.length, [some (.rw 65 (l.map encG))]) := by
  refine callL_W _ _ _ (F := v46) rfl ?_
  have c0 : (0 : Int) ≤ l.length := by omega
  have c1 : (l.length : Int) ≤ l.length := Int.le_refl _
  have c2 : (l.length : Int) ≤ rowMax := by simp only [rowMax]; omega
  simp only [v46, go_sem, Nat.reduceEqDiff, ↓reduceIte, reduceCtorEq, Nat.reduceAdd, Nat.reduceSub, Nat.reduceLeDiff, Nat.reduceMul, Nat.reduceLT, Int.reduceLT, Int.reduceLE, Int.reduceNeg, c0, c1, c2, beq_self_eq_true]
  refine W_rounds (T := Nat) (fun i => ⟨ofL [(0, .sl (l.map encG)), (3, .osl 0 0 l.length), (4, .int .i64 i)], [some (.rw 65 (part encG [.int .i64 0, .int .i64 0, .int .i64 0, .int .i64 0, .bool false] l i))], 0⟩) (fun i => i ≤ l.length) (fun i => l.length - i) 0 (by rw [part_zero]; rfl) rfl (Nat.zero_le _) ?_
  rintro i hi Q1 IH OUT
  by_cases h : i < l.length
  · have c3 : decide ((i : Int) < l.length) = true := decide_eq_true (by omega)
    have c4 : (0 : Int) ≤ i := by omega
    have c5 : (i : Int) < l.length := by omega
    have hr : (List.map encG l)[i]? = some (encG l[i]) := by simp [h]
    have hp := part_at encG [.int .i64 0, .int .i64 0, .int .i64 0, .int .i64 0, .bool false] l i h
    have hw : IntKind.i64.wrap ((i : Int) + 1) = ((i + 1 : Nat) : Int) := by rw [wrap_small _ (by omega) (by omega)]; rfl
    have hs := part_set encG [.int .i64 0, .int .i64 0, .int .i64 0, .int .i64 0, .bool false] l i h
    simp only [encG] at hs
    simp only [go_sem, Nat.reduceEqDiff, ↓reduceIte, reduceCtorEq, Nat.reduceAdd, Nat.reduceSub, Nat.reduceLeDiff, Nat.reduceMul, Nat.reduceLT, Int.reduceLT, Int.reduceLE, Int.reduceNeg, c3, c4, c5, hr, hp, hw, encG, toGrant_c, hs]
    exact IH (i + 1) _ (by omega) (by omega) rfl rfl
  · have c3 : decide ((i : Int) < l.length) = false := decide_eq_false (by omega)
    have hil : i = l.length := by omega
    simp only [go_sem, Nat.reduceEqDiff, ↓reduceIte, reduceCtorEq, Nat.reduceAdd, Nat.reduceSub, Nat.reduceLeDiff, Nat.reduceMul, Nat.reduceLT, Int.reduceLT, Int.reduceLE, Int.reduceNeg, c3]
    refine OUT _ _ (by simp) ?_
    simp only [go_sem, Nat.reduceEqDiff, ↓reduceIte, reduceCtorEq, Nat.reduceAdd, Nat.reduceSub, Nat.reduceLeDiff, Nat.reduceMul, Nat.reduceLT, Int.reduceLT, Int.reduceLE, Int.reduceNeg, hil, part_all]
    rfl

theorem eqGrantS_c (a b : List Grant) (hl : a.length ≤ 1048576) (hb : b.length ≤ 1048576) : CL 48 [.sl (a.map encG), .sl (b.map encG)] [] = some (.bool (decide (a = b)), []) := by
  refine callL_W _ _ _ (F := v48) rfl ?_
  simp only [v48, go_sem, Nat.reduceEqDiff, ↓reduceIte, reduceCtorEq, Nat.reduceAdd, Nat.reduceSub, Nat.reduceLeDiff, Nat.reduceMul, Nat.reduceLT, Int.reduceLT, Int.reduceLE, Int.reduceNeg]
  split
  · rename_i h
    have : a ≠ b := by rintro rfl; simp at h
    rw [decide_eq_false this]
  · rename_i h
    have hab : a.length = b.length := by
      have : (a.length : Int) = b.length := by simpa using h
      omega
    refine W_rounds (T := Nat) (fun i => ⟨ofL [(0, .sl (a.map encG)), (1, .sl (b.map encG)), (5, .int .i64 i)], [], 0⟩) (fun i => i ≤ a.length ∧ ∀ j : Nat, j < i → a[j]? = b[j]?) (fun i => a.length - i) 0 rfl rfl ⟨Nat.zero_le _, fun j h => by omega⟩ ?_
    rintro i ⟨hi, he⟩ Q1 IH OUT
    by_cases h : i < a.length
    · have hb' : i < b.length := by omega
      have c3 : decide ((i : Int) < a.length) = true := decide_eq_true (by omega)
      have c4 : (0 : Int) ≤ i := by omega
      have hr : (List.map encG a)[i]? = some (encG a[i]) := by simp [h]
      have hr2 : (List.map encG b)[i]? = some (encG b[i]) := by simp [hb']
      have hw : IntKind.i64.wrap ((i : Int) + 1) = ((i + 1 : Nat) : Int) := by rw [wrap_small _ (by omega) (by omega)]; rfl
      simp only [go_sem, Nat.reduceEqDiff, ↓reduceIte, reduceCtorEq, Nat.reduceAdd, Nat.reduceSub, Nat.reduceLeDiff, Nat.reduceMul, Nat.reduceLT, Int.reduceLT, Int.reduceLE, Int.reduceNeg, c3, c4, hr, hr2, hw, encG, eqGrant_c, Stamp.eta, Grant.eta]
      split
      · rename_i hne
        refine OUT _ _ (by simp) ?_
        have : a ≠ b := by rintro rfl; simp at hne
        simp only [go_sem, Nat.reduceEqDiff, ↓reduceIte, reduceCtorEq, Nat.reduceAdd, Nat.reduceSub, Nat.reduceLeDiff, Nat.reduceMul, Nat.reduceLT, Int.reduceLT, Int.reduceLE, Int.reduceNeg, decide_eq_false this]
      · rename_i hne
        have heq : a[i] = b[i] := by simpa using hne
        refine IH (i + 1) _ ⟨by omega, fun j hj => ?_⟩ (by omega) rfl rfl
        rcases Nat.lt_succ_iff_lt_or_eq.1 hj with h3 | rfl
        · exact he j h3
        · simp [h, hb', heq]
    · have c3 : decide ((i : Int) < a.length) = false := decide_eq_false (by omega)
      simp only [go_sem, Nat.reduceEqDiff, ↓reduceIte, reduceCtorEq, Nat.reduceAdd, Nat.reduceSub, Nat.reduceLeDiff, Nat.reduceMul, Nat.reduceLT, Int.reduceLT, Int.reduceLE, Int.reduceNeg, c3]
      refine OUT _ _ (by simp) ?_
      have : a = b := List.ext_getElem? fun j => by
        by_cases hj : j < i
        · exact he j hj
        · rw [List.getElem?_eq_none (by omega), List.getElem?_eq_none (by omega)]
      simp only [go_sem, Nat.reduceEqDiff, ↓reduceIte, reduceCtorEq, Nat.reduceAdd, Nat.reduceSub, Nat.reduceLeDiff, Nat.reduceMul, Nat.reduceLT, Int.reduceLT, Int.reduceLE, Int.reduceNeg, decide_eq_true this]
end Go.Vi.Code
