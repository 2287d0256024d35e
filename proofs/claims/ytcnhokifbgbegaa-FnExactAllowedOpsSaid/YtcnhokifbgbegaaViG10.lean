/- Contracts: marks laid into grants and truth values; the laws ExactGrantMerge and ExactEffectiveGrants. -/
import Derived.Test.YtcnhokifbgbegaaViG9
set_option linter.unusedSimpArgs false
set_option linter.unusedVariables false
namespace Go.Vi.Code
def mkG (k : Int) : Grant := ⟨⟨k, k + 1⟩, k + 1 + 1, k + 1 + 1 + 1, (k + 1 + 1 + 1 + 1).tmod 3 == 0⟩
def marksG (k : Int) (n : Nat) : List Grant := (List.range n).map fun i => mkG (k + 5 * (i : Nat))
theorem marksG_len (k : Int) (n : Nat) : (marksG k n).length = n := by simp [marksG]
theorem marksG_at (k : Int) (n i : Nat) (h : i < n) : (marksG k n)[i]? = some (mkG (k + 5 * (i : Nat))) := by simp [marksG, h]
theorem markG_c (l : List Grant) (k : Int) (hl : l.length ≤ 1048576) (hk : 0 ≤ k) (hk2 : k ≤ 100000000) : CL 49 [.osl 0 0 l.length, .int .i64 k] [some (.rw 65 (l.map encG))] =
    some (.int .i64 (k + 5 * (l.length : Nat)), [some (.rw 65 ((marksG k l.length).map encG))]) := by
  refine callL_W _ _ _ (F := v49) rfl ?_
  simp only [v49, go_sem, Nat.reduceEqDiff, ↓reduceIte, reduceCtorEq, Nat.reduceAdd, Nat.reduceSub, Nat.reduceLeDiff, Nat.reduceMul, Nat.reduceLT, Int.reduceLT, Int.reduceLE, Int.reduceNeg]
  refine W_rounds (T := Nat × Int × List Grant) (fun t => ⟨ofL [(0, .osl 0 0 l.length), (1, .int .i64 t.2.1), (5, .int .i64 t.1)], [some (.rw 65 (t.2.2.map encG))], 1⟩)
    (fun t => t.1 ≤ l.length ∧ t.2.1 = k + 5 * (t.1 : Nat) ∧ t.2.2.length = l.length ∧ ∀ j, j < t.1 → t.2.2[j]? = some (mkG (k + 5 * (j : Nat)))) (fun t => l.length - t.1) (0, k, l) rfl rfl ⟨Nat.zero_le _, by simp, rfl, fun j h => by omega⟩ ?_
  rintro ⟨i, K, L⟩ ⟨hi, hK, hL, hm⟩ Q1 IH OUT
  simp only at hi hK hL hm
  by_cases h : i < l.length
  · have c1 : decide ((i : Int) < l.length) = true := decide_eq_true (by omega)
    have c2 : (0 : Int) ≤ i := by omega
    have c3 : (i : Int) < l.length := by omega
    have hiL : i < L.length := by omega
    have hw : IntKind.i64.wrap ((i : Int) + 1) = ((i + 1 : Nat) : Int) := by rw [wrap_small _ (by omega) (by omega)]; rfl
    have w1 : IntKind.i64.wrap (K + 1) = K + 1 := wrap_small _ (by omega) (by omega)
    have w2 : IntKind.i64.wrap (K + 1 + 1) = K + 1 + 1 := wrap_small _ (by omega) (by omega)
    have w3 : IntKind.i64.wrap (K + 1 + 1 + 1) = K + 1 + 1 + 1 := wrap_small _ (by omega) (by omega)
    have w4 : IntKind.i64.wrap (K + 1 + 1 + 1 + 1) = K + 1 + 1 + 1 + 1 := wrap_small _ (by omega) (by omega)
    have w5 : IntKind.i64.wrap (K + 1 + 1 + 1 + 1 + 1) = K + 1 + 1 + 1 + 1 + 1 := wrap_small _ (by omega) (by omega)
    have hr : (List.map encG L)[i]? = some (encG L[i]) := by simp [hiL]
    have hs : ∀ r : List D, ((List.map encG L).set i r)[i]? = some r := fun r => List.getElem?_set_self (by simpa using hiL)
    rcases hgi : L[i] with ⟨⟨s, au⟩, w, rt, en⟩
    rw [hgi] at hr
    have hrow : (List.map encG L).set i [.int .i64 K, .int .i64 (K + 1), .int .i64 (K + 1 + 1), .int .i64 (K + 1 + 1 + 1), .bool ((K + 1 + 1 + 1 + 1).tmod 3 == 0)] = (L.set i (mkG K)).map encG := by
      rw [List.map_set]; rfl
    simp only [go_sem, Nat.reduceEqDiff, ↓reduceIte, reduceCtorEq, Nat.reduceAdd, Nat.reduceSub, Nat.reduceLeDiff, Nat.reduceMul, Nat.reduceLT, Int.reduceLT, Int.reduceLE, Int.reduceNeg, Int.cast_ofNat_Int, Int.reduceToNat, Int.toNat_zero, ne_eq, not_false_eq_true, Int.reduceEq, c1, c2, c3, hw, w1, w2, w3, w4, w5, hr, hs, encG, List.set_set, hrow, List.length_map]
    refine IH (i + 1, K + 1 + 1 + 1 + 1 + 1, L.set i (mkG K)) _ ⟨by simp only; omega, by simp only; omega, by simpa using hL, fun j hj => ?_⟩ (by simp only; omega) rfl rfl
    simp only
    by_cases hji : j = i
    · subst hji
      rw [List.getElem?_set_self hiL, ← hK]
    · rw [List.getElem?_set_ne (by omega)]
      exact hm j (by omega)
  · have c1 : decide ((i : Int) < l.length) = false := decide_eq_false (by omega)
    have hil : i = l.length := by omega
    simp only [go_sem, Nat.reduceEqDiff, ↓reduceIte, reduceCtorEq, Nat.reduceAdd, Nat.reduceSub, Nat.reduceLeDiff, Nat.reduceMul, Nat.reduceLT, Int.reduceLT, Int.reduceLE, Int.reduceNeg, c1]
    refine OUT _ _ (by simp) ?_
    have hLm : L = marksG k l.length := by
      apply List.ext_getElem?
      intro j
      by_cases hj : j < l.length
      · rw [hm j (by omega), marksG_at _ _ _ hj]
      · rw [List.getElem?_eq_none (by omega), List.getElem?_eq_none (by rw [marksG_len]; omega)]
    simp only [go_sem, Nat.reduceEqDiff, ↓reduceIte, reduceCtorEq, Nat.reduceAdd, Nat.reduceSub, Nat.reduceLeDiff, Nat.reduceMul, Nat.reduceLT, Int.reduceLT, Int.reduceLE, Int.reduceNeg]
    rw [hLm, hK, hil]
    rfl
def mkB (k : Int) : Bool := k.tmod 3 == 0
def marksB (k : Int) (n : Nat) : List Bool := (List.range n).map fun i => mkB (k + (i : Nat))
theorem marksB_len (k : Int) (n : Nat) : (marksB k n).length = n := by simp [marksB]
theorem marksB_at (k : Int) (n i : Nat) (h : i < n) : (marksB k n)[i]? = some (mkB (k + (i : Nat))) := by simp [marksB, h]
end Go.Vi.Code
