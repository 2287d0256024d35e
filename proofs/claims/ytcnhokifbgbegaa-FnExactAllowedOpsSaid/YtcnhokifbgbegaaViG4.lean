/- Contracts: the specification's ValidGrants; the law ExactValidGrants. -/
import Derived.Test.YtcnhokifbgbegaaViG3
set_option linter.unusedSimpArgs false
set_option linter.unusedVariables false
namespace Go.Vi.Code
theorem validGrants_s (l : List Grant) (hl : l.length ≤ 1048576) : CL 76 [.sl (l.map encG)] [] = some (.bool (validGrants l), []) := by
  refine callL_W _ _ _ (F := v76) rfl ?_
  simp only [v76, go_sem, Nat.reduceEqDiff, ↓reduceIte, reduceCtorEq, Nat.reduceAdd, Nat.reduceSub, Nat.reduceLeDiff, Nat.reduceMul, Nat.reduceLT, Int.reduceLT, Int.reduceLE, Int.reduceNeg]
  refine W_rounds (T := Nat) (fun i => ⟨ofL [(0, .sl (l.map encG)), (3, .int .i64 i)], [], 0⟩) (fun i => i ≤ l.length ∧ ∀ j, j < i → grantAt l j = true) (fun i => l.length - i) 0 rfl rfl ⟨by omega, by omega⟩ ?_
  rintro i ⟨hi, he⟩ Q1 IH OUT
  by_cases h : i < l.length
  · have c1 : decide ((i : Int) < l.length) = true := decide_eq_true (by omega)
    have c2 : (0 : Int) ≤ i := by omega
    have hr : (List.map encG l)[i]? = some (encG l[i]) := by simp [h]
    have hw : IntKind.i64.wrap ((i : Int) + 1) = ((i + 1 : Nat) : Int) := by rw [wrap_small _ (by omega) (by omega)]; rfl
    have fin : grantAt l i = true → ∀ σ', renorm [0, 3] σ' = ⟨ofL [(0, .sl (l.map encG)), (3, .int .i64 ((i + 1 : Nat) : Int))], [], 0⟩ → rootsLive σ'.m σ'.st = true → Q1 .normal σ' := fun hg σ' h1 h2 =>
      IH (i + 1) σ' ⟨by omega, fun j hj => by rcases Nat.lt_succ_iff_lt_or_eq.1 hj with h3 | h3; exact he j h3; rw [h3]; exact hg⟩ (by omega) h1 h2
    have bad : grantAt l i = false → ∀ σ', σ'.env 2 = .bool false → σ'.m = 0 → Q1 .ret σ' := fun hg σ' h1 h2 => OUT _ _ (by simp) (by
      simp only [go_sem, Nat.reduceEqDiff, ↓reduceIte, reduceCtorEq, Nat.reduceAdd, Nat.reduceSub, Nat.reduceLeDiff, Nat.reduceMul, Nat.reduceLT, Int.reduceLT, Int.reduceLE, Int.reduceNeg, h1]
      simp only [validGrants, all_range_of h hg, Bool.false_and])
    have hg : l[i]? = some l[i] := by simp [h]
    rcases i with _ | i
    · have c3 : decide (((0 : Nat) : Int) > 0) = false := by simp
      simp only [go_sem, Nat.reduceEqDiff, ↓reduceIte, reduceCtorEq, Nat.reduceAdd, Nat.reduceSub, Nat.reduceLeDiff, Nat.reduceMul, Nat.reduceLT, Int.reduceLT, Int.reduceLE, Int.reduceNeg, c1, c2, c3, hr, hw, encG, validStamp_S, inRange_c, Stamp.eta]
      repeat' split
      all_goals first
        | exact fin (by simp only [grantAt, hg, grantOk, isAuthor]; grind) _ rfl rfl
        | exact bad (by simp only [grantAt, hg, grantOk, isAuthor]; grind) _ rfl rfl
    · have c3 : decide (((i + 1 : Nat) : Int) > 0) = true := decide_eq_true (by omega)
      have c4 : IntKind.i64.wrap (((i + 1 : Nat) : Int) - 1) = (i : Int) := by rw [wrap_small _ (by omega) (by omega)]; omega
      have c5 : (0 : Int) ≤ i := by omega
      have hg2 : l[i]? = some l[i] := by simp [show i < l.length by omega]
      have hr2 : (List.map encG l)[i]? = some (encG l[i]) := by simp [show i < l.length by omega]
      simp only [go_sem, Nat.reduceEqDiff, ↓reduceIte, reduceCtorEq, Nat.reduceAdd, Nat.reduceSub, Nat.reduceLeDiff, Nat.reduceMul, Nat.reduceLT, Int.reduceLT, Int.reduceLE, Int.reduceNeg, c1, c2, c3, c4, c5, hr, hr2, hw, encG, validStamp_S, inRange_c, stampLess_s, Stamp.eta]
      repeat' split
      all_goals first
        | exact fin (by simp only [grantAt, hg, hg2, grantOk, isAuthor]; grind) _ rfl rfl
        | exact bad (by simp only [grantAt, hg, hg2, grantOk, isAuthor]; grind) _ rfl rfl
  · have c1 : decide ((i : Int) < l.length) = false := decide_eq_false (by omega)
    have hil : i = l.length := by omega
    simp only [go_sem, Nat.reduceEqDiff, ↓reduceIte, reduceCtorEq, Nat.reduceAdd, Nat.reduceSub, Nat.reduceLeDiff, Nat.reduceMul, Nat.reduceLT, Int.reduceLT, Int.reduceLE, Int.reduceNeg, c1]
    refine OUT _ _ (by simp) ?_
    simp only [go_sem, Nat.reduceEqDiff, ↓reduceIte, reduceCtorEq, Nat.reduceAdd, Nat.reduceSub, Nat.reduceLeDiff, Nat.reduceMul, Nat.reduceLT, Int.reduceLT, Int.reduceLE, Int.reduceNeg]
    have : (List.range l.length).all (grantAt l) = true := by
      rw [List.all_eq_true]
      intro j hj
      exact he j (by rw [hil]; exact List.mem_range.1 hj)
    simp only [validGrants, this, Bool.true_and, show decide ((l.length : Int) ≤ 20) = decide (l.length ≤ 20) from decide_eq_decide.2 (by omega)]

abbrev kG : Bool × List Ty := (false, [.sl [.int .i64, .int .i64, .int .i64, .int .i64, .bool]])
theorem arg_grants {d : D} (h : ArgTy kG d) : ∃ l : List Grant, d = .sl (l.map encG) ∧ l.length ≤ 9223372036854775807 := by
  obtain ⟨rows, rfl, hl, hr, h⟩ := arg_rows h
  have one : ∀ r ∈ rows, ∃ g : Grant, r = encG g := by
    intro r hm
    have h1 := hr r hm
    have h2 := h r hm
    obtain ⟨a, b, c, d, e, rfl⟩ : ∃ a b c d e, r = [a, b, c, d, e] := by
      match r, h1 with
      | [a, b, c, d, e], _ => exact ⟨a, b, c, d, e, rfl⟩
    have ha := h2 0 _ _ rfl rfl
    have hb := h2 1 _ _ rfl rfl
    have hc := h2 2 _ _ rfl rfl
    have hd := h2 3 _ _ rfl rfl
    have he := h2 4 _ _ rfl rfl
    cases ha; cases hb; cases hc; cases hd; cases he
    exact ⟨⟨⟨_, _⟩, _, _, _⟩, rfl⟩
  obtain ⟨l, rfl⟩ := map_of one
  exact ⟨l, rfl, by simpa using Nat.le_trans hl (by decide)⟩
end Go.Vi.Code
