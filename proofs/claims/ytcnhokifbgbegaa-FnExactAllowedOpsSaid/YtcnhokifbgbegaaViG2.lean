/- Contracts: lists of grants. -/
import Derived.Test.YtcnhokifbgbegaaViG1
set_option linter.unusedSimpArgs false
set_option linter.unusedVariables false
namespace Go.Vi.Code
def grantOk (g : Grant) : Bool := validStamp g.id && isAuthor g.who && decide (1 ≤ g.right ∧ g.right ≤ 3)
def grantAt (l : List Grant) (j : Nat) : Bool := match l[j]? with
  | some g => grantOk g && (match j with | 0 => true | k + 1 => match l[k]? with | some f => stampLess f.id g.id | none => true)
  | none => true
def validGrants (l : List Grant) : Bool := (List.range l.length).all (grantAt l) && decide (l.length ≤ 20)
theorem validGrants_c (l : List Grant) (hl : l.length ≤ 1048576) : CL 51 [.sl (l.map encG)] [] = some (.bool (validGrants l), []) := by
  refine callL_W _ _ _ (F := v51) rfl ?_
  simp only [v51, go_sem, Nat.reduceEqDiff, ↓reduceIte, reduceCtorEq, Nat.reduceAdd, Nat.reduceSub, Nat.reduceLeDiff, Nat.reduceMul, Nat.reduceLT, Int.reduceLT, Int.reduceLE, Int.reduceNeg]
  refine W_rounds (T := Nat) (fun i => ⟨ofL [(0, .sl (l.map encG)), (5, .sl (l.map encG)), (6, .int .i64 l.length), (7, .int .i64 i)], [], 0⟩) (fun i => i ≤ l.length ∧ ∀ j, j < i → grantAt l j = true) (fun i => l.length - i) 0 rfl rfl ⟨by omega, by omega⟩ ?_
  rintro i ⟨hi, he⟩ Q1 IH OUT
  by_cases h : i < l.length
  · have c1 : decide ((i : Int) < l.length) = true := decide_eq_true (by omega)
    have c2 : (0 : Int) ≤ i := by omega
    have hr : (List.map encG l)[i]? = some (encG l[i]) := by simp [h]
    have hw : IntKind.i64.wrap ((i : Int) + 1) = ((i + 1 : Nat) : Int) := by rw [wrap_small _ (by omega) (by omega)]; rfl
    have fin : grantAt l i = true → ∀ σ', renorm [0, 5, 6, 7] σ' = ⟨ofL [(0, .sl (l.map encG)), (5, .sl (l.map encG)), (6, .int .i64 l.length), (7, .int .i64 ((i + 1 : Nat) : Int))], [], 0⟩ → rootsLive σ'.m σ'.st = true → Q1 .normal σ' := fun hg σ' h1 h2 =>
      IH (i + 1) σ' ⟨by omega, fun j hj => by rcases Nat.lt_succ_iff_lt_or_eq.1 hj with h3 | h3; exact he j h3; rw [h3]; exact hg⟩ (by omega) h1 h2
    have bad : grantAt l i = false → ∀ σ', σ'.env 2 = .bool false → σ'.m = 0 → Q1 .ret σ' := fun hg σ' h1 h2 => OUT _ _ (by simp) (by
      simp only [go_sem, Nat.reduceEqDiff, ↓reduceIte, reduceCtorEq, Nat.reduceAdd, Nat.reduceSub, Nat.reduceLeDiff, Nat.reduceMul, Nat.reduceLT, Int.reduceLT, Int.reduceLE, Int.reduceNeg, h1]
      simp only [validGrants, all_range_of h hg, Bool.false_and])
    have hg : l[i]? = some l[i] := by simp [h]
    rcases i with _ | i
    · have c3 : decide (((0 : Nat) : Int) > 0) = false := by simp
      simp only [go_sem, Nat.reduceEqDiff, ↓reduceIte, reduceCtorEq, Nat.reduceAdd, Nat.reduceSub, Nat.reduceLeDiff, Nat.reduceMul, Nat.reduceLT, Int.reduceLT, Int.reduceLE, Int.reduceNeg, c1, c2, c3, hr, hw, encG, validStamp_c, isAuthor_c, Stamp.eta]
      repeat' split
      all_goals first
        | exact fin (by simp only [grantAt, hg, grantOk]; grind) _ rfl rfl
        | exact bad (by simp only [grantAt, hg, grantOk]; grind) _ rfl rfl
    · have c3 : decide (((i + 1 : Nat) : Int) > 0) = true := decide_eq_true (by omega)
      have c4 : IntKind.i64.wrap (((i + 1 : Nat) : Int) - 1) = (i : Int) := by rw [wrap_small _ (by omega) (by omega)]; omega
      have c5 : (0 : Int) ≤ i := by omega
      have hg2 : l[i]? = some l[i] := by simp [show i < l.length by omega]
      have hr2 : (List.map encG l)[i]? = some (encG l[i]) := by simp [show i < l.length by omega]
      simp only [go_sem, Nat.reduceEqDiff, ↓reduceIte, reduceCtorEq, Nat.reduceAdd, Nat.reduceSub, Nat.reduceLeDiff, Nat.reduceMul, Nat.reduceLT, Int.reduceLT, Int.reduceLE, Int.reduceNeg, c1, c2, c3, c4, c5, hr, hr2, hw, encG, validStamp_c, isAuthor_c, stampLess_c, Stamp.eta]
      repeat' split
      all_goals first
        | exact fin (by simp only [grantAt, hg, hg2, grantOk]; grind) _ rfl rfl
        | exact bad (by simp only [grantAt, hg, hg2, grantOk]; grind) _ rfl rfl
  · have c1 : decide ((i : Int) < l.length) = false := decide_eq_false (by omega)
    have hil : i = l.length := by omega
    simp only [go_sem, Nat.reduceEqDiff, ↓reduceIte, reduceCtorEq, Nat.reduceAdd, Nat.reduceSub, Nat.reduceLeDiff, Nat.reduceMul, Nat.reduceLT, Int.reduceLT, Int.reduceLE, Int.reduceNeg, c1]
    refine OUT _ _ (by simp) ?_
    simp only [go_sem, Nat.reduceEqDiff, ↓reduceIte, reduceCtorEq, Nat.reduceAdd, Nat.reduceSub, Nat.reduceLeDiff, Nat.reduceMul, Nat.reduceLT, Int.reduceLT, Int.reduceLE, Int.reduceNeg]
    have : (List.range l.length).all (grantAt l) = true := by
      rw [List.all_eq_true]
      intro j hj
      exact he j (by rw [hil]; exact List.mem_range.1 hj)
    simp only [validGrants, this, Bool.true_and, show decide ((l.length : Int) ≤ 20) = decide (l.length ≤ 20) from decide_eq_decide.2 (by omega)]
end Go.Vi.Code
