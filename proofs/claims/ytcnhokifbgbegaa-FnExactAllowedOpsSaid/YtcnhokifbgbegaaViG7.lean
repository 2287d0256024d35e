/- Contracts: the specification's RightAt, both EffectiveGrants; the law ExactRightAt. -/
import Derived.Test.YtcnhokifbgbegaaViG6
set_option linter.unusedSimpArgs false
set_option linter.unusedVariables false
namespace Go.Vi.Code
theorem before_filter {l : List Grant} (h : l.Pairwise (fun a b => stampLess a.id b.id = true)) (t : Stamp) : before l t = l.filter fun g => stampLess g.id t := by
  induction l with
  | nil => rfl
  | cons x l ih =>
    obtain ⟨h1, h2⟩ := List.pairwise_cons.1 h
    unfold before at ih ⊢
    by_cases hx : stampLess x.id t = true
    · rw [List.takeWhile_cons, List.filter_cons, if_pos hx, if_pos hx, ih h2]
    · rw [List.takeWhile_cons, List.filter_cons, if_neg hx, if_neg hx]
      symm
      rw [List.filter_eq_nil_iff]
      intro y hy hyt
      apply hx
      have := h1 y hy
      simp only [stampLess, decide_eq_true_eq] at this hyt ⊢
      omega
@[go_sem] theorem rows3_len (R : R3) : (rows3 R).length = 3 := rfl
@[go_sem] theorem rows3_take (R : R3) : (rows3 R).take 3 = rows3 R := rfl
theorem rights_s' (l : List Grant) (hl : l.length ≤ 1048576) (hok : ∀ g ∈ l, grantOk g = true) (a1 a2 : Int) : CL 101 [.sl (l.map encG), .agg [.int .i64 a1, .int .i64 a2]] [] =
    some (.tup [.osl 0 0 3, .osl 1 0 (effs first (before l ⟨a1, a2⟩)).length], [some (.rw 3 (rows3 ((before l ⟨a1, a2⟩).foldl takeR first))), some (.rw 4 ((effs first (before l ⟨a1, a2⟩)).map encB))]) := by
  rw [effs_len]
  exact rights_s l hl hok a1 a2
def effGrants (l : List Grant) : List Bool := if validGrants l = true then effs first l else []
theorem before_all {l : List Grant} (h : ∀ g ∈ l, grantOk g = true) : before l ⟨100, 0⟩ = l := by
  unfold before
  have := takeWhile_of (fun g : Grant => stampLess g.id ⟨100, 0⟩) l l.length (Nat.le_refl _) (fun j hj _ => by
    obtain ⟨h1, _⟩ := grantOk_spec (h _ (List.getElem_mem hj))
    simp only [stampLess, decide_eq_true_eq]
    omega) (fun h => absurd h (Nat.lt_irrefl _))
  rw [this, List.take_length]
end Go.Vi.Code
