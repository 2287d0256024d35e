/- Contracts: the laws ExactGrantMerge and ExactEffectiveGrants. -/
import Derived.Test.YtcnhokifbgbegaaViG10
set_option linter.unusedSimpArgs false
set_option linter.unusedVariables false
namespace Go.Vi.Code
theorem bare_encG (e : Nat) (l : List Grant) : bareO (some (.rw e (l.map encG))) = true := by
  simp only [bareO, List.all_eq_true]
  intro r hr
  obtain ⟨g, _, rfl⟩ := List.mem_map.1 hr
  simp [encG, bare]
theorem bare_encB (e : Nat) (l : List Bool) : bareO (some (.rw e (l.map encB))) = true := by
  simp only [bareO, List.all_eq_true]
  intro r hr
  obtain ⟨g, _, rfl⟩ := List.mem_map.1 hr
  simp [encB, bare]
theorem mergeG_len (a b : List Grant) (ha : a.length ≤ 1048576) : (mergeG a b).1.length ≤ 1048576 := by
  unfold mergeG
  split
  · split
    · simp only; omega
    · exact ha
  · simp
theorem effGrants_len (l : List Grant) : (effGrants l).length ≤ l.length := by
  unfold effGrants
  split
  · rw [effs_len]; exact Nat.le_refl _
  · simp
end Go.Vi.Code
