/- Contracts: GrantMerge, both. -/
import Derived.Test.YtcnhokifbgbegaaViG8
set_option linter.unusedSimpArgs false
set_option linter.unusedVariables false
namespace Go.Vi.Code
theorem foldIns_len (b a : List Grant) : (b.foldl insertG a).length ≤ a.length + b.length := by
  induction b generalizing a with
  | nil => simp
  | cons y b ih => rw [List.foldl_cons]; have := ih (insertG a y); have := insertG_len a y; simp; omega
end Go.Vi.Code
