/-
  No cell of these rows narrows 'for every input' (looked for: loops, veiled, ifaces, maps, wideKeys, modest, calm, conditions, laid).
  DERIVED. THE GIVEN ROWS OF THIS SEAT. 12 by the template 'for every input the law returns true; each argument reads behind the call as it read before'; 0 by the template 'total and deterministic' (their statements: YtcnhokifbgbegaaTotals.lean).
  GIVEN WITH THE SEED: the statements are not yours to turn. If you find one false, say at which input.
  Laid BY PROGRAM, IN A SANDBOX (cutbox-rows.mjs): the forced cells as the released guide's own fill.sh prints them over the translation e052abebf18cec5a… (all of the seat's roots in one cut). By AI agents, Wed Nov 11 2026. No macro, syntax, notation, axiom, sorry.
-/
import Derived.Test.YtcnhokifbgbegaaChecked
import GoSem.Claim
import GoSem.ClaimJoined
import GoSem.ClaimMapViews
import Derived.JoinedTies
import Derived.KernelRfl
namespace Go.Proofs.Ytcnhokifbgbegaa
/- THE CELL 'sum', in the pinned program and in every row, IS THE sha256 OF THE DUMP (.gsa) THAT YtcnhokifbgbegaaProg.lean LOADS. Nothing in Lean hashes anything: it is a label: what it is worth is what the hold of that sum in a sandbox is worth. -/
noncomputable def Try.pinned : Pinned := { name := "ytcnhokifbgbegaa", sum := "e052abebf18cec5aac9af0d03abd3d409efe6e3c0cee8c40ec14e491815c3f86", checked := Try.checked }
namespace Rows
def none {H : Type} : Left H := { results := [], args := [] }

/-- 'laws.FnExactCommonLog': WHATEVER THE INPUT: true; the input reads as it did. -/
def fnExactCommonLogSpec : ChangeSpec := { name := "fnExactCommonLog", fn := fun _ => fun
  | [d1, d2] => { results := [.lit (.bool true)], args := [d1, d2] }
  | _ => none }
def fnExactCommonLogRow : OpenClaim := { program := "ytcnhokifbgbegaa", sum := "e052abebf18cec5aac9af0d03abd3d409efe6e3c0cee8c40ec14e491815c3f86", func := "loop.example/collabdoc/laws.FnExactCommonLog", spec := "fnExactCommonLog", unfollowed := true, recurses := true, apart := false }
def FnExactCommonLogSaid : Prop := fnExactCommonLogRow.holds Try.pinned (OpenSpec.ofChange fnExactCommonLogSpec)

/-- ITS FALSE NEIGHBOUR: 'it returns false'. Refute it at one input. -/
def fnExactCommonLogWrong : ChangeSpec := { name := "fnExactCommonLog", fn := fun _ => fun
  | [d1, d2] => { results := [.lit (.bool false)], args := [d1, d2] }
  | _ => none }
def FnExactCommonLogWrongFalsely : Prop := fnExactCommonLogRow.holds Try.pinned (OpenSpec.ofChange fnExactCommonLogWrong)

/-- 'laws.FnExactLogDifference': WHATEVER THE INPUT: true; the input reads as it did. -/
def fnExactLogDifferenceSpec : ChangeSpec := { name := "fnExactLogDifference", fn := fun _ => fun
  | [d1, d2] => { results := [.lit (.bool true)], args := [d1, d2] }
  | _ => none }
def fnExactLogDifferenceRow : OpenClaim := { program := "ytcnhokifbgbegaa", sum := "e052abebf18cec5aac9af0d03abd3d409efe6e3c0cee8c40ec14e491815c3f86", func := "loop.example/collabdoc/laws.FnExactLogDifference", spec := "fnExactLogDifference", unfollowed := true, recurses := true, apart := false }
def FnExactLogDifferenceSaid : Prop := fnExactLogDifferenceRow.holds Try.pinned (OpenSpec.ofChange fnExactLogDifferenceSpec)

/-- ITS FALSE NEIGHBOUR: 'it returns false'. Refute it at one input. -/
def fnExactLogDifferenceWrong : ChangeSpec := { name := "fnExactLogDifference", fn := fun _ => fun
  | [d1, d2] => { results := [.lit (.bool false)], args := [d1, d2] }
  | _ => none }
def FnExactLogDifferenceWrongFalsely : Prop := fnExactLogDifferenceRow.holds Try.pinned (OpenSpec.ofChange fnExactLogDifferenceWrong)

/-- 'laws.FnSpanSplit': WHATEVER THE INPUT: true; the input reads as it did. -/
def fnSpanSplitSpec : ChangeSpec := { name := "fnSpanSplit", fn := fun _ => fun
  | [d1, d2] => { results := [.lit (.bool true)], args := [d1, d2] }
  | _ => none }
def fnSpanSplitRow : OpenClaim := { program := "ytcnhokifbgbegaa", sum := "e052abebf18cec5aac9af0d03abd3d409efe6e3c0cee8c40ec14e491815c3f86", func := "loop.example/collabdoc/laws.FnSpanSplit", spec := "fnSpanSplit", unfollowed := true, recurses := true, apart := false }
def FnSpanSplitSaid : Prop := fnSpanSplitRow.holds Try.pinned (OpenSpec.ofChange fnSpanSplitSpec)

/-- ITS FALSE NEIGHBOUR: 'it returns false'. Refute it at one input. -/
def fnSpanSplitWrong : ChangeSpec := { name := "fnSpanSplit", fn := fun _ => fun
  | [d1, d2] => { results := [.lit (.bool false)], args := [d1, d2] }
  | _ => none }
def FnSpanSplitWrongFalsely : Prop := fnSpanSplitRow.holds Try.pinned (OpenSpec.ofChange fnSpanSplitWrong)

/-- 'laws.FnLogContains': WHATEVER THE INPUT: true; the input reads as it did. -/
def fnLogContainsSpec : ChangeSpec := { name := "fnLogContains", fn := fun _ => fun
  | [d1, d2] => { results := [.lit (.bool true)], args := [d1, d2] }
  | _ => none }
def fnLogContainsRow : OpenClaim := { program := "ytcnhokifbgbegaa", sum := "e052abebf18cec5aac9af0d03abd3d409efe6e3c0cee8c40ec14e491815c3f86", func := "loop.example/collabdoc/laws.FnLogContains", spec := "fnLogContains", unfollowed := true, recurses := true, apart := false }
def FnLogContainsSaid : Prop := fnLogContainsRow.holds Try.pinned (OpenSpec.ofChange fnLogContainsSpec)

/-- ITS FALSE NEIGHBOUR: 'it returns false'. Refute it at one input. -/
def fnLogContainsWrong : ChangeSpec := { name := "fnLogContains", fn := fun _ => fun
  | [d1, d2] => { results := [.lit (.bool false)], args := [d1, d2] }
  | _ => none }
def FnLogContainsWrongFalsely : Prop := fnLogContainsRow.holds Try.pinned (OpenSpec.ofChange fnLogContainsWrong)

/-- 'laws.FnExactConflicts': WHATEVER THE INPUT: true; the input reads as it did. -/
def fnExactConflictsSpec : ChangeSpec := { name := "fnExactConflicts", fn := fun _ => fun
  | [d1, d2] => { results := [.lit (.bool true)], args := [d1, d2] }
  | _ => none }
def fnExactConflictsRow : OpenClaim := { program := "ytcnhokifbgbegaa", sum := "e052abebf18cec5aac9af0d03abd3d409efe6e3c0cee8c40ec14e491815c3f86", func := "loop.example/collabdoc/laws.FnExactConflicts", spec := "fnExactConflicts", unfollowed := true, recurses := true, apart := false }
def FnExactConflictsSaid : Prop := fnExactConflictsRow.holds Try.pinned (OpenSpec.ofChange fnExactConflictsSpec)

/-- ITS FALSE NEIGHBOUR: 'it returns false'. Refute it at one input. -/
def fnExactConflictsWrong : ChangeSpec := { name := "fnExactConflicts", fn := fun _ => fun
  | [d1, d2] => { results := [.lit (.bool false)], args := [d1, d2] }
  | _ => none }
def FnExactConflictsWrongFalsely : Prop := fnExactConflictsRow.holds Try.pinned (OpenSpec.ofChange fnExactConflictsWrong)

/-- 'laws.FnSpanOps': WHATEVER THE INPUT: true; the input reads as it did. -/
def fnSpanOpsSpec : ChangeSpec := { name := "fnSpanOps", fn := fun _ => fun
  | [d] => { results := [.lit (.bool true)], args := [d] }
  | _ => none }
def fnSpanOpsRow : OpenClaim := { program := "ytcnhokifbgbegaa", sum := "e052abebf18cec5aac9af0d03abd3d409efe6e3c0cee8c40ec14e491815c3f86", func := "loop.example/collabdoc/laws.FnSpanOps", spec := "fnSpanOps", unfollowed := true, recurses := true, apart := false }
def FnSpanOpsSaid : Prop := fnSpanOpsRow.holds Try.pinned (OpenSpec.ofChange fnSpanOpsSpec)

/-- ITS FALSE NEIGHBOUR: 'it returns false'. Refute it at one input. -/
def fnSpanOpsWrong : ChangeSpec := { name := "fnSpanOps", fn := fun _ => fun
  | [d] => { results := [.lit (.bool false)], args := [d] }
  | _ => none }
def FnSpanOpsWrongFalsely : Prop := fnSpanOpsRow.holds Try.pinned (OpenSpec.ofChange fnSpanOpsWrong)

/-- 'laws.FnCommonLog': WHATEVER THE INPUT: true; the input reads as it did. -/
def fnCommonLogSpec : ChangeSpec := { name := "fnCommonLog", fn := fun _ => fun
  | [d] => { results := [.lit (.bool true)], args := [d] }
  | _ => none }
def fnCommonLogRow : OpenClaim := { program := "ytcnhokifbgbegaa", sum := "e052abebf18cec5aac9af0d03abd3d409efe6e3c0cee8c40ec14e491815c3f86", func := "loop.example/collabdoc/laws.FnCommonLog", spec := "fnCommonLog", unfollowed := true, recurses := true, apart := false }
def FnCommonLogSaid : Prop := fnCommonLogRow.holds Try.pinned (OpenSpec.ofChange fnCommonLogSpec)

/-- ITS FALSE NEIGHBOUR: 'it returns false'. Refute it at one input. -/
def fnCommonLogWrong : ChangeSpec := { name := "fnCommonLog", fn := fun _ => fun
  | [d] => { results := [.lit (.bool false)], args := [d] }
  | _ => none }
def FnCommonLogWrongFalsely : Prop := fnCommonLogRow.holds Try.pinned (OpenSpec.ofChange fnCommonLogWrong)

/-- 'laws.FnSameHistory': WHATEVER THE INPUT: true; the input reads as it did. -/
def fnSameHistorySpec : ChangeSpec := { name := "fnSameHistory", fn := fun _ => fun
  | [d] => { results := [.lit (.bool true)], args := [d] }
  | _ => none }
def fnSameHistoryRow : OpenClaim := { program := "ytcnhokifbgbegaa", sum := "e052abebf18cec5aac9af0d03abd3d409efe6e3c0cee8c40ec14e491815c3f86", func := "loop.example/collabdoc/laws.FnSameHistory", spec := "fnSameHistory", unfollowed := true, recurses := true, apart := false }
def FnSameHistorySaid : Prop := fnSameHistoryRow.holds Try.pinned (OpenSpec.ofChange fnSameHistorySpec)

/-- ITS FALSE NEIGHBOUR: 'it returns false'. Refute it at one input. -/
def fnSameHistoryWrong : ChangeSpec := { name := "fnSameHistory", fn := fun _ => fun
  | [d] => { results := [.lit (.bool false)], args := [d] }
  | _ => none }
def FnSameHistoryWrongFalsely : Prop := fnSameHistoryRow.holds Try.pinned (OpenSpec.ofChange fnSameHistoryWrong)

/-- 'laws.FnExactAllowedOps': WHATEVER THE INPUT: true; the input reads as it did. -/
def fnExactAllowedOpsSpec : ChangeSpec := { name := "fnExactAllowedOps", fn := fun _ => fun
  | [d1, d2] => { results := [.lit (.bool true)], args := [d1, d2] }
  | _ => none }
def fnExactAllowedOpsRow : OpenClaim := { program := "ytcnhokifbgbegaa", sum := "e052abebf18cec5aac9af0d03abd3d409efe6e3c0cee8c40ec14e491815c3f86", func := "loop.example/collabdoc/laws.FnExactAllowedOps", spec := "fnExactAllowedOps", unfollowed := true, recurses := true, apart := false }
def FnExactAllowedOpsSaid : Prop := fnExactAllowedOpsRow.holds Try.pinned (OpenSpec.ofChange fnExactAllowedOpsSpec)

/-- ITS FALSE NEIGHBOUR: 'it returns false'. Refute it at one input. -/
def fnExactAllowedOpsWrong : ChangeSpec := { name := "fnExactAllowedOps", fn := fun _ => fun
  | [d1, d2] => { results := [.lit (.bool false)], args := [d1, d2] }
  | _ => none }
def FnExactAllowedOpsWrongFalsely : Prop := fnExactAllowedOpsRow.holds Try.pinned (OpenSpec.ofChange fnExactAllowedOpsWrong)

/-- 'laws.FnAllowedLater': WHATEVER THE INPUT: true; the input reads as it did. -/
def fnAllowedLaterSpec : ChangeSpec := { name := "fnAllowedLater", fn := fun _ => fun
  | [d] => { results := [.lit (.bool true)], args := [d] }
  | _ => none }
def fnAllowedLaterRow : OpenClaim := { program := "ytcnhokifbgbegaa", sum := "e052abebf18cec5aac9af0d03abd3d409efe6e3c0cee8c40ec14e491815c3f86", func := "loop.example/collabdoc/laws.FnAllowedLater", spec := "fnAllowedLater", unfollowed := true, recurses := true, apart := false }
def FnAllowedLaterSaid : Prop := fnAllowedLaterRow.holds Try.pinned (OpenSpec.ofChange fnAllowedLaterSpec)

/-- ITS FALSE NEIGHBOUR: 'it returns false'. Refute it at one input. -/
def fnAllowedLaterWrong : ChangeSpec := { name := "fnAllowedLater", fn := fun _ => fun
  | [d] => { results := [.lit (.bool false)], args := [d] }
  | _ => none }
def FnAllowedLaterWrongFalsely : Prop := fnAllowedLaterRow.holds Try.pinned (OpenSpec.ofChange fnAllowedLaterWrong)

/-- 'laws.FnAllowedOps': WHATEVER THE INPUT: true; the input reads as it did. -/
def fnAllowedOpsSpec : ChangeSpec := { name := "fnAllowedOps", fn := fun _ => fun
  | [d] => { results := [.lit (.bool true)], args := [d] }
  | _ => none }
def fnAllowedOpsRow : OpenClaim := { program := "ytcnhokifbgbegaa", sum := "e052abebf18cec5aac9af0d03abd3d409efe6e3c0cee8c40ec14e491815c3f86", func := "loop.example/collabdoc/laws.FnAllowedOps", spec := "fnAllowedOps", unfollowed := true, recurses := true, apart := false }
def FnAllowedOpsSaid : Prop := fnAllowedOpsRow.holds Try.pinned (OpenSpec.ofChange fnAllowedOpsSpec)

/-- ITS FALSE NEIGHBOUR: 'it returns false'. Refute it at one input. -/
def fnAllowedOpsWrong : ChangeSpec := { name := "fnAllowedOps", fn := fun _ => fun
  | [d] => { results := [.lit (.bool false)], args := [d] }
  | _ => none }
def FnAllowedOpsWrongFalsely : Prop := fnAllowedOpsRow.holds Try.pinned (OpenSpec.ofChange fnAllowedOpsWrong)

/-- 'laws.FnAllowedParts': WHATEVER THE INPUT: true; the input reads as it did. -/
def fnAllowedPartsSpec : ChangeSpec := { name := "fnAllowedParts", fn := fun _ => fun
  | [d1, d2] => { results := [.lit (.bool true)], args := [d1, d2] }
  | _ => none }
def fnAllowedPartsRow : OpenClaim := { program := "ytcnhokifbgbegaa", sum := "e052abebf18cec5aac9af0d03abd3d409efe6e3c0cee8c40ec14e491815c3f86", func := "loop.example/collabdoc/laws.FnAllowedParts", spec := "fnAllowedParts", unfollowed := true, recurses := true, apart := false }
def FnAllowedPartsSaid : Prop := fnAllowedPartsRow.holds Try.pinned (OpenSpec.ofChange fnAllowedPartsSpec)

/-- ITS FALSE NEIGHBOUR: 'it returns false'. Refute it at one input. -/
def fnAllowedPartsWrong : ChangeSpec := { name := "fnAllowedParts", fn := fun _ => fun
  | [d1, d2] => { results := [.lit (.bool false)], args := [d1, d2] }
  | _ => none }
def FnAllowedPartsWrongFalsely : Prop := fnAllowedPartsRow.holds Try.pinned (OpenSpec.ofChange fnAllowedPartsWrong)

/- THE SECOND FORM. 'bulk': how many values and letters a reading holds, each counted each time it is reached (what is shared counts as often as it is met; a slice's spare places count too). A statement '..UptoSaid' is the law's where the arguments, and the package variables that the reading takes, are together of bulk at most 1048576: NARROWER than '..Said'. Prove '..Said' where nothing that the law and all that it calls make is longer than what came in: it says more and counts as full. Else prove '..UptoSaid'. A law counts once. -/
mutual
def uptoBulk {H : Type} : DataW H → Nat
  | .lit (.string bytes) => bytes.length + 1
  | .lit _ => 1
  | .nil => 1
  | .ptr d => uptoBulk d + 1
  | .slice elems spare => uptoBulkAll elems + uptoBulkAll spare + 1
  | .agg parts => uptoBulkAll parts + 1
  | .iface _ d => uptoBulk d + 1
  | .map entries => uptoBulkEntries entries + 1
  | .held _ => 1
def uptoBulkAll {H : Type} : List (DataW H) → Nat
  | [] => 0
  | d :: r => uptoBulk d + uptoBulkAll r
def uptoBulkEntries {H : Type} : List (Lit × DataW H) → Nat
  | [] => 0
  | x :: r => uptoBulkEntry x + uptoBulkEntries r
def uptoBulkEntry {H : Type} : Lit × DataW H → Nat
  | (.string bytes, d) => bytes.length + uptoBulk d + 1
  | (_, d) => uptoBulk d + 1
 end
def uptoSmall : (H : Type) → List (DataW H) → Bool := fun _ ds => decide (uptoBulkAll ds ≤ 1048576)
def OpenSpec.upto (s : _root_.Go.ChangeSpec) : _root_.Go.OpenSpec := { _root_.Go.OpenSpec.ofChange s with cond := some uptoSmall }

/-- 'laws.FnExactCommonLog', WHERE WHAT IT READS IS OF BULK AT MOST 1048576: true; the input reads as it did. -/
def fnExactCommonLogUptoRow : OpenClaim := { program := "ytcnhokifbgbegaa", sum := "e052abebf18cec5aac9af0d03abd3d409efe6e3c0cee8c40ec14e491815c3f86", func := "loop.example/collabdoc/laws.FnExactCommonLog", spec := "fnExactCommonLog", unfollowed := true, recurses := true, apart := false, narrowed := true }
def FnExactCommonLogUptoSaid : Prop := fnExactCommonLogUptoRow.holds Try.pinned (OpenSpec.upto fnExactCommonLogSpec)

/-- 'laws.FnExactLogDifference', WHERE WHAT IT READS IS OF BULK AT MOST 1048576: true; the input reads as it did. -/
def fnExactLogDifferenceUptoRow : OpenClaim := { program := "ytcnhokifbgbegaa", sum := "e052abebf18cec5aac9af0d03abd3d409efe6e3c0cee8c40ec14e491815c3f86", func := "loop.example/collabdoc/laws.FnExactLogDifference", spec := "fnExactLogDifference", unfollowed := true, recurses := true, apart := false, narrowed := true }
def FnExactLogDifferenceUptoSaid : Prop := fnExactLogDifferenceUptoRow.holds Try.pinned (OpenSpec.upto fnExactLogDifferenceSpec)

/-- 'laws.FnSpanSplit', WHERE WHAT IT READS IS OF BULK AT MOST 1048576: true; the input reads as it did. -/
def fnSpanSplitUptoRow : OpenClaim := { program := "ytcnhokifbgbegaa", sum := "e052abebf18cec5aac9af0d03abd3d409efe6e3c0cee8c40ec14e491815c3f86", func := "loop.example/collabdoc/laws.FnSpanSplit", spec := "fnSpanSplit", unfollowed := true, recurses := true, apart := false, narrowed := true }
def FnSpanSplitUptoSaid : Prop := fnSpanSplitUptoRow.holds Try.pinned (OpenSpec.upto fnSpanSplitSpec)

/-- 'laws.FnLogContains', WHERE WHAT IT READS IS OF BULK AT MOST 1048576: true; the input reads as it did. -/
def fnLogContainsUptoRow : OpenClaim := { program := "ytcnhokifbgbegaa", sum := "e052abebf18cec5aac9af0d03abd3d409efe6e3c0cee8c40ec14e491815c3f86", func := "loop.example/collabdoc/laws.FnLogContains", spec := "fnLogContains", unfollowed := true, recurses := true, apart := false, narrowed := true }
def FnLogContainsUptoSaid : Prop := fnLogContainsUptoRow.holds Try.pinned (OpenSpec.upto fnLogContainsSpec)

/-- 'laws.FnExactConflicts', WHERE WHAT IT READS IS OF BULK AT MOST 1048576: true; the input reads as it did. -/
def fnExactConflictsUptoRow : OpenClaim := { program := "ytcnhokifbgbegaa", sum := "e052abebf18cec5aac9af0d03abd3d409efe6e3c0cee8c40ec14e491815c3f86", func := "loop.example/collabdoc/laws.FnExactConflicts", spec := "fnExactConflicts", unfollowed := true, recurses := true, apart := false, narrowed := true }
def FnExactConflictsUptoSaid : Prop := fnExactConflictsUptoRow.holds Try.pinned (OpenSpec.upto fnExactConflictsSpec)

/-- 'laws.FnSpanOps', WHERE WHAT IT READS IS OF BULK AT MOST 1048576: true; the input reads as it did. -/
def fnSpanOpsUptoRow : OpenClaim := { program := "ytcnhokifbgbegaa", sum := "e052abebf18cec5aac9af0d03abd3d409efe6e3c0cee8c40ec14e491815c3f86", func := "loop.example/collabdoc/laws.FnSpanOps", spec := "fnSpanOps", unfollowed := true, recurses := true, apart := false, narrowed := true }
def FnSpanOpsUptoSaid : Prop := fnSpanOpsUptoRow.holds Try.pinned (OpenSpec.upto fnSpanOpsSpec)

/-- 'laws.FnCommonLog', WHERE WHAT IT READS IS OF BULK AT MOST 1048576: true; the input reads as it did. -/
def fnCommonLogUptoRow : OpenClaim := { program := "ytcnhokifbgbegaa", sum := "e052abebf18cec5aac9af0d03abd3d409efe6e3c0cee8c40ec14e491815c3f86", func := "loop.example/collabdoc/laws.FnCommonLog", spec := "fnCommonLog", unfollowed := true, recurses := true, apart := false, narrowed := true }
def FnCommonLogUptoSaid : Prop := fnCommonLogUptoRow.holds Try.pinned (OpenSpec.upto fnCommonLogSpec)

/-- 'laws.FnSameHistory', WHERE WHAT IT READS IS OF BULK AT MOST 1048576: true; the input reads as it did. -/
def fnSameHistoryUptoRow : OpenClaim := { program := "ytcnhokifbgbegaa", sum := "e052abebf18cec5aac9af0d03abd3d409efe6e3c0cee8c40ec14e491815c3f86", func := "loop.example/collabdoc/laws.FnSameHistory", spec := "fnSameHistory", unfollowed := true, recurses := true, apart := false, narrowed := true }
def FnSameHistoryUptoSaid : Prop := fnSameHistoryUptoRow.holds Try.pinned (OpenSpec.upto fnSameHistorySpec)

/-- 'laws.FnExactAllowedOps', WHERE WHAT IT READS IS OF BULK AT MOST 1048576: true; the input reads as it did. -/
def fnExactAllowedOpsUptoRow : OpenClaim := { program := "ytcnhokifbgbegaa", sum := "e052abebf18cec5aac9af0d03abd3d409efe6e3c0cee8c40ec14e491815c3f86", func := "loop.example/collabdoc/laws.FnExactAllowedOps", spec := "fnExactAllowedOps", unfollowed := true, recurses := true, apart := false, narrowed := true }
def FnExactAllowedOpsUptoSaid : Prop := fnExactAllowedOpsUptoRow.holds Try.pinned (OpenSpec.upto fnExactAllowedOpsSpec)

/-- 'laws.FnAllowedLater', WHERE WHAT IT READS IS OF BULK AT MOST 1048576: true; the input reads as it did. -/
def fnAllowedLaterUptoRow : OpenClaim := { program := "ytcnhokifbgbegaa", sum := "e052abebf18cec5aac9af0d03abd3d409efe6e3c0cee8c40ec14e491815c3f86", func := "loop.example/collabdoc/laws.FnAllowedLater", spec := "fnAllowedLater", unfollowed := true, recurses := true, apart := false, narrowed := true }
def FnAllowedLaterUptoSaid : Prop := fnAllowedLaterUptoRow.holds Try.pinned (OpenSpec.upto fnAllowedLaterSpec)

/-- 'laws.FnAllowedOps', WHERE WHAT IT READS IS OF BULK AT MOST 1048576: true; the input reads as it did. -/
def fnAllowedOpsUptoRow : OpenClaim := { program := "ytcnhokifbgbegaa", sum := "e052abebf18cec5aac9af0d03abd3d409efe6e3c0cee8c40ec14e491815c3f86", func := "loop.example/collabdoc/laws.FnAllowedOps", spec := "fnAllowedOps", unfollowed := true, recurses := true, apart := false, narrowed := true }
def FnAllowedOpsUptoSaid : Prop := fnAllowedOpsUptoRow.holds Try.pinned (OpenSpec.upto fnAllowedOpsSpec)

/-- 'laws.FnAllowedParts', WHERE WHAT IT READS IS OF BULK AT MOST 1048576: true; the input reads as it did. -/
def fnAllowedPartsUptoRow : OpenClaim := { program := "ytcnhokifbgbegaa", sum := "e052abebf18cec5aac9af0d03abd3d409efe6e3c0cee8c40ec14e491815c3f86", func := "loop.example/collabdoc/laws.FnAllowedParts", spec := "fnAllowedParts", unfollowed := true, recurses := true, apart := false, narrowed := true }
def FnAllowedPartsUptoSaid : Prop := fnAllowedPartsUptoRow.holds Try.pinned (OpenSpec.upto fnAllowedPartsSpec)

end Rows
end Go.Proofs.Ytcnhokifbgbegaa
