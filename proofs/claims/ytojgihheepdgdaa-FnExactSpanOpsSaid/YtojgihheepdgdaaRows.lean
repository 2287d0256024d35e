/-
  No cell of these rows narrows 'for every input' (looked for: loops, veiled, ifaces, maps, wideKeys, modest, calm, conditions, laid).
  DERIVED. THE GIVEN ROWS OF THIS SEAT. 12 by the template 'for every input the law returns true; each argument reads behind the call as it read before'; 0 by the template 'total and deterministic' (their statements: YtojgihheepdgdaaTotals.lean).
  GIVEN WITH THE SEED: the statements are not yours to turn. If you find one false, say at which input.
  Laid BY PROGRAM, IN A SANDBOX (cutbox-rows.mjs): the forced cells as the released guide's own fill.sh prints them over the translation 2ebf1cd04ca9ecf6… (all of the seat's roots in one cut). By AI agents, Wed Nov 11 2026. No macro, syntax, notation, axiom, sorry.
-/
import Derived.Test.YtojgihheepdgdaaChecked
import GoSem.Claim
import GoSem.ClaimJoined
import GoSem.ClaimMapViews
import Derived.JoinedTies
import Derived.KernelRfl
namespace Go.Proofs.Ytojgihheepdgdaa
/- THE CELL 'sum', in the pinned program and in every row, IS THE sha256 OF THE DUMP (.gsa) THAT YtojgihheepdgdaaProg.lean LOADS. Nothing in Lean hashes anything: it is a label: what it is worth is what the hold of that sum in a sandbox is worth. -/
noncomputable def Try.pinned : Pinned := { name := "ytojgihheepdgdaa", sum := "2ebf1cd04ca9ecf689b5b6f92acae5bff798dc9b901774ef539e42a060546c54", checked := Try.checked }
namespace Rows
def none {H : Type} : Left H := { results := [], args := [] }

/-- 'laws.FnExactValidGrants': WHATEVER THE INPUT: true; the input reads as it did. -/
def fnExactValidGrantsSpec : ChangeSpec := { name := "fnExactValidGrants", fn := fun _ => fun
  | [d] => { results := [.lit (.bool true)], args := [d] }
  | _ => none }
def fnExactValidGrantsRow : OpenClaim := { program := "ytojgihheepdgdaa", sum := "2ebf1cd04ca9ecf689b5b6f92acae5bff798dc9b901774ef539e42a060546c54", func := "loop.example/collabdoc/laws.FnExactValidGrants", spec := "fnExactValidGrants", apart := false }
def FnExactValidGrantsSaid : Prop := fnExactValidGrantsRow.holds Try.pinned (OpenSpec.ofChange fnExactValidGrantsSpec)

/-- ITS FALSE NEIGHBOUR: 'it returns false'. Refute it at one input. -/
def fnExactValidGrantsWrong : ChangeSpec := { name := "fnExactValidGrants", fn := fun _ => fun
  | [d] => { results := [.lit (.bool false)], args := [d] }
  | _ => none }
def FnExactValidGrantsWrongFalsely : Prop := fnExactValidGrantsRow.holds Try.pinned (OpenSpec.ofChange fnExactValidGrantsWrong)

/-- 'laws.FnExactRightAt': WHATEVER THE INPUT: true; the input reads as it did. -/
def fnExactRightAtSpec : ChangeSpec := { name := "fnExactRightAt", fn := fun _ => fun
  | [d1, d2, d3] => { results := [.lit (.bool true)], args := [d1, d2, d3] }
  | _ => none }
def fnExactRightAtRow : OpenClaim := { program := "ytojgihheepdgdaa", sum := "2ebf1cd04ca9ecf689b5b6f92acae5bff798dc9b901774ef539e42a060546c54", func := "loop.example/collabdoc/laws.FnExactRightAt", spec := "fnExactRightAt", apart := false }
def FnExactRightAtSaid : Prop := fnExactRightAtRow.holds Try.pinned (OpenSpec.ofChange fnExactRightAtSpec)

/-- ITS FALSE NEIGHBOUR: 'it returns false'. Refute it at one input. -/
def fnExactRightAtWrong : ChangeSpec := { name := "fnExactRightAt", fn := fun _ => fun
  | [d1, d2, d3] => { results := [.lit (.bool false)], args := [d1, d2, d3] }
  | _ => none }
def FnExactRightAtWrongFalsely : Prop := fnExactRightAtRow.holds Try.pinned (OpenSpec.ofChange fnExactRightAtWrong)

/-- 'laws.FnGrantMerge': WHATEVER THE INPUT: true; the input reads as it did. -/
def fnGrantMergeSpec : ChangeSpec := { name := "fnGrantMerge", fn := fun _ => fun
  | [d] => { results := [.lit (.bool true)], args := [d] }
  | _ => none }
def fnGrantMergeRow : OpenClaim := { program := "ytojgihheepdgdaa", sum := "2ebf1cd04ca9ecf689b5b6f92acae5bff798dc9b901774ef539e42a060546c54", func := "loop.example/collabdoc/laws.FnGrantMerge", spec := "fnGrantMerge", apart := false }
def FnGrantMergeSaid : Prop := fnGrantMergeRow.holds Try.pinned (OpenSpec.ofChange fnGrantMergeSpec)

/-- ITS FALSE NEIGHBOUR: 'it returns false'. Refute it at one input. -/
def fnGrantMergeWrong : ChangeSpec := { name := "fnGrantMerge", fn := fun _ => fun
  | [d] => { results := [.lit (.bool false)], args := [d] }
  | _ => none }
def FnGrantMergeWrongFalsely : Prop := fnGrantMergeRow.holds Try.pinned (OpenSpec.ofChange fnGrantMergeWrong)

/-- 'laws.FnGrantOrder': WHATEVER THE INPUT: true; the input reads as it did. -/
def fnGrantOrderSpec : ChangeSpec := { name := "fnGrantOrder", fn := fun _ => fun
  | [d] => { results := [.lit (.bool true)], args := [d] }
  | _ => none }
def fnGrantOrderRow : OpenClaim := { program := "ytojgihheepdgdaa", sum := "2ebf1cd04ca9ecf689b5b6f92acae5bff798dc9b901774ef539e42a060546c54", func := "loop.example/collabdoc/laws.FnGrantOrder", spec := "fnGrantOrder", apart := false }
def FnGrantOrderSaid : Prop := fnGrantOrderRow.holds Try.pinned (OpenSpec.ofChange fnGrantOrderSpec)

/-- ITS FALSE NEIGHBOUR: 'it returns false'. Refute it at one input. -/
def fnGrantOrderWrong : ChangeSpec := { name := "fnGrantOrder", fn := fun _ => fun
  | [d] => { results := [.lit (.bool false)], args := [d] }
  | _ => none }
def FnGrantOrderWrongFalsely : Prop := fnGrantOrderRow.holds Try.pinned (OpenSpec.ofChange fnGrantOrderWrong)

/-- 'laws.FnOwner': WHATEVER THE INPUT: true; the input reads as it did. -/
def fnOwnerSpec : ChangeSpec := { name := "fnOwner", fn := fun _ => fun
  | [d] => { results := [.lit (.bool true)], args := [d] }
  | _ => none }
def fnOwnerRow : OpenClaim := { program := "ytojgihheepdgdaa", sum := "2ebf1cd04ca9ecf689b5b6f92acae5bff798dc9b901774ef539e42a060546c54", func := "loop.example/collabdoc/laws.FnOwner", spec := "fnOwner", apart := false }
def FnOwnerSaid : Prop := fnOwnerRow.holds Try.pinned (OpenSpec.ofChange fnOwnerSpec)

/-- ITS FALSE NEIGHBOUR: 'it returns false'. Refute it at one input. -/
def fnOwnerWrong : ChangeSpec := { name := "fnOwner", fn := fun _ => fun
  | [d] => { results := [.lit (.bool false)], args := [d] }
  | _ => none }
def FnOwnerWrongFalsely : Prop := fnOwnerRow.holds Try.pinned (OpenSpec.ofChange fnOwnerWrong)

/-- 'laws.FnExactGrantMerge': WHATEVER THE INPUT: true; the input reads as it did. -/
def fnExactGrantMergeSpec : ChangeSpec := { name := "fnExactGrantMerge", fn := fun _ => fun
  | [d1, d2] => { results := [.lit (.bool true)], args := [d1, d2] }
  | _ => none }
def fnExactGrantMergeRow : OpenClaim := { program := "ytojgihheepdgdaa", sum := "2ebf1cd04ca9ecf689b5b6f92acae5bff798dc9b901774ef539e42a060546c54", func := "loop.example/collabdoc/laws.FnExactGrantMerge", spec := "fnExactGrantMerge", apart := false }
def FnExactGrantMergeSaid : Prop := fnExactGrantMergeRow.holds Try.pinned (OpenSpec.ofChange fnExactGrantMergeSpec)

/-- ITS FALSE NEIGHBOUR: 'it returns false'. Refute it at one input. -/
def fnExactGrantMergeWrong : ChangeSpec := { name := "fnExactGrantMerge", fn := fun _ => fun
  | [d1, d2] => { results := [.lit (.bool false)], args := [d1, d2] }
  | _ => none }
def FnExactGrantMergeWrongFalsely : Prop := fnExactGrantMergeRow.holds Try.pinned (OpenSpec.ofChange fnExactGrantMergeWrong)

/-- 'laws.FnEffectiveGrants': WHATEVER THE INPUT: true; the input reads as it did. -/
def fnEffectiveGrantsSpec : ChangeSpec := { name := "fnEffectiveGrants", fn := fun _ => fun
  | [d] => { results := [.lit (.bool true)], args := [d] }
  | _ => none }
def fnEffectiveGrantsRow : OpenClaim := { program := "ytojgihheepdgdaa", sum := "2ebf1cd04ca9ecf689b5b6f92acae5bff798dc9b901774ef539e42a060546c54", func := "loop.example/collabdoc/laws.FnEffectiveGrants", spec := "fnEffectiveGrants", apart := false }
def FnEffectiveGrantsSaid : Prop := fnEffectiveGrantsRow.holds Try.pinned (OpenSpec.ofChange fnEffectiveGrantsSpec)

/-- ITS FALSE NEIGHBOUR: 'it returns false'. Refute it at one input. -/
def fnEffectiveGrantsWrong : ChangeSpec := { name := "fnEffectiveGrants", fn := fun _ => fun
  | [d] => { results := [.lit (.bool false)], args := [d] }
  | _ => none }
def FnEffectiveGrantsWrongFalsely : Prop := fnEffectiveGrantsRow.holds Try.pinned (OpenSpec.ofChange fnEffectiveGrantsWrong)

/-- 'laws.FnRightAt': WHATEVER THE INPUT: true; the input reads as it did. -/
def fnRightAtSpec : ChangeSpec := { name := "fnRightAt", fn := fun _ => fun
  | [d] => { results := [.lit (.bool true)], args := [d] }
  | _ => none }
def fnRightAtRow : OpenClaim := { program := "ytojgihheepdgdaa", sum := "2ebf1cd04ca9ecf689b5b6f92acae5bff798dc9b901774ef539e42a060546c54", func := "loop.example/collabdoc/laws.FnRightAt", spec := "fnRightAt", apart := false }
def FnRightAtSaid : Prop := fnRightAtRow.holds Try.pinned (OpenSpec.ofChange fnRightAtSpec)

/-- ITS FALSE NEIGHBOUR: 'it returns false'. Refute it at one input. -/
def fnRightAtWrong : ChangeSpec := { name := "fnRightAt", fn := fun _ => fun
  | [d] => { results := [.lit (.bool false)], args := [d] }
  | _ => none }
def FnRightAtWrongFalsely : Prop := fnRightAtRow.holds Try.pinned (OpenSpec.ofChange fnRightAtWrong)

/-- 'laws.FnExactEffectiveGrants': WHATEVER THE INPUT: true; the input reads as it did. -/
def fnExactEffectiveGrantsSpec : ChangeSpec := { name := "fnExactEffectiveGrants", fn := fun _ => fun
  | [d] => { results := [.lit (.bool true)], args := [d] }
  | _ => none }
def fnExactEffectiveGrantsRow : OpenClaim := { program := "ytojgihheepdgdaa", sum := "2ebf1cd04ca9ecf689b5b6f92acae5bff798dc9b901774ef539e42a060546c54", func := "loop.example/collabdoc/laws.FnExactEffectiveGrants", spec := "fnExactEffectiveGrants", apart := false }
def FnExactEffectiveGrantsSaid : Prop := fnExactEffectiveGrantsRow.holds Try.pinned (OpenSpec.ofChange fnExactEffectiveGrantsSpec)

/-- ITS FALSE NEIGHBOUR: 'it returns false'. Refute it at one input. -/
def fnExactEffectiveGrantsWrong : ChangeSpec := { name := "fnExactEffectiveGrants", fn := fun _ => fun
  | [d] => { results := [.lit (.bool false)], args := [d] }
  | _ => none }
def FnExactEffectiveGrantsWrongFalsely : Prop := fnExactEffectiveGrantsRow.holds Try.pinned (OpenSpec.ofChange fnExactEffectiveGrantsWrong)

/-- 'laws.FnExactSameHistory': WHATEVER THE INPUT: true; the input reads as it did. -/
def fnExactSameHistorySpec : ChangeSpec := { name := "fnExactSameHistory", fn := fun _ => fun
  | [d1, d2] => { results := [.lit (.bool true)], args := [d1, d2] }
  | _ => none }
def fnExactSameHistoryRow : OpenClaim := { program := "ytojgihheepdgdaa", sum := "2ebf1cd04ca9ecf689b5b6f92acae5bff798dc9b901774ef539e42a060546c54", func := "loop.example/collabdoc/laws.FnExactSameHistory", spec := "fnExactSameHistory", unfollowed := true, recurses := true, apart := false }
def FnExactSameHistorySaid : Prop := fnExactSameHistoryRow.holds Try.pinned (OpenSpec.ofChange fnExactSameHistorySpec)

/-- ITS FALSE NEIGHBOUR: 'it returns false'. Refute it at one input. -/
def fnExactSameHistoryWrong : ChangeSpec := { name := "fnExactSameHistory", fn := fun _ => fun
  | [d1, d2] => { results := [.lit (.bool false)], args := [d1, d2] }
  | _ => none }
def FnExactSameHistoryWrongFalsely : Prop := fnExactSameHistoryRow.holds Try.pinned (OpenSpec.ofChange fnExactSameHistoryWrong)

/-- 'laws.FnExactLogContains': WHATEVER THE INPUT: true; the input reads as it did. -/
def fnExactLogContainsSpec : ChangeSpec := { name := "fnExactLogContains", fn := fun _ => fun
  | [d1, d2] => { results := [.lit (.bool true)], args := [d1, d2] }
  | _ => none }
def fnExactLogContainsRow : OpenClaim := { program := "ytojgihheepdgdaa", sum := "2ebf1cd04ca9ecf689b5b6f92acae5bff798dc9b901774ef539e42a060546c54", func := "loop.example/collabdoc/laws.FnExactLogContains", spec := "fnExactLogContains", unfollowed := true, recurses := true, apart := false }
def FnExactLogContainsSaid : Prop := fnExactLogContainsRow.holds Try.pinned (OpenSpec.ofChange fnExactLogContainsSpec)

/-- ITS FALSE NEIGHBOUR: 'it returns false'. Refute it at one input. -/
def fnExactLogContainsWrong : ChangeSpec := { name := "fnExactLogContains", fn := fun _ => fun
  | [d1, d2] => { results := [.lit (.bool false)], args := [d1, d2] }
  | _ => none }
def FnExactLogContainsWrongFalsely : Prop := fnExactLogContainsRow.holds Try.pinned (OpenSpec.ofChange fnExactLogContainsWrong)

/-- 'laws.FnExactSpanOps': WHATEVER THE INPUT: true; the input reads as it did. -/
def fnExactSpanOpsSpec : ChangeSpec := { name := "fnExactSpanOps", fn := fun _ => fun
  | [d1, d2] => { results := [.lit (.bool true)], args := [d1, d2] }
  | _ => none }
def fnExactSpanOpsRow : OpenClaim := { program := "ytojgihheepdgdaa", sum := "2ebf1cd04ca9ecf689b5b6f92acae5bff798dc9b901774ef539e42a060546c54", func := "loop.example/collabdoc/laws.FnExactSpanOps", spec := "fnExactSpanOps", unfollowed := true, recurses := true, apart := false }
def FnExactSpanOpsSaid : Prop := fnExactSpanOpsRow.holds Try.pinned (OpenSpec.ofChange fnExactSpanOpsSpec)

/-- ITS FALSE NEIGHBOUR: 'it returns false'. Refute it at one input. -/
def fnExactSpanOpsWrong : ChangeSpec := { name := "fnExactSpanOps", fn := fun _ => fun
  | [d1, d2] => { results := [.lit (.bool false)], args := [d1, d2] }
  | _ => none }
def FnExactSpanOpsWrongFalsely : Prop := fnExactSpanOpsRow.holds Try.pinned (OpenSpec.ofChange fnExactSpanOpsWrong)

/- THE SECOND FORM. 'bulk': how many values and letters a reading holds, each counted each time it is reached (what is shared counts as often as it is met; a slice's spare places count too). A statement '..UptoSaid' is the law's where the arguments, and the package variables that the reading takes, are together of bulk at most 1048576: NARROWER than '..Said'. Prove '..Said' where nothing that the law and all that it calls make is longer than what came in: it says more and counts as full. Else prove '..UptoSaid'. A law counts once. -/
mutual
def uptoBulk {H : Type} : DataW H → Nat
  | .lit (.string bytes) => bytes.length + 1
  | .lit _ => 1
  | .nil => 1
  | .ptr d => uptoBulk d + 1
  | .slice elems spare => uptoBulkAll elems + uptoBulkAll spare + 1
  | .agg parts => uptoBulkAll parts + 1
  | .iface _ d => uptoBulk d + 1
  | .map entries => uptoBulkEntries entries + 1
  | .held _ => 1
def uptoBulkAll {H : Type} : List (DataW H) → Nat
  | [] => 0
  | d :: r => uptoBulk d + uptoBulkAll r
def uptoBulkEntries {H : Type} : List (Lit × DataW H) → Nat
  | [] => 0
  | x :: r => uptoBulkEntry x + uptoBulkEntries r
def uptoBulkEntry {H : Type} : Lit × DataW H → Nat
  | (.string bytes, d) => bytes.length + uptoBulk d + 1
  | (_, d) => uptoBulk d + 1
 end
def uptoSmall : (H : Type) → List (DataW H) → Bool := fun _ ds => decide (uptoBulkAll ds ≤ 1048576)
def OpenSpec.upto (s : _root_.Go.ChangeSpec) : _root_.Go.OpenSpec := { _root_.Go.OpenSpec.ofChange s with cond := some uptoSmall }

/-- 'laws.FnExactValidGrants', WHERE WHAT IT READS IS OF BULK AT MOST 1048576: true; the input reads as it did. -/
def fnExactValidGrantsUptoRow : OpenClaim := { program := "ytojgihheepdgdaa", sum := "2ebf1cd04ca9ecf689b5b6f92acae5bff798dc9b901774ef539e42a060546c54", func := "loop.example/collabdoc/laws.FnExactValidGrants", spec := "fnExactValidGrants", apart := false, narrowed := true }
def FnExactValidGrantsUptoSaid : Prop := fnExactValidGrantsUptoRow.holds Try.pinned (OpenSpec.upto fnExactValidGrantsSpec)

/-- 'laws.FnExactRightAt', WHERE WHAT IT READS IS OF BULK AT MOST 1048576: true; the input reads as it did. -/
def fnExactRightAtUptoRow : OpenClaim := { program := "ytojgihheepdgdaa", sum := "2ebf1cd04ca9ecf689b5b6f92acae5bff798dc9b901774ef539e42a060546c54", func := "loop.example/collabdoc/laws.FnExactRightAt", spec := "fnExactRightAt", apart := false, narrowed := true }
def FnExactRightAtUptoSaid : Prop := fnExactRightAtUptoRow.holds Try.pinned (OpenSpec.upto fnExactRightAtSpec)

/-- 'laws.FnGrantMerge', WHERE WHAT IT READS IS OF BULK AT MOST 1048576: true; the input reads as it did. -/
def fnGrantMergeUptoRow : OpenClaim := { program := "ytojgihheepdgdaa", sum := "2ebf1cd04ca9ecf689b5b6f92acae5bff798dc9b901774ef539e42a060546c54", func := "loop.example/collabdoc/laws.FnGrantMerge", spec := "fnGrantMerge", apart := false, narrowed := true }
def FnGrantMergeUptoSaid : Prop := fnGrantMergeUptoRow.holds Try.pinned (OpenSpec.upto fnGrantMergeSpec)

/-- 'laws.FnGrantOrder', WHERE WHAT IT READS IS OF BULK AT MOST 1048576: true; the input reads as it did. -/
def fnGrantOrderUptoRow : OpenClaim := { program := "ytojgihheepdgdaa", sum := "2ebf1cd04ca9ecf689b5b6f92acae5bff798dc9b901774ef539e42a060546c54", func := "loop.example/collabdoc/laws.FnGrantOrder", spec := "fnGrantOrder", apart := false, narrowed := true }
def FnGrantOrderUptoSaid : Prop := fnGrantOrderUptoRow.holds Try.pinned (OpenSpec.upto fnGrantOrderSpec)

/-- 'laws.FnOwner', WHERE WHAT IT READS IS OF BULK AT MOST 1048576: true; the input reads as it did. -/
def fnOwnerUptoRow : OpenClaim := { program := "ytojgihheepdgdaa", sum := "2ebf1cd04ca9ecf689b5b6f92acae5bff798dc9b901774ef539e42a060546c54", func := "loop.example/collabdoc/laws.FnOwner", spec := "fnOwner", apart := false, narrowed := true }
def FnOwnerUptoSaid : Prop := fnOwnerUptoRow.holds Try.pinned (OpenSpec.upto fnOwnerSpec)

/-- 'laws.FnExactGrantMerge', WHERE WHAT IT READS IS OF BULK AT MOST 1048576: true; the input reads as it did. -/
def fnExactGrantMergeUptoRow : OpenClaim := { program := "ytojgihheepdgdaa", sum := "2ebf1cd04ca9ecf689b5b6f92acae5bff798dc9b901774ef539e42a060546c54", func := "loop.example/collabdoc/laws.FnExactGrantMerge", spec := "fnExactGrantMerge", apart := false, narrowed := true }
def FnExactGrantMergeUptoSaid : Prop := fnExactGrantMergeUptoRow.holds Try.pinned (OpenSpec.upto fnExactGrantMergeSpec)

/-- 'laws.FnEffectiveGrants', WHERE WHAT IT READS IS OF BULK AT MOST 1048576: true; the input reads as it did. -/
def fnEffectiveGrantsUptoRow : OpenClaim := { program := "ytojgihheepdgdaa", sum := "2ebf1cd04ca9ecf689b5b6f92acae5bff798dc9b901774ef539e42a060546c54", func := "loop.example/collabdoc/laws.FnEffectiveGrants", spec := "fnEffectiveGrants", apart := false, narrowed := true }
def FnEffectiveGrantsUptoSaid : Prop := fnEffectiveGrantsUptoRow.holds Try.pinned (OpenSpec.upto fnEffectiveGrantsSpec)

/-- 'laws.FnRightAt', WHERE WHAT IT READS IS OF BULK AT MOST 1048576: true; the input reads as it did. -/
def fnRightAtUptoRow : OpenClaim := { program := "ytojgihheepdgdaa", sum := "2ebf1cd04ca9ecf689b5b6f92acae5bff798dc9b901774ef539e42a060546c54", func := "loop.example/collabdoc/laws.FnRightAt", spec := "fnRightAt", apart := false, narrowed := true }
def FnRightAtUptoSaid : Prop := fnRightAtUptoRow.holds Try.pinned (OpenSpec.upto fnRightAtSpec)

/-- 'laws.FnExactEffectiveGrants', WHERE WHAT IT READS IS OF BULK AT MOST 1048576: true; the input reads as it did. -/
def fnExactEffectiveGrantsUptoRow : OpenClaim := { program := "ytojgihheepdgdaa", sum := "2ebf1cd04ca9ecf689b5b6f92acae5bff798dc9b901774ef539e42a060546c54", func := "loop.example/collabdoc/laws.FnExactEffectiveGrants", spec := "fnExactEffectiveGrants", apart := false, narrowed := true }
def FnExactEffectiveGrantsUptoSaid : Prop := fnExactEffectiveGrantsUptoRow.holds Try.pinned (OpenSpec.upto fnExactEffectiveGrantsSpec)

/-- 'laws.FnExactSameHistory', WHERE WHAT IT READS IS OF BULK AT MOST 1048576: true; the input reads as it did. -/
def fnExactSameHistoryUptoRow : OpenClaim := { program := "ytojgihheepdgdaa", sum := "2ebf1cd04ca9ecf689b5b6f92acae5bff798dc9b901774ef539e42a060546c54", func := "loop.example/collabdoc/laws.FnExactSameHistory", spec := "fnExactSameHistory", unfollowed := true, recurses := true, apart := false, narrowed := true }
def FnExactSameHistoryUptoSaid : Prop := fnExactSameHistoryUptoRow.holds Try.pinned (OpenSpec.upto fnExactSameHistorySpec)

/-- 'laws.FnExactLogContains', WHERE WHAT IT READS IS OF BULK AT MOST 1048576: true; the input reads as it did. -/
def fnExactLogContainsUptoRow : OpenClaim := { program := "ytojgihheepdgdaa", sum := "2ebf1cd04ca9ecf689b5b6f92acae5bff798dc9b901774ef539e42a060546c54", func := "loop.example/collabdoc/laws.FnExactLogContains", spec := "fnExactLogContains", unfollowed := true, recurses := true, apart := false, narrowed := true }
def FnExactLogContainsUptoSaid : Prop := fnExactLogContainsUptoRow.holds Try.pinned (OpenSpec.upto fnExactLogContainsSpec)

/-- 'laws.FnExactSpanOps', WHERE WHAT IT READS IS OF BULK AT MOST 1048576: true; the input reads as it did. -/
def fnExactSpanOpsUptoRow : OpenClaim := { program := "ytojgihheepdgdaa", sum := "2ebf1cd04ca9ecf689b5b6f92acae5bff798dc9b901774ef539e42a060546c54", func := "loop.example/collabdoc/laws.FnExactSpanOps", spec := "fnExactSpanOps", unfollowed := true, recurses := true, apart := false, narrowed := true }
def FnExactSpanOpsUptoSaid : Prop := fnExactSpanOpsUptoRow.holds Try.pinned (OpenSpec.upto fnExactSpanOpsSpec)

end Rows
end Go.Proofs.Ytojgihheepdgdaa
