/-
  No cell of these rows narrows 'for every input' (looked for: loops, veiled, ifaces, maps, wideKeys, modest, calm, conditions, laid).
  DERIVED. THE GIVEN ROWS OF THIS SEAT. 17 by the template 'for every input the law returns true; each argument reads behind the call as it read before'; 0 by the template 'total and deterministic' (their statements: YtnninkdaolhobaaTotals.lean).
  GIVEN WITH THE SEED: the statements are not yours to turn. If you find one false, say at which input.
  Laid BY PROGRAM, IN A SANDBOX (cutbox-rows.mjs): the forced cells as the released guide's own fill.sh prints them over the translation bbc3f86629baab2d… (all of the seat's roots in one cut). By AI agents, Wed Nov 11 2026. No macro, syntax, notation, axiom, sorry.
-/
import Derived.Test.YtnninkdaolhobaaChecked
import GoSem.Claim
import GoSem.ClaimJoined
import GoSem.ClaimMapViews
import Derived.JoinedTies
import Derived.KernelRfl
namespace Go.Proofs.Ytnninkdaolhobaa
/- THE CELL 'sum', in the pinned program and in every row, IS THE sha256 OF THE DUMP (.gsa) THAT YtnninkdaolhobaaProg.lean LOADS. Nothing in Lean hashes anything: it is a label: what it is worth is what the hold of that sum in a sandbox is worth. -/
noncomputable def Try.pinned : Pinned := { name := "ytnninkdaolhobaa", sum := "bbc3f86629baab2d6280e581180c373279d8b379132508975c764de4578f2094", checked := Try.checked }
namespace Rows
def none {H : Type} : Left H := { results := [], args := [] }

/-- 'laws.FnExactFixedStart': WHATEVER THE INPUT: true; the input reads as it did. -/
def fnExactFixedStartSpec : ChangeSpec := { name := "fnExactFixedStart", fn := fun _ => fun
  | [d1, d2, d3] => { results := [.lit (.bool true)], args := [d1, d2, d3] }
  | _ => none }
def fnExactFixedStartRow : OpenClaim := { program := "ytnninkdaolhobaa", sum := "bbc3f86629baab2d6280e581180c373279d8b379132508975c764de4578f2094", func := "loop.example/g03103/laws.FnExactFixedStart", spec := "fnExactFixedStart", apart := false }
def FnExactFixedStartSaid : Prop := fnExactFixedStartRow.holds Try.pinned (OpenSpec.ofChange fnExactFixedStartSpec)

/-- ITS FALSE NEIGHBOUR: 'it returns false'. Refute it at one input. -/
def fnExactFixedStartWrong : ChangeSpec := { name := "fnExactFixedStart", fn := fun _ => fun
  | [d1, d2, d3] => { results := [.lit (.bool false)], args := [d1, d2, d3] }
  | _ => none }
def FnExactFixedStartWrongFalsely : Prop := fnExactFixedStartRow.holds Try.pinned (OpenSpec.ofChange fnExactFixedStartWrong)

/-- 'laws.FnExactReplace': WHATEVER THE INPUT: true; the input reads as it did. -/
def fnExactReplaceSpec : ChangeSpec := { name := "fnExactReplace", fn := fun _ => fun
  | [d1, d2] => { results := [.lit (.bool true)], args := [d1, d2] }
  | _ => none }
def fnExactReplaceRow : OpenClaim := { program := "ytnninkdaolhobaa", sum := "bbc3f86629baab2d6280e581180c373279d8b379132508975c764de4578f2094", func := "loop.example/g03103/laws.FnExactReplace", spec := "fnExactReplace", apart := false }
def FnExactReplaceSaid : Prop := fnExactReplaceRow.holds Try.pinned (OpenSpec.ofChange fnExactReplaceSpec)

/-- ITS FALSE NEIGHBOUR: 'it returns false'. Refute it at one input. -/
def fnExactReplaceWrong : ChangeSpec := { name := "fnExactReplace", fn := fun _ => fun
  | [d1, d2] => { results := [.lit (.bool false)], args := [d1, d2] }
  | _ => none }
def FnExactReplaceWrongFalsely : Prop := fnExactReplaceRow.holds Try.pinned (OpenSpec.ofChange fnExactReplaceWrong)

/-- 'laws.FnExactReplaceTimes': WHATEVER THE INPUT: true; the input reads as it did. -/
def fnExactReplaceTimesSpec : ChangeSpec := { name := "fnExactReplaceTimes", fn := fun _ => fun
  | [d1, d2, d3] => { results := [.lit (.bool true)], args := [d1, d2, d3] }
  | _ => none }
def fnExactReplaceTimesRow : OpenClaim := { program := "ytnninkdaolhobaa", sum := "bbc3f86629baab2d6280e581180c373279d8b379132508975c764de4578f2094", func := "loop.example/g03103/laws.FnExactReplaceTimes", spec := "fnExactReplaceTimes", apart := false }
def FnExactReplaceTimesSaid : Prop := fnExactReplaceTimesRow.holds Try.pinned (OpenSpec.ofChange fnExactReplaceTimesSpec)

/-- ITS FALSE NEIGHBOUR: 'it returns false'. Refute it at one input. -/
def fnExactReplaceTimesWrong : ChangeSpec := { name := "fnExactReplaceTimes", fn := fun _ => fun
  | [d1, d2, d3] => { results := [.lit (.bool false)], args := [d1, d2, d3] }
  | _ => none }
def FnExactReplaceTimesWrongFalsely : Prop := fnExactReplaceTimesRow.holds Try.pinned (OpenSpec.ofChange fnExactReplaceTimesWrong)

/-- 'laws.FnExactReturnsTo': WHATEVER THE INPUT: true; the input reads as it did. -/
def fnExactReturnsToSpec : ChangeSpec := { name := "fnExactReturnsTo", fn := fun _ => fun
  | [d1, d2] => { results := [.lit (.bool true)], args := [d1, d2] }
  | _ => none }
def fnExactReturnsToRow : OpenClaim := { program := "ytnninkdaolhobaa", sum := "bbc3f86629baab2d6280e581180c373279d8b379132508975c764de4578f2094", func := "loop.example/g03103/laws.FnExactReturnsTo", spec := "fnExactReturnsTo", apart := false }
def FnExactReturnsToSaid : Prop := fnExactReturnsToRow.holds Try.pinned (OpenSpec.ofChange fnExactReturnsToSpec)

/-- ITS FALSE NEIGHBOUR: 'it returns false'. Refute it at one input. -/
def fnExactReturnsToWrong : ChangeSpec := { name := "fnExactReturnsTo", fn := fun _ => fun
  | [d1, d2] => { results := [.lit (.bool false)], args := [d1, d2] }
  | _ => none }
def FnExactReturnsToWrongFalsely : Prop := fnExactReturnsToRow.holds Try.pinned (OpenSpec.ofChange fnExactReturnsToWrong)

/-- 'laws.FnExactExampleLabels': WHATEVER THE INPUT: true; the input reads as it did. -/
def fnExactExampleLabelsSpec : ChangeSpec := { name := "fnExactExampleLabels", fn := fun _ => fun
  | [d] => { results := [.lit (.bool true)], args := [d] }
  | _ => none }
def fnExactExampleLabelsRow : OpenClaim := { program := "ytnninkdaolhobaa", sum := "bbc3f86629baab2d6280e581180c373279d8b379132508975c764de4578f2094", func := "loop.example/g03103/laws.FnExactExampleLabels", spec := "fnExactExampleLabels", apart := false }
def FnExactExampleLabelsSaid : Prop := fnExactExampleLabelsRow.holds Try.pinned (OpenSpec.ofChange fnExactExampleLabelsSpec)

/-- ITS FALSE NEIGHBOUR: 'it returns false'. Refute it at one input. -/
def fnExactExampleLabelsWrong : ChangeSpec := { name := "fnExactExampleLabels", fn := fun _ => fun
  | [d] => { results := [.lit (.bool false)], args := [d] }
  | _ => none }
def FnExactExampleLabelsWrongFalsely : Prop := fnExactExampleLabelsRow.holds Try.pinned (OpenSpec.ofChange fnExactExampleLabelsWrong)

/-- 'laws.FnExactWordsText': WHATEVER THE INPUT: true; the input reads as it did. -/
def fnExactWordsTextSpec : ChangeSpec := { name := "fnExactWordsText", fn := fun _ => fun
  | [d] => { results := [.lit (.bool true)], args := [d] }
  | _ => none }
def fnExactWordsTextRow : OpenClaim := { program := "ytnninkdaolhobaa", sum := "bbc3f86629baab2d6280e581180c373279d8b379132508975c764de4578f2094", func := "loop.example/g03103/laws.FnExactWordsText", spec := "fnExactWordsText", inPlace := ["internal/abi.NoEscape", "internal/bytealg.MakeNoZero"], apart := false }
def FnExactWordsTextSaid : Prop := fnExactWordsTextRow.holds Try.pinned (OpenSpec.ofChange fnExactWordsTextSpec)

/-- ITS FALSE NEIGHBOUR: 'it returns false'. Refute it at one input. -/
def fnExactWordsTextWrong : ChangeSpec := { name := "fnExactWordsText", fn := fun _ => fun
  | [d] => { results := [.lit (.bool false)], args := [d] }
  | _ => none }
def FnExactWordsTextWrongFalsely : Prop := fnExactWordsTextRow.holds Try.pinned (OpenSpec.ofChange fnExactWordsTextWrong)

/-- 'laws.FnExactExchangeCode': WHATEVER THE INPUT: true; the input reads as it did. -/
def fnExactExchangeCodeSpec : ChangeSpec := { name := "fnExactExchangeCode", fn := fun _ => fun
  | [d] => { results := [.lit (.bool true)], args := [d] }
  | _ => none }
def fnExactExchangeCodeRow : OpenClaim := { program := "ytnninkdaolhobaa", sum := "bbc3f86629baab2d6280e581180c373279d8b379132508975c764de4578f2094", func := "loop.example/g03103/laws.FnExactExchangeCode", spec := "fnExactExchangeCode", unfollowed := true, recurses := true, apart := false }
def FnExactExchangeCodeSaid : Prop := fnExactExchangeCodeRow.holds Try.pinned (OpenSpec.ofChange fnExactExchangeCodeSpec)

/-- ITS FALSE NEIGHBOUR: 'it returns false'. Refute it at one input. -/
def fnExactExchangeCodeWrong : ChangeSpec := { name := "fnExactExchangeCode", fn := fun _ => fun
  | [d] => { results := [.lit (.bool false)], args := [d] }
  | _ => none }
def FnExactExchangeCodeWrongFalsely : Prop := fnExactExchangeCodeRow.holds Try.pinned (OpenSpec.ofChange fnExactExchangeCodeWrong)

/-- 'laws.FnExactMirrorCode': WHATEVER THE INPUT: true; the input reads as it did. -/
def fnExactMirrorCodeSpec : ChangeSpec := { name := "fnExactMirrorCode", fn := fun _ => fun
  | [d] => { results := [.lit (.bool true)], args := [d] }
  | _ => none }
def fnExactMirrorCodeRow : OpenClaim := { program := "ytnninkdaolhobaa", sum := "bbc3f86629baab2d6280e581180c373279d8b379132508975c764de4578f2094", func := "loop.example/g03103/laws.FnExactMirrorCode", spec := "fnExactMirrorCode", unfollowed := true, recurses := true, apart := false }
def FnExactMirrorCodeSaid : Prop := fnExactMirrorCodeRow.holds Try.pinned (OpenSpec.ofChange fnExactMirrorCodeSpec)

/-- ITS FALSE NEIGHBOUR: 'it returns false'. Refute it at one input. -/
def fnExactMirrorCodeWrong : ChangeSpec := { name := "fnExactMirrorCode", fn := fun _ => fun
  | [d] => { results := [.lit (.bool false)], args := [d] }
  | _ => none }
def FnExactMirrorCodeWrongFalsely : Prop := fnExactMirrorCodeRow.holds Try.pinned (OpenSpec.ofChange fnExactMirrorCodeWrong)

/-- 'laws.FnExactLengthAfter': WHATEVER THE INPUT: true; the input reads as it did. -/
def fnExactLengthAfterSpec : ChangeSpec := { name := "fnExactLengthAfter", fn := fun _ => fun
  | [d1, d2, d3] => { results := [.lit (.bool true)], args := [d1, d2, d3] }
  | _ => none }
def fnExactLengthAfterRow : OpenClaim := { program := "ytnninkdaolhobaa", sum := "bbc3f86629baab2d6280e581180c373279d8b379132508975c764de4578f2094", func := "loop.example/g03103/laws.FnExactLengthAfter", spec := "fnExactLengthAfter", apart := false }
def FnExactLengthAfterSaid : Prop := fnExactLengthAfterRow.holds Try.pinned (OpenSpec.ofChange fnExactLengthAfterSpec)

/-- ITS FALSE NEIGHBOUR: 'it returns false'. Refute it at one input. -/
def fnExactLengthAfterWrong : ChangeSpec := { name := "fnExactLengthAfter", fn := fun _ => fun
  | [d1, d2, d3] => { results := [.lit (.bool false)], args := [d1, d2, d3] }
  | _ => none }
def FnExactLengthAfterWrongFalsely : Prop := fnExactLengthAfterRow.holds Try.pinned (OpenSpec.ofChange fnExactLengthAfterWrong)

/-- 'laws.FnExactCountTable': WHATEVER THE INPUT: true; the input reads as it did. -/
def fnExactCountTableSpec : ChangeSpec := { name := "fnExactCountTable", fn := fun _ => fun
  | [d] => { results := [.lit (.bool true)], args := [d] }
  | _ => none }
def fnExactCountTableRow : OpenClaim := { program := "ytnninkdaolhobaa", sum := "bbc3f86629baab2d6280e581180c373279d8b379132508975c764de4578f2094", func := "loop.example/g03103/laws.FnExactCountTable", spec := "fnExactCountTable", apart := false }
def FnExactCountTableSaid : Prop := fnExactCountTableRow.holds Try.pinned (OpenSpec.ofChange fnExactCountTableSpec)

/-- ITS FALSE NEIGHBOUR: 'it returns false'. Refute it at one input. -/
def fnExactCountTableWrong : ChangeSpec := { name := "fnExactCountTable", fn := fun _ => fun
  | [d] => { results := [.lit (.bool false)], args := [d] }
  | _ => none }
def FnExactCountTableWrongFalsely : Prop := fnExactCountTableRow.holds Try.pinned (OpenSpec.ofChange fnExactCountTableWrong)

/-- 'laws.FnExactLetterCounts': WHATEVER THE INPUT: true; the input reads as it did. -/
def fnExactLetterCountsSpec : ChangeSpec := { name := "fnExactLetterCounts", fn := fun _ => fun
  | [d] => { results := [.lit (.bool true)], args := [d] }
  | _ => none }
def fnExactLetterCountsRow : OpenClaim := { program := "ytnninkdaolhobaa", sum := "bbc3f86629baab2d6280e581180c373279d8b379132508975c764de4578f2094", func := "loop.example/g03103/laws.FnExactLetterCounts", spec := "fnExactLetterCounts", inPlace := ["internal/bytealg.CountString", "internal/bytealg.IndexByteString", "internal/bytealg.IndexString"], named := ["internal/bytealg.MaxLen"], apart := false }
def FnExactLetterCountsSaid : Prop := fnExactLetterCountsRow.holds Try.pinned (OpenSpec.ofChange fnExactLetterCountsSpec)

/-- ITS FALSE NEIGHBOUR: 'it returns false'. Refute it at one input. -/
def fnExactLetterCountsWrong : ChangeSpec := { name := "fnExactLetterCounts", fn := fun _ => fun
  | [d] => { results := [.lit (.bool false)], args := [d] }
  | _ => none }
def FnExactLetterCountsWrongFalsely : Prop := fnExactLetterCountsRow.holds Try.pinned (OpenSpec.ofChange fnExactLetterCountsWrong)

/-- 'laws.FnExactIsBalancedWord': WHATEVER THE INPUT: true; the input reads as it did. -/
def fnExactIsBalancedWordSpec : ChangeSpec := { name := "fnExactIsBalancedWord", fn := fun _ => fun
  | [d] => { results := [.lit (.bool true)], args := [d] }
  | _ => none }
def fnExactIsBalancedWordRow : OpenClaim := { program := "ytnninkdaolhobaa", sum := "bbc3f86629baab2d6280e581180c373279d8b379132508975c764de4578f2094", func := "loop.example/g03103/laws.FnExactIsBalancedWord", spec := "fnExactIsBalancedWord", inPlace := ["internal/bytealg.CountString", "internal/bytealg.IndexByteString", "internal/bytealg.IndexString"], named := ["internal/bytealg.MaxLen"], apart := false }
def FnExactIsBalancedWordSaid : Prop := fnExactIsBalancedWordRow.holds Try.pinned (OpenSpec.ofChange fnExactIsBalancedWordSpec)

/-- ITS FALSE NEIGHBOUR: 'it returns false'. Refute it at one input. -/
def fnExactIsBalancedWordWrong : ChangeSpec := { name := "fnExactIsBalancedWord", fn := fun _ => fun
  | [d] => { results := [.lit (.bool false)], args := [d] }
  | _ => none }
def FnExactIsBalancedWordWrongFalsely : Prop := fnExactIsBalancedWordRow.holds Try.pinned (OpenSpec.ofChange fnExactIsBalancedWordWrong)

/-- 'laws.FnExactEqualSession': WHATEVER THE INPUT: true; the input reads as it did. -/
def fnExactEqualSessionSpec : ChangeSpec := { name := "fnExactEqualSession", fn := fun _ => fun
  | [d1, d2] => { results := [.lit (.bool true)], args := [d1, d2] }
  | _ => none }
def fnExactEqualSessionRow : OpenClaim := { program := "ytnninkdaolhobaa", sum := "bbc3f86629baab2d6280e581180c373279d8b379132508975c764de4578f2094", func := "loop.example/g03103/laws.FnExactEqualSession", spec := "fnExactEqualSession", unfollowed := true, recurses := true, apart := false }
def FnExactEqualSessionSaid : Prop := fnExactEqualSessionRow.holds Try.pinned (OpenSpec.ofChange fnExactEqualSessionSpec)

/-- ITS FALSE NEIGHBOUR: 'it returns false'. Refute it at one input. -/
def fnExactEqualSessionWrong : ChangeSpec := { name := "fnExactEqualSession", fn := fun _ => fun
  | [d1, d2] => { results := [.lit (.bool false)], args := [d1, d2] }
  | _ => none }
def FnExactEqualSessionWrongFalsely : Prop := fnExactEqualSessionRow.holds Try.pinned (OpenSpec.ofChange fnExactEqualSessionWrong)

/-- 'laws.FnExactRingTail': WHATEVER THE INPUT: true; the input reads as it did. -/
def fnExactRingTailSpec : ChangeSpec := { name := "fnExactRingTail", fn := fun _ => fun
  | [d1, d2] => { results := [.lit (.bool true)], args := [d1, d2] }
  | _ => none }
def fnExactRingTailRow : OpenClaim := { program := "ytnninkdaolhobaa", sum := "bbc3f86629baab2d6280e581180c373279d8b379132508975c764de4578f2094", func := "loop.example/g03103/laws.FnExactRingTail", spec := "fnExactRingTail", inPlace := ["internal/abi.NoEscape", "internal/bytealg.MakeNoZero"], apart := false }
def FnExactRingTailSaid : Prop := fnExactRingTailRow.holds Try.pinned (OpenSpec.ofChange fnExactRingTailSpec)

/-- ITS FALSE NEIGHBOUR: 'it returns false'. Refute it at one input. -/
def fnExactRingTailWrong : ChangeSpec := { name := "fnExactRingTail", fn := fun _ => fun
  | [d1, d2] => { results := [.lit (.bool false)], args := [d1, d2] }
  | _ => none }
def FnExactRingTailWrongFalsely : Prop := fnExactRingTailRow.holds Try.pinned (OpenSpec.ofChange fnExactRingTailWrong)

/-- 'laws.FnExactRingAfter': WHATEVER THE INPUT: true; the input reads as it did. -/
def fnExactRingAfterSpec : ChangeSpec := { name := "fnExactRingAfter", fn := fun _ => fun
  | [d1, d2, d3] => { results := [.lit (.bool true)], args := [d1, d2, d3] }
  | _ => none }
def fnExactRingAfterRow : OpenClaim := { program := "ytnninkdaolhobaa", sum := "bbc3f86629baab2d6280e581180c373279d8b379132508975c764de4578f2094", func := "loop.example/g03103/laws.FnExactRingAfter", spec := "fnExactRingAfter", inPlace := ["internal/abi.NoEscape", "internal/bytealg.MakeNoZero"], apart := false }
def FnExactRingAfterSaid : Prop := fnExactRingAfterRow.holds Try.pinned (OpenSpec.ofChange fnExactRingAfterSpec)

/-- ITS FALSE NEIGHBOUR: 'it returns false'. Refute it at one input. -/
def fnExactRingAfterWrong : ChangeSpec := { name := "fnExactRingAfter", fn := fun _ => fun
  | [d1, d2, d3] => { results := [.lit (.bool false)], args := [d1, d2, d3] }
  | _ => none }
def FnExactRingAfterWrongFalsely : Prop := fnExactRingAfterRow.holds Try.pinned (OpenSpec.ofChange fnExactRingAfterWrong)

/-- 'laws.FnExactFixedOnRings': WHATEVER THE INPUT: true; the input reads as it did. -/
def fnExactFixedOnRingsSpec : ChangeSpec := { name := "fnExactFixedOnRings", fn := fun _ => fun
  | [d1, d2] => { results := [.lit (.bool true)], args := [d1, d2] }
  | _ => none }
def fnExactFixedOnRingsRow : OpenClaim := { program := "ytnninkdaolhobaa", sum := "bbc3f86629baab2d6280e581180c373279d8b379132508975c764de4578f2094", func := "loop.example/g03103/laws.FnExactFixedOnRings", spec := "fnExactFixedOnRings", inPlace := ["internal/abi.NoEscape", "internal/bytealg.MakeNoZero"], unfollowed := true, recurses := true, apart := false }
def FnExactFixedOnRingsSaid : Prop := fnExactFixedOnRingsRow.holds Try.pinned (OpenSpec.ofChange fnExactFixedOnRingsSpec)

/-- ITS FALSE NEIGHBOUR: 'it returns false'. Refute it at one input. -/
def fnExactFixedOnRingsWrong : ChangeSpec := { name := "fnExactFixedOnRings", fn := fun _ => fun
  | [d1, d2] => { results := [.lit (.bool false)], args := [d1, d2] }
  | _ => none }
def FnExactFixedOnRingsWrongFalsely : Prop := fnExactFixedOnRingsRow.holds Try.pinned (OpenSpec.ofChange fnExactFixedOnRingsWrong)

/-- 'laws.FnExactCountOnRings': WHATEVER THE INPUT: true; the input reads as it did. -/
def fnExactCountOnRingsSpec : ChangeSpec := { name := "fnExactCountOnRings", fn := fun _ => fun
  | [d1, d2] => { results := [.lit (.bool true)], args := [d1, d2] }
  | _ => none }
def fnExactCountOnRingsRow : OpenClaim := { program := "ytnninkdaolhobaa", sum := "bbc3f86629baab2d6280e581180c373279d8b379132508975c764de4578f2094", func := "loop.example/g03103/laws.FnExactCountOnRings", spec := "fnExactCountOnRings", inPlace := ["internal/abi.NoEscape", "internal/bytealg.MakeNoZero"], apart := false }
def FnExactCountOnRingsSaid : Prop := fnExactCountOnRingsRow.holds Try.pinned (OpenSpec.ofChange fnExactCountOnRingsSpec)

/-- ITS FALSE NEIGHBOUR: 'it returns false'. Refute it at one input. -/
def fnExactCountOnRingsWrong : ChangeSpec := { name := "fnExactCountOnRings", fn := fun _ => fun
  | [d1, d2] => { results := [.lit (.bool false)], args := [d1, d2] }
  | _ => none }
def FnExactCountOnRingsWrongFalsely : Prop := fnExactCountOnRingsRow.holds Try.pinned (OpenSpec.ofChange fnExactCountOnRingsWrong)

/- THE SECOND FORM. 'bulk': how many values and letters a reading holds, each counted each time it is reached (what is shared counts as often as it is met; a slice's spare places count too). A statement '..UptoSaid' is the law's where the arguments, and the package variables that the reading takes, are together of bulk at most 1048576: NARROWER than '..Said'. Prove '..Said' where nothing that the law and all that it calls make is longer than what came in: it says more and counts as full. Else prove '..UptoSaid'. A law counts once. -/
mutual
def uptoBulk {H : Type} : DataW H → Nat
  | .lit (.string bytes) => bytes.length + 1
  | .lit _ => 1
  | .nil => 1
  | .ptr d => uptoBulk d + 1
  | .slice elems spare => uptoBulkAll elems + uptoBulkAll spare + 1
  | .agg parts => uptoBulkAll parts + 1
  | .iface _ d => uptoBulk d + 1
  | .map entries => uptoBulkEntries entries + 1
  | .held _ => 1
def uptoBulkAll {H : Type} : List (DataW H) → Nat
  | [] => 0
  | d :: r => uptoBulk d + uptoBulkAll r
def uptoBulkEntries {H : Type} : List (Lit × DataW H) → Nat
  | [] => 0
  | x :: r => uptoBulkEntry x + uptoBulkEntries r
def uptoBulkEntry {H : Type} : Lit × DataW H → Nat
  | (.string bytes, d) => bytes.length + uptoBulk d + 1
  | (_, d) => uptoBulk d + 1
 end
def uptoSmall : (H : Type) → List (DataW H) → Bool := fun _ ds => decide (uptoBulkAll ds ≤ 1048576)
def OpenSpec.upto (s : _root_.Go.ChangeSpec) : _root_.Go.OpenSpec := { _root_.Go.OpenSpec.ofChange s with cond := some uptoSmall }

/-- 'laws.FnExactFixedStart', WHERE WHAT IT READS IS OF BULK AT MOST 1048576: true; the input reads as it did. -/
def fnExactFixedStartUptoRow : OpenClaim := { program := "ytnninkdaolhobaa", sum := "bbc3f86629baab2d6280e581180c373279d8b379132508975c764de4578f2094", func := "loop.example/g03103/laws.FnExactFixedStart", spec := "fnExactFixedStart", apart := false, narrowed := true }
def FnExactFixedStartUptoSaid : Prop := fnExactFixedStartUptoRow.holds Try.pinned (OpenSpec.upto fnExactFixedStartSpec)

/-- 'laws.FnExactReplace', WHERE WHAT IT READS IS OF BULK AT MOST 1048576: true; the input reads as it did. -/
def fnExactReplaceUptoRow : OpenClaim := { program := "ytnninkdaolhobaa", sum := "bbc3f86629baab2d6280e581180c373279d8b379132508975c764de4578f2094", func := "loop.example/g03103/laws.FnExactReplace", spec := "fnExactReplace", apart := false, narrowed := true }
def FnExactReplaceUptoSaid : Prop := fnExactReplaceUptoRow.holds Try.pinned (OpenSpec.upto fnExactReplaceSpec)

/-- 'laws.FnExactReplaceTimes', WHERE WHAT IT READS IS OF BULK AT MOST 1048576: true; the input reads as it did. -/
def fnExactReplaceTimesUptoRow : OpenClaim := { program := "ytnninkdaolhobaa", sum := "bbc3f86629baab2d6280e581180c373279d8b379132508975c764de4578f2094", func := "loop.example/g03103/laws.FnExactReplaceTimes", spec := "fnExactReplaceTimes", apart := false, narrowed := true }
def FnExactReplaceTimesUptoSaid : Prop := fnExactReplaceTimesUptoRow.holds Try.pinned (OpenSpec.upto fnExactReplaceTimesSpec)

/-- 'laws.FnExactReturnsTo', WHERE WHAT IT READS IS OF BULK AT MOST 1048576: true; the input reads as it did. -/
def fnExactReturnsToUptoRow : OpenClaim := { program := "ytnninkdaolhobaa", sum := "bbc3f86629baab2d6280e581180c373279d8b379132508975c764de4578f2094", func := "loop.example/g03103/laws.FnExactReturnsTo", spec := "fnExactReturnsTo", apart := false, narrowed := true }
def FnExactReturnsToUptoSaid : Prop := fnExactReturnsToUptoRow.holds Try.pinned (OpenSpec.upto fnExactReturnsToSpec)

/-- 'laws.FnExactExampleLabels', WHERE WHAT IT READS IS OF BULK AT MOST 1048576: true; the input reads as it did. -/
def fnExactExampleLabelsUptoRow : OpenClaim := { program := "ytnninkdaolhobaa", sum := "bbc3f86629baab2d6280e581180c373279d8b379132508975c764de4578f2094", func := "loop.example/g03103/laws.FnExactExampleLabels", spec := "fnExactExampleLabels", apart := false, narrowed := true }
def FnExactExampleLabelsUptoSaid : Prop := fnExactExampleLabelsUptoRow.holds Try.pinned (OpenSpec.upto fnExactExampleLabelsSpec)

/-- 'laws.FnExactWordsText', WHERE WHAT IT READS IS OF BULK AT MOST 1048576: true; the input reads as it did. -/
def fnExactWordsTextUptoRow : OpenClaim := { program := "ytnninkdaolhobaa", sum := "bbc3f86629baab2d6280e581180c373279d8b379132508975c764de4578f2094", func := "loop.example/g03103/laws.FnExactWordsText", spec := "fnExactWordsText", inPlace := ["internal/abi.NoEscape", "internal/bytealg.MakeNoZero"], apart := false, narrowed := true }
def FnExactWordsTextUptoSaid : Prop := fnExactWordsTextUptoRow.holds Try.pinned (OpenSpec.upto fnExactWordsTextSpec)

/-- 'laws.FnExactExchangeCode', WHERE WHAT IT READS IS OF BULK AT MOST 1048576: true; the input reads as it did. -/
def fnExactExchangeCodeUptoRow : OpenClaim := { program := "ytnninkdaolhobaa", sum := "bbc3f86629baab2d6280e581180c373279d8b379132508975c764de4578f2094", func := "loop.example/g03103/laws.FnExactExchangeCode", spec := "fnExactExchangeCode", unfollowed := true, recurses := true, apart := false, narrowed := true }
def FnExactExchangeCodeUptoSaid : Prop := fnExactExchangeCodeUptoRow.holds Try.pinned (OpenSpec.upto fnExactExchangeCodeSpec)

/-- 'laws.FnExactMirrorCode', WHERE WHAT IT READS IS OF BULK AT MOST 1048576: true; the input reads as it did. -/
def fnExactMirrorCodeUptoRow : OpenClaim := { program := "ytnninkdaolhobaa", sum := "bbc3f86629baab2d6280e581180c373279d8b379132508975c764de4578f2094", func := "loop.example/g03103/laws.FnExactMirrorCode", spec := "fnExactMirrorCode", unfollowed := true, recurses := true, apart := false, narrowed := true }
def FnExactMirrorCodeUptoSaid : Prop := fnExactMirrorCodeUptoRow.holds Try.pinned (OpenSpec.upto fnExactMirrorCodeSpec)

/-- 'laws.FnExactLengthAfter', WHERE WHAT IT READS IS OF BULK AT MOST 1048576: true; the input reads as it did. -/
def fnExactLengthAfterUptoRow : OpenClaim := { program := "ytnninkdaolhobaa", sum := "bbc3f86629baab2d6280e581180c373279d8b379132508975c764de4578f2094", func := "loop.example/g03103/laws.FnExactLengthAfter", spec := "fnExactLengthAfter", apart := false, narrowed := true }
def FnExactLengthAfterUptoSaid : Prop := fnExactLengthAfterUptoRow.holds Try.pinned (OpenSpec.upto fnExactLengthAfterSpec)

/-- 'laws.FnExactCountTable', WHERE WHAT IT READS IS OF BULK AT MOST 1048576: true; the input reads as it did. -/
def fnExactCountTableUptoRow : OpenClaim := { program := "ytnninkdaolhobaa", sum := "bbc3f86629baab2d6280e581180c373279d8b379132508975c764de4578f2094", func := "loop.example/g03103/laws.FnExactCountTable", spec := "fnExactCountTable", apart := false, narrowed := true }
def FnExactCountTableUptoSaid : Prop := fnExactCountTableUptoRow.holds Try.pinned (OpenSpec.upto fnExactCountTableSpec)

/-- 'laws.FnExactLetterCounts', WHERE WHAT IT READS IS OF BULK AT MOST 1048576: true; the input reads as it did. -/
def fnExactLetterCountsUptoRow : OpenClaim := { program := "ytnninkdaolhobaa", sum := "bbc3f86629baab2d6280e581180c373279d8b379132508975c764de4578f2094", func := "loop.example/g03103/laws.FnExactLetterCounts", spec := "fnExactLetterCounts", inPlace := ["internal/bytealg.CountString", "internal/bytealg.IndexByteString", "internal/bytealg.IndexString"], named := ["internal/bytealg.MaxLen"], apart := false, narrowed := true }
def FnExactLetterCountsUptoSaid : Prop := fnExactLetterCountsUptoRow.holds Try.pinned (OpenSpec.upto fnExactLetterCountsSpec)

/-- 'laws.FnExactIsBalancedWord', WHERE WHAT IT READS IS OF BULK AT MOST 1048576: true; the input reads as it did. -/
def fnExactIsBalancedWordUptoRow : OpenClaim := { program := "ytnninkdaolhobaa", sum := "bbc3f86629baab2d6280e581180c373279d8b379132508975c764de4578f2094", func := "loop.example/g03103/laws.FnExactIsBalancedWord", spec := "fnExactIsBalancedWord", inPlace := ["internal/bytealg.CountString", "internal/bytealg.IndexByteString", "internal/bytealg.IndexString"], named := ["internal/bytealg.MaxLen"], apart := false, narrowed := true }
def FnExactIsBalancedWordUptoSaid : Prop := fnExactIsBalancedWordUptoRow.holds Try.pinned (OpenSpec.upto fnExactIsBalancedWordSpec)

/-- 'laws.FnExactEqualSession', WHERE WHAT IT READS IS OF BULK AT MOST 1048576: true; the input reads as it did. -/
def fnExactEqualSessionUptoRow : OpenClaim := { program := "ytnninkdaolhobaa", sum := "bbc3f86629baab2d6280e581180c373279d8b379132508975c764de4578f2094", func := "loop.example/g03103/laws.FnExactEqualSession", spec := "fnExactEqualSession", unfollowed := true, recurses := true, apart := false, narrowed := true }
def FnExactEqualSessionUptoSaid : Prop := fnExactEqualSessionUptoRow.holds Try.pinned (OpenSpec.upto fnExactEqualSessionSpec)

/-- 'laws.FnExactRingTail', WHERE WHAT IT READS IS OF BULK AT MOST 1048576: true; the input reads as it did. -/
def fnExactRingTailUptoRow : OpenClaim := { program := "ytnninkdaolhobaa", sum := "bbc3f86629baab2d6280e581180c373279d8b379132508975c764de4578f2094", func := "loop.example/g03103/laws.FnExactRingTail", spec := "fnExactRingTail", inPlace := ["internal/abi.NoEscape", "internal/bytealg.MakeNoZero"], apart := false, narrowed := true }
def FnExactRingTailUptoSaid : Prop := fnExactRingTailUptoRow.holds Try.pinned (OpenSpec.upto fnExactRingTailSpec)

/-- 'laws.FnExactRingAfter', WHERE WHAT IT READS IS OF BULK AT MOST 1048576: true; the input reads as it did. -/
def fnExactRingAfterUptoRow : OpenClaim := { program := "ytnninkdaolhobaa", sum := "bbc3f86629baab2d6280e581180c373279d8b379132508975c764de4578f2094", func := "loop.example/g03103/laws.FnExactRingAfter", spec := "fnExactRingAfter", inPlace := ["internal/abi.NoEscape", "internal/bytealg.MakeNoZero"], apart := false, narrowed := true }
def FnExactRingAfterUptoSaid : Prop := fnExactRingAfterUptoRow.holds Try.pinned (OpenSpec.upto fnExactRingAfterSpec)

/-- 'laws.FnExactFixedOnRings', WHERE WHAT IT READS IS OF BULK AT MOST 1048576: true; the input reads as it did. -/
def fnExactFixedOnRingsUptoRow : OpenClaim := { program := "ytnninkdaolhobaa", sum := "bbc3f86629baab2d6280e581180c373279d8b379132508975c764de4578f2094", func := "loop.example/g03103/laws.FnExactFixedOnRings", spec := "fnExactFixedOnRings", inPlace := ["internal/abi.NoEscape", "internal/bytealg.MakeNoZero"], unfollowed := true, recurses := true, apart := false, narrowed := true }
def FnExactFixedOnRingsUptoSaid : Prop := fnExactFixedOnRingsUptoRow.holds Try.pinned (OpenSpec.upto fnExactFixedOnRingsSpec)

/-- 'laws.FnExactCountOnRings', WHERE WHAT IT READS IS OF BULK AT MOST 1048576: true; the input reads as it did. -/
def fnExactCountOnRingsUptoRow : OpenClaim := { program := "ytnninkdaolhobaa", sum := "bbc3f86629baab2d6280e581180c373279d8b379132508975c764de4578f2094", func := "loop.example/g03103/laws.FnExactCountOnRings", spec := "fnExactCountOnRings", inPlace := ["internal/abi.NoEscape", "internal/bytealg.MakeNoZero"], apart := false, narrowed := true }
def FnExactCountOnRingsUptoSaid : Prop := fnExactCountOnRingsUptoRow.holds Try.pinned (OpenSpec.upto fnExactCountOnRingsSpec)

end Rows
end Go.Proofs.Ytnninkdaolhobaa
