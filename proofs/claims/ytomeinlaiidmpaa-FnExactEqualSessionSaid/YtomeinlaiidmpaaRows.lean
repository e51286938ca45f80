/-
  No cell of these rows narrows 'for every input' (looked for: loops, veiled, ifaces, maps, wideKeys, modest, calm, conditions, laid).
  DERIVED. THE GIVEN ROWS OF THIS SEAT. 6 by the template 'for every input the law returns true; each argument reads behind the call as it read before'; 0 by the template 'total and deterministic' (their statements: YtomeinlaiidmpaaTotals.lean).
  GIVEN WITH THE SEED: the statements are not yours to turn. If you find one false, say at which input.
  Laid BY PROGRAM, IN A SANDBOX (cutbox-rows.mjs): the forced cells as the released guide's own fill.sh prints them over the translation 245aec2f4eb0432a… (all of the seat's roots in one cut). By AI agents, Wed Nov 11 2026. No macro, syntax, notation, axiom, sorry.
-/
import Derived.Test.YtomeinlaiidmpaaChecked
import GoSem.Claim
import GoSem.ClaimJoined
import GoSem.ClaimMapViews
import Derived.JoinedTies
import Derived.KernelRfl
namespace Go.Proofs.Ytomeinlaiidmpaa
/- THE CELL 'sum', in the pinned program and in every row, IS THE sha256 OF THE DUMP (.gsa) THAT YtomeinlaiidmpaaProg.lean LOADS. Nothing in Lean hashes anything: it is a label: what it is worth is what the hold of that sum in a sandbox is worth. -/
noncomputable def Try.pinned : Pinned := { name := "ytomeinlaiidmpaa", sum := "245aec2f4eb0432a98df81f3f5bc87ffde738d9f66ccc7a5d766d549adc45da3", checked := Try.checked }
namespace Rows
def none {H : Type} : Left H := { results := [], args := [] }

/-- 'laws.FnExactLetterCounts': WHATEVER THE INPUT: true; the input reads as it did. -/
def fnExactLetterCountsSpec : ChangeSpec := { name := "fnExactLetterCounts", fn := fun _ => fun
  | [d] => { results := [.lit (.bool true)], args := [d] }
  | _ => none }
def fnExactLetterCountsRow : OpenClaim := { program := "ytomeinlaiidmpaa", sum := "245aec2f4eb0432a98df81f3f5bc87ffde738d9f66ccc7a5d766d549adc45da3", func := "loop.example/g03103/laws.FnExactLetterCounts", spec := "fnExactLetterCounts", inPlace := ["internal/bytealg.CountString", "internal/bytealg.IndexByteString", "internal/bytealg.IndexString"], named := ["internal/bytealg.MaxLen"], apart := false }
def FnExactLetterCountsSaid : Prop := fnExactLetterCountsRow.holds Try.pinned (OpenSpec.ofChange fnExactLetterCountsSpec)

/-- ITS FALSE NEIGHBOUR: 'it returns false'. Refute it at one input. -/
def fnExactLetterCountsWrong : ChangeSpec := { name := "fnExactLetterCounts", fn := fun _ => fun
  | [d] => { results := [.lit (.bool false)], args := [d] }
  | _ => none }
def FnExactLetterCountsWrongFalsely : Prop := fnExactLetterCountsRow.holds Try.pinned (OpenSpec.ofChange fnExactLetterCountsWrong)

/-- 'laws.FnExactIsBalancedWord': WHATEVER THE INPUT: true; the input reads as it did. -/
def fnExactIsBalancedWordSpec : ChangeSpec := { name := "fnExactIsBalancedWord", fn := fun _ => fun
  | [d] => { results := [.lit (.bool true)], args := [d] }
  | _ => none }
def fnExactIsBalancedWordRow : OpenClaim := { program := "ytomeinlaiidmpaa", sum := "245aec2f4eb0432a98df81f3f5bc87ffde738d9f66ccc7a5d766d549adc45da3", func := "loop.example/g03103/laws.FnExactIsBalancedWord", spec := "fnExactIsBalancedWord", inPlace := ["internal/bytealg.CountString", "internal/bytealg.IndexByteString", "internal/bytealg.IndexString"], named := ["internal/bytealg.MaxLen"], apart := false }
def FnExactIsBalancedWordSaid : Prop := fnExactIsBalancedWordRow.holds Try.pinned (OpenSpec.ofChange fnExactIsBalancedWordSpec)

/-- ITS FALSE NEIGHBOUR: 'it returns false'. Refute it at one input. -/
def fnExactIsBalancedWordWrong : ChangeSpec := { name := "fnExactIsBalancedWord", fn := fun _ => fun
  | [d] => { results := [.lit (.bool false)], args := [d] }
  | _ => none }
def FnExactIsBalancedWordWrongFalsely : Prop := fnExactIsBalancedWordRow.holds Try.pinned (OpenSpec.ofChange fnExactIsBalancedWordWrong)

/-- 'laws.FnExactCountTable': WHATEVER THE INPUT: true; the input reads as it did. -/
def fnExactCountTableSpec : ChangeSpec := { name := "fnExactCountTable", fn := fun _ => fun
  | [d] => { results := [.lit (.bool true)], args := [d] }
  | _ => none }
def fnExactCountTableRow : OpenClaim := { program := "ytomeinlaiidmpaa", sum := "245aec2f4eb0432a98df81f3f5bc87ffde738d9f66ccc7a5d766d549adc45da3", func := "loop.example/g03103/laws.FnExactCountTable", spec := "fnExactCountTable", apart := false }
def FnExactCountTableSaid : Prop := fnExactCountTableRow.holds Try.pinned (OpenSpec.ofChange fnExactCountTableSpec)

/-- ITS FALSE NEIGHBOUR: 'it returns false'. Refute it at one input. -/
def fnExactCountTableWrong : ChangeSpec := { name := "fnExactCountTable", fn := fun _ => fun
  | [d] => { results := [.lit (.bool false)], args := [d] }
  | _ => none }
def FnExactCountTableWrongFalsely : Prop := fnExactCountTableRow.holds Try.pinned (OpenSpec.ofChange fnExactCountTableWrong)

/-- 'laws.FnExactLengthAfter': WHATEVER THE INPUT: true; the input reads as it did. -/
def fnExactLengthAfterSpec : ChangeSpec := { name := "fnExactLengthAfter", fn := fun _ => fun
  | [d1, d2, d3] => { results := [.lit (.bool true)], args := [d1, d2, d3] }
  | _ => none }
def fnExactLengthAfterRow : OpenClaim := { program := "ytomeinlaiidmpaa", sum := "245aec2f4eb0432a98df81f3f5bc87ffde738d9f66ccc7a5d766d549adc45da3", func := "loop.example/g03103/laws.FnExactLengthAfter", spec := "fnExactLengthAfter", apart := false }
def FnExactLengthAfterSaid : Prop := fnExactLengthAfterRow.holds Try.pinned (OpenSpec.ofChange fnExactLengthAfterSpec)

/-- ITS FALSE NEIGHBOUR: 'it returns false'. Refute it at one input. -/
def fnExactLengthAfterWrong : ChangeSpec := { name := "fnExactLengthAfter", fn := fun _ => fun
  | [d1, d2, d3] => { results := [.lit (.bool false)], args := [d1, d2, d3] }
  | _ => none }
def FnExactLengthAfterWrongFalsely : Prop := fnExactLengthAfterRow.holds Try.pinned (OpenSpec.ofChange fnExactLengthAfterWrong)

/-- 'laws.FnExactExampleLabels': WHATEVER THE INPUT: true; the input reads as it did. -/
def fnExactExampleLabelsSpec : ChangeSpec := { name := "fnExactExampleLabels", fn := fun _ => fun
  | [d] => { results := [.lit (.bool true)], args := [d] }
  | _ => none }
def fnExactExampleLabelsRow : OpenClaim := { program := "ytomeinlaiidmpaa", sum := "245aec2f4eb0432a98df81f3f5bc87ffde738d9f66ccc7a5d766d549adc45da3", func := "loop.example/g03103/laws.FnExactExampleLabels", spec := "fnExactExampleLabels", apart := false }
def FnExactExampleLabelsSaid : Prop := fnExactExampleLabelsRow.holds Try.pinned (OpenSpec.ofChange fnExactExampleLabelsSpec)

/-- ITS FALSE NEIGHBOUR: 'it returns false'. Refute it at one input. -/
def fnExactExampleLabelsWrong : ChangeSpec := { name := "fnExactExampleLabels", fn := fun _ => fun
  | [d] => { results := [.lit (.bool false)], args := [d] }
  | _ => none }
def FnExactExampleLabelsWrongFalsely : Prop := fnExactExampleLabelsRow.holds Try.pinned (OpenSpec.ofChange fnExactExampleLabelsWrong)

/-- 'laws.FnExactEqualSession': WHATEVER THE INPUT: true; the input reads as it did. -/
def fnExactEqualSessionSpec : ChangeSpec := { name := "fnExactEqualSession", fn := fun _ => fun
  | [d1, d2] => { results := [.lit (.bool true)], args := [d1, d2] }
  | _ => none }
def fnExactEqualSessionRow : OpenClaim := { program := "ytomeinlaiidmpaa", sum := "245aec2f4eb0432a98df81f3f5bc87ffde738d9f66ccc7a5d766d549adc45da3", func := "loop.example/g03103/laws.FnExactEqualSession", spec := "fnExactEqualSession", unfollowed := true, recurses := true, apart := false }
def FnExactEqualSessionSaid : Prop := fnExactEqualSessionRow.holds Try.pinned (OpenSpec.ofChange fnExactEqualSessionSpec)

/-- ITS FALSE NEIGHBOUR: 'it returns false'. Refute it at one input. -/
def fnExactEqualSessionWrong : ChangeSpec := { name := "fnExactEqualSession", fn := fun _ => fun
  | [d1, d2] => { results := [.lit (.bool false)], args := [d1, d2] }
  | _ => none }
def FnExactEqualSessionWrongFalsely : Prop := fnExactEqualSessionRow.holds Try.pinned (OpenSpec.ofChange fnExactEqualSessionWrong)

/- THE SECOND FORM. 'bulk': how many values and letters a reading holds, each counted each time it is reached (what is shared counts as often as it is met; a slice's spare places count too). A statement '..UptoSaid' is the law's where the arguments, and the package variables that the reading takes, are together of bulk at most 1048576: NARROWER than '..Said'. Prove '..Said' where nothing that the law and all that it calls make is longer than what came in: it says more and counts as full. Else prove '..UptoSaid'. A law counts once. -/
mutual
def uptoBulk {H : Type} : DataW H → Nat
  | .lit (.string bytes) => bytes.length + 1
  | .lit _ => 1
  | .nil => 1
  | .ptr d => uptoBulk d + 1
  | .slice elems spare => uptoBulkAll elems + uptoBulkAll spare + 1
  | .agg parts => uptoBulkAll parts + 1
  | .iface _ d => uptoBulk d + 1
  | .map entries => uptoBulkEntries entries + 1
  | .held _ => 1
def uptoBulkAll {H : Type} : List (DataW H) → Nat
  | [] => 0
  | d :: r => uptoBulk d + uptoBulkAll r
def uptoBulkEntries {H : Type} : List (Lit × DataW H) → Nat
  | [] => 0
  | x :: r => uptoBulkEntry x + uptoBulkEntries r
def uptoBulkEntry {H : Type} : Lit × DataW H → Nat
  | (.string bytes, d) => bytes.length + uptoBulk d + 1
  | (_, d) => uptoBulk d + 1
 end
def uptoSmall : (H : Type) → List (DataW H) → Bool := fun _ ds => decide (uptoBulkAll ds ≤ 1048576)
def OpenSpec.upto (s : _root_.Go.ChangeSpec) : _root_.Go.OpenSpec := { _root_.Go.OpenSpec.ofChange s with cond := some uptoSmall }

/-- 'laws.FnExactLetterCounts', WHERE WHAT IT READS IS OF BULK AT MOST 1048576: true; the input reads as it did. -/
def fnExactLetterCountsUptoRow : OpenClaim := { program := "ytomeinlaiidmpaa", sum := "245aec2f4eb0432a98df81f3f5bc87ffde738d9f66ccc7a5d766d549adc45da3", func := "loop.example/g03103/laws.FnExactLetterCounts", spec := "fnExactLetterCounts", inPlace := ["internal/bytealg.CountString", "internal/bytealg.IndexByteString", "internal/bytealg.IndexString"], named := ["internal/bytealg.MaxLen"], apart := false, narrowed := true }
def FnExactLetterCountsUptoSaid : Prop := fnExactLetterCountsUptoRow.holds Try.pinned (OpenSpec.upto fnExactLetterCountsSpec)

/-- 'laws.FnExactIsBalancedWord', WHERE WHAT IT READS IS OF BULK AT MOST 1048576: true; the input reads as it did. -/
def fnExactIsBalancedWordUptoRow : OpenClaim := { program := "ytomeinlaiidmpaa", sum := "245aec2f4eb0432a98df81f3f5bc87ffde738d9f66ccc7a5d766d549adc45da3", func := "loop.example/g03103/laws.FnExactIsBalancedWord", spec := "fnExactIsBalancedWord", inPlace := ["internal/bytealg.CountString", "internal/bytealg.IndexByteString", "internal/bytealg.IndexString"], named := ["internal/bytealg.MaxLen"], apart := false, narrowed := true }
def FnExactIsBalancedWordUptoSaid : Prop := fnExactIsBalancedWordUptoRow.holds Try.pinned (OpenSpec.upto fnExactIsBalancedWordSpec)

/-- 'laws.FnExactCountTable', WHERE WHAT IT READS IS OF BULK AT MOST 1048576: true; the input reads as it did. -/
def fnExactCountTableUptoRow : OpenClaim := { program := "ytomeinlaiidmpaa", sum := "245aec2f4eb0432a98df81f3f5bc87ffde738d9f66ccc7a5d766d549adc45da3", func := "loop.example/g03103/laws.FnExactCountTable", spec := "fnExactCountTable", apart := false, narrowed := true }
def FnExactCountTableUptoSaid : Prop := fnExactCountTableUptoRow.holds Try.pinned (OpenSpec.upto fnExactCountTableSpec)

/-- 'laws.FnExactLengthAfter', WHERE WHAT IT READS IS OF BULK AT MOST 1048576: true; the input reads as it did. -/
def fnExactLengthAfterUptoRow : OpenClaim := { program := "ytomeinlaiidmpaa", sum := "245aec2f4eb0432a98df81f3f5bc87ffde738d9f66ccc7a5d766d549adc45da3", func := "loop.example/g03103/laws.FnExactLengthAfter", spec := "fnExactLengthAfter", apart := false, narrowed := true }
def FnExactLengthAfterUptoSaid : Prop := fnExactLengthAfterUptoRow.holds Try.pinned (OpenSpec.upto fnExactLengthAfterSpec)

/-- 'laws.FnExactExampleLabels', WHERE WHAT IT READS IS OF BULK AT MOST 1048576: true; the input reads as it did. -/
def fnExactExampleLabelsUptoRow : OpenClaim := { program := "ytomeinlaiidmpaa", sum := "245aec2f4eb0432a98df81f3f5bc87ffde738d9f66ccc7a5d766d549adc45da3", func := "loop.example/g03103/laws.FnExactExampleLabels", spec := "fnExactExampleLabels", apart := false, narrowed := true }
def FnExactExampleLabelsUptoSaid : Prop := fnExactExampleLabelsUptoRow.holds Try.pinned (OpenSpec.upto fnExactExampleLabelsSpec)

/-- 'laws.FnExactEqualSession', WHERE WHAT IT READS IS OF BULK AT MOST 1048576: true; the input reads as it did. -/
def fnExactEqualSessionUptoRow : OpenClaim := { program := "ytomeinlaiidmpaa", sum := "245aec2f4eb0432a98df81f3f5bc87ffde738d9f66ccc7a5d766d549adc45da3", func := "loop.example/g03103/laws.FnExactEqualSession", spec := "fnExactEqualSession", unfollowed := true, recurses := true, apart := false, narrowed := true }
def FnExactEqualSessionUptoSaid : Prop := fnExactEqualSessionUptoRow.holds Try.pinned (OpenSpec.upto fnExactEqualSessionSpec)

end Rows
end Go.Proofs.Ytomeinlaiidmpaa
