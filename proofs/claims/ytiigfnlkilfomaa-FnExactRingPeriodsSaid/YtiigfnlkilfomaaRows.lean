/-
  No cell of these rows narrows 'for every input' (looked for: loops, veiled, ifaces, maps, wideKeys, modest, calm, conditions, laid).
  DERIVED. THE GIVEN ROWS OF THIS SEAT. 7 by the template 'for every input the law returns true; each argument reads behind the call as it read before'; 0 by the template 'total and deterministic' (their statements: YtiigfnlkilfomaaTotals.lean).
  GIVEN WITH THE SEED: the statements are not yours to turn. If you find one false, say at which input.
  Laid BY PROGRAM, IN A SANDBOX (cutbox-rows.mjs): the forced cells as the released guide's own fill.sh prints them over the translation 0e6acf7c9832ab53… (all of the seat's roots in one cut). By AI agents, Wed Nov 11 2026. No macro, syntax, notation, axiom, sorry.
-/
import Derived.Test.YtiigfnlkilfomaaChecked
import GoSem.Claim
import GoSem.ClaimJoined
import GoSem.ClaimMapViews
import Derived.JoinedTies
import Derived.KernelRfl
namespace Go.Proofs.Ytiigfnlkilfomaa
/- THE CELL 'sum', in the pinned program and in every row, IS THE sha256 OF THE DUMP (.gsa) THAT YtiigfnlkilfomaaProg.lean LOADS. Nothing in Lean hashes anything: it is a label: what it is worth is what the hold of that sum in a sandbox is worth. -/
noncomputable def Try.pinned : Pinned := { name := "ytiigfnlkilfomaa", sum := "0e6acf7c9832ab537605714043ee18c630515722cb2ce7bdf80c20d53405c63b", checked := Try.checked }
namespace Rows
def none {H : Type} : Left H := { results := [], args := [] }

/-- 'laws.FnExactRingTail': WHATEVER THE INPUT: true; the input reads as it did. -/
def fnExactRingTailSpec : ChangeSpec := { name := "fnExactRingTail", fn := fun _ => fun
  | [d1, d2] => { results := [.lit (.bool true)], args := [d1, d2] }
  | _ => none }
def fnExactRingTailRow : OpenClaim := { program := "ytiigfnlkilfomaa", sum := "0e6acf7c9832ab537605714043ee18c630515722cb2ce7bdf80c20d53405c63b", func := "loop.example/g03103/laws.FnExactRingTail", spec := "fnExactRingTail", inPlace := ["internal/abi.NoEscape", "internal/bytealg.MakeNoZero"], apart := false }
def FnExactRingTailSaid : Prop := fnExactRingTailRow.holds Try.pinned (OpenSpec.ofChange fnExactRingTailSpec)

/-- ITS FALSE NEIGHBOUR: 'it returns false'. Refute it at one input. -/
def fnExactRingTailWrong : ChangeSpec := { name := "fnExactRingTail", fn := fun _ => fun
  | [d1, d2] => { results := [.lit (.bool false)], args := [d1, d2] }
  | _ => none }
def FnExactRingTailWrongFalsely : Prop := fnExactRingTailRow.holds Try.pinned (OpenSpec.ofChange fnExactRingTailWrong)

/-- 'laws.FnExactRingAfter': WHATEVER THE INPUT: true; the input reads as it did. -/
def fnExactRingAfterSpec : ChangeSpec := { name := "fnExactRingAfter", fn := fun _ => fun
  | [d1, d2, d3] => { results := [.lit (.bool true)], args := [d1, d2, d3] }
  | _ => none }
def fnExactRingAfterRow : OpenClaim := { program := "ytiigfnlkilfomaa", sum := "0e6acf7c9832ab537605714043ee18c630515722cb2ce7bdf80c20d53405c63b", func := "loop.example/g03103/laws.FnExactRingAfter", spec := "fnExactRingAfter", inPlace := ["internal/abi.NoEscape", "internal/bytealg.MakeNoZero"], apart := false }
def FnExactRingAfterSaid : Prop := fnExactRingAfterRow.holds Try.pinned (OpenSpec.ofChange fnExactRingAfterSpec)

/-- ITS FALSE NEIGHBOUR: 'it returns false'. Refute it at one input. -/
def fnExactRingAfterWrong : ChangeSpec := { name := "fnExactRingAfter", fn := fun _ => fun
  | [d1, d2, d3] => { results := [.lit (.bool false)], args := [d1, d2, d3] }
  | _ => none }
def FnExactRingAfterWrongFalsely : Prop := fnExactRingAfterRow.holds Try.pinned (OpenSpec.ofChange fnExactRingAfterWrong)

/-- 'laws.FnExactCountOnRings': WHATEVER THE INPUT: true; the input reads as it did. -/
def fnExactCountOnRingsSpec : ChangeSpec := { name := "fnExactCountOnRings", fn := fun _ => fun
  | [d1, d2] => { results := [.lit (.bool true)], args := [d1, d2] }
  | _ => none }
def fnExactCountOnRingsRow : OpenClaim := { program := "ytiigfnlkilfomaa", sum := "0e6acf7c9832ab537605714043ee18c630515722cb2ce7bdf80c20d53405c63b", func := "loop.example/g03103/laws.FnExactCountOnRings", spec := "fnExactCountOnRings", inPlace := ["internal/abi.NoEscape", "internal/bytealg.MakeNoZero"], apart := false }
def FnExactCountOnRingsSaid : Prop := fnExactCountOnRingsRow.holds Try.pinned (OpenSpec.ofChange fnExactCountOnRingsSpec)

/-- ITS FALSE NEIGHBOUR: 'it returns false'. Refute it at one input. -/
def fnExactCountOnRingsWrong : ChangeSpec := { name := "fnExactCountOnRings", fn := fun _ => fun
  | [d1, d2] => { results := [.lit (.bool false)], args := [d1, d2] }
  | _ => none }
def FnExactCountOnRingsWrongFalsely : Prop := fnExactCountOnRingsRow.holds Try.pinned (OpenSpec.ofChange fnExactCountOnRingsWrong)

/-- 'laws.FnExactRingOrphans': WHATEVER THE INPUT: true; the input reads as it did. -/
def fnExactRingOrphansSpec : ChangeSpec := { name := "fnExactRingOrphans", fn := fun _ => fun
  | [d1, d2] => { results := [.lit (.bool true)], args := [d1, d2] }
  | _ => none }
def fnExactRingOrphansRow : OpenClaim := { program := "ytiigfnlkilfomaa", sum := "0e6acf7c9832ab537605714043ee18c630515722cb2ce7bdf80c20d53405c63b", func := "loop.example/g03103/laws.FnExactRingOrphans", spec := "fnExactRingOrphans", inPlace := ["internal/abi.NoEscape", "internal/bytealg.MakeNoZero"], recurses := true, apart := false }
def FnExactRingOrphansSaid : Prop := fnExactRingOrphansRow.holds Try.pinned (OpenSpec.ofChange fnExactRingOrphansSpec)

/-- ITS FALSE NEIGHBOUR: 'it returns false'. Refute it at one input. -/
def fnExactRingOrphansWrong : ChangeSpec := { name := "fnExactRingOrphans", fn := fun _ => fun
  | [d1, d2] => { results := [.lit (.bool false)], args := [d1, d2] }
  | _ => none }
def FnExactRingOrphansWrongFalsely : Prop := fnExactRingOrphansRow.holds Try.pinned (OpenSpec.ofChange fnExactRingOrphansWrong)

/-- 'laws.FnExactIsRingOnto': WHATEVER THE INPUT: true; the input reads as it did. -/
def fnExactIsRingOntoSpec : ChangeSpec := { name := "fnExactIsRingOnto", fn := fun _ => fun
  | [d1, d2] => { results := [.lit (.bool true)], args := [d1, d2] }
  | _ => none }
def fnExactIsRingOntoRow : OpenClaim := { program := "ytiigfnlkilfomaa", sum := "0e6acf7c9832ab537605714043ee18c630515722cb2ce7bdf80c20d53405c63b", func := "loop.example/g03103/laws.FnExactIsRingOnto", spec := "fnExactIsRingOnto", inPlace := ["internal/abi.NoEscape", "internal/bytealg.MakeNoZero"], recurses := true, apart := false }
def FnExactIsRingOntoSaid : Prop := fnExactIsRingOntoRow.holds Try.pinned (OpenSpec.ofChange fnExactIsRingOntoSpec)

/-- ITS FALSE NEIGHBOUR: 'it returns false'. Refute it at one input. -/
def fnExactIsRingOntoWrong : ChangeSpec := { name := "fnExactIsRingOnto", fn := fun _ => fun
  | [d1, d2] => { results := [.lit (.bool false)], args := [d1, d2] }
  | _ => none }
def FnExactIsRingOntoWrongFalsely : Prop := fnExactIsRingOntoRow.holds Try.pinned (OpenSpec.ofChange fnExactIsRingOntoWrong)

/-- 'laws.FnExactFixedOnRings': WHATEVER THE INPUT: true; the input reads as it did. -/
def fnExactFixedOnRingsSpec : ChangeSpec := { name := "fnExactFixedOnRings", fn := fun _ => fun
  | [d1, d2] => { results := [.lit (.bool true)], args := [d1, d2] }
  | _ => none }
def fnExactFixedOnRingsRow : OpenClaim := { program := "ytiigfnlkilfomaa", sum := "0e6acf7c9832ab537605714043ee18c630515722cb2ce7bdf80c20d53405c63b", func := "loop.example/g03103/laws.FnExactFixedOnRings", spec := "fnExactFixedOnRings", inPlace := ["internal/abi.NoEscape", "internal/bytealg.MakeNoZero"], unfollowed := true, recurses := true, apart := false }
def FnExactFixedOnRingsSaid : Prop := fnExactFixedOnRingsRow.holds Try.pinned (OpenSpec.ofChange fnExactFixedOnRingsSpec)

/-- ITS FALSE NEIGHBOUR: 'it returns false'. Refute it at one input. -/
def fnExactFixedOnRingsWrong : ChangeSpec := { name := "fnExactFixedOnRings", fn := fun _ => fun
  | [d1, d2] => { results := [.lit (.bool false)], args := [d1, d2] }
  | _ => none }
def FnExactFixedOnRingsWrongFalsely : Prop := fnExactFixedOnRingsRow.holds Try.pinned (OpenSpec.ofChange fnExactFixedOnRingsWrong)

/-- 'laws.FnExactRingPeriods': WHATEVER THE INPUT: true; the input reads as it did. -/
def fnExactRingPeriodsSpec : ChangeSpec := { name := "fnExactRingPeriods", fn := fun _ => fun
  | [d1, d2] => { results := [.lit (.bool true)], args := [d1, d2] }
  | _ => none }
def fnExactRingPeriodsRow : OpenClaim := { program := "ytiigfnlkilfomaa", sum := "0e6acf7c9832ab537605714043ee18c630515722cb2ce7bdf80c20d53405c63b", func := "loop.example/g03103/laws.FnExactRingPeriods", spec := "fnExactRingPeriods", inPlace := ["internal/abi.NoEscape", "internal/bytealg.MakeNoZero"], recurses := true, apart := false }
def FnExactRingPeriodsSaid : Prop := fnExactRingPeriodsRow.holds Try.pinned (OpenSpec.ofChange fnExactRingPeriodsSpec)

/-- ITS FALSE NEIGHBOUR: 'it returns false'. Refute it at one input. -/
def fnExactRingPeriodsWrong : ChangeSpec := { name := "fnExactRingPeriods", fn := fun _ => fun
  | [d1, d2] => { results := [.lit (.bool false)], args := [d1, d2] }
  | _ => none }
def FnExactRingPeriodsWrongFalsely : Prop := fnExactRingPeriodsRow.holds Try.pinned (OpenSpec.ofChange fnExactRingPeriodsWrong)

/- THE SECOND FORM. 'bulk': how many values and letters a reading holds, each counted each time it is reached (what is shared counts as often as it is met; a slice's spare places count too). A statement '..UptoSaid' is the law's where the arguments, and the package variables that the reading takes, are together of bulk at most 1048576: NARROWER than '..Said'. Prove '..Said' where nothing that the law and all that it calls make is longer than what came in: it says more and counts as full. Else prove '..UptoSaid'. A law counts once. -/
mutual
def uptoBulk {H : Type} : DataW H → Nat
  | .lit (.string bytes) => bytes.length + 1
  | .lit _ => 1
  | .nil => 1
  | .ptr d => uptoBulk d + 1
  | .slice elems spare => uptoBulkAll elems + uptoBulkAll spare + 1
  | .agg parts => uptoBulkAll parts + 1
  | .iface _ d => uptoBulk d + 1
  | .map entries => uptoBulkEntries entries + 1
  | .held _ => 1
def uptoBulkAll {H : Type} : List (DataW H) → Nat
  | [] => 0
  | d :: r => uptoBulk d + uptoBulkAll r
def uptoBulkEntries {H : Type} : List (Lit × DataW H) → Nat
  | [] => 0
  | x :: r => uptoBulkEntry x + uptoBulkEntries r
def uptoBulkEntry {H : Type} : Lit × DataW H → Nat
  | (.string bytes, d) => bytes.length + uptoBulk d + 1
  | (_, d) => uptoBulk d + 1
 end
def uptoSmall : (H : Type) → List (DataW H) → Bool := fun _ ds => decide (uptoBulkAll ds ≤ 1048576)
def OpenSpec.upto (s : _root_.Go.ChangeSpec) : _root_.Go.OpenSpec := { _root_.Go.OpenSpec.ofChange s with cond := some uptoSmall }

/-- 'laws.FnExactRingTail', WHERE WHAT IT READS IS OF BULK AT MOST 1048576: true; the input reads as it did. -/
def fnExactRingTailUptoRow : OpenClaim := { program := "ytiigfnlkilfomaa", sum := "0e6acf7c9832ab537605714043ee18c630515722cb2ce7bdf80c20d53405c63b", func := "loop.example/g03103/laws.FnExactRingTail", spec := "fnExactRingTail", inPlace := ["internal/abi.NoEscape", "internal/bytealg.MakeNoZero"], apart := false, narrowed := true }
def FnExactRingTailUptoSaid : Prop := fnExactRingTailUptoRow.holds Try.pinned (OpenSpec.upto fnExactRingTailSpec)

/-- 'laws.FnExactRingAfter', WHERE WHAT IT READS IS OF BULK AT MOST 1048576: true; the input reads as it did. -/
def fnExactRingAfterUptoRow : OpenClaim := { program := "ytiigfnlkilfomaa", sum := "0e6acf7c9832ab537605714043ee18c630515722cb2ce7bdf80c20d53405c63b", func := "loop.example/g03103/laws.FnExactRingAfter", spec := "fnExactRingAfter", inPlace := ["internal/abi.NoEscape", "internal/bytealg.MakeNoZero"], apart := false, narrowed := true }
def FnExactRingAfterUptoSaid : Prop := fnExactRingAfterUptoRow.holds Try.pinned (OpenSpec.upto fnExactRingAfterSpec)

/-- 'laws.FnExactCountOnRings', WHERE WHAT IT READS IS OF BULK AT MOST 1048576: true; the input reads as it did. -/
def fnExactCountOnRingsUptoRow : OpenClaim := { program := "ytiigfnlkilfomaa", sum := "0e6acf7c9832ab537605714043ee18c630515722cb2ce7bdf80c20d53405c63b", func := "loop.example/g03103/laws.FnExactCountOnRings", spec := "fnExactCountOnRings", inPlace := ["internal/abi.NoEscape", "internal/bytealg.MakeNoZero"], apart := false, narrowed := true }
def FnExactCountOnRingsUptoSaid : Prop := fnExactCountOnRingsUptoRow.holds Try.pinned (OpenSpec.upto fnExactCountOnRingsSpec)

/-- 'laws.FnExactRingOrphans', WHERE WHAT IT READS IS OF BULK AT MOST 1048576: true; the input reads as it did. -/
def fnExactRingOrphansUptoRow : OpenClaim := { program := "ytiigfnlkilfomaa", sum := "0e6acf7c9832ab537605714043ee18c630515722cb2ce7bdf80c20d53405c63b", func := "loop.example/g03103/laws.FnExactRingOrphans", spec := "fnExactRingOrphans", inPlace := ["internal/abi.NoEscape", "internal/bytealg.MakeNoZero"], recurses := true, apart := false, narrowed := true }
def FnExactRingOrphansUptoSaid : Prop := fnExactRingOrphansUptoRow.holds Try.pinned (OpenSpec.upto fnExactRingOrphansSpec)

/-- 'laws.FnExactIsRingOnto', WHERE WHAT IT READS IS OF BULK AT MOST 1048576: true; the input reads as it did. -/
def fnExactIsRingOntoUptoRow : OpenClaim := { program := "ytiigfnlkilfomaa", sum := "0e6acf7c9832ab537605714043ee18c630515722cb2ce7bdf80c20d53405c63b", func := "loop.example/g03103/laws.FnExactIsRingOnto", spec := "fnExactIsRingOnto", inPlace := ["internal/abi.NoEscape", "internal/bytealg.MakeNoZero"], recurses := true, apart := false, narrowed := true }
def FnExactIsRingOntoUptoSaid : Prop := fnExactIsRingOntoUptoRow.holds Try.pinned (OpenSpec.upto fnExactIsRingOntoSpec)

/-- 'laws.FnExactFixedOnRings', WHERE WHAT IT READS IS OF BULK AT MOST 1048576: true; the input reads as it did. -/
def fnExactFixedOnRingsUptoRow : OpenClaim := { program := "ytiigfnlkilfomaa", sum := "0e6acf7c9832ab537605714043ee18c630515722cb2ce7bdf80c20d53405c63b", func := "loop.example/g03103/laws.FnExactFixedOnRings", spec := "fnExactFixedOnRings", inPlace := ["internal/abi.NoEscape", "internal/bytealg.MakeNoZero"], unfollowed := true, recurses := true, apart := false, narrowed := true }
def FnExactFixedOnRingsUptoSaid : Prop := fnExactFixedOnRingsUptoRow.holds Try.pinned (OpenSpec.upto fnExactFixedOnRingsSpec)

/-- 'laws.FnExactRingPeriods', WHERE WHAT IT READS IS OF BULK AT MOST 1048576: true; the input reads as it did. -/
def fnExactRingPeriodsUptoRow : OpenClaim := { program := "ytiigfnlkilfomaa", sum := "0e6acf7c9832ab537605714043ee18c630515722cb2ce7bdf80c20d53405c63b", func := "loop.example/g03103/laws.FnExactRingPeriods", spec := "fnExactRingPeriods", inPlace := ["internal/abi.NoEscape", "internal/bytealg.MakeNoZero"], recurses := true, apart := false, narrowed := true }
def FnExactRingPeriodsUptoSaid : Prop := fnExactRingPeriodsUptoRow.holds Try.pinned (OpenSpec.upto fnExactRingPeriodsSpec)

end Rows
end Go.Proofs.Ytiigfnlkilfomaa
