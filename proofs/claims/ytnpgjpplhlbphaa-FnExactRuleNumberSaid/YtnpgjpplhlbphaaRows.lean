/-
  No cell of these rows narrows 'for every input' (looked for: loops, veiled, ifaces, maps, wideKeys, modest, calm, conditions, laid).
  DERIVED. THE GIVEN ROWS OF THIS SEAT. 6 by the template 'for every input the law returns true; each argument reads behind the call as it read before'; 0 by the template 'total and deterministic' (their statements: YtnpgjpplhlbphaaTotals.lean).
  GIVEN WITH THE SEED: the statements are not yours to turn. If you find one false, say at which input.
  Laid BY PROGRAM, IN A SANDBOX (cutbox-rows.mjs): the forced cells as the released guide's own fill.sh prints them over the translation ed7ce828292b82fd… (all of the seat's roots in one cut). By AI agents, Wed Nov 11 2026. No macro, syntax, notation, axiom, sorry.
-/
import Derived.Test.YtnpgjpplhlbphaaChecked
import GoSem.Claim
import GoSem.ClaimJoined
import GoSem.ClaimMapViews
import Derived.JoinedTies
import Derived.KernelRfl
namespace Go.Proofs.Ytnpgjpplhlbphaa
/- THE CELL 'sum', in the pinned program and in every row, IS THE sha256 OF THE DUMP (.gsa) THAT YtnpgjpplhlbphaaProg.lean LOADS. Nothing in Lean hashes anything: it is a label: what it is worth is what the hold of that sum in a sandbox is worth. -/
noncomputable def Try.pinned : Pinned := { name := "ytnpgjpplhlbphaa", sum := "ed7ce828292b82fd8d418c93717320ad1a132de44df60ebdf2b2b8cff58457a8", checked := Try.checked }
namespace Rows
def none {H : Type} : Left H := { results := [], args := [] }

/-- 'laws.FnExactIsLinearRule': WHATEVER THE INPUT: true; the input reads as it did. -/
def fnExactIsLinearRuleSpec : ChangeSpec := { name := "fnExactIsLinearRule", fn := fun _ => fun
  | [d] => { results := [.lit (.bool true)], args := [d] }
  | _ => none }
def fnExactIsLinearRuleRow : OpenClaim := { program := "ytnpgjpplhlbphaa", sum := "ed7ce828292b82fd8d418c93717320ad1a132de44df60ebdf2b2b8cff58457a8", func := "loop.example/g03103/laws.FnExactIsLinearRule", spec := "fnExactIsLinearRule", apart := false }
def FnExactIsLinearRuleSaid : Prop := fnExactIsLinearRuleRow.holds Try.pinned (OpenSpec.ofChange fnExactIsLinearRuleSpec)

/-- ITS FALSE NEIGHBOUR: 'it returns false'. Refute it at one input. -/
def fnExactIsLinearRuleWrong : ChangeSpec := { name := "fnExactIsLinearRule", fn := fun _ => fun
  | [d] => { results := [.lit (.bool false)], args := [d] }
  | _ => none }
def FnExactIsLinearRuleWrongFalsely : Prop := fnExactIsLinearRuleRow.holds Try.pinned (OpenSpec.ofChange fnExactIsLinearRuleWrong)

/-- 'laws.FnExactRuleCode': WHATEVER THE INPUT: true; the input reads as it did. -/
def fnExactRuleCodeSpec : ChangeSpec := { name := "fnExactRuleCode", fn := fun _ => fun
  | [d] => { results := [.lit (.bool true)], args := [d] }
  | _ => none }
def fnExactRuleCodeRow : OpenClaim := { program := "ytnpgjpplhlbphaa", sum := "ed7ce828292b82fd8d418c93717320ad1a132de44df60ebdf2b2b8cff58457a8", func := "loop.example/g03103/laws.FnExactRuleCode", spec := "fnExactRuleCode", apart := false }
def FnExactRuleCodeSaid : Prop := fnExactRuleCodeRow.holds Try.pinned (OpenSpec.ofChange fnExactRuleCodeSpec)

/-- ITS FALSE NEIGHBOUR: 'it returns false'. Refute it at one input. -/
def fnExactRuleCodeWrong : ChangeSpec := { name := "fnExactRuleCode", fn := fun _ => fun
  | [d] => { results := [.lit (.bool false)], args := [d] }
  | _ => none }
def FnExactRuleCodeWrongFalsely : Prop := fnExactRuleCodeRow.holds Try.pinned (OpenSpec.ofChange fnExactRuleCodeWrong)

/-- 'laws.FnExactExampleSubst': WHATEVER THE INPUT: true; the input reads as it did. -/
def fnExactExampleSubstSpec : ChangeSpec := { name := "fnExactExampleSubst", fn := fun _ => fun
  | [d] => { results := [.lit (.bool true)], args := [d] }
  | _ => none }
def fnExactExampleSubstRow : OpenClaim := { program := "ytnpgjpplhlbphaa", sum := "ed7ce828292b82fd8d418c93717320ad1a132de44df60ebdf2b2b8cff58457a8", func := "loop.example/g03103/laws.FnExactExampleSubst", spec := "fnExactExampleSubst", apart := false }
def FnExactExampleSubstSaid : Prop := fnExactExampleSubstRow.holds Try.pinned (OpenSpec.ofChange fnExactExampleSubstSpec)

/-- ITS FALSE NEIGHBOUR: 'it returns false'. Refute it at one input. -/
def fnExactExampleSubstWrong : ChangeSpec := { name := "fnExactExampleSubst", fn := fun _ => fun
  | [d] => { results := [.lit (.bool false)], args := [d] }
  | _ => none }
def FnExactExampleSubstWrongFalsely : Prop := fnExactExampleSubstRow.holds Try.pinned (OpenSpec.ofChange fnExactExampleSubstWrong)

/-- 'laws.FnExactIsSubst': WHATEVER THE INPUT: true; the input reads as it did. -/
def fnExactIsSubstSpec : ChangeSpec := { name := "fnExactIsSubst", fn := fun _ => fun
  | [d] => { results := [.lit (.bool true)], args := [d] }
  | _ => none }
def fnExactIsSubstRow : OpenClaim := { program := "ytnpgjpplhlbphaa", sum := "ed7ce828292b82fd8d418c93717320ad1a132de44df60ebdf2b2b8cff58457a8", func := "loop.example/g03103/laws.FnExactIsSubst", spec := "fnExactIsSubst", apart := false }
def FnExactIsSubstSaid : Prop := fnExactIsSubstRow.holds Try.pinned (OpenSpec.ofChange fnExactIsSubstSpec)

/-- ITS FALSE NEIGHBOUR: 'it returns false'. Refute it at one input. -/
def fnExactIsSubstWrong : ChangeSpec := { name := "fnExactIsSubst", fn := fun _ => fun
  | [d] => { results := [.lit (.bool false)], args := [d] }
  | _ => none }
def FnExactIsSubstWrongFalsely : Prop := fnExactIsSubstRow.holds Try.pinned (OpenSpec.ofChange fnExactIsSubstWrong)

/-- 'laws.FnExactPlacesIn': WHATEVER THE INPUT: true; the input reads as it did. -/
def fnExactPlacesInSpec : ChangeSpec := { name := "fnExactPlacesIn", fn := fun _ => fun
  | [d1, d2] => { results := [.lit (.bool true)], args := [d1, d2] }
  | _ => none }
def fnExactPlacesInRow : OpenClaim := { program := "ytnpgjpplhlbphaa", sum := "ed7ce828292b82fd8d418c93717320ad1a132de44df60ebdf2b2b8cff58457a8", func := "loop.example/g03103/laws.FnExactPlacesIn", spec := "fnExactPlacesIn", apart := false }
def FnExactPlacesInSaid : Prop := fnExactPlacesInRow.holds Try.pinned (OpenSpec.ofChange fnExactPlacesInSpec)

/-- ITS FALSE NEIGHBOUR: 'it returns false'. Refute it at one input. -/
def fnExactPlacesInWrong : ChangeSpec := { name := "fnExactPlacesIn", fn := fun _ => fun
  | [d1, d2] => { results := [.lit (.bool false)], args := [d1, d2] }
  | _ => none }
def FnExactPlacesInWrongFalsely : Prop := fnExactPlacesInRow.holds Try.pinned (OpenSpec.ofChange fnExactPlacesInWrong)

/-- 'laws.FnExactRuleNumber': WHATEVER THE INPUT: true; the input reads as it did. -/
def fnExactRuleNumberSpec : ChangeSpec := { name := "fnExactRuleNumber", fn := fun _ => fun
  | [d] => { results := [.lit (.bool true)], args := [d] }
  | _ => none }
def fnExactRuleNumberRow : OpenClaim := { program := "ytnpgjpplhlbphaa", sum := "ed7ce828292b82fd8d418c93717320ad1a132de44df60ebdf2b2b8cff58457a8", func := "loop.example/g03103/laws.FnExactRuleNumber", spec := "fnExactRuleNumber", apart := false }
def FnExactRuleNumberSaid : Prop := fnExactRuleNumberRow.holds Try.pinned (OpenSpec.ofChange fnExactRuleNumberSpec)

/-- ITS FALSE NEIGHBOUR: 'it returns false'. Refute it at one input. -/
def fnExactRuleNumberWrong : ChangeSpec := { name := "fnExactRuleNumber", fn := fun _ => fun
  | [d] => { results := [.lit (.bool false)], args := [d] }
  | _ => none }
def FnExactRuleNumberWrongFalsely : Prop := fnExactRuleNumberRow.holds Try.pinned (OpenSpec.ofChange fnExactRuleNumberWrong)

/- THE SECOND FORM. 'bulk': how many values and letters a reading holds, each counted each time it is reached (what is shared counts as often as it is met; a slice's spare places count too). A statement '..UptoSaid' is the law's where the arguments, and the package variables that the reading takes, are together of bulk at most 1048576: NARROWER than '..Said'. Prove '..Said' where nothing that the law and all that it calls make is longer than what came in: it says more and counts as full. Else prove '..UptoSaid'. A law counts once. -/
mutual
def uptoBulk {H : Type} : DataW H → Nat
  | .lit (.string bytes) => bytes.length + 1
  | .lit _ => 1
  | .nil => 1
  | .ptr d => uptoBulk d + 1
  | .slice elems spare => uptoBulkAll elems + uptoBulkAll spare + 1
  | .agg parts => uptoBulkAll parts + 1
  | .iface _ d => uptoBulk d + 1
  | .map entries => uptoBulkEntries entries + 1
  | .held _ => 1
def uptoBulkAll {H : Type} : List (DataW H) → Nat
  | [] => 0
  | d :: r => uptoBulk d + uptoBulkAll r
def uptoBulkEntries {H : Type} : List (Lit × DataW H) → Nat
  | [] => 0
  | x :: r => uptoBulkEntry x + uptoBulkEntries r
def uptoBulkEntry {H : Type} : Lit × DataW H → Nat
  | (.string bytes, d) => bytes.length + uptoBulk d + 1
  | (_, d) => uptoBulk d + 1
 end
def uptoSmall : (H : Type) → List (DataW H) → Bool := fun _ ds => decide (uptoBulkAll ds ≤ 1048576)
def OpenSpec.upto (s : _root_.Go.ChangeSpec) : _root_.Go.OpenSpec := { _root_.Go.OpenSpec.ofChange s with cond := some uptoSmall }

/-- 'laws.FnExactIsLinearRule', WHERE WHAT IT READS IS OF BULK AT MOST 1048576: true; the input reads as it did. -/
def fnExactIsLinearRuleUptoRow : OpenClaim := { program := "ytnpgjpplhlbphaa", sum := "ed7ce828292b82fd8d418c93717320ad1a132de44df60ebdf2b2b8cff58457a8", func := "loop.example/g03103/laws.FnExactIsLinearRule", spec := "fnExactIsLinearRule", apart := false, narrowed := true }
def FnExactIsLinearRuleUptoSaid : Prop := fnExactIsLinearRuleUptoRow.holds Try.pinned (OpenSpec.upto fnExactIsLinearRuleSpec)

/-- 'laws.FnExactRuleCode', WHERE WHAT IT READS IS OF BULK AT MOST 1048576: true; the input reads as it did. -/
def fnExactRuleCodeUptoRow : OpenClaim := { program := "ytnpgjpplhlbphaa", sum := "ed7ce828292b82fd8d418c93717320ad1a132de44df60ebdf2b2b8cff58457a8", func := "loop.example/g03103/laws.FnExactRuleCode", spec := "fnExactRuleCode", apart := false, narrowed := true }
def FnExactRuleCodeUptoSaid : Prop := fnExactRuleCodeUptoRow.holds Try.pinned (OpenSpec.upto fnExactRuleCodeSpec)

/-- 'laws.FnExactExampleSubst', WHERE WHAT IT READS IS OF BULK AT MOST 1048576: true; the input reads as it did. -/
def fnExactExampleSubstUptoRow : OpenClaim := { program := "ytnpgjpplhlbphaa", sum := "ed7ce828292b82fd8d418c93717320ad1a132de44df60ebdf2b2b8cff58457a8", func := "loop.example/g03103/laws.FnExactExampleSubst", spec := "fnExactExampleSubst", apart := false, narrowed := true }
def FnExactExampleSubstUptoSaid : Prop := fnExactExampleSubstUptoRow.holds Try.pinned (OpenSpec.upto fnExactExampleSubstSpec)

/-- 'laws.FnExactIsSubst', WHERE WHAT IT READS IS OF BULK AT MOST 1048576: true; the input reads as it did. -/
def fnExactIsSubstUptoRow : OpenClaim := { program := "ytnpgjpplhlbphaa", sum := "ed7ce828292b82fd8d418c93717320ad1a132de44df60ebdf2b2b8cff58457a8", func := "loop.example/g03103/laws.FnExactIsSubst", spec := "fnExactIsSubst", apart := false, narrowed := true }
def FnExactIsSubstUptoSaid : Prop := fnExactIsSubstUptoRow.holds Try.pinned (OpenSpec.upto fnExactIsSubstSpec)

/-- 'laws.FnExactPlacesIn', WHERE WHAT IT READS IS OF BULK AT MOST 1048576: true; the input reads as it did. -/
def fnExactPlacesInUptoRow : OpenClaim := { program := "ytnpgjpplhlbphaa", sum := "ed7ce828292b82fd8d418c93717320ad1a132de44df60ebdf2b2b8cff58457a8", func := "loop.example/g03103/laws.FnExactPlacesIn", spec := "fnExactPlacesIn", apart := false, narrowed := true }
def FnExactPlacesInUptoSaid : Prop := fnExactPlacesInUptoRow.holds Try.pinned (OpenSpec.upto fnExactPlacesInSpec)

/-- 'laws.FnExactRuleNumber', WHERE WHAT IT READS IS OF BULK AT MOST 1048576: true; the input reads as it did. -/
def fnExactRuleNumberUptoRow : OpenClaim := { program := "ytnpgjpplhlbphaa", sum := "ed7ce828292b82fd8d418c93717320ad1a132de44df60ebdf2b2b8cff58457a8", func := "loop.example/g03103/laws.FnExactRuleNumber", spec := "fnExactRuleNumber", apart := false, narrowed := true }
def FnExactRuleNumberUptoSaid : Prop := fnExactRuleNumberUptoRow.holds Try.pinned (OpenSpec.upto fnExactRuleNumberSpec)

end Rows
end Go.Proofs.Ytnpgjpplhlbphaa
