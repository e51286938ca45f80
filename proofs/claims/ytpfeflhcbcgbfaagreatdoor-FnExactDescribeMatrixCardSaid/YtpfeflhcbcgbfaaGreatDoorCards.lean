/-
  DERIVED. GIVEN WITH THE SEED: THE CARDS: each row of YtpfeflhcbcgbfaaGreatDoorRows.lean that lists a variable, with what it lists TIED to the program's text (the seventh form; the later family's looks); each row that meets fmt, with fmt's text TOLD by the authors' own Lean function (tested against real Go, not proved from fmt's source: count such statements apart). THE CARD IS WHAT COUNTS. Prove the row's statement (the work); the ties are given (YtpfeflhcbcgbfaaGreatDoorTie.lean); close each card by the builder's one call (the guide's Derived/Test/ToyasCard.lean, 'card_holds'). Laid BY PROGRAM, IN A SANDBOX (cutbox-door.mjs). By AI agents, Wed Nov 11 2026. No macro, syntax, notation, axiom, sorry.
-/
import Derived.Test.YtpfeflhcbcgbfaaGreatDoorRows
import GoSem.ClaimSeven
namespace Go.Proofs.YtpfeflhcbcgbfaaGreatDoor
namespace Rows

/-- THE TIED CARD OF 'laws.FnExactDescribeShift'. -/
def fnExactDescribeShiftCard : Claim7 := { stood := { row := fnExactDescribeShiftRow, standIns := [], harness := (true, "8c8320814b88bdb935aa5a88e2226b0647fe5b3b616686c8676263a258487e31"), looks := false }, kinds := [], alts := [], laidByText := true, laidKinds := [.data, .data, .data], laidTests := true, laidLooks := .later }
def FnExactDescribeShiftCardSaid : Prop := Claim7.holds Tryz.pinned (.plain (OpenSpec.ofChange fnExactDescribeShiftSpec)) fnExactDescribeShiftCard

/-- THE TIED CARD OF 'laws.FnExactDescribeMatrix'. -/
def fnExactDescribeMatrixCard : Claim7 := { stood := { row := fnExactDescribeMatrixRow, standIns := [], harness := (true, "8c8320814b88bdb935aa5a88e2226b0647fe5b3b616686c8676263a258487e31"), looks := false }, kinds := [], alts := [], laidByText := true, laidKinds := [.data, .data, .data], laidTests := true, laidLooks := .later }
def FnExactDescribeMatrixCardSaid : Prop := Claim7.holds Tryz.pinned (.plain (OpenSpec.ofChange fnExactDescribeMatrixSpec)) fnExactDescribeMatrixCard

/-- THE SECOND FORM's CARD OF 'laws.FnExactDescribeShift'. -/
def fnExactDescribeShiftUptoCard : Claim7 := { stood := { row := fnExactDescribeShiftUptoRow, standIns := [], harness := (true, "8c8320814b88bdb935aa5a88e2226b0647fe5b3b616686c8676263a258487e31"), looks := false }, kinds := [], alts := [], laidByText := true, laidKinds := [.data, .data, .data], laidTests := true, laidLooks := .later }
def FnExactDescribeShiftUptoCardSaid : Prop := Claim7.holds Tryz.pinned (.plain (OpenSpec.upto fnExactDescribeShiftSpec)) fnExactDescribeShiftUptoCard

/-- THE SECOND FORM's CARD OF 'laws.FnExactDescribeMatrix'. -/
def fnExactDescribeMatrixUptoCard : Claim7 := { stood := { row := fnExactDescribeMatrixUptoRow, standIns := [], harness := (true, "8c8320814b88bdb935aa5a88e2226b0647fe5b3b616686c8676263a258487e31"), looks := false }, kinds := [], alts := [], laidByText := true, laidKinds := [.data, .data, .data], laidTests := true, laidLooks := .later }
def FnExactDescribeMatrixUptoCardSaid : Prop := Claim7.holds Tryz.pinned (.plain (OpenSpec.upto fnExactDescribeMatrixSpec)) fnExactDescribeMatrixUptoCard
end Rows
end Go.Proofs.YtpfeflhcbcgbfaaGreatDoor
