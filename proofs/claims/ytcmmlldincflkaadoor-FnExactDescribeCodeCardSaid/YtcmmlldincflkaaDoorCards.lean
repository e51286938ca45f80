/-
  DERIVED. GIVEN WITH THE SEED: THE CARDS: each row of YtcmmlldincflkaaDoorRows.lean that lists a variable, with what it lists TIED to the program's text (the seventh form; the later family's looks); each row that meets fmt, with fmt's text TOLD by the authors' own Lean function (tested against real Go, not proved from fmt's source: count such statements apart). THE CARD IS WHAT COUNTS. Prove the row's statement (the work); the ties are given (YtcmmlldincflkaaDoorTie.lean); close each card by the builder's one call (the guide's Derived/Test/ToyasCard.lean, 'card_holds'). Laid BY PROGRAM, IN A SANDBOX (cutbox-door.mjs). By AI agents, Wed Nov 11 2026. No macro, syntax, notation, axiom, sorry.
-/
import Derived.Test.YtcmmlldincflkaaDoorRows
import GoSem.ClaimSeven
namespace Go.Proofs.YtcmmlldincflkaaDoor
namespace Rows

/-- THE TIED CARD OF 'laws.FnExactDescribeCode'. -/
def fnExactDescribeCodeCard : Claim7 := { stood := { row := fnExactDescribeCodeRow, standIns := [], harness := (true, "ccfbe47bf5e2374b921df9a59842e8ce7a467f1e26223a8225383a9be1350b42"), looks := false }, kinds := [], alts := [], laidByText := true, laidKinds := [.data, .data, .data], laidTests := true, laidLooks := .later }
def FnExactDescribeCodeCardSaid : Prop := Claim7.holds Tryd.pinned (.plain (OpenSpec.ofChange fnExactDescribeCodeSpec)) fnExactDescribeCodeCard

/-- THE SECOND FORM's CARD OF 'laws.FnExactDescribeCode'. -/
def fnExactDescribeCodeUptoCard : Claim7 := { stood := { row := fnExactDescribeCodeUptoRow, standIns := [], harness := (true, "ccfbe47bf5e2374b921df9a59842e8ce7a467f1e26223a8225383a9be1350b42"), looks := false }, kinds := [], alts := [], laidByText := true, laidKinds := [.data, .data, .data], laidTests := true, laidLooks := .later }
def FnExactDescribeCodeUptoCardSaid : Prop := Claim7.holds Tryd.pinned (.plain (OpenSpec.upto fnExactDescribeCodeSpec)) fnExactDescribeCodeUptoCard
end Rows
end Go.Proofs.YtcmmlldincflkaaDoor
