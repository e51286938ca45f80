/-
  DERIVED. GIVEN WITH THE SEED: THE CARDS: each row of YtpfeflhcbcgbfaaDoorRows.lean that lists a variable, with what it lists TIED to the program's text (the seventh form; the later family's looks); each row that meets fmt, with fmt's text TOLD by the authors' own Lean function (tested against real Go, not proved from fmt's source: count such statements apart). THE CARD IS WHAT COUNTS. Prove the row's statement (the work); the ties are given (YtpfeflhcbcgbfaaDoorTie.lean); close each card by the builder's one call (the guide's Derived/Test/ToyasCard.lean, 'card_holds'). Laid BY PROGRAM, IN A SANDBOX (cutbox-door.mjs). By AI agents, Wed Nov 11 2026. No macro, syntax, notation, axiom, sorry.
-/
import Derived.Test.YtpfeflhcbcgbfaaDoorRows
import GoSem.ClaimSeven
namespace Go.Proofs.YtpfeflhcbcgbfaaDoor
namespace Rows

/-- THE TIED CARD OF 'laws.FnExactDescribeLabels'. -/
def fnExactDescribeLabelsCard : Claim7 := { stood := { row := fnExactDescribeLabelsRow, standIns := [], harness := (true, "0a1910087f483f2c78ebd50a77617b59d3d058e84d100eea0855ef4ee0134430"), looks := false }, kinds := [], alts := [], laidByText := true, laidKinds := [.data, .data, .data], laidTests := true, laidLooks := .later }
def FnExactDescribeLabelsCardSaid : Prop := Claim7.holds Tryd.pinned (.plain (OpenSpec.ofChange fnExactDescribeLabelsSpec)) fnExactDescribeLabelsCard

/-- THE SECOND FORM's CARD OF 'laws.FnExactDescribeLabels'. -/
def fnExactDescribeLabelsUptoCard : Claim7 := { stood := { row := fnExactDescribeLabelsUptoRow, standIns := [], harness := (true, "0a1910087f483f2c78ebd50a77617b59d3d058e84d100eea0855ef4ee0134430"), looks := false }, kinds := [], alts := [], laidByText := true, laidKinds := [.data, .data, .data], laidTests := true, laidLooks := .later }
def FnExactDescribeLabelsUptoCardSaid : Prop := Claim7.holds Tryd.pinned (.plain (OpenSpec.upto fnExactDescribeLabelsSpec)) fnExactDescribeLabelsUptoCard
end Rows
end Go.Proofs.YtpfeflhcbcgbfaaDoor
