/-
  DERIVED. GIVEN WITH THE SEED: THE CARDS: each row of YtfkfhjehmhajeaaDoorRows.lean that lists a variable, with what it lists TIED to the program's text (the seventh form; the later family's looks); each row that meets fmt, with fmt's text TOLD by the authors' own Lean function (tested against real Go, not proved from fmt's source: count such statements apart). THE CARD IS WHAT COUNTS. Prove the row's statement (the work); the ties are given (YtfkfhjehmhajeaaDoorTie.lean); close each card by the builder's one call (the guide's Derived/Test/ToyasCard.lean, 'card_holds'). Laid BY PROGRAM, IN A SANDBOX (cutbox-door.mjs). By AI agents, Wed Nov 11 2026. No macro, syntax, notation, axiom, sorry.
-/
import Derived.Test.YtfkfhjehmhajeaaDoorRows
import GoSem.ClaimSeven
namespace Go.Proofs.YtfkfhjehmhajeaaDoor
namespace Rows

/-- THE TIED CARD OF 'laws.FnExactNumbersText'. -/
def fnExactNumbersTextCard : Claim7 := { stood := { row := fnExactNumbersTextRow, standIns := [], harness := (true, "8d973b159058dfbb522b5bdc466501554f31d63ba4e741b74370a471ffaf6323"), looks := false }, kinds := [], alts := [], laidByText := true, laidKinds := [.data, .data, .data], laidTests := true, laidLooks := .later }
def FnExactNumbersTextCardSaid : Prop := Claim7.holds Tryd.pinned (.plain (OpenSpec.ofChange fnExactNumbersTextSpec)) fnExactNumbersTextCard

/-- THE SECOND FORM's CARD OF 'laws.FnExactNumbersText'. -/
def fnExactNumbersTextUptoCard : Claim7 := { stood := { row := fnExactNumbersTextUptoRow, standIns := [], harness := (true, "8d973b159058dfbb522b5bdc466501554f31d63ba4e741b74370a471ffaf6323"), looks := false }, kinds := [], alts := [], laidByText := true, laidKinds := [.data, .data, .data], laidTests := true, laidLooks := .later }
def FnExactNumbersTextUptoCardSaid : Prop := Claim7.holds Tryd.pinned (.plain (OpenSpec.upto fnExactNumbersTextSpec)) fnExactNumbersTextUptoCard
end Rows
end Go.Proofs.YtfkfhjehmhajeaaDoor
