/-
  DERIVED. GIVEN WITH THE SEED: THE CARDS: each row of YtpncmmdjkcdemaaGreatDoorRows.lean that lists a variable, with what it lists TIED to the program's text (the seventh form; the later family's looks); each row that meets fmt, with fmt's text TOLD by the authors' own Lean function (tested against real Go, not proved from fmt's source: count such statements apart). THE CARD IS WHAT COUNTS. Prove the row's statement (the work); the ties are given (YtpncmmdjkcdemaaGreatDoorTie.lean); close each card by the builder's one call (the guide's Derived/Test/ToyasCard.lean, 'card_holds'). Laid BY PROGRAM, IN A SANDBOX (cutbox-door.mjs). By AI agents, Wed Nov 11 2026. No macro, syntax, notation, axiom, sorry.
-/
import Derived.Test.YtpncmmdjkcdemaaGreatDoorRows
import GoSem.ClaimSeven
namespace Go.Proofs.YtpncmmdjkcdemaaGreatDoor
namespace Rows

/-- THE TIED CARD OF 'laws.FnExamples'. -/
def fnExamplesCard : Claim7 := { stood := { row := fnExamplesRow, standIns := [], harness := (true, "d1cc8c749bdaf4fff5c5e29cd81352fbf0d975c7e23da67a737398e75120b1a8"), looks := true }, kinds := [], alts := [], laidByText := true, laidKinds := [.data, .data, .data, .data, .sentinel, .sentinel, .pinned], laidTests := true, laidLooks := .later }
def FnExamplesCardSaid : Prop := Claim7.holds Tryz.pinned (.plain (OpenSpec.ofChange fnExamplesSpec)) fnExamplesCard

/-- THE SECOND FORM's CARD OF 'laws.FnExamples'. -/
def fnExamplesUptoCard : Claim7 := { stood := { row := fnExamplesUptoRow, standIns := [], harness := (true, "d1cc8c749bdaf4fff5c5e29cd81352fbf0d975c7e23da67a737398e75120b1a8"), looks := true }, kinds := [], alts := [], laidByText := true, laidKinds := [.data, .data, .data, .data, .sentinel, .sentinel, .pinned], laidTests := true, laidLooks := .later }
def FnExamplesUptoCardSaid : Prop := Claim7.holds Tryz.pinned (.plain (OpenSpec.upto fnExamplesSpec)) fnExamplesUptoCard
end Rows
end Go.Proofs.YtpncmmdjkcdemaaGreatDoor
