/-
  DERIVED. GIVEN WITH THE SEED: THE CARDS: each row of YtpncmmdjkcdemaaDoorRows.lean that lists a variable, with what it lists TIED to the program's text (the seventh form; the later family's looks); each row that meets fmt, with fmt's text TOLD by the authors' own Lean function (tested against real Go, not proved from fmt's source: count such statements apart). THE CARD IS WHAT COUNTS. Prove the row's statement (the work); the ties are given (YtpncmmdjkcdemaaDoorTie.lean); close each card by the builder's one call (the guide's Derived/Test/ToyasCard.lean, 'card_holds'). Laid BY PROGRAM, IN A SANDBOX (cutbox-door.mjs). By AI agents, Wed Nov 11 2026. No macro, syntax, notation, axiom, sorry.
-/
import Derived.Test.YtpncmmdjkcdemaaDoorRows
import GoSem.ClaimSeven
namespace Go.Proofs.YtpncmmdjkcdemaaDoor
namespace Rows

/-- THE TIED CARD OF 'laws.FnExactExampleShift'. -/
def fnExactExampleShiftCard : Claim7 := { stood := { row := fnExactExampleShiftRow, standIns := [], harness := (true, "54c3f7c00f5662df13d6bebfe318e5c8d34d6c60b8dc9841aa15b402820f3398"), looks := true }, kinds := [], alts := [], laidByText := true, laidKinds := [.data, .data, .data, .data, .sentinel, .sentinel, .pinned], laidTests := true, laidLooks := .later }
def FnExactExampleShiftCardSaid : Prop := Claim7.holds Tryd.pinned (.plain (OpenSpec.ofChange fnExactExampleShiftSpec)) fnExactExampleShiftCard

/-- THE TIED CARD OF 'laws.FnExactExampleMatrix'. -/
def fnExactExampleMatrixCard : Claim7 := { stood := { row := fnExactExampleMatrixRow, standIns := [], harness := (true, "54c3f7c00f5662df13d6bebfe318e5c8d34d6c60b8dc9841aa15b402820f3398"), looks := true }, kinds := [], alts := [], laidByText := true, laidKinds := [.data, .data, .data, .data, .sentinel, .sentinel, .pinned], laidTests := true, laidLooks := .later }
def FnExactExampleMatrixCardSaid : Prop := Claim7.holds Tryd.pinned (.plain (OpenSpec.ofChange fnExactExampleMatrixSpec)) fnExactExampleMatrixCard

/-- THE TIED CARD OF 'laws.FnExactNewSession'. -/
def fnExactNewSessionCard : Claim7 := { stood := { row := fnExactNewSessionRow, standIns := [], harness := (true, "54c3f7c00f5662df13d6bebfe318e5c8d34d6c60b8dc9841aa15b402820f3398"), looks := true }, kinds := [], alts := [], laidByText := true, laidKinds := [.data, .data, .data, .data, .sentinel, .sentinel, .pinned], laidTests := true, laidLooks := .later }
def FnExactNewSessionCardSaid : Prop := Claim7.holds Tryd.pinned (.plain (OpenSpec.ofChange fnExactNewSessionSpec)) fnExactNewSessionCard

/-- THE SECOND FORM's CARD OF 'laws.FnExactExampleShift'. -/
def fnExactExampleShiftUptoCard : Claim7 := { stood := { row := fnExactExampleShiftUptoRow, standIns := [], harness := (true, "54c3f7c00f5662df13d6bebfe318e5c8d34d6c60b8dc9841aa15b402820f3398"), looks := true }, kinds := [], alts := [], laidByText := true, laidKinds := [.data, .data, .data, .data, .sentinel, .sentinel, .pinned], laidTests := true, laidLooks := .later }
def FnExactExampleShiftUptoCardSaid : Prop := Claim7.holds Tryd.pinned (.plain (OpenSpec.upto fnExactExampleShiftSpec)) fnExactExampleShiftUptoCard

/-- THE SECOND FORM's CARD OF 'laws.FnExactExampleMatrix'. -/
def fnExactExampleMatrixUptoCard : Claim7 := { stood := { row := fnExactExampleMatrixUptoRow, standIns := [], harness := (true, "54c3f7c00f5662df13d6bebfe318e5c8d34d6c60b8dc9841aa15b402820f3398"), looks := true }, kinds := [], alts := [], laidByText := true, laidKinds := [.data, .data, .data, .data, .sentinel, .sentinel, .pinned], laidTests := true, laidLooks := .later }
def FnExactExampleMatrixUptoCardSaid : Prop := Claim7.holds Tryd.pinned (.plain (OpenSpec.upto fnExactExampleMatrixSpec)) fnExactExampleMatrixUptoCard

/-- THE SECOND FORM's CARD OF 'laws.FnExactNewSession'. -/
def fnExactNewSessionUptoCard : Claim7 := { stood := { row := fnExactNewSessionUptoRow, standIns := [], harness := (true, "54c3f7c00f5662df13d6bebfe318e5c8d34d6c60b8dc9841aa15b402820f3398"), looks := true }, kinds := [], alts := [], laidByText := true, laidKinds := [.data, .data, .data, .data, .sentinel, .sentinel, .pinned], laidTests := true, laidLooks := .later }
def FnExactNewSessionUptoCardSaid : Prop := Claim7.holds Tryd.pinned (.plain (OpenSpec.upto fnExactNewSessionSpec)) fnExactNewSessionUptoCard
end Rows
end Go.Proofs.YtpncmmdjkcdemaaDoor
