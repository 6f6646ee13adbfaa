/-
  DERIVED. GIVEN WITH THE SEED: THE CARDS: each row of YtkimfnammkljoaaGreatDoorRows.lean that lists a variable, with what it lists TIED to the program's text (the seventh form; the later family's looks); each row that meets fmt, with fmt's text TOLD by the authors' own Lean function (tested against real Go, not proved from fmt's source: count such statements apart). THE CARD IS WHAT COUNTS. Prove the row's statement (the work); the ties are given (YtkimfnammkljoaaGreatDoorTie.lean); close each card by the builder's one call (the guide's Derived/Test/ToyasCard.lean, 'card_holds'). Laid BY PROGRAM, IN A SANDBOX (cutbox-door.mjs). By AI agents, Wed Nov 11 2026. No macro, syntax, notation, axiom, sorry.
-/
import Derived.Test.YtkimfnammkljoaaGreatDoorRows
import GoSem.ClaimSeven
namespace Go.Proofs.YtkimfnammkljoaaGreatDoor
namespace Rows

/-- THE TIED CARD OF 'synchronylaw23.GenWords'. -/
def genWordsCard : Claim7 := { stood := { row := genWordsRow, standIns := [], harness := (true, "176a9cd2e784a63358eee01fbe2ca2e833a0f71656f04290e8ff18759bbd4db9"), looks := true }, kinds := [], alts := [], laidByText := true, laidKinds := [.data, .data, .data], laidTests := true, laidLooks := .later }
def GenWordsCardSaid : Prop := Claim7.holds Tryz.pinned (.plain (OpenSpec.ofChange genWordsSpec)) genWordsCard

/-- THE SECOND FORM's CARD OF 'synchronylaw23.GenWords'. -/
def genWordsUptoCard : Claim7 := { stood := { row := genWordsUptoRow, standIns := [], harness := (true, "176a9cd2e784a63358eee01fbe2ca2e833a0f71656f04290e8ff18759bbd4db9"), looks := true }, kinds := [], alts := [], laidByText := true, laidKinds := [.data, .data, .data], laidTests := true, laidLooks := .later }
def GenWordsUptoCardSaid : Prop := Claim7.holds Tryz.pinned (.plain (OpenSpec.upto genWordsSpec)) genWordsUptoCard
end Rows
end Go.Proofs.YtkimfnammkljoaaGreatDoor
