/-
  DERIVED. GIVEN WITH THE SEED: THE CARDS: each row of YtmjkclonkhempaaGreatDoorRows.lean that lists a variable, with what it lists TIED to the program's text (the seventh form; the later family's looks); each row that meets fmt, with fmt's text TOLD by the authors' own Lean function (tested against real Go, not proved from fmt's source: count such statements apart). THE CARD IS WHAT COUNTS. Prove the row's statement (the work); the ties are given (YtmjkclonkhempaaGreatDoorTie.lean); close each card by the builder's one call (the guide's Derived/Test/ToyasCard.lean, 'card_holds'). Laid BY PROGRAM, IN A SANDBOX (cutbox-door.mjs). By AI agents, Wed Nov 11 2026. No macro, syntax, notation, axiom, sorry.
-/
import Derived.Test.YtmjkclonkhempaaGreatDoorRows
import GoSem.ClaimSeven
namespace Go.Proofs.YtmjkclonkhempaaGreatDoor
namespace Rows

/-- THE TIED CARD OF 'synchronylaw23.GenClasses'. -/
def genClassesCard : Claim7 := { stood := { row := genClassesRow, standIns := [], harness := (true, "abfdb656779e64e15ad5df123746c2a1f245e249c8b33503d9e1172b249e1019"), looks := false }, kinds := [], alts := [], laidByText := true, laidKinds := [.data, .data, .data], laidTests := true, laidLooks := .later }
def GenClassesCardSaid : Prop := Claim7.holds Tryz.pinned (.plain (OpenSpec.ofChange genClassesSpec)) genClassesCard

/-- THE SECOND FORM's CARD OF 'synchronylaw23.GenClasses'. -/
def genClassesUptoCard : Claim7 := { stood := { row := genClassesUptoRow, standIns := [], harness := (true, "abfdb656779e64e15ad5df123746c2a1f245e249c8b33503d9e1172b249e1019"), looks := false }, kinds := [], alts := [], laidByText := true, laidKinds := [.data, .data, .data], laidTests := true, laidLooks := .later }
def GenClassesUptoCardSaid : Prop := Claim7.holds Tryz.pinned (.plain (OpenSpec.upto genClassesSpec)) genClassesUptoCard
end Rows
end Go.Proofs.YtmjkclonkhempaaGreatDoor
