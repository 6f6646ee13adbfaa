/-
  DERIVED. GIVEN WITH THE SEED: THE CARDS: each row of YtmjkclonkhempabGreatDoorRows.lean that lists a variable, with what it lists TIED to the program's text (the seventh form; the later family's looks); each row that meets fmt, with fmt's text TOLD by the authors' own Lean function (tested against real Go, not proved from fmt's source: count such statements apart). THE CARD IS WHAT COUNTS. Prove the row's statement (the work); the ties are given (YtmjkclonkhempabGreatDoorTie.lean); close each card by the builder's one call (the guide's Derived/Test/ToyasCard.lean, 'card_holds'). Laid BY PROGRAM, IN A SANDBOX (cutbox-door.mjs). By AI agents, Wed Nov 11 2026. No macro, syntax, notation, axiom, sorry.
-/
import Derived.Test.YtmjkclonkhempabGreatDoorRows
import GoSem.ClaimSeven
namespace Go.Proofs.YtmjkclonkhempabGreatDoor
namespace Rows

/-- THE TIED CARD OF 'synchronylaw27.EmitSizes'. -/
def emitSizesCard : Claim7 := { stood := { row := emitSizesRow, standIns := [], harness := (true, "04dd97dbd361cb6635438f3922e81cf53252b3e34d47f8c28ac78326b3d26cea"), looks := false }, kinds := [], alts := [], laidByText := true, laidKinds := [.widerDeep], laidTests := true, laidLooks := .later }
def EmitSizesCardSaid : Prop := Claim7.holds Tryz.pinned (.plain (OpenSpec.ofChange emitSizesSpec)) emitSizesCard

/-- THE SECOND FORM's CARD OF 'synchronylaw27.EmitSizes'. -/
def emitSizesUptoCard : Claim7 := { stood := { row := emitSizesUptoRow, standIns := [], harness := (true, "04dd97dbd361cb6635438f3922e81cf53252b3e34d47f8c28ac78326b3d26cea"), looks := false }, kinds := [], alts := [], laidByText := true, laidKinds := [.widerDeep], laidTests := true, laidLooks := .later }
def EmitSizesUptoCardSaid : Prop := Claim7.holds Tryz.pinned (.plain (OpenSpec.upto emitSizesSpec)) emitSizesUptoCard
end Rows
end Go.Proofs.YtmjkclonkhempabGreatDoor
