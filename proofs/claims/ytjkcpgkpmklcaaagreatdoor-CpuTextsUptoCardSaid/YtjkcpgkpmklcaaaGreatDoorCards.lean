/-
  DERIVED. GIVEN WITH THE SEED: THE CARDS: each row of YtjkcpgkpmklcaaaGreatDoorRows.lean that lists a variable, with what it lists TIED to the program's text (the seventh form; the later family's looks); each row that meets fmt, with fmt's text TOLD by the authors' own Lean function (tested against real Go, not proved from fmt's source: count such statements apart). THE CARD IS WHAT COUNTS. Prove the row's statement (the work); the ties are given (YtjkcpgkpmklcaaaGreatDoorTie.lean); close each card by the builder's one call (the guide's Derived/Test/ToyasCard.lean, 'card_holds'). Laid BY PROGRAM, IN A SANDBOX (cutbox-door.mjs). By AI agents, Wed Nov 11 2026. No macro, syntax, notation, axiom, sorry.
-/
import Derived.Test.YtjkcpgkpmklcaaaGreatDoorRows
import GoSem.ClaimSeven
namespace Go.Proofs.YtjkcpgkpmklcaaaGreatDoor
namespace Rows

/-- THE TIED CARD OF 'synchronylaw28.CpuTexts'. -/
def cpuTextsCard : Claim7 := { stood := { row := cpuTextsRow, standIns := [], harness := (true, "f191ff0accb41218b784780ffc92ed09019d393607b24e0ef10e7c40626100ee"), looks := true }, kinds := [], alts := [], laidByText := true, laidKinds := [.data, .data, .data, .data, .sentinel, .sentinel, .widerDeep, .pinned], laidTests := true, laidLooks := .later }
def CpuTextsCardSaid : Prop := Claim7.holds Tryz.pinned (.plain (OpenSpec.ofChange cpuTextsSpec)) cpuTextsCard

/-- THE SECOND FORM's CARD OF 'synchronylaw28.CpuTexts'. -/
def cpuTextsUptoCard : Claim7 := { stood := { row := cpuTextsUptoRow, standIns := [], harness := (true, "f191ff0accb41218b784780ffc92ed09019d393607b24e0ef10e7c40626100ee"), looks := true }, kinds := [], alts := [], laidByText := true, laidKinds := [.data, .data, .data, .data, .sentinel, .sentinel, .widerDeep, .pinned], laidTests := true, laidLooks := .later }
def CpuTextsUptoCardSaid : Prop := Claim7.holds Tryz.pinned (.plain (OpenSpec.upto cpuTextsSpec)) cpuTextsUptoCard
end Rows
end Go.Proofs.YtjkcpgkpmklcaaaGreatDoor
