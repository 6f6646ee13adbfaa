/-
  DERIVED. GIVEN WITH THE SEED: THE CARDS: each row of YtofhhkkncaoneaaDoorRows.lean that lists a variable, with what it lists TIED to the program's text (the seventh form; the later family's looks); each row that meets fmt, with fmt's text TOLD by the authors' own Lean function (tested against real Go, not proved from fmt's source: count such statements apart). THE CARD IS WHAT COUNTS. Prove the row's statement (the work); the ties are given (YtofhhkkncaoneaaDoorTie.lean); close each card by the builder's one call (the guide's Derived/Test/ToyasCard.lean, 'card_holds'). Laid BY PROGRAM, IN A SANDBOX (cutbox-door.mjs). By AI agents, Wed Nov 11 2026. No macro, syntax, notation, axiom, sorry.
-/
import Derived.Test.YtofhhkkncaoneaaDoorRows
import GoSem.ClaimSeven
namespace Go.Proofs.YtofhhkkncaoneaaDoor
namespace Rows

/-- THE TIED CARD OF 'synchronylaw28.CpuSteps'. -/
def cpuStepsCard : Claim7 := { stood := { row := cpuStepsRow, standIns := [], harness := (true, "ddcb3d030981bfb935d8df24c0ac1ed3ed3367ca49721f66f8c74f3e46c13dbf"), looks := false }, kinds := [], alts := [], laidByText := true, laidKinds := [.widerDeep], laidTests := true, laidLooks := .later }
def CpuStepsCardSaid : Prop := Claim7.holds Tryd.pinned (.plain (OpenSpec.ofChange cpuStepsSpec)) cpuStepsCard

/-- THE TIED CARD OF 'synchronylaw28.CpuLoads'. -/
def cpuLoadsCard : Claim7 := { stood := { row := cpuLoadsRow, standIns := [], harness := (true, "ddcb3d030981bfb935d8df24c0ac1ed3ed3367ca49721f66f8c74f3e46c13dbf"), looks := false }, kinds := [], alts := [], laidByText := true, laidKinds := [.widerDeep], laidTests := true, laidLooks := .later }
def CpuLoadsCardSaid : Prop := Claim7.holds Tryd.pinned (.plain (OpenSpec.ofChange cpuLoadsSpec)) cpuLoadsCard

/-- THE TIED CARD OF 'synchronylaw28.CpuAnew'. -/
def cpuAnewCard : Claim7 := { stood := { row := cpuAnewRow, standIns := [], harness := (true, "ddcb3d030981bfb935d8df24c0ac1ed3ed3367ca49721f66f8c74f3e46c13dbf"), looks := false }, kinds := [], alts := [], laidByText := true, laidKinds := [.widerDeep], laidTests := true, laidLooks := .later }
def CpuAnewCardSaid : Prop := Claim7.holds Tryd.pinned (.plain (OpenSpec.ofChange cpuAnewSpec)) cpuAnewCard

/-- THE TIED CARD OF 'synchronylaw28.CpuWorst'. -/
def cpuWorstCard : Claim7 := { stood := { row := cpuWorstRow, standIns := [], harness := (true, "ddcb3d030981bfb935d8df24c0ac1ed3ed3367ca49721f66f8c74f3e46c13dbf"), looks := false }, kinds := [], alts := [], laidByText := true, laidKinds := [.widerDeep], laidTests := true, laidLooks := .later }
def CpuWorstCardSaid : Prop := Claim7.holds Tryd.pinned (.plain (OpenSpec.ofChange cpuWorstSpec)) cpuWorstCard

/-- THE SECOND FORM's CARD OF 'synchronylaw28.CpuSteps'. -/
def cpuStepsUptoCard : Claim7 := { stood := { row := cpuStepsUptoRow, standIns := [], harness := (true, "ddcb3d030981bfb935d8df24c0ac1ed3ed3367ca49721f66f8c74f3e46c13dbf"), looks := false }, kinds := [], alts := [], laidByText := true, laidKinds := [.widerDeep], laidTests := true, laidLooks := .later }
def CpuStepsUptoCardSaid : Prop := Claim7.holds Tryd.pinned (.plain (OpenSpec.upto cpuStepsSpec)) cpuStepsUptoCard

/-- THE SECOND FORM's CARD OF 'synchronylaw28.CpuLoads'. -/
def cpuLoadsUptoCard : Claim7 := { stood := { row := cpuLoadsUptoRow, standIns := [], harness := (true, "ddcb3d030981bfb935d8df24c0ac1ed3ed3367ca49721f66f8c74f3e46c13dbf"), looks := false }, kinds := [], alts := [], laidByText := true, laidKinds := [.widerDeep], laidTests := true, laidLooks := .later }
def CpuLoadsUptoCardSaid : Prop := Claim7.holds Tryd.pinned (.plain (OpenSpec.upto cpuLoadsSpec)) cpuLoadsUptoCard

/-- THE SECOND FORM's CARD OF 'synchronylaw28.CpuAnew'. -/
def cpuAnewUptoCard : Claim7 := { stood := { row := cpuAnewUptoRow, standIns := [], harness := (true, "ddcb3d030981bfb935d8df24c0ac1ed3ed3367ca49721f66f8c74f3e46c13dbf"), looks := false }, kinds := [], alts := [], laidByText := true, laidKinds := [.widerDeep], laidTests := true, laidLooks := .later }
def CpuAnewUptoCardSaid : Prop := Claim7.holds Tryd.pinned (.plain (OpenSpec.upto cpuAnewSpec)) cpuAnewUptoCard

/-- THE SECOND FORM's CARD OF 'synchronylaw28.CpuWorst'. -/
def cpuWorstUptoCard : Claim7 := { stood := { row := cpuWorstUptoRow, standIns := [], harness := (true, "ddcb3d030981bfb935d8df24c0ac1ed3ed3367ca49721f66f8c74f3e46c13dbf"), looks := false }, kinds := [], alts := [], laidByText := true, laidKinds := [.widerDeep], laidTests := true, laidLooks := .later }
def CpuWorstUptoCardSaid : Prop := Claim7.holds Tryd.pinned (.plain (OpenSpec.upto cpuWorstSpec)) cpuWorstUptoCard
end Rows
end Go.Proofs.YtofhhkkncaoneaaDoor
