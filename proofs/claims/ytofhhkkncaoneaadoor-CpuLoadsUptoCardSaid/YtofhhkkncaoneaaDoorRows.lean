/-
  NARROWER THAN 'FOR EVERY INPUT', by the rows' own cells (each row's printed sentence says how): CpuSteps: laid · CpuLoads: laid · CpuAnew: laid · CpuWorst: laid.
  DERIVED. THE GIVEN ROWS OF THIS SEAT. 4 by the template 'for every input the law returns true; each argument reads behind the call as it read before'; 0 by the template 'total and deterministic' (their statements: YtofhhkkncaoneaaDoorTotals.lean).
  GIVEN WITH THE SEED: the statements are not yours to turn. If you find one false, say at which input.
  Laid BY PROGRAM, IN A SANDBOX (cutbox-rows.mjs): the forced cells as the released guide's own fill.sh prints them over the translation e96c21b4984cb508… (all of the seat's roots in one cut). By AI agents, Wed Nov 11 2026. No macro, syntax, notation, axiom, sorry.
-/
import Derived.Test.YtofhhkkncaoneaaDoorChecked
import GoSem.Claim
import GoSem.ClaimJoined
import GoSem.ClaimMapViews
import Derived.JoinedTies
import Derived.KernelRfl
namespace Go.Proofs.YtofhhkkncaoneaaDoor
/- THE CELL 'sum', in the pinned program and in every row, IS THE sha256 OF THE DUMP (.gsa) THAT YtofhhkkncaoneaaDoorProg.lean LOADS. Nothing in Lean hashes anything: it is a label: what it is worth is what the hold of that sum in a sandbox is worth. -/
noncomputable def Tryd.pinned : Pinned := { name := "ytofhhkkncaoneaadoor", sum := "e96c21b4984cb5089e5c4d7778fa3476f57334f35677bcca82efd1409247b5a6", checked := Tryd.checked }
namespace Rows
def none {H : Type} : Left H := { results := [], args := [] }

/- WHAT THE LISTED PACKAGE-LEVEL VARIABLES READ AS WHEN THE CALL BEGINS. Each datum BY PROGRAM (the guide's laid-datum.mjs) off the statement by which the dump's own 'gosem.cut.vars' lays the variable. In a bare row this is a premise. The card (YtofhhkkncaoneaaDoorCards.lean) ties it to the program's text. -/
def laid_synchrony_asm_operations {H : Type} : DataW H := .agg [.agg [.lit (.string []), .agg [.lit (.int .i64 0), .lit (.int .i64 0), .lit (.int .i64 0), .lit (.int .i64 0)], .lit (.int .i64 0)], .agg [.lit (.string [108, 111, 97, 100]), .agg [.lit (.int .i64 1), .lit (.int .i64 3), .lit (.int .i64 0), .lit (.int .i64 0)], .lit (.int .i64 0)], .agg [.lit (.string [109, 111, 118, 101]), .agg [.lit (.int .i64 1), .lit (.int .i64 1), .lit (.int .i64 0), .lit (.int .i64 0)], .lit (.int .i64 0)], .agg [.lit (.string [114, 101, 97, 100]), .agg [.lit (.int .i64 1), .lit (.int .i64 2), .lit (.int .i64 0), .lit (.int .i64 0)], .lit (.int .i64 0)], .agg [.lit (.string [119, 114, 105, 116, 101]), .agg [.lit (.int .i64 2), .lit (.int .i64 1), .lit (.int .i64 0), .lit (.int .i64 0)], .lit (.int .i64 0)], .agg [.lit (.string [117, 110, 97, 114, 121]), .agg [.lit (.int .i64 1), .lit (.int .i64 1), .lit (.int .i64 5), .lit (.int .i64 0)], .lit (.int .i64 1)], .agg [.lit (.string [97, 112, 112, 108, 121]), .agg [.lit (.int .i64 1), .lit (.int .i64 1), .lit (.int .i64 1), .lit (.int .i64 5)], .lit (.int .i64 2)], .agg [.lit (.string [106, 117, 109, 112]), .agg [.lit (.int .i64 0), .lit (.int .i64 4), .lit (.int .i64 0), .lit (.int .i64 0)], .lit (.int .i64 0)], .agg [.lit (.string [122, 101, 114, 111]), .agg [.lit (.int .i64 1), .lit (.int .i64 4), .lit (.int .i64 0), .lit (.int .i64 0)], .lit (.int .i64 0)], .agg [.lit (.string [99, 97, 108, 108]), .agg [.lit (.int .i64 6), .lit (.int .i64 7), .lit (.int .i64 8), .lit (.int .i64 9)], .lit (.int .i64 0)], .agg [.lit (.string [114, 101, 115, 101, 116]), .agg [.lit (.int .i64 6), .lit (.int .i64 7), .lit (.int .i64 0), .lit (.int .i64 0)], .lit (.int .i64 0)]]

/-- 'synchronylaw28.CpuSteps': WHATEVER THE INPUT: true; the input reads as it did. -/
def cpuStepsSpec : ChangeSpec := { name := "cpuSteps", fn := fun _ => fun
  | [d1, d2] => { results := [.lit (.bool true)], args := [d1, d2] }
  | _ => none }
def cpuStepsRow : OpenClaim := { program := "ytofhhkkncaoneaadoor", sum := "e96c21b4984cb5089e5c4d7778fa3476f57334f35677bcca82efd1409247b5a6", func := "synchrony/synchronylaw28.CpuSteps", spec := "cpuSteps", unfollowed := true, recurses := true, named := ["synchrony/asm.operations"], apart := false, laid := [("synchrony/asm.operations", laid_synchrony_asm_operations)] }
def CpuStepsSaid : Prop := cpuStepsRow.holds Tryd.pinned (OpenSpec.ofChange cpuStepsSpec)

/-- ITS FALSE NEIGHBOUR: 'it returns false'. Refute it at one input. -/
def cpuStepsWrong : ChangeSpec := { name := "cpuSteps", fn := fun _ => fun
  | [d1, d2] => { results := [.lit (.bool false)], args := [d1, d2] }
  | _ => none }
def CpuStepsWrongFalsely : Prop := cpuStepsRow.holds Tryd.pinned (OpenSpec.ofChange cpuStepsWrong)

/-- 'synchronylaw28.CpuLoads': WHATEVER THE INPUT: true; the input reads as it did. -/
def cpuLoadsSpec : ChangeSpec := { name := "cpuLoads", fn := fun _ => fun
  | [d1, d2, d3] => { results := [.lit (.bool true)], args := [d1, d2, d3] }
  | _ => none }
def cpuLoadsRow : OpenClaim := { program := "ytofhhkkncaoneaadoor", sum := "e96c21b4984cb5089e5c4d7778fa3476f57334f35677bcca82efd1409247b5a6", func := "synchrony/synchronylaw28.CpuLoads", spec := "cpuLoads", unfollowed := true, recurses := true, named := ["synchrony/asm.operations"], apart := false, laid := [("synchrony/asm.operations", laid_synchrony_asm_operations)] }
def CpuLoadsSaid : Prop := cpuLoadsRow.holds Tryd.pinned (OpenSpec.ofChange cpuLoadsSpec)

/-- ITS FALSE NEIGHBOUR: 'it returns false'. Refute it at one input. -/
def cpuLoadsWrong : ChangeSpec := { name := "cpuLoads", fn := fun _ => fun
  | [d1, d2, d3] => { results := [.lit (.bool false)], args := [d1, d2, d3] }
  | _ => none }
def CpuLoadsWrongFalsely : Prop := cpuLoadsRow.holds Tryd.pinned (OpenSpec.ofChange cpuLoadsWrong)

/-- 'synchronylaw28.CpuAnew': WHATEVER THE INPUT: true; the input reads as it did. -/
def cpuAnewSpec : ChangeSpec := { name := "cpuAnew", fn := fun _ => fun
  | [d1, d2, d3] => { results := [.lit (.bool true)], args := [d1, d2, d3] }
  | _ => none }
def cpuAnewRow : OpenClaim := { program := "ytofhhkkncaoneaadoor", sum := "e96c21b4984cb5089e5c4d7778fa3476f57334f35677bcca82efd1409247b5a6", func := "synchrony/synchronylaw28.CpuAnew", spec := "cpuAnew", unfollowed := true, recurses := true, named := ["synchrony/asm.operations"], apart := false, laid := [("synchrony/asm.operations", laid_synchrony_asm_operations)] }
def CpuAnewSaid : Prop := cpuAnewRow.holds Tryd.pinned (OpenSpec.ofChange cpuAnewSpec)

/-- ITS FALSE NEIGHBOUR: 'it returns false'. Refute it at one input. -/
def cpuAnewWrong : ChangeSpec := { name := "cpuAnew", fn := fun _ => fun
  | [d1, d2, d3] => { results := [.lit (.bool false)], args := [d1, d2, d3] }
  | _ => none }
def CpuAnewWrongFalsely : Prop := cpuAnewRow.holds Tryd.pinned (OpenSpec.ofChange cpuAnewWrong)

/-- 'synchronylaw28.CpuWorst': WHATEVER THE INPUT: true; the input reads as it did. -/
def cpuWorstSpec : ChangeSpec := { name := "cpuWorst", fn := fun _ => fun
  | [d1, d2] => { results := [.lit (.bool true)], args := [d1, d2] }
  | _ => none }
def cpuWorstRow : OpenClaim := { program := "ytofhhkkncaoneaadoor", sum := "e96c21b4984cb5089e5c4d7778fa3476f57334f35677bcca82efd1409247b5a6", func := "synchrony/synchronylaw28.CpuWorst", spec := "cpuWorst", unfollowed := true, recurses := true, named := ["synchrony/asm.operations"], apart := false, laid := [("synchrony/asm.operations", laid_synchrony_asm_operations)] }
def CpuWorstSaid : Prop := cpuWorstRow.holds Tryd.pinned (OpenSpec.ofChange cpuWorstSpec)

/-- ITS FALSE NEIGHBOUR: 'it returns false'. Refute it at one input. -/
def cpuWorstWrong : ChangeSpec := { name := "cpuWorst", fn := fun _ => fun
  | [d1, d2] => { results := [.lit (.bool false)], args := [d1, d2] }
  | _ => none }
def CpuWorstWrongFalsely : Prop := cpuWorstRow.holds Tryd.pinned (OpenSpec.ofChange cpuWorstWrong)

/- THE SECOND FORM. 'bulk': how many values and letters a reading holds, each counted each time it is reached (what is shared counts as often as it is met; a slice's spare places count too). A statement '..UptoSaid' is the law's where the arguments, and the package variables that the reading takes, are together of bulk at most 1048576: NARROWER than '..Said'. Prove '..Said' where nothing that the law and all that it calls make is longer than what came in: it says more and counts as full. Else prove '..UptoSaid'. A law counts once. -/
mutual
def uptoBulk {H : Type} : DataW H → Nat
  | .lit (.string bytes) => bytes.length + 1
  | .lit _ => 1
  | .nil => 1
  | .ptr d => uptoBulk d + 1
  | .slice elems spare => uptoBulkAll elems + uptoBulkAll spare + 1
  | .agg parts => uptoBulkAll parts + 1
  | .iface _ d => uptoBulk d + 1
  | .map entries => uptoBulkEntries entries + 1
  | .held _ => 1
def uptoBulkAll {H : Type} : List (DataW H) → Nat
  | [] => 0
  | d :: r => uptoBulk d + uptoBulkAll r
def uptoBulkEntries {H : Type} : List (Lit × DataW H) → Nat
  | [] => 0
  | x :: r => uptoBulkEntry x + uptoBulkEntries r
def uptoBulkEntry {H : Type} : Lit × DataW H → Nat
  | (.string bytes, d) => bytes.length + uptoBulk d + 1
  | (_, d) => uptoBulk d + 1
 end
def uptoSmall : (H : Type) → List (DataW H) → Bool := fun _ ds => decide (uptoBulkAll ds ≤ 1048576)
def OpenSpec.upto (s : _root_.Go.ChangeSpec) : _root_.Go.OpenSpec := { _root_.Go.OpenSpec.ofChange s with cond := some uptoSmall }

/-- 'synchronylaw28.CpuSteps', WHERE WHAT IT READS IS OF BULK AT MOST 1048576: true; the input reads as it did. -/
def cpuStepsUptoRow : OpenClaim := { program := "ytofhhkkncaoneaadoor", sum := "e96c21b4984cb5089e5c4d7778fa3476f57334f35677bcca82efd1409247b5a6", func := "synchrony/synchronylaw28.CpuSteps", spec := "cpuSteps", unfollowed := true, recurses := true, named := ["synchrony/asm.operations"], apart := false, laid := [("synchrony/asm.operations", laid_synchrony_asm_operations)], narrowed := true }
def CpuStepsUptoSaid : Prop := cpuStepsUptoRow.holds Tryd.pinned (OpenSpec.upto cpuStepsSpec)

/-- 'synchronylaw28.CpuLoads', WHERE WHAT IT READS IS OF BULK AT MOST 1048576: true; the input reads as it did. -/
def cpuLoadsUptoRow : OpenClaim := { program := "ytofhhkkncaoneaadoor", sum := "e96c21b4984cb5089e5c4d7778fa3476f57334f35677bcca82efd1409247b5a6", func := "synchrony/synchronylaw28.CpuLoads", spec := "cpuLoads", unfollowed := true, recurses := true, named := ["synchrony/asm.operations"], apart := false, laid := [("synchrony/asm.operations", laid_synchrony_asm_operations)], narrowed := true }
def CpuLoadsUptoSaid : Prop := cpuLoadsUptoRow.holds Tryd.pinned (OpenSpec.upto cpuLoadsSpec)

/-- 'synchronylaw28.CpuAnew', WHERE WHAT IT READS IS OF BULK AT MOST 1048576: true; the input reads as it did. -/
def cpuAnewUptoRow : OpenClaim := { program := "ytofhhkkncaoneaadoor", sum := "e96c21b4984cb5089e5c4d7778fa3476f57334f35677bcca82efd1409247b5a6", func := "synchrony/synchronylaw28.CpuAnew", spec := "cpuAnew", unfollowed := true, recurses := true, named := ["synchrony/asm.operations"], apart := false, laid := [("synchrony/asm.operations", laid_synchrony_asm_operations)], narrowed := true }
def CpuAnewUptoSaid : Prop := cpuAnewUptoRow.holds Tryd.pinned (OpenSpec.upto cpuAnewSpec)

/-- 'synchronylaw28.CpuWorst', WHERE WHAT IT READS IS OF BULK AT MOST 1048576: true; the input reads as it did. -/
def cpuWorstUptoRow : OpenClaim := { program := "ytofhhkkncaoneaadoor", sum := "e96c21b4984cb5089e5c4d7778fa3476f57334f35677bcca82efd1409247b5a6", func := "synchrony/synchronylaw28.CpuWorst", spec := "cpuWorst", unfollowed := true, recurses := true, named := ["synchrony/asm.operations"], apart := false, laid := [("synchrony/asm.operations", laid_synchrony_asm_operations)], narrowed := true }
def CpuWorstUptoSaid : Prop := cpuWorstUptoRow.holds Tryd.pinned (OpenSpec.upto cpuWorstSpec)

end Rows
end Go.Proofs.YtofhhkkncaoneaaDoor
