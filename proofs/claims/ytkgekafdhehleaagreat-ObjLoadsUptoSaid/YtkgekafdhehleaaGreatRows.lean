/-
  NARROWER THAN 'FOR EVERY INPUT', by the rows' own cells (each row's printed sentence says how): ObjChecks: loops · ObjTyped: loops · ObjSames: loops · ObjSteps: loops · ObjLoads: loops · ObjAnew: loops.
  DERIVED. THE GIVEN ROWS OF THIS SEAT. 6 by the template 'for every input the law returns true; each argument reads behind the call as it read before'; 0 by the template 'total and deterministic' (their statements: YtkgekafdhehleaaGreatTotals.lean).
  GIVEN WITH THE SEED: the statements are not yours to turn. If you find one false, say at which input.
  Laid BY PROGRAM, IN A SANDBOX (cutbox-rows.mjs): the forced cells as the released guide's own fill.sh prints them over the translation 8fdaec05eb110f51… (all of the seat's roots in one cut). By AI agents, Wed Nov 11 2026. No macro, syntax, notation, axiom, sorry.
-/
import Derived.Test.YtkgekafdhehleaaGreatChecked
import GoSem.Claim
import GoSem.ClaimJoined
import GoSem.ClaimMapViews
import Derived.JoinedTies
import Derived.KernelRfl
namespace Go.Proofs.YtkgekafdhehleaaGreat
/- THE CELL 'sum', in the pinned program and in every row, IS THE sha256 OF THE DUMP (.gsa) THAT YtkgekafdhehleaaGreatProg.lean LOADS. Nothing in Lean hashes anything: it is a label: what it is worth is what the hold of that sum in a sandbox is worth. -/
noncomputable def Tryz.pinned : Pinned := { name := "ytkgekafdhehleaagreat", sum := "8fdaec05eb110f51261be6f0f0611617c8ee6ecc79e2a51422db121929c8d808", checked := Tryz.checked }
namespace Rows
def none {H : Type} : Left H := { results := [], args := [] }

/-- 'synchronylaw22.ObjChecks': WHATEVER THE INPUT: true; the input reads as it did. -/
def objChecksSpec : ChangeSpec := { name := "objChecks", fn := fun _ => fun
  | [d] => { results := [.lit (.bool true)], args := [d] }
  | _ => none }
def objChecksRow : OpenClaim := { program := "ytkgekafdhehleaagreat", sum := "8fdaec05eb110f51261be6f0f0611617c8ee6ecc79e2a51422db121929c8d808", func := "synchrony/synchronylaw22.ObjChecks", spec := "objChecks", unfollowed := true, recurses := true, loops := true, apart := false }
def ObjChecksSaid : Prop := objChecksRow.holds Tryz.pinned (OpenSpec.ofChange objChecksSpec)

/-- ITS FALSE NEIGHBOUR: 'it returns false'. Refute it at one input. -/
def objChecksWrong : ChangeSpec := { name := "objChecks", fn := fun _ => fun
  | [d] => { results := [.lit (.bool false)], args := [d] }
  | _ => none }
def ObjChecksWrongFalsely : Prop := objChecksRow.holds Tryz.pinned (OpenSpec.ofChange objChecksWrong)

/-- 'synchronylaw22.ObjTyped': WHATEVER THE INPUT: true; the input reads as it did. -/
def objTypedSpec : ChangeSpec := { name := "objTyped", fn := fun _ => fun
  | [d1, d2] => { results := [.lit (.bool true)], args := [d1, d2] }
  | _ => none }
def objTypedRow : OpenClaim := { program := "ytkgekafdhehleaagreat", sum := "8fdaec05eb110f51261be6f0f0611617c8ee6ecc79e2a51422db121929c8d808", func := "synchrony/synchronylaw22.ObjTyped", spec := "objTyped", unfollowed := true, recurses := true, loops := true, apart := false }
def ObjTypedSaid : Prop := objTypedRow.holds Tryz.pinned (OpenSpec.ofChange objTypedSpec)

/-- ITS FALSE NEIGHBOUR: 'it returns false'. Refute it at one input. -/
def objTypedWrong : ChangeSpec := { name := "objTyped", fn := fun _ => fun
  | [d1, d2] => { results := [.lit (.bool false)], args := [d1, d2] }
  | _ => none }
def ObjTypedWrongFalsely : Prop := objTypedRow.holds Tryz.pinned (OpenSpec.ofChange objTypedWrong)

/-- 'synchronylaw22.ObjSames': WHATEVER THE INPUT: true; the input reads as it did. -/
def objSamesSpec : ChangeSpec := { name := "objSames", fn := fun _ => fun
  | [d1, d2] => { results := [.lit (.bool true)], args := [d1, d2] }
  | _ => none }
def objSamesRow : OpenClaim := { program := "ytkgekafdhehleaagreat", sum := "8fdaec05eb110f51261be6f0f0611617c8ee6ecc79e2a51422db121929c8d808", func := "synchrony/synchronylaw22.ObjSames", spec := "objSames", unfollowed := true, recurses := true, loops := true, apart := false }
def ObjSamesSaid : Prop := objSamesRow.holds Tryz.pinned (OpenSpec.ofChange objSamesSpec)

/-- ITS FALSE NEIGHBOUR: 'it returns false'. Refute it at one input. -/
def objSamesWrong : ChangeSpec := { name := "objSames", fn := fun _ => fun
  | [d1, d2] => { results := [.lit (.bool false)], args := [d1, d2] }
  | _ => none }
def ObjSamesWrongFalsely : Prop := objSamesRow.holds Tryz.pinned (OpenSpec.ofChange objSamesWrong)

/-- 'synchronylaw22.ObjSteps': WHATEVER THE INPUT: true; the input reads as it did. -/
def objStepsSpec : ChangeSpec := { name := "objSteps", fn := fun _ => fun
  | [d1, d2, d3] => { results := [.lit (.bool true)], args := [d1, d2, d3] }
  | _ => none }
def objStepsRow : OpenClaim := { program := "ytkgekafdhehleaagreat", sum := "8fdaec05eb110f51261be6f0f0611617c8ee6ecc79e2a51422db121929c8d808", func := "synchrony/synchronylaw22.ObjSteps", spec := "objSteps", unfollowed := true, recurses := true, loops := true, apart := false }
def ObjStepsSaid : Prop := objStepsRow.holds Tryz.pinned (OpenSpec.ofChange objStepsSpec)

/-- ITS FALSE NEIGHBOUR: 'it returns false'. Refute it at one input. -/
def objStepsWrong : ChangeSpec := { name := "objSteps", fn := fun _ => fun
  | [d1, d2, d3] => { results := [.lit (.bool false)], args := [d1, d2, d3] }
  | _ => none }
def ObjStepsWrongFalsely : Prop := objStepsRow.holds Tryz.pinned (OpenSpec.ofChange objStepsWrong)

/-- 'synchronylaw22.ObjLoads': WHATEVER THE INPUT: true; the input reads as it did. -/
def objLoadsSpec : ChangeSpec := { name := "objLoads", fn := fun _ => fun
  | [d1, d2, d3, d4] => { results := [.lit (.bool true)], args := [d1, d2, d3, d4] }
  | _ => none }
def objLoadsRow : OpenClaim := { program := "ytkgekafdhehleaagreat", sum := "8fdaec05eb110f51261be6f0f0611617c8ee6ecc79e2a51422db121929c8d808", func := "synchrony/synchronylaw22.ObjLoads", spec := "objLoads", unfollowed := true, recurses := true, loops := true, apart := false }
def ObjLoadsSaid : Prop := objLoadsRow.holds Tryz.pinned (OpenSpec.ofChange objLoadsSpec)

/-- ITS FALSE NEIGHBOUR: 'it returns false'. Refute it at one input. -/
def objLoadsWrong : ChangeSpec := { name := "objLoads", fn := fun _ => fun
  | [d1, d2, d3, d4] => { results := [.lit (.bool false)], args := [d1, d2, d3, d4] }
  | _ => none }
def ObjLoadsWrongFalsely : Prop := objLoadsRow.holds Tryz.pinned (OpenSpec.ofChange objLoadsWrong)

/-- 'synchronylaw22.ObjAnew': WHATEVER THE INPUT: true; the input reads as it did. -/
def objAnewSpec : ChangeSpec := { name := "objAnew", fn := fun _ => fun
  | [d1, d2, d3, d4] => { results := [.lit (.bool true)], args := [d1, d2, d3, d4] }
  | _ => none }
def objAnewRow : OpenClaim := { program := "ytkgekafdhehleaagreat", sum := "8fdaec05eb110f51261be6f0f0611617c8ee6ecc79e2a51422db121929c8d808", func := "synchrony/synchronylaw22.ObjAnew", spec := "objAnew", unfollowed := true, recurses := true, loops := true, apart := false }
def ObjAnewSaid : Prop := objAnewRow.holds Tryz.pinned (OpenSpec.ofChange objAnewSpec)

/-- ITS FALSE NEIGHBOUR: 'it returns false'. Refute it at one input. -/
def objAnewWrong : ChangeSpec := { name := "objAnew", fn := fun _ => fun
  | [d1, d2, d3, d4] => { results := [.lit (.bool false)], args := [d1, d2, d3, d4] }
  | _ => none }
def ObjAnewWrongFalsely : Prop := objAnewRow.holds Tryz.pinned (OpenSpec.ofChange objAnewWrong)

/- THE SECOND FORM. 'bulk': how many values and letters a reading holds, each counted each time it is reached (what is shared counts as often as it is met; a slice's spare places count too). A statement '..UptoSaid' is the law's where the arguments, and the package variables that the reading takes, are together of bulk at most 1048576: NARROWER than '..Said'. Prove '..Said' where nothing that the law and all that it calls make is longer than what came in: it says more and counts as full. Else prove '..UptoSaid'. A law counts once. -/
mutual
def uptoBulk {H : Type} : DataW H → Nat
  | .lit (.string bytes) => bytes.length + 1
  | .lit _ => 1
  | .nil => 1
  | .ptr d => uptoBulk d + 1
  | .slice elems spare => uptoBulkAll elems + uptoBulkAll spare + 1
  | .agg parts => uptoBulkAll parts + 1
  | .iface _ d => uptoBulk d + 1
  | .map entries => uptoBulkEntries entries + 1
  | .held _ => 1
def uptoBulkAll {H : Type} : List (DataW H) → Nat
  | [] => 0
  | d :: r => uptoBulk d + uptoBulkAll r
def uptoBulkEntries {H : Type} : List (Lit × DataW H) → Nat
  | [] => 0
  | x :: r => uptoBulkEntry x + uptoBulkEntries r
def uptoBulkEntry {H : Type} : Lit × DataW H → Nat
  | (.string bytes, d) => bytes.length + uptoBulk d + 1
  | (_, d) => uptoBulk d + 1
 end
def uptoSmall : (H : Type) → List (DataW H) → Bool := fun _ ds => decide (uptoBulkAll ds ≤ 1048576)
def OpenSpec.upto (s : _root_.Go.ChangeSpec) : _root_.Go.OpenSpec := { _root_.Go.OpenSpec.ofChange s with cond := some uptoSmall }

/-- 'synchronylaw22.ObjChecks', WHERE WHAT IT READS IS OF BULK AT MOST 1048576: true; the input reads as it did. -/
def objChecksUptoRow : OpenClaim := { program := "ytkgekafdhehleaagreat", sum := "8fdaec05eb110f51261be6f0f0611617c8ee6ecc79e2a51422db121929c8d808", func := "synchrony/synchronylaw22.ObjChecks", spec := "objChecks", unfollowed := true, recurses := true, loops := true, apart := false, narrowed := true }
def ObjChecksUptoSaid : Prop := objChecksUptoRow.holds Tryz.pinned (OpenSpec.upto objChecksSpec)

/-- 'synchronylaw22.ObjTyped', WHERE WHAT IT READS IS OF BULK AT MOST 1048576: true; the input reads as it did. -/
def objTypedUptoRow : OpenClaim := { program := "ytkgekafdhehleaagreat", sum := "8fdaec05eb110f51261be6f0f0611617c8ee6ecc79e2a51422db121929c8d808", func := "synchrony/synchronylaw22.ObjTyped", spec := "objTyped", unfollowed := true, recurses := true, loops := true, apart := false, narrowed := true }
def ObjTypedUptoSaid : Prop := objTypedUptoRow.holds Tryz.pinned (OpenSpec.upto objTypedSpec)

/-- 'synchronylaw22.ObjSames', WHERE WHAT IT READS IS OF BULK AT MOST 1048576: true; the input reads as it did. -/
def objSamesUptoRow : OpenClaim := { program := "ytkgekafdhehleaagreat", sum := "8fdaec05eb110f51261be6f0f0611617c8ee6ecc79e2a51422db121929c8d808", func := "synchrony/synchronylaw22.ObjSames", spec := "objSames", unfollowed := true, recurses := true, loops := true, apart := false, narrowed := true }
def ObjSamesUptoSaid : Prop := objSamesUptoRow.holds Tryz.pinned (OpenSpec.upto objSamesSpec)

/-- 'synchronylaw22.ObjSteps', WHERE WHAT IT READS IS OF BULK AT MOST 1048576: true; the input reads as it did. -/
def objStepsUptoRow : OpenClaim := { program := "ytkgekafdhehleaagreat", sum := "8fdaec05eb110f51261be6f0f0611617c8ee6ecc79e2a51422db121929c8d808", func := "synchrony/synchronylaw22.ObjSteps", spec := "objSteps", unfollowed := true, recurses := true, loops := true, apart := false, narrowed := true }
def ObjStepsUptoSaid : Prop := objStepsUptoRow.holds Tryz.pinned (OpenSpec.upto objStepsSpec)

/-- 'synchronylaw22.ObjLoads', WHERE WHAT IT READS IS OF BULK AT MOST 1048576: true; the input reads as it did. -/
def objLoadsUptoRow : OpenClaim := { program := "ytkgekafdhehleaagreat", sum := "8fdaec05eb110f51261be6f0f0611617c8ee6ecc79e2a51422db121929c8d808", func := "synchrony/synchronylaw22.ObjLoads", spec := "objLoads", unfollowed := true, recurses := true, loops := true, apart := false, narrowed := true }
def ObjLoadsUptoSaid : Prop := objLoadsUptoRow.holds Tryz.pinned (OpenSpec.upto objLoadsSpec)

/-- 'synchronylaw22.ObjAnew', WHERE WHAT IT READS IS OF BULK AT MOST 1048576: true; the input reads as it did. -/
def objAnewUptoRow : OpenClaim := { program := "ytkgekafdhehleaagreat", sum := "8fdaec05eb110f51261be6f0f0611617c8ee6ecc79e2a51422db121929c8d808", func := "synchrony/synchronylaw22.ObjAnew", spec := "objAnew", unfollowed := true, recurses := true, loops := true, apart := false, narrowed := true }
def ObjAnewUptoSaid : Prop := objAnewUptoRow.holds Tryz.pinned (OpenSpec.upto objAnewSpec)

end Rows
end Go.Proofs.YtkgekafdhehleaaGreat
