/-
  NARROWER THAN 'FOR EVERY INPUT', by the rows' own cells (each row's printed sentence says how): EmitSizes: loops, laid.
  DERIVED. THE GIVEN ROWS OF THIS SEAT. 1 by the template 'for every input the law returns true; each argument reads behind the call as it read before'; 0 by the template 'total and deterministic' (their statements: YtmjkclonkhempabGreatDoorTotals.lean).
  GIVEN WITH THE SEED: the statements are not yours to turn. If you find one false, say at which input.
  Laid BY PROGRAM, IN A SANDBOX (cutbox-rows.mjs): the forced cells as the released guide's own fill.sh prints them over the translation 4d83e5ec90db46ef… (all of the seat's roots in one cut). By AI agents, Wed Nov 11 2026. No macro, syntax, notation, axiom, sorry.
-/
import Derived.Test.YtmjkclonkhempabGreatDoorChecked
import GoSem.Claim
import GoSem.ClaimJoined
import GoSem.ClaimMapViews
import Derived.JoinedTies
import Derived.KernelRfl
namespace Go.Proofs.YtmjkclonkhempabGreatDoor
/- THE CELL 'sum', in the pinned program and in every row, IS THE sha256 OF THE DUMP (.gsa) THAT YtmjkclonkhempabGreatDoorProg.lean LOADS. Nothing in Lean hashes anything: it is a label: what it is worth is what the hold of that sum in a sandbox is worth. -/
noncomputable def Tryz.pinned : Pinned := { name := "ytmjkclonkhempabgreatdoor", sum := "4d83e5ec90db46ef22bc5696e4357c3db0cc5a4d380a465e5a39da86a20a778c", checked := Tryz.checked }
namespace Rows
def none {H : Type} : Left H := { results := [], args := [] }

/- WHAT THE LISTED PACKAGE-LEVEL VARIABLES READ AS WHEN THE CALL BEGINS. Each datum BY PROGRAM (the guide's laid-datum.mjs) off the statement by which the dump's own 'gosem.cut.vars' lays the variable. In a bare row this is a premise. The card (YtmjkclonkhempabGreatDoorCards.lean) ties it to the program's text. -/
def laid_synchrony_asm_operations {H : Type} : DataW H := .agg [.agg [.lit (.string []), .agg [.lit (.int .i64 0), .lit (.int .i64 0), .lit (.int .i64 0), .lit (.int .i64 0)], .lit (.int .i64 0)], .agg [.lit (.string [108, 111, 97, 100]), .agg [.lit (.int .i64 1), .lit (.int .i64 3), .lit (.int .i64 0), .lit (.int .i64 0)], .lit (.int .i64 0)], .agg [.lit (.string [109, 111, 118, 101]), .agg [.lit (.int .i64 1), .lit (.int .i64 1), .lit (.int .i64 0), .lit (.int .i64 0)], .lit (.int .i64 0)], .agg [.lit (.string [114, 101, 97, 100]), .agg [.lit (.int .i64 1), .lit (.int .i64 2), .lit (.int .i64 0), .lit (.int .i64 0)], .lit (.int .i64 0)], .agg [.lit (.string [119, 114, 105, 116, 101]), .agg [.lit (.int .i64 2), .lit (.int .i64 1), .lit (.int .i64 0), .lit (.int .i64 0)], .lit (.int .i64 0)], .agg [.lit (.string [117, 110, 97, 114, 121]), .agg [.lit (.int .i64 1), .lit (.int .i64 1), .lit (.int .i64 5), .lit (.int .i64 0)], .lit (.int .i64 1)], .agg [.lit (.string [97, 112, 112, 108, 121]), .agg [.lit (.int .i64 1), .lit (.int .i64 1), .lit (.int .i64 1), .lit (.int .i64 5)], .lit (.int .i64 2)], .agg [.lit (.string [106, 117, 109, 112]), .agg [.lit (.int .i64 0), .lit (.int .i64 4), .lit (.int .i64 0), .lit (.int .i64 0)], .lit (.int .i64 0)], .agg [.lit (.string [122, 101, 114, 111]), .agg [.lit (.int .i64 1), .lit (.int .i64 4), .lit (.int .i64 0), .lit (.int .i64 0)], .lit (.int .i64 0)], .agg [.lit (.string [99, 97, 108, 108]), .agg [.lit (.int .i64 6), .lit (.int .i64 7), .lit (.int .i64 8), .lit (.int .i64 9)], .lit (.int .i64 0)], .agg [.lit (.string [114, 101, 115, 101, 116]), .agg [.lit (.int .i64 6), .lit (.int .i64 7), .lit (.int .i64 0), .lit (.int .i64 0)], .lit (.int .i64 0)]]

/-- 'synchronylaw27.EmitSizes': WHATEVER THE INPUT: true; the input reads as it did. -/
def emitSizesSpec : ChangeSpec := { name := "emitSizes", fn := fun _ => fun
  | [d1, d2, d3] => { results := [.lit (.bool true)], args := [d1, d2, d3] }
  | _ => none }
def emitSizesRow : OpenClaim := { program := "ytmjkclonkhempabgreatdoor", sum := "4d83e5ec90db46ef22bc5696e4357c3db0cc5a4d380a465e5a39da86a20a778c", func := "synchrony/synchronylaw27.EmitSizes", spec := "emitSizes", unfollowed := true, recurses := true, named := ["synchrony/asm.operations"], loops := true, apart := false, laid := [("synchrony/asm.operations", laid_synchrony_asm_operations)] }
def EmitSizesSaid : Prop := emitSizesRow.holds Tryz.pinned (OpenSpec.ofChange emitSizesSpec)

/-- ITS FALSE NEIGHBOUR: 'it returns false'. Refute it at one input. -/
def emitSizesWrong : ChangeSpec := { name := "emitSizes", fn := fun _ => fun
  | [d1, d2, d3] => { results := [.lit (.bool false)], args := [d1, d2, d3] }
  | _ => none }
def EmitSizesWrongFalsely : Prop := emitSizesRow.holds Tryz.pinned (OpenSpec.ofChange emitSizesWrong)

/- THE SECOND FORM. 'bulk': how many values and letters a reading holds, each counted each time it is reached (what is shared counts as often as it is met; a slice's spare places count too). A statement '..UptoSaid' is the law's where the arguments, and the package variables that the reading takes, are together of bulk at most 1048576: NARROWER than '..Said'. Prove '..Said' where nothing that the law and all that it calls make is longer than what came in: it says more and counts as full. Else prove '..UptoSaid'. A law counts once. -/
mutual
def uptoBulk {H : Type} : DataW H → Nat
  | .lit (.string bytes) => bytes.length + 1
  | .lit _ => 1
  | .nil => 1
  | .ptr d => uptoBulk d + 1
  | .slice elems spare => uptoBulkAll elems + uptoBulkAll spare + 1
  | .agg parts => uptoBulkAll parts + 1
  | .iface _ d => uptoBulk d + 1
  | .map entries => uptoBulkEntries entries + 1
  | .held _ => 1
def uptoBulkAll {H : Type} : List (DataW H) → Nat
  | [] => 0
  | d :: r => uptoBulk d + uptoBulkAll r
def uptoBulkEntries {H : Type} : List (Lit × DataW H) → Nat
  | [] => 0
  | x :: r => uptoBulkEntry x + uptoBulkEntries r
def uptoBulkEntry {H : Type} : Lit × DataW H → Nat
  | (.string bytes, d) => bytes.length + uptoBulk d + 1
  | (_, d) => uptoBulk d + 1
 end
def uptoSmall : (H : Type) → List (DataW H) → Bool := fun _ ds => decide (uptoBulkAll ds ≤ 1048576)
def OpenSpec.upto (s : _root_.Go.ChangeSpec) : _root_.Go.OpenSpec := { _root_.Go.OpenSpec.ofChange s with cond := some uptoSmall }

/-- 'synchronylaw27.EmitSizes', WHERE WHAT IT READS IS OF BULK AT MOST 1048576: true; the input reads as it did. -/
def emitSizesUptoRow : OpenClaim := { program := "ytmjkclonkhempabgreatdoor", sum := "4d83e5ec90db46ef22bc5696e4357c3db0cc5a4d380a465e5a39da86a20a778c", func := "synchrony/synchronylaw27.EmitSizes", spec := "emitSizes", unfollowed := true, recurses := true, named := ["synchrony/asm.operations"], loops := true, apart := false, laid := [("synchrony/asm.operations", laid_synchrony_asm_operations)], narrowed := true }
def EmitSizesUptoSaid : Prop := emitSizesUptoRow.holds Tryz.pinned (OpenSpec.upto emitSizesSpec)

end Rows
end Go.Proofs.YtmjkclonkhempabGreatDoor
