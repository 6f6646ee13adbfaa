/- GenClasses: the class of a node is that of the chapter, or the error, for all nodes; for arguments of bulk at most 1048576; the tables as the program's text lays them. -/
import Derived.Test.YtmjkclonkhempaaGreatDoorGePM
import Derived.Test.YtmjkclonkhempaaGreatDoorCards
import Derived.Test.YtmjkclonkhempaaGreatDoorTie
set_option linter.unusedVariables false
set_option linter.unusedSimpArgs false
set_option maxRecDepth 4000
namespace Go.Proofs.YtmjkclonkhempaaGreatDoor.classes
open Go.ChangeShapes Go.WideShapes Go.ChangeAt Go.RowKit

theorem own : ownKnob Tryz.prog.godebug = none := by kernel_rfl

/-- A world for the witness: the tables hold what their initialisers lay. -/
noncomputable def litCells : DataW Unit → Array Value
 | .agg parts => (parts.map fun | .lit (.int k n) => Value.int k n | _ => Value.bool false).toArray
 | _ => #[]
noncomputable def layAt (b : Nat) (cs : Array Value) (w : World) : World :=
 { w with heap := w.heap.modify b fun
   | .cells _ t frozen => .cells cs t frozen
   | o => o }
noncomputable def laidWorld (os : Os) : World :=
 layAt 3 (litCells Rows.laid_math_bits_deBruijn64tab) (layAt 2 (litCells Rows.laid_math_bits_deBruijn32tab) (layAt 1 (litCells Rows.laid_internal_strconv_uint64pow10) (World.holding Tryz.prog os ⟨#[], #[], []⟩)))
theorem laid_met (os : Os) : laidMet Tryz.prog Rows.genClassesUptoRow.laid ((laidWorld os).forCall (fun _ _ => 0) ⟨#[], #[.agg #[.string ⟨#[]⟩, .slice none 0 0, .slice none 0 0, .slice none 0 0, .slice none 0 0]], []⟩).memory :=
 laidMet_of_run' 8 (by kernel_rfl) (by kernel_rfl)
theorem reads (os : Os) {H : Type} (enc : TypeId × Value → H) : ∃ places, DataW.whole enc Tryz.prog ((laidWorld os).forCall (fun _ _ => 0) ⟨#[], #[.agg #[.string ⟨#[]⟩, .slice none 0 0, .slice none 0 0, .slice none 0 0, .slice none 0 0]], []⟩).memory Tryz.f3.params.toList Rows.genClassesSpec.vars false #[Value.agg #[.string ⟨#[]⟩, .slice none 0 0, .slice none 0 0, .slice none 0 0, .slice none 0 0]].toList 8 = some ([.agg [.lit (.string []), .nil, .nil, .nil, .nil]], [], places) :=
 ⟨[], by kernel_rfl⟩

set_option maxRecDepth 100000 in
theorem liftedUpto (os : Os) (started : os.Started) (H : Type) (enc : TypeId × Value → H) (F : Stop.Interp) :
  ReturnsInHanded {} Tryz.checked os 3 .any ((Rows.OpenSpec.upto Rows.genClassesSpec).preRow enc Tryz.prog Tryz.f3 Rows.genClassesUptoRow.domain false Rows.genClassesUptoRow.laid) (((Rows.OpenSpec.upto Rows.genClassesSpec).at F).post enc Tryz.prog Tryz.f3 false true false false) := by
 obtain ⟨places, hx⟩ := reads os enc
 refine returnsInHanded_of_row (C := Tryz.checked) (s := Rows.OpenSpec.upto Rows.genClassesSpec) own started (by kernel_rfl) Tryz.func3
  (witness_row_at (enc := enc) (C := Tryz.checked) false (laidWorld os) #[.agg #[.string ⟨#[]⟩, .slice none 0 0, .slice none 0 0, .slice none 0 0, .slice none 0 0]] rfl (by kernel_rfl) (by kernel_rfl) (by kernel_rfl)
   (OpenSpec.preRow_of_cond 8 hx (by kernel_rfl) (fun k hk => by cases hk; kernel_rfl) (by kernel_rfl) (laid_met os))) ?_
 intro W base args ds gs before hval hW a1 hcond a2 hL a3 a4
 exact Go.Ac.contractN (f := 3) (fn := Tryz.f3) (spec := Rows.genClassesSpec) rfl rfl rfl (fun _ _ => rfl) (fun x h1 => Go.Ac.law3 x (by omega)) H enc W base args ds gs before hval hW (hcond _ rfl) hL

theorem saidUpto : Rows.GenClassesUptoSaid :=
 OpenClaim.holds_of_cond 3 Tryz.f3 rfl rfl rfl rfl rfl rfl rfl ⟨rfl, rfl, rfl, rfl, rfl⟩ rfl rfl rfl rfl rfl (by kernel_rfl) Tryz.func3 (by kernel_rfl)
  (of_decide_eq_true (by kernel_rfl)) (by unfold Func.isWrapper; first | (rw [if_pos (by decide +kernel)]; kernel_rfl) | (rw [if_neg (by decide +kernel)]; exact ⟨rfl, rfl⟩))
  (fun os started H enc _ F => by rw [OpenClaim.pre_eq_preRow]; exact liftedUpto os started H enc F)

theorem params3 : Tryz.f3.params = #[25] := rfl
theorem plain (f : FuncId) (fn : Func) (hf : Tryz.pinned.checked.prog.funcNamed "synchrony/synchronylaw23.GenClasses" = some f) (hfn : Tryz.pinned.checked.prog.funcs[f]? = some fn) :
  false = Tryz.pinned.checked.prog.looks [] ∧ ∀ (j : Nat) t, fn.params[j]? = some t → Tryz.pinned.checked.prog.wantsStandIn t = false := by
 obtain rfl : f = 3 := Option.some.inj ((show Tryz.prog.funcNamed "synchrony/synchronylaw23.GenClasses" = some 3 by kernel_rfl).symm.trans hf) |>.symm
 obtain rfl : fn = Tryz.f3 := (Option.some.inj (Tryz.func3.symm.trans hfn)).symm
 refine ⟨by kernel_rfl, fun j t ht => ?_⟩
 rw [params3] at ht
 have h1 : t = 25 := by
  have := Array.mem_of_getElem? ht
  simpa using this
 subst h1
 exact (show Tryz.prog.wantsStandIn 25 = false by kernel_rfl)

theorem cardUpto : Rows.GenClassesUptoCardSaid :=
 Claim7.holds_tied_plain_at .later [] _ _ _ _ saidUpto (fun _ h => by cases h) (by kernel_rfl) (fun _ h => by cases h) genClassesUpto_row_tie rfl ⟨rfl, rfl⟩ (by kernel_rfl) rfl plain (by kernel_rfl)
#print axioms cardUpto
end Go.Proofs.YtmjkclonkhempaaGreatDoor.classes
