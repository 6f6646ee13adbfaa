/- GenWords: a word's program goes through the word's letters, for all texts and numbers; a text that is no word is refused; the tables as the program's text lays them. -/
import Derived.Test.YtkimfnammkljoaaGreatDoorHeP
import Derived.Test.YtkimfnammkljoaaGreatDoorHeR
import Derived.Test.YtkimfnammkljoaaGreatDoorTie
set_option linter.unusedVariables false
set_option linter.unusedSimpArgs false
set_option maxRecDepth 4000
namespace Go.Proofs.YtkimfnammkljoaaGreatDoor.words
open Go.ChangeShapes Go.WideShapes Go.ChangeAt Go.RowKit

theorem own : ownKnob Tryz.prog.godebug = none := by kernel_rfl

/-- A world for the witness: the tables hold what their initialisers lay. -/
noncomputable def litCells : DataW Unit → Array Value
 | .agg parts => (parts.map fun | .lit (.int k n) => Value.int k n | _ => Value.bool false).toArray
 | _ => #[]
noncomputable def layAt (b : Nat) (cs : Array Value) (w : World) : World :=
 { w with heap := w.heap.modify b fun
   | .cells _ t frozen => .cells cs t frozen
   | o => o }
noncomputable def laidWorld (os : Os) : World :=
 layAt 3 (litCells Rows.laid_math_bits_deBruijn64tab) (layAt 2 (litCells Rows.laid_math_bits_deBruijn32tab) (layAt 1 (litCells Rows.laid_internal_strconv_uint64pow10) (World.holding Tryz.prog os ⟨#[], #[], []⟩)))
theorem laid_met (os : Os) : laidMet Tryz.prog Rows.genWordsRow.laid ((laidWorld os).forCall (fun _ _ => 0) ⟨#[], #[.string ⟨#[]⟩, .int .u8 0], []⟩).memory :=
 laidMet_of_run' 8 (by kernel_rfl) (by kernel_rfl)
theorem reads (os : Os) {H : Type} (enc : TypeId × Value → H) : ∃ places, DataW.whole enc Tryz.prog ((laidWorld os).forCall (fun _ _ => 0) ⟨#[], #[.string ⟨#[]⟩, .int .u8 0], []⟩).memory Tryz.f3.params.toList Rows.genWordsSpec.vars false #[Value.string ⟨#[]⟩, .int .u8 0].toList 8 = some ([.lit (.string []), .lit (.int .u8 0)], [], places) :=
 ⟨[], by kernel_rfl⟩

set_option maxRecDepth 100000 in
theorem lifted (os : Os) (started : os.Started) (H : Type) (enc : TypeId × Value → H) (F : Stop.Interp) :
  ReturnsInHanded {} Tryz.checked os 3 .any ((OpenSpec.ofChange Rows.genWordsSpec).preRow enc Tryz.prog Tryz.f3 Rows.genWordsRow.domain false Rows.genWordsRow.laid) (((OpenSpec.ofChange Rows.genWordsSpec).at F).post enc Tryz.prog Tryz.f3 false true false false) := by
 obtain ⟨places, hx⟩ := reads os enc
 refine returnsInHanded_of_row (C := Tryz.checked) (s := OpenSpec.ofChange Rows.genWordsSpec) own started (by kernel_rfl) Tryz.func3
  (witness_row_at (enc := enc) (C := Tryz.checked) false (laidWorld os) #[.string ⟨#[]⟩, .int .u8 0] rfl (by kernel_rfl) (by kernel_rfl) (by kernel_rfl)
   (OpenSpec.preRow_of_cond 8 hx (by kernel_rfl) (fun k hk => by cases hk) (by kernel_rfl) (laid_met os))) ?_
 intro W base args ds gs before hval hW a1 hcond a2 hL a3 a4
 exact Go.Ac.contractSN (f := 3) (fn := Tryz.f3) (spec := Rows.genWordsSpec) rfl rfl rfl (fun _ _ _ => rfl) (fun s n hn => Go.Ac.law3 s n hn) H enc W base args ds gs before hval hW hL

theorem said : Rows.GenWordsSaid :=
 OpenClaim.holds_of_cond 3 Tryz.f3 rfl rfl rfl rfl rfl rfl rfl ⟨rfl, rfl, rfl, rfl, rfl⟩ rfl rfl rfl rfl rfl (by kernel_rfl) Tryz.func3 facts
  (of_decide_eq_true (by kernel_rfl)) (by unfold Func.isWrapper; first | (rw [if_pos (by decide +kernel)]; kernel_rfl) | (rw [if_neg (by decide +kernel)]; exact ⟨rfl, rfl⟩))
  (fun os started H enc _ F => by rw [OpenClaim.pre_eq_preRow]; exact lifted os started H enc F)

theorem params3 : Tryz.f3.params = #[9, 5] := rfl
theorem plain (f : FuncId) (fn : Func) (hf : Tryz.pinned.checked.prog.funcNamed "synchrony/synchronylaw23.GenWords" = some f) (hfn : Tryz.pinned.checked.prog.funcs[f]? = some fn) :
  true = Tryz.pinned.checked.prog.looks [] ∧ ∀ (j : Nat) t, fn.params[j]? = some t → Tryz.pinned.checked.prog.wantsStandIn t = false := by
 obtain rfl : f = 3 := Option.some.inj ((show Tryz.prog.funcNamed "synchrony/synchronylaw23.GenWords" = some 3 by kernel_rfl).symm.trans hf) |>.symm
 obtain rfl : fn = Tryz.f3 := (Option.some.inj (Tryz.func3.symm.trans hfn)).symm
 refine ⟨by kernel_rfl, fun j t ht => ?_⟩
 rw [params3] at ht
 match j with
 | 0 =>
  obtain rfl : 9 = t := Option.some.inj ht
  exact (show Tryz.prog.wantsStandIn 9 = false by kernel_rfl)
 | 1 =>
  obtain rfl : 5 = t := Option.some.inj ht
  exact (show Tryz.prog.wantsStandIn 5 = false by kernel_rfl)
 | j + 2 => exact absurd ht (by simp)
/-- No function of the program starts a goroutine. -/
theorem noGo : (Tryz.prog.funcs.toList.all fun fn => !fn.goes) = true := by kernel_rfl
theorem goes_none (f : FuncId) : Tryz.prog.goes f = false := by
 have h : ∀ (g : FuncId) (fn : Func), Tryz.prog.funcs[g]? = some fn → fn.goes = false := fun g fn hg => by
  have h1 := noGo
  rw [List.all_eq_true] at h1
  have := h1 fn (List.mem_of_getElem? (by rw [Array.getElem?_toList]; exact hg))
  simpa using this
 unfold Program.goes
 rw [Bool.or_eq_false_iff]
 constructor
 ·rw [List.any_eq_false]
  intro g _ hg
  cases h2 : Tryz.prog.funcs[g]? with
  | none => rw [h2] at hg; simp at hg
  | some fn => rw [h2] at hg; simp [h g fn h2] at hg
 ·have : Tryz.prog.funcs.any Func.goes = false := by
   rw [Array.any_eq_false]
   intro i hi
   rw [h i _ (Array.getElem?_eq_getElem hi)]; simp
  rw [this, Bool.and_false]
theorem noGoes : false = Rows.genWordsRow.goesBy Tryz.pinned.checked.prog := by
 show false = (Option.any Tryz.prog.goes (Tryz.prog.funcNamed "synchrony/synchronylaw23.GenWords") || false)
 cases Tryz.prog.funcNamed "synchrony/synchronylaw23.GenWords" with
 | none => rfl
 | some f => simp [goes_none f]
theorem card : Rows.GenWordsCardSaid :=
 Claim7.holds_tied_plain_at .later [] _ _ _ _ said (fun _ h => by cases h) (by kernel_rfl) (fun _ h => by cases h) genWords_row_tie rfl ⟨rfl, rfl⟩ (by kernel_rfl) rfl plain noGoes
#print axioms card
end Go.Proofs.YtkimfnammkljoaaGreatDoor.words
