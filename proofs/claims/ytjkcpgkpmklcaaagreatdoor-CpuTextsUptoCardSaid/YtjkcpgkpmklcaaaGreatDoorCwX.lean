/- CpuTexts: the machine of an image that was written as text and read again has the same outputs, for all images and rows; for arguments of bulk at most 1048576; the tables and the errors as the program's text lays them. -/
import Derived.Test.YtjkcpgkpmklcaaaGreatDoorCwR
import Derived.Test.YtjkcpgkpmklcaaaGreatDoorCards
import Derived.Test.YtjkcpgkpmklcaaaGreatDoorTie
set_option linter.unusedVariables false
set_option linter.unusedSimpArgs false
set_option maxRecDepth 4000
namespace Go.Proofs.YtjkcpgkpmklcaaaGreatDoor.texts
open Go.ChangeShapes Go.WideShapes Go.ChangeAt Go.RowKit

theorem own : ownKnob Tryz.prog.godebug = none := by kernel_rfl

/-- A world for the witness: the tables hold what their initialisers lay; the two errors are there. -/
noncomputable def flatW : Nat → DataW Unit → List Value
 | k + 1, .agg parts => (parts.map (flatW k)).flatten
 | _, .lit (.int k n) => [Value.int k n]
 | _, .lit (.string s) => [Value.string ⟨s.toArray⟩]
 | _, _ => [Value.bool false]
noncomputable def layAt (b : Nat) (cs : List Value) (w : World) : World :=
 { w with heap := w.heap.modify b fun
   | .cells _ t frozen => .cells cs.toArray t frozen
   | o => o }
noncomputable def layErr (b : Nat) (s : List UInt8) (w : World) : World :=
 layAt b [.iface 160 (.pointer (some ⟨w.heap.size, 0, none⟩))] { w with heap := w.heap.push (.cells #[.string ⟨s.toArray⟩] 162 (0, 0)) }
noncomputable def laidWorld (os : Os) : World :=
 layErr 6 [118, 97, 108, 117, 101, 32, 111, 117, 116, 32, 111, 102, 32, 114, 97, 110, 103, 101] (layErr 5 [105, 110, 118, 97, 108, 105, 100, 32, 115, 121, 110, 116, 97, 120]
  (layAt 8 (flatW 4 Rows.laid_math_bits_deBruijn64tab) (layAt 7 (flatW 4 Rows.laid_math_bits_deBruijn32tab) (layAt 4 (flatW 4 Rows.laid_unicode_utf8_acceptRanges) (layAt 3 (flatW 4 Rows.laid_unicode_utf8_first)
   (layAt 2 (flatW 4 Rows.laid_internal_strconv_uint64pow10) (layAt 0 (flatW 4 Rows.laid_synchrony_asm_operations) (World.holding Tryz.prog os ⟨#[], #[], []⟩))))))))
theorem laid_met (os : Os) : laidMet Tryz.prog Rows.cpuTextsUptoRow.laid ((laidWorld os).forCall (fun _ _ => 0) ⟨#[], #[.agg #[.slice none 0 0, .slice none 0 0], .slice none 0 0], []⟩).memory :=
 laidMet_of_run' 8 (by kernel_rfl) (by kernel_rfl)
theorem reads (os : Os) {H : Type} (enc : TypeId × Value → H) : ∃ places, DataW.whole enc Tryz.prog ((laidWorld os).forCall (fun _ _ => 0) ⟨#[], #[.agg #[.slice none 0 0, .slice none 0 0], .slice none 0 0], []⟩).memory Tryz.f3.params.toList Rows.cpuTextsSpec.vars false #[Value.agg #[.slice none 0 0, .slice none 0 0], .slice none 0 0].toList 8 = some ([.agg [.nil, .nil], .nil], [], places) :=
 ⟨[], by kernel_rfl⟩

set_option maxRecDepth 100000 in
theorem liftedUpto (os : Os) (started : os.Started) (H : Type) (enc : TypeId × Value → H) (F : Stop.Interp) :
  ReturnsInHanded {} Tryz.checked os 3 .any ((Rows.OpenSpec.upto Rows.cpuTextsSpec).preRow enc Tryz.prog Tryz.f3 Rows.cpuTextsUptoRow.domain false Rows.cpuTextsUptoRow.laid) (((Rows.OpenSpec.upto Rows.cpuTextsSpec).at F).post enc Tryz.prog Tryz.f3 false true false false) := by
 obtain ⟨places, hx⟩ := reads os enc
 refine returnsInHanded_of_row (C := Tryz.checked) (s := Rows.OpenSpec.upto Rows.cpuTextsSpec) own started (by kernel_rfl) Tryz.func3
  (witness_row_at (enc := enc) (C := Tryz.checked) false (laidWorld os) #[.agg #[.slice none 0 0, .slice none 0 0], .slice none 0 0] rfl (by kernel_rfl) (by kernel_rfl) (by kernel_rfl)
   (OpenSpec.preRow_of_cond 8 hx (by kernel_rfl) (fun k hk => by cases hk; kernel_rfl) (by kernel_rfl) (laid_met os))) ?_
 intro W base args ds gs before hval hW a1 hcond a2 hL a3 a4
 exact Go.Ac.contract2 (f := 3) (fn := Tryz.f3) (spec := Rows.cpuTextsSpec) rfl rfl rfl (fun _ _ _ => rfl) (fun im rows h1 h2 h3 h4 => Go.Ac.texts_den im rows h1 h2 h3 h4) H enc W base args ds gs before hval hW (hcond _ rfl) hL

theorem saidUpto : Rows.CpuTextsUptoSaid :=
 OpenClaim.holds_of_cond 3 Tryz.f3 rfl rfl rfl rfl rfl rfl rfl ⟨rfl, rfl, rfl, rfl, rfl⟩ rfl rfl rfl rfl rfl (by kernel_rfl) Tryz.func3 (by kernel_rfl)
  (of_decide_eq_true (by kernel_rfl)) (by unfold Func.isWrapper; first | (rw [if_pos (by decide +kernel)]; kernel_rfl) | (rw [if_neg (by decide +kernel)]; exact ⟨rfl, rfl⟩))
  (fun os started H enc _ F => by rw [OpenClaim.pre_eq_preRow]; exact liftedUpto os started H enc F)

theorem params3 : Tryz.f3.params = #[25, 26] := rfl
theorem plain (f : FuncId) (fn : Func) (hf : Tryz.pinned.checked.prog.funcNamed "synchrony/synchronylaw28.CpuTexts" = some f) (hfn : Tryz.pinned.checked.prog.funcs[f]? = some fn) :
  true = Tryz.pinned.checked.prog.looks [] ∧ ∀ (j : Nat) t, fn.params[j]? = some t → Tryz.pinned.checked.prog.wantsStandIn t = false := by
 obtain rfl : f = 3 := Option.some.inj ((show Tryz.prog.funcNamed "synchrony/synchronylaw28.CpuTexts" = some 3 by kernel_rfl).symm.trans hf) |>.symm
 obtain rfl : fn = Tryz.f3 := (Option.some.inj (Tryz.func3.symm.trans hfn)).symm
 refine ⟨by kernel_rfl, fun j t ht => ?_⟩
 rw [params3] at ht
 have h1 : t = 25 ∨ t = 26 := by
  have := Array.mem_of_getElem? ht
  simp at this
  exact this
 rcases h1 with rfl | rfl
 ·exact (show Tryz.prog.wantsStandIn 25 = false by kernel_rfl)
 ·exact (show Tryz.prog.wantsStandIn 26 = false by kernel_rfl)

theorem cardUpto : Rows.CpuTextsUptoCardSaid :=
 Claim7.holds_tied_plain_at .later [] _ _ _ _ saidUpto (fun _ h => by cases h) (by kernel_rfl) (fun _ h => by cases h) cpuTextsUpto_row_tie rfl ⟨rfl, rfl⟩ (by kernel_rfl) rfl plain (by kernel_rfl)
#print axioms cardUpto
end Go.Proofs.YtjkcpgkpmklcaaaGreatDoor.texts
