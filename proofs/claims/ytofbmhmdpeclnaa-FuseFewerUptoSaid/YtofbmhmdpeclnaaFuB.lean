/- The types of the program, as the abstract machine reads them. -/
import Derived.Test.YtofbmhmdpeclnaaAbHnM
import Derived.Test.YtofbmhmdpeclnaaChecked
import Derived.KernelRfl
set_option linter.unusedVariables false
set_option linter.unusedSimpArgs false
namespace Go.Ab
open Go.Proofs

noncomputable def zOf (t : TypeId) : Option (List V) := match mkTI Try.prog t with | some i => i.zero | none => none
theorem ti3 : mkTI Try.prog 3 = some ⟨.int .i64, 1, 8, zOf 3⟩ := by kernel_rfl
theorem ti4 : mkTI Try.prog 4 = some ⟨.bool, 1, 1, zOf 4⟩ := by kernel_rfl
theorem ti5 : mkTI Try.prog 5 = some ⟨.int .u8, 1, 1, zOf 5⟩ := by kernel_rfl
theorem ti9 : mkTI Try.prog 9 = some ⟨.str, 1, 16, zOf 9⟩ := by kernel_rfl
theorem ti22 : mkTI Try.prog 22 = some ⟨.slice 38 12 176, 1, 24, zOf 22⟩ := by kernel_rfl
theorem ti32 : mkTI Try.prog 32 = some ⟨.slice 34 6 72, 1, 24, zOf 32⟩ := by kernel_rfl
theorem ti34 : mkTI Try.prog 34 = some ⟨.struct [(0, 1, false), (1, 1, false), (2, 1, false), (3, 1, false), (4, 1, false), (5, 1, false)], 6, 72, zOf 34⟩ := by kernel_rfl
theorem ti35 : mkTI Try.prog 35 = some ⟨.slice 9 1 16, 1, 24, zOf 35⟩ := by kernel_rfl
theorem ti36 : mkTI Try.prog 36 = some ⟨.slice 22 1 24, 1, 24, zOf 36⟩ := by kernel_rfl
theorem ti38 : mkTI Try.prog 38 = some ⟨.struct [(0, 1, false), (1, 1, false), (2, 1, false), (3, 6, true), (9, 1, false), (10, 1, false), (11, 1, false)], 12, 176, zOf 38⟩ := by kernel_rfl

theorem thr_Hn (f : Nat) : Hn.cfg.thr f = Hn.thr f := rfl

attribute [simp] thr_Hn Hn.thr qcall closeArgs closeVs close close1 ofD toD V.flat V.flat2 V.flat1 D.flat qrun qval wantedV qop evalV Env.get constV constV1 putEnv binV intBin strBin boolBin unV ti3 ti4 ti5 ti9 ti22 ti32 ti34 ti35 ti36 ti38 indexAddrV indexV indexRows ret fieldAddrV fieldV partV loadV readV TI.agg lenV Env.keep

end Go.Ab
