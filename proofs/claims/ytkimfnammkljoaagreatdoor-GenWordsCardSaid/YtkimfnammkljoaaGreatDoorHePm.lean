/- The calls that are one operation are right; so are the entries. Condition: the symbols stand for the parts of a word (WR). -/
import Derived.Test.YtkimfnammkljoaaGreatDoorGwPM
import Derived.WalkKit
import Derived.Lib.Walk
import Derived.Lib.Strings
import Derived.Lib.Bytealg
import Derived.BigCall
import Derived.BigGuard
import Derived.Laws.Strings3
set_option linter.unusedVariables false
set_option linter.unusedSimpArgs false
set_option maxRecDepth 100000
set_option linter.unusedSectionVars false
namespace Go.Ac
open Go.Proofs Go.RowKit Go.Lib
theorem idx_eq : ∀ (l : List UInt8) (b : UInt8), indexByte l b = (match l.findIdx? (fun x => x == b) with | some i => (i : Int) | none => -1)
 | [], b => rfl
 | x :: r, b => by
  have ih := idx_eq r b
  unfold indexByte
  rw [List.findIdx?_cons]
  by_cases h : (x == b) = true
  ·rw [if_pos h, if_pos h]; rfl
  ·rw [if_neg h, if_neg h, ih]
   cases r.findIdx? (fun x => x == b) with
   | none => rfl
   | some i =>
    simp only [Option.map_some]
    have : ((i : Int) == -1) = false := by rw [beq_eq_false_iff_ne]; omega
    rw [this]; simp
set_option maxHeartbeats 1000000 in
theorem byte291 (s : ByteArray) (c : Int) (w : World) : Calls Tryz.prog 291 #[.string s, .int .u8 c] w fun e w' => e = .returned (.int .i64 (indexByte s.data.toList c.toNat.toUInt8)) ∧ w' = w := by
 go_enter Tryz.func291, Tryz.ntmps291
 go_wp2
 rw [run_callFunc_extern Tryz.func369 (by kernel_rfl) (by kernel_rfl) (by kernel_rfl) (e := Extern.BytealgIndexByte.indexByte) (by kernel_rfl), Lib.run_indexByteString]
 simp only [Result.andThen]
 rw [Oper.upon_value]
 go_wp2
 go_ret
 exact ⟨rfl, rfl⟩
theorem index291 : IndexAt Tryz.prog 291 := ⟨⟨_, Tryz.func291, rfl⟩, fun s b w => by
 refine (byte291 s b w).mono fun e w' ⟨h1, h2⟩ => ⟨?_, h2⟩
 rw [h1, idx_eq]; rfl⟩
theorem cl19 : CloneAt Tryz.prog 19 1 16 := CloneAt.of (t := 27) (e := 9) Tryz.func19 rfl rfl rfl (by kernel_rfl) (by kernel_rfl) ⟨rfl, rfl, rfl⟩ ⟨rfl, rfl, rfl⟩ ⟨rfl, rfl, rfl⟩ ⟨rfl, rfl, rfl⟩ ⟨rfl, rfl, rfl⟩ ⟨rfl, rfl, rfl⟩ ⟨rfl, rfl, rfl⟩ ⟨rfl, rfl, rfl⟩
theorem cl56 : CloneAt Tryz.prog 56 3 32 := CloneAt.of (t := 23) (e := 127) Tryz.func56 rfl rfl rfl (by kernel_rfl) (by kernel_rfl) ⟨rfl, rfl, rfl⟩ ⟨rfl, rfl, rfl⟩ ⟨rfl, rfl, rfl⟩ ⟨rfl, rfl, rfl⟩ ⟨rfl, rfl, rfl⟩ ⟨rfl, rfl, rfl⟩ ⟨rfl, rfl, rfl⟩ ⟨rfl, rfl, rfl⟩
theorem cl65 : CloneAt Tryz.prog 65 3 48 := CloneAt.of (t := 26) (e := 25) Tryz.func65 rfl rfl rfl (by kernel_rfl) (by kernel_rfl) ⟨rfl, rfl, rfl⟩ ⟨rfl, rfl, rfl⟩ ⟨rfl, rfl, rfl⟩ ⟨rfl, rfl, rfl⟩ ⟨rfl, rfl, rfl⟩ ⟨rfl, rfl, rfl⟩ ⟨rfl, rfl, rfl⟩ ⟨rfl, rfl, rfl⟩
theorem cl66 : CloneAt Tryz.prog 66 3 32 := CloneAt.of (t := 40) (e := 73) Tryz.func66 rfl rfl rfl (by kernel_rfl) (by kernel_rfl) ⟨rfl, rfl, rfl⟩ ⟨rfl, rfl, rfl⟩ ⟨rfl, rfl, rfl⟩ ⟨rfl, rfl, rfl⟩ ⟨rfl, rfl, rfl⟩ ⟨rfl, rfl, rfl⟩ ⟨rfl, rfl, rfl⟩ ⟨rfl, rfl, rfl⟩
theorem cl67 : CloneAt Tryz.prog 67 2 32 := CloneAt.of (t := 41) (e := 178) Tryz.func67 rfl rfl rfl (by kernel_rfl) (by kernel_rfl) ⟨rfl, rfl, rfl⟩ ⟨rfl, rfl, rfl⟩ ⟨rfl, rfl, rfl⟩ ⟨rfl, rfl, rfl⟩ ⟨rfl, rfl, rfl⟩ ⟨rfl, rfl, rfl⟩ ⟨rfl, rfl, rfl⟩ ⟨rfl, rfl, rfl⟩
theorem cl103 : CloneAt Tryz.prog 103 2 40 := CloneAt.of (t := 37) (e := 84) Tryz.func103 rfl rfl rfl (by kernel_rfl) (by kernel_rfl) ⟨rfl, rfl, rfl⟩ ⟨rfl, rfl, rfl⟩ ⟨rfl, rfl, rfl⟩ ⟨rfl, rfl, rfl⟩ ⟨rfl, rfl, rfl⟩ ⟨rfl, rfl, rfl⟩ ⟨rfl, rfl, rfl⟩ ⟨rfl, rfl, rfl⟩
theorem cl168 : CloneAt Tryz.prog 168 7 96 := CloneAt.of (t := 93) (e := 100) Tryz.func168 rfl rfl rfl (by kernel_rfl) (by kernel_rfl) ⟨rfl, rfl, rfl⟩ ⟨rfl, rfl, rfl⟩ ⟨rfl, rfl, rfl⟩ ⟨rfl, rfl, rfl⟩ ⟨rfl, rfl, rfl⟩ ⟨rfl, rfl, rfl⟩ ⟨rfl, rfl, rfl⟩ ⟨rfl, rfl, rfl⟩
theorem cl234 : CloneAt Tryz.prog 234 8 88 := CloneAt.of (t := 297) (e := 343) Tryz.func234 rfl rfl rfl (by kernel_rfl) (by kernel_rfl) ⟨rfl, rfl, rfl⟩ ⟨rfl, rfl, rfl⟩ ⟨rfl, rfl, rfl⟩ ⟨rfl, rfl, rfl⟩ ⟨rfl, rfl, rfl⟩ ⟨rfl, rfl, rfl⟩ ⟨rfl, rfl, rfl⟩ ⟨rfl, rfl, rfl⟩
theorem cl282 : CloneAt Tryz.prog 282 1 24 := CloneAt.of (t := 74) (e := 42) Tryz.func282 rfl rfl rfl (by kernel_rfl) (by kernel_rfl) ⟨rfl, rfl, rfl⟩ ⟨rfl, rfl, rfl⟩ ⟨rfl, rfl, rfl⟩ ⟨rfl, rfl, rfl⟩ ⟨rfl, rfl, rfl⟩ ⟨rfl, rfl, rfl⟩ ⟨rfl, rfl, rfl⟩ ⟨rfl, rfl, rfl⟩
theorem cl357 : CloneAt Tryz.prog 357 2 24 := CloneAt.of (t := 264) (e := 487) Tryz.func357 rfl rfl rfl (by kernel_rfl) (by kernel_rfl) ⟨rfl, rfl, rfl⟩ ⟨rfl, rfl, rfl⟩ ⟨rfl, rfl, rfl⟩ ⟨rfl, rfl, rfl⟩ ⟨rfl, rfl, rfl⟩ ⟨rfl, rfl, rfl⟩ ⟨rfl, rfl, rfl⟩ ⟨rfl, rfl, rfl⟩
theorem noCount : NoCount Tryz.prog := by
 have h : (Tryz.prog.funcs.toList.all fun fn => !(fn.name == "runtime.NumGoroutine")) = true := by kernel_rfl
 intro f fn hf _
 rw [List.all_eq_true] at h
 have := h fn (List.mem_of_getElem? (by rw [Array.getElem?_toList]; exact hf))
 simpa using this
theorem mixed : Tryz.prog.follows .mixedOrders = true := by kernel_rfl
variable [GwR]
theorem primOb : ∀ f p, Ob.cfg.prim f = some p → (∃ a b, p = .std a b ∧ CloneAt Tryz.prog f a b ∧ 0 < b) ∨ (p = .std 0 0 ∧ IndexAt Tryz.prog f) ∨ (p = .std 1 0 ∧ CountAt Tryz.prog f) ∨ PrimAt Tryz.prog f p := by
 intro f p h
 simp only [prim_Ob] at h
 unfold Ob.prim at h
 split at h
 ·cases h; exact .inr (.inl ⟨rfl, index291⟩)
 ·cases h; exact .inl ⟨2, 24, rfl, cl357, by decide⟩
 ·cases h
theorem preO : Pre Tryz.prog Ob.cfg := ⟨noCount, primOK primOb⟩
section
variable {s : Tx} {hd lp : List Bool}
theorem prim2_ok (hw : WR s hd lp) : ∀ f p, cfg2.prim f = some p → (∃ a b, p = .std a b ∧ CloneAt Tryz.prog f a b ∧ 0 < b) ∨ (p = .std 0 0 ∧ IndexAt Tryz.prog f) ∨ (p = .std 1 0 ∧ CountAt Tryz.prog f) ∨ PrimAt Tryz.prog f p := by
 intro f p h
 have h : prim2 f = some p := h
 unfold prim2 at h
 split at h
 ·cases h; exact .inl ⟨1, 16, rfl, cl19, by decide⟩
 ·cases h; exact .inl ⟨3, 32, rfl, cl56, by decide⟩
 ·cases h; exact .inl ⟨3, 48, rfl, cl65, by decide⟩
 ·cases h; exact .inl ⟨3, 32, rfl, cl66, by decide⟩
 ·cases h; exact .inl ⟨2, 32, rfl, cl67, by decide⟩
 ·cases h; exact .inl ⟨2, 40, rfl, cl103, by decide⟩
 ·cases h; exact .inl ⟨7, 96, rfl, cl168, by decide⟩
 ·cases h; exact .inl ⟨8, 88, rfl, cl234, by decide⟩
 ·cases h; exact .inl ⟨1, 24, rfl, cl282, by decide⟩
 ·cases h; exact .inl ⟨2, 24, rfl, cl357, by decide⟩
 ·cases h; exact .inr (.inl ⟨rfl, index291⟩)
 ·cases h; exact .inr (.inr (.inr (prim_dat preO mixed ⟨_, Tryz.func37, rfl⟩ (ent37 hw))))
 ·cases h; exact .inr (.inr (.inr (prim_dat preO mixed ⟨_, Tryz.func86, rfl⟩ (ent86 hw))))
 ·cases h; exact .inr (.inr (.inr (prim_dat preO mixed ⟨_, Tryz.func355, rfl⟩ (ent355 hw))))
 ·cases h; exact .inr (.inr (.inr (prim_dat preO mixed ⟨_, Tryz.func418, rfl⟩ (ent418 hw))))
 ·cases h; exact .inr (.inr (.inr (prim_look preO mixed ⟨_, Tryz.func419, rfl⟩ all419 (ent419 hw))))
 ·cases h; exact .inr (.inr (.inr (prim_dat preO mixed ⟨_, Tryz.func130, rfl⟩ (ent130 hw))))
 ·cases h; exact .inr (.inr (.inr (prim_look preO mixed ⟨_, Tryz.func132, rfl⟩ all132 (ent132 hw))))
 ·cases h; exact .inr (.inr (.inr (prim_tab2 preO mixed ⟨_, Tryz.func415, rfl⟩ all415 (ent415 hw))))
 ·cases h
theorem preW (hw : WR s hd lp) : Pre Tryz.prog cfg2 := ⟨noCount, primOK (prim2_ok hw)⟩
end
theorem primL_ok : ∀ f p, primL f = some p → (∃ a b, p = .std a b ∧ CloneAt Tryz.prog f a b ∧ 0 < b) ∨ (p = .std 0 0 ∧ IndexAt Tryz.prog f) ∨ (p = .std 1 0 ∧ CountAt Tryz.prog f) ∨ PrimAt Tryz.prog f p := by
 intro f p h
 unfold primL at h
 split at h
 ·cases h; exact .inl ⟨1, 16, rfl, cl19, by decide⟩
 ·cases h; exact .inl ⟨3, 32, rfl, cl56, by decide⟩
 ·cases h; exact .inl ⟨3, 48, rfl, cl65, by decide⟩
 ·cases h; exact .inl ⟨3, 32, rfl, cl66, by decide⟩
 ·cases h; exact .inl ⟨2, 32, rfl, cl67, by decide⟩
 ·cases h; exact .inl ⟨2, 40, rfl, cl103, by decide⟩
 ·cases h; exact .inl ⟨7, 96, rfl, cl168, by decide⟩
 ·cases h; exact .inl ⟨8, 88, rfl, cl234, by decide⟩
 ·cases h; exact .inl ⟨1, 24, rfl, cl282, by decide⟩
 ·cases h; exact .inl ⟨2, 24, rfl, cl357, by decide⟩
 ·cases h; exact .inr (.inl ⟨rfl, index291⟩)
 ·cases h
theorem preL : Pre Tryz.prog cfgL := ⟨noCount, primOK fun f p h => primL_ok f p h⟩
theorem primE_ok {s : Tx} (hs : GwR.s = s) (he : (prsT s).2 ≠ 0) (hl : s.length ≤ 8388608) : ∀ f p, primE f = some p → (∃ a b, p = .std a b ∧ CloneAt Tryz.prog f a b ∧ 0 < b) ∨ (p = .std 0 0 ∧ IndexAt Tryz.prog f) ∨ (p = .std 1 0 ∧ CountAt Tryz.prog f) ∨ PrimAt Tryz.prog f p := by
 intro f p h
 unfold primE at h
 split at h
 ·cases h; exact .inr (.inr (.inr (prim_dat preO mixed ⟨_, Tryz.func394, rfl⟩ (ent394 hs he hl))))
 ·exact primL_ok _ p h
theorem preE {s : Tx} (hs : GwR.s = s) (he : (prsT s).2 ≠ 0) (hl : s.length ≤ 8388608) : Pre Tryz.prog cfgE := ⟨noCount, primOK fun f p h => primE_ok hs he hl f p h⟩
theorem ent105 {s : Tx} (hs : GwR.s = s) (he : (prsT s).2 ≠ 0) (hl : s.length ≤ 8388608) : ∀ vs v, p105 vs = some v → closeArgs noLook vs = some (vs, []) ∧ (closeT noLook v).isSome = true ∧ ∃ c, RecK Tryz.prog cfgE 105 vs ⟨v, [], 0, c, []⟩ := by
 intro vs v hv
 unfold p105 at hv
 split at hv
 ·rename_i hb
  cases hv
  have := beqVs_ok _ _ hb
  subst this
  refine ⟨?_, ?_, Gw.pan105 (preE hs he hl) mixed⟩
  ·simp only [progE, closeArgs, closeVs, closeA, close, cl_d, List.nil_append]
  ·simp only [resE5, closeT, closeVs, close, cl_d, cl_dd, List.nil_append]; rfl
 ·cases hv
theorem ent37e {s : Tx} {er : Nat} (hs : GwR.s = s) (hp : prsT s = (([], []), (er : Int))) (hl : s.length ≤ 8388608) : ∀ vs v, p37e er vs = some v → ∃ vs1 v1, DatOK Tryz.prog Ob.cfg 37 vs v vs1 v1 := by
 intro vs v hv
 unfold p37e at hv
 split at hv
 ·cases hv
  have h1 := parse30 s hl
  rw [hp] at h1
  refine ⟨[dS s], .tuple [aW [] [], dI er], h1, ?_, ?_, ?_, ?_⟩
  ·simp only [closeArgs, closeVs, closeA, cl_dd, dS, List.nil_append]
  ·simp only [closeT, closeVs, close, cl_d, cl_dd, aW, dI, List.nil_append]; rfl
  ·exact .cons (EqD.sym (by rw [← hs]; rfl)).v .nil
  ·exact .refl _
 ·cases hv
theorem primF_ok {s : Tx} {er : Nat} (hs : GwR.s = s) (hp : prsT s = (([], []), (er : Int))) (he : (er : Int) ≠ 0) (hl : s.length ≤ 8388608) : ∀ f p, (cfgF er).prim f = some p → (∃ a b, p = .std a b ∧ CloneAt Tryz.prog f a b ∧ 0 < b) ∨ (p = .std 0 0 ∧ IndexAt Tryz.prog f) ∨ (p = .std 1 0 ∧ CountAt Tryz.prog f) ∨ PrimAt Tryz.prog f p := by
 intro f p h
 have he' : (prsT s).2 ≠ 0 := by rw [hp]; exact he
 have h : primF er f = some p := h
 unfold primF at h
 split at h
 ·cases h; exact .inr (.inr (.inr (prim_rec (preE hs he' hl) mixed ⟨_, Tryz.func105, rfl⟩ (ent105 hs he' hl))))
 ·cases h; exact .inr (.inr (.inr (prim_dat preO mixed ⟨_, Tryz.func37, rfl⟩ (ent37e hs hp hl))))
 ·exact primE_ok hs he' hl _ p h
theorem preF {s : Tx} {er : Nat} (hs : GwR.s = s) (hp : prsT s = (([], []), (er : Int))) (he : (er : Int) ≠ 0) (hl : s.length ≤ 8388608) : Pre Tryz.prog (cfgF er) := ⟨noCount, primOK (primF_ok hs hp he hl)⟩
end Go.Ac
