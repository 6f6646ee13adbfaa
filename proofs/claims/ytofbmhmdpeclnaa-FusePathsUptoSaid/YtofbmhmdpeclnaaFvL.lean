/- FusePaths: joining keeps the statements of each path of branches; for arguments of bulk at most 1048576. -/
import Derived.Test.YtofbmhmdpeclnaaFvF
import Derived.Test.YtofbmhmdpeclnaaFvI
set_option linter.unusedVariables false
set_option linter.unusedSimpArgs false
namespace Go.Ab
open Go.Proofs Go.ChangeShapes Go.WideShapes Go.RowKit
open Go.Proofs.Ytofbmhmdpeclnaa (Rows.uptoBulk Rows.uptoBulkAll Rows.uptoSmall)
set_option linter.unusedVariables false
set_option maxRecDepth 4000

/-- What a law of a list and a number comes to. -/
theorem contract2 {f : FuncId} {fn : Func} {spec : ChangeSpec} (hp : fn.params = #[22, 28]) (hr : fn.resultTypes = #[4]) (hvars : spec.vars = []) (hspec : ∀ (H : Type) (d d' : DataW H), spec.fn H [d, d'] = { results := [.lit (.bool true)], args := [d, d'] })
    (hden : ∀ l (n : Nat), n < 65536 → szY l ≤ MB → den Try.prog Hn.cfg f [dY l, .d (.int .u16 n)] = some (.d (.bool true)))
    (H : Type) (enc : TypeId × Value → H) (W : World) (base : Nat) (args : Array Value) (ds gs : List (DataW H)) (before : List MemPlace)
    (hval : ∀ (j : Nat) t v, fn.params[j]? = some t → args[j]? = some v → Value.okWide Try.prog W .any base t v)
    (hW : DataW.Whole enc Try.prog fn.params.toList spec.vars false W args.toList ds gs before) (hk : Rows.uptoSmall H (ds ++ gs) = true) :
    Calls Try.prog f args W fun e W' => ∃ v, e = .returned v ∧ spec.post enc Try.prog fn false true false false W args v W' := by
  have hW' := hW
  obtain ⟨p, q, hA0, hV, rfl, hfz, hnd⟩ := hW
  have hA : DataW.TrodAll enc Try.prog W 0 (fun _ => true) true fn.params.toList args.toList ds p := hA0
  rw [hp] at hA hval
  obtain ⟨v0, vs0, d0, ds0, p0, q0, hargs, rfl, rfl, h0, r0⟩ := trodAll_cons hA
  obtain ⟨v1, vs1, d1, ds1, p1, q1, rfl, rfl, rfl, h1, r1⟩ := trodAll_cons r0
  obtain ⟨rfl, rfl, rfl⟩ := trodAll_nil r1
  obtain rfl : args = #[v0, v1] := by cases args; simp_all
  rw [hvars] at hV
  obtain ⟨rfl, rfl⟩ := trodVars_none hV
  have hb : Rows.uptoBulk d0 ≤ 1048576 := by
    have h1 := of_decide_eq_true hk
    simp only [List.append_nil, Rows.uptoBulkAll] at h1
    omega
  obtain ⟨l, hsz, hRV, hstay⟩ := open22 (hval 0 22 v0 rfl rfl) h0 hb
  obtain ⟨n, rfl, rfl, rfl, hwf⟩ := open_int Try.underlying28 (hval 1 28 v1 rfl rfl) h1
  have hn : 0 ≤ n ∧ n < 65536 := by
    simp [Lit.wf, IntKind.min, IntKind.max, IntKind.signed, IntKind.bits] at hwf
    omega
  have hnn : ((n.toNat : Nat) : Int) = n := by omega
  have hd := hden l n.toNat (by omega) hsz
  rw [hnn] at hd
  refine (den_calls (xs := [v0, .int .u16 n]) hd ⟨rfl, fun j x y hx hy => ?_⟩).mono fun e W' ⟨he, hg, hh⟩ => ?_
  · cases j with
    | zero => simp at hx hy; subst hx; subst hy; exact hRV
    | succ j =>
      cases j with
      | zero => simp at hx hy; subst hx; subst hy; exact .d (.int _ _)
      | succ j => simp at hx
  subst he
  clear hA0
  simp only [List.append_nil] at hW'
  have hfn := hspec H d0 (.lit (.int .u16 n))
  refine ⟨_, rfl, post_of_same (pa := p0 ++ []) (pv := []) (by simpa using hW') (fun _ _ _ => ?_) (fun sp hs => ?_) (fun _ _ => ?_) (by simp) (hg.frame _) hg.2.1 ?_⟩
  · rw [hr]
    show DataW.TrodAll enc Try.prog W' _ _ _ [4] [.bool true] (spec.fn H [d0, .lit (.int .u16 n)]).results []
    rw [hfn]
    exact trodAll_cons_mk (shut_bool Try.underlying4 _) trodAll_mk0
  · rw [hp]
    show DataW.TrodAll enc Try.prog W' 0 sp true [22, 28] [v0, .int .u16 n] (spec.fn H [d0, .lit (.int .u16 n)]).args (p0 ++ [])
    rw [hfn]
    exact trodAll_cons_mk (hstay W' sp hh fun p hp => hs p (by simpa using hp)) (trodAll_cons_mk (shut_int Try.underlying28 hwf) trodAll_mk0)
  · show DataW.TrodVars enc Try.prog W' _ spec.vars (spec.fn H [d0, .lit (.int .u16 n)]).vars []
    rw [hvars, hfn]
    exact rfl
  · exact ok_one hr rfl (okWide_bool_mk Try.underlying4 _)
end Go.Ab
namespace Go.Proofs.Ytofbmhmdpeclnaa.paths
open Go.ChangeShapes Go.WideShapes Go.RowKit
set_option linter.unusedVariables false

theorem own : ownKnob Try.prog.godebug = none := by kernel_rfl

set_option maxRecDepth 100000 in
theorem lifted (os : Os) (started : os.Started) (H : Type) (enc : TypeId × Value → H) (F : Stop.Interp) :
    ReturnsInHanded {} Try.checked os 6 .any ((Rows.OpenSpec.upto Rows.fusePathsSpec).pre6 enc Try.prog Try.f6 Rows.fusePathsUptoRow.domain false) (((Rows.OpenSpec.upto Rows.fusePathsSpec).at F).post enc Try.prog Try.f6 false true false false) := by
  refine returnsInHanded_of_cond (C := Try.checked) (s := Rows.OpenSpec.upto Rows.fusePathsSpec) (k := Rows.uptoSmall) rfl own started (by kernel_rfl) Try.func6
    (OpenSpec.witness (enc := enc) (C := Try.checked) (s := Rows.OpenSpec.upto Rows.fusePathsSpec) (k := Rows.uptoSmall) rfl false ⟨#[], #[.slice none 0 0, .int .u16 0], []⟩ 8 (by kernel_rfl) (by kernel_rfl) (by kernel_rfl)
      (x := ([.nil, .lit (.int .u16 0)], [], [])) (by kernel_rfl) rfl (by kernel_rfl)) ?_
  intro W base args ds gs before hval hW _ hk _
  exact Go.Ab.contract2 (f := 6) (fn := Try.f6) (spec := Rows.fusePathsSpec) rfl rfl rfl (fun _ _ _ => rfl) (fun l n hn hl => Go.Ab.paths_den l n hn hl) H enc W base args ds gs before hval hW hk

theorem proved : Rows.FusePathsUptoSaid :=
  OpenClaim.holds_of_cond 6 Try.f6 rfl rfl rfl rfl rfl rfl rfl ⟨rfl, rfl, rfl, rfl, rfl⟩ rfl rfl rfl rfl rfl (by kernel_rfl) Try.func6 (by kernel_rfl)
    (of_decide_eq_true (by kernel_rfl)) (by unfold Func.isWrapper; first | (rw [if_pos (by decide +kernel)]; kernel_rfl) | (rw [if_neg (by decide +kernel)]; exact ⟨rfl, rfl⟩))
    (fun os started H enc _ F => lifted os started H enc F)
#print axioms proved
end Go.Proofs.Ytofbmhmdpeclnaa.paths
