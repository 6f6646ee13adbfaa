/- From the call by data to the given statement for the laws of an image, rows and memory. -/
import Derived.Test.YtofhhkkncaoneaaDoorAcBM
import Derived.Test.YtofhhkkncaoneaaDoorAcDM
import Derived.Test.YtofhhkkncaoneaaDoorAcJM
import Derived.Test.YtofhhkkncaoneaaDoorAcOM
import Derived.Test.YtofhhkkncaoneaaDoorAcSM
import Derived.Test.YtofhhkkncaoneaaDoorAcXM
import Derived.Test.YtofhhkkncaoneaaDoorAcUcM
import Derived.Test.YtofhhkkncaoneaaDoorAcThM
import Derived.Test.YtofhhkkncaoneaaDoorCpBM
import Derived.Test.YtofhhkkncaoneaaDoorCrR
import Derived.Test.YtofhhkkncaoneaaDoorCpD
import Derived.Test.YtofhhkkncaoneaaDoorCrTM
import Derived.Calls
import Derived.Orders
import Derived.Laws.World
import Derived.Laws.Sem
import Derived.Laws.Cells
import Derived.Laws.Append
import GoSem.ClaimData
import Derived.Laws.Tables
import Derived.Laws.Slices
import Derived.Laws.Strings
import Derived.Laws.Small
import Derived.KernelRfl
import Derived.Test.YtofhhkkncaoneaaDoorChecked
import Derived.Test.YtofhhkkncaoneaaDoorRows
import Derived.Deep.Slices
import Derived.ChangeArms
import Derived.RowKit3
import Derived.ReadAgain
import Derived.ChangeStays
import Derived.WalkKit
import Derived.ProofKit
import Derived.OpenShut
import Derived.JoinedCond
import Derived.Below
import Derived.Deep.DeepHandedRow
import Derived.Lib.LaidTab
import Derived.Lib.RuneCount
set_option linter.unusedVariables false
set_option linter.unusedSimpArgs false
set_option maxRecDepth 4000
set_option linter.unusedSimpArgs false
set_option linter.unusedVariables false
namespace Go.Ac
open Go.Proofs Go.ChangeShapes Go.WideShapes Go.RowKit
open Go.Proofs.YtofhhkkncaoneaaDoor (Rows.uptoBulk Rows.uptoBulkAll Rows.uptoSmall Rows.laid_synchrony_asm_operations)

/-- What a law of an image and a list of rows comes to. -/
theorem contract2 {f : FuncId} {fn : Func} {spec : ChangeSpec} (hp : fn.params = #[25, 26]) (hr : fn.resultTypes = #[4]) (hvars : spec.vars = []) (hspec : ∀ (H : Type) (d d' : DataW H), spec.fn H [d, d'] = { results := [.lit (.bool true)], args := [d, d'] })
    (hden : ∀ (im : Im) (rows : List (List Int)), im.sz ≤ MB → (∀ r, r ∈ im.rs → RtOK r) → rows.length ≤ MB → (∀ r ∈ rows, r.length ≤ 4194304) → den Tryd.prog Cp.cfg f [aM im, .d (.slice (encL rows))] = some (.d (.bool true)))
    (H : Type) (enc : TypeId × Value → H) (W : World) (base : Nat) (args : Array Value) (ds gs : List (DataW H)) (before : List MemPlace)
    (hval : ∀ (j : Nat) t v, fn.params[j]? = some t → args[j]? = some v → Value.okWide Tryd.prog W .any base t v)
    (hW : DataW.Whole enc Tryd.prog fn.params.toList spec.vars false W args.toList ds gs before) (hk : Rows.uptoSmall H (ds ++ gs) = true)
    (hL : laidMet Tryd.prog [("synchrony/asm.operations", Rows.laid_synchrony_asm_operations)] W) :
    Calls Tryd.prog f args W fun e W' => ∃ v, e = .returned v ∧ spec.post enc Tryd.prog fn false true false false W args v W' := by
  have hW' := hW
  obtain ⟨p, q, hA0, hV, rfl, hfz, hnd⟩ := hW
  have hA : DataW.TrodAll enc Tryd.prog W 0 (fun _ => true) true fn.params.toList args.toList ds p := hA0
  rw [hp] at hA hval
  obtain ⟨v0, vs0, d0, ds0, p0, q0, hargs, rfl, rfl, h0, r0⟩ := trodAll_cons hA
  obtain ⟨v1, vs1, d1, ds1, p1, q1, rfl, rfl, rfl, h1, r1⟩ := trodAll_cons r0
  obtain ⟨rfl, rfl, rfl⟩ := trodAll_nil r1
  obtain rfl : args = #[v0, v1] := by cases args; simp_all
  rw [hvars] at hV
  obtain ⟨rfl, rfl⟩ := trodVars_none hV
  have hb : Rows.uptoBulk d0 + Rows.uptoBulk d1 ≤ 1048576 := by
    have h1 := of_decide_eq_true hk
    simp only [List.append_nil, Rows.uptoBulkAll] at h1
    omega
  obtain ⟨im, hsz, hrb, hRV0⟩ := open25 (hval 0 25 v0 rfl rfl) h0
  obtain ⟨rows, hl1, hl1', hRV1⟩ := open26 (hval 1 26 v1 rfl rfl) h1
  have hs : im.sz ≤ MB := by unfold MB; omega
  have hd := hden im rows hs (rtOK_of hs hrb) (by unfold MB; omega) (fun r hr => by have := hl1' r hr; omega)
  refine (den_calls (xs := [v0, v1]) hL hd ⟨rfl, fun j x y hx hy => ?_⟩).mono fun e W' ⟨he, hg, hh⟩ => ?_
  · match j with
    | 0 => simp at hx hy; subst hx; subst hy; exact hRV0
    | 1 => simp at hx hy; subst hx; subst hy; exact hRV1
    | j + 2 => simp at hx
  subst he
  clear hA0
  simp only [List.append_nil] at hW'
  have hfn := hspec H d0 d1
  refine ⟨_, rfl, post_of_same (pa := p0 ++ (p1 ++ [])) (pv := []) (by simpa using hW') (fun _ _ _ => ?_) (fun sp hs => ?_) (fun _ _ => ?_) (by simp) (hg.frame _) hg.2.1 ?_⟩
  · rw [hr]
    show DataW.TrodAll enc Tryd.prog W' _ _ _ [4] [.bool true] (spec.fn H [d0, d1]).results []
    rw [hfn]
    exact trodAll_cons_mk (shut_bool Tryd.underlying4 _) trodAll_mk0
  · rw [hp]
    show DataW.TrodAll enc Tryd.prog W' 0 sp true [25, 26] [v0, v1] (spec.fn H [d0, d1]).args (p0 ++ (p1 ++ []))
    rw [hfn]
    exact trodAll_cons_mk (stay lt25 h0 W' sp hh fun p hp => hs p (by simp [hp])) (trodAll_cons_mk (stay lt26 h1 W' sp hh fun p hp => hs p (by simp [hp])) trodAll_mk0)
  · show DataW.TrodVars enc Tryd.prog W' _ spec.vars (spec.fn H [d0, d1]).vars []
    rw [hvars, hfn]
    exact rfl
  · exact ok_one hr rfl (okWide_bool_mk Tryd.underlying4 _)

/-- What a law of an image and a list of rows and a memory comes to. -/
theorem contract3b {f : FuncId} {fn : Func} {spec : ChangeSpec} (hp : fn.params = #[25, 26, 22]) (hr : fn.resultTypes = #[4]) (hvars : spec.vars = []) (hspec : ∀ (H : Type) (d d' d'' : DataW H), spec.fn H [d, d', d''] = { results := [.lit (.bool true)], args := [d, d', d''] })
    (hden : ∀ (im : Im) (rows : List (List Int)) (more : List Int), im.sz ≤ MB → (∀ r, r ∈ im.rs → RtOK r) → rows.length ≤ MB → (∀ r ∈ rows, r.length ≤ 4194304) → den Tryd.prog Cp.cfg f [aM im, .d (.slice (encL rows)), dL more] = some (.d (.bool true)))
    (H : Type) (enc : TypeId × Value → H) (W : World) (base : Nat) (args : Array Value) (ds gs : List (DataW H)) (before : List MemPlace)
    (hval : ∀ (j : Nat) t v, fn.params[j]? = some t → args[j]? = some v → Value.okWide Tryd.prog W .any base t v)
    (hW : DataW.Whole enc Tryd.prog fn.params.toList spec.vars false W args.toList ds gs before) (hk : Rows.uptoSmall H (ds ++ gs) = true)
    (hL : laidMet Tryd.prog [("synchrony/asm.operations", Rows.laid_synchrony_asm_operations)] W) :
    Calls Tryd.prog f args W fun e W' => ∃ v, e = .returned v ∧ spec.post enc Tryd.prog fn false true false false W args v W' := by
  have hW' := hW
  obtain ⟨p, q, hA0, hV, rfl, hfz, hnd⟩ := hW
  have hA : DataW.TrodAll enc Tryd.prog W 0 (fun _ => true) true fn.params.toList args.toList ds p := hA0
  rw [hp] at hA hval
  obtain ⟨v0, vs0, d0, ds0, p0, q0, hargs, rfl, rfl, h0, r0⟩ := trodAll_cons hA
  obtain ⟨v1, vs1, d1, ds1, p1, q1, rfl, rfl, rfl, h1, r1⟩ := trodAll_cons r0
  obtain ⟨v2, vs2, d2, ds2, p2, q2, rfl, rfl, rfl, h2, r2⟩ := trodAll_cons r1
  obtain ⟨rfl, rfl, rfl⟩ := trodAll_nil r2
  obtain rfl : args = #[v0, v1, v2] := by cases args; simp_all
  rw [hvars] at hV
  obtain ⟨rfl, rfl⟩ := trodVars_none hV
  have hb : Rows.uptoBulk d0 + (Rows.uptoBulk d1 + Rows.uptoBulk d2) ≤ 1048576 := by
    have h1 := of_decide_eq_true hk
    simp only [List.append_nil, Rows.uptoBulkAll] at h1
    omega
  obtain ⟨im, hsz, hrb, hRV0⟩ := open25 (hval 0 25 v0 rfl rfl) h0
  obtain ⟨rows, hl1, hl1', hRV1⟩ := open26 (hval 1 26 v1 rfl rfl) h1
  obtain ⟨more, hl2, hRV2, _⟩ := open22 (hval 2 22 v2 rfl rfl) h2
  have hs : im.sz ≤ MB := by unfold MB; omega
  have hd := hden im rows more hs (rtOK_of hs hrb) (by unfold MB; omega) (fun r hr => by have := hl1' r hr; omega)
  refine (den_calls (xs := [v0, v1, v2]) hL hd ⟨rfl, fun j x y hx hy => ?_⟩).mono fun e W' ⟨he, hg, hh⟩ => ?_
  · match j with
    | 0 => simp at hx hy; subst hx; subst hy; exact hRV0
    | 1 => simp at hx hy; subst hx; subst hy; exact hRV1
    | 2 => simp at hx hy; subst hx; subst hy; exact hRV2
    | j + 3 => simp at hx
  subst he
  clear hA0
  simp only [List.append_nil] at hW'
  have hfn := hspec H d0 d1 d2
  refine ⟨_, rfl, post_of_same (pa := p0 ++ (p1 ++ (p2 ++ []))) (pv := []) (by simpa using hW') (fun _ _ _ => ?_) (fun sp hs => ?_) (fun _ _ => ?_) (by simp) (hg.frame _) hg.2.1 ?_⟩
  · rw [hr]
    show DataW.TrodAll enc Tryd.prog W' _ _ _ [4] [.bool true] (spec.fn H [d0, d1, d2]).results []
    rw [hfn]
    exact trodAll_cons_mk (shut_bool Tryd.underlying4 _) trodAll_mk0
  · rw [hp]
    show DataW.TrodAll enc Tryd.prog W' 0 sp true [25, 26, 22] [v0, v1, v2] (spec.fn H [d0, d1, d2]).args (p0 ++ (p1 ++ (p2 ++ [])))
    rw [hfn]
    exact trodAll_cons_mk (stay lt25 h0 W' sp hh fun p hp => hs p (by simp [hp])) (trodAll_cons_mk (stay lt26 h1 W' sp hh fun p hp => hs p (by simp [hp])) (trodAll_cons_mk (stay lt22 h2 W' sp hh fun p hp => hs p (by simp [hp])) trodAll_mk0))
  · show DataW.TrodVars enc Tryd.prog W' _ spec.vars (spec.fn H [d0, d1, d2]).vars []
    rw [hvars, hfn]
    exact rfl
  · exact ok_one hr rfl (okWide_bool_mk Tryd.underlying4 _)
end Go.Ac
