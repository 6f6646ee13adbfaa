/- From a call by data to the given statements. -/
import Derived.Test.YtofbmhmdpeclnaaFvE
import Derived.Test.YtofbmhmdpeclnaaFvD
import Derived.WalkKit
import Derived.ProofKit
import Derived.OpenShut
import Derived.JoinedCond
import Derived.Below
set_option linter.unusedVariables false
set_option linter.unusedSimpArgs false
set_option maxRecDepth 4000
set_option linter.unusedSimpArgs false
set_option linter.unusedVariables false
namespace Go.Ab
open Go.Proofs Go.ChangeShapes Go.WideShapes Go.RowKit
open Go.Proofs.Ytofbmhmdpeclnaa (Rows.uptoBulk Rows.uptoBulkAll Rows.uptoSmall)

theorem noCount : NoCount Try.prog := by
  have h : (Try.prog.funcs.toList.all fun fn => !(fn.name == "runtime.NumGoroutine")) = true := by kernel_rfl
  intro f fn hf _
  rw [List.all_eq_true] at h
  have := h fn (List.mem_of_getElem? (by rw [Array.getElem?_toList]; exact hf))
  simpa using this

theorem mixed : Try.prog.follows .mixedOrders = true := by kernel_rfl

/-- A call by data is a call of the model's. -/
theorem den_calls {f : FuncId} {ws : List V} {xs : List Value} {b : Bool} {W : World} (hd : den Try.prog Hn.cfg f ws = some (.d (.bool b))) (hx : RVs noB ⟨fun _ => none, fun _ => none, fun _ g => g < 0, W⟩ ws xs) :
    Calls Try.prog f xs.toArray W fun e W' => e = .returned (.bool b) ∧ Grown W W' ∧ ∀ i, i < W.heap.size → W'.heap[i]? = W.heap[i]? := by
  unfold den at hd
  split at hd
  · rename_i r hr
    split at hd
    · simp only [Option.some.injEq] at hd
      obtain ⟨K, hK⟩ := lim_some hr
      have hok := (callF_ok noCount mixed Hn.cfg K).ok (hK K (Nat.le_refl _)) (fun id _ => rfl) (S := noB) (m := ⟨fun _ => none, fun _ => none, fun _ g => g < 0, W⟩) (xs := xs) rfl rfl
        ⟨fun id o h => by simp at h, fun id o h => by simp at h, fun id o b base h => by simp at h, fun i j oi oj b x y h => by simp at h, fun b h => h.elim⟩ hx
      refine hok.mono fun e W' ⟨x, m', he, hw, hRel, hEvo, hRV, _, _⟩ => ?_
      rw [hd] at hRV
      have hx2 : x = .bool b := by
        cases hRV with
        | d h => cases h; rfl
      have hheap : ∀ i, i < W.heap.size → W'.heap[i]? = W.heap[i]? := fun i hi => by
        rw [← hw]
        refine (hEvo.keep i hi ?_).2
        rintro (h | ⟨id, o, x, h, _⟩)
        · exact h
        · simp at h
      refine ⟨by rw [he, hx2], ⟨⟨by rw [← hw]; exact hEvo.rest.1, by rw [← hw]; exact hEvo.rest.2.1, fun i hi => ?_⟩, fun a => by rw [← hw]; exact hEvo.rest.2.2 a, by rw [← hw]; exact hEvo.size⟩, hheap⟩
      rw [hheap i hi]
      exact (World.keptBut_refl W (fun _ => False)).2.2 i hi
    · simp at hd
  · simp at hd

theorem kids : Kids Try.prog (· < Try.prog.types.size) := kids_rows (by kernel_rfl) (by kernel_rfl)
theorem full : ∀ t e, t < Try.prog.types.size → Try.prog.underlying t = some (.slice e) → 0 < Try.prog.cellsOf e := slices_full_of Try.prog (by kernel_rfl)
theorem lt22 : 22 < Try.prog.types.size := of_decide_eq_true (by kernel_rfl)

/-- A list of statements that came in: as data, and read again behind the call. -/
theorem open22 {H : Type} {enc : TypeId × Value → H} {W : World} {r : Reach} {base : Nat} {v : Value} {d : DataW H} {ps : List MemPlace} (hv : Value.okWide Try.prog W r base 22 v) (h : DataW.Trod enc Try.prog W 0 (fun _ => true) true 22 v d ps) (hb : Rows.uptoBulk d ≤ 1048576) :
    ∃ l : List Y, szY l ≤ MB ∧ RV noB ⟨fun _ => none, fun _ => none, fun _ g => g < 0, W⟩ (dY l) v ∧
      ∀ (W' : World) (sp : Nat → Bool), (∀ i, i < W.heap.size → W'.heap[i]? = W.heap[i]?) → (∀ p ∈ ps, sp p.block = true) → DataW.Trod enc Try.prog W' 0 sp true 22 v d ps := by
  obtain ⟨a, len, cap, rfl⟩ := okWide_slice Try.underlying22 hv
  obtain ⟨fuel, hf⟩ := h
  obtain ⟨l, v', h1, h2, h3⟩ := (openY (w := W) (enc := enc) fuel).2.1 _ _ hf
  have hv' : v' = .slice a len cap := by simpa [Value.cells] using h1.symm
  subst hv'
  refine ⟨l, by unfold MB; simp only at h3; omega, .d (h2.mono fun b _ hn => ⟨fun hx => ?_, rfl⟩), fun W' sp hh hs => ⟨fuel, ?_⟩⟩
  · rcases hx with hx | ⟨id, o, x, hx, _⟩
    · exact hx
    · simp at hx
  · refine DataW.trod_stays kids (fun {t e} ht => full t e ht) (fun hh => by cases hh) lt22 hf (fun p hp => ?_) hs
    have hlt := DataW.trod_lt fuel 22 _ _ hf p hp
    cases p with
    | cell b off => simp only [World.sameAt, World.cell?]; rw [hh b hlt]
    | map b => simp only [World.sameAt]; exact hh b hlt

/-- What each of the laws of one list comes to. -/
theorem contract1 {f : FuncId} {fn : Func} {spec : ChangeSpec} (hp : fn.params = #[22]) (hr : fn.resultTypes = #[4]) (hvars : spec.vars = []) (hspec : ∀ (H : Type) (d : DataW H), spec.fn H [d] = { results := [.lit (.bool true)], args := [d] })
    (hden : ∀ l, szY l ≤ MB → den Try.prog Hn.cfg f [dY l] = some (.d (.bool true)))
    (H : Type) (enc : TypeId × Value → H) (W : World) (base : Nat) (args : Array Value) (ds gs : List (DataW H)) (before : List MemPlace)
    (hval : ∀ (j : Nat) t v, fn.params[j]? = some t → args[j]? = some v → Value.okWide Try.prog W .any base t v)
    (hW : DataW.Whole enc Try.prog fn.params.toList spec.vars false W args.toList ds gs before) (hk : Rows.uptoSmall H (ds ++ gs) = true) :
    Calls Try.prog f args W fun e W' => ∃ v, e = .returned v ∧ spec.post enc Try.prog fn false true false false W args v W' := by
  have hW' := hW
  obtain ⟨p, q, hA0, hV, rfl, hfz, hnd⟩ := hW
  have hA : DataW.TrodAll enc Try.prog W 0 (fun _ => true) true fn.params.toList args.toList ds p := hA0
  rw [hp] at hA hval
  obtain ⟨v0, vs0, d0, ds0, p0, q0, hargs, rfl, rfl, h0, r0⟩ := trodAll_cons hA
  obtain ⟨rfl, rfl, rfl⟩ := trodAll_nil r0
  obtain rfl : args = #[v0] := by cases args; simp_all
  rw [hvars] at hV
  obtain ⟨rfl, rfl⟩ := trodVars_none hV
  have hb : Rows.uptoBulk d0 ≤ 1048576 := by
    have h1 := of_decide_eq_true hk
    simp only [List.append_nil, Rows.uptoBulkAll] at h1
    omega
  obtain ⟨l, hsz, hRV, hstay⟩ := open22 (hval 0 22 v0 rfl rfl) h0 hb
  refine (den_calls (xs := [v0]) (hden l hsz) ⟨rfl, fun j x y hx hy => ?_⟩).mono fun e W' ⟨he, hg, hh⟩ => ?_
  · cases j with
    | zero => simp at hx hy; subst hx; subst hy; exact hRV
    | succ j => simp at hx
  subst he
  clear hA0
  simp only [List.append_nil] at hW'
  have hfn := hspec H d0
  refine ⟨_, rfl, post_of_same (pa := p0 ++ []) (pv := []) (by simpa using hW') (fun _ _ _ => ?_) (fun sp hs => ?_) (fun _ _ => ?_) (by simp) (hg.frame _) hg.2.1 ?_⟩
  · rw [hr]
    show DataW.TrodAll enc Try.prog W' _ _ _ [4] [.bool true] (spec.fn H [d0]).results []
    rw [hfn]
    exact trodAll_cons_mk (shut_bool Try.underlying4 _) trodAll_mk0
  · rw [hp]
    show DataW.TrodAll enc Try.prog W' 0 sp true [22] [v0] (spec.fn H [d0]).args (p0 ++ [])
    rw [hfn]
    exact trodAll_cons_mk (hstay W' sp hh fun p hp => hs p (by simpa using hp)) trodAll_mk0
  · show DataW.TrodVars enc Try.prog W' _ spec.vars (spec.fn H [d0]).vars []
    rw [hvars, hfn]
    exact rfl
  · exact ok_one hr rfl (okWide_bool_mk Try.underlying4 _)

end Go.Ab
