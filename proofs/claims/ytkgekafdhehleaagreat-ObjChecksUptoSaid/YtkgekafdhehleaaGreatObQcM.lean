/- ObjChecks by data; a law of one object code. -/
import Derived.Test.YtkgekafdhehleaaGreatAcA
import Derived.Test.YtkgekafdhehleaaGreatAcB
import Derived.Test.YtkgekafdhehleaaGreatAcDM
import Derived.Test.YtkgekafdhehleaaGreatAcGM
import Derived.Test.YtkgekafdhehleaaGreatAcJM
import Derived.Test.YtkgekafdhehleaaGreatAcNM
import Derived.Test.YtkgekafdhehleaaGreatAcQM
import Derived.Test.YtkgekafdhehleaaGreatAcUM
import Derived.Test.YtkgekafdhehleaaGreatAcUcM
import Derived.Test.YtkgekafdhehleaaGreatAcTxM
import Derived.Test.YtkgekafdhehleaaGreatObHn
import Derived.Test.YtkgekafdhehleaaGreatObCM
import Derived.Test.YtkgekafdhehleaaGreatObD
import Derived.Test.YtkgekafdhehleaaGreatObE
import Derived.Test.YtkgekafdhehleaaGreatObRM
import Derived.Test.YtkgekafdhehleaaGreatObMM
import Derived.Test.YtkgekafdhehleaaGreatObOM
import Derived.Test.YtkgekafdhehleaaGreatObVM
import Derived.Test.YtkgekafdhehleaaGreatObMzM
import Derived.Test.YtkgekafdhehleaaGreatObPdM
import Derived.Test.YtkgekafdhehleaaGreatObPe
import Derived.Test.YtkgekafdhehleaaGreatObPgM
import Derived.Test.YtkgekafdhehleaaGreatObPjM
import Derived.Test.YtkgekafdhehleaaGreatObPlM
import Derived.Test.YtkgekafdhehleaaGreatObPoM
import Derived.Test.YtkgekafdhehleaaGreatObPqM
import Derived.Test.YtkgekafdhehleaaGreatObQbM
import Derived.Test.YtkgekafdhehleaaGreatObH
import Derived.WalkKit
import Derived.ProofKit
import Derived.OpenShut
import Derived.JoinedCond
import Derived.Below
import Derived.Calls
import Derived.Orders
import Derived.Laws.World
import Derived.Laws.Sem
import Derived.Laws.Cells
import Derived.Laws.Append
import GoSem.ClaimData
import Derived.Laws.Tables
import Derived.Laws.Slices
import Derived.Laws.Strings
import Derived.Laws.Small
import Derived.KernelRfl
import Derived.Test.YtkgekafdhehleaaGreatChecked
import Derived.Test.YtkgekafdhehleaaGreatRows
import Derived.Deep.Slices
import Derived.ChangeArms
import Derived.RowKit3
import Derived.ReadAgain
import Derived.ChangeStays
set_option linter.unusedVariables false
set_option linter.unusedSimpArgs false
section
set_option maxRecDepth 4000
set_option linter.unusedSimpArgs false
set_option linter.unusedVariables false
namespace Go.Ac
open Go.Proofs Go.ChangeShapes Go.WideShapes Go.RowKit
open Go.Proofs.YtkgekafdhehleaaGreat (Rows.uptoBulk Rows.uptoBulkAll Rows.uptoSmall)

theorem noCount : NoCount Tryz.prog := by
  have h : (Tryz.prog.funcs.toList.all fun fn => !(fn.name == "runtime.NumGoroutine")) = true := by kernel_rfl
  intro f fn hf _
  rw [List.all_eq_true] at h
  have := h fn (List.mem_of_getElem? (by rw [Array.getElem?_toList]; exact hf))
  simpa using this

theorem cloneOK : ∀ f p, Ob.cfg.prim f = some p → CloneAt Tryz.prog f p.1 p.2 := by
  intro f p h
  simp only [prim_Ob, Ob.prim] at h
  split at h
  · simp at h; subst h
    exact CloneAt.of (t := 71) (e := 9) Tryz.func80 rfl rfl rfl (by kernel_rfl) (by kernel_rfl) ⟨rfl, rfl, rfl⟩ ⟨rfl, rfl, rfl⟩ ⟨rfl, rfl, rfl⟩ ⟨rfl, rfl, rfl⟩ ⟨rfl, rfl, rfl⟩ ⟨rfl, rfl, rfl⟩ ⟨rfl, rfl, rfl⟩ ⟨rfl, rfl, rfl⟩
  · simp at h; subst h
    exact CloneAt.of (t := 31) (e := 46) Tryz.func81 rfl rfl rfl (by kernel_rfl) (by kernel_rfl) ⟨rfl, rfl, rfl⟩ ⟨rfl, rfl, rfl⟩ ⟨rfl, rfl, rfl⟩ ⟨rfl, rfl, rfl⟩ ⟨rfl, rfl, rfl⟩ ⟨rfl, rfl, rfl⟩ ⟨rfl, rfl, rfl⟩ ⟨rfl, rfl, rfl⟩
  · simp at h; subst h
    exact CloneAt.of (t := 32) (e := 103) Tryz.func82 rfl rfl rfl (by kernel_rfl) (by kernel_rfl) ⟨rfl, rfl, rfl⟩ ⟨rfl, rfl, rfl⟩ ⟨rfl, rfl, rfl⟩ ⟨rfl, rfl, rfl⟩ ⟨rfl, rfl, rfl⟩ ⟨rfl, rfl, rfl⟩ ⟨rfl, rfl, rfl⟩ ⟨rfl, rfl, rfl⟩
  · simp at h; subst h
    exact CloneAt.of (t := 33) (e := 106) Tryz.func83 rfl rfl rfl (by kernel_rfl) (by kernel_rfl) ⟨rfl, rfl, rfl⟩ ⟨rfl, rfl, rfl⟩ ⟨rfl, rfl, rfl⟩ ⟨rfl, rfl, rfl⟩ ⟨rfl, rfl, rfl⟩ ⟨rfl, rfl, rfl⟩ ⟨rfl, rfl, rfl⟩ ⟨rfl, rfl, rfl⟩
  · simp at h; subst h
    exact CloneAt.of (t := 72) (e := 34) Tryz.func137 rfl rfl rfl (by kernel_rfl) (by kernel_rfl) ⟨rfl, rfl, rfl⟩ ⟨rfl, rfl, rfl⟩ ⟨rfl, rfl, rfl⟩ ⟨rfl, rfl, rfl⟩ ⟨rfl, rfl, rfl⟩ ⟨rfl, rfl, rfl⟩ ⟨rfl, rfl, rfl⟩ ⟨rfl, rfl, rfl⟩
  · simp at h; subst h
    exact CloneAt.of (t := 132) (e := 214) Tryz.func152 rfl rfl rfl (by kernel_rfl) (by kernel_rfl) ⟨rfl, rfl, rfl⟩ ⟨rfl, rfl, rfl⟩ ⟨rfl, rfl, rfl⟩ ⟨rfl, rfl, rfl⟩ ⟨rfl, rfl, rfl⟩ ⟨rfl, rfl, rfl⟩ ⟨rfl, rfl, rfl⟩ ⟨rfl, rfl, rfl⟩
  · simp at h
theorem preOK : Pre Tryz.prog Ob.cfg := ⟨noCount, primOK cloneOK⟩
theorem mixed : Tryz.prog.follows .mixedOrders = true := by kernel_rfl
abbrev m0 (W : World) : M := ⟨fun _ => none, fun _ => none, fun _ g => g < 0, W⟩
theorem RD.m0 {W : World} {d : D} {v : Value} (h : RD W noB d v) : RD (m0 W).w ((m0 W).av noB) d v := h.mono fun b _ hn => ⟨fun hx => by
  rcases hx with hx | ⟨id, o, x, hx, _⟩
  · exact hx
  · simp at hx, rfl⟩
theorem glob_ok {W : World} : ∀ g, RV noB (m0 W) (Gl.gv g) (.pointer (some ⟨g, 0, none⟩)) := fun g => .any _

/-- A call by data is a call of the model's. -/
theorem den_calls {f : FuncId} {ws : List V} {xs : List Value} {b : Bool} {W : World} (hd : den Tryz.prog Ob.cfg f ws = some (.d (.bool b))) (hx : RVs noB (m0 W) ws xs) :
    Calls Tryz.prog f xs.toArray W fun e W' => e = .returned (.bool b) ∧ Grown W W' ∧ ∀ i, i < W.heap.size → W'.heap[i]? = W.heap[i]? := by
  unfold den at hd
  split at hd
  · rename_i r hr
    split at hd
    · simp only [Option.some.injEq] at hd
      obtain ⟨K, hK⟩ := lim_some hr
      have hok := (callF_ok Ob.cfg preOK mixed K).ok (hK K (Nat.le_refl _)) (fun id _ => rfl) (S := noB) (m := m0 W) (xs := xs) rfl rfl
        ⟨glob_ok, fun id o h => by simp at h, fun id o h => by simp at h, fun id o b base h => by simp at h, fun i j oi oj b x y h => by simp at h, fun b h => h.elim⟩ hx
      refine hok.mono fun e W' ⟨x, m', he, hw, hRel, hEvo, hRV, _, _⟩ => ?_
      rw [hd] at hRV
      have hx2 : x = .bool b := by
        cases hRV with
        | d h => cases h; rfl
      have hheap : ∀ i, i < W.heap.size → W'.heap[i]? = W.heap[i]? := fun i hi => by
        rw [← hw]
        refine (hEvo.keep i hi ?_).2
        rintro (h | ⟨id, o, x, h, _⟩)
        · exact h
        · simp at h
      refine ⟨by rw [he, hx2], ⟨⟨by rw [← hw]; exact hEvo.rest.1, by rw [← hw]; exact hEvo.rest.2.1, fun i hi => ?_⟩, fun a => by rw [← hw]; exact hEvo.rest.2.2 a, by rw [← hw]; exact hEvo.size⟩, hheap⟩
      rw [hheap i hi]
      exact (World.keptBut_refl W (fun _ => False)).2.2 i hi
    · simp at hd
  · simp at hd


theorem kids : Kids Tryz.prog (· < Tryz.prog.types.size) := kids_rows (by kernel_rfl) (by kernel_rfl)
theorem full : ∀ t e, t < Tryz.prog.types.size → Tryz.prog.underlying t = some (.slice e) → 0 < Tryz.prog.cellsOf e := slices_full_of Tryz.prog (by kernel_rfl)

theorem lt25 : 25 < Tryz.prog.types.size := of_decide_eq_true (by kernel_rfl)
theorem stay {H : Type} {enc : TypeId × Value → H} {W : World} {t : TypeId} {v : Value} {d : DataW H} {ps : List MemPlace} (ht : t < Tryz.prog.types.size) (h : DataW.Trod enc Tryz.prog W 0 (fun _ => true) true t v d ps) :
    ∀ (W' : World) (sp : Nat → Bool), (∀ i, i < W.heap.size → W'.heap[i]? = W.heap[i]?) → (∀ p ∈ ps, sp p.block = true) → DataW.Trod enc Tryz.prog W' 0 sp true t v d ps := fun W' sp hh hs => by
  obtain ⟨fuel, hf⟩ := h
  refine ⟨fuel, DataW.trod_stays kids (fun {t e} ht => full t e ht) (fun hh => by cases hh) ht hf (fun p hp => ?_) hs⟩
  have hlt := DataW.trod_lt fuel t _ _ hf p hp
  cases p with
  | cell b off => simp only [World.sameAt, World.cell?]; rw [hh b hlt]
  | map b => simp only [World.sameAt]; exact hh b hlt

section
variable {H : Type} {enc : TypeId × Value → H} {W : World} {r : Reach} {base : Nat} {v : Value} {d : DataW H} {ps : List MemPlace}
theorem open25 (hv : Value.okWide Tryz.prog W r base 25 v) (h : DataW.Trod enc Tryz.prog W 0 (fun _ => true) true 25 v d ps) : ∃ x : Oc, x.sz ≤ 2 * Rows.uptoBulk d ∧ x.ok ∧ RV noB (m0 W) (aG x.cells) v := by
  obtain ⟨cs, rfl, hcs⟩ : ∃ cs, v = .agg cs ∧ cs.size = 2 := by
    unfold Value.okWide at hv
    rw [Tryz.underlying25] at hv
    obtain ⟨cs, h1, h2, _⟩ := hv
    exact ⟨cs, h1, by rw [h2, cz25]⟩
  obtain ⟨fuel, hf⟩ := h
  obtain ⟨x, h1, h2, h3⟩ := openOc hf
  refine ⟨x, h2, h3, .agg (by simp [Oc.cells, hcs]) fun j a y hx hy => ?_⟩
  rw [List.getElem?_map, Option.map_eq_some_iff] at hx
  obtain ⟨d, hd, rfl⟩ := hx
  exact .d (h1.2 j d y hd (by simpa [Value.cells] using hy)).m0
end

end Go.Ac
end

section
set_option maxRecDepth 4000
set_option linter.unusedSimpArgs false
set_option linter.unusedVariables false
namespace Go.Ac
open Go.Proofs Go.ChangeShapes Go.WideShapes Go.RowKit
open Go.Proofs.YtkgekafdhehleaaGreat (Rows.uptoBulk Rows.uptoBulkAll Rows.uptoSmall)
theorem kf3 (r : Nat) : Ob.keep 3 r = Ob.k3 r := by kernel_rfl
attribute [local simp] kf3 Ob.k3
set_option maxHeartbeats 4000000 in
theorem checks_den (x : Oc) (ha : x.sz ≤ 2097152) (hok : x.ok) : den Tryz.prog Ob.cfg 3 [aG x.cells] = some (dB true) := by
  have haw := awake_den
  obtain ⟨b1, h1⟩ := heavy_den x (by unfold MX; omega)
  have s1 := check_den x ha hok
  have s2 := rcheck_den x ha hok
  simp only [aG, Oc.cells, List.map_cons, List.map_nil, dB, dI] at haw h1 s1 s2
  refine den_wp Tryz.func3 rfl (by kernel_rfl) rfl rfl ?_
  cases b1 with
  | true =>
    refine wkc (And.intro @aG.eq_1 (And.intro @Oc.cells.eq_1 (And.intro @h1 @haw))) ?_
    show retQ _ _ _ _ _
    exact ⟨.inr rfl, _, _, rfl, rfl⟩
  | false =>
    refine wkc (And.intro @aG.eq_1 (And.intro @Oc.cells.eq_1 (And.intro @h1 (And.intro @haw (And.intro @s1 @s2))))) ?_
    show retQ _ _ _ _ _
    exact ⟨.inr rfl, _, _, rfl, rfl⟩
/-- What a law of one object code comes to. -/
theorem contract1 {f : FuncId} {fn : Func} {spec : ChangeSpec} (hp : fn.params = #[25]) (hr : fn.resultTypes = #[4]) (hvars : spec.vars = []) (hspec : ∀ (H : Type) (d : DataW H), spec.fn H [d] = { results := [.lit (.bool true)], args := [d] })
    (hden : ∀ (x : Oc), x.sz ≤ 2097152 → x.ok → den Tryz.prog Ob.cfg f [aG x.cells] = some (.d (.bool true)))
    (H : Type) (enc : TypeId × Value → H) (W : World) (base : Nat) (args : Array Value) (ds gs : List (DataW H)) (before : List MemPlace)
    (hval : ∀ (j : Nat) t v, fn.params[j]? = some t → args[j]? = some v → Value.okWide Tryz.prog W .any base t v)
    (hW : DataW.Whole enc Tryz.prog fn.params.toList spec.vars false W args.toList ds gs before) (hk : Rows.uptoSmall H (ds ++ gs) = true) :
    Calls Tryz.prog f args W fun e W' => ∃ v, e = .returned v ∧ spec.post enc Tryz.prog fn false true false false W args v W' := by
  have hW' := hW
  obtain ⟨p, q, hA0, hV, rfl, hfz, hnd⟩ := hW
  have hA : DataW.TrodAll enc Tryz.prog W 0 (fun _ => true) true fn.params.toList args.toList ds p := hA0
  rw [hp] at hA hval
  obtain ⟨v0, vs0, d0, ds0, p0, q0, hargs, rfl, rfl, h0, r0⟩ := trodAll_cons hA
  obtain ⟨rfl, rfl, rfl⟩ := trodAll_nil r0
  obtain rfl : args = #[v0] := by cases args; simp_all
  rw [hvars] at hV
  obtain ⟨rfl, rfl⟩ := trodVars_none hV
  have hb : Rows.uptoBulk d0 ≤ 1048576 := by
    have h1 := of_decide_eq_true hk
    simp only [List.append_nil, Rows.uptoBulkAll] at h1
    omega
  obtain ⟨x, hsx, hxok, hRV0⟩ := open25 (hval 0 25 v0 rfl rfl) h0
  have hd := hden x (by omega) hxok
  refine (den_calls (xs := [v0]) hd ⟨rfl, fun j x y hx hy => ?_⟩).mono fun e W' ⟨he, hg, hh⟩ => ?_
  · match j with
    | 0 => simp at hx hy; subst hx; subst hy; exact hRV0
    | j + 1 => simp at hx
  subst he
  clear hA0
  simp only [List.append_nil] at hW'
  have hfn := hspec H d0
  refine ⟨_, rfl, post_of_same (pa := p0 ++ []) (pv := []) (by simpa using hW') (fun _ _ _ => ?_) (fun sp hs => ?_) (fun _ _ => ?_) (by simp) (hg.frame _) hg.2.1 ?_⟩
  · rw [hr]
    show DataW.TrodAll enc Tryz.prog W' _ _ _ [4] [.bool true] (spec.fn H [d0]).results []
    rw [hfn]
    exact trodAll_cons_mk (shut_bool Tryz.underlying4 _) trodAll_mk0
  · rw [hp]
    show DataW.TrodAll enc Tryz.prog W' 0 sp true [25] [v0] (spec.fn H [d0]).args (p0 ++ [])
    rw [hfn]
    exact trodAll_cons_mk (stay lt25 h0 W' sp hh fun p hp => hs p (by simp [hp])) trodAll_mk0
  · show DataW.TrodVars enc Tryz.prog W' _ spec.vars (spec.fn H [d0]).vars []
    rw [hvars, hfn]
    exact rfl
  · exact ok_one hr rfl (okWide_bool_mk Tryz.underlying4 _)
end Go.Ac
end
