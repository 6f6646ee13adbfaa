/- From a call by data to the given statement: a text and a number; the table of the powers of ten. -/
import Derived.Test.YtkimfnammkljoaaGreatDoorHePm
import Derived.Test.YtkimfnammkljoaaGreatDoorHeG
import Derived.Test.YtkimfnammkljoaaGreatDoorHeF
import Derived.ProofKit
import Derived.OpenShut
import Derived.JoinedCond
import Derived.Below
import Derived.Deep.DeepHandedRow
import Derived.Lib.LaidTab
set_option linter.unusedVariables false
set_option linter.unusedSimpArgs false
set_option maxRecDepth 4000
namespace Go.Ac
open Go.Proofs Go.ChangeShapes Go.WideShapes Go.RowKit
abbrev laidL : List (String × DataW Unit) := Go.Proofs.YtkimfnammkljoaaGreatDoor.Rows.genWordsRow.laid
def powZ : List Int := [1, 10, 100, 1000, 10000, 100000, 1000000, 10000000, 100000000, 1000000000, 10000000000, 100000000000, 1000000000000, 10000000000000, 100000000000000, 1000000000000000, 10000000000000000, 100000000000000000, 1000000000000000000, 10000000000000000000]
section
set_option linter.unusedSectionVars false
variable [GwR]
theorem pow_tab : pow10Tab = powZ.map fun z => D.int .u64 z := rfl
theorem RDs.ints {w : World} : ∀ zs : List Int, RDs w (zs.map fun z => D.int .u64 z) (zs.map fun z => Value.int .u64 z)
 | [] => ⟨rfl, fun j d v h _ => by simp at h⟩
 | z :: r => RDs.app (d1 := [_]) (v1 := [_]) (.one (.int _ _)) (RDs.ints r)
theorem gTab : Tryz.prog.globalNamed "internal/strconv.uint64pow10" = some 1 := by kernel_rfl
theorem gTabType : (Tryz.prog.globals[1]?).map (·.type) = some 526 := by kernel_rfl
theorem cTab : Tryz.prog.cellsOf 526 = 20 := by kernel_rfl
theorem cTab1 : Tryz.prog.cellsOf 497 = 1 := by kernel_rfl
/-- What the row's list gives. -/
theorem table {W : World} (h : laidMet Tryz.prog laidL W) : ∃ cs : List Value, RDs W pow10Tab cs ∧ ∀ i, W.cell? ⟨1, i, none⟩ = cs[i]? := by
 obtain ⟨ps, ⟨_, _, _, _, _, _, _, _, _, _, ⟨_, _, _, _, _, _, _, _, _, _, ⟨g', t', cs, fuel, p, q, hg', ht', hvar, hd, _, _⟩, _⟩, _⟩, _⟩ := h
 obtain rfl := Option.some.inj (gTab.symm.trans hg')
 obtain rfl := Option.some.inj (gTabType.symm.trans ht')
 have hc := Go.Lib.cells_of_tab (k := .u64) (zs := powZ) Tryz.underlying526 Tryz.underlying497 cTab1 cTab hd
 refine ⟨cs.toList, by rw [hc, pow_tab]; exact RDs.ints powZ, fun i => ?_⟩
 rw [World.var?_cell hg' hvar i]
 simp
abbrev m0 (W : World) : M := ⟨fun _ => none, fun _ => none, fun _ g => g < 0, W⟩
theorem RD.m0 {W : World} {d : D} {v : Value} (h : RD W noB d v) : RD (m0 W).w ((m0 W).av noB) d v := h.mono fun b _ hn => ⟨fun hx => by
 rcases hx with hx | ⟨id, o, x, hx, _⟩
 ·exact hx
 ·simp at hx, rfl⟩
theorem glob_ok {W : World} (h : laidMet Tryz.prog laidL W) : ∀ g, RV noB (m0 W) (Gl.gv g) (.pointer (some ⟨g, 0, none⟩)) := fun g => by
 cases g with
 | zero => exact .any _
 | succ g => cases g with
 | zero =>
  obtain ⟨cs, hR, hc⟩ := table h
  refine RV.vref (cells := pow10Tab) (fun j => cs.getD j default) (fun j d hj => ⟨fun hx => ?_, ?_⟩) fun j d hj => ?_
  ·rcases hx with hx | ⟨id, o, x, hx, _⟩
   ·exact hx
   ·simp at hx
  ·have hjl : j < cs.length := by rw [← hR.1]; exact (List.getElem?_eq_some_iff.1 hj).1
   simp only [Nat.zero_add]
   show W.cell? _ = _
   rw [hc j]
   simp [List.getD, hjl]
  ·have hjl : j < cs.length := by rw [← hR.1]; exact (List.getElem?_eq_some_iff.1 hj).1
   have : cs[j]? = some (cs.getD j default) := by simp [List.getD, hjl]
   exact (hR.2 j d _ hj this).m0
 | succ g => exact .any _

/-- The blocks that were there stay as they were. -/
def GrownO (W w' : World) : Prop := W.keptBut w' (fun _ => False) ∧ (∀ a, a.block < W.heap.size → w'.frozen? a = W.frozen? a) ∧ W.heap.size ≤ w'.heap.size
theorem GrownO.frame {W w' : World} (h : GrownO W w') (may : MemPlace → Prop) : W.keptBut w' may := World.keptBut_mono (fun _ f => f.elim) h.1
theorem post_of_old {H : Type} {enc : TypeId × Value → H} {P : Program} {f : Func} {s : ChangeSpec} {apart fresh handsOn again : Bool} {W W' : World} {args : Array Value} {v : Value} {ds gs : List (DataW H)} {before pa pv : List MemPlace}
  (hW : DataW.Whole enc P f.params.toList s.vars apart W args.toList ds gs before)
  (hres : ∀ (b : Nat) (sp : Nat → Bool) (hd : Bool), DataW.TrodAll enc P W' b sp hd f.resultTypes.toList (v.resultList f.resultTypes.size) (s.fn H (ds ++ gs)).results [])
  (hargs : ∀ sp : Nat → Bool, (∀ p ∈ before, sp p.block = true) → DataW.TrodAll enc P W' 0 sp true f.params.toList args.toList (s.fn H (ds ++ gs)).args pa)
  (hvars : ∀ sp : Nat → Bool, (∀ p ∈ before, sp p.block = true) → DataW.TrodVars enc P W' sp s.vars (s.fn H (ds ++ gs)).vars pv)
  (hps : before = pa ++ pv) (hk : W.keptBut W' (· ∈ before)) (hfz : ∀ a, a.block < W.heap.size → W'.frozen? a = W.frozen? a)
  (hok : ∀ (j : Nat) (t : TypeId) (r : Value), f.resultTypes[j]? = some t → (v.resultList f.resultTypes.size)[j]? = some r → Value.okWide P W' .any 0 t r) :
  s.post enc P f apart fresh handsOn again W args v W' := by
 have hlt : ∀ p ∈ before, p.block < W.heap.size := fun p hp => hW.lt p hp
 have hold : ∀ p ∈ before, (fun b => decide (b < W.heap.size)) p.block = true := fun p hp => by simpa using hlt p hp
 refine ⟨ds, gs, before, [], pa, pv, hW, hres _ _ _, hargs _ hold, hvars _ hold, World.keptBut_mono (fun p hp => ⟨hp, ?_⟩) hk, fun _ => ?_⟩
 ·rw [hps, List.mem_append] at hp
  exact Or.inr hp
 ·obtain ⟨_, _, _, _, _, hz, hn⟩ := hW
  refine ⟨hok, _, _, ([] ++ pa) ++ pv, ⟨[] ++ pa, pv, trodAll_append (hargs _ (fun _ _ => rfl)) (hres _ _ _), hvars _ (fun _ _ => rfl), rfl, ?_, ?_⟩, ?_⟩
  ·intro b off hp
   have hm : MemPlace.cell b off ∈ before := by rw [hps]; simpa using hp
   rw [hfz _ (hlt _ hm)]
   exact hz b off hm
  ·intro ha
   have := hn ha
   rw [hps] at this
   simpa using this
  ·intro p hp _
   rw [hps]
   simpa using hp
/-- A call by data is a call of the model's. -/
theorem den_calls {f : FuncId} {ws : List V} {xs : List Value} {b : Bool} {W : World} {cfg : Cfg} (hP : Pre Tryz.prog cfg) (hL : laidMet Tryz.prog laidL W) (hd : den Tryz.prog cfg f ws = some (.d (.bool b))) (hx : RVs noB (m0 W) ws xs) :
  Calls Tryz.prog f xs.toArray W fun e W' => e = .returned (.bool b) ∧ GrownO W W' ∧ ∀ i, i < W.heap.size → W'.heap[i]? = W.heap[i]? := by
 unfold den at hd
 split at hd
 ·rename_i r hr
  split at hd
  ·simp only [Option.some.injEq] at hd
   obtain ⟨K, hK⟩ := lim_some hr
   have hok := (callF_ok cfg hP mixed K).ok (hK K (Nat.le_refl _)) (fun id _ => rfl) (S := noB) (m := m0 W) (xs := xs) rfl rfl
    ⟨glob_ok hL, fun id o h => by simp at h, fun id o h => by simp at h, fun id o b base h => by simp at h, fun i j oi oj b x y h => by simp at h, fun b h => h.elim⟩ hx
   refine hok.mono fun e W' ⟨x, m', he, hw, hRel, hEvo, hRV, _, _⟩ => ?_
   rw [hd] at hRV
   have hx2 : x = .bool b := by
    cases hRV with
    | d h => cases h; rfl
   have hheap : ∀ i, i < W.heap.size → W'.heap[i]? = W.heap[i]? := fun i hi => by
    rw [← hw]
    refine (hEvo.keep i hi ?_).2
    rintro (h | ⟨id, o, x, h, _⟩)
    ·exact h
    ·simp at h
   refine ⟨by rw [he, hx2], ⟨⟨by rw [← hw]; exact hEvo.rest.1, by rw [← hw]; exact hEvo.rest.2, fun i hi => ?_⟩, fun a ha => by unfold World.frozen?; rw [hheap a.block ha], by rw [← hw]; exact hEvo.size⟩, hheap⟩
   rw [hheap i hi]
   exact (World.keptBut_refl W (fun _ => False)).2.2 i hi
  ·simp at hd
 ·simp at hd

end
/-- A reading of a text: what the symbols stand for. -/
noncomputable abbrev gwIn (s : Tx) (hd lp : List Bool) : GwR where
 s := s
 hd := encT hd
 lp := encT lp
 kd := (xW hd lp).k
 ty := (xW hd lp).t
 va := (xW hd lp).v
 ar := encX (xW hd lp).args
 pn := ((hd ++ lp).length : Int) - 1
 hn := (hd.length : Int)
 bit := fun t => if (hd ++ lp)[kW hd.length lp.length t]? = some true then 1 else 0
 ks := fun t => (kW hd.length lp.length t : Int)
theorem law3 (s : Tx) (n : Nat) (hn : n < 256) : ∃ (r : GwR) (cfg : Cfg), r.s = s ∧ Pre Tryz.prog cfg ∧ den Tryz.prog cfg 3 [.d (.sym 0), .d (.int .u8 (n : Int))] = some (.d (.bool true)) := by
 by_cases hs : 80 < s.length
 ·exact ⟨gwIn s [] [], cfgL, rfl, @preL (gwIn s [] []), @Gw.longL (gwIn s [] []) n hs⟩
 ·have hl : s.length ≤ 8388608 := by omega
  rcases @prsT_err (gwIn s [] []) s with h | ⟨h1, h2 | h2⟩
  ·obtain ⟨hd, lp, hp⟩ : ∃ hd lp, prsT s = ((hd, lp), 0) := ⟨(prsT s).1.1, (prsT s).1.2, by rw [← h]⟩
   exact ⟨gwIn s hd lp, cfg2, rfl, @preW (gwIn s hd lp) s hd lp (@WR.mk (gwIn s hd lp) s hd lp hp rfl rfl rfl rfl rfl rfl rfl rfl rfl (fun _ => rfl) (fun _ => rfl)), @Gw.word (gwIn s hd lp) n hn (by show s.length ≤ 80; omega)⟩
  ·have hp : prsT s = (([], []), ((3 : Nat) : Int)) := Prod.ext h1 h2
   exact ⟨gwIn s [] [], cfgF 3, rfl, @preF (gwIn s [] []) s 3 rfl hp (by decide) hl, @Gw.bad3 (gwIn s [] []) n (by show s.length ≤ 80; omega)⟩
  ·have hp : prsT s = (([], []), ((5 : Nat) : Int)) := Prod.ext h1 h2
   exact ⟨gwIn s [] [], cfgF 5, rfl, @preF (gwIn s [] []) s 5 rfl hp (by decide) hl, @Gw.bad5 (gwIn s [] []) n (by show s.length ≤ 80; omega)⟩
theorem kids : Kids Tryz.prog (· < Tryz.prog.types.size) := kids_rows (by kernel_rfl) (by kernel_rfl)
theorem full : ∀ t e, t < Tryz.prog.types.size → Tryz.prog.underlying t = some (.slice e) → 0 < Tryz.prog.cellsOf e := slices_full_of Tryz.prog (by kernel_rfl)
theorem lt9 : 9 < Tryz.prog.types.size := of_decide_eq_true (by kernel_rfl)
theorem stay {H : Type} {enc : TypeId × Value → H} {W : World} {t : TypeId} {v : Value} {d : DataW H} {ps : List MemPlace} (ht : t < Tryz.prog.types.size) (h : DataW.Trod enc Tryz.prog W 0 (fun _ => true) true t v d ps) :
  ∀ (W' : World) (sp : Nat → Bool), (∀ i, i < W.heap.size → W'.heap[i]? = W.heap[i]?) → (∀ p ∈ ps, sp p.block = true) → DataW.Trod enc Tryz.prog W' 0 sp true t v d ps := fun W' sp hh hs => by
 obtain ⟨fuel, hf⟩ := h
 refine ⟨fuel, DataW.trod_stays kids (fun {t e} ht => full t e ht) (fun hh => by cases hh) ht hf (fun p hp => ?_) hs⟩
 have hlt := DataW.trod_lt fuel t _ _ hf p hp
 cases p with
 | cell b off => simp only [World.sameAt, World.cell?]; rw [hh b hlt]
 | map b => simp only [World.sameAt]; exact hh b hlt
/-- What a law of a text and a small number comes to. -/
theorem contractSN {f : FuncId} {fn : Func} {spec : ChangeSpec} (hp : fn.params = #[9, 5]) (hr : fn.resultTypes = #[4]) (hvars : spec.vars = []) (hspec : ∀ (H : Type) (d d' : DataW H), spec.fn H [d, d'] = { results := [.lit (.bool true)], args := [d, d'] })
  (hden : ∀ (s : Tx) (n : Nat), n < 256 → ∃ (r : GwR) (cfg : Cfg), r.s = s ∧ Pre Tryz.prog cfg ∧ den Tryz.prog cfg f [.d (.sym 0), .d (.int .u8 (n : Int))] = some (.d (.bool true)))
  (H : Type) (enc : TypeId × Value → H) (W : World) (base : Nat) (args : Array Value) (ds gs : List (DataW H)) (before : List MemPlace)
  (hval : ∀ (j : Nat) t v, fn.params[j]? = some t → args[j]? = some v → Value.okWide Tryz.prog W .any base t v)
  (hW : DataW.Whole enc Tryz.prog fn.params.toList spec.vars false W args.toList ds gs before)
  (hL : laidMet Tryz.prog laidL W) :
  Calls Tryz.prog f args W fun e W' => ∃ v, e = .returned v ∧ spec.post enc Tryz.prog fn false true false false W args v W' := by
 have hW' := hW
 obtain ⟨p, q, hA0, hV, rfl, hfz, hnd⟩ := hW
 have hA : DataW.TrodAll enc Tryz.prog W 0 (fun _ => true) true fn.params.toList args.toList ds p := hA0
 rw [hp] at hA hval
 obtain ⟨v0, vs0, d0, ds0, p0, q0, hargs, rfl, rfl, h0, r0⟩ := trodAll_cons hA
 obtain ⟨v1, vs1, d1, ds1, p1, q1, rfl, rfl, rfl, h1, r1⟩ := trodAll_cons r0
 obtain ⟨rfl, rfl, rfl⟩ := trodAll_nil r1
 obtain rfl : args = #[v0, v1] := by cases args; simp_all
 rw [hvars] at hV
 obtain ⟨rfl, rfl⟩ := trodVars_none hV
 obtain ⟨s, rfl⟩ := okWide_string Tryz.underlying9 (hval 0 9 v0 rfl rfl)
 obtain ⟨n, rfl, rfl, rfl, hwf⟩ := open_int Tryz.underlying5 (hval 1 5 v1 rfl rfl) h1
 have hn : 0 ≤ n ∧ n < 256 := by
  simp [Lit.wf, IntKind.min, IntKind.max, IntKind.signed, IntKind.bits] at hwf
  omega
 have hnn : ((n.toNat : Nat) : Int) = n := by omega
 obtain ⟨r, cfg, hr0, hP, hd⟩ := hden s.data.toList n.toNat (by omega)
 rw [hnn] at hd
 refine (@den_calls r f _ [.string s, .int .u8 n] true W cfg hP hL hd ⟨rfl, fun j x y hx hy => ?_⟩).mono fun e W' ⟨he, hg, hh⟩ => ?_
 ·match j with
  | 0 =>
   simp at hx hy
   subst hx; subst hy
   refine .d (.sym 0 ?_)
   show RD _ _ (.str r.s) _
   exact .str _ _ hr0.symm
  | 1 => simp at hx hy; subst hx; subst hy; exact .d (.int _ _)
  | j + 2 => simp at hx
 subst he
 clear hA0
 simp only [List.append_nil] at hW'
 have hfn := hspec H d0 (.lit (.int .u8 n))
 refine ⟨_, rfl, post_of_old (pa := p0 ++ []) (pv := []) (by simpa using hW') (fun _ _ _ => ?_) (fun sp hs => ?_) (fun _ _ => ?_) (by simp) (hg.frame _) hg.2.1 ?_⟩
 ·rw [hr]
  show DataW.TrodAll enc Tryz.prog W' _ _ _ [4] [.bool true] (spec.fn H [d0, .lit (.int .u8 n)]).results []
  rw [hfn]
  exact trodAll_cons_mk (shut_bool Tryz.underlying4 _) trodAll_mk0
 ·rw [hp]
  show DataW.TrodAll enc Tryz.prog W' 0 sp true [9, 5] [.string s, .int .u8 n] (spec.fn H [d0, .lit (.int .u8 n)]).args (p0 ++ [])
  rw [hfn]
  exact trodAll_cons_mk (stay lt9 h0 W' sp hh fun p hp => hs p (by simpa using hp)) (trodAll_cons_mk (shut_int Tryz.underlying5 hwf) trodAll_mk0)
 ·show DataW.TrodVars enc Tryz.prog W' _ spec.vars (spec.fn H [d0, .lit (.int .u8 n)]).vars []
  rw [hvars, hfn]
  exact rfl
 ·exact ok_one hr rfl (okWide_bool_mk Tryz.underlying4 _)
end Go.Ac
