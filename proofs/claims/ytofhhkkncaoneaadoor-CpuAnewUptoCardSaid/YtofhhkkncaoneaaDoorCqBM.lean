/- Instructions that have passed the check keep to their ranges. -/
import Derived.Test.YtofhhkkncaoneaaDoorAcBM
import Derived.Test.YtofhhkkncaoneaaDoorAcDM
import Derived.Test.YtofhhkkncaoneaaDoorAcGM
import Derived.Test.YtofhhkkncaoneaaDoorAcJM
import Derived.Test.YtofhhkkncaoneaaDoorAcMM
import Derived.Test.YtofhhkkncaoneaaDoorAcOM
import Derived.Test.YtofhhkkncaoneaaDoorAcSM
import Derived.Test.YtofhhkkncaoneaaDoorAcXM
import Derived.Test.YtofhhkkncaoneaaDoorAcUcM
import Derived.Test.YtofhhkkncaoneaaDoorCpBM
import Derived.Test.YtofhhkkncaoneaaDoorCpDM
import Derived.Test.YtofhhkkncaoneaaDoorCpIM
import Derived.Test.YtofhhkkncaoneaaDoorCpK
import Derived.Test.YtofhhkkncaoneaaDoorCpL
import Derived.Test.YtofhhkkncaoneaaDoorCpLB
import Derived.Test.YtofhhkkncaoneaaDoorCpM
import Derived.Test.YtofhhkkncaoneaaDoorCpOM
import Derived.Test.YtofhhkkncaoneaaDoorCqAM
import Derived.Test.YtofhhkkncaoneaaDoorCqDM
import Derived.Test.YtofhhkkncaoneaaDoorCqIM
import Derived.Test.YtofhhkkncaoneaaDoorCqOM
import Derived.Calls
import Derived.Orders
import Derived.Laws.World
import Derived.Laws.Sem
import Derived.Laws.Cells
import Derived.Laws.Append
import GoSem.ClaimData
import Derived.Laws.Tables
import Derived.Laws.Slices
import Derived.Laws.Strings
import Derived.Laws.Small
import Derived.Test.YtofhhkkncaoneaaDoorChecked
import Derived.KernelRfl
import Derived.Lib.RuneCount
set_option linter.unusedVariables false
set_option linter.unusedSimpArgs false
section
set_option maxRecDepth 4000
set_option linter.unusedSimpArgs false
set_option linter.unusedVariables false
namespace Go.Ac
open Go.Proofs

/-- A call that is handed objects and hands the memory back. -/
def ThrN (f : FuncId) (vs : List V) (hp : Hp) (n c : Nat) (v : V) (ids : List Nat) (Φ : Hp → Nat → Prop) : Prop :=
  ∃ q, lim Tryd.prog Cp.cfg f vs hp n c = some q ∧ q.v = v ∧ n ≤ q.n ∧ WI ids n hp q.wl q.hp ∧ Φ q.hp q.n
def thrNQ (fn : Func) (hp : Hp) (n : Nat) (v : V) (ids0 : List Nat) (Φ : Hp → Nat → Prop) (e : Ex) (t : St) : Prop :=
  (e = .normal ∨ e = .ret) ∧ ∃ rs, resultsV Tryd.prog t fn.results.toList = some rs ∧ tup rs = v ∧ n ≤ t.n ∧ WI ids0 n hp t.wl t.hp ∧ Φ t.hp t.n
theorem thrN_wp {f : FuncId} {fn : Func} {body : Code} {vs : List V} {hp : Hp} {n c : Nat} {v : V} {ids0 : List Nat} {Φ : Hp → Nat → Prop} (hf : Tryd.prog.funcs[f]? = some fn) (hb : fn.body = some body) (hok : (Nat.ble vs.length fn.ntmps && codeOK fn.ntmps body) = true)
    (hthr : Cp.cfg.thr f = true) (h : WP Tryd.prog Cp.cfg f body ⟨envOf 0 vs, hp, n, c, n, []⟩ (thrNQ fn hp n v ids0 Φ)) : ThrN f vs hp n c v ids0 Φ := by
  obtain ⟨w, t, h1, h2⟩ := lim_wp (Q := fun w t => w = v ∧ n ≤ t.n ∧ WI ids0 n hp t.wl t.hp ∧ Φ t.hp t.n) hf hb hok (h.mono fun e t ⟨he, rs, a1, a2, a3, a4, a5⟩ => ⟨he, rs, a1, .inl hthr, a2, a3, a4, a5⟩)
  exact ⟨_, h1, h2.1, h2.2.1, h2.2.2.1, h2.2.2.2⟩
theorem ThrN.caller {f : FuncId} {vs : List V} {hp : Hp} {n c : Nat} {v : V} {ids : List Nat} {Φ : Hp → Nat → Prop} (h : ThrN f vs hp n c v ids Φ) (hids : ∀ j, j ∈ ids → j < n) :
    ∃ q, lim Tryd.prog Cp.cfg f vs hp n c = some q ∧ q.v = v ∧ n ≤ q.n ∧ (∀ k, k ∈ (tWr q n).map (·.1) → k < n + (q.n - n)) ∧ (∀ k, k ∈ (tWr q n).map (·.1) → k ∈ ids ∨ n ≤ k) ∧
      (∀ j, j < n → j ∉ ids → (hp.sets (tWr q n)).get j = hp.get j) ∧ ∃ hp', Φ hp' q.n ∧ ∀ j, j < q.n → (hp'.get j).isSome = true → (hp.sets (tWr q n)).get j = hp'.get j := by
  obtain ⟨q, h1, h2, h3, h4, h5⟩ := h
  exact ⟨q, h1, h2, h3, fun k hk => by have := (tWr_keys h3 h4 hids hk).2; omega, fun k hk => (tWr_keys h3 h4 hids hk).1, fun j hj hn => tWr_old h4 hj hn, q.hp, h5, fun j hj hs => tWr_same h4 hj hs⟩

/-- What Load answers. -/
def loadE (mem m : List Int) : Int := if m.length ≠ mem.length then 9 else if m.any outW then 14 else 0
/-- The machine, its memory anew. -/
def NewMem (im : Im) (idc gc n mid : Nat) (mem : List Int) (cnt : Int) (hp' : Hp) (n' : Nat) : Prop := ∃ mid' mg', Mc im hp' idc gc mid' mg' mem cnt ∧ mid' < n' ∧ (mid' = mid ∨ n ≤ mid')
theorem any_take {p : Int → Bool} {l : List Int} (h : (l.take l.length).all (fun v => !p v) = true) : l.any p = false := by
  rw [List.take_length] at h
  rw [← Bool.not_eq_true]
  intro hx
  obtain ⟨v, hv, hp⟩ := List.any_eq_true.1 hx
  have := List.all_eq_true.1 h v hv
  rw [hp] at this; cases this
section
variable {im : Im} {hp : Hp} {n c idc gc mid mg : Nat} {mem m : List Int} {cnt : Int}

set_option maxHeartbeats 2000000 in
theorem load_ok (hM : Mc im hp idc gc mid mg mem cnt) (q1 : idc < n) (q2 : mid < n) (hml : m.length ≤ 1000000) :
    ThrN 19 [.ptr idc gc 0, dL m] hp n c (dI (loadE mem m)) [idc] (NewMem im idc gc n mid (if loadE mem m = 0 then m else mem) cnt) := by
  have hM0 := hM
  obtain ⟨⟨cap, hcap, hC⟩, hm, d2⟩ := hM
  have hfit : fitsB m.length 8 = true := by simp [fitsB]; omega
  refine thrN_wp Tryd.func19 rfl (by kernel_rfl) rfl ?_
  unfold loadE
  by_cases hl : m.length = mem.length
  case neg =>
    rw [if_pos hl]
    have hl2 : ((m.length : Int) = mem.length) = False := eq_false (by omega)
    repeat (first
      | apply WP.seq
      | (apply WP.reg
         case hR => dsimp only [prepL, prepO, List.map, List.getElem?_cons_succ, List.getElem?_cons_zero]; exact Is.rfl
         case hr =>
           repeat (first
             | (apply RT.op (h := by simp [envOf, dI, dL, -addNew, hC, hm, int_bne, hl2, hl]; exact Is.rfl) (he := by (try dsimp only [putEnv]) <;> exact rfl))
             | (apply RT.call (hg := by simp; exact Is.rfl) (hfo := by simp; exact Is.rfl) (hpr := by exact Is.rfl) (hvs := by simp [envOf, dI, dL, -addNew, hC, hm, int_bne, hl2, hl]; exact Is.rfl) (hcl := by simp [envOf, dI, dL, -addNew, hC, hm, int_bne, hl2, hl]; exact Is.rfl) (hd := by simp [envOf, dI, dL, -addNew, hC, hm, int_bne, hl2, hl]; exact Is.rfl) (hwr := by simp [envOf, dI, dL, -addNew, hC, hm, int_bne, hl2, hl]; exact Is.rfl) (hlt := by simp [Is]) (he := by (try dsimp only [putEnv]) <;> exact rfl) (hh := by simp; exact Is.rfl) (hw := by exact Is.rfl))
             | (apply RT.clone (hg := by simp; exact Is.rfl) (hfo := by simp; exact Is.rfl) (hpr := by exact Is.rfl) (hvs := by simp [envOf, dI, dL, -addNew, hC, hm, int_bne, hl2, hl]; exact Is.rfl) (hrows := by simp [envOf, dI, dL, -addNew, hC, hm, int_bne, hl2, hl]; exact Is.rfl) (hfit := by first | assumption | (simp [fitsB]; omega)) (he := by (try dsimp only [putEnv]) <;> exact rfl) (hh := by simp [envOf, dI, dL, -addNew, hC, hm, int_bne, hl2, hl]; exact Is.rfl) (hw := by exact Is.rfl))
             | (apply RT.callT (hg := by simp; exact Is.rfl) (hfo := by simp; exact Is.rfl) (hpr := by exact Is.rfl) (hvs := by simp [envOf, dI, dL, -addNew, hC, hm, int_bne, hl2, hl]; exact Is.rfl) (hcl := by simp [envOf, dI, dL, -addNew, hC, hm, int_bne, hl2, hl]; exact Is.rfl) (hd := hT1) (hk := hT2) (he := by (try dsimp only [putEnv]) <;> exact rfl))
             | (apply RT.wr (h := by simp [envOf, dI, dL, -addNew, hC, hm, int_bne, hl2, hl]; exact Is.rfl) (he := by (try dsimp only [putEnv]) <;> exact rfl) (hh := by simp [envOf, dI, dL, -addNew, hC, hm, int_bne, hl2, hl]; exact Is.rfl) (hn := by exact Is.rfl) (hc := by exact Is.rfl) (hw := by exact Is.rfl)))
           exact RT.nil
         case hc => (show _ = _; kernel_rfl)
         case ht => simp [envOf, dI, dL, -addNew, hC, hm, int_bne, hl2, hl]; exact Is.rfl)
      | apply WP.block
      | apply WP.skip
      | apply WP.exit
      | apply WP.ret
      | refine WP.condT rfl ?_
      | refine WP.condF rfl ?_)
    refine ⟨.inr rfl, _, rfl, rfl, Nat.le_refl _, WI.refl, mid, mg, ?_, q2, .inl rfl⟩
    exact hM0
  rw [if_neg (by simp [hl])]
  have hl2 : ((m.length : Int) = mem.length) = True := eq_true (by omega)
  repeat (first
    | apply WP.seq
    | (apply WP.reg
       case hR => dsimp only [prepL, prepO, List.map, List.getElem?_cons_succ, List.getElem?_cons_zero]; exact Is.rfl
       case hr =>
         repeat (first
           | (apply RT.op (h := by simp [envOf, dI, dL, -addNew, hC, hm, int_bne, hl2, hl]; exact Is.rfl) (he := by (try dsimp only [putEnv]) <;> exact rfl))
           | (apply RT.call (hg := by simp; exact Is.rfl) (hfo := by simp; exact Is.rfl) (hpr := by exact Is.rfl) (hvs := by simp [envOf, dI, dL, -addNew, hC, hm, int_bne, hl2, hl]; exact Is.rfl) (hcl := by simp [envOf, dI, dL, -addNew, hC, hm, int_bne, hl2, hl]; exact Is.rfl) (hd := by simp [envOf, dI, dL, -addNew, hC, hm, int_bne, hl2, hl]; exact Is.rfl) (hwr := by simp [envOf, dI, dL, -addNew, hC, hm, int_bne, hl2, hl]; exact Is.rfl) (hlt := by simp [Is]) (he := by (try dsimp only [putEnv]) <;> exact rfl) (hh := by simp; exact Is.rfl) (hw := by exact Is.rfl))
           | (apply RT.clone (hg := by simp; exact Is.rfl) (hfo := by simp; exact Is.rfl) (hpr := by exact Is.rfl) (hvs := by simp [envOf, dI, dL, -addNew, hC, hm, int_bne, hl2, hl]; exact Is.rfl) (hrows := by simp [envOf, dI, dL, -addNew, hC, hm, int_bne, hl2, hl]; exact Is.rfl) (hfit := by first | assumption | (simp [fitsB]; omega)) (he := by (try dsimp only [putEnv]) <;> exact rfl) (hh := by simp [envOf, dI, dL, -addNew, hC, hm, int_bne, hl2, hl]; exact Is.rfl) (hw := by exact Is.rfl))
           | (apply RT.callT (hg := by simp; exact Is.rfl) (hfo := by simp; exact Is.rfl) (hpr := by exact Is.rfl) (hvs := by simp [envOf, dI, dL, -addNew, hC, hm, int_bne, hl2, hl]; exact Is.rfl) (hcl := by simp [envOf, dI, dL, -addNew, hC, hm, int_bne, hl2, hl]; exact Is.rfl) (hd := hT1) (hk := hT2) (he := by (try dsimp only [putEnv]) <;> exact rfl))
           | (apply RT.wr (h := by simp [envOf, dI, dL, -addNew, hC, hm, int_bne, hl2, hl]; exact Is.rfl) (he := by (try dsimp only [putEnv]) <;> exact rfl) (hh := by simp [envOf, dI, dL, -addNew, hC, hm, int_bne, hl2, hl]; exact Is.rfl) (hn := by exact Is.rfl) (hc := by exact Is.rfl) (hw := by exact Is.rfl)))
         exact RT.nil
       case hc => (show _ = _; kernel_rfl)
       case ht => simp [envOf, dI, dL, -addNew, hC, hm, int_bne, hl2, hl]; exact Is.rfl)
    | apply WP.block
    | apply WP.skip
    | apply WP.exit
    | apply WP.ret
    | refine WP.condT rfl ?_
    | refine WP.condF rfl ?_)
  apply WP.loop' (I := fun d s => ∃ j : Nat, j + d = m.length ∧ (m.take j).all (fun v => !outW v) = true ∧ ∃ hp' c' wl', (∀ t, t < n → hp'.get t = hp.get t) ∧ WI [idc] n hp wl' hp' ∧ s = ⟨[(0, .ptr idc gc 0), (1, dL m), (19, dL m), (20, dI mem.length), (21, dI j)], hp', n, c', n, wl'⟩) (d := m.length)
  · exact ⟨0, by simp, by simp, hp, c, [], fun _ _ => rfl, WI.refl, by rfl⟩
  rintro d _ ⟨j, hj, hno, hp', c', wl', hfr, gw, rfl⟩
  have hMc : Mc im hp' idc gc mid mg mem cnt := hM0.same (hfr _ q1) (hfr _ q2)
  have hC' := (hfr _ q1).trans hC
  repeat (first
    | apply WP.seq
    | (apply WP.reg
       case hR => dsimp only [prepL, prepO, List.map, List.getElem?_cons_succ, List.getElem?_cons_zero]; exact Is.rfl
       case hr =>
         repeat (first
           | (apply RT.op (h := by simp [dI, dL, -addNew]; exact Is.rfl) (he := by (try dsimp only [putEnv]) <;> exact rfl))
           | (apply RT.call (hg := by simp; exact Is.rfl) (hfo := by simp; exact Is.rfl) (hpr := by exact Is.rfl) (hvs := by simp [dI, dL, -addNew]; exact Is.rfl) (hcl := by simp [dI, dL, -addNew]; exact Is.rfl) (hd := by simp [dI, dL, -addNew]; exact Is.rfl) (hwr := by simp [dI, dL, -addNew]; exact Is.rfl) (hlt := by simp [Is]) (he := by (try dsimp only [putEnv]) <;> exact rfl) (hh := by simp; exact Is.rfl) (hw := by exact Is.rfl))
           | (apply RT.clone (hg := by simp; exact Is.rfl) (hfo := by simp; exact Is.rfl) (hpr := by exact Is.rfl) (hvs := by simp [dI, dL, -addNew]; exact Is.rfl) (hrows := by simp [dI, dL, -addNew]; exact Is.rfl) (hfit := by first | assumption | (simp [fitsB]; omega)) (he := by (try dsimp only [putEnv]) <;> exact rfl) (hh := by simp [dI, dL, -addNew]; exact Is.rfl) (hw := by exact Is.rfl))
           | (apply RT.callT (hg := by simp; exact Is.rfl) (hfo := by simp; exact Is.rfl) (hpr := by exact Is.rfl) (hvs := by simp [dI, dL, -addNew]; exact Is.rfl) (hcl := by simp [dI, dL, -addNew]; exact Is.rfl) (hd := hT1) (hk := hT2) (he := by (try dsimp only [putEnv]) <;> exact rfl))
           | (apply RT.wr (h := by simp [dI, dL, -addNew]; exact Is.rfl) (he := by (try dsimp only [putEnv]) <;> exact rfl) (hh := by simp [dI, dL, -addNew]; exact Is.rfl) (hn := by exact Is.rfl) (hc := by exact Is.rfl) (hw := by exact Is.rfl)))
         exact RT.nil
       case hc => (show _ = _; kernel_rfl)
       case ht => simp [dI, dL, -addNew]; exact Is.rfl)
    | apply WP.block
    | apply WP.skip
    | apply WP.exit
    | apply WP.ret)
  show WP _ _ _ _ _ _
  refine WP.cond _ rfl (fun hb => ?_) (fun hb => ?_)
  · simp at hb
    have hb' : j < m.length := by omega
    obtain ⟨v, hv, hvm, hix⟩ := at_lt hb'
    have hv' := encI_at hv
    have hw := w_succ hb' (by omega)
    have hts := all_take_succ (p := fun v => !outW v) hv
    have hin := in_den v
    simp only [dI, dB] at hin
    have hio : (decide (-32768 ≤ v) && decide (v ≤ 32767)) = !outW v := by unfold outW; rw [Bool.eq_iff_iff]; simp
    rw [hio] at hin
    cases ho : outW v with
    | true =>
      rw [ho] at hin
      have hx : m.any outW = true := List.any_eq_true.2 ⟨v, hvm, ho⟩
      rw [if_pos hx]
      repeat (first
        | apply WP.seq
        | (apply WP.reg
           case hR => dsimp only [prepL, prepO, List.map, List.getElem?_cons_succ, List.getElem?_cons_zero]; exact Is.rfl
           case hr =>
             repeat (first
               | (apply RT.op (h := by simp [dI, dL, -addNew, hix, hv', hin]; exact Is.rfl) (he := by (try dsimp only [putEnv]) <;> exact rfl))
               | (apply RT.call (hg := by simp; exact Is.rfl) (hfo := by simp; exact Is.rfl) (hpr := by exact Is.rfl) (hvs := by simp [dI, dL, -addNew, hix, hv', hin]; exact Is.rfl) (hcl := by simp [dI, dL, -addNew, hix, hv', hin]; exact Is.rfl) (hd := by simp [dI, dL, -addNew, hix, hv', hin]; exact Is.rfl) (hwr := by simp [dI, dL, -addNew, hix, hv', hin]; exact Is.rfl) (hlt := by simp [Is]) (he := by (try dsimp only [putEnv]) <;> exact rfl) (hh := by simp; exact Is.rfl) (hw := by exact Is.rfl))
               | (apply RT.clone (hg := by simp; exact Is.rfl) (hfo := by simp; exact Is.rfl) (hpr := by exact Is.rfl) (hvs := by simp [dI, dL, -addNew, hix, hv', hin]; exact Is.rfl) (hrows := by simp [dI, dL, -addNew, hix, hv', hin]; exact Is.rfl) (hfit := by first | assumption | (simp [fitsB]; omega)) (he := by (try dsimp only [putEnv]) <;> exact rfl) (hh := by simp [dI, dL, -addNew, hix, hv', hin]; exact Is.rfl) (hw := by exact Is.rfl))
               | (apply RT.callT (hg := by simp; exact Is.rfl) (hfo := by simp; exact Is.rfl) (hpr := by exact Is.rfl) (hvs := by simp [dI, dL, -addNew, hix, hv', hin]; exact Is.rfl) (hcl := by simp [dI, dL, -addNew, hix, hv', hin]; exact Is.rfl) (hd := hT1) (hk := hT2) (he := by (try dsimp only [putEnv]) <;> exact rfl))
               | (apply RT.wr (h := by simp [dI, dL, -addNew, hix, hv', hin]; exact Is.rfl) (he := by (try dsimp only [putEnv]) <;> exact rfl) (hh := by simp [dI, dL, -addNew, hix, hv', hin]; exact Is.rfl) (hn := by exact Is.rfl) (hc := by exact Is.rfl) (hw := by exact Is.rfl)))
             exact RT.nil
           case hc => (show _ = _; kernel_rfl)
           case ht => simp [dI, dL, -addNew, hix, hv', hin]; exact Is.rfl)
        | apply WP.block
        | apply WP.skip
        | apply WP.exit
        | apply WP.ret
        | refine WP.condT rfl ?_
        | refine WP.condF rfl ?_)
      repeat (first | with_reducible apply blockQ_rt | with_reducible apply seqQ_rt | with_reducible apply loopQ_rt)
      refine ⟨.inr rfl, _, rfl, rfl, Nat.le_refl _, gw, mid, mg, ?_, q2, .inl rfl⟩
      exact hMc
    | false =>
      rw [ho] at hin
      repeat (first
        | apply WP.seq
        | (apply WP.reg
           case hR => dsimp only [prepL, prepO, List.map, List.getElem?_cons_succ, List.getElem?_cons_zero]; exact Is.rfl
           case hr =>
             repeat (first
               | (apply RT.op (h := by simp [dI, dL, -addNew, hix, hv', hin]; exact Is.rfl) (he := by (try dsimp only [putEnv]) <;> exact rfl))
               | (apply RT.call (hg := by simp; exact Is.rfl) (hfo := by simp; exact Is.rfl) (hpr := by exact Is.rfl) (hvs := by simp [dI, dL, -addNew, hix, hv', hin]; exact Is.rfl) (hcl := by simp [dI, dL, -addNew, hix, hv', hin]; exact Is.rfl) (hd := by simp [dI, dL, -addNew, hix, hv', hin]; exact Is.rfl) (hwr := by simp [dI, dL, -addNew, hix, hv', hin]; exact Is.rfl) (hlt := by simp [Is]) (he := by (try dsimp only [putEnv]) <;> exact rfl) (hh := by simp; exact Is.rfl) (hw := by exact Is.rfl))
               | (apply RT.clone (hg := by simp; exact Is.rfl) (hfo := by simp; exact Is.rfl) (hpr := by exact Is.rfl) (hvs := by simp [dI, dL, -addNew, hix, hv', hin]; exact Is.rfl) (hrows := by simp [dI, dL, -addNew, hix, hv', hin]; exact Is.rfl) (hfit := by first | assumption | (simp [fitsB]; omega)) (he := by (try dsimp only [putEnv]) <;> exact rfl) (hh := by simp [dI, dL, -addNew, hix, hv', hin]; exact Is.rfl) (hw := by exact Is.rfl))
               | (apply RT.callT (hg := by simp; exact Is.rfl) (hfo := by simp; exact Is.rfl) (hpr := by exact Is.rfl) (hvs := by simp [dI, dL, -addNew, hix, hv', hin]; exact Is.rfl) (hcl := by simp [dI, dL, -addNew, hix, hv', hin]; exact Is.rfl) (hd := hT1) (hk := hT2) (he := by (try dsimp only [putEnv]) <;> exact rfl))
               | (apply RT.wr (h := by simp [dI, dL, -addNew, hix, hv', hin]; exact Is.rfl) (he := by (try dsimp only [putEnv]) <;> exact rfl) (hh := by simp [dI, dL, -addNew, hix, hv', hin]; exact Is.rfl) (hn := by exact Is.rfl) (hc := by exact Is.rfl) (hw := by exact Is.rfl)))
             exact RT.nil
           case hc => (show _ = _; kernel_rfl)
           case ht => simp [dI, dL, -addNew, hix, hv', hin]; exact Is.rfl)
        | apply WP.block
        | apply WP.skip
        | apply WP.exit
        | apply WP.ret
        | refine WP.condT rfl ?_
        | refine WP.condF rfl ?_)
      refine loop_next (by simp [-addNew, hw]; exact Is.rfl) ?_
      exact ⟨d - 1, by omega, j + 1, by omega, by rw [hts, hno, ho]; rfl, _, _, _, fun t ht => (Hp.get_trunc _ _ _ ht).trans (hfr t ht), gw.trunc (Nat.le_refl _), by rfl⟩
  · simp at hb
    have hje : j = m.length := by omega
    subst hje
    rw [any_take hno, if_neg (by simp)]
    have f1 : (n = idc) = False := eq_false (by omega)
    have f2 : (idc < n + 1) = True := eq_true (by omega)
    repeat (first
      | apply WP.seq
      | (apply WP.reg
         case hR => dsimp only [prepL, prepO, List.map, List.getElem?_cons_succ, List.getElem?_cons_zero]; exact Is.rfl
         case hr =>
           repeat (first
             | (apply RT.op (h := by simp [dI, dL, -addNew, hC', rowsI, Hp.get_set, f1, f2]; exact Is.rfl) (he := by (try dsimp only [putEnv]) <;> exact rfl))
             | (apply RT.call (hg := by simp; exact Is.rfl) (hfo := by simp; exact Is.rfl) (hpr := by exact Is.rfl) (hvs := by simp [dI, dL, -addNew, hC', rowsI, Hp.get_set, f1, f2]; exact Is.rfl) (hcl := by simp [dI, dL, -addNew, hC', rowsI, Hp.get_set, f1, f2]; exact Is.rfl) (hd := by simp [dI, dL, -addNew, hC', rowsI, Hp.get_set, f1, f2]; exact Is.rfl) (hwr := by simp [dI, dL, -addNew, hC', rowsI, Hp.get_set, f1, f2]; exact Is.rfl) (hlt := by simp [Is]) (he := by (try dsimp only [putEnv]) <;> exact rfl) (hh := by simp; exact Is.rfl) (hw := by exact Is.rfl))
             | (apply RT.clone (hg := by simp; exact Is.rfl) (hfo := by simp; exact Is.rfl) (hpr := by exact Is.rfl) (hvs := by simp [dI, dL, -addNew, hC', rowsI, Hp.get_set, f1, f2]; exact Is.rfl) (hrows := by simp [dI, dL, -addNew, hC', rowsI, Hp.get_set, f1, f2]; exact Is.rfl) (hfit := by first | assumption | (simp [fitsB]; omega)) (he := by (try dsimp only [putEnv]) <;> exact rfl) (hh := by simp [dI, dL, -addNew, hC', rowsI, Hp.get_set, f1, f2]; exact Is.rfl) (hw := by exact Is.rfl))
             | (apply RT.callT (hg := by simp; exact Is.rfl) (hfo := by simp; exact Is.rfl) (hpr := by exact Is.rfl) (hvs := by simp [dI, dL, -addNew, hC', rowsI, Hp.get_set, f1, f2]; exact Is.rfl) (hcl := by simp [dI, dL, -addNew, hC', rowsI, Hp.get_set, f1, f2]; exact Is.rfl) (hd := hT1) (hk := hT2) (he := by (try dsimp only [putEnv]) <;> exact rfl))
             | (apply RT.wr (h := by simp [dI, dL, -addNew, hC', rowsI, Hp.get_set, f1, f2]; exact Is.rfl) (he := by (try dsimp only [putEnv]) <;> exact rfl) (hh := by simp [dI, dL, -addNew, hC', rowsI, Hp.get_set, f1, f2]; exact Is.rfl) (hn := by exact Is.rfl) (hc := by exact Is.rfl) (hw := by exact Is.rfl)))
           exact RT.nil
         case hc => (show _ = _; kernel_rfl)
         case ht => simp [dI, dL, -addNew, hC', rowsI, Hp.get_set, f1, f2]; exact Is.rfl)
      | apply WP.block
      | apply WP.skip
      | apply WP.exit
      | apply WP.ret
      | refine WP.condT rfl ?_
      | refine WP.condF rfl ?_)
    refine ⟨.inr rfl, _, rfl, rfl, by simp, (gw.set (.inr (Nat.le_refl _))).set (.inl (by simp)), n, c', ?_, by simp, .inr (Nat.le_refl _)⟩
    rw [if_pos rfl]
    refine ⟨⟨none, by simp, ?_⟩, ?_, by omega⟩
    · rw [Hp.get_set_self]; rfl
    · rw [Hp.get_set_ne _ _ _ _ (by omega), Hp.get_set_self]

theorem reset_ok {o3 o4 : V} {q : Rt} (hC : hp.get idc = some ⟨gc, false, [V.d (.slice (encI im.enums)), V.d (.slice (encR im.rs)), o3, o4]⟩) (hmain : Thr 27 [.ptr idc gc 0] hp n c (aR q) [] (fun _ => True)) (q1 : idc < n) (hml : q.ini.length ≤ 1000000) :
    ThrN 18 [.ptr idc gc 0] hp n c (.tuple []) [idc] (NewMem im idc gc n n q.ini 0) := by
  have hfit : fitsB q.ini.length 8 = true := by simp [fitsB]; omega
  obtain ⟨r0, hT1, hv, hn, hT2, hki, hfr, _⟩ := hmain.caller (by intro j hj; cases hj)
  simp only [aR, Rt.cells, List.map_cons, List.map_nil] at hv
  have f1 : (n = idc) = False := eq_false (by omega)
  have f2 : (idc < n + 1) = True := eq_true (by omega)
  have hk := (hfr idc q1 (by simp)).trans hC
  refine thrN_wp Tryd.func18 rfl (by kernel_rfl) rfl ?_
  repeat (first
    | apply WP.seq
    | (apply WP.reg
       case hR => dsimp only [prepL, prepO, List.map, List.getElem?_cons_succ, List.getElem?_cons_zero]; exact Is.rfl
       case hr =>
         repeat (first
           | (apply RT.op (h := by simp [envOf, dI, dL, -addNew, hC, hv, hn, hk, rowsI, Hp.get_set, f1, f2]; exact Is.rfl) (he := by (try dsimp only [putEnv]) <;> exact rfl))
           | (apply RT.call (hg := by simp; exact Is.rfl) (hfo := by simp; exact Is.rfl) (hpr := by exact Is.rfl) (hvs := by simp [envOf, dI, dL, -addNew, hC, hv, hn, hk, rowsI, Hp.get_set, f1, f2]; exact Is.rfl) (hcl := by simp [envOf, dI, dL, -addNew, hC, hv, hn, hk, rowsI, Hp.get_set, f1, f2]; exact Is.rfl) (hd := by simp [envOf, dI, dL, -addNew, hC, hv, hn, hk, rowsI, Hp.get_set, f1, f2]; exact Is.rfl) (hwr := by simp [envOf, dI, dL, -addNew, hC, hv, hn, hk, rowsI, Hp.get_set, f1, f2]; exact Is.rfl) (hlt := by simp [Is]) (he := by (try dsimp only [putEnv]) <;> exact rfl) (hh := by simp; exact Is.rfl) (hw := by exact Is.rfl))
           | (apply RT.clone (hg := by simp; exact Is.rfl) (hfo := by simp; exact Is.rfl) (hpr := by exact Is.rfl) (hvs := by simp [envOf, dI, dL, -addNew, hC, hv, hn, hk, rowsI, Hp.get_set, f1, f2]; exact Is.rfl) (hrows := by simp [envOf, dI, dL, -addNew, hC, hv, hn, hk, rowsI, Hp.get_set, f1, f2]; exact Is.rfl) (hfit := by first | assumption | (simp [fitsB]; omega)) (he := by (try dsimp only [putEnv]) <;> exact rfl) (hh := by simp [envOf, dI, dL, -addNew, hC, hv, hn, hk, rowsI, Hp.get_set, f1, f2]; exact Is.rfl) (hw := by exact Is.rfl))
           | (apply RT.callT (hg := by simp; exact Is.rfl) (hfo := by simp; exact Is.rfl) (hpr := by exact Is.rfl) (hvs := by simp [envOf, dI, dL, -addNew, hC, hv, hn, hk, rowsI, Hp.get_set, f1, f2]; exact Is.rfl) (hcl := by simp [envOf, dI, dL, -addNew, hC, hv, hn, hk, rowsI, Hp.get_set, f1, f2]; exact Is.rfl) (hd := hT1) (hk := hT2) (he := by (try dsimp only [putEnv]) <;> exact rfl))
           | (apply RT.wr (h := by simp [envOf, dI, dL, -addNew, hC, hv, hn, hk, rowsI, Hp.get_set, f1, f2]; exact Is.rfl) (he := by (try dsimp only [putEnv]) <;> exact rfl) (hh := by simp [envOf, dI, dL, -addNew, hC, hv, hn, hk, rowsI, Hp.get_set, f1, f2]; exact Is.rfl) (hn := by exact Is.rfl) (hc := by exact Is.rfl) (hw := by exact Is.rfl)))
         exact RT.nil
       case hc => (show _ = _; kernel_rfl)
       case ht => simp [envOf, dI, dL, -addNew, hC, hv, hn, hk, rowsI, Hp.get_set, f1, f2]; exact Is.rfl)
    | apply WP.block
    | apply WP.skip
    | apply WP.exit
    | apply WP.ret
    | refine WP.condT rfl ?_
    | refine WP.condF rfl ?_)
  have hw : WI [idc] n hp (addNew n [] (tWr r0 n)) (hp.sets (tWr r0 n)) := WI.refl.sets fun p hp => by have := hki _ (List.mem_map.2 ⟨p, hp, rfl⟩); cases this
  refine ⟨.inl rfl, _, rfl, rfl, by simp, ((hw.set (.inr (Nat.le_refl _))).set (.inl (by simp))).set (.inl (by simp)), n, c + (r0.c - c), ⟨⟨none, by simp, ?_⟩, ?_, by omega⟩, by simp, .inr (Nat.le_refl _)⟩
  · rw [Hp.get_set_self]; rfl
  · rw [Hp.get_set_ne _ _ _ _ (by omega), Hp.get_set_ne _ _ _ _ (by omega), Hp.get_set_self]
end
end Go.Ac
end

section
set_option maxRecDepth 4000
set_option linter.unusedSimpArgs false
set_option linter.unusedVariables false
namespace Go.Ac
open Go.Proofs

theorem toDs_d (look : Look) (f : Nat) : ∀ l : List D, toDs (toD look f) (l.map V.d) = some (l, [])
  | [] => rfl
  | x :: r => by
    have h1 := toDs_d look f r
    have h2 : toD look f (.d x) = some (x, []) := by cases f <;> rfl
    simp only [List.map_cons, toDs, h1, h2]; rfl
theorem chunk_flat {sz : Nat} : ∀ {l : List (List D)}, (∀ r ∈ l, r.length = sz) → chunk sz l.length l.flatten = l
  | [], _ => rfl
  | r :: l, h => by
    have h1 := h r (by simp)
    have ih := chunk_flat (l := l) (fun x hx => h x (by simp [hx]))
    simp only [List.length_cons, List.flatten_cons, chunk]
    rw [List.take_append_of_le_length (by omega), List.drop_append_of_le_length (by omega), ← h1, List.take_length, List.drop_length, List.nil_append, h1, ih]
def cC (l : List I) : List V := (encC l).flatten.map .d
def cR (l : List Rt) : List V := (encR l).flatten.map .d
theorem encC_row (l : List I) : ∀ r ∈ encC l, r.length = 5 := by
  unfold encC; intro r hr; obtain ⟨x, _, rfl⟩ := List.mem_map.1 hr; rfl
theorem encR_row (l : List Rt) : ∀ r ∈ encR l, r.length = 6 := by
  unfold encR; intro r hr; obtain ⟨x, _, rfl⟩ := List.mem_map.1 hr; rfl
theorem flat_len {sz : Nat} : ∀ {l : List (List D)}, (∀ r ∈ l, r.length = sz) → l.flatten.length = l.length * sz
  | [], _ => by simp
  | r :: l, h => by
    have h1 := h r (by simp)
    have ih := flat_len (l := l) (fun x hx => h x (by simp [hx]))
    simp [ih, h1, Nat.add_mul]; omega
theorem cC_len (l : List I) : (cC l).length = l.length * 5 := by unfold cC; rw [List.length_map, flat_len (encC_row l), encC_len]
theorem cR_len (l : List Rt) : (cR l).length = l.length * 6 := by unfold cR; rw [List.length_map, flat_len (encR_row l), encR_len]
theorem rowsC (look : Look) (l : List I) : rowsOf look 5 (.d (.slice (encC l))) = some (l.length, cC l, []) := by
  have : (encC l).all (fun r => Nat.beq r.length 5) = true := by rw [List.all_eq_true]; intro r hr; rw [encC_row l r hr]; rfl
  simp only [rowsOf, this, if_true, encC_len]; rfl
theorem toDs_cc (look : Look) (f : Nat) (l : List I) : toDs (toD look f) (cC l) = some ((encC l).flatten, []) := toDs_d look f _
theorem chunkC (l : List I) : chunk 5 l.length (encC l).flatten = encC l := by
  have := chunk_flat (encC_row l); rwa [encC_len] at this
theorem toDs_cr (look : Look) (f : Nat) (l : List Rt) : toDs (toD look f) (cR l) = some ((encR l).flatten, []) := toDs_d look f _
theorem chunkR (l : List Rt) : chunk 6 l.length (encR l).flatten = encR l := by
  have := chunk_flat (encR_row l); rwa [encR_len] at this
theorem cC_take (l : List I) : (cC l).take (l.length * 5) = cC l := by rw [← cC_len, List.take_length]
theorem cR_take (l : List Rt) : (cR l).take (l.length * 6) = cR l := by rw [← cR_len, List.take_length]
theorem cR_snoc (l : List Rt) (r : Rt) : cR l ++ r.cells.map .d = cR (l ++ [r]) := by
  unfold cR encR; simp

set_option maxHeartbeats 4000000 in
theorem copied_im (im : Im) (hs : im.sz ≤ MB) : den Tryd.prog Cp.cfg 24 [aM im] = some (aM im) := by
  have hrl := im.len_rs
  have hel : im.enums.length ≤ im.sz := by unfold Im.sz; omega
  unfold MB at hs
  have hfe : fitsB im.enums.length 8 = true := by simp [fitsB]; omega
  refine den_wp Tryd.func24 rfl (by kernel_rfl) rfl rfl ?_
  repeat (first
    | apply WP.seq
    | (apply WP.reg
       case hR => dsimp only [prepL, prepO, List.map, List.getElem?_cons_succ, List.getElem?_cons_zero]; exact Is.rfl
       case hr =>
         repeat (first
           | (apply RT.op (h := by simp [dI, aM, Im.cells, rowsI, cI_len, fillV]; exact Is.rfl) (he := by (try dsimp only [putEnv]) <;> exact rfl))
           | (apply RT.call (hg := by simp; exact Is.rfl) (hfo := by simp; exact Is.rfl) (hpr := by exact Is.rfl) (hvs := by simp [dI, aM, Im.cells, rowsI, cI_len, fillV]; exact Is.rfl) (hcl := by simp [dI, aM, Im.cells, rowsI, cI_len, fillV]; exact Is.rfl) (hd := by simp [dI, aM, Im.cells, rowsI, cI_len, fillV]; exact Is.rfl) (hwr := by simp [dI, aM, Im.cells, rowsI, cI_len, fillV]; exact Is.rfl) (hlt := by simp [Is]) (he := by (try dsimp only [putEnv]) <;> exact rfl) (hh := by simp; exact Is.rfl) (hw := by simp; exact Is.rfl))
           | (apply RT.clone (hg := by simp; exact Is.rfl) (hfo := by simp; exact Is.rfl) (hpr := by exact Is.rfl) (hvs := by simp [dI, aM, Im.cells, rowsI, cI_len, fillV]; exact Is.rfl) (hrows := by simp [dI, aM, Im.cells, rowsI, cI_len, fillV]; exact Is.rfl) (hfit := by first | assumption | (simp [fitsB]; omega)) (he := by (try dsimp only [putEnv]) <;> exact rfl) (hh := by simp [dI, aM, Im.cells, rowsI, cI_len, fillV]; exact Is.rfl) (hw := by simp; exact Is.rfl))
           | (apply RT.wr (h := by simp [dI, aM, Im.cells, rowsI, cI_len, fillV]; exact Is.rfl) (he := by (try dsimp only [putEnv]) <;> exact rfl) (hh := by simp [dI, aM, Im.cells, rowsI, cI_len, fillV]; exact Is.rfl) (hn := by exact Is.rfl) (hc := by exact Is.rfl) (hw := by simp; exact Is.rfl)))
         exact RT.nil
       case hc => (show _ = _; kernel_rfl)
       case ht => simp [dI, aM, Im.cells, rowsI, cI_len, fillV]; exact Is.rfl)
    | apply WP.block
    | apply WP.skip
    | apply WP.exit
    | apply WP.ret
    | refine WP.condT rfl ?_
    | refine WP.condF rfl ?_)
  apply WP.loop' (I := fun D s => ∃ (j g : Nat), j + D = im.rs.length ∧ ∃ c', s = ⟨[(2, .ptr 1 1 0), (3, .ptr 3 3 0), (11, .d (.slice (encR im.rs))), (12, dI im.rs.length), (13, dI j)], [(0, ⟨0, false, [.d (.slice (encI im.enums)), .d (.slice (encR im.rs))]⟩), (1, ⟨1, false, [.full [], .full []]⟩), (2, ⟨2, false, cI im.enums⟩), (3, ⟨3, false, [.osl 2 2 0 im.enums.length 1 none, .osl 4 g 0 j 6 none]⟩), (4, ⟨g, false, cR (im.rs.take j)⟩)], 5, c', 0, []⟩) (d := im.rs.length)
  · exact ⟨0, 4, by simp, 5, by rfl⟩
  rintro D _ ⟨j, g, hj, c', rfl⟩
  repeat (first
    | apply WP.seq
    | (apply WP.reg
       case hR => dsimp only [prepL, prepO, List.map, List.getElem?_cons_succ, List.getElem?_cons_zero]; exact Is.rfl
       case hr =>
         repeat (first
           | (apply RT.op (h := by simp [dI]; exact Is.rfl) (he := by (try dsimp only [putEnv]) <;> exact rfl))
           | (apply RT.call (hg := by simp; exact Is.rfl) (hfo := by simp; exact Is.rfl) (hpr := by exact Is.rfl) (hvs := by simp [dI]; exact Is.rfl) (hcl := by simp [dI]; exact Is.rfl) (hd := by simp [dI]; exact Is.rfl) (hwr := by simp [dI]; exact Is.rfl) (hlt := by simp [Is]) (he := by (try dsimp only [putEnv]) <;> exact rfl) (hh := by simp; exact Is.rfl) (hw := by simp; exact Is.rfl))
           | (apply RT.clone (hg := by simp; exact Is.rfl) (hfo := by simp; exact Is.rfl) (hpr := by exact Is.rfl) (hvs := by simp [dI]; exact Is.rfl) (hrows := by simp [dI]; exact Is.rfl) (hfit := by first | assumption | (simp [fitsB]; omega)) (he := by (try dsimp only [putEnv]) <;> exact rfl) (hh := by simp [dI]; exact Is.rfl) (hw := by simp; exact Is.rfl))
           | (apply RT.wr (h := by simp [dI]; exact Is.rfl) (he := by (try dsimp only [putEnv]) <;> exact rfl) (hh := by simp [dI]; exact Is.rfl) (hn := by exact Is.rfl) (hc := by exact Is.rfl) (hw := by simp; exact Is.rfl)))
         exact RT.nil
       case hc => (show _ = _; kernel_rfl)
       case ht => simp [dI]; exact Is.rfl)
    | apply WP.block
    | apply WP.skip
    | apply WP.exit
    | apply WP.ret)
  show WP _ _ _ _ _ _
  refine WP.cond _ rfl (fun hb => ?_) (fun hb => ?_)
  · simp at hb
    have hb' : j < im.rs.length := hb
    obtain ⟨r, hr, hm, hix⟩ := at_lt hb'
    have hr' := encR_at hr
    have hw := w_succ hb' (by omega)
    have hsz := Im.mem_rs hm
    unfold Rt.sz at hsz
    have f1 : fitsB r.inn.length 8 = true := by simp [fitsB]; omega
    have f2 : fitsB r.out.length 8 = true := by simp [fitsB]; omega
    have f3 : fitsB r.ini.length 8 = true := by simp [fitsB]; omega
    have f4 : fitsB r.code.length 40 = true := by simp [fitsB]; omega
    have f5 : fitsB (j + 1) 120 = true := by simp [fitsB]; omega
    have htl : (im.rs.take j).length = j := by simp; omega
    have hcl : (cR (im.rs.take j)).length = j * 6 := by rw [cR_len, htl]
    have hct : (cR (im.rs.take j)).take (j * 6) = cR (im.rs.take j) := by rw [← hcl, List.take_length]
    have hsn := cR_snoc (im.rs.take j) r
    simp only [Rt.cells, List.map_cons, List.map_nil] at hsn
    have hts : im.rs.take j ++ [r] = im.rs.take (j + 1) := by rw [List.take_add_one, hr]; rfl
    rw [hts] at hsn
    repeat (first
      | apply WP.seq
      | (apply WP.reg
         case hR => dsimp only [prepL, prepO, List.map, List.getElem?_cons_succ, List.getElem?_cons_zero]; exact Is.rfl
         case hr =>
           repeat (first
             | (apply RT.op (h := by simp [dI, hix, hr', Rt.cells, rowsI, rowsC, fillV, cI_len, cC_len, cI_take, cC_take, toD_dep, toDs, toDs_ci, toDs_cc, chunkI, chunkC, nble_d, closeParts, cl2, f5, hcl, hct, hsn]; exact Is.rfl) (he := by (try dsimp only [putEnv]) <;> exact rfl))
             | (apply RT.call (hg := by simp; exact Is.rfl) (hfo := by simp; exact Is.rfl) (hpr := by exact Is.rfl) (hvs := by simp [dI, hix, hr', Rt.cells, rowsI, rowsC, fillV, cI_len, cC_len, cI_take, cC_take, toD_dep, toDs, toDs_ci, toDs_cc, chunkI, chunkC, nble_d, closeParts, cl2, f5, hcl, hct, hsn]; exact Is.rfl) (hcl := by simp [dI, hix, hr', Rt.cells, rowsI, rowsC, fillV, cI_len, cC_len, cI_take, cC_take, toD_dep, toDs, toDs_ci, toDs_cc, chunkI, chunkC, nble_d, closeParts, cl2, f5, hcl, hct, hsn]; exact Is.rfl) (hd := by simp [dI, hix, hr', Rt.cells, rowsI, rowsC, fillV, cI_len, cC_len, cI_take, cC_take, toD_dep, toDs, toDs_ci, toDs_cc, chunkI, chunkC, nble_d, closeParts, cl2, f5, hcl, hct, hsn]; exact Is.rfl) (hwr := by simp [dI, hix, hr', Rt.cells, rowsI, rowsC, fillV, cI_len, cC_len, cI_take, cC_take, toD_dep, toDs, toDs_ci, toDs_cc, chunkI, chunkC, nble_d, closeParts, cl2, f5, hcl, hct, hsn]; exact Is.rfl) (hlt := by simp [Is]) (he := by (try dsimp only [putEnv]) <;> exact rfl) (hh := by simp; exact Is.rfl) (hw := by simp; exact Is.rfl))
             | (apply RT.clone (hg := by simp; exact Is.rfl) (hfo := by simp; exact Is.rfl) (hpr := by exact Is.rfl) (hvs := by simp [dI, hix, hr', Rt.cells, rowsI, rowsC, fillV, cI_len, cC_len, cI_take, cC_take, toD_dep, toDs, toDs_ci, toDs_cc, chunkI, chunkC, nble_d, closeParts, cl2, f5, hcl, hct, hsn]; exact Is.rfl) (hrows := by simp [dI, hix, hr', Rt.cells, rowsI, rowsC, fillV, cI_len, cC_len, cI_take, cC_take, toD_dep, toDs, toDs_ci, toDs_cc, chunkI, chunkC, nble_d, closeParts, cl2, f5, hcl, hct, hsn]; exact Is.rfl) (hfit := by first | assumption | (simp [fitsB]; omega)) (he := by (try dsimp only [putEnv]) <;> exact rfl) (hh := by simp [dI, hix, hr', Rt.cells, rowsI, rowsC, fillV, cI_len, cC_len, cI_take, cC_take, toD_dep, toDs, toDs_ci, toDs_cc, chunkI, chunkC, nble_d, closeParts, cl2, f5, hcl, hct, hsn]; exact Is.rfl) (hw := by simp; exact Is.rfl))
             | (apply RT.wr (h := by simp [dI, hix, hr', Rt.cells, rowsI, rowsC, fillV, cI_len, cC_len, cI_take, cC_take, toD_dep, toDs, toDs_ci, toDs_cc, chunkI, chunkC, nble_d, closeParts, cl2, f5, hcl, hct, hsn]; exact Is.rfl) (he := by (try dsimp only [putEnv]) <;> exact rfl) (hh := by simp [dI, hix, hr', Rt.cells, rowsI, rowsC, fillV, cI_len, cC_len, cI_take, cC_take, toD_dep, toDs, toDs_ci, toDs_cc, chunkI, chunkC, nble_d, closeParts, cl2, f5, hcl, hct, hsn]; exact Is.rfl) (hn := by exact Is.rfl) (hc := by exact Is.rfl) (hw := by simp; exact Is.rfl)))
           exact RT.nil
         case hc => (show _ = _; kernel_rfl)
         case ht => simp [dI, hix, hr', Rt.cells, rowsI, rowsC, fillV, cI_len, cC_len, cI_take, cC_take, toD_dep, toDs, toDs_ci, toDs_cc, chunkI, chunkC, nble_d, closeParts, cl2, f5, hcl, hct, hsn]; exact Is.rfl)
      | apply WP.block
      | apply WP.skip
      | apply WP.exit
      | apply WP.ret
      | refine WP.condT rfl ?_
      | refine WP.condF rfl ?_)
    refine loop_next (by simp [hw]; exact Is.rfl) ?_
    exact ⟨D - 1, by omega, j + 1, _, by omega, _, by rfl⟩
  · simp at hb
    have hje : j = im.rs.length := by omega
    subst hje
    rw [List.take_length]
    repeat (first
      | apply WP.seq
      | (apply WP.reg
         case hR => dsimp only [prepL, prepO, List.map, List.getElem?_cons_succ, List.getElem?_cons_zero]; exact Is.rfl
         case hr =>
           repeat (first
             | (apply RT.op (h := by simp [dI]; exact Is.rfl) (he := by (try dsimp only [putEnv]) <;> exact rfl))
             | (apply RT.call (hg := by simp; exact Is.rfl) (hfo := by simp; exact Is.rfl) (hpr := by exact Is.rfl) (hvs := by simp [dI]; exact Is.rfl) (hcl := by simp [dI]; exact Is.rfl) (hd := by simp [dI]; exact Is.rfl) (hwr := by simp [dI]; exact Is.rfl) (hlt := by simp [Is]) (he := by (try dsimp only [putEnv]) <;> exact rfl) (hh := by simp; exact Is.rfl) (hw := by simp; exact Is.rfl))
             | (apply RT.clone (hg := by simp; exact Is.rfl) (hfo := by simp; exact Is.rfl) (hpr := by exact Is.rfl) (hvs := by simp [dI]; exact Is.rfl) (hrows := by simp [dI]; exact Is.rfl) (hfit := by first | assumption | (simp [fitsB]; omega)) (he := by (try dsimp only [putEnv]) <;> exact rfl) (hh := by simp [dI]; exact Is.rfl) (hw := by simp; exact Is.rfl))
             | (apply RT.wr (h := by simp [dI]; exact Is.rfl) (he := by (try dsimp only [putEnv]) <;> exact rfl) (hh := by simp [dI]; exact Is.rfl) (hn := by exact Is.rfl) (hc := by exact Is.rfl) (hw := by simp; exact Is.rfl)))
           exact RT.nil
         case hc => (show _ = _; kernel_rfl)
         case ht => simp [dI]; exact Is.rfl)
      | apply WP.block
      | apply WP.skip
      | apply WP.exit
      | apply WP.ret
      | refine WP.condT rfl ?_
      | refine WP.condF rfl ?_)
    have h1 : ∀ look : Look, look 2 = some ⟨2, false, cI im.enums⟩ → toD look depthD (.osl 2 2 0 im.enums.length 1 none) = some (.slice (encI im.enums), [2]) := fun look hl => by
      have h2 : live look 2 2 = some ⟨2, false, cI im.enums⟩ := by simp [live, hl]
      rw [toD_dep, h2]
      simp only [Nat.zero_add, Nat.mul_one, List.drop_zero, nble_d, cI_len, cI_take, toDs_ci]
      simp [chunkI]
    have h3 : ∀ look : Look, look 4 = some ⟨g, false, cR im.rs⟩ → toD look depthD (.osl 4 g 0 im.rs.length 6 none) = some (.slice (encR im.rs), [4]) := fun look hl => by
      have h2 : live look 4 g = some ⟨g, false, cR im.rs⟩ := by simp [live, hl]
      rw [toD_dep, h2]
      simp only [Nat.zero_add, List.drop_zero, nble_d, cR_len, cR_take, toDs_cr]
      simp [chunkR]
    obtain ⟨H, hH⟩ : ∃ H : Hp, H = [(0, ⟨0, false, [.d (.slice (encI im.enums)), .d (.slice (encR im.rs))]⟩), (1, ⟨1, false, [.osl 2 2 0 im.enums.length 1 none, .osl 4 g 0 im.rs.length 6 none]⟩), (2, ⟨2, false, cI im.enums⟩), (3, ⟨3, false, [.osl 2 2 0 im.enums.length 1 none, .osl 4 g 0 im.rs.length 6 none]⟩), (4, ⟨g, false, cR im.rs⟩)] := ⟨_, rfl⟩
    have e1 := h1 H.get (by rw [hH]; rfl)
    have e3 := h3 H.get (by rw [hH]; rfl)
    refine ⟨.inr rfl, _, [2, 4], by simp [resultsV, resultV, loadV, readV]; rfl, ?_⟩
    show closeT (Hp.get _) (.agg [.osl 2 2 0 im.enums.length 1 none, .osl 4 g 0 im.rs.length 6 none]) = _
    rw [← hH]
    simp only [closeT, close, closeVs, close1, e1, e3, ofD]
    rfl
end Go.Ac
end

section
set_option maxRecDepth 4000
set_option linter.unusedSimpArgs false
set_option linter.unusedVariables false
namespace Go.Ac
open Go.Proofs

/-- The fields of an operation, as the reference writes them. -/
def fsO (op : Int) : List UInt8 := match op with | 5 => [65, 66, 67] | 6 => [65, 66, 67, 68] | 7 => [66] | 9 => [65, 66, 67, 68] | _ => [65, 66]
end Go.Ac
end

section
set_option maxRecDepth 4000
set_option linter.unusedSimpArgs false
set_option linter.unusedVariables false
namespace Go.Ac
open Go.Proofs

def hasB (op : Int) (c : UInt8) : Bool := (fsO op).any (· == c)
def xO (i : I) (c : UInt8) : Int := if c = 65 then i.a else if c = 66 then i.b else if c = 67 then i.c else i.d
end Go.Ac
end

section
set_option maxRecDepth 4000
set_option linter.unusedSimpArgs false
set_option linter.unusedVariables false
namespace Go.Ac
open Go.Proofs

def tailB (at_ lenC : Int) (i : I) : Bool := if i.op = 5 then decide (i.c = 1) || decide (i.c = 2) else if i.op = 6 then decide (3 ≤ i.d) && decide (i.d ≤ 16) else if i.op = 7 ∨ i.op = 8 then decide (at_ < i.b) && decide (i.b ≤ lenC) else true
theorem opn1 (x : Int) : decide (opn x = 1) = (decide (x = 1) || decide (x = 2)) := by
  unfold opn; rw [Bool.eq_iff_iff]; simp
  split <;> first | omega | (split <;> omega)
theorem opn2 (x : Int) : decide (opn x = 2) = (decide (3 ≤ x) && decide (x ≤ 16)) := by
  unfold opn; rw [Bool.eq_iff_iff]; simp
  split <;> first | omega | (split <;> omega)
theorem formB_bad {at_ lenC : Int} {i : I} (h : IsO i.op) {c : UInt8} (hc : c = 65 ∨ c = 66 ∨ c = 67 ∨ c = 68) (h1 : hasB i.op c = false) (h2 : xO i c ≠ 0) : formB at_ lenC i = false := by
  obtain ⟨op, a, b, c', d⟩ := i
  simp only at h h1 h2
  rcases h with rfl | rfl | rfl | rfl | rfl | rfl | rfl | rfl | rfl | rfl <;> rcases hc with rfl | rfl | rfl | rfl <;> first | (exfalso; revert h1; decide) | (simp [xO] at h2; simp [formB, acc4, fK, kO, ksO, cnO, h2])
theorem formB_good {at_ lenC : Int} {i : I} (h : IsO i.op) (h0 : hasB i.op 65 = true ∨ xO i 65 = 0) (h1 : hasB i.op 66 = true ∨ xO i 66 = 0) (h2 : hasB i.op 67 = true ∨ xO i 67 = 0) (h3 : hasB i.op 68 = true ∨ xO i 68 = 0) : formB at_ lenC i = tailB at_ lenC i := by
  obtain ⟨op, a, b, c, d⟩ := i
  simp only [xO] at h h0 h1 h2 h3
  simp at h0 h1 h2 h3
  rcases h with rfl | rfl | rfl | rfl | rfl | rfl | rfl | rfl | rfl | rfl <;> simp [hasB, fsO] at h0 h1 h2 h3 <;> simp [formB, tailB, acc4, fK, kO, ksO, cnO, opn1, opn2, h0, h1, h2, h3]

end Go.Ac
end

section
set_option maxRecDepth 4000
set_option linter.unusedSimpArgs false
set_option linter.unusedVariables false
namespace Go.Ac
open Go.Proofs

section
variable (rs : List Rt) (k : Int) (r : Rt) (a b c d : Int)
theorem rang1 : rangB rs k r ⟨1, a, b, c, d⟩ = (wthn a 1 r.regs && (decide (-32768 ≤ b) && decide (b ≤ 32767))) := by simp [rangB, acc4, rK, kO, ksO]
theorem rang2 : rangB rs k r ⟨2, a, b, c, d⟩ = (wthn a 1 r.regs && wthn b 1 r.regs) := by simp [rangB, acc4, rK, kO, ksO]
theorem rang3 : rangB rs k r ⟨3, a, b, c, d⟩ = (wthn a 1 r.regs && wthn b 1 r.ini.length) := by simp [rangB, acc4, rK, kO, ksO]
theorem rang4 : rangB rs k r ⟨4, a, b, c, d⟩ = (wthn a 1 r.ini.length && wthn b 1 r.regs) := by simp [rangB, acc4, rK, kO, ksO]
theorem rang5 : rangB rs k r ⟨5, a, b, c, d⟩ = (wthn a 1 r.regs && wthn b 1 r.regs) := by simp [rangB, acc4, rK, kO, ksO]
theorem rang6 : rangB rs k r ⟨6, a, b, c, d⟩ = (wthn a 1 r.regs && (wthn b 1 r.regs && wthn c 1 r.regs)) := by simp [rangB, acc4, rK, kO, ksO, Bool.and_assoc]
theorem rang8 : rangB rs k r ⟨8, a, b, c, d⟩ = wthn a 1 r.regs := by simp [rangB, acc4, rK, kO, ksO]
theorem rang9 : rangB rs k r ⟨9, a, b, c, d⟩ = ((decide (0 ≤ a) && decide (a < k)) && (wthn b (calledR rs a).ini.length r.ini.length && (wthn c (calledR rs a).inn.length r.regs && wthn d (calledR rs a).out.length r.regs))) := by simp [rangB, acc4, rK, kO, ksO, Bool.and_assoc]
theorem rang10 : rangB rs k r ⟨10, a, b, c, d⟩ = ((decide (0 ≤ a) && decide (a < k)) && wthn b (calledR rs a).ini.length r.ini.length) := by simp [rangB, acc4, rK, kO, ksO, Bool.and_assoc]
end
theorem calledR_at {rs : List Rt} {n : Nat} {q : Rt} (h : rs[n]? = some q) : calledR rs (n : Int) = q := by
  obtain ⟨hl, he⟩ := List.getElem?_eq_some_iff.1 h
  unfold calledR
  rw [if_pos ⟨by omega, by omega⟩]
  simp [List.getD, h]

end Go.Ac
end

section
set_option maxRecDepth 4000
set_option linter.unusedSimpArgs false
set_option linter.unusedVariables false
namespace Go.Ac
open Go.Proofs

theorem wthn_lt {x m : Int} (h : wthn x 1 m = true) : ∃ n : Nat, x = n ∧ (n : Int) < m := by
  unfold wthn at h; simp at h
  exact ⟨x.toNat, by omega, by omega⟩
theorem wthn_le {x m : Int} {n : Nat} (h : wthn x n m = true) : ∃ p : Nat, x = p ∧ (p : Int) + n ≤ m := by
  unfold wthn at h; simp at h
  exact ⟨x.toNat, by omega, by omega⟩
theorem form_of {at_ lenC : Int} {i : I} (h : IsO i.op) (hf : formB at_ lenC i = true) : (hasB i.op 65 = true ∨ xO i 65 = 0) ∧ (hasB i.op 66 = true ∨ xO i 66 = 0) ∧ (hasB i.op 67 = true ∨ xO i 67 = 0) ∧ (hasB i.op 68 = true ∨ xO i 68 = 0) := by
  have key : ∀ c : UInt8, (c = 65 ∨ c = 66 ∨ c = 67 ∨ c = 68) → hasB i.op c = true ∨ xO i c = 0 := fun c hc => by
    cases hb : hasB i.op c with
    | true => exact .inl rfl
    | false =>
      by_cases hx : xO i c = 0
      · exact .inr hx
      · rw [formB_bad h hc hb hx] at hf; cases hf
  exact ⟨key 65 (by simp), key 66 (by simp), key 67 (by simp), key 68 (by simp)⟩

theorem okI_of {rs : List Rt} {k : Nat} {r : Rt} {at_ : Nat} {i : I} (hk : k ≤ rs.length) (hR : 0 ≤ r.regs) (h : IsO i.op) (hf : formB at_ r.code.length i = true) (hg : rangB rs k r i = true) : OkI rs k r.regs.toNat r.ini.length at_ r.code.length i := by
  obtain ⟨g0, g1, g2, g3⟩ := form_of h hf
  rw [formB_good h g0 g1 g2 g3] at hf
  obtain ⟨op, a, b, c, d⟩ := i
  simp only [xO] at h g0 g1 g2 g3
  simp at g0 g1 g2 g3
  have rA : ∀ (a : Int), (decide (0 ≤ a) && decide (a < k)) = true → ∃ (A : Nat) (q : Rt), a = A ∧ rs[A]? = some q ∧ A < k ∧ calledR rs a = q := fun a h => by
    simp at h
    obtain ⟨A, rfl⟩ : ∃ A : Nat, a = A := ⟨a.toNat, by omega⟩
    have : A < rs.length := by omega
    exact ⟨A, rs[A], rfl, by simp [this], by omega, calledR_at (by simp [this])⟩
  rcases h with rfl | rfl | rfl | rfl | rfl | rfl | rfl | rfl | rfl | rfl <;> simp [hasB, fsO] at g0 g1 g2 g3
  · subst g2; subst g3
    rw [rang1] at hg; simp only [Bool.and_eq_true, decide_eq_true_eq] at hg
    obtain ⟨A, rfl, hA⟩ := wthn_lt hg.1
    exact .load A b (by omega) hg.2.1 hg.2.2
  · subst g2; subst g3
    rw [rang2] at hg; simp only [Bool.and_eq_true] at hg
    obtain ⟨A, rfl, hA⟩ := wthn_lt hg.1
    obtain ⟨B, rfl, hB⟩ := wthn_lt hg.2
    exact .move A B (by omega) (by omega)
  · subst g2; subst g3
    rw [rang3] at hg; simp only [Bool.and_eq_true] at hg
    obtain ⟨A, rfl, hA⟩ := wthn_lt hg.1
    obtain ⟨B, rfl, hB⟩ := wthn_lt hg.2
    exact .read A B (by omega) (by omega)
  · subst g2; subst g3
    rw [rang4] at hg; simp only [Bool.and_eq_true] at hg
    obtain ⟨A, rfl, hA⟩ := wthn_lt hg.1
    obtain ⟨B, rfl, hB⟩ := wthn_lt hg.2
    exact .write A B (by omega) (by omega)
  · subst g3
    rw [rang5] at hg; simp only [Bool.and_eq_true] at hg
    obtain ⟨A, rfl, hA⟩ := wthn_lt hg.1
    obtain ⟨B, rfl, hB⟩ := wthn_lt hg.2
    exact .unary A B c (by omega) (by omega) (by simpa [tailB] using hf)
  · rw [rang6] at hg; simp only [Bool.and_eq_true] at hg
    obtain ⟨A, rfl, hA⟩ := wthn_lt hg.1
    obtain ⟨B, rfl, hB⟩ := wthn_lt hg.2.1
    obtain ⟨C, rfl, hC⟩ := wthn_lt hg.2.2
    simp [tailB] at hf
    exact .apply A B C d (by omega) (by omega) (by omega) hf.1 hf.2
  · subst g0; subst g2; subst g3
    simp [tailB] at hf
    obtain ⟨B, rfl⟩ : ∃ B : Nat, b = B := ⟨b.toNat, by omega⟩
    exact .jump B (by omega) (by omega)
  · subst g2; subst g3
    rw [rang8] at hg
    obtain ⟨A, rfl, hA⟩ := wthn_lt hg
    simp [tailB] at hf
    obtain ⟨B, rfl⟩ : ∃ B : Nat, b = B := ⟨b.toNat, by omega⟩
    exact .zero A B (by omega) (by omega) (by omega)
  · rw [rang9] at hg; simp only [Bool.and_eq_true (a := decide _ && decide _), Bool.and_eq_true (a := wthn _ _ _)] at hg
    obtain ⟨A, q, rfl, hq, hA, hc⟩ := rA a (by simpa using hg.1)
    rw [hc] at hg
    obtain ⟨B, rfl, hB⟩ := wthn_le hg.2.1
    obtain ⟨C, rfl, hC⟩ := wthn_le hg.2.2.1
    obtain ⟨D, rfl, hD⟩ := wthn_le hg.2.2.2
    exact .call A B C D q hq hA (by omega) (by omega) (by omega)
  · subst g2; subst g3
    rw [rang10] at hg; simp only [Bool.and_eq_true (a := decide _ && decide _), Bool.and_eq_true (a := wthn _ _ _)] at hg
    obtain ⟨A, q, rfl, hq, hA, hc⟩ := rA a (by simpa using hg.1)
    rw [hc] at hg
    obtain ⟨B, rfl, hB⟩ := wthn_le hg.2
    exact .reset A B q hq hA (by omega)

end Go.Ac
end
