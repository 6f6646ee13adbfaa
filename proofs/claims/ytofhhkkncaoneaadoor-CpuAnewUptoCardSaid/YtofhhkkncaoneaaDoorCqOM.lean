/- The program's machine: a step. -/
import Derived.Test.YtofhhkkncaoneaaDoorAcBM
import Derived.Test.YtofhhkkncaoneaaDoorAcDM
import Derived.Test.YtofhhkkncaoneaaDoorAcGM
import Derived.Test.YtofhhkkncaoneaaDoorAcJM
import Derived.Test.YtofhhkkncaoneaaDoorAcLM
import Derived.Test.YtofhhkkncaoneaaDoorAcMM
import Derived.Test.YtofhhkkncaoneaaDoorAcOM
import Derived.Test.YtofhhkkncaoneaaDoorAcSM
import Derived.Test.YtofhhkkncaoneaaDoorAcXM
import Derived.Test.YtofhhkkncaoneaaDoorAcUcM
import Derived.Test.YtofhhkkncaoneaaDoorCpBM
import Derived.Test.YtofhhkkncaoneaaDoorCpDM
import Derived.Test.YtofhhkkncaoneaaDoorCpIM
import Derived.Test.YtofhhkkncaoneaaDoorCpK
import Derived.Test.YtofhhkkncaoneaaDoorCpOM
import Derived.Test.YtofhhkkncaoneaaDoorCqAM
import Derived.Test.YtofhhkkncaoneaaDoorCqDM
import Derived.Test.YtofhhkkncaoneaaDoorCqIM
import Derived.Calls
import Derived.Orders
import Derived.Laws.World
import Derived.Laws.Sem
import Derived.Laws.Cells
import Derived.Laws.Append
import GoSem.ClaimData
import Derived.Laws.Tables
import Derived.Laws.Slices
import Derived.Laws.Strings
import Derived.Laws.Small
import Derived.Test.YtofhhkkncaoneaaDoorChecked
import Derived.KernelRfl
import Derived.Lib.RuneCount
set_option linter.unusedVariables false
set_option linter.unusedSimpArgs false
section
set_option maxRecDepth 4000
set_option linter.unusedSimpArgs false
set_option linter.unusedVariables false
namespace Go.Ac
open Go.Proofs

/-- A machine: its object and its memory. -/
structure Mc (im : Im) (hp : Hp) (idc gc mid mg : Nat) (mem : List Int) (cnt : Int) : Prop where
  c : ∃ cap, mem.length ≤ cap.getD mem.length ∧ hp.get idc = some ⟨gc, false, [V.d (.slice (encI im.enums)), V.d (.slice (encR im.rs)), .osl mid mg 0 mem.length 1 cap, dI cnt]⟩
  m : hp.get mid = some ⟨mg, false, cI mem⟩
  ne : idc ≠ mid
theorem Mc.same {im : Im} {hp hp' : Hp} {idc gc mid mg : Nat} {mem : List Int} {cnt : Int} (h : Mc im hp idc gc mid mg mem cnt) (h1 : hp'.get idc = hp.get idc) (h2 : hp'.get mid = hp.get mid) : Mc im hp' idc gc mid mg mem cnt := by
  obtain ⟨⟨cap, hc, h3⟩, h4, h5⟩ := h
  exact ⟨⟨cap, hc, h1.trans h3⟩, h2.trans h4, h5⟩
/-- A value of a type. -/
def fitsV (en : List Int) (t v : Int) : Bool := if t = 1 then decide (v = 0) || decide (v = 1) else if t = 2 then decide (-32768 ≤ v) && decide (v ≤ 32767) else decide (0 ≤ v) && decide (v < rgv en (t - 3))
theorem closeT_agg {look : Look} (r : Rt) : closeT look (aR r) = some (aR r, []) := rfl
section
variable {im : Im} {hp : Hp} {n c idc gc mid mg : Nat} {mem : List Int} {cnt : Int}

set_option maxHeartbeats 1000000 in
theorem main_c {q : Rt} {o3 o4 : V} (hC : hp.get idc = some ⟨gc, false, [V.d (.slice (encI im.enums)), V.d (.slice (encR im.rs)), o3, o4]⟩) (q1 : idc < n) (hq : im.rs[im.rs.length - 1]? = some q) (hl : im.rs.length ≤ 1000000) : Thr 27 [.ptr idc gc 0] hp n c (aR q) [] (fun _ => True) := by
  have hlt : im.rs.length - 1 < im.rs.length := by obtain ⟨h, _⟩ := List.getElem?_eq_some_iff.1 hq; exact h
  have hq' := encR_at hq
  have hix := idx_lt hlt
  have hw : IntKind.i64.wrap ((im.rs.length : Int) - 1) = ((im.rs.length - 1 : Nat) : Int) := by rw [w_id'] <;> omega
  have f1 : (n = idc) = False := eq_false (by omega)
  refine thr_wp Tryd.func27 rfl (by kernel_rfl) rfl ?_
  repeat (first
    | apply WP.seq
    | (apply WP.reg
       case hR => dsimp only [prepL, prepO, List.map, List.getElem?_cons_succ, List.getElem?_cons_zero]; exact Is.rfl
       case hr =>
         repeat (first
           | (apply RT.op (h := by simp [envOf, dI, -addNew, Hp.get_set, f1, hC, hw, hix, hq', Rt.cells]; exact Is.rfl) (he := by (try dsimp only [putEnv]) <;> exact rfl))
           | (apply RT.call (hg := by simp; exact Is.rfl) (hfo := by simp; exact Is.rfl) (hpr := by exact Is.rfl) (hvs := by simp [envOf, dI, -addNew, Hp.get_set, f1, hC, hw, hix, hq', Rt.cells]; exact Is.rfl) (hcl := by simp [envOf, dI, -addNew, Hp.get_set, f1, hC, hw, hix, hq', Rt.cells]; exact Is.rfl) (hd := by simp [envOf, dI, -addNew, Hp.get_set, f1, hC, hw, hix, hq', Rt.cells]; exact Is.rfl) (hwr := by simp [envOf, dI, -addNew, Hp.get_set, f1, hC, hw, hix, hq', Rt.cells]; exact Is.rfl) (hlt := by simp [Is]) (he := by (try dsimp only [putEnv]) <;> exact rfl) (hh := by simp; exact Is.rfl) (hw := by exact Is.rfl))
           | (apply RT.clone (hg := by simp; exact Is.rfl) (hfo := by simp; exact Is.rfl) (hpr := by exact Is.rfl) (hvs := by simp [envOf, dI, -addNew, Hp.get_set, f1, hC, hw, hix, hq', Rt.cells]; exact Is.rfl) (hrows := by simp [envOf, dI, -addNew, Hp.get_set, f1, hC, hw, hix, hq', Rt.cells]; exact Is.rfl) (hfit := by first | assumption | (simp [fitsB]; omega)) (he := by (try dsimp only [putEnv]) <;> exact rfl) (hh := by simp [envOf, dI, -addNew, Hp.get_set, f1, hC, hw, hix, hq', Rt.cells]; exact Is.rfl) (hw := by exact Is.rfl))
           | (apply RT.callT (hg := by simp; exact Is.rfl) (hfo := by simp; exact Is.rfl) (hpr := by exact Is.rfl) (hvs := by simp [envOf, dI, -addNew, Hp.get_set, f1, hC, hw, hix, hq', Rt.cells]; exact Is.rfl) (hcl := by simp [envOf, dI, -addNew, Hp.get_set, f1, hC, hw, hix, hq', Rt.cells]; exact Is.rfl) (hd := hT1) (hk := hT2) (he := by (try dsimp only [putEnv]) <;> exact rfl))
           | (apply RT.wr (h := by simp [envOf, dI, -addNew, Hp.get_set, f1, hC, hw, hix, hq', Rt.cells]; exact Is.rfl) (he := by (try dsimp only [putEnv]) <;> exact rfl) (hh := by simp [envOf, dI, -addNew, Hp.get_set, f1, hC, hw, hix, hq', Rt.cells]; exact Is.rfl) (hn := by exact Is.rfl) (hc := by exact Is.rfl) (hw := by exact Is.rfl)))
         exact RT.nil
       case hc => (show _ = _; kernel_rfl)
       case ht => simp [envOf, dI, -addNew, Hp.get_set, f1, hC, hw, hix, hq', Rt.cells]; exact Is.rfl)
    | apply WP.block
    | apply WP.skip
    | apply WP.exit
    | apply WP.ret
    | refine WP.condT rfl ?_
    | refine WP.condF rfl ?_)
  refine ⟨.inr rfl, _, [], by simp [resultsV, resultV, Hp.get_set]; rfl, closeT_agg q, rfl, ((WI.refl.set (.inr (by omega))).set (.inr (by omega))), trivial⟩
theorem main_ok {q : Rt} (hM : Mc im hp idc gc mid mg mem cnt) (q1 : idc < n) (hq : im.rs[im.rs.length - 1]? = some q) (hl : im.rs.length ≤ 1000000) : Thr 27 [.ptr idc gc 0] hp n c (aR q) [] (fun _ => True) := by
  obtain ⟨⟨cap, hcap, hC⟩, hm, d2⟩ := hM
  exact main_c hC q1 hq hl

set_option maxHeartbeats 1000000 in
theorem fits_ok (hM : Mc im hp idc gc mid mg mem cnt) (q1 : idc < n) (t v : Int) (ht : typOK im.enums t = true) (hel : im.enums.length ≤ 1000000) : Thr 28 [.ptr idc gc 0, dI t, dI v] hp n c (dB (fitsV im.enums t v)) [] (fun _ => True) := by
  obtain ⟨⟨cap, hcap, hC⟩, hm, d2⟩ := hM
  have hin := in_den v
  simp only [dI, dB] at hin
  refine thr_wp Tryd.func28 rfl (by kernel_rfl) rfl ?_
  by_cases h1 : t = 1
  · subst h1
    by_cases v0 : v = 0
    · subst v0
      repeat (first
        | apply WP.seq
        | (apply WP.reg
           case hR => dsimp only [prepL, prepO, List.map, List.getElem?_cons_succ, List.getElem?_cons_zero]; exact Is.rfl
           case hr =>
             repeat (first
               | (apply RT.op (h := by simp [envOf, dI, -addNew]; exact Is.rfl) (he := by (try dsimp only [putEnv]) <;> exact rfl))
               | (apply RT.call (hg := by simp; exact Is.rfl) (hfo := by simp; exact Is.rfl) (hpr := by exact Is.rfl) (hvs := by simp [envOf, dI, -addNew]; exact Is.rfl) (hcl := by simp [envOf, dI, -addNew]; exact Is.rfl) (hd := by simp [envOf, dI, -addNew]; exact Is.rfl) (hwr := by simp [envOf, dI, -addNew]; exact Is.rfl) (hlt := by simp [Is]) (he := by (try dsimp only [putEnv]) <;> exact rfl) (hh := by simp; exact Is.rfl) (hw := by exact Is.rfl))
               | (apply RT.clone (hg := by simp; exact Is.rfl) (hfo := by simp; exact Is.rfl) (hpr := by exact Is.rfl) (hvs := by simp [envOf, dI, -addNew]; exact Is.rfl) (hrows := by simp [envOf, dI, -addNew]; exact Is.rfl) (hfit := by first | assumption | (simp [fitsB]; omega)) (he := by (try dsimp only [putEnv]) <;> exact rfl) (hh := by simp [envOf, dI, -addNew]; exact Is.rfl) (hw := by exact Is.rfl))
               | (apply RT.callT (hg := by simp; exact Is.rfl) (hfo := by simp; exact Is.rfl) (hpr := by exact Is.rfl) (hvs := by simp [envOf, dI, -addNew]; exact Is.rfl) (hcl := by simp [envOf, dI, -addNew]; exact Is.rfl) (hd := hT1) (hk := hT2) (he := by (try dsimp only [putEnv]) <;> exact rfl))
               | (apply RT.wr (h := by simp [envOf, dI, -addNew]; exact Is.rfl) (he := by (try dsimp only [putEnv]) <;> exact rfl) (hh := by simp [envOf, dI, -addNew]; exact Is.rfl) (hn := by exact Is.rfl) (hc := by exact Is.rfl) (hw := by exact Is.rfl)))
             exact RT.nil
           case hc => (show _ = _; kernel_rfl)
           case ht => simp [envOf, dI, -addNew]; exact Is.rfl)
        | apply WP.block
        | apply WP.skip
        | apply WP.exit
        | apply WP.ret
        | refine WP.condT rfl ?_
        | refine WP.condF rfl ?_)
      exact ⟨.inr rfl, _, [], rfl, rfl, rfl, WI.refl, trivial⟩
    · repeat (first
        | apply WP.seq
        | (apply WP.reg
           case hR => dsimp only [prepL, prepO, List.map, List.getElem?_cons_succ, List.getElem?_cons_zero]; exact Is.rfl
           case hr =>
             repeat (first
               | (apply RT.op (h := by simp [envOf, dI, -addNew, v0, int_beq]; exact Is.rfl) (he := by (try dsimp only [putEnv]) <;> exact rfl))
               | (apply RT.call (hg := by simp; exact Is.rfl) (hfo := by simp; exact Is.rfl) (hpr := by exact Is.rfl) (hvs := by simp [envOf, dI, -addNew, v0, int_beq]; exact Is.rfl) (hcl := by simp [envOf, dI, -addNew, v0, int_beq]; exact Is.rfl) (hd := by simp [envOf, dI, -addNew, v0, int_beq]; exact Is.rfl) (hwr := by simp [envOf, dI, -addNew, v0, int_beq]; exact Is.rfl) (hlt := by simp [Is]) (he := by (try dsimp only [putEnv]) <;> exact rfl) (hh := by simp; exact Is.rfl) (hw := by exact Is.rfl))
               | (apply RT.clone (hg := by simp; exact Is.rfl) (hfo := by simp; exact Is.rfl) (hpr := by exact Is.rfl) (hvs := by simp [envOf, dI, -addNew, v0, int_beq]; exact Is.rfl) (hrows := by simp [envOf, dI, -addNew, v0, int_beq]; exact Is.rfl) (hfit := by first | assumption | (simp [fitsB]; omega)) (he := by (try dsimp only [putEnv]) <;> exact rfl) (hh := by simp [envOf, dI, -addNew, v0, int_beq]; exact Is.rfl) (hw := by exact Is.rfl))
               | (apply RT.callT (hg := by simp; exact Is.rfl) (hfo := by simp; exact Is.rfl) (hpr := by exact Is.rfl) (hvs := by simp [envOf, dI, -addNew, v0, int_beq]; exact Is.rfl) (hcl := by simp [envOf, dI, -addNew, v0, int_beq]; exact Is.rfl) (hd := hT1) (hk := hT2) (he := by (try dsimp only [putEnv]) <;> exact rfl))
               | (apply RT.wr (h := by simp [envOf, dI, -addNew, v0, int_beq]; exact Is.rfl) (he := by (try dsimp only [putEnv]) <;> exact rfl) (hh := by simp [envOf, dI, -addNew, v0, int_beq]; exact Is.rfl) (hn := by exact Is.rfl) (hc := by exact Is.rfl) (hw := by exact Is.rfl)))
             exact RT.nil
           case hc => (show _ = _; kernel_rfl)
           case ht => simp [envOf, dI, -addNew, v0, int_beq]; exact Is.rfl)
        | apply WP.block
        | apply WP.skip
        | apply WP.exit
        | apply WP.ret
        | refine WP.condT rfl ?_
        | refine WP.condF rfl ?_)
      refine ⟨.inr rfl, _, [], rfl, ?_, rfl, WI.refl, trivial⟩
      simp [fitsV, v0]; rfl
  by_cases h2 : t = 2
  · subst h2
    by_cases v0 : -32768 ≤ v
    · have v0' : (-32768 ≤ v) = True := eq_true v0
      repeat (first
        | apply WP.seq
        | (apply WP.reg
           case hR => dsimp only [prepL, prepO, List.map, List.getElem?_cons_succ, List.getElem?_cons_zero]; exact Is.rfl
           case hr =>
             repeat (first
               | (apply RT.op (h := by simp [envOf, dI, -addNew, hin, v0']; exact Is.rfl) (he := by (try dsimp only [putEnv]) <;> exact rfl))
               | (apply RT.call (hg := by simp; exact Is.rfl) (hfo := by simp; exact Is.rfl) (hpr := by exact Is.rfl) (hvs := by simp [envOf, dI, -addNew, hin, v0']; exact Is.rfl) (hcl := by simp [envOf, dI, -addNew, hin, v0']; exact Is.rfl) (hd := by simp [envOf, dI, -addNew, hin, v0']; exact Is.rfl) (hwr := by simp [envOf, dI, -addNew, hin, v0']; exact Is.rfl) (hlt := by simp [Is]) (he := by (try dsimp only [putEnv]) <;> exact rfl) (hh := by simp; exact Is.rfl) (hw := by exact Is.rfl))
               | (apply RT.clone (hg := by simp; exact Is.rfl) (hfo := by simp; exact Is.rfl) (hpr := by exact Is.rfl) (hvs := by simp [envOf, dI, -addNew, hin, v0']; exact Is.rfl) (hrows := by simp [envOf, dI, -addNew, hin, v0']; exact Is.rfl) (hfit := by first | assumption | (simp [fitsB]; omega)) (he := by (try dsimp only [putEnv]) <;> exact rfl) (hh := by simp [envOf, dI, -addNew, hin, v0']; exact Is.rfl) (hw := by exact Is.rfl))
               | (apply RT.callT (hg := by simp; exact Is.rfl) (hfo := by simp; exact Is.rfl) (hpr := by exact Is.rfl) (hvs := by simp [envOf, dI, -addNew, hin, v0']; exact Is.rfl) (hcl := by simp [envOf, dI, -addNew, hin, v0']; exact Is.rfl) (hd := hT1) (hk := hT2) (he := by (try dsimp only [putEnv]) <;> exact rfl))
               | (apply RT.wr (h := by simp [envOf, dI, -addNew, hin, v0']; exact Is.rfl) (he := by (try dsimp only [putEnv]) <;> exact rfl) (hh := by simp [envOf, dI, -addNew, hin, v0']; exact Is.rfl) (hn := by exact Is.rfl) (hc := by exact Is.rfl) (hw := by exact Is.rfl)))
             exact RT.nil
           case hc => (show _ = _; kernel_rfl)
           case ht => simp [envOf, dI, -addNew, hin, v0']; exact Is.rfl)
        | apply WP.block
        | apply WP.skip
        | apply WP.exit
        | apply WP.ret
        | refine WP.condT rfl ?_
        | refine WP.condF rfl ?_)
      refine ⟨.inr rfl, _, [], rfl, ?_, rfl, WI.refl, trivial⟩
      simp [fitsV, v0']; rfl
    · have v0' : (-32768 ≤ v) = False := eq_false v0
      repeat (first
        | apply WP.seq
        | (apply WP.reg
           case hR => dsimp only [prepL, prepO, List.map, List.getElem?_cons_succ, List.getElem?_cons_zero]; exact Is.rfl
           case hr =>
             repeat (first
               | (apply RT.op (h := by simp [envOf, dI, -addNew, hin, v0']; exact Is.rfl) (he := by (try dsimp only [putEnv]) <;> exact rfl))
               | (apply RT.call (hg := by simp; exact Is.rfl) (hfo := by simp; exact Is.rfl) (hpr := by exact Is.rfl) (hvs := by simp [envOf, dI, -addNew, hin, v0']; exact Is.rfl) (hcl := by simp [envOf, dI, -addNew, hin, v0']; exact Is.rfl) (hd := by simp [envOf, dI, -addNew, hin, v0']; exact Is.rfl) (hwr := by simp [envOf, dI, -addNew, hin, v0']; exact Is.rfl) (hlt := by simp [Is]) (he := by (try dsimp only [putEnv]) <;> exact rfl) (hh := by simp; exact Is.rfl) (hw := by exact Is.rfl))
               | (apply RT.clone (hg := by simp; exact Is.rfl) (hfo := by simp; exact Is.rfl) (hpr := by exact Is.rfl) (hvs := by simp [envOf, dI, -addNew, hin, v0']; exact Is.rfl) (hrows := by simp [envOf, dI, -addNew, hin, v0']; exact Is.rfl) (hfit := by first | assumption | (simp [fitsB]; omega)) (he := by (try dsimp only [putEnv]) <;> exact rfl) (hh := by simp [envOf, dI, -addNew, hin, v0']; exact Is.rfl) (hw := by exact Is.rfl))
               | (apply RT.callT (hg := by simp; exact Is.rfl) (hfo := by simp; exact Is.rfl) (hpr := by exact Is.rfl) (hvs := by simp [envOf, dI, -addNew, hin, v0']; exact Is.rfl) (hcl := by simp [envOf, dI, -addNew, hin, v0']; exact Is.rfl) (hd := hT1) (hk := hT2) (he := by (try dsimp only [putEnv]) <;> exact rfl))
               | (apply RT.wr (h := by simp [envOf, dI, -addNew, hin, v0']; exact Is.rfl) (he := by (try dsimp only [putEnv]) <;> exact rfl) (hh := by simp [envOf, dI, -addNew, hin, v0']; exact Is.rfl) (hn := by exact Is.rfl) (hc := by exact Is.rfl) (hw := by exact Is.rfl)))
             exact RT.nil
           case hc => (show _ = _; kernel_rfl)
           case ht => simp [envOf, dI, -addNew, hin, v0']; exact Is.rfl)
        | apply WP.block
        | apply WP.skip
        | apply WP.exit
        | apply WP.ret
        | refine WP.condT rfl ?_
        | refine WP.condF rfl ?_)
      refine ⟨.inr rfl, _, [], rfl, ?_, rfl, WI.refl, trivial⟩
      simp [fitsV, v0']; rfl
  have ht3 : 3 ≤ t ∧ t - 3 < im.enums.length := by
    simp [typOK, h1, h2] at ht; exact ht
  obtain ⟨k, hk⟩ : ∃ k : Nat, t - 3 = k := ⟨(t - 3).toNat, by omega⟩
  have hkl : k < im.enums.length := by omega
  have hw : IntKind.i64.wrap (t - 3) = (k : Int) := by rw [w_id'] <;> omega
  have hix := idx_lt hkl
  have he := encI_at (rgv_at hkl)
  by_cases v0 : 0 ≤ v
  · have v0' : (0 ≤ v) = True := eq_true v0
    repeat (first
      | apply WP.seq
      | (apply WP.reg
         case hR => dsimp only [prepL, prepO, List.map, List.getElem?_cons_succ, List.getElem?_cons_zero]; exact Is.rfl
         case hr =>
           repeat (first
             | (apply RT.op (h := by simp [envOf, dI, -addNew, h1, h2, int_beq, v0', hC, hw, hix, he]; exact Is.rfl) (he := by (try dsimp only [putEnv]) <;> exact rfl))
             | (apply RT.call (hg := by simp; exact Is.rfl) (hfo := by simp; exact Is.rfl) (hpr := by exact Is.rfl) (hvs := by simp [envOf, dI, -addNew, h1, h2, int_beq, v0', hC, hw, hix, he]; exact Is.rfl) (hcl := by simp [envOf, dI, -addNew, h1, h2, int_beq, v0', hC, hw, hix, he]; exact Is.rfl) (hd := by simp [envOf, dI, -addNew, h1, h2, int_beq, v0', hC, hw, hix, he]; exact Is.rfl) (hwr := by simp [envOf, dI, -addNew, h1, h2, int_beq, v0', hC, hw, hix, he]; exact Is.rfl) (hlt := by simp [Is]) (he := by (try dsimp only [putEnv]) <;> exact rfl) (hh := by simp; exact Is.rfl) (hw := by exact Is.rfl))
             | (apply RT.clone (hg := by simp; exact Is.rfl) (hfo := by simp; exact Is.rfl) (hpr := by exact Is.rfl) (hvs := by simp [envOf, dI, -addNew, h1, h2, int_beq, v0', hC, hw, hix, he]; exact Is.rfl) (hrows := by simp [envOf, dI, -addNew, h1, h2, int_beq, v0', hC, hw, hix, he]; exact Is.rfl) (hfit := by first | assumption | (simp [fitsB]; omega)) (he := by (try dsimp only [putEnv]) <;> exact rfl) (hh := by simp [envOf, dI, -addNew, h1, h2, int_beq, v0', hC, hw, hix, he]; exact Is.rfl) (hw := by exact Is.rfl))
             | (apply RT.callT (hg := by simp; exact Is.rfl) (hfo := by simp; exact Is.rfl) (hpr := by exact Is.rfl) (hvs := by simp [envOf, dI, -addNew, h1, h2, int_beq, v0', hC, hw, hix, he]; exact Is.rfl) (hcl := by simp [envOf, dI, -addNew, h1, h2, int_beq, v0', hC, hw, hix, he]; exact Is.rfl) (hd := hT1) (hk := hT2) (he := by (try dsimp only [putEnv]) <;> exact rfl))
             | (apply RT.wr (h := by simp [envOf, dI, -addNew, h1, h2, int_beq, v0', hC, hw, hix, he]; exact Is.rfl) (he := by (try dsimp only [putEnv]) <;> exact rfl) (hh := by simp [envOf, dI, -addNew, h1, h2, int_beq, v0', hC, hw, hix, he]; exact Is.rfl) (hn := by exact Is.rfl) (hc := by exact Is.rfl) (hw := by exact Is.rfl)))
           exact RT.nil
         case hc => (show _ = _; kernel_rfl)
         case ht => simp [envOf, dI, -addNew, h1, h2, int_beq, v0', hC, hw, hix, he]; exact Is.rfl)
      | apply WP.block
      | apply WP.skip
      | apply WP.exit
      | apply WP.ret
      | refine WP.condT rfl ?_
      | refine WP.condF rfl ?_)
    refine ⟨.inr rfl, _, [], rfl, ?_, rfl, WI.refl, trivial⟩
    simp [fitsV, h1, h2, v0', hk]; rfl
  · have v0' : (0 ≤ v) = False := eq_false v0
    repeat (first
      | apply WP.seq
      | (apply WP.reg
         case hR => dsimp only [prepL, prepO, List.map, List.getElem?_cons_succ, List.getElem?_cons_zero]; exact Is.rfl
         case hr =>
           repeat (first
             | (apply RT.op (h := by simp [envOf, dI, -addNew, h1, h2, int_beq, v0', hC, hw, hix, he]; exact Is.rfl) (he := by (try dsimp only [putEnv]) <;> exact rfl))
             | (apply RT.call (hg := by simp; exact Is.rfl) (hfo := by simp; exact Is.rfl) (hpr := by exact Is.rfl) (hvs := by simp [envOf, dI, -addNew, h1, h2, int_beq, v0', hC, hw, hix, he]; exact Is.rfl) (hcl := by simp [envOf, dI, -addNew, h1, h2, int_beq, v0', hC, hw, hix, he]; exact Is.rfl) (hd := by simp [envOf, dI, -addNew, h1, h2, int_beq, v0', hC, hw, hix, he]; exact Is.rfl) (hwr := by simp [envOf, dI, -addNew, h1, h2, int_beq, v0', hC, hw, hix, he]; exact Is.rfl) (hlt := by simp [Is]) (he := by (try dsimp only [putEnv]) <;> exact rfl) (hh := by simp; exact Is.rfl) (hw := by exact Is.rfl))
             | (apply RT.clone (hg := by simp; exact Is.rfl) (hfo := by simp; exact Is.rfl) (hpr := by exact Is.rfl) (hvs := by simp [envOf, dI, -addNew, h1, h2, int_beq, v0', hC, hw, hix, he]; exact Is.rfl) (hrows := by simp [envOf, dI, -addNew, h1, h2, int_beq, v0', hC, hw, hix, he]; exact Is.rfl) (hfit := by first | assumption | (simp [fitsB]; omega)) (he := by (try dsimp only [putEnv]) <;> exact rfl) (hh := by simp [envOf, dI, -addNew, h1, h2, int_beq, v0', hC, hw, hix, he]; exact Is.rfl) (hw := by exact Is.rfl))
             | (apply RT.callT (hg := by simp; exact Is.rfl) (hfo := by simp; exact Is.rfl) (hpr := by exact Is.rfl) (hvs := by simp [envOf, dI, -addNew, h1, h2, int_beq, v0', hC, hw, hix, he]; exact Is.rfl) (hcl := by simp [envOf, dI, -addNew, h1, h2, int_beq, v0', hC, hw, hix, he]; exact Is.rfl) (hd := hT1) (hk := hT2) (he := by (try dsimp only [putEnv]) <;> exact rfl))
             | (apply RT.wr (h := by simp [envOf, dI, -addNew, h1, h2, int_beq, v0', hC, hw, hix, he]; exact Is.rfl) (he := by (try dsimp only [putEnv]) <;> exact rfl) (hh := by simp [envOf, dI, -addNew, h1, h2, int_beq, v0', hC, hw, hix, he]; exact Is.rfl) (hn := by exact Is.rfl) (hc := by exact Is.rfl) (hw := by exact Is.rfl)))
           exact RT.nil
         case hc => (show _ = _; kernel_rfl)
         case ht => simp [envOf, dI, -addNew, h1, h2, int_beq, v0', hC, hw, hix, he]; exact Is.rfl)
      | apply WP.block
      | apply WP.skip
      | apply WP.exit
      | apply WP.ret
      | refine WP.condT rfl ?_
      | refine WP.condF rfl ?_)
    refine ⟨.inr rfl, _, [], rfl, ?_, rfl, WI.refl, trivial⟩
    simp [fitsV, h1, h2, v0']; rfl

theorem count_ok (hM : Mc im hp idc gc mid mg mem cnt) (q1 : idc < n) : Thr 16 [.ptr idc gc 0] hp n c (dI cnt) [] (fun _ => True) := by
  obtain ⟨⟨cap, hcap, hC⟩, hm, d2⟩ := hM
  refine thr_wp Tryd.func16 rfl (by kernel_rfl) rfl ?_
  repeat (first
    | apply WP.seq
    | (apply WP.reg
       case hR => dsimp only [prepL, prepO, List.map, List.getElem?_cons_succ, List.getElem?_cons_zero]; exact Is.rfl
       case hr =>
         repeat (first
           | (apply RT.op (h := by simp [envOf, dI, -addNew, hC]; exact Is.rfl) (he := by (try dsimp only [putEnv]) <;> exact rfl))
           | (apply RT.call (hg := by simp; exact Is.rfl) (hfo := by simp; exact Is.rfl) (hpr := by exact Is.rfl) (hvs := by simp [envOf, dI, -addNew, hC]; exact Is.rfl) (hcl := by simp [envOf, dI, -addNew, hC]; exact Is.rfl) (hd := by simp [envOf, dI, -addNew, hC]; exact Is.rfl) (hwr := by simp [envOf, dI, -addNew, hC]; exact Is.rfl) (hlt := by simp [Is]) (he := by (try dsimp only [putEnv]) <;> exact rfl) (hh := by simp; exact Is.rfl) (hw := by exact Is.rfl))
           | (apply RT.clone (hg := by simp; exact Is.rfl) (hfo := by simp; exact Is.rfl) (hpr := by exact Is.rfl) (hvs := by simp [envOf, dI, -addNew, hC]; exact Is.rfl) (hrows := by simp [envOf, dI, -addNew, hC]; exact Is.rfl) (hfit := by first | assumption | (simp [fitsB]; omega)) (he := by (try dsimp only [putEnv]) <;> exact rfl) (hh := by simp [envOf, dI, -addNew, hC]; exact Is.rfl) (hw := by exact Is.rfl))
           | (apply RT.callT (hg := by simp; exact Is.rfl) (hfo := by simp; exact Is.rfl) (hpr := by exact Is.rfl) (hvs := by simp [envOf, dI, -addNew, hC]; exact Is.rfl) (hcl := by simp [envOf, dI, -addNew, hC]; exact Is.rfl) (hd := hT1) (hk := hT2) (he := by (try dsimp only [putEnv]) <;> exact rfl))
           | (apply RT.wr (h := by simp [envOf, dI, -addNew, hC]; exact Is.rfl) (he := by (try dsimp only [putEnv]) <;> exact rfl) (hh := by simp [envOf, dI, -addNew, hC]; exact Is.rfl) (hn := by exact Is.rfl) (hc := by exact Is.rfl) (hw := by exact Is.rfl)))
         exact RT.nil
       case hc => (show _ = _; kernel_rfl)
       case ht => simp [envOf, dI, -addNew, hC]; exact Is.rfl)
    | apply WP.block
    | apply WP.skip
    | apply WP.exit
    | apply WP.ret
    | refine WP.condT rfl ?_
    | refine WP.condF rfl ?_)
  exact ⟨.inr rfl, _, [], rfl, rfl, rfl, WI.refl, trivial⟩

theorem memory_ok (hM : Mc im hp idc gc mid mg mem cnt) (q1 : idc < n) (q2 : mid < n) (hml : mem.length ≤ 1000000) : Thr 14 [.ptr idc gc 0] hp n c (dL mem) [] (fun _ => True) := by
  obtain ⟨⟨cap, hcap, hC⟩, hm, d2⟩ := hM
  have hfit : fitsB mem.length 8 = true := by simp [fitsB]; omega
  refine thr_wp Tryd.func14 rfl (by kernel_rfl) rfl ?_
  repeat (first
    | apply WP.seq
    | (apply WP.reg
       case hR => dsimp only [prepL, prepO, List.map, List.getElem?_cons_succ, List.getElem?_cons_zero]; exact Is.rfl
       case hr =>
         repeat (first
           | (apply RT.op (h := by simp [envOf, dI, -addNew, hC, hm, cI_len, nble_d, cI_take]; exact Is.rfl) (he := by (try dsimp only [putEnv]) <;> exact rfl))
           | (apply RT.call (hg := by simp; exact Is.rfl) (hfo := by simp; exact Is.rfl) (hpr := by exact Is.rfl) (hvs := by simp [envOf, dI, -addNew, hC, hm, cI_len, nble_d, cI_take]; exact Is.rfl) (hcl := by simp [envOf, dI, -addNew, hC, hm, cI_len, nble_d, cI_take]; exact Is.rfl) (hd := by simp [envOf, dI, -addNew, hC, hm, cI_len, nble_d, cI_take]; exact Is.rfl) (hwr := by simp [envOf, dI, -addNew, hC, hm, cI_len, nble_d, cI_take]; exact Is.rfl) (hlt := by simp [Is]) (he := by (try dsimp only [putEnv]) <;> exact rfl) (hh := by simp; exact Is.rfl) (hw := by exact Is.rfl))
           | (apply RT.clone (hg := by simp; exact Is.rfl) (hfo := by simp; exact Is.rfl) (hpr := by exact Is.rfl) (hvs := by simp [envOf, dI, -addNew, hC, hm, cI_len, nble_d, cI_take]; exact Is.rfl) (hrows := by simp [envOf, dI, -addNew, hC, hm, cI_len, nble_d, cI_take]; exact Is.rfl) (hfit := by first | assumption | (simp [fitsB]; omega)) (he := by (try dsimp only [putEnv]) <;> exact rfl) (hh := by simp [envOf, dI, -addNew, hC, hm, cI_len, nble_d, cI_take]; exact Is.rfl) (hw := by exact Is.rfl))
           | (apply RT.callT (hg := by simp; exact Is.rfl) (hfo := by simp; exact Is.rfl) (hpr := by exact Is.rfl) (hvs := by simp [envOf, dI, -addNew, hC, hm, cI_len, nble_d, cI_take]; exact Is.rfl) (hcl := by simp [envOf, dI, -addNew, hC, hm, cI_len, nble_d, cI_take]; exact Is.rfl) (hd := hT1) (hk := hT2) (he := by (try dsimp only [putEnv]) <;> exact rfl))
           | (apply RT.wr (h := by simp [envOf, dI, -addNew, hC, hm, cI_len, nble_d, cI_take]; exact Is.rfl) (he := by (try dsimp only [putEnv]) <;> exact rfl) (hh := by simp [envOf, dI, -addNew, hC, hm, cI_len, nble_d, cI_take]; exact Is.rfl) (hn := by exact Is.rfl) (hc := by exact Is.rfl) (hw := by exact Is.rfl)))
         exact RT.nil
       case hc => (show _ = _; kernel_rfl)
       case ht => simp [envOf, dI, -addNew, hC, hm, cI_len, nble_d, cI_take]; exact Is.rfl)
    | apply WP.block
    | apply WP.skip
    | apply WP.exit
    | apply WP.ret
    | refine WP.condT rfl ?_
    | refine WP.condF rfl ?_)
  have hcl := close_osl1 (look := (hp.set n ⟨c, false, cI mem⟩).get) (cap := none) (Hp.get_set_self ..) (cI_take mem) (by rw [cI_len]; exact Nat.le_refl _)
  exact ⟨.inr rfl, _, [n], rfl, hcl, by simp [nble_d], WI.refl.set (.inr (Nat.le_refl _)), trivial⟩
end
end Go.Ac
end

section
set_option maxRecDepth 4000
set_option linter.unusedSimpArgs false
set_option linter.unusedVariables false
namespace Go.Ac
open Go.Proofs

theorem blockQ_rt {i : Nat} {Q : Ex → St → Prop} {t : St} (h : Q .ret t) : blockQ i Q .ret t := h
theorem seqQ_rt {P : Program} {cfg : Cfg} {fid : FuncId} {b : Code} {Q : Ex → St → Prop} {t : St} (h : Q .ret t) : seqQ P cfg fid b Q .ret t := h
theorem loopQ_rt {cfg : Cfg} {fid : FuncId} {s : St} {I : St → Prop} {Q : Ex → St → Prop} {t : St} (h : Q .ret t) : loopQ cfg fid s I Q .ret t := h
/-- An image that has passed the check. -/
structure GoodIm (im : Im) : Prop where
  ok : OkM im.rs
  cl : ∀ q ∈ im.rs, q.code.length ≤ 900000
  il : ∀ q ∈ im.rs, q.ini.length ≤ 900000
  nl : ∀ q ∈ im.rs, q.inn.length ≤ 900000
  rl : im.rs.length ≤ 900000
  ne : 0 < im.rs.length
  el : im.enums.length ≤ 900000
  ty : ∀ q ∈ im.rs, ∀ t ∈ q.inn, typOK im.enums t = true
  ini : ∀ q ∈ im.rs, ∀ v ∈ q.ini, -32768 ≤ v ∧ v ≤ 32767
  en : ∀ v ∈ im.enums, v ≤ 16
def lastR (im : Im) : Rt := im.rs.getD (im.rs.length - 1) rtZ
theorem GoodIm.last {im : Im} (h : GoodIm im) : im.rs[im.rs.length - 1]? = some (lastR im) := by
  have h1 := h.ne
  have h2 : im.rs.length - 1 < im.rs.length := by omega
  unfold lastR
  simp [List.getD, h2]
theorem GoodIm.mem {im : Im} (h : GoodIm im) : lastR im ∈ im.rs := List.mem_of_getElem? h.last
def fitsL (en : List Int) : List Int → List Int → Bool
  | t :: ts, v :: vs => fitsV en t v && fitsL en ts vs
  | _, _ => true
theorem fitsL_step {en ts vs : List Int} {j : Nat} {t v : Int} (h1 : ts[j]? = some t) (h2 : vs[j]? = some v) : fitsL en (ts.drop j) (vs.drop j) = (fitsV en t v && fitsL en (ts.drop (j + 1)) (vs.drop (j + 1))) := by
  obtain ⟨a1, a2⟩ := List.getElem?_eq_some_iff.1 h1
  obtain ⟨b1, b2⟩ := List.getElem?_eq_some_iff.1 h2
  rw [List.drop_eq_getElem_cons a1, List.drop_eq_getElem_cons b1, a2, b2]; rfl
/-- What a step gives; the memory and the count afterwards. -/
def stepR (im : Im) (mem : List Int) (cnt : Int) (row : List Int) : List Int × Int × List Int × Int :=
  if row.length ≠ (lastR im).inn.length then ([], 9, mem, cnt)
  else if fitsL im.enums (lastR im).inn row = false then ([], 14, mem, cnt)
  else ((callM im.rs im.rs.length (im.rs.length - 1) 0 row mem).1, 0, (callM im.rs im.rs.length (im.rs.length - 1) 0 row mem).2.1, IntKind.i64.wrap (callM im.rs im.rs.length (im.rs.length - 1) 0 row mem).2.2)

section
variable {im : Im} {hp : Hp} {n c idc gc mid mg : Nat} {mem row : List Int} {cnt : Int}
set_option maxHeartbeats 4000000 in
theorem step_den (hG : GoodIm im) (hM : Mc im hp idc gc mid mg mem cnt) (q1 : idc < n) (q2 : mid < n) (hml : mem.length = (lastR im).ini.length) (hrow : row.length ≤ 4194304) :
    Thr 11 [.ptr idc gc 0, dL row] hp n c (.tuple [dL (stepR im mem cnt row).1, dI (stepR im mem cnt row).2.1]) [idc, mid] (fun hp' => Mc im hp' idc gc mid mg (stepR im mem cnt row).2.2.1 (stepR im mem cnt row).2.2.2) := by
  have hM0 := hM
  obtain ⟨⟨cap, hcap, hC⟩, hm, d2⟩ := hM
  have hq := hG.last
  have hil := hG.il _ hG.mem
  have hnl := hG.nl _ hG.mem
  have hrl := hG.rl
  have hel := hG.el
  have hgd := hG.ok _ _ hq
  obtain ⟨q, hqd⟩ : ∃ q, q = lastR im := ⟨_, rfl⟩
  rw [← hqd] at hq hil hnl hml hgd
  unfold stepR
  rw [← hqd]
  refine thr_wp Tryd.func11 rfl (by kernel_rfl) rfl ?_
  obtain ⟨r0, hT1, hv, hn, hT2, hki, hfr, _⟩ := (main_ok (c := c) hM0 q1 hq (by omega)).caller (by intro j hj; cases hj)
  simp only [aR, Rt.cells, List.map_cons, List.map_nil] at hv
  have f1 : (n = idc) = False := eq_false (by omega)
  by_cases hl : row.length = q.inn.length
  case neg =>
    rw [if_pos hl]
    have hl2 : ((row.length : Int) = q.inn.length) = False := eq_false (by omega)
    repeat (first
      | apply WP.seq
      | (apply WP.reg
         case hR => dsimp only [prepL, prepO, List.map, List.getElem?_cons_succ, List.getElem?_cons_zero]; exact Is.rfl
         case hr =>
           repeat (first
             | (apply RT.op (h := by simp [envOf, dI, dL, -addNew, hC, hv, hn, Hp.get_set, int_bne, hl2, hl]; exact Is.rfl) (he := by (try dsimp only [putEnv]) <;> exact rfl))
             | (apply RT.call (hg := by simp; exact Is.rfl) (hfo := by simp; exact Is.rfl) (hpr := by exact Is.rfl) (hvs := by simp [envOf, dI, dL, -addNew, hC, hv, hn, Hp.get_set, int_bne, hl2, hl]; exact Is.rfl) (hcl := by simp [envOf, dI, dL, -addNew, hC, hv, hn, Hp.get_set, int_bne, hl2, hl]; exact Is.rfl) (hd := by simp [envOf, dI, dL, -addNew, hC, hv, hn, Hp.get_set, int_bne, hl2, hl]; exact Is.rfl) (hwr := by simp [envOf, dI, dL, -addNew, hC, hv, hn, Hp.get_set, int_bne, hl2, hl]; exact Is.rfl) (hlt := by simp [Is]) (he := by (try dsimp only [putEnv]) <;> exact rfl) (hh := by simp; exact Is.rfl) (hw := by exact Is.rfl))
             | (apply RT.callT (hg := by simp; exact Is.rfl) (hfo := by simp; exact Is.rfl) (hpr := by exact Is.rfl) (hvs := by simp [envOf, dI, dL, -addNew, hC, hv, hn, Hp.get_set, int_bne, hl2, hl]; exact Is.rfl) (hcl := by simp [envOf, dI, dL, -addNew, hC, hv, hn, Hp.get_set, int_bne, hl2, hl]; exact Is.rfl) (hd := hT1) (hk := hT2) (he := by (try dsimp only [putEnv]) <;> exact rfl))
             | (apply RT.wr (h := by simp [envOf, dI, dL, -addNew, hC, hv, hn, Hp.get_set, int_bne, hl2, hl]; exact Is.rfl) (he := by (try dsimp only [putEnv]) <;> exact rfl) (hh := by simp [envOf, dI, dL, -addNew, hC, hv, hn, Hp.get_set, int_bne, hl2, hl]; exact Is.rfl) (hn := by exact Is.rfl) (hc := by exact Is.rfl) (hw := by exact Is.rfl)))
           exact RT.nil
         case hc => (show _ = _; kernel_rfl)
         case ht => simp [envOf, dI, dL, -addNew, hC, hv, hn, Hp.get_set, int_bne, hl2, hl]; exact Is.rfl)
      | apply WP.block
      | apply WP.skip
      | apply WP.exit
      | apply WP.ret
      | refine WP.condT rfl ?_
      | refine WP.condF rfl ?_)
    have hw : WI [idc, mid] n hp (addNew n [] (tWr r0 n)) (hp.sets (tWr r0 n)) := WI.refl.sets fun p hp => by have := hki _ (List.mem_map.2 ⟨p, hp, rfl⟩); cases this
    have hgt : ∀ o o' j, j < n → (Hp.trunc n (((hp.sets (tWr r0 n)).set n o).set n o')).get j = hp.get j := fun o o' j hj => by
      rw [Hp.get_trunc _ _ _ hj, Hp.get_set_ne _ _ _ _ (by omega), Hp.get_set_ne _ _ _ _ (by omega), hfr j hj (by simp)]
    exact ⟨.inr rfl, _, [], rfl, rfl, rfl, (hw.set (.inr (Nat.le_refl _))).set (.inr (Nat.le_refl _)), hM0.same (hgt _ _ _ q1) (hgt _ _ _ q2)⟩
  rw [if_neg (by simp [hl])]
  have hl2 : ((row.length : Int) = q.inn.length) = True := eq_true (by omega)
  repeat (first
    | apply WP.seq
    | (apply WP.reg
       case hR => dsimp only [prepL, prepO, List.map, List.getElem?_cons_succ, List.getElem?_cons_zero]; exact Is.rfl
       case hr =>
         repeat (first
           | (apply RT.op (h := by simp [envOf, dI, dL, -addNew, hC, hv, hn, Hp.get_set, int_bne, hl2, hl]; exact Is.rfl) (he := by (try dsimp only [putEnv]) <;> exact rfl))
           | (apply RT.call (hg := by simp; exact Is.rfl) (hfo := by simp; exact Is.rfl) (hpr := by exact Is.rfl) (hvs := by simp [envOf, dI, dL, -addNew, hC, hv, hn, Hp.get_set, int_bne, hl2, hl]; exact Is.rfl) (hcl := by simp [envOf, dI, dL, -addNew, hC, hv, hn, Hp.get_set, int_bne, hl2, hl]; exact Is.rfl) (hd := by simp [envOf, dI, dL, -addNew, hC, hv, hn, Hp.get_set, int_bne, hl2, hl]; exact Is.rfl) (hwr := by simp [envOf, dI, dL, -addNew, hC, hv, hn, Hp.get_set, int_bne, hl2, hl]; exact Is.rfl) (hlt := by simp [Is]) (he := by (try dsimp only [putEnv]) <;> exact rfl) (hh := by simp; exact Is.rfl) (hw := by exact Is.rfl))
           | (apply RT.callT (hg := by simp; exact Is.rfl) (hfo := by simp; exact Is.rfl) (hpr := by exact Is.rfl) (hvs := by simp [envOf, dI, dL, -addNew, hC, hv, hn, Hp.get_set, int_bne, hl2, hl]; exact Is.rfl) (hcl := by simp [envOf, dI, dL, -addNew, hC, hv, hn, Hp.get_set, int_bne, hl2, hl]; exact Is.rfl) (hd := hT1) (hk := hT2) (he := by (try dsimp only [putEnv]) <;> exact rfl))
           | (apply RT.wr (h := by simp [envOf, dI, dL, -addNew, hC, hv, hn, Hp.get_set, int_bne, hl2, hl]; exact Is.rfl) (he := by (try dsimp only [putEnv]) <;> exact rfl) (hh := by simp [envOf, dI, dL, -addNew, hC, hv, hn, Hp.get_set, int_bne, hl2, hl]; exact Is.rfl) (hn := by exact Is.rfl) (hc := by exact Is.rfl) (hw := by exact Is.rfl)))
         exact RT.nil
       case hc => (show _ = _; kernel_rfl)
       case ht => simp [envOf, dI, dL, -addNew, hC, hv, hn, Hp.get_set, int_bne, hl2, hl]; exact Is.rfl)
    | apply WP.block
    | apply WP.skip
    | apply WP.exit
    | apply WP.ret
    | refine WP.condT rfl ?_
    | refine WP.condF rfl ?_)
  apply WP.gen
  intro hp1 wl1 hhp hwl
  have w1 : WI [idc, mid] n hp wl1 hp1 := by
    have hw : WI [idc, mid] n hp (addNew n [] (tWr r0 n)) (hp.sets (tWr r0 n)) := WI.refl.sets fun p hp => by have := hki _ (List.mem_map.2 ⟨p, hp, rfl⟩); cases this
    rw [hhp, hwl]
    exact (hw.set (.inr (Nat.le_refl _))).set (.inr (Nat.le_refl _))
  have g1 : ∀ j, j < n → hp1.get j = hp.get j := fun j hj => by
    rw [hhp, Hp.get_set_ne _ _ _ _ (by omega), Hp.get_set_ne _ _ _ _ (by omega), hfr j hj (by simp)]
  obtain ⟨gq, hgq⟩ : ∃ g, g = c + (r0.c - c) := ⟨_, rfl⟩
  have k1 : hp1.get n = some ⟨gq, false, [V.d (D.str q.nm), V.d (D.slice (encI q.inn)), V.d (D.slice (encI q.out)), V.d (D.int IntKind.i64 q.regs), V.d (D.slice (encI q.ini)), V.d (D.slice (encC q.code))]⟩ := by rw [hhp, hgq, Hp.get_set_self]
  rw [← hgq]
  clear hhp hwl hT1 hT2 hki hfr hv hn
  have hfit : ∀ t ∈ q.inn, typOK im.enums t = true := by rw [hqd]; exact hG.ty _ hG.mem
  apply WP.loop' (I := fun d s => ∃ (j : Nat) (hp' : Hp) (c' : Nat) (wl' : List Nat), j + d = q.inn.length ∧ fitsL im.enums q.inn row = fitsL im.enums (q.inn.drop j) (row.drop j) ∧ (∀ t, t < n + 1 → hp'.get t = hp1.get t) ∧ WI [idc, mid] n hp wl' hp' ∧
    s = ⟨[(0, .ptr idc gc 0), (1, dL row), (6, .ptr n gq 0), (21, dL row), (22, dI q.inn.length), (23, dI j)], hp', n + 1, c', n, wl'⟩) (d := q.inn.length)
  · exact ⟨0, hp1, _, wl1, by simp, rfl, fun _ _ => rfl, w1, by rfl⟩
  rintro d _ ⟨j, hp', c', wl', h1, h2, h3, h4, rfl⟩
  have h3n := (h3 n (by omega)).trans k1
  have hMc : Mc im hp' idc gc mid mg mem cnt := hM0.same ((h3 _ (by omega)).trans (g1 _ q1)) ((h3 _ (by omega)).trans (g1 _ q2))
  repeat (first
    | apply WP.seq
    | (apply WP.reg
       case hR => dsimp only [prepL, prepO, List.map, List.getElem?_cons_succ, List.getElem?_cons_zero]; exact Is.rfl
       case hr =>
         repeat (first
           | (apply RT.op (h := by simp [dI, dL, -addNew]; exact Is.rfl) (he := by (try dsimp only [putEnv]) <;> exact rfl))
           | (apply RT.call (hg := by simp; exact Is.rfl) (hfo := by simp; exact Is.rfl) (hpr := by exact Is.rfl) (hvs := by simp [dI, dL, -addNew]; exact Is.rfl) (hcl := by simp [dI, dL, -addNew]; exact Is.rfl) (hd := by simp [dI, dL, -addNew]; exact Is.rfl) (hwr := by simp [dI, dL, -addNew]; exact Is.rfl) (hlt := by simp [Is]) (he := by (try dsimp only [putEnv]) <;> exact rfl) (hh := by simp; exact Is.rfl) (hw := by exact Is.rfl))
           | (apply RT.callT (hg := by simp; exact Is.rfl) (hfo := by simp; exact Is.rfl) (hpr := by exact Is.rfl) (hvs := by simp [dI, dL, -addNew]; exact Is.rfl) (hcl := by simp [dI, dL, -addNew]; exact Is.rfl) (hd := hT1) (hk := hT2) (he := by (try dsimp only [putEnv]) <;> exact rfl))
           | (apply RT.wr (h := by simp [dI, dL, -addNew]; exact Is.rfl) (he := by (try dsimp only [putEnv]) <;> exact rfl) (hh := by simp [dI, dL, -addNew]; exact Is.rfl) (hn := by exact Is.rfl) (hc := by exact Is.rfl) (hw := by exact Is.rfl)))
         exact RT.nil
       case hc => (show _ = _; kernel_rfl)
       case ht => simp [dI, dL, -addNew]; exact Is.rfl)
    | apply WP.block
    | apply WP.skip
    | apply WP.exit
    | apply WP.ret)
  show WP _ _ _ _ _ _
  refine WP.cond _ rfl (fun hb => ?_) (fun hb => ?_)
  · simp at hb
    have hb' : j < q.inn.length := hb
    obtain ⟨t, ht, htm, hix⟩ := at_lt hb'
    have htv := encI_at ht
    have hjr : j < row.length := by omega
    have hv0 := rgv_at hjr
    have hvv := encI_at hv0
    have hix2 := idx_lt hjr
    have hst := fitsL_step (en := im.enums) ht hv0
    rw [← h2] at hst
    have hw2 := w_succ hb' (by omega)
    obtain ⟨r1, hT1, hv, hn, hT2, hki, hfr, _⟩ := (fits_ok (c := c') hMc (n := n + 1) (by omega) t (rgv row j) (hfit t htm) (by omega)).caller (by intro j hj; cases hj)
    simp only [dI] at hT1
    simp only [dB] at hv
    cases hf : fitsV im.enums t (rgv row j) with
    | false =>
      rw [hf] at hv hst
      rw [Bool.false_and] at hst
      rw [hst, if_pos rfl]
      repeat (first
        | apply WP.seq
        | (apply WP.reg
           case hR => dsimp only [prepL, prepO, List.map, List.getElem?_cons_succ, List.getElem?_cons_zero]; exact Is.rfl
           case hr =>
             repeat (first
               | (apply RT.op (h := by simp [dI, dL, -addNew, h3n, hix, htv, hix2, hvv, hv, hn]; exact Is.rfl) (he := by (try dsimp only [putEnv]) <;> exact rfl))
               | (apply RT.call (hg := by simp; exact Is.rfl) (hfo := by simp; exact Is.rfl) (hpr := by exact Is.rfl) (hvs := by simp [dI, dL, -addNew, h3n, hix, htv, hix2, hvv, hv, hn]; exact Is.rfl) (hcl := by simp [dI, dL, -addNew, h3n, hix, htv, hix2, hvv, hv, hn]; exact Is.rfl) (hd := by simp [dI, dL, -addNew, h3n, hix, htv, hix2, hvv, hv, hn]; exact Is.rfl) (hwr := by simp [dI, dL, -addNew, h3n, hix, htv, hix2, hvv, hv, hn]; exact Is.rfl) (hlt := by simp [Is]) (he := by (try dsimp only [putEnv]) <;> exact rfl) (hh := by simp; exact Is.rfl) (hw := by exact Is.rfl))
               | (apply RT.callT (hg := by simp; exact Is.rfl) (hfo := by simp; exact Is.rfl) (hpr := by exact Is.rfl) (hvs := by simp [dI, dL, -addNew, h3n, hix, htv, hix2, hvv, hv, hn]; exact Is.rfl) (hcl := by simp [dI, dL, -addNew, h3n, hix, htv, hix2, hvv, hv, hn]; exact Is.rfl) (hd := hT1) (hk := hT2) (he := by (try dsimp only [putEnv]) <;> exact rfl))
               | (apply RT.wr (h := by simp [dI, dL, -addNew, h3n, hix, htv, hix2, hvv, hv, hn]; exact Is.rfl) (he := by (try dsimp only [putEnv]) <;> exact rfl) (hh := by simp [dI, dL, -addNew, h3n, hix, htv, hix2, hvv, hv, hn]; exact Is.rfl) (hn := by exact Is.rfl) (hc := by exact Is.rfl) (hw := by exact Is.rfl)))
             exact RT.nil
           case hc => (show _ = _; kernel_rfl)
           case ht => simp [dI, dL, -addNew, h3n, hix, htv, hix2, hvv, hv, hn]; exact Is.rfl)
        | apply WP.block
        | apply WP.skip
        | apply WP.exit
        | apply WP.ret
        | refine WP.condT rfl ?_
        | refine WP.condF rfl ?_)
      repeat (first | with_reducible apply blockQ_rt | with_reducible apply seqQ_rt | with_reducible apply loopQ_rt)
      have hgt : ∀ j, j < n → (Hp.trunc n (hp'.sets (tWr r1 (n + 1)))).get j = hp.get j := fun j hj => by
        rw [Hp.get_trunc _ _ _ hj, hfr j (by omega) (by simp), h3 j (by omega), g1 j hj]
      exact ⟨.inr rfl, _, [], rfl, rfl, rfl, h4.sets (fun p hp => by have := hki _ (List.mem_map.2 ⟨p, hp, rfl⟩); cases this), hM0.same (hgt _ q1) (hgt _ q2)⟩
    | true =>
      rw [hf] at hv hst
      rw [Bool.true_and] at hst
      repeat (first
        | apply WP.seq
        | (apply WP.reg
           case hR => dsimp only [prepL, prepO, List.map, List.getElem?_cons_succ, List.getElem?_cons_zero]; exact Is.rfl
           case hr =>
             repeat (first
               | (apply RT.op (h := by simp [dI, dL, -addNew, h3n, hix, htv, hix2, hvv, hv, hn]; exact Is.rfl) (he := by (try dsimp only [putEnv]) <;> exact rfl))
               | (apply RT.call (hg := by simp; exact Is.rfl) (hfo := by simp; exact Is.rfl) (hpr := by exact Is.rfl) (hvs := by simp [dI, dL, -addNew, h3n, hix, htv, hix2, hvv, hv, hn]; exact Is.rfl) (hcl := by simp [dI, dL, -addNew, h3n, hix, htv, hix2, hvv, hv, hn]; exact Is.rfl) (hd := by simp [dI, dL, -addNew, h3n, hix, htv, hix2, hvv, hv, hn]; exact Is.rfl) (hwr := by simp [dI, dL, -addNew, h3n, hix, htv, hix2, hvv, hv, hn]; exact Is.rfl) (hlt := by simp [Is]) (he := by (try dsimp only [putEnv]) <;> exact rfl) (hh := by simp; exact Is.rfl) (hw := by exact Is.rfl))
               | (apply RT.callT (hg := by simp; exact Is.rfl) (hfo := by simp; exact Is.rfl) (hpr := by exact Is.rfl) (hvs := by simp [dI, dL, -addNew, h3n, hix, htv, hix2, hvv, hv, hn]; exact Is.rfl) (hcl := by simp [dI, dL, -addNew, h3n, hix, htv, hix2, hvv, hv, hn]; exact Is.rfl) (hd := hT1) (hk := hT2) (he := by (try dsimp only [putEnv]) <;> exact rfl))
               | (apply RT.wr (h := by simp [dI, dL, -addNew, h3n, hix, htv, hix2, hvv, hv, hn]; exact Is.rfl) (he := by (try dsimp only [putEnv]) <;> exact rfl) (hh := by simp [dI, dL, -addNew, h3n, hix, htv, hix2, hvv, hv, hn]; exact Is.rfl) (hn := by exact Is.rfl) (hc := by exact Is.rfl) (hw := by exact Is.rfl)))
             exact RT.nil
           case hc => (show _ = _; kernel_rfl)
           case ht => simp [dI, dL, -addNew, h3n, hix, htv, hix2, hvv, hv, hn]; exact Is.rfl)
        | apply WP.block
        | apply WP.skip
        | apply WP.exit
        | apply WP.ret
        | refine WP.condT rfl ?_
        | refine WP.condF rfl ?_)
      refine loop_next (by simp [-addNew, hw2]; exact Is.rfl) ?_
      refine ⟨d - 1, by omega, j + 1, _, _, _, by omega, hst, fun t ht => ?_, (h4.sets (fun p hp => by have := hki _ (List.mem_map.2 ⟨p, hp, rfl⟩); cases this)).trunc (m := n + 1) (by omega), by rfl⟩
      rw [Hp.get_trunc _ _ _ ht, hfr t ht (by simp), h3 t ht]
  · simp at hb
    have hje : j = q.inn.length := by omega
    rw [hje, List.drop_of_length_le (Nat.le_refl _)] at h2
    have h2' : fitsL im.enums q.inn row = true := h2
    rw [h2', if_neg (by simp)]
    repeat (first
      | apply WP.seq
      | (apply WP.reg
         case hR => dsimp only [prepL, prepO, List.map, List.getElem?_cons_succ, List.getElem?_cons_zero]; exact Is.rfl
         case hr =>
           repeat (first
             | (apply RT.op (h := by simp [dI, dL, -addNew, h3n]; exact Is.rfl) (he := by (try dsimp only [putEnv]) <;> exact rfl))
             | (apply RT.call (hg := by simp; exact Is.rfl) (hfo := by simp; exact Is.rfl) (hpr := by exact Is.rfl) (hvs := by simp [dI, dL, -addNew, h3n]; exact Is.rfl) (hcl := by simp [dI, dL, -addNew, h3n]; exact Is.rfl) (hd := by simp [dI, dL, -addNew, h3n]; exact Is.rfl) (hwr := by simp [dI, dL, -addNew, h3n]; exact Is.rfl) (hlt := by simp [Is]) (he := by (try dsimp only [putEnv]) <;> exact rfl) (hh := by simp; exact Is.rfl) (hw := by exact Is.rfl))
             | (apply RT.callT (hg := by simp; exact Is.rfl) (hfo := by simp; exact Is.rfl) (hpr := by exact Is.rfl) (hvs := by simp [dI, dL, -addNew, h3n]; exact Is.rfl) (hcl := by simp [dI, dL, -addNew, h3n]; exact Is.rfl) (hd := hT1) (hk := hT2) (he := by (try dsimp only [putEnv]) <;> exact rfl))
             | (apply RT.wr (h := by simp [dI, dL, -addNew, h3n]; exact Is.rfl) (he := by (try dsimp only [putEnv]) <;> exact rfl) (hh := by simp [dI, dL, -addNew, h3n]; exact Is.rfl) (hn := by exact Is.rfl) (hc := by exact Is.rfl) (hw := by exact Is.rfl)))
           exact RT.nil
         case hc => (show _ = _; kernel_rfl)
         case ht => simp [dI, dL, -addNew, h3n]; exact Is.rfl)
      | apply WP.block
      | apply WP.skip
      | apply WP.exit
      | apply WP.ret
      | refine WP.condT rfl ?_
      | refine WP.condF rfl ?_)
    apply WP.gen
    intro hp2 wl2 hhp2 hwl2
    have w2 : WI [idc, mid] n hp wl2 hp2 := by
      rw [hhp2, hwl2]
      exact (h4.set (.inr (by omega))).set (.inr (by omega))
    have g2 : ∀ j, j < n + 1 → hp2.get j = hp'.get j := fun j hj => by
      rw [hhp2, Hp.get_set_ne _ _ _ _ (by omega), Hp.get_set_ne _ _ _ _ (by omega)]
    have kk : hp2.get (n + 1) = some ⟨c', false, [V.d (D.int IntKind.i64 0)]⟩ := by rw [hhp2, Hp.get_set_self]
    have kn := (g2 n (by omega)).trans h3n
    have kc := ((g2 idc (by omega)).trans ((h3 idc (by omega)).trans (g1 idc q1))).trans hC
    have km := ((g2 mid (by omega)).trans ((h3 mid (by omega)).trans (g1 mid q2))).trans hm
    have ko : ∀ j, j < n → hp2.get j = hp.get j := fun j hj => (g2 j (by omega)).trans ((h3 j (by omega)).trans (g1 j hj))
    clear hhp2 hwl2
    have hx := exec_all hG.ok hG.cl im.rs.length (im.rs.length - 1) q (by have := hG.ne; omega) hq hp2 (n + 2) (c' + 1) idc gc mid mg (n + 1) c' 0 cap (dL row) row mem 0 ⟨_, _, kc⟩ km kk (by omega) d2 (by omega) (by omega) (by omega) (by omega) (.inl rfl) hl (by omega) (by omega) (eq_true (by rw [← hml]; exact hcap))
    obtain ⟨res, hres⟩ : ∃ r, r = callM im.rs im.rs.length (im.rs.length - 1) 0 row mem := ⟨_, rfl⟩
    have hlen := (callM_ok hG.ok im.rs.length (im.rs.length - 1) q 0 row mem (by have := hG.ne; omega) hq hl (by omega)).2
    rw [← hres] at hx hlen ⊢
    unfold ExecAt at hx
    obtain ⟨r2, hT1, hv, hn, hT2, hki, hfr, hpz, ⟨z1, z2⟩, hsame⟩ := hx.caller (by intro j hj; simp at hj; omega)
    simp only [aR, Rt.cells, List.map_cons, List.map_nil, ← hml] at hT1
    simp only [dL] at hv
    have f2 : (idc < n + 2) = True := eq_true (by omega)
    have m1 := (hsame mid (by omega) (by rw [z1]; rfl)).trans z1
    have m2 := (hsame (n + 1) (by omega) (by rw [z2]; rfl)).trans z2
    have m3 := (hfr idc (by omega) (by simp; omega)).trans kc
    rw [Int.zero_add] at m2
    simp only [dI] at m2
    repeat (first
      | apply WP.seq
      | (apply WP.reg
         case hR => dsimp only [prepL, prepO, List.map, List.getElem?_cons_succ, List.getElem?_cons_zero]; exact Is.rfl
         case hr =>
           repeat (first
             | (apply RT.op (h := by simp [dI, dL, -addNew, kn, kc, hv, hn, m2, m3, f2]; exact Is.rfl) (he := by (try dsimp only [putEnv]) <;> exact rfl))
             | (apply RT.call (hg := by simp; exact Is.rfl) (hfo := by simp; exact Is.rfl) (hpr := by exact Is.rfl) (hvs := by simp [dI, dL, -addNew, kn, kc, hv, hn, m2, m3, f2]; exact Is.rfl) (hcl := by simp [dI, dL, -addNew, kn, kc, hv, hn, m2, m3, f2]; exact Is.rfl) (hd := by simp [dI, dL, -addNew, kn, kc, hv, hn, m2, m3, f2]; exact Is.rfl) (hwr := by simp [dI, dL, -addNew, kn, kc, hv, hn, m2, m3, f2]; exact Is.rfl) (hlt := by simp [Is]) (he := by (try dsimp only [putEnv]) <;> exact rfl) (hh := by simp; exact Is.rfl) (hw := by exact Is.rfl))
             | (apply RT.callT (hg := by simp; exact Is.rfl) (hfo := by simp; exact Is.rfl) (hpr := by exact Is.rfl) (hvs := by simp [dI, dL, -addNew, kn, kc, hv, hn, m2, m3, f2]; exact Is.rfl) (hcl := by simp [dI, dL, -addNew, kn, kc, hv, hn, m2, m3, f2]; exact Is.rfl) (hd := hT1) (hk := hT2) (he := by (try dsimp only [putEnv]) <;> exact rfl))
             | (apply RT.wr (h := by simp [dI, dL, -addNew, kn, kc, hv, hn, m2, m3, f2]; exact Is.rfl) (he := by (try dsimp only [putEnv]) <;> exact rfl) (hh := by simp [dI, dL, -addNew, kn, kc, hv, hn, m2, m3, f2]; exact Is.rfl) (hn := by exact Is.rfl) (hc := by exact Is.rfl) (hw := by exact Is.rfl)))
           exact RT.nil
         case hc => (show _ = _; kernel_rfl)
         case ht => simp [dI, dL, -addNew, kn, kc, hv, hn, m2, m3, f2]; exact Is.rfl)
      | apply WP.block
      | apply WP.skip
      | apply WP.exit
      | apply WP.ret
      | refine WP.condT rfl ?_
      | refine WP.condF rfl ?_)
    have hgt : ∀ o j, j < n → (Hp.trunc n ((hp2.sets (tWr r2 (n + 2))).set idc o)).get j = if idc = j then some o else (hp2.sets (tWr r2 (n + 2))).get j := fun o j hj => by
      rw [Hp.get_trunc _ _ _ hj, Hp.get_set]
    refine ⟨.inr rfl, _, [], rfl, rfl, rfl, (w2.sets fun p hp => ?_).set (.inl (by simp)), ⟨⟨cap, ?_, ?_⟩, ?_, d2⟩⟩
    · have := hki _ (List.mem_map.2 ⟨p, hp, rfl⟩)
      simp only [List.mem_cons, List.not_mem_nil, or_false] at this ⊢
      rcases this with h | h
      · exact .inl (.inr h)
      · exact .inr (by omega)
    · show res.2.1.length ≤ cap.getD res.2.1.length
      rw [hlen]; exact hcap
    · rw [hgt _ _ q1, if_pos rfl]
      show _ = some (Ob.mk gc false [V.d (.slice (encI im.enums)), V.d (.slice (encR im.rs)), .osl mid mg 0 res.2.1.length 1 cap, dI (IntKind.i64.wrap res.2.2)])
      rw [hlen]; rfl
    · rw [hgt _ _ q2, if_neg d2, m1]
end
end Go.Ac
end
