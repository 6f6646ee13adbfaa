/- The form of an instruction. -/
import Derived.Test.YtofhhkkncaoneaaDoorAcBM
import Derived.Test.YtofhhkkncaoneaaDoorAcDM
import Derived.Test.YtofhhkkncaoneaaDoorAcGM
import Derived.Test.YtofhhkkncaoneaaDoorAcJM
import Derived.Test.YtofhhkkncaoneaaDoorAcMM
import Derived.Test.YtofhhkkncaoneaaDoorAcOM
import Derived.Test.YtofhhkkncaoneaaDoorAcSM
import Derived.Test.YtofhhkkncaoneaaDoorAcXM
import Derived.Test.YtofhhkkncaoneaaDoorAcUcM
import Derived.Test.YtofhhkkncaoneaaDoorCpBM
import Derived.Test.YtofhhkkncaoneaaDoorCpDM
import Derived.Test.YtofhhkkncaoneaaDoorCpIM
import Derived.Test.YtofhhkkncaoneaaDoorCpK
import Derived.Calls
import Derived.Orders
import Derived.Laws.World
import Derived.Laws.Sem
import Derived.Laws.Cells
import Derived.Laws.Append
import GoSem.ClaimData
import Derived.Laws.Tables
import Derived.Laws.Slices
import Derived.Laws.Strings
import Derived.Laws.Small
import Derived.Test.YtofhhkkncaoneaaDoorChecked
import Derived.KernelRfl
import Derived.Lib.RuneCount
set_option linter.unusedVariables false
set_option linter.unusedSimpArgs false
set_option maxRecDepth 4000
set_option linter.unusedSimpArgs false
set_option linter.unusedVariables false
namespace Go.Ac
open Go.Proofs

theorem wl1 : IntKind.i64.wrap 1 = 1 := by rfl
theorem wl2 : IntKind.i64.wrap 2 = 2 := by rfl
theorem wl3 : IntKind.i64.wrap 3 = 3 := by rfl
theorem wl4 : IntKind.i64.wrap 4 = 4 := by rfl
def zeroR : Rt := ⟨[], [], [], 0, [], []⟩
def calledR (rs : List Rt) (k : Int) : Rt := if 0 ≤ k ∧ k < rs.length then rs.getD k.toNat zeroR else zeroR
theorem called_den (im : Im) (k : Int) : den Tryd.prog Cp.cfg 65 [aM im, dI k] = some (aR (calledR im.rs k)) := by
  refine den_wp Tryd.func65 rfl (by kernel_rfl) rfl (by simp [aR, Rt.cells]; rfl) ?_
  by_cases h0 : k < 0
  · have e : calledR im.rs k = zeroR := by unfold calledR; rw [if_neg (by omega)]
    rw [e]
    have h0' : (k < 0) = True := by simp [h0]
    repeat (first
      | apply WP.seq
      | (apply WP.reg
         case hR => dsimp only [prepL, prepO, List.map, List.getElem?_cons_succ, List.getElem?_cons_zero]; exact Is.rfl
         case hr =>
           repeat (first
             | (apply RT.op (h := by simp [dI, aM, Im.cells, h0']; exact Is.rfl) (he := by (try dsimp only [putEnv]) <;> exact rfl))
             | (apply RT.call (hg := by simp; exact Is.rfl) (hfo := by simp; exact Is.rfl) (hpr := by exact Is.rfl) (hvs := by simp [dI, aM, Im.cells, h0']; exact Is.rfl) (hcl := by simp [dI, aM, Im.cells, h0']; exact Is.rfl) (hd := by simp [dI, aM, Im.cells, h0']; exact Is.rfl) (hwr := by simp [dI, aM, Im.cells, h0']; exact Is.rfl) (hlt := by simp [Is]) (he := by (try dsimp only [putEnv]) <;> exact rfl) (hh := by simp; exact Is.rfl) (hw := by simp; exact Is.rfl))
             | (apply RT.wr (h := by simp [dI, aM, Im.cells, h0']; exact Is.rfl) (he := by (try dsimp only [putEnv]) <;> exact rfl) (hh := by simp [dI, aM, Im.cells, h0']; exact Is.rfl) (hn := by exact Is.rfl) (hc := by exact Is.rfl) (hw := by simp; exact Is.rfl)))
           exact RT.nil
         case hc => (show _ = _; kernel_rfl)
         case ht => simp [dI, aM, Im.cells, h0']; exact Is.rfl)
      | apply WP.block
      | apply WP.skip
      | apply WP.exit
      | apply WP.ret
      | refine WP.condT rfl ?_
      | refine WP.condF rfl ?_)
    show retQ _ _ _ _ _
    exact ⟨.inr rfl, _, _, rfl, rfl⟩
  · by_cases h1 : k ≥ im.rs.length
    · have e : calledR im.rs k = zeroR := by unfold calledR; rw [if_neg (by omega)]
      rw [e]
      have h0' : (k < 0) = False := by simp [h0]
      have h1' : ((im.rs.length : Int) ≤ k) = True := by simp; omega
      repeat (first
        | apply WP.seq
        | (apply WP.reg
           case hR => dsimp only [prepL, prepO, List.map, List.getElem?_cons_succ, List.getElem?_cons_zero]; exact Is.rfl
           case hr =>
             repeat (first
               | (apply RT.op (h := by simp [dI, aM, Im.cells, h0', h1']; exact Is.rfl) (he := by (try dsimp only [putEnv]) <;> exact rfl))
               | (apply RT.call (hg := by simp; exact Is.rfl) (hfo := by simp; exact Is.rfl) (hpr := by exact Is.rfl) (hvs := by simp [dI, aM, Im.cells, h0', h1']; exact Is.rfl) (hcl := by simp [dI, aM, Im.cells, h0', h1']; exact Is.rfl) (hd := by simp [dI, aM, Im.cells, h0', h1']; exact Is.rfl) (hwr := by simp [dI, aM, Im.cells, h0', h1']; exact Is.rfl) (hlt := by simp [Is]) (he := by (try dsimp only [putEnv]) <;> exact rfl) (hh := by simp; exact Is.rfl) (hw := by simp; exact Is.rfl))
               | (apply RT.wr (h := by simp [dI, aM, Im.cells, h0', h1']; exact Is.rfl) (he := by (try dsimp only [putEnv]) <;> exact rfl) (hh := by simp [dI, aM, Im.cells, h0', h1']; exact Is.rfl) (hn := by exact Is.rfl) (hc := by exact Is.rfl) (hw := by simp; exact Is.rfl)))
             exact RT.nil
           case hc => (show _ = _; kernel_rfl)
           case ht => simp [dI, aM, Im.cells, h0', h1']; exact Is.rfl)
        | apply WP.block
        | apply WP.skip
        | apply WP.exit
        | apply WP.ret
        | refine WP.condT rfl ?_
        | refine WP.condF rfl ?_)
      show retQ _ _ _ _ _
      exact ⟨.inr rfl, _, _, rfl, rfl⟩
    · obtain ⟨j, rfl⟩ : ∃ j : Nat, k = j := ⟨k.toNat, by omega⟩
      obtain ⟨r, hr, hm, hix⟩ := at_lt (l := im.rs) (i := j) (by omega)
      have hr' := encR_at hr
      have e : calledR im.rs j = r := by unfold calledR; rw [if_pos (by omega)]; simp [List.getD, hr]
      rw [e]
      have h0' : ((j : Int) < 0) = False := by simp
      have h1' : ((im.rs.length : Int) ≤ j) = False := by simp; omega
      have h1'' : (im.rs.length ≤ j) = False := by simp; omega
      repeat (first
        | apply WP.seq
        | (apply WP.reg
           case hR => dsimp only [prepL, prepO, List.map, List.getElem?_cons_succ, List.getElem?_cons_zero]; exact Is.rfl
           case hr =>
             repeat (first
               | (apply RT.op (h := by simp [dI, aM, Im.cells, h0', h1', h1'', hix, hr', Rt.cells]; exact Is.rfl) (he := by (try dsimp only [putEnv]) <;> exact rfl))
               | (apply RT.call (hg := by simp; exact Is.rfl) (hfo := by simp; exact Is.rfl) (hpr := by exact Is.rfl) (hvs := by simp [dI, aM, Im.cells, h0', h1', h1'', hix, hr', Rt.cells]; exact Is.rfl) (hcl := by simp [dI, aM, Im.cells, h0', h1', h1'', hix, hr', Rt.cells]; exact Is.rfl) (hd := by simp [dI, aM, Im.cells, h0', h1', h1'', hix, hr', Rt.cells]; exact Is.rfl) (hwr := by simp [dI, aM, Im.cells, h0', h1', h1'', hix, hr', Rt.cells]; exact Is.rfl) (hlt := by simp [Is]) (he := by (try dsimp only [putEnv]) <;> exact rfl) (hh := by simp; exact Is.rfl) (hw := by simp; exact Is.rfl))
               | (apply RT.wr (h := by simp [dI, aM, Im.cells, h0', h1', h1'', hix, hr', Rt.cells]; exact Is.rfl) (he := by (try dsimp only [putEnv]) <;> exact rfl) (hh := by simp [dI, aM, Im.cells, h0', h1', h1'', hix, hr', Rt.cells]; exact Is.rfl) (hn := by exact Is.rfl) (hc := by exact Is.rfl) (hw := by simp; exact Is.rfl)))
             exact RT.nil
           case hc => (show _ = _; kernel_rfl)
           case ht => simp [dI, aM, Im.cells, h0', h1', h1'', hix, hr', Rt.cells]; exact Is.rfl)
        | apply WP.block
        | apply WP.skip
        | apply WP.exit
        | apply WP.ret
        | refine WP.condT rfl ?_
        | refine WP.condF rfl ?_)
      show retQ _ _ _ _ _
      exact ⟨.inr rfl, _, _, rfl, rfl⟩
def fK (cnt at_ lenC : Int) (k x : Int) : Bool := if k = 0 then decide (x = 0) else if k = 5 then decide (opn x = cnt) else if k = 4 then decide (x > at_) && decide (x ≤ lenC) else true
def acc4 (f : Int → Int → Bool) (k0 k1 k2 k3 a b c d : Int) : Nat → Bool
  | 0 => true | 1 => f k0 a | 2 => f k0 a && f k1 b | 3 => f k0 a && f k1 b && f k2 c | _ => f k0 a && f k1 b && f k2 c && f k3 d
def kO (op : Int) (j : Nat) : Int := (ksO op).getD j 0
def formB (at_ lenC : Int) (i : I) : Bool := acc4 (fK (cnO i.op) at_ lenC) (kO i.op 0) (kO i.op 1) (kO i.op 2) (kO i.op 3) i.a i.b i.c i.d 4
theorem rowO_eq {op : Int} (h : IsO op) : rowO op = .agg [.d (.str (nmO op)), dI (kO op 0), dI (kO op 1), dI (kO op 2), dI (kO op 3), dI (cnO op)] := by
  rcases h with rfl | rfl | rfl | rfl | rfl | rfl | rfl | rfl | rfl | rfl <;> rfl
end Go.Ac
