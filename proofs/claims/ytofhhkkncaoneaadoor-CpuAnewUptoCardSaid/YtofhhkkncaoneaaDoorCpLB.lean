/- The form of an instruction. -/
import Derived.Test.YtofhhkkncaoneaaDoorCpL
import Derived.Test.YtofhhkkncaoneaaDoorAcBM
import Derived.Test.YtofhhkkncaoneaaDoorAcDM
import Derived.Test.YtofhhkkncaoneaaDoorAcGM
import Derived.Test.YtofhhkkncaoneaaDoorAcJM
import Derived.Test.YtofhhkkncaoneaaDoorAcMM
import Derived.Test.YtofhhkkncaoneaaDoorAcOM
import Derived.Test.YtofhhkkncaoneaaDoorAcSM
import Derived.Test.YtofhhkkncaoneaaDoorAcXM
import Derived.Test.YtofhhkkncaoneaaDoorAcUcM
import Derived.Test.YtofhhkkncaoneaaDoorCpBM
import Derived.Test.YtofhhkkncaoneaaDoorCpDM
import Derived.Test.YtofhhkkncaoneaaDoorCpIM
import Derived.Test.YtofhhkkncaoneaaDoorCpK
import Derived.Calls
import Derived.Orders
import Derived.Laws.World
import Derived.Laws.Sem
import Derived.Laws.Cells
import Derived.Laws.Append
import GoSem.ClaimData
import Derived.Laws.Tables
import Derived.Laws.Slices
import Derived.Laws.Strings
import Derived.Laws.Small
import Derived.Test.YtofhhkkncaoneaaDoorChecked
import Derived.KernelRfl
import Derived.Lib.RuneCount
set_option linter.unusedVariables false
set_option linter.unusedSimpArgs false
set_option maxRecDepth 4000
set_option linter.unusedSimpArgs false
set_option linter.unusedVariables false
namespace Go.Ac
open Go.Proofs

set_option maxHeartbeats 8000000 in
theorem form_den (r : Rt) (at_ : Int) (i : I) (h : IsO i.op) : den Tryd.prog Cp.cfg 49 [aR r, dI at_, aI i] = some (dB (formB at_ r.code.length i)) := by
  have hk := known_den h
  have hf := fields_den i
  have ho := opn_den
  rw [rowO_eq h] at hk
  simp only [dI, dB, aI, I.cells, List.map_cons, List.map_nil] at hk hf ho
  unfold formB
  obtain ⟨op, a, b, c, d⟩ := i
  simp only at h hk hf ⊢
  generalize kO op 0 = k0 at *
  generalize kO op 1 = k1 at *
  generalize kO op 2 = k2 at *
  generalize kO op 3 = k3 at *
  generalize cnO op = cnt at *
  refine den_wp Tryd.func49 rfl (by kernel_rfl) rfl rfl ?_
  repeat (first
    | apply WP.seq
    | (apply WP.reg
       case hR => dsimp only [prepL, prepO, List.map, List.getElem?_cons_succ, List.getElem?_cons_zero]; exact Is.rfl
       case hr =>
         repeat (first
           | (apply RT.op (h := by simp [dI, aR, aI, I.cells, Rt.cells, hk, hf]; exact Is.rfl) (he := by (try dsimp only [putEnv]) <;> exact rfl))
           | (apply RT.call (hg := by simp; exact Is.rfl) (hfo := by simp; exact Is.rfl) (hpr := by exact Is.rfl) (hvs := by simp [dI, aR, aI, I.cells, Rt.cells, hk, hf]; exact Is.rfl) (hcl := by simp [dI, aR, aI, I.cells, Rt.cells, hk, hf]; exact Is.rfl) (hd := by simp [dI, aR, aI, I.cells, Rt.cells, hk, hf]; exact Is.rfl) (hwr := by simp [dI, aR, aI, I.cells, Rt.cells, hk, hf]; exact Is.rfl) (hlt := by simp [Is]) (he := by (try dsimp only [putEnv]) <;> exact rfl) (hh := by simp; exact Is.rfl) (hw := by simp; exact Is.rfl))
           | (apply RT.wr (h := by simp [dI, aR, aI, I.cells, Rt.cells, hk, hf]; exact Is.rfl) (he := by (try dsimp only [putEnv]) <;> exact rfl) (hh := by simp [dI, aR, aI, I.cells, Rt.cells, hk, hf]; exact Is.rfl) (hn := by exact Is.rfl) (hc := by exact Is.rfl) (hw := by simp; exact Is.rfl)))
         exact RT.nil
       case hc => (show _ = _; kernel_rfl)
       case ht => simp [dI, aR, aI, I.cells, Rt.cells, hk, hf]; exact Is.rfl)
    | apply WP.block
    | apply WP.skip
    | apply WP.exit
    | apply WP.ret
    | refine WP.condT rfl ?_
    | refine WP.condF rfl ?_)
  apply WP.loop' (I := fun D s => ∃ i : Nat, i + D = 4 ∧ SE [(1, dI at_), (3, .ptr 0 0 0), (7, .ptr 2 2 0), (8, dB (acc4 (fK cnt at_ r.code.length) k0 k1 k2 k3 a b c d i)), (20, .agg [dI a, dI b, dI c, dI d]), (21, dI i)] [(0, ⟨0, false, r.cells.map .d⟩), (1, ⟨1, false, [dI op, dI a, dI b, dI c, dI d]⟩), (2, ⟨2, false, [.d (.str (nmO op)), dI k0, dI k1, dI k2, dI k3, dI cnt]⟩)] 3 s) (d := 4)
  · exact ⟨0, by simp, SE.mk (by simp [dI, dB, acc4]) (by simp [dI, Rt.cells])⟩
  rintro D _ ⟨i, hi, cc, rfl⟩
  have hi' : i = 0 ∨ i = 1 ∨ i = 2 ∨ i = 3 ∨ i = 4 := by omega
  rcases hi' with rfl | rfl | rfl | rfl | rfl

  · have hs : acc4 (fK cnt at_ r.code.length) k0 k1 k2 k3 a b c d 1 = (acc4 (fK cnt at_ r.code.length) k0 k1 k2 k3 a b c d 0 && fK cnt at_ r.code.length k0 a) := by simp [acc4]
    generalize acc4 (fK cnt at_ r.code.length) k0 k1 k2 k3 a b c d 0 = ok at hs ⊢
    have fin : ∀ b' : Bool, b' = (ok && fK cnt at_ r.code.length k0 a) → b' = acc4 (fK cnt at_ r.code.length) k0 k1 k2 k3 a b c d 1 := fun b' hb' => by rw [hs]; exact hb'
    by_cases q0 : k0 = 0
    · subst q0
      cases ok
      all_goals
        repeat (first
          | apply WP.seq
          | (apply WP.reg
             case hR => dsimp only [prepL, prepO, List.map, List.getElem?_cons_succ, List.getElem?_cons_zero]; exact Is.rfl
             case hr =>
               repeat (first
                 | (apply RT.op (h := by simp [dI, dB, Rt.cells]; exact Is.rfl) (he := by (try dsimp only [putEnv]) <;> exact rfl))
                 | (apply RT.call (hg := by simp; exact Is.rfl) (hfo := by simp; exact Is.rfl) (hpr := by exact Is.rfl) (hvs := by simp [dI, dB, Rt.cells]; exact Is.rfl) (hcl := by simp [dI, dB, Rt.cells]; exact Is.rfl) (hd := by simp [dI, dB, Rt.cells]; exact Is.rfl) (hwr := by simp [dI, dB, Rt.cells]; exact Is.rfl) (hlt := by simp [Is]) (he := by (try dsimp only [putEnv]) <;> exact rfl) (hh := by simp; exact Is.rfl) (hw := by simp; exact Is.rfl))
                 | (apply RT.wr (h := by simp [dI, dB, Rt.cells]; exact Is.rfl) (he := by (try dsimp only [putEnv]) <;> exact rfl) (hh := by simp [dI, dB, Rt.cells]; exact Is.rfl) (hn := by exact Is.rfl) (hc := by exact Is.rfl) (hw := by simp; exact Is.rfl)))
               exact RT.nil
             case hc => (show _ = _; kernel_rfl)
             case ht => simp [dI, dB, Rt.cells]; exact Is.rfl)
          | apply WP.block
          | apply WP.skip
          | apply WP.exit
          | apply WP.ret
          | refine WP.condT rfl ?_
          | refine WP.condF rfl ?_)
        refine loop_next (by simp; exact Is.rfl) ?_
        exact ⟨3, by omega, 1, by omega, SE.mk (by simp [dI, dB, hs, wl1, wl2, wl3, wl4, fK, int_beq]) (by simp [dI, Rt.cells])⟩
    by_cases q5 : k0 = 5
    · subst q5
      cases ok
      all_goals
        repeat (first
          | apply WP.seq
          | (apply WP.reg
             case hR => dsimp only [prepL, prepO, List.map, List.getElem?_cons_succ, List.getElem?_cons_zero]; exact Is.rfl
             case hr =>
               repeat (first
                 | (apply RT.op (h := by simp [dI, dB, Rt.cells, ho]; exact Is.rfl) (he := by (try dsimp only [putEnv]) <;> exact rfl))
                 | (apply RT.call (hg := by simp; exact Is.rfl) (hfo := by simp; exact Is.rfl) (hpr := by exact Is.rfl) (hvs := by simp [dI, dB, Rt.cells, ho]; exact Is.rfl) (hcl := by simp [dI, dB, Rt.cells, ho]; exact Is.rfl) (hd := by simp [dI, dB, Rt.cells, ho]; exact Is.rfl) (hwr := by simp [dI, dB, Rt.cells, ho]; exact Is.rfl) (hlt := by simp [Is]) (he := by (try dsimp only [putEnv]) <;> exact rfl) (hh := by simp; exact Is.rfl) (hw := by simp; exact Is.rfl))
                 | (apply RT.wr (h := by simp [dI, dB, Rt.cells, ho]; exact Is.rfl) (he := by (try dsimp only [putEnv]) <;> exact rfl) (hh := by simp [dI, dB, Rt.cells, ho]; exact Is.rfl) (hn := by exact Is.rfl) (hc := by exact Is.rfl) (hw := by simp; exact Is.rfl)))
               exact RT.nil
             case hc => (show _ = _; kernel_rfl)
             case ht => simp [dI, dB, Rt.cells, ho]; exact Is.rfl)
          | apply WP.block
          | apply WP.skip
          | apply WP.exit
          | apply WP.ret
          | refine WP.condT rfl ?_
          | refine WP.condF rfl ?_)
        refine loop_next (by simp; exact Is.rfl) ?_
        exact ⟨3, by omega, 1, by omega, SE.mk (by simp [dI, dB, hs, wl1, wl2, wl3, wl4, fK, int_beq]) (by simp [dI, Rt.cells])⟩
    by_cases q4 : k0 = 4
    · subst q4
      by_cases g1 : at_ < a
      · have g1' : (a > at_) = True := by simp [g1]
        cases ok
        all_goals
          repeat (first
            | apply WP.seq
            | (apply WP.reg
               case hR => dsimp only [prepL, prepO, List.map, List.getElem?_cons_succ, List.getElem?_cons_zero]; exact Is.rfl
               case hr =>
                 repeat (first
                   | (apply RT.op (h := by simp [dI, dB, Rt.cells, g1, g1']; exact Is.rfl) (he := by (try dsimp only [putEnv]) <;> exact rfl))
                   | (apply RT.call (hg := by simp; exact Is.rfl) (hfo := by simp; exact Is.rfl) (hpr := by exact Is.rfl) (hvs := by simp [dI, dB, Rt.cells, g1, g1']; exact Is.rfl) (hcl := by simp [dI, dB, Rt.cells, g1, g1']; exact Is.rfl) (hd := by simp [dI, dB, Rt.cells, g1, g1']; exact Is.rfl) (hwr := by simp [dI, dB, Rt.cells, g1, g1']; exact Is.rfl) (hlt := by simp [Is]) (he := by (try dsimp only [putEnv]) <;> exact rfl) (hh := by simp; exact Is.rfl) (hw := by simp; exact Is.rfl))
                   | (apply RT.wr (h := by simp [dI, dB, Rt.cells, g1, g1']; exact Is.rfl) (he := by (try dsimp only [putEnv]) <;> exact rfl) (hh := by simp [dI, dB, Rt.cells, g1, g1']; exact Is.rfl) (hn := by exact Is.rfl) (hc := by exact Is.rfl) (hw := by simp; exact Is.rfl)))
                 exact RT.nil
               case hc => (show _ = _; kernel_rfl)
               case ht => simp [dI, dB, Rt.cells, g1, g1']; exact Is.rfl)
            | apply WP.block
            | apply WP.skip
            | apply WP.exit
            | apply WP.ret
            | refine WP.condT rfl ?_
            | refine WP.condF rfl ?_)
          refine loop_next (by simp; exact Is.rfl) ?_
          exact ⟨3, by omega, 1, by omega, SE.mk (by simp [dI, dB, hs, wl1, wl2, wl3, wl4, fK, int_beq, g1]) (by simp [dI, Rt.cells])⟩
      · have g1' : (a > at_) = False := by simp; omega
        cases ok
        all_goals
          repeat (first
            | apply WP.seq
            | (apply WP.reg
               case hR => dsimp only [prepL, prepO, List.map, List.getElem?_cons_succ, List.getElem?_cons_zero]; exact Is.rfl
               case hr =>
                 repeat (first
                   | (apply RT.op (h := by simp [dI, dB, Rt.cells, g1, g1']; exact Is.rfl) (he := by (try dsimp only [putEnv]) <;> exact rfl))
                   | (apply RT.call (hg := by simp; exact Is.rfl) (hfo := by simp; exact Is.rfl) (hpr := by exact Is.rfl) (hvs := by simp [dI, dB, Rt.cells, g1, g1']; exact Is.rfl) (hcl := by simp [dI, dB, Rt.cells, g1, g1']; exact Is.rfl) (hd := by simp [dI, dB, Rt.cells, g1, g1']; exact Is.rfl) (hwr := by simp [dI, dB, Rt.cells, g1, g1']; exact Is.rfl) (hlt := by simp [Is]) (he := by (try dsimp only [putEnv]) <;> exact rfl) (hh := by simp; exact Is.rfl) (hw := by simp; exact Is.rfl))
                   | (apply RT.wr (h := by simp [dI, dB, Rt.cells, g1, g1']; exact Is.rfl) (he := by (try dsimp only [putEnv]) <;> exact rfl) (hh := by simp [dI, dB, Rt.cells, g1, g1']; exact Is.rfl) (hn := by exact Is.rfl) (hc := by exact Is.rfl) (hw := by simp; exact Is.rfl)))
                 exact RT.nil
               case hc => (show _ = _; kernel_rfl)
               case ht => simp [dI, dB, Rt.cells, g1, g1']; exact Is.rfl)
            | apply WP.block
            | apply WP.skip
            | apply WP.exit
            | apply WP.ret
            | refine WP.condT rfl ?_
            | refine WP.condF rfl ?_)
          refine loop_next (by simp; exact Is.rfl) ?_
          exact ⟨3, by omega, 1, by omega, SE.mk (by simp [dI, dB, hs, wl1, wl2, wl3, wl4, fK, int_beq, g1]) (by simp [dI, Rt.cells])⟩
    · repeat (first
        | apply WP.seq
        | (apply WP.reg
           case hR => dsimp only [prepL, prepO, List.map, List.getElem?_cons_succ, List.getElem?_cons_zero]; exact Is.rfl
           case hr =>
             repeat (first
               | (apply RT.op (h := by simp [dI, dB, Rt.cells, q0, q4, q5, int_beq]; exact Is.rfl) (he := by (try dsimp only [putEnv]) <;> exact rfl))
               | (apply RT.call (hg := by simp; exact Is.rfl) (hfo := by simp; exact Is.rfl) (hpr := by exact Is.rfl) (hvs := by simp [dI, dB, Rt.cells, q0, q4, q5, int_beq]; exact Is.rfl) (hcl := by simp [dI, dB, Rt.cells, q0, q4, q5, int_beq]; exact Is.rfl) (hd := by simp [dI, dB, Rt.cells, q0, q4, q5, int_beq]; exact Is.rfl) (hwr := by simp [dI, dB, Rt.cells, q0, q4, q5, int_beq]; exact Is.rfl) (hlt := by simp [Is]) (he := by (try dsimp only [putEnv]) <;> exact rfl) (hh := by simp; exact Is.rfl) (hw := by simp; exact Is.rfl))
               | (apply RT.wr (h := by simp [dI, dB, Rt.cells, q0, q4, q5, int_beq]; exact Is.rfl) (he := by (try dsimp only [putEnv]) <;> exact rfl) (hh := by simp [dI, dB, Rt.cells, q0, q4, q5, int_beq]; exact Is.rfl) (hn := by exact Is.rfl) (hc := by exact Is.rfl) (hw := by simp; exact Is.rfl)))
             exact RT.nil
           case hc => (show _ = _; kernel_rfl)
           case ht => simp [dI, dB, Rt.cells, q0, q4, q5, int_beq]; exact Is.rfl)
        | apply WP.block
        | apply WP.skip
        | apply WP.exit
        | apply WP.ret
        | refine WP.condT rfl ?_
        | refine WP.condF rfl ?_)
      refine loop_next (by simp; exact Is.rfl) ?_
      exact ⟨3, by omega, 1, by omega, SE.mk (by simp [dI, dB, hs, wl1, wl2, wl3, wl4, fK, q0, q4, q5]) (by simp [dI, Rt.cells])⟩
  · have hs : acc4 (fK cnt at_ r.code.length) k0 k1 k2 k3 a b c d 2 = (acc4 (fK cnt at_ r.code.length) k0 k1 k2 k3 a b c d 1 && fK cnt at_ r.code.length k1 b) := by simp [acc4]
    generalize acc4 (fK cnt at_ r.code.length) k0 k1 k2 k3 a b c d 1 = ok at hs ⊢
    have fin : ∀ b' : Bool, b' = (ok && fK cnt at_ r.code.length k1 b) → b' = acc4 (fK cnt at_ r.code.length) k0 k1 k2 k3 a b c d 2 := fun b' hb' => by rw [hs]; exact hb'
    by_cases q0 : k1 = 0
    · subst q0
      cases ok
      all_goals
        repeat (first
          | apply WP.seq
          | (apply WP.reg
             case hR => dsimp only [prepL, prepO, List.map, List.getElem?_cons_succ, List.getElem?_cons_zero]; exact Is.rfl
             case hr =>
               repeat (first
                 | (apply RT.op (h := by simp [dI, dB, Rt.cells]; exact Is.rfl) (he := by (try dsimp only [putEnv]) <;> exact rfl))
                 | (apply RT.call (hg := by simp; exact Is.rfl) (hfo := by simp; exact Is.rfl) (hpr := by exact Is.rfl) (hvs := by simp [dI, dB, Rt.cells]; exact Is.rfl) (hcl := by simp [dI, dB, Rt.cells]; exact Is.rfl) (hd := by simp [dI, dB, Rt.cells]; exact Is.rfl) (hwr := by simp [dI, dB, Rt.cells]; exact Is.rfl) (hlt := by simp [Is]) (he := by (try dsimp only [putEnv]) <;> exact rfl) (hh := by simp; exact Is.rfl) (hw := by simp; exact Is.rfl))
                 | (apply RT.wr (h := by simp [dI, dB, Rt.cells]; exact Is.rfl) (he := by (try dsimp only [putEnv]) <;> exact rfl) (hh := by simp [dI, dB, Rt.cells]; exact Is.rfl) (hn := by exact Is.rfl) (hc := by exact Is.rfl) (hw := by simp; exact Is.rfl)))
               exact RT.nil
             case hc => (show _ = _; kernel_rfl)
             case ht => simp [dI, dB, Rt.cells]; exact Is.rfl)
          | apply WP.block
          | apply WP.skip
          | apply WP.exit
          | apply WP.ret
          | refine WP.condT rfl ?_
          | refine WP.condF rfl ?_)
        refine loop_next (by simp; exact Is.rfl) ?_
        exact ⟨2, by omega, 2, by omega, SE.mk (by simp [dI, dB, hs, wl1, wl2, wl3, wl4, fK, int_beq]) (by simp [dI, Rt.cells])⟩
    by_cases q5 : k1 = 5
    · subst q5
      cases ok
      all_goals
        repeat (first
          | apply WP.seq
          | (apply WP.reg
             case hR => dsimp only [prepL, prepO, List.map, List.getElem?_cons_succ, List.getElem?_cons_zero]; exact Is.rfl
             case hr =>
               repeat (first
                 | (apply RT.op (h := by simp [dI, dB, Rt.cells, ho]; exact Is.rfl) (he := by (try dsimp only [putEnv]) <;> exact rfl))
                 | (apply RT.call (hg := by simp; exact Is.rfl) (hfo := by simp; exact Is.rfl) (hpr := by exact Is.rfl) (hvs := by simp [dI, dB, Rt.cells, ho]; exact Is.rfl) (hcl := by simp [dI, dB, Rt.cells, ho]; exact Is.rfl) (hd := by simp [dI, dB, Rt.cells, ho]; exact Is.rfl) (hwr := by simp [dI, dB, Rt.cells, ho]; exact Is.rfl) (hlt := by simp [Is]) (he := by (try dsimp only [putEnv]) <;> exact rfl) (hh := by simp; exact Is.rfl) (hw := by simp; exact Is.rfl))
                 | (apply RT.wr (h := by simp [dI, dB, Rt.cells, ho]; exact Is.rfl) (he := by (try dsimp only [putEnv]) <;> exact rfl) (hh := by simp [dI, dB, Rt.cells, ho]; exact Is.rfl) (hn := by exact Is.rfl) (hc := by exact Is.rfl) (hw := by simp; exact Is.rfl)))
               exact RT.nil
             case hc => (show _ = _; kernel_rfl)
             case ht => simp [dI, dB, Rt.cells, ho]; exact Is.rfl)
          | apply WP.block
          | apply WP.skip
          | apply WP.exit
          | apply WP.ret
          | refine WP.condT rfl ?_
          | refine WP.condF rfl ?_)
        refine loop_next (by simp; exact Is.rfl) ?_
        exact ⟨2, by omega, 2, by omega, SE.mk (by simp [dI, dB, hs, wl1, wl2, wl3, wl4, fK, int_beq]) (by simp [dI, Rt.cells])⟩
    by_cases q4 : k1 = 4
    · subst q4
      by_cases g1 : at_ < b
      · have g1' : (b > at_) = True := by simp [g1]
        cases ok
        all_goals
          repeat (first
            | apply WP.seq
            | (apply WP.reg
               case hR => dsimp only [prepL, prepO, List.map, List.getElem?_cons_succ, List.getElem?_cons_zero]; exact Is.rfl
               case hr =>
                 repeat (first
                   | (apply RT.op (h := by simp [dI, dB, Rt.cells, g1, g1']; exact Is.rfl) (he := by (try dsimp only [putEnv]) <;> exact rfl))
                   | (apply RT.call (hg := by simp; exact Is.rfl) (hfo := by simp; exact Is.rfl) (hpr := by exact Is.rfl) (hvs := by simp [dI, dB, Rt.cells, g1, g1']; exact Is.rfl) (hcl := by simp [dI, dB, Rt.cells, g1, g1']; exact Is.rfl) (hd := by simp [dI, dB, Rt.cells, g1, g1']; exact Is.rfl) (hwr := by simp [dI, dB, Rt.cells, g1, g1']; exact Is.rfl) (hlt := by simp [Is]) (he := by (try dsimp only [putEnv]) <;> exact rfl) (hh := by simp; exact Is.rfl) (hw := by simp; exact Is.rfl))
                   | (apply RT.wr (h := by simp [dI, dB, Rt.cells, g1, g1']; exact Is.rfl) (he := by (try dsimp only [putEnv]) <;> exact rfl) (hh := by simp [dI, dB, Rt.cells, g1, g1']; exact Is.rfl) (hn := by exact Is.rfl) (hc := by exact Is.rfl) (hw := by simp; exact Is.rfl)))
                 exact RT.nil
               case hc => (show _ = _; kernel_rfl)
               case ht => simp [dI, dB, Rt.cells, g1, g1']; exact Is.rfl)
            | apply WP.block
            | apply WP.skip
            | apply WP.exit
            | apply WP.ret
            | refine WP.condT rfl ?_
            | refine WP.condF rfl ?_)
          refine loop_next (by simp; exact Is.rfl) ?_
          exact ⟨2, by omega, 2, by omega, SE.mk (by simp [dI, dB, hs, wl1, wl2, wl3, wl4, fK, int_beq, g1]) (by simp [dI, Rt.cells])⟩
      · have g1' : (b > at_) = False := by simp; omega
        cases ok
        all_goals
          repeat (first
            | apply WP.seq
            | (apply WP.reg
               case hR => dsimp only [prepL, prepO, List.map, List.getElem?_cons_succ, List.getElem?_cons_zero]; exact Is.rfl
               case hr =>
                 repeat (first
                   | (apply RT.op (h := by simp [dI, dB, Rt.cells, g1, g1']; exact Is.rfl) (he := by (try dsimp only [putEnv]) <;> exact rfl))
                   | (apply RT.call (hg := by simp; exact Is.rfl) (hfo := by simp; exact Is.rfl) (hpr := by exact Is.rfl) (hvs := by simp [dI, dB, Rt.cells, g1, g1']; exact Is.rfl) (hcl := by simp [dI, dB, Rt.cells, g1, g1']; exact Is.rfl) (hd := by simp [dI, dB, Rt.cells, g1, g1']; exact Is.rfl) (hwr := by simp [dI, dB, Rt.cells, g1, g1']; exact Is.rfl) (hlt := by simp [Is]) (he := by (try dsimp only [putEnv]) <;> exact rfl) (hh := by simp; exact Is.rfl) (hw := by simp; exact Is.rfl))
                   | (apply RT.wr (h := by simp [dI, dB, Rt.cells, g1, g1']; exact Is.rfl) (he := by (try dsimp only [putEnv]) <;> exact rfl) (hh := by simp [dI, dB, Rt.cells, g1, g1']; exact Is.rfl) (hn := by exact Is.rfl) (hc := by exact Is.rfl) (hw := by simp; exact Is.rfl)))
                 exact RT.nil
               case hc => (show _ = _; kernel_rfl)
               case ht => simp [dI, dB, Rt.cells, g1, g1']; exact Is.rfl)
            | apply WP.block
            | apply WP.skip
            | apply WP.exit
            | apply WP.ret
            | refine WP.condT rfl ?_
            | refine WP.condF rfl ?_)
          refine loop_next (by simp; exact Is.rfl) ?_
          exact ⟨2, by omega, 2, by omega, SE.mk (by simp [dI, dB, hs, wl1, wl2, wl3, wl4, fK, int_beq, g1]) (by simp [dI, Rt.cells])⟩
    · repeat (first
        | apply WP.seq
        | (apply WP.reg
           case hR => dsimp only [prepL, prepO, List.map, List.getElem?_cons_succ, List.getElem?_cons_zero]; exact Is.rfl
           case hr =>
             repeat (first
               | (apply RT.op (h := by simp [dI, dB, Rt.cells, q0, q4, q5, int_beq]; exact Is.rfl) (he := by (try dsimp only [putEnv]) <;> exact rfl))
               | (apply RT.call (hg := by simp; exact Is.rfl) (hfo := by simp; exact Is.rfl) (hpr := by exact Is.rfl) (hvs := by simp [dI, dB, Rt.cells, q0, q4, q5, int_beq]; exact Is.rfl) (hcl := by simp [dI, dB, Rt.cells, q0, q4, q5, int_beq]; exact Is.rfl) (hd := by simp [dI, dB, Rt.cells, q0, q4, q5, int_beq]; exact Is.rfl) (hwr := by simp [dI, dB, Rt.cells, q0, q4, q5, int_beq]; exact Is.rfl) (hlt := by simp [Is]) (he := by (try dsimp only [putEnv]) <;> exact rfl) (hh := by simp; exact Is.rfl) (hw := by simp; exact Is.rfl))
               | (apply RT.wr (h := by simp [dI, dB, Rt.cells, q0, q4, q5, int_beq]; exact Is.rfl) (he := by (try dsimp only [putEnv]) <;> exact rfl) (hh := by simp [dI, dB, Rt.cells, q0, q4, q5, int_beq]; exact Is.rfl) (hn := by exact Is.rfl) (hc := by exact Is.rfl) (hw := by simp; exact Is.rfl)))
             exact RT.nil
           case hc => (show _ = _; kernel_rfl)
           case ht => simp [dI, dB, Rt.cells, q0, q4, q5, int_beq]; exact Is.rfl)
        | apply WP.block
        | apply WP.skip
        | apply WP.exit
        | apply WP.ret
        | refine WP.condT rfl ?_
        | refine WP.condF rfl ?_)
      refine loop_next (by simp; exact Is.rfl) ?_
      exact ⟨2, by omega, 2, by omega, SE.mk (by simp [dI, dB, hs, wl1, wl2, wl3, wl4, fK, q0, q4, q5]) (by simp [dI, Rt.cells])⟩
  · have hs : acc4 (fK cnt at_ r.code.length) k0 k1 k2 k3 a b c d 3 = (acc4 (fK cnt at_ r.code.length) k0 k1 k2 k3 a b c d 2 && fK cnt at_ r.code.length k2 c) := by simp [acc4]
    generalize acc4 (fK cnt at_ r.code.length) k0 k1 k2 k3 a b c d 2 = ok at hs ⊢
    have fin : ∀ b' : Bool, b' = (ok && fK cnt at_ r.code.length k2 c) → b' = acc4 (fK cnt at_ r.code.length) k0 k1 k2 k3 a b c d 3 := fun b' hb' => by rw [hs]; exact hb'
    by_cases q0 : k2 = 0
    · subst q0
      cases ok
      all_goals
        repeat (first
          | apply WP.seq
          | (apply WP.reg
             case hR => dsimp only [prepL, prepO, List.map, List.getElem?_cons_succ, List.getElem?_cons_zero]; exact Is.rfl
             case hr =>
               repeat (first
                 | (apply RT.op (h := by simp [dI, dB, Rt.cells]; exact Is.rfl) (he := by (try dsimp only [putEnv]) <;> exact rfl))
                 | (apply RT.call (hg := by simp; exact Is.rfl) (hfo := by simp; exact Is.rfl) (hpr := by exact Is.rfl) (hvs := by simp [dI, dB, Rt.cells]; exact Is.rfl) (hcl := by simp [dI, dB, Rt.cells]; exact Is.rfl) (hd := by simp [dI, dB, Rt.cells]; exact Is.rfl) (hwr := by simp [dI, dB, Rt.cells]; exact Is.rfl) (hlt := by simp [Is]) (he := by (try dsimp only [putEnv]) <;> exact rfl) (hh := by simp; exact Is.rfl) (hw := by simp; exact Is.rfl))
                 | (apply RT.wr (h := by simp [dI, dB, Rt.cells]; exact Is.rfl) (he := by (try dsimp only [putEnv]) <;> exact rfl) (hh := by simp [dI, dB, Rt.cells]; exact Is.rfl) (hn := by exact Is.rfl) (hc := by exact Is.rfl) (hw := by simp; exact Is.rfl)))
               exact RT.nil
             case hc => (show _ = _; kernel_rfl)
             case ht => simp [dI, dB, Rt.cells]; exact Is.rfl)
          | apply WP.block
          | apply WP.skip
          | apply WP.exit
          | apply WP.ret
          | refine WP.condT rfl ?_
          | refine WP.condF rfl ?_)
        refine loop_next (by simp; exact Is.rfl) ?_
        exact ⟨1, by omega, 3, by omega, SE.mk (by simp [dI, dB, hs, wl1, wl2, wl3, wl4, fK, int_beq]) (by simp [dI, Rt.cells])⟩
    by_cases q5 : k2 = 5
    · subst q5
      cases ok
      all_goals
        repeat (first
          | apply WP.seq
          | (apply WP.reg
             case hR => dsimp only [prepL, prepO, List.map, List.getElem?_cons_succ, List.getElem?_cons_zero]; exact Is.rfl
             case hr =>
               repeat (first
                 | (apply RT.op (h := by simp [dI, dB, Rt.cells, ho]; exact Is.rfl) (he := by (try dsimp only [putEnv]) <;> exact rfl))
                 | (apply RT.call (hg := by simp; exact Is.rfl) (hfo := by simp; exact Is.rfl) (hpr := by exact Is.rfl) (hvs := by simp [dI, dB, Rt.cells, ho]; exact Is.rfl) (hcl := by simp [dI, dB, Rt.cells, ho]; exact Is.rfl) (hd := by simp [dI, dB, Rt.cells, ho]; exact Is.rfl) (hwr := by simp [dI, dB, Rt.cells, ho]; exact Is.rfl) (hlt := by simp [Is]) (he := by (try dsimp only [putEnv]) <;> exact rfl) (hh := by simp; exact Is.rfl) (hw := by simp; exact Is.rfl))
                 | (apply RT.wr (h := by simp [dI, dB, Rt.cells, ho]; exact Is.rfl) (he := by (try dsimp only [putEnv]) <;> exact rfl) (hh := by simp [dI, dB, Rt.cells, ho]; exact Is.rfl) (hn := by exact Is.rfl) (hc := by exact Is.rfl) (hw := by simp; exact Is.rfl)))
               exact RT.nil
             case hc => (show _ = _; kernel_rfl)
             case ht => simp [dI, dB, Rt.cells, ho]; exact Is.rfl)
          | apply WP.block
          | apply WP.skip
          | apply WP.exit
          | apply WP.ret
          | refine WP.condT rfl ?_
          | refine WP.condF rfl ?_)
        refine loop_next (by simp; exact Is.rfl) ?_
        exact ⟨1, by omega, 3, by omega, SE.mk (by simp [dI, dB, hs, wl1, wl2, wl3, wl4, fK, int_beq]) (by simp [dI, Rt.cells])⟩
    by_cases q4 : k2 = 4
    · subst q4
      by_cases g1 : at_ < c
      · have g1' : (c > at_) = True := by simp [g1]
        cases ok
        all_goals
          repeat (first
            | apply WP.seq
            | (apply WP.reg
               case hR => dsimp only [prepL, prepO, List.map, List.getElem?_cons_succ, List.getElem?_cons_zero]; exact Is.rfl
               case hr =>
                 repeat (first
                   | (apply RT.op (h := by simp [dI, dB, Rt.cells, g1, g1']; exact Is.rfl) (he := by (try dsimp only [putEnv]) <;> exact rfl))
                   | (apply RT.call (hg := by simp; exact Is.rfl) (hfo := by simp; exact Is.rfl) (hpr := by exact Is.rfl) (hvs := by simp [dI, dB, Rt.cells, g1, g1']; exact Is.rfl) (hcl := by simp [dI, dB, Rt.cells, g1, g1']; exact Is.rfl) (hd := by simp [dI, dB, Rt.cells, g1, g1']; exact Is.rfl) (hwr := by simp [dI, dB, Rt.cells, g1, g1']; exact Is.rfl) (hlt := by simp [Is]) (he := by (try dsimp only [putEnv]) <;> exact rfl) (hh := by simp; exact Is.rfl) (hw := by simp; exact Is.rfl))
                   | (apply RT.wr (h := by simp [dI, dB, Rt.cells, g1, g1']; exact Is.rfl) (he := by (try dsimp only [putEnv]) <;> exact rfl) (hh := by simp [dI, dB, Rt.cells, g1, g1']; exact Is.rfl) (hn := by exact Is.rfl) (hc := by exact Is.rfl) (hw := by simp; exact Is.rfl)))
                 exact RT.nil
               case hc => (show _ = _; kernel_rfl)
               case ht => simp [dI, dB, Rt.cells, g1, g1']; exact Is.rfl)
            | apply WP.block
            | apply WP.skip
            | apply WP.exit
            | apply WP.ret
            | refine WP.condT rfl ?_
            | refine WP.condF rfl ?_)
          refine loop_next (by simp; exact Is.rfl) ?_
          exact ⟨1, by omega, 3, by omega, SE.mk (by simp [dI, dB, hs, wl1, wl2, wl3, wl4, fK, int_beq, g1]) (by simp [dI, Rt.cells])⟩
      · have g1' : (c > at_) = False := by simp; omega
        cases ok
        all_goals
          repeat (first
            | apply WP.seq
            | (apply WP.reg
               case hR => dsimp only [prepL, prepO, List.map, List.getElem?_cons_succ, List.getElem?_cons_zero]; exact Is.rfl
               case hr =>
                 repeat (first
                   | (apply RT.op (h := by simp [dI, dB, Rt.cells, g1, g1']; exact Is.rfl) (he := by (try dsimp only [putEnv]) <;> exact rfl))
                   | (apply RT.call (hg := by simp; exact Is.rfl) (hfo := by simp; exact Is.rfl) (hpr := by exact Is.rfl) (hvs := by simp [dI, dB, Rt.cells, g1, g1']; exact Is.rfl) (hcl := by simp [dI, dB, Rt.cells, g1, g1']; exact Is.rfl) (hd := by simp [dI, dB, Rt.cells, g1, g1']; exact Is.rfl) (hwr := by simp [dI, dB, Rt.cells, g1, g1']; exact Is.rfl) (hlt := by simp [Is]) (he := by (try dsimp only [putEnv]) <;> exact rfl) (hh := by simp; exact Is.rfl) (hw := by simp; exact Is.rfl))
                   | (apply RT.wr (h := by simp [dI, dB, Rt.cells, g1, g1']; exact Is.rfl) (he := by (try dsimp only [putEnv]) <;> exact rfl) (hh := by simp [dI, dB, Rt.cells, g1, g1']; exact Is.rfl) (hn := by exact Is.rfl) (hc := by exact Is.rfl) (hw := by simp; exact Is.rfl)))
                 exact RT.nil
               case hc => (show _ = _; kernel_rfl)
               case ht => simp [dI, dB, Rt.cells, g1, g1']; exact Is.rfl)
            | apply WP.block
            | apply WP.skip
            | apply WP.exit
            | apply WP.ret
            | refine WP.condT rfl ?_
            | refine WP.condF rfl ?_)
          refine loop_next (by simp; exact Is.rfl) ?_
          exact ⟨1, by omega, 3, by omega, SE.mk (by simp [dI, dB, hs, wl1, wl2, wl3, wl4, fK, int_beq, g1]) (by simp [dI, Rt.cells])⟩
    · repeat (first
        | apply WP.seq
        | (apply WP.reg
           case hR => dsimp only [prepL, prepO, List.map, List.getElem?_cons_succ, List.getElem?_cons_zero]; exact Is.rfl
           case hr =>
             repeat (first
               | (apply RT.op (h := by simp [dI, dB, Rt.cells, q0, q4, q5, int_beq]; exact Is.rfl) (he := by (try dsimp only [putEnv]) <;> exact rfl))
               | (apply RT.call (hg := by simp; exact Is.rfl) (hfo := by simp; exact Is.rfl) (hpr := by exact Is.rfl) (hvs := by simp [dI, dB, Rt.cells, q0, q4, q5, int_beq]; exact Is.rfl) (hcl := by simp [dI, dB, Rt.cells, q0, q4, q5, int_beq]; exact Is.rfl) (hd := by simp [dI, dB, Rt.cells, q0, q4, q5, int_beq]; exact Is.rfl) (hwr := by simp [dI, dB, Rt.cells, q0, q4, q5, int_beq]; exact Is.rfl) (hlt := by simp [Is]) (he := by (try dsimp only [putEnv]) <;> exact rfl) (hh := by simp; exact Is.rfl) (hw := by simp; exact Is.rfl))
               | (apply RT.wr (h := by simp [dI, dB, Rt.cells, q0, q4, q5, int_beq]; exact Is.rfl) (he := by (try dsimp only [putEnv]) <;> exact rfl) (hh := by simp [dI, dB, Rt.cells, q0, q4, q5, int_beq]; exact Is.rfl) (hn := by exact Is.rfl) (hc := by exact Is.rfl) (hw := by simp; exact Is.rfl)))
             exact RT.nil
           case hc => (show _ = _; kernel_rfl)
           case ht => simp [dI, dB, Rt.cells, q0, q4, q5, int_beq]; exact Is.rfl)
        | apply WP.block
        | apply WP.skip
        | apply WP.exit
        | apply WP.ret
        | refine WP.condT rfl ?_
        | refine WP.condF rfl ?_)
      refine loop_next (by simp; exact Is.rfl) ?_
      exact ⟨1, by omega, 3, by omega, SE.mk (by simp [dI, dB, hs, wl1, wl2, wl3, wl4, fK, q0, q4, q5]) (by simp [dI, Rt.cells])⟩
  · have hs : acc4 (fK cnt at_ r.code.length) k0 k1 k2 k3 a b c d 4 = (acc4 (fK cnt at_ r.code.length) k0 k1 k2 k3 a b c d 3 && fK cnt at_ r.code.length k3 d) := by simp [acc4]
    generalize acc4 (fK cnt at_ r.code.length) k0 k1 k2 k3 a b c d 3 = ok at hs ⊢
    have fin : ∀ b' : Bool, b' = (ok && fK cnt at_ r.code.length k3 d) → b' = acc4 (fK cnt at_ r.code.length) k0 k1 k2 k3 a b c d 4 := fun b' hb' => by rw [hs]; exact hb'
    by_cases q0 : k3 = 0
    · subst q0
      cases ok
      all_goals
        repeat (first
          | apply WP.seq
          | (apply WP.reg
             case hR => dsimp only [prepL, prepO, List.map, List.getElem?_cons_succ, List.getElem?_cons_zero]; exact Is.rfl
             case hr =>
               repeat (first
                 | (apply RT.op (h := by simp [dI, dB, Rt.cells]; exact Is.rfl) (he := by (try dsimp only [putEnv]) <;> exact rfl))
                 | (apply RT.call (hg := by simp; exact Is.rfl) (hfo := by simp; exact Is.rfl) (hpr := by exact Is.rfl) (hvs := by simp [dI, dB, Rt.cells]; exact Is.rfl) (hcl := by simp [dI, dB, Rt.cells]; exact Is.rfl) (hd := by simp [dI, dB, Rt.cells]; exact Is.rfl) (hwr := by simp [dI, dB, Rt.cells]; exact Is.rfl) (hlt := by simp [Is]) (he := by (try dsimp only [putEnv]) <;> exact rfl) (hh := by simp; exact Is.rfl) (hw := by simp; exact Is.rfl))
                 | (apply RT.wr (h := by simp [dI, dB, Rt.cells]; exact Is.rfl) (he := by (try dsimp only [putEnv]) <;> exact rfl) (hh := by simp [dI, dB, Rt.cells]; exact Is.rfl) (hn := by exact Is.rfl) (hc := by exact Is.rfl) (hw := by simp; exact Is.rfl)))
               exact RT.nil
             case hc => (show _ = _; kernel_rfl)
             case ht => simp [dI, dB, Rt.cells]; exact Is.rfl)
          | apply WP.block
          | apply WP.skip
          | apply WP.exit
          | apply WP.ret
          | refine WP.condT rfl ?_
          | refine WP.condF rfl ?_)
        refine loop_next (by simp; exact Is.rfl) ?_
        exact ⟨0, by omega, 4, by omega, SE.mk (by simp [dI, dB, hs, wl1, wl2, wl3, wl4, fK, int_beq]) (by simp [dI, Rt.cells])⟩
    by_cases q5 : k3 = 5
    · subst q5
      cases ok
      all_goals
        repeat (first
          | apply WP.seq
          | (apply WP.reg
             case hR => dsimp only [prepL, prepO, List.map, List.getElem?_cons_succ, List.getElem?_cons_zero]; exact Is.rfl
             case hr =>
               repeat (first
                 | (apply RT.op (h := by simp [dI, dB, Rt.cells, ho]; exact Is.rfl) (he := by (try dsimp only [putEnv]) <;> exact rfl))
                 | (apply RT.call (hg := by simp; exact Is.rfl) (hfo := by simp; exact Is.rfl) (hpr := by exact Is.rfl) (hvs := by simp [dI, dB, Rt.cells, ho]; exact Is.rfl) (hcl := by simp [dI, dB, Rt.cells, ho]; exact Is.rfl) (hd := by simp [dI, dB, Rt.cells, ho]; exact Is.rfl) (hwr := by simp [dI, dB, Rt.cells, ho]; exact Is.rfl) (hlt := by simp [Is]) (he := by (try dsimp only [putEnv]) <;> exact rfl) (hh := by simp; exact Is.rfl) (hw := by simp; exact Is.rfl))
                 | (apply RT.wr (h := by simp [dI, dB, Rt.cells, ho]; exact Is.rfl) (he := by (try dsimp only [putEnv]) <;> exact rfl) (hh := by simp [dI, dB, Rt.cells, ho]; exact Is.rfl) (hn := by exact Is.rfl) (hc := by exact Is.rfl) (hw := by simp; exact Is.rfl)))
               exact RT.nil
             case hc => (show _ = _; kernel_rfl)
             case ht => simp [dI, dB, Rt.cells, ho]; exact Is.rfl)
          | apply WP.block
          | apply WP.skip
          | apply WP.exit
          | apply WP.ret
          | refine WP.condT rfl ?_
          | refine WP.condF rfl ?_)
        refine loop_next (by simp; exact Is.rfl) ?_
        exact ⟨0, by omega, 4, by omega, SE.mk (by simp [dI, dB, hs, wl1, wl2, wl3, wl4, fK, int_beq]) (by simp [dI, Rt.cells])⟩
    by_cases q4 : k3 = 4
    · subst q4
      by_cases g1 : at_ < d
      · have g1' : (d > at_) = True := by simp [g1]
        cases ok
        all_goals
          repeat (first
            | apply WP.seq
            | (apply WP.reg
               case hR => dsimp only [prepL, prepO, List.map, List.getElem?_cons_succ, List.getElem?_cons_zero]; exact Is.rfl
               case hr =>
                 repeat (first
                   | (apply RT.op (h := by simp [dI, dB, Rt.cells, g1, g1']; exact Is.rfl) (he := by (try dsimp only [putEnv]) <;> exact rfl))
                   | (apply RT.call (hg := by simp; exact Is.rfl) (hfo := by simp; exact Is.rfl) (hpr := by exact Is.rfl) (hvs := by simp [dI, dB, Rt.cells, g1, g1']; exact Is.rfl) (hcl := by simp [dI, dB, Rt.cells, g1, g1']; exact Is.rfl) (hd := by simp [dI, dB, Rt.cells, g1, g1']; exact Is.rfl) (hwr := by simp [dI, dB, Rt.cells, g1, g1']; exact Is.rfl) (hlt := by simp [Is]) (he := by (try dsimp only [putEnv]) <;> exact rfl) (hh := by simp; exact Is.rfl) (hw := by simp; exact Is.rfl))
                   | (apply RT.wr (h := by simp [dI, dB, Rt.cells, g1, g1']; exact Is.rfl) (he := by (try dsimp only [putEnv]) <;> exact rfl) (hh := by simp [dI, dB, Rt.cells, g1, g1']; exact Is.rfl) (hn := by exact Is.rfl) (hc := by exact Is.rfl) (hw := by simp; exact Is.rfl)))
                 exact RT.nil
               case hc => (show _ = _; kernel_rfl)
               case ht => simp [dI, dB, Rt.cells, g1, g1']; exact Is.rfl)
            | apply WP.block
            | apply WP.skip
            | apply WP.exit
            | apply WP.ret
            | refine WP.condT rfl ?_
            | refine WP.condF rfl ?_)
          refine loop_next (by simp; exact Is.rfl) ?_
          exact ⟨0, by omega, 4, by omega, SE.mk (by simp [dI, dB, hs, wl1, wl2, wl3, wl4, fK, int_beq, g1]) (by simp [dI, Rt.cells])⟩
      · have g1' : (d > at_) = False := by simp; omega
        cases ok
        all_goals
          repeat (first
            | apply WP.seq
            | (apply WP.reg
               case hR => dsimp only [prepL, prepO, List.map, List.getElem?_cons_succ, List.getElem?_cons_zero]; exact Is.rfl
               case hr =>
                 repeat (first
                   | (apply RT.op (h := by simp [dI, dB, Rt.cells, g1, g1']; exact Is.rfl) (he := by (try dsimp only [putEnv]) <;> exact rfl))
                   | (apply RT.call (hg := by simp; exact Is.rfl) (hfo := by simp; exact Is.rfl) (hpr := by exact Is.rfl) (hvs := by simp [dI, dB, Rt.cells, g1, g1']; exact Is.rfl) (hcl := by simp [dI, dB, Rt.cells, g1, g1']; exact Is.rfl) (hd := by simp [dI, dB, Rt.cells, g1, g1']; exact Is.rfl) (hwr := by simp [dI, dB, Rt.cells, g1, g1']; exact Is.rfl) (hlt := by simp [Is]) (he := by (try dsimp only [putEnv]) <;> exact rfl) (hh := by simp; exact Is.rfl) (hw := by simp; exact Is.rfl))
                   | (apply RT.wr (h := by simp [dI, dB, Rt.cells, g1, g1']; exact Is.rfl) (he := by (try dsimp only [putEnv]) <;> exact rfl) (hh := by simp [dI, dB, Rt.cells, g1, g1']; exact Is.rfl) (hn := by exact Is.rfl) (hc := by exact Is.rfl) (hw := by simp; exact Is.rfl)))
                 exact RT.nil
               case hc => (show _ = _; kernel_rfl)
               case ht => simp [dI, dB, Rt.cells, g1, g1']; exact Is.rfl)
            | apply WP.block
            | apply WP.skip
            | apply WP.exit
            | apply WP.ret
            | refine WP.condT rfl ?_
            | refine WP.condF rfl ?_)
          refine loop_next (by simp; exact Is.rfl) ?_
          exact ⟨0, by omega, 4, by omega, SE.mk (by simp [dI, dB, hs, wl1, wl2, wl3, wl4, fK, int_beq, g1]) (by simp [dI, Rt.cells])⟩
    · repeat (first
        | apply WP.seq
        | (apply WP.reg
           case hR => dsimp only [prepL, prepO, List.map, List.getElem?_cons_succ, List.getElem?_cons_zero]; exact Is.rfl
           case hr =>
             repeat (first
               | (apply RT.op (h := by simp [dI, dB, Rt.cells, q0, q4, q5, int_beq]; exact Is.rfl) (he := by (try dsimp only [putEnv]) <;> exact rfl))
               | (apply RT.call (hg := by simp; exact Is.rfl) (hfo := by simp; exact Is.rfl) (hpr := by exact Is.rfl) (hvs := by simp [dI, dB, Rt.cells, q0, q4, q5, int_beq]; exact Is.rfl) (hcl := by simp [dI, dB, Rt.cells, q0, q4, q5, int_beq]; exact Is.rfl) (hd := by simp [dI, dB, Rt.cells, q0, q4, q5, int_beq]; exact Is.rfl) (hwr := by simp [dI, dB, Rt.cells, q0, q4, q5, int_beq]; exact Is.rfl) (hlt := by simp [Is]) (he := by (try dsimp only [putEnv]) <;> exact rfl) (hh := by simp; exact Is.rfl) (hw := by simp; exact Is.rfl))
               | (apply RT.wr (h := by simp [dI, dB, Rt.cells, q0, q4, q5, int_beq]; exact Is.rfl) (he := by (try dsimp only [putEnv]) <;> exact rfl) (hh := by simp [dI, dB, Rt.cells, q0, q4, q5, int_beq]; exact Is.rfl) (hn := by exact Is.rfl) (hc := by exact Is.rfl) (hw := by simp; exact Is.rfl)))
             exact RT.nil
           case hc => (show _ = _; kernel_rfl)
           case ht => simp [dI, dB, Rt.cells, q0, q4, q5, int_beq]; exact Is.rfl)
        | apply WP.block
        | apply WP.skip
        | apply WP.exit
        | apply WP.ret
        | refine WP.condT rfl ?_
        | refine WP.condF rfl ?_)
      refine loop_next (by simp; exact Is.rfl) ?_
      exact ⟨0, by omega, 4, by omega, SE.mk (by simp [dI, dB, hs, wl1, wl2, wl3, wl4, fK, q0, q4, q5]) (by simp [dI, Rt.cells])⟩
  · repeat (first
      | apply WP.seq
      | (apply WP.reg
         case hR => dsimp only [prepL, prepO, List.map, List.getElem?_cons_succ, List.getElem?_cons_zero]; exact Is.rfl
         case hr =>
           repeat (first
             | (apply RT.op (h := by simp [dI, dB]; exact Is.rfl) (he := by (try dsimp only [putEnv]) <;> exact rfl))
             | (apply RT.call (hg := by simp; exact Is.rfl) (hfo := by simp; exact Is.rfl) (hpr := by exact Is.rfl) (hvs := by simp [dI, dB]; exact Is.rfl) (hcl := by simp [dI, dB]; exact Is.rfl) (hd := by simp [dI, dB]; exact Is.rfl) (hwr := by simp [dI, dB]; exact Is.rfl) (hlt := by simp [Is]) (he := by (try dsimp only [putEnv]) <;> exact rfl) (hh := by simp; exact Is.rfl) (hw := by simp; exact Is.rfl))
             | (apply RT.wr (h := by simp [dI, dB]; exact Is.rfl) (he := by (try dsimp only [putEnv]) <;> exact rfl) (hh := by simp [dI, dB]; exact Is.rfl) (hn := by exact Is.rfl) (hc := by exact Is.rfl) (hw := by simp; exact Is.rfl)))
           exact RT.nil
         case hc => (show _ = _; kernel_rfl)
         case ht => simp [dI, dB]; exact Is.rfl)
      | apply WP.block
      | apply WP.skip
      | apply WP.exit
      | apply WP.ret
      | refine WP.condT rfl ?_
      | refine WP.condF rfl ?_)
    show retQ _ _ _ _ _
    exact ⟨.inr rfl, _, _, rfl, rfl⟩
end Go.Ac

