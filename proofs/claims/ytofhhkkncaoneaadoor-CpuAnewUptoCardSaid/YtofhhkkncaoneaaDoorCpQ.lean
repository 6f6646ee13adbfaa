/- The check. -/
import Derived.Test.YtofhhkkncaoneaaDoorAcBM
import Derived.Test.YtofhhkkncaoneaaDoorAcDM
import Derived.Test.YtofhhkkncaoneaaDoorAcGM
import Derived.Test.YtofhhkkncaoneaaDoorAcJM
import Derived.Test.YtofhhkkncaoneaaDoorAcMM
import Derived.Test.YtofhhkkncaoneaaDoorAcSM
import Derived.Test.YtofhhkkncaoneaaDoorAcXM
import Derived.Test.YtofhhkkncaoneaaDoorAcUcM
import Derived.Test.YtofhhkkncaoneaaDoorCpBM
import Derived.Test.YtofhhkkncaoneaaDoorCpDM
import Derived.Test.YtofhhkkncaoneaaDoorCpIM
import Derived.Test.YtofhhkkncaoneaaDoorCqAM
import Derived.Calls
import Derived.Orders
import Derived.Laws.World
import Derived.Laws.Sem
import Derived.Laws.Cells
import Derived.Laws.Append
import GoSem.ClaimData
import Derived.Laws.Tables
import Derived.Laws.Slices
import Derived.Laws.Strings
import Derived.Laws.Small
import Derived.Test.YtofhhkkncaoneaaDoorChecked
import Derived.KernelRfl
import Derived.Lib.RuneCount
set_option linter.unusedVariables false
set_option linter.unusedSimpArgs false
set_option maxRecDepth 4000
set_option linter.unusedSimpArgs false
set_option linter.unusedVariables false
namespace Go.Ac
open Go.Proofs

def rsE (im : Im) : Nat → List Rt → Int
  | _, [] => 0
  | k, r :: l => if oneE im k r = 0 then rsE im (k + 1) l else oneE im k r
theorem rsE_step {im : Im} {l : List Rt} {j : Nat} {r : Rt} (h : l[j]? = some r) : rsE im j (l.drop j) = if oneE im j r = 0 then rsE im (j + 1) (l.drop (j + 1)) else oneE im j r := by
  obtain ⟨hl, he⟩ := List.getElem?_eq_some_iff.1 h
  rw [List.drop_eq_getElem_cons hl, he]; rfl
def chkE (im : Im) : Int :=
  if im.enums.length > 24 then 3 else if im.rs.length > 96 then 3 else if im.enums.any outE then 14 else if im.rs.length = 0 then 5 else rsE im 0 im.rs
set_option maxHeartbeats 1000000 in
theorem check_den (im : Im) (hs : im.sz ≤ MB) (hok : ∀ r, r ∈ im.rs → RtOK r) : den Tryd.prog Cp.cfg 22 [aM im] = some (dI (chkE im)) := by
  have hrl := im.len_rs
  have hel : im.enums.length ≤ im.sz := by unfold Im.sz; omega
  unfold MB at hs
  have hce := contains_outE im.enums (by unfold MX; omega)
  simp only [dL, dB] at hce
  refine den_wp Tryd.func22 rfl (by kernel_rfl) rfl rfl ?_
  unfold chkE
  by_cases q1 : im.enums.length > 24
  · rw [if_pos q1]
    have q1' : (24 < im.enums.length) = True := by simp; omega
    have q1'' : ((24 : Int) < im.enums.length) = True := by simp; omega
    repeat (first
      | apply WP.seq
      | (apply WP.reg
         case hR => dsimp only [prepL, prepO, List.map, List.getElem?_cons_succ, List.getElem?_cons_zero]; exact Is.rfl
         case hr =>
           repeat (first
             | (apply RT.op (h := by simp [dI, aM, Im.cells, q1', q1'']; exact Is.rfl) (he := by (try dsimp only [putEnv]) <;> exact rfl))
             | (apply RT.call (hg := by simp; exact Is.rfl) (hfo := by simp; exact Is.rfl) (hpr := by exact Is.rfl) (hvs := by simp [dI, aM, Im.cells, q1', q1'']; exact Is.rfl) (hcl := by simp [dI, aM, Im.cells, q1', q1'']; exact Is.rfl) (hd := by simp [dI, aM, Im.cells, q1', q1'']; exact Is.rfl) (hwr := by simp [dI, aM, Im.cells, q1', q1'']; exact Is.rfl) (hlt := by simp [Is]) (he := by (try dsimp only [putEnv]) <;> exact rfl) (hh := by simp; exact Is.rfl) (hw := by simp; exact Is.rfl))
             | (apply RT.wr (h := by simp [dI, aM, Im.cells, q1', q1'']; exact Is.rfl) (he := by (try dsimp only [putEnv]) <;> exact rfl) (hh := by simp [dI, aM, Im.cells, q1', q1'']; exact Is.rfl) (hn := by exact Is.rfl) (hc := by exact Is.rfl) (hw := by simp; exact Is.rfl)))
           exact RT.nil
         case hc => (show _ = _; kernel_rfl)
         case ht => simp [dI, aM, Im.cells, q1', q1'']; exact Is.rfl)
      | apply WP.block
      | apply WP.skip
      | apply WP.exit
      | apply WP.ret
      | refine WP.condT rfl ?_
      | refine WP.condF rfl ?_)
    show retQ _ _ _ _ _
    exact ⟨.inr rfl, _, _, rfl, rfl⟩
  rw [if_neg q1]
  have q1' : (24 < im.enums.length) = False := by simp; omega
  have q1'' : ((24 : Int) < im.enums.length) = False := by simp; omega
  by_cases q2 : im.rs.length > 96
  · rw [if_pos q2]
    have q2' : (96 < im.rs.length) = True := by simp; omega
    have q2'' : ((96 : Int) < im.rs.length) = True := by simp; omega
    repeat (first
      | apply WP.seq
      | (apply WP.reg
         case hR => dsimp only [prepL, prepO, List.map, List.getElem?_cons_succ, List.getElem?_cons_zero]; exact Is.rfl
         case hr =>
           repeat (first
             | (apply RT.op (h := by simp [dI, aM, Im.cells, q1', q1'', q2', q2'']; exact Is.rfl) (he := by (try dsimp only [putEnv]) <;> exact rfl))
             | (apply RT.call (hg := by simp; exact Is.rfl) (hfo := by simp; exact Is.rfl) (hpr := by exact Is.rfl) (hvs := by simp [dI, aM, Im.cells, q1', q1'', q2', q2'']; exact Is.rfl) (hcl := by simp [dI, aM, Im.cells, q1', q1'', q2', q2'']; exact Is.rfl) (hd := by simp [dI, aM, Im.cells, q1', q1'', q2', q2'']; exact Is.rfl) (hwr := by simp [dI, aM, Im.cells, q1', q1'', q2', q2'']; exact Is.rfl) (hlt := by simp [Is]) (he := by (try dsimp only [putEnv]) <;> exact rfl) (hh := by simp; exact Is.rfl) (hw := by simp; exact Is.rfl))
             | (apply RT.wr (h := by simp [dI, aM, Im.cells, q1', q1'', q2', q2'']; exact Is.rfl) (he := by (try dsimp only [putEnv]) <;> exact rfl) (hh := by simp [dI, aM, Im.cells, q1', q1'', q2', q2'']; exact Is.rfl) (hn := by exact Is.rfl) (hc := by exact Is.rfl) (hw := by simp; exact Is.rfl)))
           exact RT.nil
         case hc => (show _ = _; kernel_rfl)
         case ht => simp [dI, aM, Im.cells, q1', q1'', q2', q2'']; exact Is.rfl)
      | apply WP.block
      | apply WP.skip
      | apply WP.exit
      | apply WP.ret
      | refine WP.condT rfl ?_
      | refine WP.condF rfl ?_)
    show retQ _ _ _ _ _
    exact ⟨.inr rfl, _, _, rfl, rfl⟩
  rw [if_neg q2]
  have q2' : (96 < im.rs.length) = False := by simp; omega
  have q2'' : ((96 : Int) < im.rs.length) = False := by simp; omega
  cases q3 : im.enums.any outE with
  | true =>
    rw [q3] at hce
    repeat (first
      | apply WP.seq
      | (apply WP.reg
         case hR => dsimp only [prepL, prepO, List.map, List.getElem?_cons_succ, List.getElem?_cons_zero]; exact Is.rfl
         case hr =>
           repeat (first
             | (apply RT.op (h := by simp [dI, aM, Im.cells, q1', q1'', q2', q2'', hce]; exact Is.rfl) (he := by (try dsimp only [putEnv]) <;> exact rfl))
             | (apply RT.call (hg := by simp; exact Is.rfl) (hfo := by simp; exact Is.rfl) (hpr := by exact Is.rfl) (hvs := by simp [dI, aM, Im.cells, q1', q1'', q2', q2'', hce]; exact Is.rfl) (hcl := by simp [dI, aM, Im.cells, q1', q1'', q2', q2'', hce]; exact Is.rfl) (hd := by simp [dI, aM, Im.cells, q1', q1'', q2', q2'', hce]; exact Is.rfl) (hwr := by simp [dI, aM, Im.cells, q1', q1'', q2', q2'', hce]; exact Is.rfl) (hlt := by simp [Is]) (he := by (try dsimp only [putEnv]) <;> exact rfl) (hh := by simp; exact Is.rfl) (hw := by simp; exact Is.rfl))
             | (apply RT.wr (h := by simp [dI, aM, Im.cells, q1', q1'', q2', q2'', hce]; exact Is.rfl) (he := by (try dsimp only [putEnv]) <;> exact rfl) (hh := by simp [dI, aM, Im.cells, q1', q1'', q2', q2'', hce]; exact Is.rfl) (hn := by exact Is.rfl) (hc := by exact Is.rfl) (hw := by simp; exact Is.rfl)))
           exact RT.nil
         case hc => (show _ = _; kernel_rfl)
         case ht => simp [dI, aM, Im.cells, q1', q1'', q2', q2'', hce]; exact Is.rfl)
      | apply WP.block
      | apply WP.skip
      | apply WP.exit
      | apply WP.ret
      | refine WP.condT rfl ?_
      | refine WP.condF rfl ?_)
    show retQ _ _ _ _ _
    exact ⟨.inr rfl, _, _, rfl, rfl⟩
  | false =>
    rw [q3] at hce
    rw [if_neg (by simp)]
    by_cases q4 : im.rs.length = 0
    · rw [if_pos q4]
      have q4' : im.rs = [] := List.eq_nil_of_length_eq_zero q4
      repeat (first
        | apply WP.seq
        | (apply WP.reg
           case hR => dsimp only [prepL, prepO, List.map, List.getElem?_cons_succ, List.getElem?_cons_zero]; exact Is.rfl
           case hr =>
             repeat (first
               | (apply RT.op (h := by simp [dI, aM, Im.cells, q1', q1'', q2', q2'', hce, q4, q4']; exact Is.rfl) (he := by (try dsimp only [putEnv]) <;> exact rfl))
               | (apply RT.call (hg := by simp; exact Is.rfl) (hfo := by simp; exact Is.rfl) (hpr := by exact Is.rfl) (hvs := by simp [dI, aM, Im.cells, q1', q1'', q2', q2'', hce, q4, q4']; exact Is.rfl) (hcl := by simp [dI, aM, Im.cells, q1', q1'', q2', q2'', hce, q4, q4']; exact Is.rfl) (hd := by simp [dI, aM, Im.cells, q1', q1'', q2', q2'', hce, q4, q4']; exact Is.rfl) (hwr := by simp [dI, aM, Im.cells, q1', q1'', q2', q2'', hce, q4, q4']; exact Is.rfl) (hlt := by simp [Is]) (he := by (try dsimp only [putEnv]) <;> exact rfl) (hh := by simp; exact Is.rfl) (hw := by simp; exact Is.rfl))
               | (apply RT.wr (h := by simp [dI, aM, Im.cells, q1', q1'', q2', q2'', hce, q4, q4']; exact Is.rfl) (he := by (try dsimp only [putEnv]) <;> exact rfl) (hh := by simp [dI, aM, Im.cells, q1', q1'', q2', q2'', hce, q4, q4']; exact Is.rfl) (hn := by exact Is.rfl) (hc := by exact Is.rfl) (hw := by simp; exact Is.rfl)))
             exact RT.nil
           case hc => (show _ = _; kernel_rfl)
           case ht => simp [dI, aM, Im.cells, q1', q1'', q2', q2'', hce, q4, q4']; exact Is.rfl)
        | apply WP.block
        | apply WP.skip
        | apply WP.exit
        | apply WP.ret
        | refine WP.condT rfl ?_
        | refine WP.condF rfl ?_)
      show retQ _ _ _ _ _
      exact ⟨.inr rfl, _, _, rfl, rfl⟩
    rw [if_neg q4]
    have q4' : ¬ im.rs = [] := fun h => q4 (by rw [h]; rfl)
    have q4'' : ((im.rs.length : Int) = 0) = False := by simp; omega
    repeat (first
      | apply WP.seq
      | (apply WP.reg
         case hR => dsimp only [prepL, prepO, List.map, List.getElem?_cons_succ, List.getElem?_cons_zero]; exact Is.rfl
         case hr =>
           repeat (first
             | (apply RT.op (h := by simp [dI, aM, Im.cells, q1', q1'', q2', q2'', hce, q4, q4', q4'', int_beq]; exact Is.rfl) (he := by (try dsimp only [putEnv]) <;> exact rfl))
             | (apply RT.call (hg := by simp; exact Is.rfl) (hfo := by simp; exact Is.rfl) (hpr := by exact Is.rfl) (hvs := by simp [dI, aM, Im.cells, q1', q1'', q2', q2'', hce, q4, q4', q4'', int_beq]; exact Is.rfl) (hcl := by simp [dI, aM, Im.cells, q1', q1'', q2', q2'', hce, q4, q4', q4'', int_beq]; exact Is.rfl) (hd := by simp [dI, aM, Im.cells, q1', q1'', q2', q2'', hce, q4, q4', q4'', int_beq]; exact Is.rfl) (hwr := by simp [dI, aM, Im.cells, q1', q1'', q2', q2'', hce, q4, q4', q4'', int_beq]; exact Is.rfl) (hlt := by simp [Is]) (he := by (try dsimp only [putEnv]) <;> exact rfl) (hh := by simp; exact Is.rfl) (hw := by simp; exact Is.rfl))
             | (apply RT.wr (h := by simp [dI, aM, Im.cells, q1', q1'', q2', q2'', hce, q4, q4', q4'', int_beq]; exact Is.rfl) (he := by (try dsimp only [putEnv]) <;> exact rfl) (hh := by simp [dI, aM, Im.cells, q1', q1'', q2', q2'', hce, q4, q4', q4'', int_beq]; exact Is.rfl) (hn := by exact Is.rfl) (hc := by exact Is.rfl) (hw := by simp; exact Is.rfl)))
           exact RT.nil
         case hc => (show _ = _; kernel_rfl)
         case ht => simp [dI, aM, Im.cells, q1', q1'', q2', q2'', hce, q4, q4', q4'', int_beq]; exact Is.rfl)
      | apply WP.block
      | apply WP.skip
      | apply WP.exit
      | apply WP.ret
      | refine WP.condT rfl ?_
      | refine WP.condF rfl ?_)
    apply WP.loop' (I := fun D s => ∃ j : Nat, j + D = im.rs.length ∧ rsE im 0 im.rs = rsE im j (im.rs.drop j) ∧ SE [(1, .ptr 0 0 0), (24, dI im.rs.length), (25, dI j)] [(0, ⟨0, false, im.cells.map .d⟩)] 1 s) (d := im.rs.length)
    · exact ⟨0, by simp, rfl, SE.mk (by simp [dI]) (by simp [Im.cells])⟩
    rintro D _ ⟨j, hj, hE, cc, rfl⟩
    repeat (first
      | apply WP.seq
      | (apply WP.reg
         case hR => dsimp only [prepL, prepO, List.map, List.getElem?_cons_succ, List.getElem?_cons_zero]; exact Is.rfl
         case hr =>
           repeat (first
             | (apply RT.op (h := by simp [dI]; exact Is.rfl) (he := by (try dsimp only [putEnv]) <;> exact rfl))
             | (apply RT.call (hg := by simp; exact Is.rfl) (hfo := by simp; exact Is.rfl) (hpr := by exact Is.rfl) (hvs := by simp [dI]; exact Is.rfl) (hcl := by simp [dI]; exact Is.rfl) (hd := by simp [dI]; exact Is.rfl) (hwr := by simp [dI]; exact Is.rfl) (hlt := by simp [Is]) (he := by (try dsimp only [putEnv]) <;> exact rfl) (hh := by simp; exact Is.rfl) (hw := by simp; exact Is.rfl))
             | (apply RT.wr (h := by simp [dI]; exact Is.rfl) (he := by (try dsimp only [putEnv]) <;> exact rfl) (hh := by simp [dI]; exact Is.rfl) (hn := by exact Is.rfl) (hc := by exact Is.rfl) (hw := by simp; exact Is.rfl)))
           exact RT.nil
         case hc => (show _ = _; kernel_rfl)
         case ht => simp [dI]; exact Is.rfl)
      | apply WP.block
      | apply WP.skip
      | apply WP.exit
      | apply WP.ret)
    show WP _ _ _ _ _ _
    refine WP.cond _ rfl (fun hb => ?_) (fun hb => ?_)
    · simp at hb
      have hb' : j < im.rs.length := hb
      obtain ⟨r, hr, hm, hix⟩ := at_lt hb'
      have hw := w_succ hb' (by omega)
      have hst := rsE_step (im := im) hr
      rw [← hE] at hst
      have h1 := one_den im j r hr (by unfold MB; omega) (hok r hm)
      simp only [aM, Im.cells, List.map_cons, List.map_nil, dI] at h1
      by_cases h0 : oneE im j r = 0
      · rw [h0] at h1
        rw [if_pos h0] at hst
        repeat (first
          | apply WP.seq
          | (apply WP.reg
             case hR => dsimp only [prepL, prepO, List.map, List.getElem?_cons_succ, List.getElem?_cons_zero]; exact Is.rfl
             case hr =>
               repeat (first
                 | (apply RT.op (h := by simp [dI, Im.cells, h1]; exact Is.rfl) (he := by (try dsimp only [putEnv]) <;> exact rfl))
                 | (apply RT.call (hg := by simp; exact Is.rfl) (hfo := by simp; exact Is.rfl) (hpr := by exact Is.rfl) (hvs := by simp [dI, Im.cells, h1]; exact Is.rfl) (hcl := by simp [dI, Im.cells, h1]; exact Is.rfl) (hd := by simp [dI, Im.cells, h1]; exact Is.rfl) (hwr := by simp [dI, Im.cells, h1]; exact Is.rfl) (hlt := by simp [Is]) (he := by (try dsimp only [putEnv]) <;> exact rfl) (hh := by simp; exact Is.rfl) (hw := by simp; exact Is.rfl))
                 | (apply RT.wr (h := by simp [dI, Im.cells, h1]; exact Is.rfl) (he := by (try dsimp only [putEnv]) <;> exact rfl) (hh := by simp [dI, Im.cells, h1]; exact Is.rfl) (hn := by exact Is.rfl) (hc := by exact Is.rfl) (hw := by simp; exact Is.rfl)))
               exact RT.nil
             case hc => (show _ = _; kernel_rfl)
             case ht => simp [dI, Im.cells, h1]; exact Is.rfl)
          | apply WP.block
          | apply WP.skip
          | apply WP.exit
          | apply WP.ret
          | refine WP.condT rfl ?_
          | refine WP.condF rfl ?_)
        refine loop_next (by simp [hw]; exact Is.rfl) ?_
        exact ⟨D - 1, by omega, j + 1, by omega, hst, SE.mk (by simp [dI, hw]) (by simp [Im.cells])⟩
      · rw [if_neg h0] at hst
        rw [hst]
        repeat (first
          | apply WP.seq
          | (apply WP.reg
             case hR => dsimp only [prepL, prepO, List.map, List.getElem?_cons_succ, List.getElem?_cons_zero]; exact Is.rfl
             case hr =>
               repeat (first
                 | (apply RT.op (h := by simp [dI, Im.cells, h1, h0, int_bne]; exact Is.rfl) (he := by (try dsimp only [putEnv]) <;> exact rfl))
                 | (apply RT.call (hg := by simp; exact Is.rfl) (hfo := by simp; exact Is.rfl) (hpr := by exact Is.rfl) (hvs := by simp [dI, Im.cells, h1, h0, int_bne]; exact Is.rfl) (hcl := by simp [dI, Im.cells, h1, h0, int_bne]; exact Is.rfl) (hd := by simp [dI, Im.cells, h1, h0, int_bne]; exact Is.rfl) (hwr := by simp [dI, Im.cells, h1, h0, int_bne]; exact Is.rfl) (hlt := by simp [Is]) (he := by (try dsimp only [putEnv]) <;> exact rfl) (hh := by simp; exact Is.rfl) (hw := by simp; exact Is.rfl))
                 | (apply RT.wr (h := by simp [dI, Im.cells, h1, h0, int_bne]; exact Is.rfl) (he := by (try dsimp only [putEnv]) <;> exact rfl) (hh := by simp [dI, Im.cells, h1, h0, int_bne]; exact Is.rfl) (hn := by exact Is.rfl) (hc := by exact Is.rfl) (hw := by simp; exact Is.rfl)))
               exact RT.nil
             case hc => (show _ = _; kernel_rfl)
             case ht => simp [dI, Im.cells, h1, h0, int_bne]; exact Is.rfl)
          | apply WP.block
          | apply WP.skip
          | apply WP.exit
          | apply WP.ret
          | refine WP.condT rfl ?_
          | refine WP.condF rfl ?_)
        show retQ _ _ _ _ _
        exact ⟨.inr rfl, _, _, rfl, rfl⟩
    · simp at hb
      have hE0 : rsE im 0 im.rs = 0 := by rw [hE, List.drop_of_length_le hb]; rfl
      rw [hE0]
      repeat (first
        | apply WP.seq
        | (apply WP.reg
           case hR => dsimp only [prepL, prepO, List.map, List.getElem?_cons_succ, List.getElem?_cons_zero]; exact Is.rfl
           case hr =>
             repeat (first
               | (apply RT.op (h := by simp; exact Is.rfl) (he := by (try dsimp only [putEnv]) <;> exact rfl))
               | (apply RT.call (hg := by simp; exact Is.rfl) (hfo := by simp; exact Is.rfl) (hpr := by exact Is.rfl) (hvs := by simp; exact Is.rfl) (hcl := by simp; exact Is.rfl) (hd := by simp; exact Is.rfl) (hwr := by simp; exact Is.rfl) (hlt := by simp [Is]) (he := by (try dsimp only [putEnv]) <;> exact rfl) (hh := by simp; exact Is.rfl) (hw := by simp; exact Is.rfl))
               | (apply RT.wr (h := by simp; exact Is.rfl) (he := by (try dsimp only [putEnv]) <;> exact rfl) (hh := by simp; exact Is.rfl) (hn := by exact Is.rfl) (hc := by exact Is.rfl) (hw := by simp; exact Is.rfl)))
             exact RT.nil
           case hc => (show _ = _; kernel_rfl)
           case ht => simp; exact Is.rfl)
        | apply WP.block
        | apply WP.skip
        | apply WP.exit
        | apply WP.ret)
      show retQ _ _ _ _ _
      exact ⟨.inr rfl, _, _, rfl, rfl⟩
end Go.Ac
