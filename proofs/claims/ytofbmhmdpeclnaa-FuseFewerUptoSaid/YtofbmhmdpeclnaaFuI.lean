/- Cases, of the document and of the program. -/
import Derived.Test.YtofbmhmdpeclnaaFuH
set_option linter.unusedVariables false
set_option linter.unusedSimpArgs false
set_option maxRecDepth 4000
set_option linter.unusedSimpArgs false
set_option linter.unusedVariables false
namespace Go.Ab
open Go.Proofs
theorem cases_den : ∀ (N : Nat) (l : List Y), szY l < N → szY l ≤ MX → den Try.prog Hn.cfg 12 [dY l] = some (dI (csY l)) := by
  intro N
  induction N with
  | zero => intro l hN hl; omega
  | succ N ihN =>
  intro l hN hl
  have hll := len_szY l
  unfold MX at hl
  refine den_wp Try.func12 rfl (by kernel_rfl) rfl rfl ?_
  repeat (first
    | apply WP.seq
    | (apply WP.reg
       case hR => dsimp only [prepL, prepO, List.map, List.getElem?_cons_succ, List.getElem?_cons_zero]; exact Is.rfl
       case hr =>
         repeat (first
           | (apply RT.op (h := by simp; exact Is.rfl) (he := by (try dsimp only [putEnv]) <;> exact rfl))
           | (apply RT.call (hg := by simp; exact Is.rfl) (hfo := by simp; exact Is.rfl) (hvs := by simp; exact Is.rfl) (hcl := by simp; exact Is.rfl) (hd := by simp; exact Is.rfl) (hwr := by simp; exact Is.rfl) (hlt := by simp [Is]) (he := by (try dsimp only [putEnv]) <;> exact rfl) (hh := by simp; exact Is.rfl) (hw := by simp; exact Is.rfl))
           | (apply RT.wr (h := by simp; exact Is.rfl) (he := by (try dsimp only [putEnv]) <;> exact rfl) (hh := by simp; exact Is.rfl) (hn := by exact Is.rfl) (hc := by exact Is.rfl) (hw := by simp; exact Is.rfl)))
         exact RT.nil
       case hc => (show _ = _; kernel_rfl)
       case ht => simp; exact Is.rfl)
    | apply WP.block
    | apply WP.skip
    | apply WP.exit
    | apply WP.ret)
  apply WP.loop' (I := fun d s => ∃ i : Nat, i + d = l.length ∧ SE [(3, dI (csY (l.take i))), (8, dY l), (9, dI l.length), (10, dI i)] [] 0 s) (d := l.length)
  · exact ⟨0, by simp, SE.mk rfl rfl⟩
  rintro d _ ⟨i, hi, c, rfl⟩
  repeat (first
    | apply WP.seq
    | (apply WP.reg
       case hR => dsimp only [prepL, prepO, List.map, List.getElem?_cons_succ, List.getElem?_cons_zero]; exact Is.rfl
       case hr =>
         repeat (first
           | (apply RT.op (h := by simp [dI]; exact Is.rfl) (he := by (try dsimp only [putEnv]) <;> exact rfl))
           | (apply RT.call (hg := by simp; exact Is.rfl) (hfo := by simp; exact Is.rfl) (hvs := by simp [dI]; exact Is.rfl) (hcl := by simp [dI]; exact Is.rfl) (hd := by simp [dI]; exact Is.rfl) (hwr := by simp [dI]; exact Is.rfl) (hlt := by simp [Is]) (he := by (try dsimp only [putEnv]) <;> exact rfl) (hh := by simp; exact Is.rfl) (hw := by simp; exact Is.rfl))
           | (apply RT.wr (h := by simp [dI]; exact Is.rfl) (he := by (try dsimp only [putEnv]) <;> exact rfl) (hh := by simp [dI]; exact Is.rfl) (hn := by exact Is.rfl) (hc := by exact Is.rfl) (hw := by simp; exact Is.rfl)))
         exact RT.nil
       case hc => (show _ = _; kernel_rfl)
       case ht => simp [dI]; exact Is.rfl)
    | apply WP.block
    | apply WP.skip
    | apply WP.exit
    | apply WP.ret)
  show WP _ _ _ _ _ _
  refine WP.cond _ rfl (fun hb => ?_) (fun hb => ?_)
  · simp at hb
    obtain ⟨y, hy, hym, hix⟩ := at_lt hb
    have hy' := encY_at hy
    have hw := w_succ hb (by omega)
    have hcs := csY_take hy
    have hye := Y.cs_eq y
    repeat (first
      | apply WP.seq
      | (apply WP.reg
         case hR => dsimp only [prepL, prepO, List.map, List.getElem?_cons_succ, List.getElem?_cons_zero]; exact Is.rfl
         case hr =>
           repeat (first
             | (apply RT.op (h := by simp [dY, hix, hy', Y.cells_eq]; exact Is.rfl) (he := by (try dsimp only [putEnv]) <;> exact rfl))
             | (apply RT.call (hg := by simp; exact Is.rfl) (hfo := by simp; exact Is.rfl) (hvs := by simp [dY, hix, hy', Y.cells_eq]; exact Is.rfl) (hcl := by simp [dY, hix, hy', Y.cells_eq]; exact Is.rfl) (hd := by simp [dY, hix, hy', Y.cells_eq]; exact Is.rfl) (hwr := by simp [dY, hix, hy', Y.cells_eq]; exact Is.rfl) (hlt := by simp [Is]) (he := by (try dsimp only [putEnv]) <;> exact rfl) (hh := by simp; exact Is.rfl) (hw := by simp; exact Is.rfl))
             | (apply RT.wr (h := by simp [dY, hix, hy', Y.cells_eq]; exact Is.rfl) (he := by (try dsimp only [putEnv]) <;> exact rfl) (hh := by simp [dY, hix, hy', Y.cells_eq]; exact Is.rfl) (hn := by exact Is.rfl) (hc := by exact Is.rfl) (hw := by simp; exact Is.rfl)))
           exact RT.nil
         case hc => (show _ = _; kernel_rfl)
         case ht => simp [dY, hix, hy', Y.cells_eq]; exact Is.rfl)
      | apply WP.block
      | apply WP.skip
      | apply WP.exit
      | apply WP.ret)
    show WP _ _ _ _ _ _
    refine WP.cond _ rfl (fun hb => ?_) (fun hb => ?_)
    · simp at hb
      repeat (first
        | apply WP.seq
        | (apply WP.reg
           case hR => dsimp only [prepL, prepO, List.map, List.getElem?_cons_succ, List.getElem?_cons_zero]; exact Is.rfl
           case hr =>
             repeat (first
               | (apply RT.op (h := by simp; exact Is.rfl) (he := by (try dsimp only [putEnv]) <;> exact rfl))
               | (apply RT.call (hg := by simp; exact Is.rfl) (hfo := by simp; exact Is.rfl) (hvs := by simp; exact Is.rfl) (hcl := by simp; exact Is.rfl) (hd := by simp; exact Is.rfl) (hwr := by simp; exact Is.rfl) (hlt := by simp [Is]) (he := by (try dsimp only [putEnv]) <;> exact rfl) (hh := by simp; exact Is.rfl) (hw := by simp; exact Is.rfl))
               | (apply RT.wr (h := by simp; exact Is.rfl) (he := by (try dsimp only [putEnv]) <;> exact rfl) (hh := by simp; exact Is.rfl) (hn := by exact Is.rfl) (hc := by exact Is.rfl) (hw := by simp; exact Is.rfl)))
             exact RT.nil
           case hc => (show _ = _; kernel_rfl)
           case ht => simp; exact Is.rfl)
        | apply WP.block
        | apply WP.skip
        | apply WP.exit
        | apply WP.ret)
      refine loop_next (by simp; exact Is.rfl) ?_
      exact ⟨d - 1, by omega, i + 1, by omega, SE.mk (by simp [dI, dY, hw, hcs, hye, hb]) rfl⟩
    · simp at hb
      have h1 := szY_takeS hy
      rw [Y.sz_eq] at h1
      have h3 := len_szB y.brs
      have hcb := csY_le (l.take i)
      have hw3 : IntKind.i64.wrap (csY (l.take i) + 1) = csY (l.take i) + 1 := by rw [w_id] <;> omega
      repeat (first
        | apply WP.seq
        | (apply WP.reg
           case hR => dsimp only [prepL, prepO, List.map, List.getElem?_cons_succ, List.getElem?_cons_zero]; exact Is.rfl
           case hr =>
             repeat (first
               | (apply RT.op (h := by simp; exact Is.rfl) (he := by (try dsimp only [putEnv]) <;> exact rfl))
               | (apply RT.call (hg := by simp; exact Is.rfl) (hfo := by simp; exact Is.rfl) (hvs := by simp; exact Is.rfl) (hcl := by simp; exact Is.rfl) (hd := by simp; exact Is.rfl) (hwr := by simp; exact Is.rfl) (hlt := by simp [Is]) (he := by (try dsimp only [putEnv]) <;> exact rfl) (hh := by simp; exact Is.rfl) (hw := by simp; exact Is.rfl))
               | (apply RT.wr (h := by simp; exact Is.rfl) (he := by (try dsimp only [putEnv]) <;> exact rfl) (hh := by simp; exact Is.rfl) (hn := by exact Is.rfl) (hc := by exact Is.rfl) (hw := by simp; exact Is.rfl)))
             exact RT.nil
           case hc => (show _ = _; kernel_rfl)
           case ht => simp; exact Is.rfl)
        | apply WP.block
        | apply WP.skip
        | apply WP.exit
        | apply WP.ret)
      apply WP.loop' (I := fun d s => ∃ j : Nat, j + d = y.brs.length ∧ SA [(3, dI (csY (l.take i) + 1 + csB (y.brs.take j))), (8, dY l), (9, dI l.length), (10, dI i), (20, .d (.slice (encB y.brs))), (21, dI y.brs.length), (22, dI j)] 1 s) (d := y.brs.length)
      · exact ⟨0, by simp, SA.mk (by simp [dI, dY, csB, hw3])⟩
      rintro d2 _ ⟨j, hj, h, c, rfl⟩
      repeat (first
        | apply WP.seq
        | (apply WP.reg
           case hR => dsimp only [prepL, prepO, List.map, List.getElem?_cons_succ, List.getElem?_cons_zero]; exact Is.rfl
           case hr =>
             repeat (first
               | (apply RT.op (h := by simp [dI]; exact Is.rfl) (he := by (try dsimp only [putEnv]) <;> exact rfl))
               | (apply RT.call (hg := by simp; exact Is.rfl) (hfo := by simp; exact Is.rfl) (hvs := by simp [dI]; exact Is.rfl) (hcl := by simp [dI]; exact Is.rfl) (hd := by simp [dI]; exact Is.rfl) (hwr := by simp [dI]; exact Is.rfl) (hlt := by simp [Is]) (he := by (try dsimp only [putEnv]) <;> exact rfl) (hh := by simp; exact Is.rfl) (hw := by simp; exact Is.rfl))
               | (apply RT.wr (h := by simp [dI]; exact Is.rfl) (he := by (try dsimp only [putEnv]) <;> exact rfl) (hh := by simp [dI]; exact Is.rfl) (hn := by exact Is.rfl) (hc := by exact Is.rfl) (hw := by simp; exact Is.rfl)))
             exact RT.nil
           case hc => (show _ = _; kernel_rfl)
           case ht => simp [dI]; exact Is.rfl)
        | apply WP.block
        | apply WP.skip
        | apply WP.exit
        | apply WP.ret)
      show WP _ _ _ _ _ _
      refine WP.cond _ rfl (fun hb => ?_) (fun hb => ?_)
      · simp at hb
        obtain ⟨b, hbr, hbm, hbx⟩ := at_lt hb
        have hb' := encB_at hbr
        have h2 := mem_szB hbm
        have hw2 := w_succ hb (by omega)
        have h4 := csB_le (y.brs.take (j + 1))
        have h5 := szB_take y.brs (j + 1)
        rw [csB_take hbr] at h4
        have ih := ihN b (by omega) (by unfold MX; omega)
        simp only [dY, dI] at ih
        have hw4 : IntKind.i64.wrap (csY (l.take i) + 1 + csB (y.brs.take j) + csY b) = csY (l.take i) + 1 + (csB (y.brs.take j) + csY b) := by rw [w_id] <;> omega
        repeat (first
          | apply WP.seq
          | (apply WP.reg
             case hR => dsimp only [prepL, prepO, List.map, List.getElem?_cons_succ, List.getElem?_cons_zero]; exact Is.rfl
             case hr =>
               repeat (first
                 | (apply RT.op (h := by simp [hbx, hb', ih]; exact Is.rfl) (he := by (try dsimp only [putEnv]) <;> exact rfl))
                 | (apply RT.call (hg := by simp; exact Is.rfl) (hfo := by simp; exact Is.rfl) (hvs := by simp [hbx, hb', ih]; exact Is.rfl) (hcl := by simp [hbx, hb', ih]; exact Is.rfl) (hd := by simp [hbx, hb', ih]; exact Is.rfl) (hwr := by simp [hbx, hb', ih]; exact Is.rfl) (hlt := by simp [Is]) (he := by (try dsimp only [putEnv]) <;> exact rfl) (hh := by simp; exact Is.rfl) (hw := by simp; exact Is.rfl))
                 | (apply RT.wr (h := by simp [hbx, hb', ih]; exact Is.rfl) (he := by (try dsimp only [putEnv]) <;> exact rfl) (hh := by simp [hbx, hb', ih]; exact Is.rfl) (hn := by exact Is.rfl) (hc := by exact Is.rfl) (hw := by simp; exact Is.rfl)))
               exact RT.nil
             case hc => (show _ = _; kernel_rfl)
             case ht => simp [hbx, hb', ih]; exact Is.rfl)
          | apply WP.block
          | apply WP.skip
          | apply WP.exit
          | apply WP.ret)
        refine loop_next (by simp; exact Is.rfl) ?_
        exact ⟨d2 - 1, by omega, j + 1, by omega, SA.mk (by simp [dI, dY, hw2, csB_take hbr, hw4])⟩
      · simp at hb
        have : y.brs.take j = y.brs := by rw [List.take_of_length_le hb]
        have h7 : csY (l.take i) + 1 + csB y.brs = csY (l.take i) + (1 + csB y.brs) := by omega
        repeat (first
          | apply WP.seq
          | (apply WP.reg
             case hR => dsimp only [prepL, prepO, List.map, List.getElem?_cons_succ, List.getElem?_cons_zero]; exact Is.rfl
             case hr =>
               repeat (first
                 | (apply RT.op (h := by simp; exact Is.rfl) (he := by (try dsimp only [putEnv]) <;> exact rfl))
                 | (apply RT.call (hg := by simp; exact Is.rfl) (hfo := by simp; exact Is.rfl) (hvs := by simp; exact Is.rfl) (hcl := by simp; exact Is.rfl) (hd := by simp; exact Is.rfl) (hwr := by simp; exact Is.rfl) (hlt := by simp [Is]) (he := by (try dsimp only [putEnv]) <;> exact rfl) (hh := by simp; exact Is.rfl) (hw := by simp; exact Is.rfl))
                 | (apply RT.wr (h := by simp; exact Is.rfl) (he := by (try dsimp only [putEnv]) <;> exact rfl) (hh := by simp; exact Is.rfl) (hn := by exact Is.rfl) (hc := by exact Is.rfl) (hw := by simp; exact Is.rfl)))
               exact RT.nil
             case hc => (show _ = _; kernel_rfl)
             case ht => simp; exact Is.rfl)
          | apply WP.block
          | apply WP.skip
          | apply WP.exit
          | apply WP.ret)
        refine loop_next (by simp; exact Is.rfl) ?_
        exact ⟨d - 1, by omega, i + 1, by omega, SE.mk (by simp [dI, dY, hw, hcs, hye, *]) rfl⟩
  · simp at hb
    have : l.take i = l := by rw [List.take_of_length_le hb]
    repeat (first
      | apply WP.seq
      | (apply WP.reg
         case hR => dsimp only [prepL, prepO, List.map, List.getElem?_cons_succ, List.getElem?_cons_zero]; exact Is.rfl
         case hr =>
           repeat (first
             | (apply RT.op (h := by simp [dY]; exact Is.rfl) (he := by (try dsimp only [putEnv]) <;> exact rfl))
             | (apply RT.call (hg := by simp; exact Is.rfl) (hfo := by simp; exact Is.rfl) (hvs := by simp [dY]; exact Is.rfl) (hcl := by simp [dY]; exact Is.rfl) (hd := by simp [dY]; exact Is.rfl) (hwr := by simp [dY]; exact Is.rfl) (hlt := by simp [Is]) (he := by (try dsimp only [putEnv]) <;> exact rfl) (hh := by simp; exact Is.rfl) (hw := by simp; exact Is.rfl))
             | (apply RT.wr (h := by simp [dY]; exact Is.rfl) (he := by (try dsimp only [putEnv]) <;> exact rfl) (hh := by simp [dY]; exact Is.rfl) (hn := by exact Is.rfl) (hc := by exact Is.rfl) (hw := by simp; exact Is.rfl)))
           exact RT.nil
         case hc => (show _ = _; kernel_rfl)
         case ht => simp [dY]; exact Is.rfl)
      | apply WP.block
      | apply WP.skip
      | apply WP.exit
      | apply WP.ret)
    rw [this]
    exact ⟨.inr rfl, _, _, rfl, rfl⟩


theorem refCases_den : ∀ (N : Nat) (l : List Y), szY l < N → szY l ≤ MX → den Try.prog Hn.cfg 13 [dY l] = some (dI (csY l)) := by
  intro N
  induction N with
  | zero => intro l hN hl; omega
  | succ N ihN =>
  intro l hN hl
  have hll := len_szY l
  unfold MX at hl
  refine den_wp Try.func13 rfl (by kernel_rfl) rfl rfl ?_
  repeat (first
    | apply WP.seq
    | (apply WP.reg
       case hR => dsimp only [prepL, prepO, List.map, List.getElem?_cons_succ, List.getElem?_cons_zero]; exact Is.rfl
       case hr =>
         repeat (first
           | (apply RT.op (h := by simp; exact Is.rfl) (he := by (try dsimp only [putEnv]) <;> exact rfl))
           | (apply RT.call (hg := by simp; exact Is.rfl) (hfo := by simp; exact Is.rfl) (hvs := by simp; exact Is.rfl) (hcl := by simp; exact Is.rfl) (hd := by simp; exact Is.rfl) (hwr := by simp; exact Is.rfl) (hlt := by simp [Is]) (he := by (try dsimp only [putEnv]) <;> exact rfl) (hh := by simp; exact Is.rfl) (hw := by simp; exact Is.rfl))
           | (apply RT.wr (h := by simp; exact Is.rfl) (he := by (try dsimp only [putEnv]) <;> exact rfl) (hh := by simp; exact Is.rfl) (hn := by exact Is.rfl) (hc := by exact Is.rfl) (hw := by simp; exact Is.rfl)))
         exact RT.nil
       case hc => (show _ = _; kernel_rfl)
       case ht => simp; exact Is.rfl)
    | apply WP.block
    | apply WP.skip
    | apply WP.exit
    | apply WP.ret)
  apply WP.loop' (I := fun d s => ∃ i : Nat, i + d = l.length ∧ SA [(0, dY l), (3, dI (csY (l.take i))), (4, dI i)] 0 s) (d := l.length)
  · exact ⟨0, by simp, SA.mk rfl⟩
  rintro d _ ⟨i, hi, hp, c, rfl⟩
  repeat (first
    | apply WP.seq
    | (apply WP.reg
       case hR => dsimp only [prepL, prepO, List.map, List.getElem?_cons_succ, List.getElem?_cons_zero]; exact Is.rfl
       case hr =>
         repeat (first
           | (apply RT.op (h := by simp [dI, dY]; exact Is.rfl) (he := by (try dsimp only [putEnv]) <;> exact rfl))
           | (apply RT.call (hg := by simp; exact Is.rfl) (hfo := by simp; exact Is.rfl) (hvs := by simp [dI, dY]; exact Is.rfl) (hcl := by simp [dI, dY]; exact Is.rfl) (hd := by simp [dI, dY]; exact Is.rfl) (hwr := by simp [dI, dY]; exact Is.rfl) (hlt := by simp [Is]) (he := by (try dsimp only [putEnv]) <;> exact rfl) (hh := by simp; exact Is.rfl) (hw := by simp; exact Is.rfl))
           | (apply RT.wr (h := by simp [dI, dY]; exact Is.rfl) (he := by (try dsimp only [putEnv]) <;> exact rfl) (hh := by simp [dI, dY]; exact Is.rfl) (hn := by exact Is.rfl) (hc := by exact Is.rfl) (hw := by simp; exact Is.rfl)))
         exact RT.nil
       case hc => (show _ = _; kernel_rfl)
       case ht => simp [dI, dY]; exact Is.rfl)
    | apply WP.block
    | apply WP.skip
    | apply WP.exit
    | apply WP.ret)
  show WP _ _ _ _ _ _
  refine WP.cond _ rfl (fun hb => ?_) (fun hb => ?_)
  · simp at hb
    obtain ⟨y, hy, hym, hix⟩ := at_lt hb
    have hy' := encY_at hy
    have hw := w_succ hb (by omega)
    have hcs := csY_take hy
    have hye := Y.cs_eq y
    repeat (first
      | apply WP.seq
      | (apply WP.reg
         case hR => dsimp only [prepL, prepO, List.map, List.getElem?_cons_succ, List.getElem?_cons_zero]; exact Is.rfl
         case hr =>
           repeat (first
             | (apply RT.op (h := by simp [dY, hix, hy', Y.cells_eq]; exact Is.rfl) (he := by (try dsimp only [putEnv]) <;> exact rfl))
             | (apply RT.call (hg := by simp; exact Is.rfl) (hfo := by simp; exact Is.rfl) (hvs := by simp [dY, hix, hy', Y.cells_eq]; exact Is.rfl) (hcl := by simp [dY, hix, hy', Y.cells_eq]; exact Is.rfl) (hd := by simp [dY, hix, hy', Y.cells_eq]; exact Is.rfl) (hwr := by simp [dY, hix, hy', Y.cells_eq]; exact Is.rfl) (hlt := by simp [Is]) (he := by (try dsimp only [putEnv]) <;> exact rfl) (hh := by simp; exact Is.rfl) (hw := by simp; exact Is.rfl))
             | (apply RT.wr (h := by simp [dY, hix, hy', Y.cells_eq]; exact Is.rfl) (he := by (try dsimp only [putEnv]) <;> exact rfl) (hh := by simp [dY, hix, hy', Y.cells_eq]; exact Is.rfl) (hn := by exact Is.rfl) (hc := by exact Is.rfl) (hw := by simp; exact Is.rfl)))
           exact RT.nil
         case hc => (show _ = _; kernel_rfl)
         case ht => simp [dY, hix, hy', Y.cells_eq]; exact Is.rfl)
      | apply WP.block
      | apply WP.skip
      | apply WP.exit
      | apply WP.ret)
    show WP _ _ _ _ _ _
    refine WP.cond _ rfl (fun hb => ?_) (fun hb => ?_)
    · simp at hb
      repeat (first
        | apply WP.seq
        | (apply WP.reg
           case hR => dsimp only [prepL, prepO, List.map, List.getElem?_cons_succ, List.getElem?_cons_zero]; exact Is.rfl
           case hr =>
             repeat (first
               | (apply RT.op (h := by simp; exact Is.rfl) (he := by (try dsimp only [putEnv]) <;> exact rfl))
               | (apply RT.call (hg := by simp; exact Is.rfl) (hfo := by simp; exact Is.rfl) (hvs := by simp; exact Is.rfl) (hcl := by simp; exact Is.rfl) (hd := by simp; exact Is.rfl) (hwr := by simp; exact Is.rfl) (hlt := by simp [Is]) (he := by (try dsimp only [putEnv]) <;> exact rfl) (hh := by simp; exact Is.rfl) (hw := by simp; exact Is.rfl))
               | (apply RT.wr (h := by simp; exact Is.rfl) (he := by (try dsimp only [putEnv]) <;> exact rfl) (hh := by simp; exact Is.rfl) (hn := by exact Is.rfl) (hc := by exact Is.rfl) (hw := by simp; exact Is.rfl)))
             exact RT.nil
           case hc => (show _ = _; kernel_rfl)
           case ht => simp; exact Is.rfl)
        | apply WP.block
        | apply WP.skip
        | apply WP.exit
        | apply WP.ret)
      refine loop_next (by simp; exact Is.rfl) ?_
      exact ⟨d - 1, by omega, i + 1, by omega, SA.mk (by simp [dI, dY, hw, hcs, hye, hb])⟩
    · simp at hb
      have h1 := szY_takeS hy
      rw [Y.sz_eq] at h1
      have h3 := len_szB y.brs
      have hcb := csY_le (l.take i)
      have hw3 : IntKind.i64.wrap (csY (l.take i) + 1) = csY (l.take i) + 1 := by rw [w_id] <;> omega
      repeat (first
        | apply WP.seq
        | (apply WP.reg
           case hR => dsimp only [prepL, prepO, List.map, List.getElem?_cons_succ, List.getElem?_cons_zero]; exact Is.rfl
           case hr =>
             repeat (first
               | (apply RT.op (h := by simp; exact Is.rfl) (he := by (try dsimp only [putEnv]) <;> exact rfl))
               | (apply RT.call (hg := by simp; exact Is.rfl) (hfo := by simp; exact Is.rfl) (hvs := by simp; exact Is.rfl) (hcl := by simp; exact Is.rfl) (hd := by simp; exact Is.rfl) (hwr := by simp; exact Is.rfl) (hlt := by simp [Is]) (he := by (try dsimp only [putEnv]) <;> exact rfl) (hh := by simp; exact Is.rfl) (hw := by simp; exact Is.rfl))
               | (apply RT.wr (h := by simp; exact Is.rfl) (he := by (try dsimp only [putEnv]) <;> exact rfl) (hh := by simp; exact Is.rfl) (hn := by exact Is.rfl) (hc := by exact Is.rfl) (hw := by simp; exact Is.rfl)))
             exact RT.nil
           case hc => (show _ = _; kernel_rfl)
           case ht => simp; exact Is.rfl)
        | apply WP.block
        | apply WP.skip
        | apply WP.exit
        | apply WP.ret)
      apply WP.loop' (I := fun d s => ∃ j : Nat, j + d = y.brs.length ∧ SA [(0, dY l), (3, dI (csY (l.take i) + 1 + csB (y.brs.take j))), (4, dI i), (5, dI j)] 0 s) (d := y.brs.length)
      · exact ⟨0, by simp, SA.mk (by simp [dI, dY, csB, hw3])⟩
      rintro d2 _ ⟨j, hj, hp, c, rfl⟩
      repeat (first
        | apply WP.seq
        | (apply WP.reg
           case hR => dsimp only [prepL, prepO, List.map, List.getElem?_cons_succ, List.getElem?_cons_zero]; exact Is.rfl
           case hr =>
             repeat (first
               | (apply RT.op (h := by simp [dI, dY, hix, hy', Y.cells_eq]; exact Is.rfl) (he := by (try dsimp only [putEnv]) <;> exact rfl))
               | (apply RT.call (hg := by simp; exact Is.rfl) (hfo := by simp; exact Is.rfl) (hvs := by simp [dI, dY, hix, hy', Y.cells_eq]; exact Is.rfl) (hcl := by simp [dI, dY, hix, hy', Y.cells_eq]; exact Is.rfl) (hd := by simp [dI, dY, hix, hy', Y.cells_eq]; exact Is.rfl) (hwr := by simp [dI, dY, hix, hy', Y.cells_eq]; exact Is.rfl) (hlt := by simp [Is]) (he := by (try dsimp only [putEnv]) <;> exact rfl) (hh := by simp; exact Is.rfl) (hw := by simp; exact Is.rfl))
               | (apply RT.wr (h := by simp [dI, dY, hix, hy', Y.cells_eq]; exact Is.rfl) (he := by (try dsimp only [putEnv]) <;> exact rfl) (hh := by simp [dI, dY, hix, hy', Y.cells_eq]; exact Is.rfl) (hn := by exact Is.rfl) (hc := by exact Is.rfl) (hw := by simp; exact Is.rfl)))
             exact RT.nil
           case hc => (show _ = _; kernel_rfl)
           case ht => simp [dI, dY, hix, hy', Y.cells_eq]; exact Is.rfl)
        | apply WP.block
        | apply WP.skip
        | apply WP.exit
        | apply WP.ret)
      show WP _ _ _ _ _ _
      refine WP.cond _ rfl (fun hb => ?_) (fun hb => ?_)
      · simp at hb
        obtain ⟨b, hbr, hbm, hbx⟩ := at_lt hb
        have hb' := encB_at hbr
        have h2 := mem_szB hbm
        have hw2 := w_succ hb (by omega)
        have h4 := csB_le (y.brs.take (j + 1))
        have h5 := szB_take y.brs (j + 1)
        rw [csB_take hbr] at h4
        have ih := ihN b (by omega) (by unfold MX; omega)
        simp only [dY, dI] at ih
        have hw4 : IntKind.i64.wrap (csY (l.take i) + 1 + csB (y.brs.take j) + csY b) = csY (l.take i) + 1 + (csB (y.brs.take j) + csY b) := by rw [w_id] <;> omega
        repeat (first
          | apply WP.seq
          | (apply WP.reg
             case hR => dsimp only [prepL, prepO, List.map, List.getElem?_cons_succ, List.getElem?_cons_zero]; exact Is.rfl
             case hr =>
               repeat (first
                 | (apply RT.op (h := by simp [dY, hix, hy', Y.cells_eq, hbx, hb', ih]; exact Is.rfl) (he := by (try dsimp only [putEnv]) <;> exact rfl))
                 | (apply RT.call (hg := by simp; exact Is.rfl) (hfo := by simp; exact Is.rfl) (hvs := by simp [dY, hix, hy', Y.cells_eq, hbx, hb', ih]; exact Is.rfl) (hcl := by simp [dY, hix, hy', Y.cells_eq, hbx, hb', ih]; exact Is.rfl) (hd := by simp [dY, hix, hy', Y.cells_eq, hbx, hb', ih]; exact Is.rfl) (hwr := by simp [dY, hix, hy', Y.cells_eq, hbx, hb', ih]; exact Is.rfl) (hlt := by simp [Is]) (he := by (try dsimp only [putEnv]) <;> exact rfl) (hh := by simp; exact Is.rfl) (hw := by simp; exact Is.rfl))
                 | (apply RT.wr (h := by simp [dY, hix, hy', Y.cells_eq, hbx, hb', ih]; exact Is.rfl) (he := by (try dsimp only [putEnv]) <;> exact rfl) (hh := by simp [dY, hix, hy', Y.cells_eq, hbx, hb', ih]; exact Is.rfl) (hn := by exact Is.rfl) (hc := by exact Is.rfl) (hw := by simp; exact Is.rfl)))
               exact RT.nil
             case hc => (show _ = _; kernel_rfl)
             case ht => simp [dY, hix, hy', Y.cells_eq, hbx, hb', ih]; exact Is.rfl)
          | apply WP.block
          | apply WP.skip
          | apply WP.exit
          | apply WP.ret)
        refine loop_next (by simp; exact Is.rfl) ?_
        exact ⟨d2 - 1, by omega, j + 1, by omega, SA.mk (by simp [dI, dY, hw2, csB_take hbr, hw4])⟩
      · simp at hb
        have : y.brs.take j = y.brs := by rw [List.take_of_length_le hb]
        have h7 : csY (l.take i) + 1 + csB y.brs = csY (l.take i) + (1 + csB y.brs) := by omega
        repeat (first
          | apply WP.seq
          | (apply WP.reg
             case hR => dsimp only [prepL, prepO, List.map, List.getElem?_cons_succ, List.getElem?_cons_zero]; exact Is.rfl
             case hr =>
               repeat (first
                 | (apply RT.op (h := by simp; exact Is.rfl) (he := by (try dsimp only [putEnv]) <;> exact rfl))
                 | (apply RT.call (hg := by simp; exact Is.rfl) (hfo := by simp; exact Is.rfl) (hvs := by simp; exact Is.rfl) (hcl := by simp; exact Is.rfl) (hd := by simp; exact Is.rfl) (hwr := by simp; exact Is.rfl) (hlt := by simp [Is]) (he := by (try dsimp only [putEnv]) <;> exact rfl) (hh := by simp; exact Is.rfl) (hw := by simp; exact Is.rfl))
                 | (apply RT.wr (h := by simp; exact Is.rfl) (he := by (try dsimp only [putEnv]) <;> exact rfl) (hh := by simp; exact Is.rfl) (hn := by exact Is.rfl) (hc := by exact Is.rfl) (hw := by simp; exact Is.rfl)))
               exact RT.nil
             case hc => (show _ = _; kernel_rfl)
             case ht => simp; exact Is.rfl)
          | apply WP.block
          | apply WP.skip
          | apply WP.exit
          | apply WP.ret)
        refine loop_next (by simp; exact Is.rfl) ?_
        exact ⟨d - 1, by omega, i + 1, by omega, SA.mk (by simp [dI, dY, hw, hcs, hye, *])⟩
  · simp at hb
    have : l.take i = l := by rw [List.take_of_length_le hb]
    repeat (first
      | apply WP.seq
      | (apply WP.reg
         case hR => dsimp only [prepL, prepO, List.map, List.getElem?_cons_succ, List.getElem?_cons_zero]; exact Is.rfl
         case hr =>
           repeat (first
             | (apply RT.op (h := by simp [dY]; exact Is.rfl) (he := by (try dsimp only [putEnv]) <;> exact rfl))
             | (apply RT.call (hg := by simp; exact Is.rfl) (hfo := by simp; exact Is.rfl) (hvs := by simp [dY]; exact Is.rfl) (hcl := by simp [dY]; exact Is.rfl) (hd := by simp [dY]; exact Is.rfl) (hwr := by simp [dY]; exact Is.rfl) (hlt := by simp [Is]) (he := by (try dsimp only [putEnv]) <;> exact rfl) (hh := by simp; exact Is.rfl) (hw := by simp; exact Is.rfl))
             | (apply RT.wr (h := by simp [dY]; exact Is.rfl) (he := by (try dsimp only [putEnv]) <;> exact rfl) (hh := by simp [dY]; exact Is.rfl) (hn := by exact Is.rfl) (hc := by exact Is.rfl) (hw := by simp; exact Is.rfl)))
           exact RT.nil
         case hc => (show _ = _; kernel_rfl)
         case ht => simp [dY]; exact Is.rfl)
      | apply WP.block
      | apply WP.skip
      | apply WP.exit
      | apply WP.ret)
    rw [this]
    exact ⟨.inr rfl, _, _, rfl, rfl⟩
end Go.Ab
