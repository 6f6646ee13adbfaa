/- Empty cases. -/
import Derived.Test.YtofbmhmdpeclnaaFuH
set_option linter.unusedVariables false
set_option linter.unusedSimpArgs false
set_option maxRecDepth 4000
set_option linter.unusedSimpArgs false
set_option linter.unusedVariables false
namespace Go.Ab
open Go.Proofs
theorem hollow_den : ∀ (N : Nat) (l : List Y), szY l < N → szY l ≤ MX → den Try.prog Hn.cfg 14 [dY l] = some (.d (.bool (holY l))) := by
  intro N
  induction N with
  | zero => intro l hN hl; omega
  | succ N ihN =>
  intro l hN hl
  have hll := len_szY l
  unfold MX at hl
  refine den_wp Try.func14 rfl (by kernel_rfl) rfl rfl ?_
  repeat (first
    | apply WP.seq
    | (apply WP.reg
       case hR => dsimp only [prepL, prepO, List.map, List.getElem?_cons_succ, List.getElem?_cons_zero]; exact Is.rfl
       case hr =>
         repeat (first
           | (apply RT.op (h := by simp; exact Is.rfl) (he := rfl))
           | (apply RT.call (hg := by simp; exact Is.rfl) (hfo := by simp; exact Is.rfl) (hvs := by simp; exact Is.rfl) (hcl := by simp; exact Is.rfl) (hd := by simp; exact Is.rfl) (hwr := by simp; exact Is.rfl) (hlt := by simp [Is]) (he := rfl) (hh := by simp; exact Is.rfl) (hw := by simp; exact Is.rfl))
           | (apply RT.wr (h := by simp; exact Is.rfl) (he := rfl) (hh := by simp; exact Is.rfl) (hn := by exact Is.rfl) (hc := by exact Is.rfl) (hw := by simp; exact Is.rfl)))
         exact RT.nil
       case hc => (show _ = _; kernel_rfl)
       case ht => simp; exact Is.rfl)
    | apply WP.block
    | apply WP.skip
    | apply WP.exit
    | apply WP.ret)
  apply WP.loop' (I := fun d s => ∃ i : Nat, i + d = l.length ∧ (l.take i).any Y.hol = false ∧ SA [(0, dY l), (3, dI i)] 0 s) (d := l.length)
  · exact ⟨0, by simp, by simp, SA.mk rfl⟩
  rintro d _ ⟨i, hi, hno, hp, c, rfl⟩
  repeat (first
    | apply WP.seq
    | (apply WP.reg
       case hR => dsimp only [prepL, prepO, List.map, List.getElem?_cons_succ, List.getElem?_cons_zero]; exact Is.rfl
       case hr =>
         repeat (first
           | (apply RT.op (h := by simp [dI, dY]; exact Is.rfl) (he := rfl))
           | (apply RT.call (hg := by simp; exact Is.rfl) (hfo := by simp; exact Is.rfl) (hvs := by simp [dI, dY]; exact Is.rfl) (hcl := by simp [dI, dY]; exact Is.rfl) (hd := by simp [dI, dY]; exact Is.rfl) (hwr := by simp [dI, dY]; exact Is.rfl) (hlt := by simp [Is]) (he := rfl) (hh := by simp; exact Is.rfl) (hw := by simp; exact Is.rfl))
           | (apply RT.wr (h := by simp [dI, dY]; exact Is.rfl) (he := rfl) (hh := by simp [dI, dY]; exact Is.rfl) (hn := by exact Is.rfl) (hc := by exact Is.rfl) (hw := by simp; exact Is.rfl)))
         exact RT.nil
       case hc => (show _ = _; kernel_rfl)
       case ht => simp [dI, dY]; exact Is.rfl)
    | apply WP.block
    | apply WP.skip
    | apply WP.exit
    | apply WP.ret)
  show WP _ _ _ _ _ _
  refine WP.cond _ rfl (fun hb => ?_) (fun hb => ?_)
  · simp at hb
    obtain ⟨y, hy, hym, hix⟩ := at_lt hb
    have hy' := encY_at hy
    have hw := w_succ hb (by omega)
    have hts := any_takeS (p := Y.hol) hy
    have hye := Y.hol_eq y
    repeat (first
      | apply WP.seq
      | (apply WP.reg
         case hR => dsimp only [prepL, prepO, List.map, List.getElem?_cons_succ, List.getElem?_cons_zero]; exact Is.rfl
         case hr =>
           repeat (first
             | (apply RT.op (h := by simp [dY, hix, hy', Y.cells_eq]; exact Is.rfl) (he := rfl))
             | (apply RT.call (hg := by simp; exact Is.rfl) (hfo := by simp; exact Is.rfl) (hvs := by simp [dY, hix, hy', Y.cells_eq]; exact Is.rfl) (hcl := by simp [dY, hix, hy', Y.cells_eq]; exact Is.rfl) (hd := by simp [dY, hix, hy', Y.cells_eq]; exact Is.rfl) (hwr := by simp [dY, hix, hy', Y.cells_eq]; exact Is.rfl) (hlt := by simp [Is]) (he := rfl) (hh := by simp; exact Is.rfl) (hw := by simp; exact Is.rfl))
             | (apply RT.wr (h := by simp [dY, hix, hy', Y.cells_eq]; exact Is.rfl) (he := rfl) (hh := by simp [dY, hix, hy', Y.cells_eq]; exact Is.rfl) (hn := by exact Is.rfl) (hc := by exact Is.rfl) (hw := by simp; exact Is.rfl)))
           exact RT.nil
         case hc => (show _ = _; kernel_rfl)
         case ht => simp [dY, hix, hy', Y.cells_eq]; exact Is.rfl)
      | apply WP.block
      | apply WP.skip
      | apply WP.exit
      | apply WP.ret)
    show WP _ _ _ _ _ _
    refine WP.cond _ rfl (fun hb => ?_) (fun hb => ?_)
    · simp at hb
      repeat (first
        | apply WP.seq
        | (apply WP.reg
           case hR => dsimp only [prepL, prepO, List.map, List.getElem?_cons_succ, List.getElem?_cons_zero]; exact Is.rfl
           case hr =>
             repeat (first
               | (apply RT.op (h := by simp; exact Is.rfl) (he := rfl))
               | (apply RT.call (hg := by simp; exact Is.rfl) (hfo := by simp; exact Is.rfl) (hvs := by simp; exact Is.rfl) (hcl := by simp; exact Is.rfl) (hd := by simp; exact Is.rfl) (hwr := by simp; exact Is.rfl) (hlt := by simp [Is]) (he := rfl) (hh := by simp; exact Is.rfl) (hw := by simp; exact Is.rfl))
               | (apply RT.wr (h := by simp; exact Is.rfl) (he := rfl) (hh := by simp; exact Is.rfl) (hn := by exact Is.rfl) (hc := by exact Is.rfl) (hw := by simp; exact Is.rfl)))
             exact RT.nil
           case hc => (show _ = _; kernel_rfl)
           case ht => simp; exact Is.rfl)
        | apply WP.block
        | apply WP.skip
        | apply WP.exit
        | apply WP.ret)
      refine loop_next (by simp; exact Is.rfl) ?_
      exact ⟨d - 1, by omega, i + 1, by omega, by simp [hts, hye, hb, hno], SA.mk (by simp [dI, dY, hw])⟩
    · simp at hb
      have h1 := szY_takeS hy
      rw [Y.sz_eq] at h1
      have h3 := len_szB y.brs
      repeat (first
        | apply WP.seq
        | (apply WP.reg
           case hR => dsimp only [prepL, prepO, List.map, List.getElem?_cons_succ, List.getElem?_cons_zero]; exact Is.rfl
           case hr =>
             repeat (first
               | (apply RT.op (h := by simp; exact Is.rfl) (he := rfl))
               | (apply RT.call (hg := by simp; exact Is.rfl) (hfo := by simp; exact Is.rfl) (hvs := by simp; exact Is.rfl) (hcl := by simp; exact Is.rfl) (hd := by simp; exact Is.rfl) (hwr := by simp; exact Is.rfl) (hlt := by simp [Is]) (he := rfl) (hh := by simp; exact Is.rfl) (hw := by simp; exact Is.rfl))
               | (apply RT.wr (h := by simp; exact Is.rfl) (he := rfl) (hh := by simp; exact Is.rfl) (hn := by exact Is.rfl) (hc := by exact Is.rfl) (hw := by simp; exact Is.rfl)))
             exact RT.nil
           case hc => (show _ = _; kernel_rfl)
           case ht => simp; exact Is.rfl)
        | apply WP.block
        | apply WP.skip
        | apply WP.exit
        | apply WP.ret)
      apply WP.loop' (I := fun d s => ∃ j : Nat, j + d = y.brs.length ∧ (y.brs.take j).any holY = false ∧ SA [(0, dY l), (3, dI i), (4, .d (.bool (empB (y.brs.take j)))), (5, dI j)] 0 s) (d := y.brs.length)
      · exact ⟨0, by simp, by simp, SA.mk (by simp [dI, dY, empB])⟩
      rintro d2 _ ⟨j, hj, hnj, hp, c, rfl⟩
      repeat (first
        | apply WP.seq
        | (apply WP.reg
           case hR => dsimp only [prepL, prepO, List.map, List.getElem?_cons_succ, List.getElem?_cons_zero]; exact Is.rfl
           case hr =>
             repeat (first
               | (apply RT.op (h := by simp [dI, dY, hix, hy', Y.cells_eq]; exact Is.rfl) (he := rfl))
               | (apply RT.call (hg := by simp; exact Is.rfl) (hfo := by simp; exact Is.rfl) (hvs := by simp [dI, dY, hix, hy', Y.cells_eq]; exact Is.rfl) (hcl := by simp [dI, dY, hix, hy', Y.cells_eq]; exact Is.rfl) (hd := by simp [dI, dY, hix, hy', Y.cells_eq]; exact Is.rfl) (hwr := by simp [dI, dY, hix, hy', Y.cells_eq]; exact Is.rfl) (hlt := by simp [Is]) (he := rfl) (hh := by simp; exact Is.rfl) (hw := by simp; exact Is.rfl))
               | (apply RT.wr (h := by simp [dI, dY, hix, hy', Y.cells_eq]; exact Is.rfl) (he := rfl) (hh := by simp [dI, dY, hix, hy', Y.cells_eq]; exact Is.rfl) (hn := by exact Is.rfl) (hc := by exact Is.rfl) (hw := by simp; exact Is.rfl)))
             exact RT.nil
           case hc => (show _ = _; kernel_rfl)
           case ht => simp [dI, dY, hix, hy', Y.cells_eq]; exact Is.rfl)
        | apply WP.block
        | apply WP.skip
        | apply WP.exit
        | apply WP.ret)
      show WP _ _ _ _ _ _
      refine WP.cond _ rfl (fun hb => ?_) (fun hb => ?_)
      · simp at hb
        obtain ⟨b, hbr, hbm, hbx⟩ := at_lt hb
        have hb' := encB_at hbr
        have h2 := mem_szB hbm
        have hw2 := w_succ hb (by omega)
        have ih := ihN b (by omega) (by unfold MX; omega)
        simp only [dY, dI] at ih
        have hE : empB (y.brs.take (j + 1)) = (empB (y.brs.take j) && b.isEmpty) := all_takeS hbr
        have hH := any_takeS (p := holY) hbr
        have hlen0 : ((b.length : Int) == 0) = b.isEmpty := by
          cases b with
          | nil => rfl
          | cons a r => simp; omega
        cases he : empB (y.brs.take j) with
        | true =>
          rw [he] at hE
          simp at hE
          repeat (first
            | apply WP.seq
            | (apply WP.reg
               case hR => dsimp only [prepL, prepO, List.map, List.getElem?_cons_succ, List.getElem?_cons_zero]; exact Is.rfl
               case hr =>
                 repeat (first
                   | (apply RT.op (h := by simp [dY, dI, hix, hy', Y.cells_eq, hbx, hb', ih]; exact Is.rfl) (he := rfl))
                   | (apply RT.call (hg := by simp; exact Is.rfl) (hfo := by simp; exact Is.rfl) (hvs := by simp [dY, dI, hix, hy', Y.cells_eq, hbx, hb', ih]; exact Is.rfl) (hcl := by simp [dY, dI, hix, hy', Y.cells_eq, hbx, hb', ih]; exact Is.rfl) (hd := by simp [dY, dI, hix, hy', Y.cells_eq, hbx, hb', ih]; exact Is.rfl) (hwr := by simp [dY, dI, hix, hy', Y.cells_eq, hbx, hb', ih]; exact Is.rfl) (hlt := by simp [Is]) (he := rfl) (hh := by simp; exact Is.rfl) (hw := by simp; exact Is.rfl))
                   | (apply RT.wr (h := by simp [dY, dI, hix, hy', Y.cells_eq, hbx, hb', ih]; exact Is.rfl) (he := rfl) (hh := by simp [dY, dI, hix, hy', Y.cells_eq, hbx, hb', ih]; exact Is.rfl) (hn := by exact Is.rfl) (hc := by exact Is.rfl) (hw := by simp; exact Is.rfl)))
                 exact RT.nil
               case hc => (show _ = _; kernel_rfl)
               case ht => simp [dY, dI, hix, hy', Y.cells_eq, hbx, hb', ih]; exact Is.rfl)
            | apply WP.block
            | apply WP.skip
            | apply WP.exit
            | apply WP.ret)
          show WP _ _ _ _ _ _
          refine WP.cond _ rfl (fun hb => ?_) (fun hb => ?_)
          · repeat (first
              | apply WP.seq
              | (apply WP.reg
                 case hR => dsimp only [prepL, prepO, List.map, List.getElem?_cons_succ, List.getElem?_cons_zero]; exact Is.rfl
                 case hr =>
                   repeat (first
                     | (apply RT.op (h := by simp; exact Is.rfl) (he := rfl))
                     | (apply RT.call (hg := by simp; exact Is.rfl) (hfo := by simp; exact Is.rfl) (hvs := by simp; exact Is.rfl) (hcl := by simp; exact Is.rfl) (hd := by simp; exact Is.rfl) (hwr := by simp; exact Is.rfl) (hlt := by simp [Is]) (he := rfl) (hh := by simp; exact Is.rfl) (hw := by simp; exact Is.rfl))
                     | (apply RT.wr (h := by simp; exact Is.rfl) (he := rfl) (hh := by simp; exact Is.rfl) (hn := by exact Is.rfl) (hc := by exact Is.rfl) (hw := by simp; exact Is.rfl)))
                   exact RT.nil
                 case hc => (show _ = _; kernel_rfl)
                 case ht => simp; exact Is.rfl)
              | apply WP.block
              | apply WP.skip
              | apply WP.exit
              | apply WP.ret)
            have : holY l = true := by
              rw [holY_any]; refine any_hit hym ?_
              rw [Y.hol_eq, holB_any, any_hit hbm hb]; simp; assumption
            rw [this]
            exact ⟨.inr rfl, _, _, rfl, rfl⟩
          · repeat (first
              | apply WP.seq
              | (apply WP.reg
                 case hR => dsimp only [prepL, prepO, List.map, List.getElem?_cons_succ, List.getElem?_cons_zero]; exact Is.rfl
                 case hr =>
                   repeat (first
                     | (apply RT.op (h := by simp; exact Is.rfl) (he := rfl))
                     | (apply RT.call (hg := by simp; exact Is.rfl) (hfo := by simp; exact Is.rfl) (hvs := by simp; exact Is.rfl) (hcl := by simp; exact Is.rfl) (hd := by simp; exact Is.rfl) (hwr := by simp; exact Is.rfl) (hlt := by simp [Is]) (he := rfl) (hh := by simp; exact Is.rfl) (hw := by simp; exact Is.rfl))
                     | (apply RT.wr (h := by simp; exact Is.rfl) (he := rfl) (hh := by simp; exact Is.rfl) (hn := by exact Is.rfl) (hc := by exact Is.rfl) (hw := by simp; exact Is.rfl)))
                   exact RT.nil
                 case hc => (show _ = _; kernel_rfl)
                 case ht => simp; exact Is.rfl)
              | apply WP.block
              | apply WP.skip
              | apply WP.exit
              | apply WP.ret)
            refine loop_next (by simp; exact Is.rfl) ?_
            exact ⟨d2 - 1, by omega, j + 1, by omega, by simp [hH, hnj, hb], SA.mk (by simp [dI, dY, hw2, hE, hlen0])⟩
        | false =>
          rw [he] at hE
          simp at hE
          repeat (first
            | apply WP.seq
            | (apply WP.reg
               case hR => dsimp only [prepL, prepO, List.map, List.getElem?_cons_succ, List.getElem?_cons_zero]; exact Is.rfl
               case hr =>
                 repeat (first
                   | (apply RT.op (h := by simp [dY, dI, hix, hy', Y.cells_eq, hbx, hb', ih]; exact Is.rfl) (he := rfl))
                   | (apply RT.call (hg := by simp; exact Is.rfl) (hfo := by simp; exact Is.rfl) (hvs := by simp [dY, dI, hix, hy', Y.cells_eq, hbx, hb', ih]; exact Is.rfl) (hcl := by simp [dY, dI, hix, hy', Y.cells_eq, hbx, hb', ih]; exact Is.rfl) (hd := by simp [dY, dI, hix, hy', Y.cells_eq, hbx, hb', ih]; exact Is.rfl) (hwr := by simp [dY, dI, hix, hy', Y.cells_eq, hbx, hb', ih]; exact Is.rfl) (hlt := by simp [Is]) (he := rfl) (hh := by simp; exact Is.rfl) (hw := by simp; exact Is.rfl))
                   | (apply RT.wr (h := by simp [dY, dI, hix, hy', Y.cells_eq, hbx, hb', ih]; exact Is.rfl) (he := rfl) (hh := by simp [dY, dI, hix, hy', Y.cells_eq, hbx, hb', ih]; exact Is.rfl) (hn := by exact Is.rfl) (hc := by exact Is.rfl) (hw := by simp; exact Is.rfl)))
                 exact RT.nil
               case hc => (show _ = _; kernel_rfl)
               case ht => simp [dY, dI, hix, hy', Y.cells_eq, hbx, hb', ih]; exact Is.rfl)
            | apply WP.block
            | apply WP.skip
            | apply WP.exit
            | apply WP.ret)
          show WP _ _ _ _ _ _
          refine WP.cond _ rfl (fun hb => ?_) (fun hb => ?_)
          · repeat (first
              | apply WP.seq
              | (apply WP.reg
                 case hR => dsimp only [prepL, prepO, List.map, List.getElem?_cons_succ, List.getElem?_cons_zero]; exact Is.rfl
                 case hr =>
                   repeat (first
                     | (apply RT.op (h := by simp; exact Is.rfl) (he := rfl))
                     | (apply RT.call (hg := by simp; exact Is.rfl) (hfo := by simp; exact Is.rfl) (hvs := by simp; exact Is.rfl) (hcl := by simp; exact Is.rfl) (hd := by simp; exact Is.rfl) (hwr := by simp; exact Is.rfl) (hlt := by simp [Is]) (he := rfl) (hh := by simp; exact Is.rfl) (hw := by simp; exact Is.rfl))
                     | (apply RT.wr (h := by simp; exact Is.rfl) (he := rfl) (hh := by simp; exact Is.rfl) (hn := by exact Is.rfl) (hc := by exact Is.rfl) (hw := by simp; exact Is.rfl)))
                   exact RT.nil
                 case hc => (show _ = _; kernel_rfl)
                 case ht => simp; exact Is.rfl)
              | apply WP.block
              | apply WP.skip
              | apply WP.exit
              | apply WP.ret)
            have : holY l = true := by
              rw [holY_any]; refine any_hit hym ?_
              rw [Y.hol_eq, holB_any, any_hit hbm hb]; simp; assumption
            rw [this]
            exact ⟨.inr rfl, _, _, rfl, rfl⟩
          · repeat (first
              | apply WP.seq
              | (apply WP.reg
                 case hR => dsimp only [prepL, prepO, List.map, List.getElem?_cons_succ, List.getElem?_cons_zero]; exact Is.rfl
                 case hr =>
                   repeat (first
                     | (apply RT.op (h := by simp; exact Is.rfl) (he := rfl))
                     | (apply RT.call (hg := by simp; exact Is.rfl) (hfo := by simp; exact Is.rfl) (hvs := by simp; exact Is.rfl) (hcl := by simp; exact Is.rfl) (hd := by simp; exact Is.rfl) (hwr := by simp; exact Is.rfl) (hlt := by simp [Is]) (he := rfl) (hh := by simp; exact Is.rfl) (hw := by simp; exact Is.rfl))
                     | (apply RT.wr (h := by simp; exact Is.rfl) (he := rfl) (hh := by simp; exact Is.rfl) (hn := by exact Is.rfl) (hc := by exact Is.rfl) (hw := by simp; exact Is.rfl)))
                   exact RT.nil
                 case hc => (show _ = _; kernel_rfl)
                 case ht => simp; exact Is.rfl)
              | apply WP.block
              | apply WP.skip
              | apply WP.exit
              | apply WP.ret)
            refine loop_next (by simp; exact Is.rfl) ?_
            exact ⟨d2 - 1, by omega, j + 1, by omega, by simp [hH, hnj, hb], SA.mk (by simp [dI, dY, hw2, hE])⟩
      · simp at hb
        have : y.brs.take j = y.brs := by rw [List.take_of_length_le hb]
        rw [this] at hnj ⊢
        repeat (first
          | apply WP.seq
          | (apply WP.reg
             case hR => dsimp only [prepL, prepO, List.map, List.getElem?_cons_succ, List.getElem?_cons_zero]; exact Is.rfl
             case hr =>
               repeat (first
                 | (apply RT.op (h := by simp; exact Is.rfl) (he := rfl))
                 | (apply RT.call (hg := by simp; exact Is.rfl) (hfo := by simp; exact Is.rfl) (hvs := by simp; exact Is.rfl) (hcl := by simp; exact Is.rfl) (hd := by simp; exact Is.rfl) (hwr := by simp; exact Is.rfl) (hlt := by simp [Is]) (he := rfl) (hh := by simp; exact Is.rfl) (hw := by simp; exact Is.rfl))
                 | (apply RT.wr (h := by simp; exact Is.rfl) (he := rfl) (hh := by simp; exact Is.rfl) (hn := by exact Is.rfl) (hc := by exact Is.rfl) (hw := by simp; exact Is.rfl)))
               exact RT.nil
             case hc => (show _ = _; kernel_rfl)
             case ht => simp; exact Is.rfl)
          | apply WP.block
          | apply WP.skip
          | apply WP.exit
          | apply WP.ret)
        show WP _ _ _ _ _ _
        refine WP.cond _ rfl (fun hb => ?_) (fun hb => ?_)
        · repeat (first
            | apply WP.seq
            | (apply WP.reg
               case hR => dsimp only [prepL, prepO, List.map, List.getElem?_cons_succ, List.getElem?_cons_zero]; exact Is.rfl
               case hr =>
                 repeat (first
                   | (apply RT.op (h := by simp; exact Is.rfl) (he := rfl))
                   | (apply RT.call (hg := by simp; exact Is.rfl) (hfo := by simp; exact Is.rfl) (hvs := by simp; exact Is.rfl) (hcl := by simp; exact Is.rfl) (hd := by simp; exact Is.rfl) (hwr := by simp; exact Is.rfl) (hlt := by simp [Is]) (he := rfl) (hh := by simp; exact Is.rfl) (hw := by simp; exact Is.rfl))
                   | (apply RT.wr (h := by simp; exact Is.rfl) (he := rfl) (hh := by simp; exact Is.rfl) (hn := by exact Is.rfl) (hc := by exact Is.rfl) (hw := by simp; exact Is.rfl)))
                 exact RT.nil
               case hc => (show _ = _; kernel_rfl)
               case ht => simp; exact Is.rfl)
            | apply WP.block
            | apply WP.skip
            | apply WP.exit
            | apply WP.ret)
          have : holY l = true := by
            rw [holY_any]; refine any_hit hym ?_
            rw [Y.hol_eq, hb]; simp; assumption
          rw [this]
          exact ⟨.inr rfl, _, _, rfl, rfl⟩
        · repeat (first
            | apply WP.seq
            | (apply WP.reg
               case hR => dsimp only [prepL, prepO, List.map, List.getElem?_cons_succ, List.getElem?_cons_zero]; exact Is.rfl
               case hr =>
                 repeat (first
                   | (apply RT.op (h := by simp; exact Is.rfl) (he := rfl))
                   | (apply RT.call (hg := by simp; exact Is.rfl) (hfo := by simp; exact Is.rfl) (hvs := by simp; exact Is.rfl) (hcl := by simp; exact Is.rfl) (hd := by simp; exact Is.rfl) (hwr := by simp; exact Is.rfl) (hlt := by simp [Is]) (he := rfl) (hh := by simp; exact Is.rfl) (hw := by simp; exact Is.rfl))
                   | (apply RT.wr (h := by simp; exact Is.rfl) (he := rfl) (hh := by simp; exact Is.rfl) (hn := by exact Is.rfl) (hc := by exact Is.rfl) (hw := by simp; exact Is.rfl)))
                 exact RT.nil
               case hc => (show _ = _; kernel_rfl)
               case ht => simp; exact Is.rfl)
            | apply WP.block
            | apply WP.skip
            | apply WP.exit
            | apply WP.ret)
          refine loop_next (by simp; exact Is.rfl) ?_
          exact ⟨d - 1, by omega, i + 1, by omega, by simp [hts, hye, hb, hno, holB_any, hnj], SA.mk (by simp [dI, dY, hw])⟩
  · simp at hb
    have : l.take i = l := by rw [List.take_of_length_le hb]
    rw [this] at hno
    repeat (first
      | apply WP.seq
      | (apply WP.reg
         case hR => dsimp only [prepL, prepO, List.map, List.getElem?_cons_succ, List.getElem?_cons_zero]; exact Is.rfl
         case hr =>
           repeat (first
             | (apply RT.op (h := by simp [dY]; exact Is.rfl) (he := rfl))
             | (apply RT.call (hg := by simp; exact Is.rfl) (hfo := by simp; exact Is.rfl) (hvs := by simp [dY]; exact Is.rfl) (hcl := by simp [dY]; exact Is.rfl) (hd := by simp [dY]; exact Is.rfl) (hwr := by simp [dY]; exact Is.rfl) (hlt := by simp [Is]) (he := rfl) (hh := by simp; exact Is.rfl) (hw := by simp; exact Is.rfl))
             | (apply RT.wr (h := by simp [dY]; exact Is.rfl) (he := rfl) (hh := by simp [dY]; exact Is.rfl) (hn := by exact Is.rfl) (hc := by exact Is.rfl) (hw := by simp; exact Is.rfl)))
           exact RT.nil
         case hc => (show _ = _; kernel_rfl)
         case ht => simp [dY]; exact Is.rfl)
      | apply WP.block
      | apply WP.skip
      | apply WP.exit
      | apply WP.ret)
    rw [holY_any, hno]
    exact ⟨.inr rfl, _, _, rfl, rfl⟩
end Go.Ab
