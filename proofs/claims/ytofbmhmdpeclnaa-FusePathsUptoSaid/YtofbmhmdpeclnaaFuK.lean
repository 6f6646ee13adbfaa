/- Of the document: is a case empty, is a variable assigned, do two cases go together. -/
import Derived.Test.YtofbmhmdpeclnaaFuH
set_option linter.unusedVariables false
set_option linter.unusedSimpArgs false
set_option maxRecDepth 4000
set_option linter.unusedSimpArgs false
set_option linter.unusedVariables false
namespace Go.Ab
open Go.Proofs
def aY (y : Y) : V := .agg (y.cells.map .d)
def dS (s : List UInt8) : V := .d (.str s)
def dN (l : List (List UInt8)) : V := .d (.slice (encN l))

theorem refEmpty_den (y : Y) (hl : y.sz ≤ MX) : den Try.prog Hn.cfg 23 [aY y] = some (.d (.bool (empB y.brs))) := by
  rw [Y.sz_eq] at hl
  have h3 := len_szB y.brs
  unfold MX at hl
  refine den_wp Try.func23 rfl (by kernel_rfl) rfl rfl ?_
  repeat (first
    | apply WP.seq
    | (apply WP.reg
       case hR => dsimp only [prepL, prepO, List.map, List.getElem?_cons_succ, List.getElem?_cons_zero]; exact Is.rfl
       case hr =>
         repeat (first
           | (apply RT.op (h := by simp [aY, envOf, Y.cells_eq]; exact Is.rfl) (he := rfl))
           | (apply RT.call (hg := by simp; exact Is.rfl) (hfo := by simp; exact Is.rfl) (hvs := by simp [aY, envOf, Y.cells_eq]; exact Is.rfl) (hcl := by simp [aY, envOf, Y.cells_eq]; exact Is.rfl) (hd := by simp [aY, envOf, Y.cells_eq]; exact Is.rfl) (hwr := by simp [aY, envOf, Y.cells_eq]; exact Is.rfl) (hlt := by simp [Is]) (he := rfl) (hh := by simp; exact Is.rfl) (hw := by simp; exact Is.rfl))
           | (apply RT.wr (h := by simp [aY, envOf, Y.cells_eq]; exact Is.rfl) (he := rfl) (hh := by simp [aY, envOf, Y.cells_eq]; exact Is.rfl) (hn := by exact Is.rfl) (hc := by exact Is.rfl) (hw := by simp; exact Is.rfl)))
         exact RT.nil
       case hc => (show _ = _; kernel_rfl)
       case ht => simp [aY, envOf, Y.cells_eq]; exact Is.rfl)
    | apply WP.block
    | apply WP.skip
    | apply WP.exit
    | apply WP.ret)
  apply WP.loop' (I := fun d s => ∃ i : Nat, i + d = y.brs.length ∧ (y.brs.take i).all List.isEmpty = true ∧ SE [(1, .ptr 0 0 0), (3, dI i)] [(0, ⟨0, false, y.cells.map .d⟩)] 1 s) (d := y.brs.length)
  · exact ⟨0, by simp, by simp, SE.mk rfl (by simp [Y.cells_eq])⟩
  rintro d _ ⟨i, hi, hno, c, rfl⟩
  repeat (first
    | apply WP.seq
    | (apply WP.reg
       case hR => dsimp only [prepL, prepO, List.map, List.getElem?_cons_succ, List.getElem?_cons_zero]; exact Is.rfl
       case hr =>
         repeat (first
           | (apply RT.op (h := by simp [dI, Y.cells_eq]; exact Is.rfl) (he := rfl))
           | (apply RT.call (hg := by simp; exact Is.rfl) (hfo := by simp; exact Is.rfl) (hvs := by simp [dI, Y.cells_eq]; exact Is.rfl) (hcl := by simp [dI, Y.cells_eq]; exact Is.rfl) (hd := by simp [dI, Y.cells_eq]; exact Is.rfl) (hwr := by simp [dI, Y.cells_eq]; exact Is.rfl) (hlt := by simp [Is]) (he := rfl) (hh := by simp; exact Is.rfl) (hw := by simp; exact Is.rfl))
           | (apply RT.wr (h := by simp [dI, Y.cells_eq]; exact Is.rfl) (he := rfl) (hh := by simp [dI, Y.cells_eq]; exact Is.rfl) (hn := by exact Is.rfl) (hc := by exact Is.rfl) (hw := by simp; exact Is.rfl)))
         exact RT.nil
       case hc => (show _ = _; kernel_rfl)
       case ht => simp [dI, Y.cells_eq]; exact Is.rfl)
    | apply WP.block
    | apply WP.skip
    | apply WP.exit
    | apply WP.ret)
  show WP _ _ _ _ _ _
  refine WP.cond _ rfl (fun hb => ?_) (fun hb => ?_)
  · simp at hb
    obtain ⟨b, hy, hym, hix⟩ := at_lt hb
    have hy' := encB_at hy
    have hw := w_succ hb (by omega)
    have hts := all_takeS (p := List.isEmpty) hy
    repeat (first
      | apply WP.seq
      | (apply WP.reg
         case hR => dsimp only [prepL, prepO, List.map, List.getElem?_cons_succ, List.getElem?_cons_zero]; exact Is.rfl
         case hr =>
           repeat (first
             | (apply RT.op (h := by simp [hix, hy', Y.cells_eq]; exact Is.rfl) (he := rfl))
             | (apply RT.call (hg := by simp; exact Is.rfl) (hfo := by simp; exact Is.rfl) (hvs := by simp [hix, hy', Y.cells_eq]; exact Is.rfl) (hcl := by simp [hix, hy', Y.cells_eq]; exact Is.rfl) (hd := by simp [hix, hy', Y.cells_eq]; exact Is.rfl) (hwr := by simp [hix, hy', Y.cells_eq]; exact Is.rfl) (hlt := by simp [Is]) (he := rfl) (hh := by simp; exact Is.rfl) (hw := by simp; exact Is.rfl))
             | (apply RT.wr (h := by simp [hix, hy', Y.cells_eq]; exact Is.rfl) (he := rfl) (hh := by simp [hix, hy', Y.cells_eq]; exact Is.rfl) (hn := by exact Is.rfl) (hc := by exact Is.rfl) (hw := by simp; exact Is.rfl)))
           exact RT.nil
         case hc => (show _ = _; kernel_rfl)
         case ht => simp [hix, hy', Y.cells_eq]; exact Is.rfl)
      | apply WP.block
      | apply WP.skip
      | apply WP.exit
      | apply WP.ret)
    show WP _ _ _ _ _ _
    refine WP.cond _ rfl (fun hb => ?_) (fun hb => ?_)
    · simp at hb
      repeat (first
        | apply WP.seq
        | (apply WP.reg
           case hR => dsimp only [prepL, prepO, List.map, List.getElem?_cons_succ, List.getElem?_cons_zero]; exact Is.rfl
           case hr =>
             repeat (first
               | (apply RT.op (h := by simp; exact Is.rfl) (he := rfl))
               | (apply RT.call (hg := by simp; exact Is.rfl) (hfo := by simp; exact Is.rfl) (hvs := by simp; exact Is.rfl) (hcl := by simp; exact Is.rfl) (hd := by simp; exact Is.rfl) (hwr := by simp; exact Is.rfl) (hlt := by simp [Is]) (he := rfl) (hh := by simp; exact Is.rfl) (hw := by simp; exact Is.rfl))
               | (apply RT.wr (h := by simp; exact Is.rfl) (he := rfl) (hh := by simp; exact Is.rfl) (hn := by exact Is.rfl) (hc := by exact Is.rfl) (hw := by simp; exact Is.rfl)))
             exact RT.nil
           case hc => (show _ = _; kernel_rfl)
           case ht => simp; exact Is.rfl)
        | apply WP.block
        | apply WP.skip
        | apply WP.exit
        | apply WP.ret)
      have hbe : b.isEmpty = false := by cases b <;> simp_all
      have : empB y.brs = false := all_hit hym hbe
      rw [this]
      exact ⟨.inr rfl, _, _, rfl, rfl⟩
    · simp at hb
      repeat (first
        | apply WP.seq
        | (apply WP.reg
           case hR => dsimp only [prepL, prepO, List.map, List.getElem?_cons_succ, List.getElem?_cons_zero]; exact Is.rfl
           case hr =>
             repeat (first
               | (apply RT.op (h := by simp; exact Is.rfl) (he := rfl))
               | (apply RT.call (hg := by simp; exact Is.rfl) (hfo := by simp; exact Is.rfl) (hvs := by simp; exact Is.rfl) (hcl := by simp; exact Is.rfl) (hd := by simp; exact Is.rfl) (hwr := by simp; exact Is.rfl) (hlt := by simp [Is]) (he := rfl) (hh := by simp; exact Is.rfl) (hw := by simp; exact Is.rfl))
               | (apply RT.wr (h := by simp; exact Is.rfl) (he := rfl) (hh := by simp; exact Is.rfl) (hn := by exact Is.rfl) (hc := by exact Is.rfl) (hw := by simp; exact Is.rfl)))
             exact RT.nil
           case hc => (show _ = _; kernel_rfl)
           case ht => simp; exact Is.rfl)
        | apply WP.block
        | apply WP.skip
        | apply WP.exit
        | apply WP.ret)
      refine loop_next (by simp; exact Is.rfl) ?_
      exact ⟨d - 1, by omega, i + 1, by omega, by rw [hts, hno]; cases b <;> simp_all, SE.mk (by simp [dI, hw]) (by simp [Y.cells_eq])⟩
  · simp at hb
    have : y.brs.take i = y.brs := by rw [List.take_of_length_le hb]
    rw [this] at hno
    repeat (first
      | apply WP.seq
      | (apply WP.reg
         case hR => dsimp only [prepL, prepO, List.map, List.getElem?_cons_succ, List.getElem?_cons_zero]; exact Is.rfl
         case hr =>
           repeat (first
             | (apply RT.op (h := by simp; exact Is.rfl) (he := rfl))
             | (apply RT.call (hg := by simp; exact Is.rfl) (hfo := by simp; exact Is.rfl) (hvs := by simp; exact Is.rfl) (hcl := by simp; exact Is.rfl) (hd := by simp; exact Is.rfl) (hwr := by simp; exact Is.rfl) (hlt := by simp [Is]) (he := rfl) (hh := by simp; exact Is.rfl) (hw := by simp; exact Is.rfl))
             | (apply RT.wr (h := by simp; exact Is.rfl) (he := rfl) (hh := by simp; exact Is.rfl) (hn := by exact Is.rfl) (hc := by exact Is.rfl) (hw := by simp; exact Is.rfl)))
           exact RT.nil
         case hc => (show _ = _; kernel_rfl)
         case ht => simp; exact Is.rfl)
      | apply WP.block
      | apply WP.skip
      | apply WP.exit
      | apply WP.ret)
    rw [show empB y.brs = true from hno]
    exact ⟨.inr rfl, _, _, rfl, rfl⟩

theorem has_den (l : List (List UInt8)) (nm : List UInt8) (hl : szN l ≤ MX) : den Try.prog Hn.cfg 33 [dN l, dS nm] = some (.d (.bool (l.any (· == nm)))) := by
  have hll := len_szN l
  unfold MX at hl
  refine den_wp Try.func33 rfl (by kernel_rfl) rfl rfl ?_
  repeat (first
    | apply WP.seq
    | (apply WP.reg
       case hR => dsimp only [prepL, prepO, List.map, List.getElem?_cons_succ, List.getElem?_cons_zero]; exact Is.rfl
       case hr =>
         repeat (first
           | (apply RT.op (h := by simp [envOf]; exact Is.rfl) (he := rfl))
           | (apply RT.call (hg := by simp; exact Is.rfl) (hfo := by simp; exact Is.rfl) (hvs := by simp [envOf]; exact Is.rfl) (hcl := by simp [envOf]; exact Is.rfl) (hd := by simp [envOf]; exact Is.rfl) (hwr := by simp [envOf]; exact Is.rfl) (hlt := by simp [Is]) (he := rfl) (hh := by simp; exact Is.rfl) (hw := by simp; exact Is.rfl))
           | (apply RT.wr (h := by simp [envOf]; exact Is.rfl) (he := rfl) (hh := by simp [envOf]; exact Is.rfl) (hn := by exact Is.rfl) (hc := by exact Is.rfl) (hw := by simp; exact Is.rfl)))
         exact RT.nil
       case hc => (show _ = _; kernel_rfl)
       case ht => simp [envOf]; exact Is.rfl)
    | apply WP.block
    | apply WP.skip
    | apply WP.exit
    | apply WP.ret)
  apply WP.loop' (I := fun d s => ∃ i : Nat, i + d = l.length ∧ (l.take i).any (· == nm) = false ∧ SE [(0, dN l), (1, dS nm), (5, dI i)] [] 0 s) (d := l.length)
  · exact ⟨0, by simp, by simp, SE.mk rfl rfl⟩
  rintro d _ ⟨i, hi, hno, c, rfl⟩
  repeat (first
    | apply WP.seq
    | (apply WP.reg
       case hR => dsimp only [prepL, prepO, List.map, List.getElem?_cons_succ, List.getElem?_cons_zero]; exact Is.rfl
       case hr =>
         repeat (first
           | (apply RT.op (h := by simp [dI, dN, dS]; exact Is.rfl) (he := rfl))
           | (apply RT.call (hg := by simp; exact Is.rfl) (hfo := by simp; exact Is.rfl) (hvs := by simp [dI, dN, dS]; exact Is.rfl) (hcl := by simp [dI, dN, dS]; exact Is.rfl) (hd := by simp [dI, dN, dS]; exact Is.rfl) (hwr := by simp [dI, dN, dS]; exact Is.rfl) (hlt := by simp [Is]) (he := rfl) (hh := by simp; exact Is.rfl) (hw := by simp; exact Is.rfl))
           | (apply RT.wr (h := by simp [dI, dN, dS]; exact Is.rfl) (he := rfl) (hh := by simp [dI, dN, dS]; exact Is.rfl) (hn := by exact Is.rfl) (hc := by exact Is.rfl) (hw := by simp; exact Is.rfl)))
         exact RT.nil
       case hc => (show _ = _; kernel_rfl)
       case ht => simp [dI, dN, dS]; exact Is.rfl)
    | apply WP.block
    | apply WP.skip
    | apply WP.exit
    | apply WP.ret)
  show WP _ _ _ _ _ _
  refine WP.cond _ rfl (fun hb => ?_) (fun hb => ?_)
  · simp at hb
    obtain ⟨s, hy, hym, hix⟩ := at_lt hb
    have hy' := encN_at hy
    have hw := w_succ hb (by omega)
    have hts := any_takeS (p := (· == nm)) hy
    repeat (first
      | apply WP.seq
      | (apply WP.reg
         case hR => dsimp only [prepL, prepO, List.map, List.getElem?_cons_succ, List.getElem?_cons_zero]; exact Is.rfl
         case hr =>
           repeat (first
             | (apply RT.op (h := by simp [hix, hy', dN]; exact Is.rfl) (he := rfl))
             | (apply RT.call (hg := by simp; exact Is.rfl) (hfo := by simp; exact Is.rfl) (hvs := by simp [hix, hy', dN]; exact Is.rfl) (hcl := by simp [hix, hy', dN]; exact Is.rfl) (hd := by simp [hix, hy', dN]; exact Is.rfl) (hwr := by simp [hix, hy', dN]; exact Is.rfl) (hlt := by simp [Is]) (he := rfl) (hh := by simp; exact Is.rfl) (hw := by simp; exact Is.rfl))
             | (apply RT.wr (h := by simp [hix, hy', dN]; exact Is.rfl) (he := rfl) (hh := by simp [hix, hy', dN]; exact Is.rfl) (hn := by exact Is.rfl) (hc := by exact Is.rfl) (hw := by simp; exact Is.rfl)))
           exact RT.nil
         case hc => (show _ = _; kernel_rfl)
         case ht => simp [hix, hy', dN]; exact Is.rfl)
      | apply WP.block
      | apply WP.skip
      | apply WP.exit
      | apply WP.ret)
    show WP _ _ _ _ _ _
    refine WP.cond _ rfl (fun hb => ?_) (fun hb => ?_)
    · repeat (first
        | apply WP.seq
        | (apply WP.reg
           case hR => dsimp only [prepL, prepO, List.map, List.getElem?_cons_succ, List.getElem?_cons_zero]; exact Is.rfl
           case hr =>
             repeat (first
               | (apply RT.op (h := by simp; exact Is.rfl) (he := rfl))
               | (apply RT.call (hg := by simp; exact Is.rfl) (hfo := by simp; exact Is.rfl) (hvs := by simp; exact Is.rfl) (hcl := by simp; exact Is.rfl) (hd := by simp; exact Is.rfl) (hwr := by simp; exact Is.rfl) (hlt := by simp [Is]) (he := rfl) (hh := by simp; exact Is.rfl) (hw := by simp; exact Is.rfl))
               | (apply RT.wr (h := by simp; exact Is.rfl) (he := rfl) (hh := by simp; exact Is.rfl) (hn := by exact Is.rfl) (hc := by exact Is.rfl) (hw := by simp; exact Is.rfl)))
             exact RT.nil
           case hc => (show _ = _; kernel_rfl)
           case ht => simp; exact Is.rfl)
        | apply WP.block
        | apply WP.skip
        | apply WP.exit
        | apply WP.ret)
      rw [any_hit (p := (· == nm)) hym hb]
      exact ⟨.inr rfl, _, _, rfl, rfl⟩
    · repeat (first
        | apply WP.seq
        | (apply WP.reg
           case hR => dsimp only [prepL, prepO, List.map, List.getElem?_cons_succ, List.getElem?_cons_zero]; exact Is.rfl
           case hr =>
             repeat (first
               | (apply RT.op (h := by simp; exact Is.rfl) (he := rfl))
               | (apply RT.call (hg := by simp; exact Is.rfl) (hfo := by simp; exact Is.rfl) (hvs := by simp; exact Is.rfl) (hcl := by simp; exact Is.rfl) (hd := by simp; exact Is.rfl) (hwr := by simp; exact Is.rfl) (hlt := by simp [Is]) (he := rfl) (hh := by simp; exact Is.rfl) (hw := by simp; exact Is.rfl))
               | (apply RT.wr (h := by simp; exact Is.rfl) (he := rfl) (hh := by simp; exact Is.rfl) (hn := by exact Is.rfl) (hc := by exact Is.rfl) (hw := by simp; exact Is.rfl)))
             exact RT.nil
           case hc => (show _ = _; kernel_rfl)
           case ht => simp; exact Is.rfl)
        | apply WP.block
        | apply WP.skip
        | apply WP.exit
        | apply WP.ret)
      refine loop_next (by simp; exact Is.rfl) ?_
      exact ⟨d - 1, by omega, i + 1, by omega, by rw [hts, hno, hb]; rfl, SE.mk (by simp [dI, hw, dN, dS]) rfl⟩
  · simp at hb
    have : l.take i = l := by rw [List.take_of_length_le hb]
    rw [this] at hno
    repeat (first
      | apply WP.seq
      | (apply WP.reg
         case hR => dsimp only [prepL, prepO, List.map, List.getElem?_cons_succ, List.getElem?_cons_zero]; exact Is.rfl
         case hr =>
           repeat (first
             | (apply RT.op (h := by simp; exact Is.rfl) (he := rfl))
             | (apply RT.call (hg := by simp; exact Is.rfl) (hfo := by simp; exact Is.rfl) (hvs := by simp; exact Is.rfl) (hcl := by simp; exact Is.rfl) (hd := by simp; exact Is.rfl) (hwr := by simp; exact Is.rfl) (hlt := by simp [Is]) (he := rfl) (hh := by simp; exact Is.rfl) (hw := by simp; exact Is.rfl))
             | (apply RT.wr (h := by simp; exact Is.rfl) (he := rfl) (hh := by simp; exact Is.rfl) (hn := by exact Is.rfl) (hc := by exact Is.rfl) (hw := by simp; exact Is.rfl)))
           exact RT.nil
         case hc => (show _ = _; kernel_rfl)
         case ht => simp; exact Is.rfl)
      | apply WP.block
      | apply WP.skip
      | apply WP.exit
      | apply WP.ret)
    rw [hno]
    exact ⟨.inr rfl, _, _, rfl, rfl⟩

theorem refAsg_den : ∀ (N : Nat) (l : List Y) (nm : List UInt8), szY l < N → szY l ≤ MX → den Try.prog Hn.cfg 28 [dY l, dS nm] = some (.d (.bool (asgY nm l))) := by
  intro N
  induction N with
  | zero => intro l nm hN hl; omega
  | succ N ihN =>
  intro l nm hN hl
  have hll := len_szY l
  unfold MX at hl
  refine den_wp Try.func28 rfl (by kernel_rfl) rfl rfl ?_
  repeat (first
    | apply WP.seq
    | (apply WP.reg
       case hR => dsimp only [prepL, prepO, List.map, List.getElem?_cons_succ, List.getElem?_cons_zero]; exact Is.rfl
       case hr =>
         repeat (first
           | (apply RT.op (h := by simp; exact Is.rfl) (he := rfl))
           | (apply RT.call (hg := by simp; exact Is.rfl) (hfo := by simp; exact Is.rfl) (hvs := by simp; exact Is.rfl) (hcl := by simp; exact Is.rfl) (hd := by simp; exact Is.rfl) (hwr := by simp; exact Is.rfl) (hlt := by simp [Is]) (he := rfl) (hh := by simp; exact Is.rfl) (hw := by simp; exact Is.rfl))
           | (apply RT.wr (h := by simp; exact Is.rfl) (he := rfl) (hh := by simp; exact Is.rfl) (hn := by exact Is.rfl) (hc := by exact Is.rfl) (hw := by simp; exact Is.rfl)))
         exact RT.nil
       case hc => (show _ = _; kernel_rfl)
       case ht => simp; exact Is.rfl)
    | apply WP.block
    | apply WP.skip
    | apply WP.exit
    | apply WP.ret)
  apply WP.loop' (I := fun d s => ∃ i : Nat, i + d = l.length ∧ (l.take i).any (Y.asg nm) = false ∧ SE [(0, dY l), (1, dS nm), (5, dI i)] [] 0 s) (d := l.length)
  · exact ⟨0, by simp, by simp, SE.mk rfl rfl⟩
  rintro d _ ⟨i, hi, hno, c, rfl⟩
  repeat (first
    | apply WP.seq
    | (apply WP.reg
       case hR => dsimp only [prepL, prepO, List.map, List.getElem?_cons_succ, List.getElem?_cons_zero]; exact Is.rfl
       case hr =>
         repeat (first
           | (apply RT.op (h := by simp [dI, dY]; exact Is.rfl) (he := rfl))
           | (apply RT.call (hg := by simp; exact Is.rfl) (hfo := by simp; exact Is.rfl) (hvs := by simp [dI, dY]; exact Is.rfl) (hcl := by simp [dI, dY]; exact Is.rfl) (hd := by simp [dI, dY]; exact Is.rfl) (hwr := by simp [dI, dY]; exact Is.rfl) (hlt := by simp [Is]) (he := rfl) (hh := by simp; exact Is.rfl) (hw := by simp; exact Is.rfl))
           | (apply RT.wr (h := by simp [dI, dY]; exact Is.rfl) (he := rfl) (hh := by simp [dI, dY]; exact Is.rfl) (hn := by exact Is.rfl) (hc := by exact Is.rfl) (hw := by simp; exact Is.rfl)))
         exact RT.nil
       case hc => (show _ = _; kernel_rfl)
       case ht => simp [dI, dY]; exact Is.rfl)
    | apply WP.block
    | apply WP.skip
    | apply WP.exit
    | apply WP.ret)
  show WP _ _ _ _ _ _
  refine WP.cond _ rfl (fun hb => ?_) (fun hb => ?_)
  · simp at hb
    obtain ⟨y, hy, hym, hix⟩ := at_lt hb
    have hy' := encY_at hy
    have hw := w_succ hb (by omega)
    have hts := any_takeS (p := Y.asg nm) hy
    have hye := Y.asg_eq nm y
    have h1 := szY_takeS hy
    rw [Y.sz_eq] at h1
    have h3 := len_szB y.brs
    repeat (first
      | apply WP.seq
      | (apply WP.reg
         case hR => dsimp only [prepL, prepO, List.map, List.getElem?_cons_succ, List.getElem?_cons_zero]; exact Is.rfl
         case hr =>
           repeat (first
             | (apply RT.op (h := by simp [dY, hix, hy', Y.cells_eq]; exact Is.rfl) (he := rfl))
             | (apply RT.call (hg := by simp; exact Is.rfl) (hfo := by simp; exact Is.rfl) (hvs := by simp [dY, hix, hy', Y.cells_eq]; exact Is.rfl) (hcl := by simp [dY, hix, hy', Y.cells_eq]; exact Is.rfl) (hd := by simp [dY, hix, hy', Y.cells_eq]; exact Is.rfl) (hwr := by simp [dY, hix, hy', Y.cells_eq]; exact Is.rfl) (hlt := by simp [Is]) (he := rfl) (hh := by simp; exact Is.rfl) (hw := by simp; exact Is.rfl))
             | (apply RT.wr (h := by simp [dY, hix, hy', Y.cells_eq]; exact Is.rfl) (he := rfl) (hh := by simp [dY, hix, hy', Y.cells_eq]; exact Is.rfl) (hn := by exact Is.rfl) (hc := by exact Is.rfl) (hw := by simp; exact Is.rfl)))
           exact RT.nil
         case hc => (show _ = _; kernel_rfl)
         case ht => simp [dY, hix, hy', Y.cells_eq]; exact Is.rfl)
      | apply WP.block
      | apply WP.skip
      | apply WP.exit
      | apply WP.ret)
    show WP _ _ _ _ _ _
    refine WP.cond _ rfl (fun hb => ?_) (fun hb => ?_)
    · simp at hb
      repeat (first
        | apply WP.seq
        | (apply WP.reg
           case hR => dsimp only [prepL, prepO, List.map, List.getElem?_cons_succ, List.getElem?_cons_zero]; exact Is.rfl
           case hr =>
             repeat (first
               | (apply RT.op (h := by simp [dS]; exact Is.rfl) (he := rfl))
               | (apply RT.call (hg := by simp; exact Is.rfl) (hfo := by simp; exact Is.rfl) (hvs := by simp [dS]; exact Is.rfl) (hcl := by simp [dS]; exact Is.rfl) (hd := by simp [dS]; exact Is.rfl) (hwr := by simp [dS]; exact Is.rfl) (hlt := by simp [Is]) (he := rfl) (hh := by simp; exact Is.rfl) (hw := by simp; exact Is.rfl))
               | (apply RT.wr (h := by simp [dS]; exact Is.rfl) (he := rfl) (hh := by simp [dS]; exact Is.rfl) (hn := by exact Is.rfl) (hc := by exact Is.rfl) (hw := by simp; exact Is.rfl)))
             exact RT.nil
           case hc => (show _ = _; kernel_rfl)
           case ht => simp [dS]; exact Is.rfl)
        | apply WP.block
        | apply WP.skip
        | apply WP.exit
        | apply WP.ret)
      show WP _ _ _ _ _ _
      refine WP.cond _ rfl (fun hb => ?_) (fun hb => ?_)
      · repeat (first
          | apply WP.seq
          | (apply WP.reg
             case hR => dsimp only [prepL, prepO, List.map, List.getElem?_cons_succ, List.getElem?_cons_zero]; exact Is.rfl
             case hr =>
               repeat (first
                 | (apply RT.op (h := by simp; exact Is.rfl) (he := rfl))
                 | (apply RT.call (hg := by simp; exact Is.rfl) (hfo := by simp; exact Is.rfl) (hvs := by simp; exact Is.rfl) (hcl := by simp; exact Is.rfl) (hd := by simp; exact Is.rfl) (hwr := by simp; exact Is.rfl) (hlt := by simp [Is]) (he := rfl) (hh := by simp; exact Is.rfl) (hw := by simp; exact Is.rfl))
                 | (apply RT.wr (h := by simp; exact Is.rfl) (he := rfl) (hh := by simp; exact Is.rfl) (hn := by exact Is.rfl) (hc := by exact Is.rfl) (hw := by simp; exact Is.rfl)))
               exact RT.nil
             case hc => (show _ = _; kernel_rfl)
             case ht => simp; exact Is.rfl)
          | apply WP.block
          | apply WP.skip
          | apply WP.exit
          | apply WP.ret)
        have : asgY nm l = true := by
          rw [asgY_any]; refine any_hit hym ?_
          rw [hye, hb, ‹y.k = 1›]; rfl
        rw [this]
        exact ⟨.inr rfl, _, _, rfl, rfl⟩
      · repeat (first
          | apply WP.seq
          | (apply WP.reg
             case hR => dsimp only [prepL, prepO, List.map, List.getElem?_cons_succ, List.getElem?_cons_zero]; exact Is.rfl
             case hr =>
               repeat (first
                 | (apply RT.op (h := by simp; exact Is.rfl) (he := rfl))
                 | (apply RT.call (hg := by simp; exact Is.rfl) (hfo := by simp; exact Is.rfl) (hvs := by simp; exact Is.rfl) (hcl := by simp; exact Is.rfl) (hd := by simp; exact Is.rfl) (hwr := by simp; exact Is.rfl) (hlt := by simp [Is]) (he := rfl) (hh := by simp; exact Is.rfl) (hw := by simp; exact Is.rfl))
                 | (apply RT.wr (h := by simp; exact Is.rfl) (he := rfl) (hh := by simp; exact Is.rfl) (hn := by exact Is.rfl) (hc := by exact Is.rfl) (hw := by simp; exact Is.rfl)))
               exact RT.nil
             case hc => (show _ = _; kernel_rfl)
             case ht => simp; exact Is.rfl)
          | apply WP.block
          | apply WP.skip
          | apply WP.exit
          | apply WP.ret)
        refine loop_next (by simp; exact Is.rfl) ?_
        exact ⟨d - 1, by omega, i + 1, by omega, by rw [hts, hno, hye, hb, ‹y.k = 1›]; rfl, SE.mk (by simp [dI, hw, dY, dS]) rfl⟩
    · simp at hb
      repeat (first
        | apply WP.seq
        | (apply WP.reg
           case hR => dsimp only [prepL, prepO, List.map, List.getElem?_cons_succ, List.getElem?_cons_zero]; exact Is.rfl
           case hr =>
             repeat (first
               | (apply RT.op (h := by simp; exact Is.rfl) (he := rfl))
               | (apply RT.call (hg := by simp; exact Is.rfl) (hfo := by simp; exact Is.rfl) (hvs := by simp; exact Is.rfl) (hcl := by simp; exact Is.rfl) (hd := by simp; exact Is.rfl) (hwr := by simp; exact Is.rfl) (hlt := by simp [Is]) (he := rfl) (hh := by simp; exact Is.rfl) (hw := by simp; exact Is.rfl))
               | (apply RT.wr (h := by simp; exact Is.rfl) (he := rfl) (hh := by simp; exact Is.rfl) (hn := by exact Is.rfl) (hc := by exact Is.rfl) (hw := by simp; exact Is.rfl)))
             exact RT.nil
           case hc => (show _ = _; kernel_rfl)
           case ht => simp; exact Is.rfl)
        | apply WP.block
        | apply WP.skip
        | apply WP.exit
        | apply WP.ret)
      show WP _ _ _ _ _ _
      refine WP.cond _ rfl (fun hb => ?_) (fun hb => ?_)
      · simp at hb
        have hh := has_den y.outs nm (by unfold MX; omega)
        simp only [dN, dS] at hh
        repeat (first
          | apply WP.seq
          | (apply WP.reg
             case hR => dsimp only [prepL, prepO, List.map, List.getElem?_cons_succ, List.getElem?_cons_zero]; exact Is.rfl
             case hr =>
               repeat (first
                 | (apply RT.op (h := by simp [dS, hh]; exact Is.rfl) (he := rfl))
                 | (apply RT.call (hg := by simp; exact Is.rfl) (hfo := by simp; exact Is.rfl) (hvs := by simp [dS, hh]; exact Is.rfl) (hcl := by simp [dS, hh]; exact Is.rfl) (hd := by simp [dS, hh]; exact Is.rfl) (hwr := by simp [dS, hh]; exact Is.rfl) (hlt := by simp [Is]) (he := rfl) (hh := by simp; exact Is.rfl) (hw := by simp; exact Is.rfl))
                 | (apply RT.wr (h := by simp [dS, hh]; exact Is.rfl) (he := rfl) (hh := by simp [dS, hh]; exact Is.rfl) (hn := by exact Is.rfl) (hc := by exact Is.rfl) (hw := by simp; exact Is.rfl)))
               exact RT.nil
             case hc => (show _ = _; kernel_rfl)
             case ht => simp [dS, hh]; exact Is.rfl)
          | apply WP.block
          | apply WP.skip
          | apply WP.exit
          | apply WP.ret)
        show WP _ _ _ _ _ _
        refine WP.cond _ rfl (fun hb => ?_) (fun hb => ?_)
        · repeat (first
            | apply WP.seq
            | (apply WP.reg
               case hR => dsimp only [prepL, prepO, List.map, List.getElem?_cons_succ, List.getElem?_cons_zero]; exact Is.rfl
               case hr =>
                 repeat (first
                   | (apply RT.op (h := by simp; exact Is.rfl) (he := rfl))
                   | (apply RT.call (hg := by simp; exact Is.rfl) (hfo := by simp; exact Is.rfl) (hvs := by simp; exact Is.rfl) (hcl := by simp; exact Is.rfl) (hd := by simp; exact Is.rfl) (hwr := by simp; exact Is.rfl) (hlt := by simp [Is]) (he := rfl) (hh := by simp; exact Is.rfl) (hw := by simp; exact Is.rfl))
                   | (apply RT.wr (h := by simp; exact Is.rfl) (he := rfl) (hh := by simp; exact Is.rfl) (hn := by exact Is.rfl) (hc := by exact Is.rfl) (hw := by simp; exact Is.rfl)))
                 exact RT.nil
               case hc => (show _ = _; kernel_rfl)
               case ht => simp; exact Is.rfl)
            | apply WP.block
            | apply WP.skip
            | apply WP.exit
            | apply WP.ret)
          have : asgY nm l = true := by
            rw [asgY_any]; refine any_hit hym ?_
            rw [hye, hb, ‹y.k = 4›]; rfl
          rw [this]
          exact ⟨.inr rfl, _, _, rfl, rfl⟩
        · repeat (first
            | apply WP.seq
            | (apply WP.reg
               case hR => dsimp only [prepL, prepO, List.map, List.getElem?_cons_succ, List.getElem?_cons_zero]; exact Is.rfl
               case hr =>
                 repeat (first
                   | (apply RT.op (h := by simp; exact Is.rfl) (he := rfl))
                   | (apply RT.call (hg := by simp; exact Is.rfl) (hfo := by simp; exact Is.rfl) (hvs := by simp; exact Is.rfl) (hcl := by simp; exact Is.rfl) (hd := by simp; exact Is.rfl) (hwr := by simp; exact Is.rfl) (hlt := by simp [Is]) (he := rfl) (hh := by simp; exact Is.rfl) (hw := by simp; exact Is.rfl))
                   | (apply RT.wr (h := by simp; exact Is.rfl) (he := rfl) (hh := by simp; exact Is.rfl) (hn := by exact Is.rfl) (hc := by exact Is.rfl) (hw := by simp; exact Is.rfl)))
                 exact RT.nil
               case hc => (show _ = _; kernel_rfl)
               case ht => simp; exact Is.rfl)
            | apply WP.block
            | apply WP.skip
            | apply WP.exit
            | apply WP.ret)
          refine loop_next (by simp; exact Is.rfl) ?_
          exact ⟨d - 1, by omega, i + 1, by omega, by rw [hts, hno, hye, hb, ‹y.k = 4›]; rfl, SE.mk (by simp [dI, hw, dY, dS]) rfl⟩
      · simp at hb
        repeat (first
          | apply WP.seq
          | (apply WP.reg
             case hR => dsimp only [prepL, prepO, List.map, List.getElem?_cons_succ, List.getElem?_cons_zero]; exact Is.rfl
             case hr =>
               repeat (first
                 | (apply RT.op (h := by simp; exact Is.rfl) (he := rfl))
                 | (apply RT.call (hg := by simp; exact Is.rfl) (hfo := by simp; exact Is.rfl) (hvs := by simp; exact Is.rfl) (hcl := by simp; exact Is.rfl) (hd := by simp; exact Is.rfl) (hwr := by simp; exact Is.rfl) (hlt := by simp [Is]) (he := rfl) (hh := by simp; exact Is.rfl) (hw := by simp; exact Is.rfl))
                 | (apply RT.wr (h := by simp; exact Is.rfl) (he := rfl) (hh := by simp; exact Is.rfl) (hn := by exact Is.rfl) (hc := by exact Is.rfl) (hw := by simp; exact Is.rfl)))
               exact RT.nil
             case hc => (show _ = _; kernel_rfl)
             case ht => simp; exact Is.rfl)
          | apply WP.block
          | apply WP.skip
          | apply WP.exit
          | apply WP.ret)
        show WP _ _ _ _ _ _
        refine WP.cond _ rfl (fun hb => ?_) (fun hb => ?_)
        · simp at hb
          repeat (first
            | apply WP.seq
            | (apply WP.reg
               case hR => dsimp only [prepL, prepO, List.map, List.getElem?_cons_succ, List.getElem?_cons_zero]; exact Is.rfl
               case hr =>
                 repeat (first
                   | (apply RT.op (h := by simp; exact Is.rfl) (he := rfl))
                   | (apply RT.call (hg := by simp; exact Is.rfl) (hfo := by simp; exact Is.rfl) (hvs := by simp; exact Is.rfl) (hcl := by simp; exact Is.rfl) (hd := by simp; exact Is.rfl) (hwr := by simp; exact Is.rfl) (hlt := by simp [Is]) (he := rfl) (hh := by simp; exact Is.rfl) (hw := by simp; exact Is.rfl))
                   | (apply RT.wr (h := by simp; exact Is.rfl) (he := rfl) (hh := by simp; exact Is.rfl) (hn := by exact Is.rfl) (hc := by exact Is.rfl) (hw := by simp; exact Is.rfl)))
                 exact RT.nil
               case hc => (show _ = _; kernel_rfl)
               case ht => simp; exact Is.rfl)
            | apply WP.block
            | apply WP.skip
            | apply WP.exit
            | apply WP.ret)
          apply WP.loop' (I := fun d s => ∃ j : Nat, j + d = y.brs.length ∧ (y.brs.take j).any (asgY nm) = false ∧ ∃ g c, s = ⟨[(0, dY l), (1, dS nm), (5, dI i), (6, .ptr 0 g 0), (7, dI j)], [(0, ⟨g, false, y.cells.map .d⟩)], 1, c, 0, []⟩) (d := y.brs.length)
          · exact ⟨0, by simp, by simp, _, _, by rw [Y.cells_eq]; rfl⟩
          rintro d2 _ ⟨j, hj, hnj, g, c, rfl⟩
          repeat (first
            | apply WP.seq
            | (apply WP.reg
               case hR => dsimp only [prepL, prepO, List.map, List.getElem?_cons_succ, List.getElem?_cons_zero]; exact Is.rfl
               case hr =>
                 repeat (first
                   | (apply RT.op (h := by simp [dI, dY, Y.cells_eq]; exact Is.rfl) (he := rfl))
                   | (apply RT.call (hg := by simp; exact Is.rfl) (hfo := by simp; exact Is.rfl) (hvs := by simp [dI, dY, Y.cells_eq]; exact Is.rfl) (hcl := by simp [dI, dY, Y.cells_eq]; exact Is.rfl) (hd := by simp [dI, dY, Y.cells_eq]; exact Is.rfl) (hwr := by simp [dI, dY, Y.cells_eq]; exact Is.rfl) (hlt := by simp [Is]) (he := rfl) (hh := by simp; exact Is.rfl) (hw := by simp; exact Is.rfl))
                   | (apply RT.wr (h := by simp [dI, dY, Y.cells_eq]; exact Is.rfl) (he := rfl) (hh := by simp [dI, dY, Y.cells_eq]; exact Is.rfl) (hn := by exact Is.rfl) (hc := by exact Is.rfl) (hw := by simp; exact Is.rfl)))
                 exact RT.nil
               case hc => (show _ = _; kernel_rfl)
               case ht => simp [dI, dY, Y.cells_eq]; exact Is.rfl)
            | apply WP.block
            | apply WP.skip
            | apply WP.exit
            | apply WP.ret)
          show WP _ _ _ _ _ _
          refine WP.cond _ rfl (fun hb => ?_) (fun hb => ?_)
          · simp at hb
            obtain ⟨b, hbr, hbm, hbx⟩ := at_lt hb
            have hb' := encB_at hbr
            have h2 := mem_szB hbm
            have hw2 := w_succ hb (by omega)
            have ih := ihN b nm (by omega) (by unfold MX; omega)
            simp only [dY, dI, dS] at ih
            have hH := any_takeS (p := asgY nm) hbr
            repeat (first
              | apply WP.seq
              | (apply WP.reg
                 case hR => dsimp only [prepL, prepO, List.map, List.getElem?_cons_succ, List.getElem?_cons_zero]; exact Is.rfl
                 case hr =>
                   repeat (first
                     | (apply RT.op (h := by simp [dY, dS, Y.cells_eq, hbx, hb', ih]; exact Is.rfl) (he := rfl))
                     | (apply RT.call (hg := by simp; exact Is.rfl) (hfo := by simp; exact Is.rfl) (hvs := by simp [dY, dS, Y.cells_eq, hbx, hb', ih]; exact Is.rfl) (hcl := by simp [dY, dS, Y.cells_eq, hbx, hb', ih]; exact Is.rfl) (hd := by simp [dY, dS, Y.cells_eq, hbx, hb', ih]; exact Is.rfl) (hwr := by simp [dY, dS, Y.cells_eq, hbx, hb', ih]; exact Is.rfl) (hlt := by simp [Is]) (he := rfl) (hh := by simp; exact Is.rfl) (hw := by simp; exact Is.rfl))
                     | (apply RT.wr (h := by simp [dY, dS, Y.cells_eq, hbx, hb', ih]; exact Is.rfl) (he := rfl) (hh := by simp [dY, dS, Y.cells_eq, hbx, hb', ih]; exact Is.rfl) (hn := by exact Is.rfl) (hc := by exact Is.rfl) (hw := by simp; exact Is.rfl)))
                   exact RT.nil
                 case hc => (show _ = _; kernel_rfl)
                 case ht => simp [dY, dS, Y.cells_eq, hbx, hb', ih]; exact Is.rfl)
              | apply WP.block
              | apply WP.skip
              | apply WP.exit
              | apply WP.ret)
            show WP _ _ _ _ _ _
            refine WP.cond _ rfl (fun hb => ?_) (fun hb => ?_)
            · repeat (first
                | apply WP.seq
                | (apply WP.reg
                   case hR => dsimp only [prepL, prepO, List.map, List.getElem?_cons_succ, List.getElem?_cons_zero]; exact Is.rfl
                   case hr =>
                     repeat (first
                       | (apply RT.op (h := by simp; exact Is.rfl) (he := rfl))
                       | (apply RT.call (hg := by simp; exact Is.rfl) (hfo := by simp; exact Is.rfl) (hvs := by simp; exact Is.rfl) (hcl := by simp; exact Is.rfl) (hd := by simp; exact Is.rfl) (hwr := by simp; exact Is.rfl) (hlt := by simp [Is]) (he := rfl) (hh := by simp; exact Is.rfl) (hw := by simp; exact Is.rfl))
                       | (apply RT.wr (h := by simp; exact Is.rfl) (he := rfl) (hh := by simp; exact Is.rfl) (hn := by exact Is.rfl) (hc := by exact Is.rfl) (hw := by simp; exact Is.rfl)))
                     exact RT.nil
                   case hc => (show _ = _; kernel_rfl)
                   case ht => simp; exact Is.rfl)
                | apply WP.block
                | apply WP.skip
                | apply WP.exit
                | apply WP.ret)
              have : asgY nm l = true := by
                rw [asgY_any]; refine any_hit hym ?_
                rw [hye, asgB_any, any_hit hbm hb, ‹y.k = 3›]; simp
              rw [this]
              exact ⟨.inr rfl, _, _, rfl, rfl⟩
            · repeat (first
                | apply WP.seq
                | (apply WP.reg
                   case hR => dsimp only [prepL, prepO, List.map, List.getElem?_cons_succ, List.getElem?_cons_zero]; exact Is.rfl
                   case hr =>
                     repeat (first
                       | (apply RT.op (h := by simp; exact Is.rfl) (he := rfl))
                       | (apply RT.call (hg := by simp; exact Is.rfl) (hfo := by simp; exact Is.rfl) (hvs := by simp; exact Is.rfl) (hcl := by simp; exact Is.rfl) (hd := by simp; exact Is.rfl) (hwr := by simp; exact Is.rfl) (hlt := by simp [Is]) (he := rfl) (hh := by simp; exact Is.rfl) (hw := by simp; exact Is.rfl))
                       | (apply RT.wr (h := by simp; exact Is.rfl) (he := rfl) (hh := by simp; exact Is.rfl) (hn := by exact Is.rfl) (hc := by exact Is.rfl) (hw := by simp; exact Is.rfl)))
                     exact RT.nil
                   case hc => (show _ = _; kernel_rfl)
                   case ht => simp; exact Is.rfl)
                | apply WP.block
                | apply WP.skip
                | apply WP.exit
                | apply WP.ret)
              refine loop_next (by simp; exact Is.rfl) ?_
              exact ⟨d2 - 1, by omega, j + 1, by omega, by rw [hH, hnj, hb]; rfl, g, _, st_eq (by simp [dI, dY, dS, hw2]) (by simp [Y.cells_eq])⟩
          · simp at hb
            have : y.brs.take j = y.brs := by rw [List.take_of_length_le hb]
            rw [this] at hnj
            repeat (first
              | apply WP.seq
              | (apply WP.reg
                 case hR => dsimp only [prepL, prepO, List.map, List.getElem?_cons_succ, List.getElem?_cons_zero]; exact Is.rfl
                 case hr =>
                   repeat (first
                     | (apply RT.op (h := by simp; exact Is.rfl) (he := rfl))
                     | (apply RT.call (hg := by simp; exact Is.rfl) (hfo := by simp; exact Is.rfl) (hvs := by simp; exact Is.rfl) (hcl := by simp; exact Is.rfl) (hd := by simp; exact Is.rfl) (hwr := by simp; exact Is.rfl) (hlt := by simp [Is]) (he := rfl) (hh := by simp; exact Is.rfl) (hw := by simp; exact Is.rfl))
                     | (apply RT.wr (h := by simp; exact Is.rfl) (he := rfl) (hh := by simp; exact Is.rfl) (hn := by exact Is.rfl) (hc := by exact Is.rfl) (hw := by simp; exact Is.rfl)))
                   exact RT.nil
                 case hc => (show _ = _; kernel_rfl)
                 case ht => simp; exact Is.rfl)
              | apply WP.block
              | apply WP.skip
              | apply WP.exit
              | apply WP.ret)
            refine loop_next (by simp; exact Is.rfl) ?_
            exact ⟨d - 1, by omega, i + 1, by omega, by rw [hts, hno, hye, asgB_any, hnj, ‹y.k = 3›]; simp, SE.mk (by simp [dI, hw, dY, dS]) rfl⟩
        · simp at hb
          repeat (first
            | apply WP.seq
            | (apply WP.reg
               case hR => dsimp only [prepL, prepO, List.map, List.getElem?_cons_succ, List.getElem?_cons_zero]; exact Is.rfl
               case hr =>
                 repeat (first
                   | (apply RT.op (h := by simp; exact Is.rfl) (he := rfl))
                   | (apply RT.call (hg := by simp; exact Is.rfl) (hfo := by simp; exact Is.rfl) (hvs := by simp; exact Is.rfl) (hcl := by simp; exact Is.rfl) (hd := by simp; exact Is.rfl) (hwr := by simp; exact Is.rfl) (hlt := by simp [Is]) (he := rfl) (hh := by simp; exact Is.rfl) (hw := by simp; exact Is.rfl))
                   | (apply RT.wr (h := by simp; exact Is.rfl) (he := rfl) (hh := by simp; exact Is.rfl) (hn := by exact Is.rfl) (hc := by exact Is.rfl) (hw := by simp; exact Is.rfl)))
                 exact RT.nil
               case hc => (show _ = _; kernel_rfl)
               case ht => simp; exact Is.rfl)
            | apply WP.block
            | apply WP.skip
            | apply WP.exit
            | apply WP.ret)
          refine loop_next (by simp; exact Is.rfl) ?_
          exact ⟨d - 1, by omega, i + 1, by omega, by rw [hts, hno, hye]; simp [*], SE.mk (by simp [dI, hw, dY, dS]) rfl⟩
  · simp at hb
    have : l.take i = l := by rw [List.take_of_length_le hb]
    rw [this] at hno
    repeat (first
      | apply WP.seq
      | (apply WP.reg
         case hR => dsimp only [prepL, prepO, List.map, List.getElem?_cons_succ, List.getElem?_cons_zero]; exact Is.rfl
         case hr =>
           repeat (first
             | (apply RT.op (h := by simp [dY]; exact Is.rfl) (he := rfl))
             | (apply RT.call (hg := by simp; exact Is.rfl) (hfo := by simp; exact Is.rfl) (hvs := by simp [dY]; exact Is.rfl) (hcl := by simp [dY]; exact Is.rfl) (hd := by simp [dY]; exact Is.rfl) (hwr := by simp [dY]; exact Is.rfl) (hlt := by simp [Is]) (he := rfl) (hh := by simp; exact Is.rfl) (hw := by simp; exact Is.rfl))
             | (apply RT.wr (h := by simp [dY]; exact Is.rfl) (he := rfl) (hh := by simp [dY]; exact Is.rfl) (hn := by exact Is.rfl) (hc := by exact Is.rfl) (hw := by simp; exact Is.rfl)))
           exact RT.nil
         case hc => (show _ = _; kernel_rfl)
         case ht => simp [dY]; exact Is.rfl)
      | apply WP.block
      | apply WP.skip
      | apply WP.exit
      | apply WP.ret)
    rw [asgY_any, hno]
    exact ⟨.inr rfl, _, _, rfl, rfl⟩
end Go.Ab
