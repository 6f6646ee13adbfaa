/- Is a case empty: of the program. Variables of expressions. -/
import Derived.Test.YtofbmhmdpeclnaaFuK
set_option linter.unusedVariables false
set_option linter.unusedSimpArgs false
set_option maxRecDepth 4000
set_option linter.unusedSimpArgs false
set_option linter.unusedVariables false
namespace Go.Ab
open Go.Proofs
attribute [simp] toDs chunk encY encX encB

def fitR (a b : Y) : Bool := (a.k == 3) && (a.nm == b.nm) && (a.t == b.t) && (a.brs.length == b.brs.length) && !asgY a.nm [a]

theorem bne_of {α : Type} [BEq α] [LawfulBEq α] {a b : α} (h : ¬ a = b) : (a != b) = true ∧ (a == b) = false := by
  have : (a == b) = false := by cases hb : a == b with | false => rfl | true => exact absurd (eq_of_beq hb) h
  exact ⟨by rw [bne, this]; rfl, this⟩

theorem mates_den (a b : Y) (ha : a.sz ≤ MX) (hb : b.sz ≤ MX) : den Try.prog Hn.cfg 24 [aY a, aY b] = some (.d (.bool (fitR a b))) := by
  have h1 := refAsg_den (szY [a] + 1) [a] a.nm (by omega) (by simp [szY]; exact ha)
  refine den_wp Try.func24 rfl (by kernel_rfl) rfl rfl ?_
  repeat (first
    | apply WP.seq
    | (apply WP.reg
       case hR => dsimp only [prepL, prepO, List.map, List.getElem?_cons_succ, List.getElem?_cons_zero]; exact Is.rfl
       case hr =>
         repeat (first
           | (apply RT.op (h := by simp [aY, envOf, Y.cells_eq]; exact Is.rfl) (he := rfl))
           | (apply RT.call (hg := by simp; exact Is.rfl) (hfo := by simp; exact Is.rfl) (hvs := by simp [aY, envOf, Y.cells_eq]; exact Is.rfl) (hcl := by simp [aY, envOf, Y.cells_eq]; exact Is.rfl) (hd := by simp [aY, envOf, Y.cells_eq]; exact Is.rfl) (hwr := by simp [aY, envOf, Y.cells_eq]; exact Is.rfl) (hlt := by simp [Is]) (he := rfl) (hh := by simp; exact Is.rfl) (hw := by simp; exact Is.rfl))
           | (apply RT.wr (h := by simp [aY, envOf, Y.cells_eq]; exact Is.rfl) (he := rfl) (hh := by simp [aY, envOf, Y.cells_eq]; exact Is.rfl) (hn := by exact Is.rfl) (hc := by exact Is.rfl) (hw := by simp; exact Is.rfl)))
         exact RT.nil
       case hc => (show _ = _; kernel_rfl)
       case ht => simp [aY, envOf, Y.cells_eq]; exact Is.rfl)
    | apply WP.block
    | apply WP.skip
    | apply WP.exit
    | apply WP.ret)
  by_cases h2 : a.k = 3
  · by_cases h3 : a.nm = b.nm
    · by_cases h4 : a.t = b.t
      · by_cases h5 : a.brs.length = b.brs.length
        · simp [dY, dS, Y.cells_eq, h2, h3, h4] at h1
          repeat (first
            | apply WP.seq
            | (apply WP.reg
               case hR => dsimp only [prepL, prepO, List.map, List.getElem?_cons_succ, List.getElem?_cons_zero]; exact Is.rfl
               case hr =>
                 repeat (first
                   | (apply RT.op (h := by simp [h2, h3, h4, h5]; exact Is.rfl) (he := rfl))
                   | (apply RT.call (hg := by simp; exact Is.rfl) (hfo := by simp; exact Is.rfl) (hvs := by simp [h2, h3, h4, h5]; exact Is.rfl) (hcl := by simp [h2, h3, h4, h5]; exact Is.rfl) (hd := by simp [h2, h3, h4, h5]; exact Is.rfl) (hwr := by simp [h2, h3, h4, h5]; exact Is.rfl) (hlt := by simp [Is]) (he := rfl) (hh := by simp; exact Is.rfl) (hw := by simp; exact Is.rfl))
                   | (apply RT.wr (h := by simp [h2, h3, h4, h5]; exact Is.rfl) (he := rfl) (hh := by simp [h2, h3, h4, h5]; exact Is.rfl) (hn := by exact Is.rfl) (hc := by exact Is.rfl) (hw := by simp; exact Is.rfl)))
                 exact RT.nil
               case hc => (show _ = _; kernel_rfl)
               case ht => simp [h2, h3, h4, h5]; exact Is.rfl)
            | apply WP.block
            | apply WP.skip
            | apply WP.exit
            | apply WP.ret)
          show WP _ _ _ _ _ _
          refine WP.cond _ rfl (fun hb => ?_) (fun hb => ?_)
          · simp at hb
          repeat (first
            | apply WP.seq
            | (apply WP.reg
               case hR => dsimp only [prepL, prepO, List.map, List.getElem?_cons_succ, List.getElem?_cons_zero]; exact Is.rfl
               case hr =>
                 repeat (first
                   | (apply RT.op (h := by simp [h1]; exact Is.rfl) (he := rfl))
                   | (apply RT.call (hg := by simp; exact Is.rfl) (hfo := by simp; exact Is.rfl) (hvs := by simp [h1]; exact Is.rfl) (hcl := by simp [h1]; exact Is.rfl) (hd := by simp [h1]; exact Is.rfl) (hwr := by simp [h1]; exact Is.rfl) (hlt := by simp [Is]) (he := rfl) (hh := by simp; exact Is.rfl) (hw := by simp; exact Is.rfl))
                   | (apply RT.wr (h := by simp [h1]; exact Is.rfl) (he := rfl) (hh := by simp [h1]; exact Is.rfl) (hn := by exact Is.rfl) (hc := by exact Is.rfl) (hw := by simp; exact Is.rfl)))
                 exact RT.nil
               case hc => (show _ = _; kernel_rfl)
               case ht => simp [h1]; exact Is.rfl)
            | apply WP.block
            | apply WP.skip
            | apply WP.exit
            | apply WP.ret)
          rw [show fitR a b = !asgY b.nm [a] by simp [fitR, h2, h3, h4, h5]]
          exact ⟨.inr rfl, _, _, rfl, rfl⟩
        · have h6 := bne_of (a := (a.brs.length : Int)) (b := (b.brs.length : Int)) (by omega)
          repeat (first
            | apply WP.seq
            | (apply WP.reg
               case hR => dsimp only [prepL, prepO, List.map, List.getElem?_cons_succ, List.getElem?_cons_zero]; exact Is.rfl
               case hr =>
                 repeat (first
                   | (apply RT.op (h := by simp [h2, h3, h4, h6.1, h6.2]; exact Is.rfl) (he := rfl))
                   | (apply RT.call (hg := by simp; exact Is.rfl) (hfo := by simp; exact Is.rfl) (hvs := by simp [h2, h3, h4, h6.1, h6.2]; exact Is.rfl) (hcl := by simp [h2, h3, h4, h6.1, h6.2]; exact Is.rfl) (hd := by simp [h2, h3, h4, h6.1, h6.2]; exact Is.rfl) (hwr := by simp [h2, h3, h4, h6.1, h6.2]; exact Is.rfl) (hlt := by simp [Is]) (he := rfl) (hh := by simp; exact Is.rfl) (hw := by simp; exact Is.rfl))
                   | (apply RT.wr (h := by simp [h2, h3, h4, h6.1, h6.2]; exact Is.rfl) (he := rfl) (hh := by simp [h2, h3, h4, h6.1, h6.2]; exact Is.rfl) (hn := by exact Is.rfl) (hc := by exact Is.rfl) (hw := by simp; exact Is.rfl)))
                 exact RT.nil
               case hc => (show _ = _; kernel_rfl)
               case ht => simp [h2, h3, h4, h6.1, h6.2]; exact Is.rfl)
            | apply WP.block
            | apply WP.skip
            | apply WP.exit
            | apply WP.ret)
          show WP _ _ _ _ _ _
          refine WP.cond _ rfl (fun hb => ?_) (fun hb => ?_)
          · repeat (first
              | apply WP.seq
              | (apply WP.reg
                 case hR => dsimp only [prepL, prepO, List.map, List.getElem?_cons_succ, List.getElem?_cons_zero]; exact Is.rfl
                 case hr =>
                   repeat (first
                     | (apply RT.op (h := by simp; exact Is.rfl) (he := rfl))
                     | (apply RT.call (hg := by simp; exact Is.rfl) (hfo := by simp; exact Is.rfl) (hvs := by simp; exact Is.rfl) (hcl := by simp; exact Is.rfl) (hd := by simp; exact Is.rfl) (hwr := by simp; exact Is.rfl) (hlt := by simp [Is]) (he := rfl) (hh := by simp; exact Is.rfl) (hw := by simp; exact Is.rfl))
                     | (apply RT.wr (h := by simp; exact Is.rfl) (he := rfl) (hh := by simp; exact Is.rfl) (hn := by exact Is.rfl) (hc := by exact Is.rfl) (hw := by simp; exact Is.rfl)))
                   exact RT.nil
                 case hc => (show _ = _; kernel_rfl)
                 case ht => simp; exact Is.rfl)
              | apply WP.block
              | apply WP.skip
              | apply WP.exit
              | apply WP.ret)
            rw [show fitR a b = false by simp [fitR, h2, h3, h4, h5]]
            exact ⟨.inr rfl, _, _, rfl, rfl⟩
          · simp at hb
      · have h6 := bne_of h4
        repeat (first
          | apply WP.seq
          | (apply WP.reg
             case hR => dsimp only [prepL, prepO, List.map, List.getElem?_cons_succ, List.getElem?_cons_zero]; exact Is.rfl
             case hr =>
               repeat (first
                 | (apply RT.op (h := by simp [h2, h3, h4, h6.1, h6.2]; exact Is.rfl) (he := rfl))
                 | (apply RT.call (hg := by simp; exact Is.rfl) (hfo := by simp; exact Is.rfl) (hvs := by simp [h2, h3, h4, h6.1, h6.2]; exact Is.rfl) (hcl := by simp [h2, h3, h4, h6.1, h6.2]; exact Is.rfl) (hd := by simp [h2, h3, h4, h6.1, h6.2]; exact Is.rfl) (hwr := by simp [h2, h3, h4, h6.1, h6.2]; exact Is.rfl) (hlt := by simp [Is]) (he := rfl) (hh := by simp; exact Is.rfl) (hw := by simp; exact Is.rfl))
                 | (apply RT.wr (h := by simp [h2, h3, h4, h6.1, h6.2]; exact Is.rfl) (he := rfl) (hh := by simp [h2, h3, h4, h6.1, h6.2]; exact Is.rfl) (hn := by exact Is.rfl) (hc := by exact Is.rfl) (hw := by simp; exact Is.rfl)))
               exact RT.nil
             case hc => (show _ = _; kernel_rfl)
             case ht => simp [h2, h3, h4, h6.1, h6.2]; exact Is.rfl)
          | apply WP.block
          | apply WP.skip
          | apply WP.exit
          | apply WP.ret)
        show WP _ _ _ _ _ _
        refine WP.cond _ rfl (fun hb => ?_) (fun hb => ?_)
        · repeat (first
            | apply WP.seq
            | (apply WP.reg
               case hR => dsimp only [prepL, prepO, List.map, List.getElem?_cons_succ, List.getElem?_cons_zero]; exact Is.rfl
               case hr =>
                 repeat (first
                   | (apply RT.op (h := by simp; exact Is.rfl) (he := rfl))
                   | (apply RT.call (hg := by simp; exact Is.rfl) (hfo := by simp; exact Is.rfl) (hvs := by simp; exact Is.rfl) (hcl := by simp; exact Is.rfl) (hd := by simp; exact Is.rfl) (hwr := by simp; exact Is.rfl) (hlt := by simp [Is]) (he := rfl) (hh := by simp; exact Is.rfl) (hw := by simp; exact Is.rfl))
                   | (apply RT.wr (h := by simp; exact Is.rfl) (he := rfl) (hh := by simp; exact Is.rfl) (hn := by exact Is.rfl) (hc := by exact Is.rfl) (hw := by simp; exact Is.rfl)))
                 exact RT.nil
               case hc => (show _ = _; kernel_rfl)
               case ht => simp; exact Is.rfl)
            | apply WP.block
            | apply WP.skip
            | apply WP.exit
            | apply WP.ret)
          rw [show fitR a b = false by simp [fitR, h2, h3, h4]]
          exact ⟨.inr rfl, _, _, rfl, rfl⟩
        · simp at hb
    · have h6 := bne_of h3
      repeat (first
        | apply WP.seq
        | (apply WP.reg
           case hR => dsimp only [prepL, prepO, List.map, List.getElem?_cons_succ, List.getElem?_cons_zero]; exact Is.rfl
           case hr =>
             repeat (first
               | (apply RT.op (h := by simp [h2, h3, h6.1, h6.2]; exact Is.rfl) (he := rfl))
               | (apply RT.call (hg := by simp; exact Is.rfl) (hfo := by simp; exact Is.rfl) (hvs := by simp [h2, h3, h6.1, h6.2]; exact Is.rfl) (hcl := by simp [h2, h3, h6.1, h6.2]; exact Is.rfl) (hd := by simp [h2, h3, h6.1, h6.2]; exact Is.rfl) (hwr := by simp [h2, h3, h6.1, h6.2]; exact Is.rfl) (hlt := by simp [Is]) (he := rfl) (hh := by simp; exact Is.rfl) (hw := by simp; exact Is.rfl))
               | (apply RT.wr (h := by simp [h2, h3, h6.1, h6.2]; exact Is.rfl) (he := rfl) (hh := by simp [h2, h3, h6.1, h6.2]; exact Is.rfl) (hn := by exact Is.rfl) (hc := by exact Is.rfl) (hw := by simp; exact Is.rfl)))
             exact RT.nil
           case hc => (show _ = _; kernel_rfl)
           case ht => simp [h2, h3, h6.1, h6.2]; exact Is.rfl)
        | apply WP.block
        | apply WP.skip
        | apply WP.exit
        | apply WP.ret)
      show WP _ _ _ _ _ _
      refine WP.cond _ rfl (fun hb => ?_) (fun hb => ?_)
      · repeat (first
          | apply WP.seq
          | (apply WP.reg
             case hR => dsimp only [prepL, prepO, List.map, List.getElem?_cons_succ, List.getElem?_cons_zero]; exact Is.rfl
             case hr =>
               repeat (first
                 | (apply RT.op (h := by simp; exact Is.rfl) (he := rfl))
                 | (apply RT.call (hg := by simp; exact Is.rfl) (hfo := by simp; exact Is.rfl) (hvs := by simp; exact Is.rfl) (hcl := by simp; exact Is.rfl) (hd := by simp; exact Is.rfl) (hwr := by simp; exact Is.rfl) (hlt := by simp [Is]) (he := rfl) (hh := by simp; exact Is.rfl) (hw := by simp; exact Is.rfl))
                 | (apply RT.wr (h := by simp; exact Is.rfl) (he := rfl) (hh := by simp; exact Is.rfl) (hn := by exact Is.rfl) (hc := by exact Is.rfl) (hw := by simp; exact Is.rfl)))
               exact RT.nil
             case hc => (show _ = _; kernel_rfl)
             case ht => simp; exact Is.rfl)
          | apply WP.block
          | apply WP.skip
          | apply WP.exit
          | apply WP.ret)
        rw [show fitR a b = false by simp [fitR, h2, h3]]
        exact ⟨.inr rfl, _, _, rfl, rfl⟩
      · simp at hb
  · have h6 := bne_of h2
    repeat (first
      | apply WP.seq
      | (apply WP.reg
         case hR => dsimp only [prepL, prepO, List.map, List.getElem?_cons_succ, List.getElem?_cons_zero]; exact Is.rfl
         case hr =>
           repeat (first
             | (apply RT.op (h := by simp [h2, h6.1, h6.2]; exact Is.rfl) (he := rfl))
             | (apply RT.call (hg := by simp; exact Is.rfl) (hfo := by simp; exact Is.rfl) (hvs := by simp [h2, h6.1, h6.2]; exact Is.rfl) (hcl := by simp [h2, h6.1, h6.2]; exact Is.rfl) (hd := by simp [h2, h6.1, h6.2]; exact Is.rfl) (hwr := by simp [h2, h6.1, h6.2]; exact Is.rfl) (hlt := by simp [Is]) (he := rfl) (hh := by simp; exact Is.rfl) (hw := by simp; exact Is.rfl))
             | (apply RT.wr (h := by simp [h2, h6.1, h6.2]; exact Is.rfl) (he := rfl) (hh := by simp [h2, h6.1, h6.2]; exact Is.rfl) (hn := by exact Is.rfl) (hc := by exact Is.rfl) (hw := by simp; exact Is.rfl)))
           exact RT.nil
         case hc => (show _ = _; kernel_rfl)
         case ht => simp [h2, h6.1, h6.2]; exact Is.rfl)
      | apply WP.block
      | apply WP.skip
      | apply WP.exit
      | apply WP.ret)
    show WP _ _ _ _ _ _
    refine WP.cond _ rfl (fun hb => ?_) (fun hb => ?_)
    · repeat (first
        | apply WP.seq
        | (apply WP.reg
           case hR => dsimp only [prepL, prepO, List.map, List.getElem?_cons_succ, List.getElem?_cons_zero]; exact Is.rfl
           case hr =>
             repeat (first
               | (apply RT.op (h := by simp; exact Is.rfl) (he := rfl))
               | (apply RT.call (hg := by simp; exact Is.rfl) (hfo := by simp; exact Is.rfl) (hvs := by simp; exact Is.rfl) (hcl := by simp; exact Is.rfl) (hd := by simp; exact Is.rfl) (hwr := by simp; exact Is.rfl) (hlt := by simp [Is]) (he := rfl) (hh := by simp; exact Is.rfl) (hw := by simp; exact Is.rfl))
               | (apply RT.wr (h := by simp; exact Is.rfl) (he := rfl) (hh := by simp; exact Is.rfl) (hn := by exact Is.rfl) (hc := by exact Is.rfl) (hw := by simp; exact Is.rfl)))
             exact RT.nil
           case hc => (show _ = _; kernel_rfl)
           case ht => simp; exact Is.rfl)
        | apply WP.block
        | apply WP.skip
        | apply WP.exit
        | apply WP.ret)
      rw [show fitR a b = false by simp [fitR, h2]]
      exact ⟨.inr rfl, _, _, rfl, rfl⟩
    · simp at hb

theorem empty1_den (b : List Y) : den Try.prog Hn.cfg 30 [dY b] = some (.d (.bool (decide (0 < b.length)))) := by
  refine den_wp Try.func30 rfl (by kernel_rfl) rfl rfl ?_
  repeat (first
    | apply WP.seq
    | (apply WP.reg
       case hR => dsimp only [prepL, prepO, List.map, List.getElem?_cons_succ, List.getElem?_cons_zero]; exact Is.rfl
       case hr =>
         repeat (first
           | (apply RT.op (h := by simp [envOf, dY]; exact Is.rfl) (he := rfl))
           | (apply RT.call (hg := by simp; exact Is.rfl) (hfo := by simp; exact Is.rfl) (hvs := by simp [envOf, dY]; exact Is.rfl) (hcl := by simp [envOf, dY]; exact Is.rfl) (hd := by simp [envOf, dY]; exact Is.rfl) (hwr := by simp [envOf, dY]; exact Is.rfl) (hlt := by simp [Is]) (he := rfl) (hh := by simp; exact Is.rfl) (hw := by simp; exact Is.rfl))
           | (apply RT.wr (h := by simp [envOf, dY]; exact Is.rfl) (he := rfl) (hh := by simp [envOf, dY]; exact Is.rfl) (hn := by exact Is.rfl) (hc := by exact Is.rfl) (hw := by simp; exact Is.rfl)))
         exact RT.nil
       case hc => (show _ = _; kernel_rfl)
       case ht => simp [envOf, dY]; exact Is.rfl)
    | apply WP.block
    | apply WP.skip
    | apply WP.exit
    | apply WP.ret)
  exact ⟨.inr rfl, _, _, rfl, rfl⟩

theorem index34_den (l : List (List Y)) (hl : szB l ≤ MX) : ∃ r : Int, den Try.prog Hn.cfg 34 [.d (.slice (encB l)), .fn 30 []] = some (dI r) ∧ (decide (0 ≤ r)) = !empB l := by
  have hll := len_szB l
  unfold MX at hl
  cases he : empB l with
  | true =>
    refine ⟨-1, ?_, rfl⟩
    refine den_wp Try.func34 rfl (by kernel_rfl) rfl rfl ?_
    repeat (first
      | apply WP.seq
      | (apply WP.reg
         case hR => dsimp only [prepL, prepO, List.map, List.getElem?_cons_succ, List.getElem?_cons_zero]; exact Is.rfl
         case hr =>
           repeat (first
             | (apply RT.op (h := by simp [envOf]; exact Is.rfl) (he := rfl))
             | (apply RT.call (hg := by simp; exact Is.rfl) (hfo := by simp; exact Is.rfl) (hvs := by simp [envOf]; exact Is.rfl) (hcl := by simp [envOf]; exact Is.rfl) (hd := by simp [envOf]; exact Is.rfl) (hwr := by simp [envOf]; exact Is.rfl) (hlt := by simp [Is]) (he := rfl) (hh := by simp; exact Is.rfl) (hw := by simp; exact Is.rfl))
             | (apply RT.wr (h := by simp [envOf]; exact Is.rfl) (he := rfl) (hh := by simp [envOf]; exact Is.rfl) (hn := by exact Is.rfl) (hc := by exact Is.rfl) (hw := by simp; exact Is.rfl)))
           exact RT.nil
         case hc => (show _ = _; kernel_rfl)
         case ht => simp [envOf]; exact Is.rfl)
      | apply WP.block
      | apply WP.skip
      | apply WP.exit
      | apply WP.ret)
    apply WP.loop' (I := fun d s => ∃ i : Nat, i + d = l.length ∧ SE [(0, .d (.slice (encB l))), (1, .fn 30 []), (7, dI l.length), (8, dI i)] [] 0 s) (d := l.length)
    · exact ⟨0, by simp, SE.mk rfl rfl⟩
    rintro d _ ⟨i, hi, c, rfl⟩
    repeat (first
      | apply WP.seq
      | (apply WP.reg
         case hR => dsimp only [prepL, prepO, List.map, List.getElem?_cons_succ, List.getElem?_cons_zero]; exact Is.rfl
         case hr =>
           repeat (first
             | (apply RT.op (h := by simp [dI]; exact Is.rfl) (he := rfl))
             | (apply RT.call (hg := by simp; exact Is.rfl) (hfo := by simp; exact Is.rfl) (hvs := by simp [dI]; exact Is.rfl) (hcl := by simp [dI]; exact Is.rfl) (hd := by simp [dI]; exact Is.rfl) (hwr := by simp [dI]; exact Is.rfl) (hlt := by simp [Is]) (he := rfl) (hh := by simp; exact Is.rfl) (hw := by simp; exact Is.rfl))
             | (apply RT.wr (h := by simp [dI]; exact Is.rfl) (he := rfl) (hh := by simp [dI]; exact Is.rfl) (hn := by exact Is.rfl) (hc := by exact Is.rfl) (hw := by simp; exact Is.rfl)))
           exact RT.nil
         case hc => (show _ = _; kernel_rfl)
         case ht => simp [dI]; exact Is.rfl)
      | apply WP.block
      | apply WP.skip
      | apply WP.exit
      | apply WP.ret)
    show WP _ _ _ _ _ _
    refine WP.cond _ rfl (fun hb => ?_) (fun hb => ?_)
    · simp at hb
      obtain ⟨b, hy, hym, hix⟩ := at_lt hb
      have hy' := encB_at hy
      have hw := w_succ hb (by omega)
      have h1 := empty1_den b
      simp only [dY] at h1
      have h2 : b.isEmpty = true := by
        unfold empB at he; rw [List.all_eq_true] at he; exact he b hym
      have h3 : b = [] := List.isEmpty_iff.1 h2
      subst h3
      simp at h1
      repeat (first
        | apply WP.seq
        | (apply WP.reg
           case hR => dsimp only [prepL, prepO, List.map, List.getElem?_cons_succ, List.getElem?_cons_zero]; exact Is.rfl
           case hr =>
             repeat (first
               | (apply RT.op (h := by simp [hix, hy', h1]; exact Is.rfl) (he := rfl))
               | (apply RT.call (hg := by simp; exact Is.rfl) (hfo := by simp; exact Is.rfl) (hvs := by simp [hix, hy', h1]; exact Is.rfl) (hcl := by simp [hix, hy', h1]; exact Is.rfl) (hd := by simp [hix, hy', h1]; exact Is.rfl) (hwr := by simp [hix, hy', h1]; exact Is.rfl) (hlt := by simp [Is]) (he := rfl) (hh := by simp; exact Is.rfl) (hw := by simp; exact Is.rfl))
               | (apply RT.wr (h := by simp [hix, hy', h1]; exact Is.rfl) (he := rfl) (hh := by simp [hix, hy', h1]; exact Is.rfl) (hn := by exact Is.rfl) (hc := by exact Is.rfl) (hw := by simp; exact Is.rfl)))
             exact RT.nil
           case hc => (show _ = _; kernel_rfl)
           case ht => simp [hix, hy', h1]; exact Is.rfl)
        | apply WP.block
        | apply WP.skip
        | apply WP.exit
        | apply WP.ret)
      show WP _ _ _ _ _ _
      refine WP.cond _ rfl (fun hb => ?_) (fun hb => ?_)
      · simp at hb
      · repeat (first
          | apply WP.seq
          | (apply WP.reg
             case hR => dsimp only [prepL, prepO, List.map, List.getElem?_cons_succ, List.getElem?_cons_zero]; exact Is.rfl
             case hr =>
               repeat (first
                 | (apply RT.op (h := by simp; exact Is.rfl) (he := rfl))
                 | (apply RT.call (hg := by simp; exact Is.rfl) (hfo := by simp; exact Is.rfl) (hvs := by simp; exact Is.rfl) (hcl := by simp; exact Is.rfl) (hd := by simp; exact Is.rfl) (hwr := by simp; exact Is.rfl) (hlt := by simp [Is]) (he := rfl) (hh := by simp; exact Is.rfl) (hw := by simp; exact Is.rfl))
                 | (apply RT.wr (h := by simp; exact Is.rfl) (he := rfl) (hh := by simp; exact Is.rfl) (hn := by exact Is.rfl) (hc := by exact Is.rfl) (hw := by simp; exact Is.rfl)))
               exact RT.nil
             case hc => (show _ = _; kernel_rfl)
             case ht => simp; exact Is.rfl)
          | apply WP.block
          | apply WP.skip
          | apply WP.exit
          | apply WP.ret)
        refine loop_next (by simp; exact Is.rfl) ?_
        exact ⟨d - 1, by omega, i + 1, by omega, SE.mk (by simp [dI, hw]) rfl⟩
    · repeat (first
        | apply WP.seq
        | (apply WP.reg
           case hR => dsimp only [prepL, prepO, List.map, List.getElem?_cons_succ, List.getElem?_cons_zero]; exact Is.rfl
           case hr =>
             repeat (first
               | (apply RT.op (h := by simp; exact Is.rfl) (he := rfl))
               | (apply RT.call (hg := by simp; exact Is.rfl) (hfo := by simp; exact Is.rfl) (hvs := by simp; exact Is.rfl) (hcl := by simp; exact Is.rfl) (hd := by simp; exact Is.rfl) (hwr := by simp; exact Is.rfl) (hlt := by simp [Is]) (he := rfl) (hh := by simp; exact Is.rfl) (hw := by simp; exact Is.rfl))
               | (apply RT.wr (h := by simp; exact Is.rfl) (he := rfl) (hh := by simp; exact Is.rfl) (hn := by exact Is.rfl) (hc := by exact Is.rfl) (hw := by simp; exact Is.rfl)))
             exact RT.nil
           case hc => (show _ = _; kernel_rfl)
           case ht => simp; exact Is.rfl)
        | apply WP.block
        | apply WP.skip
        | apply WP.exit
        | apply WP.ret)
      exact ⟨.inr rfl, _, _, rfl, rfl⟩
  | false =>
    have key : ∀ (d i : Nat), i + d = l.length → (l.take i).all List.isEmpty = true → ∃ k : Nat, k < l.length ∧ (∃ b, l[k]? = some b ∧ b.isEmpty = false) ∧ (l.take k).all List.isEmpty = true := by
      intro d
      induction d with
      | zero =>
        intro i hi h
        rw [List.take_of_length_le (by omega)] at h
        unfold empB at he; rw [h] at he; cases he
      | succ d ih =>
        intro i hi h
        obtain ⟨b, hy, hym, hix⟩ := at_lt (l := l) (i := i) (by omega)
        cases hb : b.isEmpty with
        | false => exact ⟨i, by omega, ⟨b, hy, hb⟩, h⟩
        | true => exact ih (i + 1) (by omega) (by rw [all_takeS hy, h, hb]; rfl)
    obtain ⟨k, hk, ⟨b0, hb0, hne⟩, htk⟩ := key l.length 0 (by omega) (by simp)
    refine ⟨k, ?_, by simp⟩
    refine den_wp Try.func34 rfl (by kernel_rfl) rfl rfl ?_
    repeat (first
      | apply WP.seq
      | (apply WP.reg
         case hR => dsimp only [prepL, prepO, List.map, List.getElem?_cons_succ, List.getElem?_cons_zero]; exact Is.rfl
         case hr =>
           repeat (first
             | (apply RT.op (h := by simp [envOf]; exact Is.rfl) (he := rfl))
             | (apply RT.call (hg := by simp; exact Is.rfl) (hfo := by simp; exact Is.rfl) (hvs := by simp [envOf]; exact Is.rfl) (hcl := by simp [envOf]; exact Is.rfl) (hd := by simp [envOf]; exact Is.rfl) (hwr := by simp [envOf]; exact Is.rfl) (hlt := by simp [Is]) (he := rfl) (hh := by simp; exact Is.rfl) (hw := by simp; exact Is.rfl))
             | (apply RT.wr (h := by simp [envOf]; exact Is.rfl) (he := rfl) (hh := by simp [envOf]; exact Is.rfl) (hn := by exact Is.rfl) (hc := by exact Is.rfl) (hw := by simp; exact Is.rfl)))
           exact RT.nil
         case hc => (show _ = _; kernel_rfl)
         case ht => simp [envOf]; exact Is.rfl)
      | apply WP.block
      | apply WP.skip
      | apply WP.exit
      | apply WP.ret)
    apply WP.loop' (I := fun d s => ∃ i : Nat, i + d = k ∧ SE [(0, .d (.slice (encB l))), (1, .fn 30 []), (7, dI l.length), (8, dI i)] [] 0 s) (d := k)
    · exact ⟨0, by simp, SE.mk rfl rfl⟩
    rintro d _ ⟨i, hi, c, rfl⟩
    repeat (first
      | apply WP.seq
      | (apply WP.reg
         case hR => dsimp only [prepL, prepO, List.map, List.getElem?_cons_succ, List.getElem?_cons_zero]; exact Is.rfl
         case hr =>
           repeat (first
             | (apply RT.op (h := by simp [dI]; exact Is.rfl) (he := rfl))
             | (apply RT.call (hg := by simp; exact Is.rfl) (hfo := by simp; exact Is.rfl) (hvs := by simp [dI]; exact Is.rfl) (hcl := by simp [dI]; exact Is.rfl) (hd := by simp [dI]; exact Is.rfl) (hwr := by simp [dI]; exact Is.rfl) (hlt := by simp [Is]) (he := rfl) (hh := by simp; exact Is.rfl) (hw := by simp; exact Is.rfl))
             | (apply RT.wr (h := by simp [dI]; exact Is.rfl) (he := rfl) (hh := by simp [dI]; exact Is.rfl) (hn := by exact Is.rfl) (hc := by exact Is.rfl) (hw := by simp; exact Is.rfl)))
           exact RT.nil
         case hc => (show _ = _; kernel_rfl)
         case ht => simp [dI]; exact Is.rfl)
      | apply WP.block
      | apply WP.skip
      | apply WP.exit
      | apply WP.ret)
    show WP _ _ _ _ _ _
    refine WP.cond _ rfl (fun hb => ?_) (fun hb => ?_)
    · simp at hb
      obtain ⟨b, hy, hym, hix⟩ := at_lt hb
      have hy' := encB_at hy
      have hw := w_succ hb (by omega)
      have h1 := empty1_den b
      simp only [dY] at h1
      repeat (first
        | apply WP.seq
        | (apply WP.reg
           case hR => dsimp only [prepL, prepO, List.map, List.getElem?_cons_succ, List.getElem?_cons_zero]; exact Is.rfl
           case hr =>
             repeat (first
               | (apply RT.op (h := by simp [hix, hy', h1]; exact Is.rfl) (he := rfl))
               | (apply RT.call (hg := by simp; exact Is.rfl) (hfo := by simp; exact Is.rfl) (hvs := by simp [hix, hy', h1]; exact Is.rfl) (hcl := by simp [hix, hy', h1]; exact Is.rfl) (hd := by simp [hix, hy', h1]; exact Is.rfl) (hwr := by simp [hix, hy', h1]; exact Is.rfl) (hlt := by simp [Is]) (he := rfl) (hh := by simp; exact Is.rfl) (hw := by simp; exact Is.rfl))
               | (apply RT.wr (h := by simp [hix, hy', h1]; exact Is.rfl) (he := rfl) (hh := by simp [hix, hy', h1]; exact Is.rfl) (hn := by exact Is.rfl) (hc := by exact Is.rfl) (hw := by simp; exact Is.rfl)))
             exact RT.nil
           case hc => (show _ = _; kernel_rfl)
           case ht => simp [hix, hy', h1]; exact Is.rfl)
        | apply WP.block
        | apply WP.skip
        | apply WP.exit
        | apply WP.ret)
      show WP _ _ _ _ _ _
      refine WP.cond _ rfl (fun hb => ?_) (fun hb => ?_)
      · simp at hb
        have : i = k := by
          apply Classical.byContradiction
          intro hn
          have h2 : b ∈ l.take k := List.mem_of_getElem? (i := i) (by rw [List.getElem?_take_of_lt (by omega)]; exact hy)
          rw [List.all_eq_true] at htk
          have := htk b h2
          have h3 : b = [] := List.isEmpty_iff.1 this
          subst h3; simp at hb
        subst this
        repeat (first
          | apply WP.seq
          | (apply WP.reg
             case hR => dsimp only [prepL, prepO, List.map, List.getElem?_cons_succ, List.getElem?_cons_zero]; exact Is.rfl
             case hr =>
               repeat (first
                 | (apply RT.op (h := by simp; exact Is.rfl) (he := rfl))
                 | (apply RT.call (hg := by simp; exact Is.rfl) (hfo := by simp; exact Is.rfl) (hvs := by simp; exact Is.rfl) (hcl := by simp; exact Is.rfl) (hd := by simp; exact Is.rfl) (hwr := by simp; exact Is.rfl) (hlt := by simp [Is]) (he := rfl) (hh := by simp; exact Is.rfl) (hw := by simp; exact Is.rfl))
                 | (apply RT.wr (h := by simp; exact Is.rfl) (he := rfl) (hh := by simp; exact Is.rfl) (hn := by exact Is.rfl) (hc := by exact Is.rfl) (hw := by simp; exact Is.rfl)))
               exact RT.nil
             case hc => (show _ = _; kernel_rfl)
             case ht => simp; exact Is.rfl)
          | apply WP.block
          | apply WP.skip
          | apply WP.exit
          | apply WP.ret)
        exact ⟨.inr rfl, _, _, rfl, rfl⟩
      · simp at hb
        subst hb
        have : i ≠ k := by
          intro hn
          subst hn
          rw [hy] at hb0; simp at hb0; subst hb0; simp at hne
        repeat (first
          | apply WP.seq
          | (apply WP.reg
             case hR => dsimp only [prepL, prepO, List.map, List.getElem?_cons_succ, List.getElem?_cons_zero]; exact Is.rfl
             case hr =>
               repeat (first
                 | (apply RT.op (h := by simp; exact Is.rfl) (he := rfl))
                 | (apply RT.call (hg := by simp; exact Is.rfl) (hfo := by simp; exact Is.rfl) (hvs := by simp; exact Is.rfl) (hcl := by simp; exact Is.rfl) (hd := by simp; exact Is.rfl) (hwr := by simp; exact Is.rfl) (hlt := by simp [Is]) (he := rfl) (hh := by simp; exact Is.rfl) (hw := by simp; exact Is.rfl))
                 | (apply RT.wr (h := by simp; exact Is.rfl) (he := rfl) (hh := by simp; exact Is.rfl) (hn := by exact Is.rfl) (hc := by exact Is.rfl) (hw := by simp; exact Is.rfl)))
               exact RT.nil
             case hc => (show _ = _; kernel_rfl)
             case ht => simp; exact Is.rfl)
          | apply WP.block
          | apply WP.skip
          | apply WP.exit
          | apply WP.ret)
        refine loop_next (by simp; exact Is.rfl) ?_
        exact ⟨d - 1, by omega, i + 1, by omega, SE.mk (by simp [dI, hw]) rfl⟩
    · simp at hb
      omega

theorem contains29_den (l : List (List Y)) (hl : szB l ≤ MX) : den Try.prog Hn.cfg 29 [.d (.slice (encB l)), .fn 30 []] = some (.d (.bool (!empB l))) := by
  obtain ⟨r, h1, h2⟩ := index34_den l hl
  rw [← h2]
  simp only [dI] at h1
  refine den_wp Try.func29 rfl (by kernel_rfl) rfl rfl ?_
  repeat (first
    | apply WP.seq
    | (apply WP.reg
       case hR => dsimp only [prepL, prepO, List.map, List.getElem?_cons_succ, List.getElem?_cons_zero]; exact Is.rfl
       case hr =>
         repeat (first
           | (apply RT.op (h := by simp [envOf, h1]; exact Is.rfl) (he := rfl))
           | (apply RT.call (hg := by simp; exact Is.rfl) (hfo := by simp; exact Is.rfl) (hvs := by simp [envOf, h1]; exact Is.rfl) (hcl := by simp [envOf, h1]; exact Is.rfl) (hd := by simp [envOf, h1]; exact Is.rfl) (hwr := by simp [envOf, h1]; exact Is.rfl) (hlt := by simp [Is]) (he := rfl) (hh := by simp; exact Is.rfl) (hw := by simp; exact Is.rfl))
           | (apply RT.wr (h := by simp [envOf, h1]; exact Is.rfl) (he := rfl) (hh := by simp [envOf, h1]; exact Is.rfl) (hn := by exact Is.rfl) (hc := by exact Is.rfl) (hw := by simp; exact Is.rfl)))
         exact RT.nil
       case hc => (show _ = _; kernel_rfl)
       case ht => simp [envOf, h1]; exact Is.rfl)
    | apply WP.block
    | apply WP.skip
    | apply WP.exit
    | apply WP.ret)
  exact ⟨.inr rfl, _, _, rfl, rfl⟩

theorem empty_den (y : Y) (hl : y.sz ≤ MX) : den Try.prog Hn.cfg 25 [aY y] = some (.d (.bool (empB y.brs))) := by
  rw [Y.sz_eq] at hl
  have h1 := contains29_den y.brs (by omega)
  refine den_wp Try.func25 rfl (by kernel_rfl) rfl rfl ?_
  repeat (first
    | apply WP.seq
    | (apply WP.reg
       case hR => dsimp only [prepL, prepO, List.map, List.getElem?_cons_succ, List.getElem?_cons_zero]; exact Is.rfl
       case hr =>
         repeat (first
           | (apply RT.op (h := by simp [envOf, aY, Y.cells_eq, h1]; exact Is.rfl) (he := rfl))
           | (apply RT.call (hg := by simp; exact Is.rfl) (hfo := by simp; exact Is.rfl) (hvs := by simp [envOf, aY, Y.cells_eq, h1]; exact Is.rfl) (hcl := by simp [envOf, aY, Y.cells_eq, h1]; exact Is.rfl) (hd := by simp [envOf, aY, Y.cells_eq, h1]; exact Is.rfl) (hwr := by simp [envOf, aY, Y.cells_eq, h1]; exact Is.rfl) (hlt := by simp [Is]) (he := rfl) (hh := by simp; exact Is.rfl) (hw := by simp; exact Is.rfl))
           | (apply RT.wr (h := by simp [envOf, aY, Y.cells_eq, h1]; exact Is.rfl) (he := rfl) (hh := by simp [envOf, aY, Y.cells_eq, h1]; exact Is.rfl) (hn := by exact Is.rfl) (hc := by exact Is.rfl) (hw := by simp; exact Is.rfl)))
         exact RT.nil
       case hc => (show _ = _; kernel_rfl)
       case ht => simp [envOf, aY, Y.cells_eq, h1]; exact Is.rfl)
    | apply WP.block
    | apply WP.skip
    | apply WP.exit
    | apply WP.ret)
  exact ⟨.inr rfl, _, _, rfl, rfl⟩

def varX (x : X) : Bool := x.k == 2 || x.k == 8 || x.k == 9
def aX' (x : X) : V := .agg (x.cells.map .d)
theorem variable_den (x : X) : den Try.prog Hn.cfg 43 [aX' x] = some (.d (.bool (varX x))) := by
  refine den_wp Try.func43 rfl (by kernel_rfl) rfl rfl ?_
  repeat (first
    | apply WP.seq
    | (apply WP.reg
       case hR => dsimp only [prepL, prepO, List.map, List.getElem?_cons_succ, List.getElem?_cons_zero]; exact Is.rfl
       case hr =>
         repeat (first
           | (apply RT.op (h := by simp [envOf, aX', X.cells_eq]; exact Is.rfl) (he := rfl))
           | (apply RT.call (hg := by simp; exact Is.rfl) (hfo := by simp; exact Is.rfl) (hvs := by simp [envOf, aX', X.cells_eq]; exact Is.rfl) (hcl := by simp [envOf, aX', X.cells_eq]; exact Is.rfl) (hd := by simp [envOf, aX', X.cells_eq]; exact Is.rfl) (hwr := by simp [envOf, aX', X.cells_eq]; exact Is.rfl) (hlt := by simp [Is]) (he := rfl) (hh := by simp; exact Is.rfl) (hw := by simp; exact Is.rfl))
           | (apply RT.wr (h := by simp [envOf, aX', X.cells_eq]; exact Is.rfl) (he := rfl) (hh := by simp [envOf, aX', X.cells_eq]; exact Is.rfl) (hn := by exact Is.rfl) (hc := by exact Is.rfl) (hw := by simp; exact Is.rfl)))
         exact RT.nil
       case hc => (show _ = _; kernel_rfl)
       case ht => simp [envOf, aX', X.cells_eq]; exact Is.rfl)
    | apply WP.block
    | apply WP.skip
    | apply WP.exit
    | apply WP.ret)
  by_cases h2 : x.k = 2
  · repeat (first
      | apply WP.seq
      | (apply WP.reg
         case hR => dsimp only [prepL, prepO, List.map, List.getElem?_cons_succ, List.getElem?_cons_zero]; exact Is.rfl
         case hr =>
           repeat (first
             | (apply RT.op (h := by simp [h2]; exact Is.rfl) (he := rfl))
             | (apply RT.call (hg := by simp; exact Is.rfl) (hfo := by simp; exact Is.rfl) (hvs := by simp [h2]; exact Is.rfl) (hcl := by simp [h2]; exact Is.rfl) (hd := by simp [h2]; exact Is.rfl) (hwr := by simp [h2]; exact Is.rfl) (hlt := by simp [Is]) (he := rfl) (hh := by simp; exact Is.rfl) (hw := by simp; exact Is.rfl))
             | (apply RT.wr (h := by simp [h2]; exact Is.rfl) (he := rfl) (hh := by simp [h2]; exact Is.rfl) (hn := by exact Is.rfl) (hc := by exact Is.rfl) (hw := by simp; exact Is.rfl)))
           exact RT.nil
         case hc => (show _ = _; kernel_rfl)
         case ht => simp [h2]; exact Is.rfl)
      | apply WP.block
      | apply WP.skip
      | apply WP.exit
      | apply WP.ret)
    rw [show varX x = true by simp [varX, h2]]
    exact ⟨.inr rfl, _, _, rfl, rfl⟩
  · have h6 := bne_of h2
    by_cases h3 : x.k = 8
    · repeat (first
        | apply WP.seq
        | (apply WP.reg
           case hR => dsimp only [prepL, prepO, List.map, List.getElem?_cons_succ, List.getElem?_cons_zero]; exact Is.rfl
           case hr =>
             repeat (first
               | (apply RT.op (h := by simp [h3]; exact Is.rfl) (he := rfl))
               | (apply RT.call (hg := by simp; exact Is.rfl) (hfo := by simp; exact Is.rfl) (hvs := by simp [h3]; exact Is.rfl) (hcl := by simp [h3]; exact Is.rfl) (hd := by simp [h3]; exact Is.rfl) (hwr := by simp [h3]; exact Is.rfl) (hlt := by simp [Is]) (he := rfl) (hh := by simp; exact Is.rfl) (hw := by simp; exact Is.rfl))
               | (apply RT.wr (h := by simp [h3]; exact Is.rfl) (he := rfl) (hh := by simp [h3]; exact Is.rfl) (hn := by exact Is.rfl) (hc := by exact Is.rfl) (hw := by simp; exact Is.rfl)))
             exact RT.nil
           case hc => (show _ = _; kernel_rfl)
           case ht => simp [h3]; exact Is.rfl)
        | apply WP.block
        | apply WP.skip
        | apply WP.exit
        | apply WP.ret)
      rw [show varX x = true by simp [varX, h3]]
      exact ⟨.inr rfl, _, _, rfl, rfl⟩
    · have h7 := bne_of h3
      repeat (first
        | apply WP.seq
        | (apply WP.reg
           case hR => dsimp only [prepL, prepO, List.map, List.getElem?_cons_succ, List.getElem?_cons_zero]; exact Is.rfl
           case hr =>
             repeat (first
               | (apply RT.op (h := by simp [h6.1, h6.2, h7.1, h7.2]; exact Is.rfl) (he := rfl))
               | (apply RT.call (hg := by simp; exact Is.rfl) (hfo := by simp; exact Is.rfl) (hvs := by simp [h6.1, h6.2, h7.1, h7.2]; exact Is.rfl) (hcl := by simp [h6.1, h6.2, h7.1, h7.2]; exact Is.rfl) (hd := by simp [h6.1, h6.2, h7.1, h7.2]; exact Is.rfl) (hwr := by simp [h6.1, h6.2, h7.1, h7.2]; exact Is.rfl) (hlt := by simp [Is]) (he := rfl) (hh := by simp; exact Is.rfl) (hw := by simp; exact Is.rfl))
               | (apply RT.wr (h := by simp [h6.1, h6.2, h7.1, h7.2]; exact Is.rfl) (he := rfl) (hh := by simp [h6.1, h6.2, h7.1, h7.2]; exact Is.rfl) (hn := by exact Is.rfl) (hc := by exact Is.rfl) (hw := by simp; exact Is.rfl)))
             exact RT.nil
           case hc => (show _ = _; kernel_rfl)
           case ht => simp [h6.1, h6.2, h7.1, h7.2]; exact Is.rfl)
        | apply WP.block
        | apply WP.skip
        | apply WP.exit
        | apply WP.ret)
      rw [show varX x = (x.k == 9) by simp [varX, h2, h3]]
      exact ⟨.inr rfl, _, _, rfl, rfl⟩
end Go.Ab
