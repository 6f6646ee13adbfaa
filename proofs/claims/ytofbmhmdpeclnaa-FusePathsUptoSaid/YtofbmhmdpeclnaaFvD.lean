/- The statement FuseJoins, by data. -/
import Derived.Test.YtofbmhmdpeclnaaFvC
import Derived.Test.YtofbmhmdpeclnaaFuI
import Derived.Test.YtofbmhmdpeclnaaFuA
set_option linter.unusedVariables false
set_option linter.unusedSimpArgs false
set_option maxRecDepth 4000
set_option linter.unusedSimpArgs false
set_option linter.unusedVariables false
namespace Go.Ab
open Go.Proofs

theorem joins_den (l : List Y) (hl : szY l ≤ MB) : den Try.prog Hn.cfg 3 [dY l] = some (.d (.bool true)) := by
  have hlm := hl
  unfold MB at hlm
  obtain ⟨b, hlt⟩ := light_total l (by unfold MX; omega)
  have haw := awake_den
  have h1 := join_den (szY l + 1) l (by omega) hl
  have h2 := refJoin_den (szY l + 1) l (by omega) hl
  have hs := Jf_sz (szY l + 1) l
  have h3 := same_den (szY (Jf (szY l + 1) l) + 1) (Jf (szY l + 1) l) (by omega) (by unfold MX; omega)
  have h4 := cases_den (szY l + 1) l (by omega) (by unfold MX; omega)
  have h5 := refCases_den (szY l + 1) l (by omega) (by unfold MX; omega)
  simp only [dY, dI] at h1 h2 h3 h4 h5
  refine den_wp Try.func3 rfl (by kernel_rfl) rfl rfl ?_
  cases b with
  | false =>
    repeat (first
      | apply WP.seq
      | (apply WP.reg
         case hR => dsimp only [prepL, prepO, List.map, List.getElem?_cons_succ, List.getElem?_cons_zero]; exact Is.rfl
         case hr =>
           repeat (first
             | (apply RT.op (h := by simp [envOf, dY, hlt]; exact Is.rfl) (he := by (try dsimp only [putEnv]) <;> exact rfl))
             | (apply RT.call (hg := by simp; exact Is.rfl) (hfo := by simp; exact Is.rfl) (hvs := by simp [envOf, dY, hlt]; exact Is.rfl) (hcl := by simp [envOf, dY, hlt]; exact Is.rfl) (hd := by simp [envOf, dY, hlt]; exact Is.rfl) (hwr := by simp [envOf, dY, hlt]; exact Is.rfl) (hlt := by simp [Is]) (he := by (try dsimp only [putEnv]) <;> exact rfl) (hh := by simp; exact Is.rfl) (hw := by simp; exact Is.rfl))
             | (apply RT.wr (h := by simp [envOf, dY, hlt]; exact Is.rfl) (he := by (try dsimp only [putEnv]) <;> exact rfl) (hh := by simp [envOf, dY, hlt]; exact Is.rfl) (hn := by exact Is.rfl) (hc := by exact Is.rfl) (hw := by simp; exact Is.rfl)))
           exact RT.nil
         case hc => (show _ = _; kernel_rfl)
         case ht => simp [envOf, dY, hlt]; exact Is.rfl)
      | apply WP.block
      | apply WP.skip
      | apply WP.exit
      | apply WP.ret)
    show WP _ _ _ _ _ _
    refine WP.cond _ rfl (fun hb => ?_) (fun hb => ?_)
    · repeat (first
        | apply WP.seq
        | (apply WP.reg
           case hR => dsimp only [prepL, prepO, List.map, List.getElem?_cons_succ, List.getElem?_cons_zero]; exact Is.rfl
           case hr =>
             repeat (first
               | (apply RT.op (h := by simp [haw]; exact Is.rfl) (he := by (try dsimp only [putEnv]) <;> exact rfl))
               | (apply RT.call (hg := by simp; exact Is.rfl) (hfo := by simp; exact Is.rfl) (hvs := by simp [haw]; exact Is.rfl) (hcl := by simp [haw]; exact Is.rfl) (hd := by simp [haw]; exact Is.rfl) (hwr := by simp [haw]; exact Is.rfl) (hlt := by simp [Is]) (he := by (try dsimp only [putEnv]) <;> exact rfl) (hh := by simp; exact Is.rfl) (hw := by simp; exact Is.rfl))
               | (apply RT.wr (h := by simp [haw]; exact Is.rfl) (he := by (try dsimp only [putEnv]) <;> exact rfl) (hh := by simp [haw]; exact Is.rfl) (hn := by exact Is.rfl) (hc := by exact Is.rfl) (hw := by simp; exact Is.rfl)))
             exact RT.nil
           case hc => (show _ = _; kernel_rfl)
           case ht => simp [haw]; exact Is.rfl)
        | apply WP.block
        | apply WP.skip
        | apply WP.exit
        | apply WP.ret)
      exact ⟨.inr rfl, _, _, rfl, rfl⟩
    · simp at hb
  | true =>
    repeat (first
      | apply WP.seq
      | (apply WP.reg
         case hR => dsimp only [prepL, prepO, List.map, List.getElem?_cons_succ, List.getElem?_cons_zero]; exact Is.rfl
         case hr =>
           repeat (first
             | (apply RT.op (h := by simp [envOf, dY, hlt]; exact Is.rfl) (he := by (try dsimp only [putEnv]) <;> exact rfl))
             | (apply RT.call (hg := by simp; exact Is.rfl) (hfo := by simp; exact Is.rfl) (hvs := by simp [envOf, dY, hlt]; exact Is.rfl) (hcl := by simp [envOf, dY, hlt]; exact Is.rfl) (hd := by simp [envOf, dY, hlt]; exact Is.rfl) (hwr := by simp [envOf, dY, hlt]; exact Is.rfl) (hlt := by simp [Is]) (he := by (try dsimp only [putEnv]) <;> exact rfl) (hh := by simp; exact Is.rfl) (hw := by simp; exact Is.rfl))
             | (apply RT.wr (h := by simp [envOf, dY, hlt]; exact Is.rfl) (he := by (try dsimp only [putEnv]) <;> exact rfl) (hh := by simp [envOf, dY, hlt]; exact Is.rfl) (hn := by exact Is.rfl) (hc := by exact Is.rfl) (hw := by simp; exact Is.rfl)))
           exact RT.nil
         case hc => (show _ = _; kernel_rfl)
         case ht => simp [envOf, dY, hlt]; exact Is.rfl)
      | apply WP.block
      | apply WP.skip
      | apply WP.exit
      | apply WP.ret)
    show WP _ _ _ _ _ _
    refine WP.cond _ rfl (fun hb => ?_) (fun hb => ?_)
    · simp at hb
    · repeat (first
        | apply WP.seq
        | (apply WP.reg
           case hR => dsimp only [prepL, prepO, List.map, List.getElem?_cons_succ, List.getElem?_cons_zero]; exact Is.rfl
           case hr =>
             repeat (first
               | (apply RT.op (h := by simp [h1, h2, h3, h4, h5, haw]; exact Is.rfl) (he := by (try dsimp only [putEnv]) <;> exact rfl))
               | (apply RT.call (hg := by simp; exact Is.rfl) (hfo := by simp; exact Is.rfl) (hvs := by simp [h1, h2, h3, h4, h5, haw]; exact Is.rfl) (hcl := by simp [h1, h2, h3, h4, h5, haw]; exact Is.rfl) (hd := by simp [h1, h2, h3, h4, h5, haw]; exact Is.rfl) (hwr := by simp [h1, h2, h3, h4, h5, haw]; exact Is.rfl) (hlt := by simp [Is]) (he := by (try dsimp only [putEnv]) <;> exact rfl) (hh := by simp; exact Is.rfl) (hw := by simp; exact Is.rfl))
               | (apply RT.wr (h := by simp [h1, h2, h3, h4, h5, haw]; exact Is.rfl) (he := by (try dsimp only [putEnv]) <;> exact rfl) (hh := by simp [h1, h2, h3, h4, h5, haw]; exact Is.rfl) (hn := by exact Is.rfl) (hc := by exact Is.rfl) (hw := by simp; exact Is.rfl)))
             exact RT.nil
           case hc => (show _ = _; kernel_rfl)
           case ht => simp [h1, h2, h3, h4, h5, haw]; exact Is.rfl)
        | apply WP.block
        | apply WP.skip
        | apply WP.exit
        | apply WP.ret)
      exact ⟨.inr rfl, _, _, rfl, rfl⟩
end Go.Ab
