/- The statements FuseAgain, FuseFewer and FusePaths, by data. -/
import Derived.Test.YtofbmhmdpeclnaaFvD
import Derived.Test.YtofbmhmdpeclnaaFvH
import Derived.Test.YtofbmhmdpeclnaaFuJ
set_option linter.unusedVariables false
set_option linter.unusedSimpArgs false
set_option maxRecDepth 4000
set_option linter.unusedSimpArgs false
set_option linter.unusedVariables false
namespace Go.Ab
open Go.Proofs

theorem again_den (l : List Y) (hl : szY l ≤ MB) : den Try.prog Hn.cfg 4 [dY l] = some (.d (.bool true)) := by
  have hlm := hl
  unfold MB at hlm
  obtain ⟨b, hlt⟩ := light_total l (by unfold MX; omega)
  have haw := awake_den
  have hs := Jf_sz (szY l + 1) l
  have h1 := join_den (szY l + 1) l (by omega) hl
  have h2 := join_den (szY l + 1) (Jf (szY l + 1) l) (by omega) (by unfold MB; omega)
  rw [Jf_again _ _ (by omega)] at h2
  have h3 := same_den (szY (Jf (szY l + 1) l) + 1) (Jf (szY l + 1) l) (by omega) (by unfold MX; omega)
  simp only [dY, dI] at h1 h2 h3
  refine den_wp Try.func4 rfl (by kernel_rfl) rfl rfl ?_
  cases b with
  | false =>
    repeat (first
      | apply WP.seq
      | (apply WP.reg
         case hR => dsimp only [prepL, prepO, List.map, List.getElem?_cons_succ, List.getElem?_cons_zero]; exact Is.rfl
         case hr =>
           repeat (first
             | (apply RT.op (h := by simp [envOf, dY, hlt]; exact Is.rfl) (he := by (try dsimp only [putEnv]) <;> exact rfl))
             | (apply RT.call (hg := by simp; exact Is.rfl) (hfo := by simp; exact Is.rfl) (hvs := by simp [envOf, dY, hlt]; exact Is.rfl) (hcl := by simp [envOf, dY, hlt]; exact Is.rfl) (hd := by simp [envOf, dY, hlt]; exact Is.rfl) (hwr := by simp [envOf, dY, hlt]; exact Is.rfl) (hlt := by simp [Is]) (he := by (try dsimp only [putEnv]) <;> exact rfl) (hh := by simp; exact Is.rfl) (hw := by simp; exact Is.rfl))
             | (apply RT.wr (h := by simp [envOf, dY, hlt]; exact Is.rfl) (he := by (try dsimp only [putEnv]) <;> exact rfl) (hh := by simp [envOf, dY, hlt]; exact Is.rfl) (hn := by exact Is.rfl) (hc := by exact Is.rfl) (hw := by simp; exact Is.rfl)))
           exact RT.nil
         case hc => (show _ = _; kernel_rfl)
         case ht => simp [envOf, dY, hlt]; exact Is.rfl)
      | apply WP.block
      | apply WP.skip
      | apply WP.exit
      | apply WP.ret)
    show WP _ _ _ _ _ _
    refine WP.cond _ rfl (fun hb => ?_) (fun hb => ?_)
    · repeat (first
        | apply WP.seq
        | (apply WP.reg
           case hR => dsimp only [prepL, prepO, List.map, List.getElem?_cons_succ, List.getElem?_cons_zero]; exact Is.rfl
           case hr =>
             repeat (first
               | (apply RT.op (h := by simp [haw]; exact Is.rfl) (he := by (try dsimp only [putEnv]) <;> exact rfl))
               | (apply RT.call (hg := by simp; exact Is.rfl) (hfo := by simp; exact Is.rfl) (hvs := by simp [haw]; exact Is.rfl) (hcl := by simp [haw]; exact Is.rfl) (hd := by simp [haw]; exact Is.rfl) (hwr := by simp [haw]; exact Is.rfl) (hlt := by simp [Is]) (he := by (try dsimp only [putEnv]) <;> exact rfl) (hh := by simp; exact Is.rfl) (hw := by simp; exact Is.rfl))
               | (apply RT.wr (h := by simp [haw]; exact Is.rfl) (he := by (try dsimp only [putEnv]) <;> exact rfl) (hh := by simp [haw]; exact Is.rfl) (hn := by exact Is.rfl) (hc := by exact Is.rfl) (hw := by simp; exact Is.rfl)))
             exact RT.nil
           case hc => (show _ = _; kernel_rfl)
           case ht => simp [haw]; exact Is.rfl)
        | apply WP.block
        | apply WP.skip
        | apply WP.exit
        | apply WP.ret)
      exact ⟨.inr rfl, _, _, rfl, rfl⟩
    · simp at hb
  | true =>
    repeat (first
      | apply WP.seq
      | (apply WP.reg
         case hR => dsimp only [prepL, prepO, List.map, List.getElem?_cons_succ, List.getElem?_cons_zero]; exact Is.rfl
         case hr =>
           repeat (first
             | (apply RT.op (h := by simp [envOf, dY, hlt]; exact Is.rfl) (he := by (try dsimp only [putEnv]) <;> exact rfl))
             | (apply RT.call (hg := by simp; exact Is.rfl) (hfo := by simp; exact Is.rfl) (hvs := by simp [envOf, dY, hlt]; exact Is.rfl) (hcl := by simp [envOf, dY, hlt]; exact Is.rfl) (hd := by simp [envOf, dY, hlt]; exact Is.rfl) (hwr := by simp [envOf, dY, hlt]; exact Is.rfl) (hlt := by simp [Is]) (he := by (try dsimp only [putEnv]) <;> exact rfl) (hh := by simp; exact Is.rfl) (hw := by simp; exact Is.rfl))
             | (apply RT.wr (h := by simp [envOf, dY, hlt]; exact Is.rfl) (he := by (try dsimp only [putEnv]) <;> exact rfl) (hh := by simp [envOf, dY, hlt]; exact Is.rfl) (hn := by exact Is.rfl) (hc := by exact Is.rfl) (hw := by simp; exact Is.rfl)))
           exact RT.nil
         case hc => (show _ = _; kernel_rfl)
         case ht => simp [envOf, dY, hlt]; exact Is.rfl)
      | apply WP.block
      | apply WP.skip
      | apply WP.exit
      | apply WP.ret)
    show WP _ _ _ _ _ _
    refine WP.cond _ rfl (fun hb => ?_) (fun hb => ?_)
    · simp at hb
    · repeat (first
        | apply WP.seq
        | (apply WP.reg
           case hR => dsimp only [prepL, prepO, List.map, List.getElem?_cons_succ, List.getElem?_cons_zero]; exact Is.rfl
           case hr =>
             repeat (first
               | (apply RT.op (h := by simp [h1, h2, h3, haw]; exact Is.rfl) (he := by (try dsimp only [putEnv]) <;> exact rfl))
               | (apply RT.call (hg := by simp; exact Is.rfl) (hfo := by simp; exact Is.rfl) (hvs := by simp [h1, h2, h3, haw]; exact Is.rfl) (hcl := by simp [h1, h2, h3, haw]; exact Is.rfl) (hd := by simp [h1, h2, h3, haw]; exact Is.rfl) (hwr := by simp [h1, h2, h3, haw]; exact Is.rfl) (hlt := by simp [Is]) (he := by (try dsimp only [putEnv]) <;> exact rfl) (hh := by simp; exact Is.rfl) (hw := by simp; exact Is.rfl))
               | (apply RT.wr (h := by simp [h1, h2, h3, haw]; exact Is.rfl) (he := by (try dsimp only [putEnv]) <;> exact rfl) (hh := by simp [h1, h2, h3, haw]; exact Is.rfl) (hn := by exact Is.rfl) (hc := by exact Is.rfl) (hw := by simp; exact Is.rfl)))
             exact RT.nil
           case hc => (show _ = _; kernel_rfl)
           case ht => simp [h1, h2, h3, haw]; exact Is.rfl)
        | apply WP.block
        | apply WP.skip
        | apply WP.exit
        | apply WP.ret)
      exact ⟨.inr rfl, _, _, rfl, rfl⟩

theorem fewer_den (l : List Y) (hl : szY l ≤ MB) : den Try.prog Hn.cfg 5 [dY l] = some (.d (.bool true)) := by
  have hlm := hl
  unfold MB at hlm
  obtain ⟨b, hlt⟩ := light_total l (by unfold MX; omega)
  have haw := awake_den
  have hs := Jf_sz (szY l + 1) l
  have h1 := join_den (szY l + 1) l (by omega) hl
  have h2 := cases_den (szY l + 1) l (by omega) (by unfold MX; omega)
  have h3 := cases_den (szY l + 1) (Jf (szY l + 1) l) (by omega) (by unfold MX; omega)
  have h4 := hollow_den (szY l + 1) (Jf (szY l + 1) l) (by omega) (by unfold MX; omega)
  have hcs := Jf_cs (szY l + 1) l
  rw [nfY_hol _ (nf_Jf (szY l + 1) l (by omega)).1] at h4
  simp only [dY, dI] at h1 h2 h3 h4
  refine den_wp Try.func5 rfl (by kernel_rfl) rfl rfl ?_
  cases b with
  | false =>
    repeat (first
      | apply WP.seq
      | (apply WP.reg
         case hR => dsimp only [prepL, prepO, List.map, List.getElem?_cons_succ, List.getElem?_cons_zero]; exact Is.rfl
         case hr =>
           repeat (first
             | (apply RT.op (h := by simp [envOf, dY, hlt]; exact Is.rfl) (he := by (try dsimp only [putEnv]) <;> exact rfl))
             | (apply RT.call (hg := by simp; exact Is.rfl) (hfo := by simp; exact Is.rfl) (hvs := by simp [envOf, dY, hlt]; exact Is.rfl) (hcl := by simp [envOf, dY, hlt]; exact Is.rfl) (hd := by simp [envOf, dY, hlt]; exact Is.rfl) (hwr := by simp [envOf, dY, hlt]; exact Is.rfl) (hlt := by simp [Is]) (he := by (try dsimp only [putEnv]) <;> exact rfl) (hh := by simp; exact Is.rfl) (hw := by simp; exact Is.rfl))
             | (apply RT.wr (h := by simp [envOf, dY, hlt]; exact Is.rfl) (he := by (try dsimp only [putEnv]) <;> exact rfl) (hh := by simp [envOf, dY, hlt]; exact Is.rfl) (hn := by exact Is.rfl) (hc := by exact Is.rfl) (hw := by simp; exact Is.rfl)))
           exact RT.nil
         case hc => (show _ = _; kernel_rfl)
         case ht => simp [envOf, dY, hlt]; exact Is.rfl)
      | apply WP.block
      | apply WP.skip
      | apply WP.exit
      | apply WP.ret)
    show WP _ _ _ _ _ _
    refine WP.cond _ rfl (fun hb => ?_) (fun hb => ?_)
    · repeat (first
        | apply WP.seq
        | (apply WP.reg
           case hR => dsimp only [prepL, prepO, List.map, List.getElem?_cons_succ, List.getElem?_cons_zero]; exact Is.rfl
           case hr =>
             repeat (first
               | (apply RT.op (h := by simp [haw]; exact Is.rfl) (he := by (try dsimp only [putEnv]) <;> exact rfl))
               | (apply RT.call (hg := by simp; exact Is.rfl) (hfo := by simp; exact Is.rfl) (hvs := by simp [haw]; exact Is.rfl) (hcl := by simp [haw]; exact Is.rfl) (hd := by simp [haw]; exact Is.rfl) (hwr := by simp [haw]; exact Is.rfl) (hlt := by simp [Is]) (he := by (try dsimp only [putEnv]) <;> exact rfl) (hh := by simp; exact Is.rfl) (hw := by simp; exact Is.rfl))
               | (apply RT.wr (h := by simp [haw]; exact Is.rfl) (he := by (try dsimp only [putEnv]) <;> exact rfl) (hh := by simp [haw]; exact Is.rfl) (hn := by exact Is.rfl) (hc := by exact Is.rfl) (hw := by simp; exact Is.rfl)))
             exact RT.nil
           case hc => (show _ = _; kernel_rfl)
           case ht => simp [haw]; exact Is.rfl)
        | apply WP.block
        | apply WP.skip
        | apply WP.exit
        | apply WP.ret)
      exact ⟨.inr rfl, _, _, rfl, rfl⟩
    · simp at hb
  | true =>
    repeat (first
      | apply WP.seq
      | (apply WP.reg
         case hR => dsimp only [prepL, prepO, List.map, List.getElem?_cons_succ, List.getElem?_cons_zero]; exact Is.rfl
         case hr =>
           repeat (first
             | (apply RT.op (h := by simp [envOf, dY, hlt]; exact Is.rfl) (he := by (try dsimp only [putEnv]) <;> exact rfl))
             | (apply RT.call (hg := by simp; exact Is.rfl) (hfo := by simp; exact Is.rfl) (hvs := by simp [envOf, dY, hlt]; exact Is.rfl) (hcl := by simp [envOf, dY, hlt]; exact Is.rfl) (hd := by simp [envOf, dY, hlt]; exact Is.rfl) (hwr := by simp [envOf, dY, hlt]; exact Is.rfl) (hlt := by simp [Is]) (he := by (try dsimp only [putEnv]) <;> exact rfl) (hh := by simp; exact Is.rfl) (hw := by simp; exact Is.rfl))
             | (apply RT.wr (h := by simp [envOf, dY, hlt]; exact Is.rfl) (he := by (try dsimp only [putEnv]) <;> exact rfl) (hh := by simp [envOf, dY, hlt]; exact Is.rfl) (hn := by exact Is.rfl) (hc := by exact Is.rfl) (hw := by simp; exact Is.rfl)))
           exact RT.nil
         case hc => (show _ = _; kernel_rfl)
         case ht => simp [envOf, dY, hlt]; exact Is.rfl)
      | apply WP.block
      | apply WP.skip
      | apply WP.exit
      | apply WP.ret)
    show WP _ _ _ _ _ _
    refine WP.cond _ rfl (fun hb => ?_) (fun hb => ?_)
    · simp at hb
    · repeat (first
        | apply WP.seq
        | (apply WP.reg
           case hR => dsimp only [prepL, prepO, List.map, List.getElem?_cons_succ, List.getElem?_cons_zero]; exact Is.rfl
           case hr =>
             repeat (first
               | (apply RT.op (h := by simp [h1, h2, h3, h4, haw, hcs]; exact Is.rfl) (he := by (try dsimp only [putEnv]) <;> exact rfl))
               | (apply RT.call (hg := by simp; exact Is.rfl) (hfo := by simp; exact Is.rfl) (hvs := by simp [h1, h2, h3, h4, haw, hcs]; exact Is.rfl) (hcl := by simp [h1, h2, h3, h4, haw, hcs]; exact Is.rfl) (hd := by simp [h1, h2, h3, h4, haw, hcs]; exact Is.rfl) (hwr := by simp [h1, h2, h3, h4, haw, hcs]; exact Is.rfl) (hlt := by simp [Is]) (he := by (try dsimp only [putEnv]) <;> exact rfl) (hh := by simp; exact Is.rfl) (hw := by simp; exact Is.rfl))
               | (apply RT.wr (h := by simp [h1, h2, h3, h4, haw, hcs]; exact Is.rfl) (he := by (try dsimp only [putEnv]) <;> exact rfl) (hh := by simp [h1, h2, h3, h4, haw, hcs]; exact Is.rfl) (hn := by exact Is.rfl) (hc := by exact Is.rfl) (hw := by simp; exact Is.rfl)))
             exact RT.nil
           case hc => (show _ = _; kernel_rfl)
           case ht => simp [h1, h2, h3, h4, haw, hcs]; exact Is.rfl)
        | apply WP.block
        | apply WP.skip
        | apply WP.exit
        | apply WP.ret)
      exact ⟨.inr rfl, _, _, rfl, rfl⟩

theorem paths_den (l : List Y) (seed : Nat) (hseed : seed < 65536) (hl : szY l ≤ MB) : den Try.prog Hn.cfg 6 [dY l, .d (.int .u16 seed)] = some (.d (.bool true)) := by
  have hlm := hl
  unfold MB at hlm
  obtain ⟨b, hlt⟩ := light_total l (by unfold MX; omega)
  have haw := awake_den
  have hs := Jf_sz (szY l + 1) l
  have hps := Pf_sz (seed : Int) (szY l + 1) l
  have h1 := join_den (szY l + 1) l (by omega) hl
  have h2 := path_den (seed : Int) (szY l + 1) l (by omega) hl
  have h3 := path_den (seed : Int) (szY l + 1) (Jf (szY l + 1) l) (by omega) (by unfold MB; omega)
  rw [Pf_Jf (seed : Int) _ _ (by omega)] at h3
  have h4 := same_den (szY (Pf (szY l + 1) (seed : Int) l) + 1) (Pf (szY l + 1) (seed : Int) l) (by omega) (by unfold MX; omega)
  have hw : IntKind.i64.wrap (seed : Int) = (seed : Int) := w_id (by omega) (by omega)
  simp only [dY, dI] at h1 h2 h3 h4
  refine den_wp Try.func6 rfl (by kernel_rfl) rfl rfl ?_
  cases b with
  | false =>
    repeat (first
      | apply WP.seq
      | (apply WP.reg
         case hR => dsimp only [prepL, prepO, List.map, List.getElem?_cons_succ, List.getElem?_cons_zero]; exact Is.rfl
         case hr =>
           repeat (first
             | (apply RT.op (h := by simp [envOf, dY, hlt]; exact Is.rfl) (he := by (try dsimp only [putEnv]) <;> exact rfl))
             | (apply RT.call (hg := by simp; exact Is.rfl) (hfo := by simp; exact Is.rfl) (hvs := by simp [envOf, dY, hlt]; exact Is.rfl) (hcl := by simp [envOf, dY, hlt]; exact Is.rfl) (hd := by simp [envOf, dY, hlt]; exact Is.rfl) (hwr := by simp [envOf, dY, hlt]; exact Is.rfl) (hlt := by simp [Is]) (he := by (try dsimp only [putEnv]) <;> exact rfl) (hh := by simp; exact Is.rfl) (hw := by simp; exact Is.rfl))
             | (apply RT.wr (h := by simp [envOf, dY, hlt]; exact Is.rfl) (he := by (try dsimp only [putEnv]) <;> exact rfl) (hh := by simp [envOf, dY, hlt]; exact Is.rfl) (hn := by exact Is.rfl) (hc := by exact Is.rfl) (hw := by simp; exact Is.rfl)))
           exact RT.nil
         case hc => (show _ = _; kernel_rfl)
         case ht => simp [envOf, dY, hlt]; exact Is.rfl)
      | apply WP.block
      | apply WP.skip
      | apply WP.exit
      | apply WP.ret)
    show WP _ _ _ _ _ _
    refine WP.cond _ rfl (fun hb => ?_) (fun hb => ?_)
    · repeat (first
        | apply WP.seq
        | (apply WP.reg
           case hR => dsimp only [prepL, prepO, List.map, List.getElem?_cons_succ, List.getElem?_cons_zero]; exact Is.rfl
           case hr =>
             repeat (first
               | (apply RT.op (h := by simp [haw]; exact Is.rfl) (he := by (try dsimp only [putEnv]) <;> exact rfl))
               | (apply RT.call (hg := by simp; exact Is.rfl) (hfo := by simp; exact Is.rfl) (hvs := by simp [haw]; exact Is.rfl) (hcl := by simp [haw]; exact Is.rfl) (hd := by simp [haw]; exact Is.rfl) (hwr := by simp [haw]; exact Is.rfl) (hlt := by simp [Is]) (he := by (try dsimp only [putEnv]) <;> exact rfl) (hh := by simp; exact Is.rfl) (hw := by simp; exact Is.rfl))
               | (apply RT.wr (h := by simp [haw]; exact Is.rfl) (he := by (try dsimp only [putEnv]) <;> exact rfl) (hh := by simp [haw]; exact Is.rfl) (hn := by exact Is.rfl) (hc := by exact Is.rfl) (hw := by simp; exact Is.rfl)))
             exact RT.nil
           case hc => (show _ = _; kernel_rfl)
           case ht => simp [haw]; exact Is.rfl)
        | apply WP.block
        | apply WP.skip
        | apply WP.exit
        | apply WP.ret)
      exact ⟨.inr rfl, _, _, rfl, rfl⟩
    · simp at hb
  | true =>
    repeat (first
      | apply WP.seq
      | (apply WP.reg
         case hR => dsimp only [prepL, prepO, List.map, List.getElem?_cons_succ, List.getElem?_cons_zero]; exact Is.rfl
         case hr =>
           repeat (first
             | (apply RT.op (h := by simp [envOf, dY, hlt]; exact Is.rfl) (he := by (try dsimp only [putEnv]) <;> exact rfl))
             | (apply RT.call (hg := by simp; exact Is.rfl) (hfo := by simp; exact Is.rfl) (hvs := by simp [envOf, dY, hlt]; exact Is.rfl) (hcl := by simp [envOf, dY, hlt]; exact Is.rfl) (hd := by simp [envOf, dY, hlt]; exact Is.rfl) (hwr := by simp [envOf, dY, hlt]; exact Is.rfl) (hlt := by simp [Is]) (he := by (try dsimp only [putEnv]) <;> exact rfl) (hh := by simp; exact Is.rfl) (hw := by simp; exact Is.rfl))
             | (apply RT.wr (h := by simp [envOf, dY, hlt]; exact Is.rfl) (he := by (try dsimp only [putEnv]) <;> exact rfl) (hh := by simp [envOf, dY, hlt]; exact Is.rfl) (hn := by exact Is.rfl) (hc := by exact Is.rfl) (hw := by simp; exact Is.rfl)))
           exact RT.nil
         case hc => (show _ = _; kernel_rfl)
         case ht => simp [envOf, dY, hlt]; exact Is.rfl)
      | apply WP.block
      | apply WP.skip
      | apply WP.exit
      | apply WP.ret)
    show WP _ _ _ _ _ _
    refine WP.cond _ rfl (fun hb => ?_) (fun hb => ?_)
    · simp at hb
    · repeat (first
        | apply WP.seq
        | (apply WP.reg
           case hR => dsimp only [prepL, prepO, List.map, List.getElem?_cons_succ, List.getElem?_cons_zero]; exact Is.rfl
           case hr =>
             repeat (first
               | (apply RT.op (h := by simp [h1, h2, h3, h4, haw, hw, convV]; exact Is.rfl) (he := by (try dsimp only [putEnv]) <;> exact rfl))
               | (apply RT.call (hg := by simp; exact Is.rfl) (hfo := by simp; exact Is.rfl) (hvs := by simp [h1, h2, h3, h4, haw, hw, convV]; exact Is.rfl) (hcl := by simp [h1, h2, h3, h4, haw, hw, convV]; exact Is.rfl) (hd := by simp [h1, h2, h3, h4, haw, hw, convV]; exact Is.rfl) (hwr := by simp [h1, h2, h3, h4, haw, hw, convV]; exact Is.rfl) (hlt := by simp [Is]) (he := by (try dsimp only [putEnv]) <;> exact rfl) (hh := by simp; exact Is.rfl) (hw := by simp; exact Is.rfl))
               | (apply RT.wr (h := by simp [h1, h2, h3, h4, haw, hw, convV]; exact Is.rfl) (he := by (try dsimp only [putEnv]) <;> exact rfl) (hh := by simp [h1, h2, h3, h4, haw, hw, convV]; exact Is.rfl) (hn := by exact Is.rfl) (hc := by exact Is.rfl) (hw := by simp; exact Is.rfl)))
             exact RT.nil
           case hc => (show _ = _; kernel_rfl)
           case ht => simp [h1, h2, h3, h4, haw, hw, convV]; exact Is.rfl)
        | apply WP.block
        | apply WP.skip
        | apply WP.exit
        | apply WP.ret)
      exact ⟨.inr rfl, _, _, rfl, rfl⟩
end Go.Ab
