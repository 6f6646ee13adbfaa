/- Join of the program. -/
import Derived.Test.YtofbmhmdpeclnaaFvB
set_option linter.unusedVariables false
set_option linter.unusedSimpArgs false
set_option maxRecDepth 4000
set_option linter.unusedSimpArgs false
set_option linter.unusedVariables false
namespace Go.Ab
open Go.Proofs

theorem join_ok : ∀ N, JoinAt N
  | 0 => fun l h => by omega
  | N + 1 => join_step N (join_ok N)

theorem join_den (N : Nat) (l : List Y) (hN : szY l < N) (hl : szY l ≤ MB) : den Try.prog Hn.cfg 10 [dY l] = some (dY (Jf N l)) := by
  obtain ⟨q, hI1, g, cs, i, hqv, hq0, hTC, hnd, hlt⟩ := all_ok l hl
  have hI2 : closeT noLook q.v = none := by rw [hqv]; rfl
  have hI3 : shiftV 0 0 q.v = .osl 0 g 0 l.length 12 none := by rw [hqv]; simp [shiftV]
  obtain ⟨W, hI4⟩ : ∃ W, shiftH 0 0 (wrOf q.hp.get (List.range q.n)) = W := ⟨_, rfl⟩
  have hget : ∀ id o, id < q.n → q.hp.get id = some o → (Hp.sets [] W).get (id + 0) = some (shO 0 0 o) := fun id o h ho => by rw [← hI4]; exact import_new h ho
  have h0 : (Hp.sets [] W).get 0 = some ⟨g, false, shiftVs 0 0 cs⟩ := hget 0 _ (hlt 0 (by simp)) hq0
  have hTC2 : TC (Hp.sets [] W).get (shiftVs 0 0 cs) l (i.map (· + 0)) := hTC.shift fun id o hid ho => hget id o (hlt id (by simp [hid])) ho
  have him : i.map (· + 0) = i := by simp
  rw [him] at hTC2
  obtain ⟨r, hT1, hP⟩ := join_ok N l hN hl (Hp.sets [] W) (0 + q.n) (0 + q.c) 0 g (shiftVs 0 0 cs) i h0 hTC2 hnd (fun j hj => by have := hlt j hj; omega)
  have hT2 : ∀ k, k ∈ (tWr r (0 + q.n)).map (·.1) → k < (0 + q.n) + (r.n - (0 + q.n)) := fun k hk => by
    have := (tWr_keys hP (fun j hj => by have := hlt j hj; omega) hk).2
    omega
  obtain ⟨io, go, co, i', hrv, hcg, hcT, _, _⟩ := hP.caller
  have hJs := Jf_sz N l
  have hcl : closeT ((Hp.sets [] W).sets (tWr r (0 + q.n))).get r.v = some (dY (Jf N l), io :: i') := by
    have h1 := TL.toD (.osl hcg hcT) depthD (by show _ ≤ 4611686018427387904; unfold MB at hl; omega)
    rw [hrv]
    simp only [closeT, close, close1, h1, ofD, dY]
  refine den_wp Try.func10 rfl (by kernel_rfl) rfl rfl ?_
  repeat (first
    | apply WP.seq
    | (apply WP.reg
       case hR => dsimp only [prepL, prepO, List.map, List.getElem?_cons_succ, List.getElem?_cons_zero]; exact Is.rfl
       case hr =>
         repeat (first
           | (apply RT.op (h := by simp [-addNew, envOf, thr_Hn]; exact Is.rfl) (he := by (try dsimp only [putEnv]) <;> exact rfl))
           | (apply RT.call (hg := by simp; exact Is.rfl) (hfo := by simp; exact Is.rfl) (hvs := by simp [-addNew, envOf, thr_Hn]; exact Is.rfl) (hcl := by simp [-addNew, envOf, thr_Hn]; exact Is.rfl) (hd := by simp [-addNew, envOf, thr_Hn]; exact Is.rfl) (hwr := by simp [-addNew, envOf, thr_Hn]; exact Is.rfl) (hlt := by simp [Is]) (he := by (try dsimp only [putEnv]) <;> exact rfl) (hh := by simp; exact Is.rfl) (hw := by exact Is.rfl))
           | (apply RT.callI (hg := by simp; exact Is.rfl) (hfo := by simp; exact Is.rfl) (hvs := by simp [-addNew, envOf, thr_Hn]; exact Is.rfl) (hcl := by simp [-addNew, envOf, thr_Hn]; exact Is.rfl) (hd := hI1) (hne := hI2) (hw := hI3) (hwr := hI4) (he := by (try dsimp only [putEnv]) <;> exact rfl) (hn0 := by first | omega | simp))
           | (apply RT.callT (hg := by simp; exact Is.rfl) (hfo := by simp; exact Is.rfl) (hvs := by simp [-addNew, envOf, thr_Hn]; exact Is.rfl) (hcl := by simp [-addNew, envOf, thr_Hn]; exact Is.rfl) (hd := hT1) (hk := hT2) (he := by (try dsimp only [putEnv]) <;> exact rfl))
           | (apply RT.wr (h := by simp [-addNew, envOf, thr_Hn]; exact Is.rfl) (he := by (try dsimp only [putEnv]) <;> exact rfl) (hh := by simp [-addNew, envOf, thr_Hn]; exact Is.rfl) (hn := by exact Is.rfl) (hc := by exact Is.rfl) (hw := by exact Is.rfl)))
         exact RT.nil
       case hc => (show _ = _; kernel_rfl)
       case ht => simp [-addNew, envOf, thr_Hn]; exact Is.rfl)
    | apply WP.block
    | apply WP.skip
    | apply WP.exit
    | apply WP.ret)
  rw [Nat.zero_add] at hcl
  exact ⟨.inr rfl, _, _, rfl, hcl⟩
end Go.Ab
