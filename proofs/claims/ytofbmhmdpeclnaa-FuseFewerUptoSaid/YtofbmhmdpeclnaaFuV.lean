/- Copies of lists of statements. -/
import Derived.Test.YtofbmhmdpeclnaaFuU
set_option linter.unusedVariables false
set_option linter.unusedSimpArgs false
set_option maxRecDepth 4000
set_option linter.unusedSimpArgs false
set_option linter.unusedVariables false
namespace Go.Ab
open Go.Proofs

theorem copied_all : ∀ (N : Nat) (y : Y), y.sz < N → y.sz ≤ MB → Copied y
  | 0, y, h, _ => by omega
  | N + 1, y, h, hm => statement_ok y hm fun b hb x hx => by
    have h1 := mem_szB hb
    have h2 := mem_szY hx
    have h3 := Y.sz_eq y
    exact copied_all N x (by omega) (by omega)

set_option maxHeartbeats 4000000 in
theorem all_ok (l : List Y) (hl : szY l ≤ MB) : ∃ q, lim Try.prog Hn.cfg 22 [dY l] [] 0 0 = some q ∧ ∃ g cs i, q.v = .osl 0 g 0 l.length 12 none ∧ q.hp.get 0 = some ⟨g, false, cs⟩ ∧ TC q.hp.get cs l i ∧ (0 :: i).Nodup ∧ ∀ id, id ∈ 0 :: i → id < q.n := by
  have hll := len_szY l
  have hlm := hl
  unfold MB at hl
  have main : ∃ (v : V) (t : St), lim Try.prog Hn.cfg 22 [dY l] [] 0 0 = some ⟨v, t.hp, t.n, t.c, t.wl⟩ ∧ (∃ g cs i, v = .osl 0 g 0 l.length 12 none ∧ t.hp.get 0 = some ⟨g, false, cs⟩ ∧ TC t.hp.get cs l i ∧ (0 :: i).Nodup ∧ ∀ id, id ∈ 0 :: i → id < t.n) := by
    refine lim_wp (Q := fun v (t : St) => ∃ g cs i, v = .osl 0 g 0 l.length 12 none ∧ t.hp.get 0 = some ⟨g, false, cs⟩ ∧ TC t.hp.get cs l i ∧ (0 :: i).Nodup ∧ ∀ id, id ∈ 0 :: i → id < t.n) Try.func22 rfl (by kernel_rfl) rfl ?_
    repeat (first
      | apply WP.seq
      | (apply WP.reg
         case hR => dsimp only [prepL, prepO, List.map, List.getElem?_cons_succ, List.getElem?_cons_zero]; exact Is.rfl
         case hr =>
           repeat (first
             | (apply RT.op (h := by simp [envOf]; exact Is.rfl) (he := by (try dsimp only [putEnv]) <;> exact rfl))
             | (apply RT.call (hg := by simp; exact Is.rfl) (hfo := by simp; exact Is.rfl) (hvs := by simp [envOf]; exact Is.rfl) (hcl := by simp [envOf]; exact Is.rfl) (hd := by simp [envOf]; exact Is.rfl) (hwr := by simp [envOf]; exact Is.rfl) (hlt := by simp [Is]) (he := by (try dsimp only [putEnv]) <;> exact rfl) (hh := by simp; exact Is.rfl) (hw := by simp; exact Is.rfl))
             | (apply RT.callI (hg := by simp; exact Is.rfl) (hfo := by simp; exact Is.rfl) (hvs := by simp [envOf]; exact Is.rfl) (hcl := by simp [envOf]; exact Is.rfl) (hd := hI1) (hne := hI2) (hw := hI3) (hwr := hI4) (he := by (try dsimp only [putEnv]) <;> exact rfl) (hn0 := by first | omega | simp))
             | (apply RT.wr (h := by simp [envOf]; exact Is.rfl) (he := by (try dsimp only [putEnv]) <;> exact rfl) (hh := by simp [envOf]; exact Is.rfl) (hn := by exact Is.rfl) (hc := by exact Is.rfl) (hw := by simp; exact Is.rfl)))
           exact RT.nil
         case hc => (show _ = _; kernel_rfl)
         case ht => simp [envOf]; exact Is.rfl)
      | apply WP.block
      | apply WP.skip
      | apply WP.exit
      | apply WP.ret)
    apply WP.loop' (I := fun d s => ∃ i : Nat, i + d = l.length ∧ ∃ (hp : Hp) (n g c : Nat) (cs : List V) (ids : List Nat), hp.get 0 = some ⟨g, false, cs⟩ ∧ TC hp.get cs (l.take i) ids ∧ ids.Nodup ∧ (∀ id, id ∈ ids → 0 < id ∧ id < n) ∧ 0 < n ∧
      s = ⟨[(3, .osl 0 g 0 i 12 none), (6, dY l), (7, dI l.length), (8, dI i)], hp, n, c, 0, []⟩) (d := l.length)
    · exact ⟨0, by simp, _, 1, 0, _, [], [], rfl, .nil, by simp, by simp, by omega, rfl⟩
    rintro d _ ⟨i, hi, hp, n, g, c, cs, ids, hg0, hTC, hnd, hids, hn, rfl⟩
    repeat (first
      | apply WP.seq
      | (apply WP.reg
         case hR => dsimp only [prepL, prepO, List.map, List.getElem?_cons_succ, List.getElem?_cons_zero]; exact Is.rfl
         case hr =>
           repeat (first
             | (apply RT.op (h := by simp [dI]; exact Is.rfl) (he := by (try dsimp only [putEnv]) <;> exact rfl))
             | (apply RT.call (hg := by simp; exact Is.rfl) (hfo := by simp; exact Is.rfl) (hvs := by simp [dI]; exact Is.rfl) (hcl := by simp [dI]; exact Is.rfl) (hd := by simp [dI]; exact Is.rfl) (hwr := by simp [dI]; exact Is.rfl) (hlt := by simp [Is]) (he := by (try dsimp only [putEnv]) <;> exact rfl) (hh := by simp; exact Is.rfl) (hw := by simp; exact Is.rfl))
             | (apply RT.callI (hg := by simp; exact Is.rfl) (hfo := by simp; exact Is.rfl) (hvs := by simp [dI]; exact Is.rfl) (hcl := by simp [dI]; exact Is.rfl) (hd := hI1) (hne := hI2) (hw := hI3) (hwr := hI4) (he := by (try dsimp only [putEnv]) <;> exact rfl) (hn0 := by first | omega | simp))
             | (apply RT.wr (h := by simp [dI]; exact Is.rfl) (he := by (try dsimp only [putEnv]) <;> exact rfl) (hh := by simp [dI]; exact Is.rfl) (hn := by exact Is.rfl) (hc := by exact Is.rfl) (hw := by simp; exact Is.rfl)))
           exact RT.nil
         case hc => (show _ = _; kernel_rfl)
         case ht => simp [dI]; exact Is.rfl)
      | apply WP.block
      | apply WP.skip
      | apply WP.exit
      | apply WP.ret)
    show WP _ _ _ _ _ _
    refine WP.cond _ rfl (fun hb => ?_) (fun hb => ?_)
    · simp at hb
      obtain ⟨x, hxr, hxm, hxx⟩ := at_lt hb
      have hx' := encY_at hxr
      have hw := w_succ hb (by omega)
      have hxs := mem_szY hxm
      obtain ⟨q, hI1, sc, ix, hqv, hTS, hxnd, hxlt⟩ := copied_all (x.sz + 1) x (by omega) (by omega)
      simp only [aY, Y.cells_eq x, List.map] at hI1
      have hcl := hTC.len
      have htl : (l.take i).length = i := by simp; omega
      rw [htl] at hcl
      have hct : cs.take (i * 12) = cs := by rw [← hcl, List.take_length]
      obtain ⟨scS, hscS⟩ : ∃ s, s = shiftVs (n + 1) (c + 1) sc := ⟨_, rfl⟩
      have hI2 : closeT noLook q.v = none := by rw [hqv]; exact hTS.names
      have hI3 : shiftV (n + 1) (c + 1) q.v = .agg scS := by rw [hqv, hscS]; simp [shiftV]
      obtain ⟨W, hI4⟩ : ∃ W, shiftH (n + 1) (c + 1) (wrOf q.hp.get (List.range q.n)) = W := ⟨_, rfl⟩
      have hTS2 : ∀ hpX : Hp, TS (hpX.sets W).get scS x (ix.map (· + (n + 1))) := fun hpX => by
        rw [hscS, ← hI4]; exact hTS.shift fun id o hid ho => import_new (hxlt id hid) ho
      have hone := (hTS2 []).one
      have hl12 := (hTS2 []).len
      have htk : scS.take 12 = scS := by rw [← hl12, List.take_length]
      have hold : ∀ (hpX : Hp) (id : Nat), id < n + 1 → (hpX.sets W).get id = hpX.get id := fun hpX id h => by rw [← hI4]; exact import_old h
      have hF0 : ∀ o o', (((Hp.set hp n o).set n o').sets W).get 0 = some ⟨g, false, cs⟩ := fun o o' => by rw [hold _ _ (by omega), Hp.get_set_ne _ _ _ _ (by omega), Hp.get_set_ne _ _ _ _ (by omega), hg0]
      have hn0 : ¬ n = 0 := by omega
      have hn2 : ¬ n + 1 + q.n = 0 := by omega
      have hfit : (i + 1) * 176 ≤ 140737488355328 := by omega
      have hfr : ∀ A B o2 oB id, id < n → id ≠ 0 → (((((hp.set n A).set n B).sets W).set (n + 1 + q.n) o2).set 0 oB).get id = hp.get id := fun A B o2 oB id h1 h2 => by
        rw [Hp.get_set_ne _ _ _ _ (by omega), Hp.get_set_ne _ _ _ _ (by omega), hold _ _ (by omega), Hp.get_set_ne _ _ _ _ (by omega), Hp.get_set_ne _ _ _ _ (by omega)]
      have hixnd : (ix.map (· + (n + 1))).Nodup := List.Pairwise.map _ (fun a b hab => by simp only [ne_eq]; omega) hxnd
      have hixb : ∀ id, id ∈ ix.map (· + (n + 1)) → n + 1 ≤ id ∧ id < n + 1 + q.n := fun id hid => by
        obtain ⟨j, hj, rfl⟩ := List.mem_map.1 hid
        have := hxlt j hj
        omega
      have hTS3 : ∀ A B o2 oB, TS (((((hp.set n A).set n B).sets W).set (n + 1 + q.n) o2).set 0 oB).get scS x (ix.map (· + (n + 1))) := fun A B o2 oB =>
        (hTS2 ((hp.set n A).set n B)).frame fun id hid => by
          have := hixb id hid
          rw [Hp.get_set_ne _ _ _ _ (by omega), Hp.get_set_ne _ _ _ _ (by omega)]
      have hz1 : 0 < n + 1 + q.n + 1 := by omega
      repeat (first
        | apply WP.seq
        | (apply WP.reg
           case hR => dsimp only [prepL, prepO, List.map, List.getElem?_cons_succ, List.getElem?_cons_zero]; exact Is.rfl
           case hr =>
             repeat (first
               | (apply RT.op (h := by simp [hxx, hx', dY, Y.cells_eq x, Hp.get_set, hg0, hF0, hn0, hn2, hcl, hct, closeVs_false, hone, hl12, htk, hfit, hz1]; exact Is.rfl) (he := by (try dsimp only [putEnv]) <;> exact rfl))
               | (apply RT.call (hg := by simp; exact Is.rfl) (hfo := by simp; exact Is.rfl) (hvs := by simp [hxx, hx', dY, Y.cells_eq x, Hp.get_set, hg0, hF0, hn0, hn2, hcl, hct, closeVs_false, hone, hl12, htk, hfit, hz1]; exact Is.rfl) (hcl := by simp [hxx, hx', dY, Y.cells_eq x, Hp.get_set, hg0, hF0, hn0, hn2, hcl, hct, closeVs_false, hone, hl12, htk, hfit, hz1]; exact Is.rfl) (hd := by simp [hxx, hx', dY, Y.cells_eq x, Hp.get_set, hg0, hF0, hn0, hn2, hcl, hct, closeVs_false, hone, hl12, htk, hfit, hz1]; exact Is.rfl) (hwr := by simp [hxx, hx', dY, Y.cells_eq x, Hp.get_set, hg0, hF0, hn0, hn2, hcl, hct, closeVs_false, hone, hl12, htk, hfit, hz1]; exact Is.rfl) (hlt := by simp [Is]) (he := by (try dsimp only [putEnv]) <;> exact rfl) (hh := by simp; exact Is.rfl) (hw := by simp; exact Is.rfl))
               | (apply RT.callI (hg := by simp; exact Is.rfl) (hfo := by simp; exact Is.rfl) (hvs := by simp [hxx, hx', dY, Y.cells_eq x, Hp.get_set, hg0, hF0, hn0, hn2, hcl, hct, closeVs_false, hone, hl12, htk, hfit, hz1]; exact Is.rfl) (hcl := by simp [hxx, hx', dY, Y.cells_eq x, Hp.get_set, hg0, hF0, hn0, hn2, hcl, hct, closeVs_false, hone, hl12, htk, hfit, hz1]; exact Is.rfl) (hd := hI1) (hne := hI2) (hw := hI3) (hwr := hI4) (he := by (try dsimp only [putEnv]) <;> exact rfl) (hn0 := by first | omega | simp))
               | (apply RT.wr (h := by simp [hxx, hx', dY, Y.cells_eq x, Hp.get_set, hg0, hF0, hn0, hn2, hcl, hct, closeVs_false, hone, hl12, htk, hfit, hz1]; exact Is.rfl) (he := by (try dsimp only [putEnv]) <;> exact rfl) (hh := by simp [hxx, hx', dY, Y.cells_eq x, Hp.get_set, hg0, hF0, hn0, hn2, hcl, hct, closeVs_false, hone, hl12, htk, hfit, hz1]; exact Is.rfl) (hn := by exact Is.rfl) (hc := by exact Is.rfl) (hw := by simp; exact Is.rfl)))
             exact RT.nil
           case hc => (show _ = _; kernel_rfl)
           case ht => simp [hxx, hx', dY, Y.cells_eq x, Hp.get_set, hg0, hF0, hn0, hn2, hcl, hct, closeVs_false, hone, hl12, htk, hfit, hz1]; exact Is.rfl)
        | apply WP.block
        | apply WP.skip
        | apply WP.exit
        | apply WP.ret)
      refine loop_next (by simp; exact Is.rfl) ?_
      refine ⟨d - 1, by omega, i + 1, by omega, ?hp, ?n, ?g, ?c, cs ++ scS, ids ++ ix.map (· + (n + 1)), ?a0, ?aT, ?an, ?ai, ?al, ?az⟩
      case az =>
        refine st_eq ?_ rfl
        simp [dI, dY, hw] <;> rfl
      case a0 => rw [Hp.get_set_self]
      case al => omega
      case aT =>
        rw [take_S hxr]
        refine TC.app (hTC.frame fun id hid => ?_) (TC.one (hTS3 _ _ _ _))
        have := hids id hid
        exact hfr _ _ _ _ id (by omega) (by omega)
      case an =>
        rw [List.nodup_append]
        exact ⟨hnd, hixnd, fun a ha b hb hab => by have := hids a ha; have := hixb b hb; omega⟩
      case ai =>
        intro id hid
        rcases List.mem_append.1 hid with h | h
        · have := hids id h; omega
        · have := hixb id h; omega
    · simp at hb
      have hie : i = l.length := by omega
      subst hie
      rw [List.take_length] at hTC
      repeat (first
        | apply WP.seq
        | (apply WP.reg
           case hR => dsimp only [prepL, prepO, List.map, List.getElem?_cons_succ, List.getElem?_cons_zero]; exact Is.rfl
           case hr =>
             repeat (first
               | (apply RT.op (h := by simp; exact Is.rfl) (he := by (try dsimp only [putEnv]) <;> exact rfl))
               | (apply RT.call (hg := by simp; exact Is.rfl) (hfo := by simp; exact Is.rfl) (hvs := by simp; exact Is.rfl) (hcl := by simp; exact Is.rfl) (hd := by simp; exact Is.rfl) (hwr := by simp; exact Is.rfl) (hlt := by simp [Is]) (he := by (try dsimp only [putEnv]) <;> exact rfl) (hh := by simp; exact Is.rfl) (hw := by simp; exact Is.rfl))
               | (apply RT.callI (hg := by simp; exact Is.rfl) (hfo := by simp; exact Is.rfl) (hvs := by simp; exact Is.rfl) (hcl := by simp; exact Is.rfl) (hd := hI1) (hne := hI2) (hw := hI3) (hwr := hI4) (he := by (try dsimp only [putEnv]) <;> exact rfl) (hn0 := by first | omega | simp))
               | (apply RT.wr (h := by simp; exact Is.rfl) (he := by (try dsimp only [putEnv]) <;> exact rfl) (hh := by simp; exact Is.rfl) (hn := by exact Is.rfl) (hc := by exact Is.rfl) (hw := by simp; exact Is.rfl)))
             exact RT.nil
           case hc => (show _ = _; kernel_rfl)
           case ht => simp; exact Is.rfl)
        | apply WP.block
        | apply WP.skip
        | apply WP.exit
        | apply WP.ret)
      refine ⟨.inr rfl, _, rfl, g, cs, ids, rfl, hg0, hTC, ?_, ?_⟩
      · rw [List.nodup_cons]
        exact ⟨fun h => by have := hids 0 h; omega, hnd⟩
      · intro id hid
        rcases List.mem_cons.1 hid with rfl | h
        · exact hn
        · exact (hids id h).2
  obtain ⟨v, t, h1, h2⟩ := main
  exact ⟨_, h1, h2⟩
end Go.Ab
