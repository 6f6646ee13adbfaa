/- Joining a list. -/
import Derived.Test.YtofbmhmdpeclnaaFvA
set_option linter.unusedVariables false
set_option linter.unusedSimpArgs false
set_option maxRecDepth 4000
set_option linter.unusedSimpArgs false
set_option linter.unusedVariables false
namespace Go.Ab
open Go.Proofs

/-- The branches of a case, as data. -/
theorem brsD {look : Look} {id g : Nat} {vs : List V} {bb : List (List Y)} {i : List Nat} (h : look id = some ⟨g, false, vs⟩) (hb : TB look vs bb i) (hs : szB bb ≤ MB) : toD look depthD (.osl id g 0 bb.length 1 (some bb.length)) = some (.slice (encB bb), id :: i) := by
  rw [show depthD = 4611686018427387903 + 1 from rfl, toD_osl, live_of h]
  have h1 := TB.toDs hb 4611686018427387903 (by unfold MB at hs; omega)
  have h2 := hb.len
  have hle : Nat.ble (0 + bb.length * 1) vs.length = true := by rw [Nat.ble_eq]; omega
  have ht : (vs.drop 0).take (bb.length * 1) = vs := by rw [List.drop_zero, Nat.mul_one, ← h2, List.take_length]
  simp only [hle, ht, h1, cB_chunk]

/-- A joined list, its last case filled. -/
theorem KO.toJO {hp0 : Hp} {n0 : Nat} {ids0 : List Nat} {idl gl : Nat} {cl : List V} {hp : Hp} {n : Nat} {wl : List Nat} {io go : Nat} {c1 : List V} {o1 : List Y} {io1 : List Nat} {sc : List V} {y : Y} {iy iz E : List Nat}
    (h : KO hp0 n0 ids0 idl gl cl hp n wl io go (c1 ++ sc) c1 o1 io1 (iy ++ (iz ++ E))) (ht : TS hp.get sc y iy) : JO hp0 n0 ids0 idl gl cl hp n wl io go (c1 ++ sc) (o1 ++ [y]) (io1 ++ iy) E := by
  have hsub : (idl :: io :: ((io1 ++ iy) ++ E)).Sublist (idl :: io :: (io1 ++ (iy ++ (iz ++ E)))) := by
    refine List.Sublist.cons_cons _ (List.Sublist.cons_cons _ ?_)
    rw [List.append_assoc]
    exact List.Sublist.append_left (List.Sublist.append_left (List.sublist_append_right _ _) _) _
  exact ⟨h.go, TC.app h.to (TC.one ht), h.gl, h.nd.sublist hsub, fun j hj => h.lt j (hsub.subset hj), fun j hj => h.own j (hsub.subset hj), h.wi, h.nn⟩

theorem JO.toKO {hp0 : Hp} {n0 : Nat} {ids0 : List Nat} {idl gl : Nat} {cl : List V} {hp : Hp} {n : Nat} {wl : List Nat} {io go : Nat} {co c1 : List V} {o o1 : List Y} {ids io1 iy E : List Nat}
    (h : JO hp0 n0 ids0 idl gl cl hp n wl io go co o ids E) (hids : ids = io1 ++ iy) (ht : TC hp.get c1 o1 io1) : KO hp0 n0 ids0 idl gl cl hp n wl io go co c1 o1 io1 (iy ++ E) := by
  subst hids
  have he : idl :: io :: ((io1 ++ iy) ++ E) = idl :: io :: (io1 ++ (iy ++ E)) := by rw [List.append_assoc]
  exact ⟨h.go, ht, h.gl, he ▸ h.nd, fun j hj => h.lt j (he ▸ hj), fun j hj => h.own j (he ▸ hj), h.wi, h.nn⟩

set_option maxHeartbeats 16000000 in
theorem join_step (N : Nat) (ihN : JoinAt N) : JoinAt (N + 1) := by
  intro l hN hl hp0 n0 c0 idl gl cl i0 hgl0 hTC0 hnd0 hlt0
  have hll := len_szY l
  unfold MB at hl
  have hclen := hTC0.len
  have hidl0 := hlt0 idl (by simp)
  have hnl : ¬ n0 = idl := by omega
  have main : ∃ (v : V) (t : St), lim Try.prog Hn.cfg 21 [.osl idl gl 0 l.length 12 none] hp0 n0 c0 = some ⟨v, t.hp, t.n, t.c, t.wl⟩ ∧ JPost hp0 n0 (idl :: i0) (Jf (N + 1) l) ⟨v, t.hp, t.n, t.c, t.wl⟩ := by
    refine lim_wp (Q := fun v (t : St) => JPost hp0 n0 (idl :: i0) (Jf (N + 1) l) ⟨v, t.hp, t.n, t.c, t.wl⟩) Try.func21 rfl (by kernel_rfl) rfl ?_
    repeat (first
      | apply WP.seq
      | (apply WP.reg
         case hR => dsimp only [prepL, prepO, List.map, List.getElem?_cons_succ, List.getElem?_cons_zero]; exact Is.rfl
         case hr =>
           repeat (first
             | (apply RT.op (h := by simp [envOf, -addNew, hgl0, Hp.get_set, hnl]; exact Is.rfl) (he := by (try dsimp only [putEnv]) <;> exact rfl))
             | (apply RT.call (hg := by simp; exact Is.rfl) (hfo := by simp; exact Is.rfl) (hvs := by simp [envOf, -addNew, hgl0, Hp.get_set, hnl]; exact Is.rfl) (hcl := by simp [envOf, -addNew, hgl0, Hp.get_set, hnl]; exact Is.rfl) (hd := by simp [envOf, -addNew, hgl0, Hp.get_set, hnl]; exact Is.rfl) (hwr := by simp [envOf, -addNew, hgl0, Hp.get_set, hnl]; exact Is.rfl) (hlt := by simp [Is]) (he := by (try dsimp only [putEnv]) <;> exact rfl) (hh := by simp; exact Is.rfl) (hw := by exact Is.rfl))
             | (apply RT.callI (hg := by simp; exact Is.rfl) (hfo := by simp; exact Is.rfl) (hvs := by simp [envOf, -addNew, hgl0, Hp.get_set, hnl]; exact Is.rfl) (hcl := by simp [envOf, -addNew, hgl0, Hp.get_set, hnl]; exact Is.rfl) (hd := hI1) (hne := hI2) (hw := hI3) (hwr := hI4) (he := by (try dsimp only [putEnv]) <;> exact rfl) (hn0 := by first | omega | simp))
             | (apply RT.callT (hg := by simp; exact Is.rfl) (hfo := by simp; exact Is.rfl) (hvs := by simp [envOf, -addNew, hgl0, Hp.get_set, hnl]; exact Is.rfl) (hcl := by simp [envOf, -addNew, hgl0, Hp.get_set, hnl]; exact Is.rfl) (hd := hT1) (hk := hT2) (he := by (try dsimp only [putEnv]) <;> exact rfl))
             | (apply RT.wr (h := by simp [envOf, -addNew, hgl0, Hp.get_set, hnl]; exact Is.rfl) (he := by (try dsimp only [putEnv]) <;> exact rfl) (hh := by simp [envOf, -addNew, hgl0, Hp.get_set, hnl]; exact Is.rfl) (hn := by exact Is.rfl) (hc := by exact Is.rfl) (hw := by exact Is.rfl)))
           exact RT.nil
         case hc => (show _ = _; kernel_rfl)
         case ht => simp [envOf, -addNew, hgl0, Hp.get_set, hnl]; exact Is.rfl)
      | apply WP.block
      | apply WP.skip
      | apply WP.exit
      | apply WP.ret)
    apply WP.loop' (I := fun d s => ∃ i : Nat, i + d = l.length ∧ ∃ (hp : Hp) (n c : Nat) (wl : List Nat) (io go : Nat) (co : List V) (ids : List Nat) (cd cr : List V) (E : List Nat), JO hp0 n0 (idl :: i0) idl gl cl hp n wl io go co (Jp N l i) ids E ∧ cl = cd ++ cr ∧ cd.length = i * 12 ∧ TC hp.get cr (l.drop i) E ∧
      s = ⟨[(3, .osl io go 0 (Jp N l i).length 12 none), (11, .osl idl gl 0 l.length 12 none), (12, dI l.length), (13, dI i)], hp, n, c, n0, wl⟩) (d := l.length)
    · refine ⟨0, by simp, hp0.set n0 ⟨c0, false, []⟩, n0 + 1, c0 + 1, [], n0, c0, [], [], [], cl, i0, ⟨?_, ?_, ?_, ?_, ?_, ?_, ?_, ?_⟩, rfl, rfl, ?_, rfl⟩
      · rw [Hp.get_set_self]
      · rw [Jp_zero]; exact .nil
      · rw [Hp.get_set_ne _ _ _ _ (by omega), hgl0]
      · rw [List.nodup_cons] at hnd0
        simp only [List.nil_append, List.nodup_cons, List.mem_cons, not_or]
        exact ⟨⟨by omega, hnd0.1⟩, fun h => by have := hlt0 n0 (by simp [h]); omega, hnd0.2⟩
      · intro j hj
        simp only [List.nil_append, List.mem_cons] at hj
        rcases hj with h | h | h
        · omega
        · omega
        · have := hlt0 j (by simp [h]); omega
      · intro j hj
        simp only [List.nil_append, List.mem_cons] at hj ⊢
        rcases hj with h | h | h
        · exact .inl (.inl h)
        · exact .inr (by omega)
        · exact .inl (.inr h)
      · exact ⟨fun j hj => (by cases hj), fun j hj _ => Hp.get_set_ne _ _ _ _ (by omega)⟩
      · omega
      · exact hTC0.frame fun j hj => Hp.get_set_ne _ _ _ _ (by have := hlt0 j (by simp [hj]); omega)
    rintro d _ ⟨i, hi, hp, n, c, wl, io, go, co, ids, cd, cr, E, hJ, hcl, hcd, hTC, rfl⟩
    repeat (first
      | apply WP.seq
      | (apply WP.reg
         case hR => dsimp only [prepL, prepO, List.map, List.getElem?_cons_succ, List.getElem?_cons_zero]; exact Is.rfl
         case hr =>
           repeat (first
             | (apply RT.op (h := by simp [dI, -addNew]; exact Is.rfl) (he := by (try dsimp only [putEnv]) <;> exact rfl))
             | (apply RT.call (hg := by simp; exact Is.rfl) (hfo := by simp; exact Is.rfl) (hvs := by simp [dI, -addNew]; exact Is.rfl) (hcl := by simp [dI, -addNew]; exact Is.rfl) (hd := by simp [dI, -addNew]; exact Is.rfl) (hwr := by simp [dI, -addNew]; exact Is.rfl) (hlt := by simp [Is]) (he := by (try dsimp only [putEnv]) <;> exact rfl) (hh := by simp; exact Is.rfl) (hw := by exact Is.rfl))
             | (apply RT.callI (hg := by simp; exact Is.rfl) (hfo := by simp; exact Is.rfl) (hvs := by simp [dI, -addNew]; exact Is.rfl) (hcl := by simp [dI, -addNew]; exact Is.rfl) (hd := hI1) (hne := hI2) (hw := hI3) (hwr := hI4) (he := by (try dsimp only [putEnv]) <;> exact rfl) (hn0 := by first | omega | simp))
             | (apply RT.callT (hg := by simp; exact Is.rfl) (hfo := by simp; exact Is.rfl) (hvs := by simp [dI, -addNew]; exact Is.rfl) (hcl := by simp [dI, -addNew]; exact Is.rfl) (hd := hT1) (hk := hT2) (he := by (try dsimp only [putEnv]) <;> exact rfl))
             | (apply RT.wr (h := by simp [dI, -addNew]; exact Is.rfl) (he := by (try dsimp only [putEnv]) <;> exact rfl) (hh := by simp [dI, -addNew]; exact Is.rfl) (hn := by exact Is.rfl) (hc := by exact Is.rfl) (hw := by exact Is.rfl)))
           exact RT.nil
         case hc => (show _ = _; kernel_rfl)
         case ht => simp [dI, -addNew]; exact Is.rfl)
      | apply WP.block
      | apply WP.skip
      | apply WP.exit
      | apply WP.ret)
    show WP _ _ _ _ _ _
    refine WP.cond _ rfl (fun hb => ?_) (fun hb => ?_)
    · simp at hb
      obtain ⟨y, hy, hym, hix⟩ := at_lt hb
      have hw := w_succ hb (by omega)
      have hdrop : l.drop i = y :: l.drop (i + 1) := by
        obtain ⟨h1, h2⟩ := List.getElem?_eq_some_iff.1 hy
        rw [List.drop_eq_getElem_cons h1, h2]
      rw [hdrop] at hTC
      obtain ⟨sc, cr', iy, E', hcr, hE, hTS, hTC'⟩ := hTC.uncons
      obtain ⟨idb, gb, vs, ib, hsc, hiy, hgb, hTB⟩ := hTS.inv
      have hsl := hTS.len
      have hld : (cl.drop (i * 12)).take 12 = sc := by
        rw [hcl, ← hcd, List.drop_left, hcr, ← hsl, List.take_left]
      rw [hsc] at hld
      simp only [hdY, List.cons_append, List.nil_append] at hld
      have hm12 : min 12 (l.length * 12 - i * 12) = 12 := by omega
      have hgl := hJ.gl
      have hgo := hJ.go
      obtain ⟨hne1, hne2, hne3, hne4, hne5⟩ := hJ.ne
      have hltl := hJ.lt idl (by simp)
      have hlto := hJ.lt io (by simp)
      have hn1 : ¬ n = idl := by omega
      have hn2 : ¬ n = io := by omega
      have hsz := szY_takeS hy
      have hJs := Jp_sz N l i
      have hJl := len_szY (Jp N l i)
      have hysz := Y.sz_eq y
      repeat (first
        | apply WP.seq
        | (apply WP.reg
           case hR => dsimp only [prepL, prepO, List.map, List.getElem?_cons_succ, List.getElem?_cons_zero]; exact Is.rfl
           case hr =>
             repeat (first
               | (apply RT.op (h := by simp [-addNew, hix, hgl, Hp.get_set, hn1, hn2, hld, hclen, hm12]; exact Is.rfl) (he := by (try dsimp only [putEnv]) <;> exact rfl))
               | (apply RT.call (hg := by simp; exact Is.rfl) (hfo := by simp; exact Is.rfl) (hvs := by simp [-addNew, hix, hgl, Hp.get_set, hn1, hn2, hld, hclen, hm12]; exact Is.rfl) (hcl := by simp [-addNew, hix, hgl, Hp.get_set, hn1, hn2, hld, hclen, hm12]; exact Is.rfl) (hd := by simp [-addNew, hix, hgl, Hp.get_set, hn1, hn2, hld, hclen, hm12]; exact Is.rfl) (hwr := by simp [-addNew, hix, hgl, Hp.get_set, hn1, hn2, hld, hclen, hm12]; exact Is.rfl) (hlt := by simp [Is]) (he := by (try dsimp only [putEnv]) <;> exact rfl) (hh := by simp; exact Is.rfl) (hw := by exact Is.rfl))
               | (apply RT.callI (hg := by simp; exact Is.rfl) (hfo := by simp; exact Is.rfl) (hvs := by simp [-addNew, hix, hgl, Hp.get_set, hn1, hn2, hld, hclen, hm12]; exact Is.rfl) (hcl := by simp [-addNew, hix, hgl, Hp.get_set, hn1, hn2, hld, hclen, hm12]; exact Is.rfl) (hd := hI1) (hne := hI2) (hw := hI3) (hwr := hI4) (he := by (try dsimp only [putEnv]) <;> exact rfl) (hn0 := by first | omega | simp))
               | (apply RT.callT (hg := by simp; exact Is.rfl) (hfo := by simp; exact Is.rfl) (hvs := by simp [-addNew, hix, hgl, Hp.get_set, hn1, hn2, hld, hclen, hm12]; exact Is.rfl) (hcl := by simp [-addNew, hix, hgl, Hp.get_set, hn1, hn2, hld, hclen, hm12]; exact Is.rfl) (hd := hT1) (hk := hT2) (he := by (try dsimp only [putEnv]) <;> exact rfl))
               | (apply RT.wr (h := by simp [-addNew, hix, hgl, Hp.get_set, hn1, hn2, hld, hclen, hm12]; exact Is.rfl) (he := by (try dsimp only [putEnv]) <;> exact rfl) (hh := by simp [-addNew, hix, hgl, Hp.get_set, hn1, hn2, hld, hclen, hm12]; exact Is.rfl) (hn := by exact Is.rfl) (hc := by exact Is.rfl) (hw := by exact Is.rfl)))
             exact RT.nil
           case hc => (show _ = _; kernel_rfl)
           case ht => simp [-addNew, hix, hgl, Hp.get_set, hn1, hn2, hld, hclen, hm12]; exact Is.rfl)
        | apply WP.block
        | apply WP.skip
        | apply WP.exit
        | apply WP.ret)
      subst hsc
      have hnn := hJ.nn
      show WP _ _ _ _ _ _
      apply WP.gen
      intro hp1 wl1 hh hw1
      have hJ1 : JO hp0 n0 (idl :: i0) idl gl cl hp1 (n + 1) wl1 io go co (Jp N l i) ids E := by
        rw [hh, hw1]
        exact (hJ.new (k := n) (n' := n + 1) (Nat.le_refl _) (by omega)).set (k := n) (n' := n + 1) (fun he => hn2 he) (fun he => hn1 he) (fun hi => by have := hJ.lt n (by simp [hi]); omega) (.inr hJ.nn) (Nat.le_refl _)
      have hfr1 : ∀ j, j < n → hp1.get j = hp.get j := fun j hj => by rw [hh, Hp.get_set_ne _ _ _ _ (by omega), Hp.get_set_ne _ _ _ _ (by omega)]
      have hbox : hp1.get n = some ⟨c, false, hdY y ++ [.osl idb gb 0 y.brs.length 1 (some y.brs.length)]⟩ := by rw [hh, Hp.get_set_self]; rfl
      have hboxE := hbox
      simp only [hdY, List.cons_append, List.nil_append] at hboxE
      clear hh hw1
      subst hE
      have hTS1 : TS hp1.get (hdY y ++ [.osl idb gb 0 y.brs.length 1 (some y.brs.length)]) y iy := hTS.frame fun j hj => hfr1 j (hJ.ltE (by simp [hj]))
      have hTC1 : TC hp1.get cr' (l.drop (i + 1)) E' := hTC'.frame fun j hj => hfr1 j (hJ.ltE (by simp [hj]))
      have hgo1 := hJ1.go
      have hcol := hJ1.to.len
      have hcot : co.take ((Jp N l i).length * 12) = co := by rw [← hcol, List.take_length]
      have hcd2 : (cd ++ (hdY y ++ [V.osl idb gb 0 y.brs.length 1 (some y.brs.length)])).length = (i + 1) * 12 := by rw [List.length_append, hcd, hsl]; omega
      have hcl2 : cl = (cd ++ (hdY y ++ [V.osl idb gb 0 y.brs.length 1 (some y.brs.length)])) ++ cr' := by rw [hcl, hcr]; simp [List.append_assoc]
      show WP _ _ _ _ _ _
      refine WP.cond _ rfl (fun hb => ?_) (fun hb => ?_)
      · simp at hb
        have hfit : ((Jp N l i).length + 1) * 176 ≤ 140737488355328 := by omega
        have hn3 : ¬ n + 1 = io := by omega
        have hn4 : io < n + 1 + 1 := by omega
        have hJp : Jp N l (i + 1) = Jp N l i ++ [y] := by rw [Jp_succ hy]; simp [jstep, hb]
        repeat (first
          | apply WP.seq
          | (apply WP.reg
             case hR => dsimp only [prepL, prepO, List.map, List.getElem?_cons_succ, List.getElem?_cons_zero]; exact Is.rfl
             case hr =>
               repeat (first
                 | (apply RT.op (h := by simp [-addNew, hboxE, hgo1, Hp.get_set, hn3, hn4, hcol, hcot, hfit, closeVs_false]; exact Is.rfl) (he := by (try dsimp only [putEnv]) <;> exact rfl))
                 | (apply RT.call (hg := by simp; exact Is.rfl) (hfo := by simp; exact Is.rfl) (hvs := by simp [-addNew, hboxE, hgo1, Hp.get_set, hn3, hn4, hcol, hcot, hfit, closeVs_false]; exact Is.rfl) (hcl := by simp [-addNew, hboxE, hgo1, Hp.get_set, hn3, hn4, hcol, hcot, hfit, closeVs_false]; exact Is.rfl) (hd := by simp [-addNew, hboxE, hgo1, Hp.get_set, hn3, hn4, hcol, hcot, hfit, closeVs_false]; exact Is.rfl) (hwr := by simp [-addNew, hboxE, hgo1, Hp.get_set, hn3, hn4, hcol, hcot, hfit, closeVs_false]; exact Is.rfl) (hlt := by simp [Is]) (he := by (try dsimp only [putEnv]) <;> exact rfl) (hh := by simp; exact Is.rfl) (hw := by exact Is.rfl))
                 | (apply RT.callI (hg := by simp; exact Is.rfl) (hfo := by simp; exact Is.rfl) (hvs := by simp [-addNew, hboxE, hgo1, Hp.get_set, hn3, hn4, hcol, hcot, hfit, closeVs_false]; exact Is.rfl) (hcl := by simp [-addNew, hboxE, hgo1, Hp.get_set, hn3, hn4, hcol, hcot, hfit, closeVs_false]; exact Is.rfl) (hd := hI1) (hne := hI2) (hw := hI3) (hwr := hI4) (he := by (try dsimp only [putEnv]) <;> exact rfl) (hn0 := by first | omega | simp))
                 | (apply RT.callT (hg := by simp; exact Is.rfl) (hfo := by simp; exact Is.rfl) (hvs := by simp [-addNew, hboxE, hgo1, Hp.get_set, hn3, hn4, hcol, hcot, hfit, closeVs_false]; exact Is.rfl) (hcl := by simp [-addNew, hboxE, hgo1, Hp.get_set, hn3, hn4, hcol, hcot, hfit, closeVs_false]; exact Is.rfl) (hd := hT1) (hk := hT2) (he := by (try dsimp only [putEnv]) <;> exact rfl))
                 | (apply RT.wr (h := by simp [-addNew, hboxE, hgo1, Hp.get_set, hn3, hn4, hcol, hcot, hfit, closeVs_false]; exact Is.rfl) (he := by (try dsimp only [putEnv]) <;> exact rfl) (hh := by simp [-addNew, hboxE, hgo1, Hp.get_set, hn3, hn4, hcol, hcot, hfit, closeVs_false]; exact Is.rfl) (hn := by exact Is.rfl) (hc := by exact Is.rfl) (hw := by exact Is.rfl)))
               exact RT.nil
             case hc => (show _ = _; kernel_rfl)
             case ht => simp [-addNew, hboxE, hgo1, Hp.get_set, hn3, hn4, hcol, hcot, hfit, closeVs_false]; exact Is.rfl)
          | apply WP.block
          | apply WP.skip
          | apply WP.exit
          | apply WP.ret)
        refine loop_next (by simp [-addNew]; exact Is.rfl) ?_
        refine ⟨d - 1, by omega, i + 1, by omega, ?qhp, ?qn, ?qc, ?qwl, io, ?qgo, co ++ (hdY y ++ [.osl idb gb 0 y.brs.length 1 (some y.brs.length)]), ids ++ iy, cd ++ (hdY y ++ [.osl idb gb 0 y.brs.length 1 (some y.brs.length)]), cr', E', ?qJ, hcl2, hcd2, ?qT, ?qz⟩
        case qz =>
          refine st_eq ?_ rfl
          simp [dI, hw, hJp] <;> rfl
        case qJ =>
          rw [hJp]
          exact JO.push (hJ1.new (k := n + 1) (n' := n + 1 + 1) (Nat.le_refl _) (by omega)) (hTS1.frame fun j hj => Hp.get_set_ne _ _ _ _ (by have := hJ.ltE (j := j) (by simp [hj]); omega)) (List.Perm.refl _)
        case qT =>
          refine hTC1.frame fun j hj => ?_
          have h1 := hJ.ltE (j := j) (by simp [hj])
          rw [Hp.get_set_ne _ _ _ _ (fun he => hne5 (by rw [he]; simp [hj])), Hp.get_set_ne _ _ _ _ (by omega)]
      · simp at hb
        have hbk := hb
        obtain ⟨iyb, hiyb⟩ : ∃ q, q = idb :: ib := ⟨_, rfl⟩
        subst hiy
        clear hiyb iyb
        have hltb : idb < n := hJ.ltE (by simp)
        have hgb1 : hp1.get idb = some ⟨gb, false, vs⟩ := by rw [hfr1 idb hltb, hgb]
        have hTB1 : TB hp1.get vs y.brs ib := hTB.frame fun j hj => hfr1 j (hJ.ltE (by simp [hj]))
        obtain ⟨bs, hbs⟩ : ∃ bs, bs = y.brs.map (Jf N) := ⟨_, rfl⟩
        have hbl : bs.length = y.brs.length := by rw [hbs]; simp
        have hbz : szB bs ≤ szB y.brs := by rw [hbs]; exact szB_map (Jf_sz N) _
        have hwz := Y.with_sz y bs
        repeat (first
          | apply WP.seq
          | (apply WP.reg
             case hR => dsimp only [prepL, prepO, List.map, List.getElem?_cons_succ, List.getElem?_cons_zero]; exact Is.rfl
             case hr =>
               repeat (first
                 | (apply RT.op (h := by simp [-addNew, hboxE, hgb1]; exact Is.rfl) (he := by (try dsimp only [putEnv]) <;> exact rfl))
                 | (apply RT.call (hg := by simp; exact Is.rfl) (hfo := by simp; exact Is.rfl) (hvs := by simp [-addNew, hboxE, hgb1]; exact Is.rfl) (hcl := by simp [-addNew, hboxE, hgb1]; exact Is.rfl) (hd := by simp [-addNew, hboxE, hgb1]; exact Is.rfl) (hwr := by simp [-addNew, hboxE, hgb1]; exact Is.rfl) (hlt := by simp [Is]) (he := by (try dsimp only [putEnv]) <;> exact rfl) (hh := by simp; exact Is.rfl) (hw := by exact Is.rfl))
                 | (apply RT.callI (hg := by simp; exact Is.rfl) (hfo := by simp; exact Is.rfl) (hvs := by simp [-addNew, hboxE, hgb1]; exact Is.rfl) (hcl := by simp [-addNew, hboxE, hgb1]; exact Is.rfl) (hd := hI1) (hne := hI2) (hw := hI3) (hwr := hI4) (he := by (try dsimp only [putEnv]) <;> exact rfl) (hn0 := by first | omega | simp))
                 | (apply RT.callT (hg := by simp; exact Is.rfl) (hfo := by simp; exact Is.rfl) (hvs := by simp [-addNew, hboxE, hgb1]; exact Is.rfl) (hcl := by simp [-addNew, hboxE, hgb1]; exact Is.rfl) (hd := hT1) (hk := hT2) (he := by (try dsimp only [putEnv]) <;> exact rfl))
                 | (apply RT.wr (h := by simp [-addNew, hboxE, hgb1]; exact Is.rfl) (he := by (try dsimp only [putEnv]) <;> exact rfl) (hh := by simp [-addNew, hboxE, hgb1]; exact Is.rfl) (hn := by exact Is.rfl) (hc := by exact Is.rfl) (hw := by exact Is.rfl)))
               exact RT.nil
             case hc => (show _ = _; kernel_rfl)
             case ht => simp [-addNew, hboxE, hgb1]; exact Is.rfl)
          | apply WP.block
          | apply WP.skip
          | apply WP.exit
          | apply WP.ret)
        refine WP.mono (join_inner N ihN hp0 n0 (idl :: i0) idl gl cl io go co (Jp N l i) ids idb gb cr' (l.drop (i + 1)) E' n c (hdY y) _ _ _ y bs hbs rfl (by omega) (by unfold MB; omega) hnn hp1 (n + 1) (c + 1) wl1 vs ib ⟨hJ1, hgb1, hTB1, hTC1, hbox, by omega, fun j hj he => by have := hJ.lt j hj; omega, hnn⟩) ?_
        rintro e t ⟨rfl, hp2, n2, c2, wl2, vs2, ib2, hB, rfl⟩
        show WP _ _ _ _ _ _
        have hJ2 := hB.jo
        have hpb := hB.pb
        have hpbE := hpb
        simp only [hdY, List.cons_append, List.nil_append] at hpbE
        have hclB := brsD hB.gb hB.tb (by unfold MB; omega)
        rw [hbl] at hclB
        have hysz2 : (y.with bs).sz ≤ MX := by unfold MX; omega
        have hemp := empty_den (y.with bs) hysz2
        simp [aY, Y.with_cells] at hemp
        rw [show (y.with bs).brs = bs from rfl] at hemp
        have hTSy : TS hp2.get (hdY y ++ [.osl idb gb 0 y.brs.length 1 (some y.brs.length)]) (y.with bs) (idb :: ib2) := by
          have := TS.mk (y := y.with bs) hB.gb hB.tb
          rw [show (y.with bs).brs.length = y.brs.length from hbl] at this
          exact this
        have hdropE : JO hp0 n0 (idl :: i0) idl gl cl hp2 n2 wl2 io go co (Jp N l i) ids E' := hJ2.reE (m := n2) (by
          have := hJ2.ndE
          rw [List.nodup_append] at this
          exact this.2.1) hJ2.lt hJ2.nn (fun j hj => .inl (List.mem_append_right _ hj))
        have hJpS := Jp_succ (n := N) hy
        have hgo2 := hJ2.go
        have hnio : ¬ n = io := hn2
        have hn2io : ¬ n2 = io := by have := hJ2.lt io (by simp); omega
        have hfit : ((Jp N l i).length + 1) * 176 ≤ 140737488355328 := by omega
        have hlto2 : io < n2 + 1 := by have := hJ2.lt io (by simp); omega
        repeat (first
          | apply WP.seq
          | (apply WP.reg
             case hR => dsimp only [prepL, prepO, List.map, List.getElem?_cons_succ, List.getElem?_cons_zero]; exact Is.rfl
             case hr =>
               repeat (first
                 | (apply RT.op (h := by simp [-addNew, -toD_dep, hpbE, hclB, hemp]; exact Is.rfl) (he := by (try dsimp only [putEnv]) <;> exact rfl))
                 | (apply RT.call (hg := by simp; exact Is.rfl) (hfo := by simp; exact Is.rfl) (hvs := by simp [-addNew, -toD_dep, hpbE, hclB, hemp]; exact Is.rfl) (hcl := by simp [-addNew, -toD_dep, hpbE, hclB, hemp]; exact Is.rfl) (hd := by simp [-addNew, -toD_dep, hpbE, hclB, hemp]; exact Is.rfl) (hwr := by simp [-addNew, -toD_dep, hpbE, hclB, hemp]; exact Is.rfl) (hlt := by simp [Is]) (he := by (try dsimp only [putEnv]) <;> exact rfl) (hh := by simp; exact Is.rfl) (hw := by exact Is.rfl))
                 | (apply RT.callI (hg := by simp; exact Is.rfl) (hfo := by simp; exact Is.rfl) (hvs := by simp [-addNew, -toD_dep, hpbE, hclB, hemp]; exact Is.rfl) (hcl := by simp [-addNew, -toD_dep, hpbE, hclB, hemp]; exact Is.rfl) (hd := hI1) (hne := hI2) (hw := hI3) (hwr := hI4) (he := by (try dsimp only [putEnv]) <;> exact rfl) (hn0 := by first | omega | simp))
                 | (apply RT.callT (hg := by simp; exact Is.rfl) (hfo := by simp; exact Is.rfl) (hvs := by simp [-addNew, -toD_dep, hpbE, hclB, hemp]; exact Is.rfl) (hcl := by simp [-addNew, -toD_dep, hpbE, hclB, hemp]; exact Is.rfl) (hd := hT1) (hk := hT2) (he := by (try dsimp only [putEnv]) <;> exact rfl))
                 | (apply RT.wr (h := by simp [-addNew, -toD_dep, hpbE, hclB, hemp]; exact Is.rfl) (he := by (try dsimp only [putEnv]) <;> exact rfl) (hh := by simp [-addNew, -toD_dep, hpbE, hclB, hemp]; exact Is.rfl) (hn := by exact Is.rfl) (hc := by exact Is.rfl) (hw := by exact Is.rfl)))
               exact RT.nil
             case hc => (show _ = _; kernel_rfl)
             case ht => simp [-addNew, -toD_dep, hpbE, hclB, hemp]; exact Is.rfl)
          | apply WP.block
          | apply WP.skip
          | apply WP.exit
          | apply WP.ret)
        show WP _ _ _ _ _ _
        refine WP.cond _ rfl (fun hb => ?_) (fun hb => ?_)
        · have hJp : Jp N l (i + 1) = Jp N l i := by rw [hJpS]; exact jstep_emp hbk hbs hb
          repeat (first
            | apply WP.seq
            | (apply WP.reg
               case hR => dsimp only [prepL, prepO, List.map, List.getElem?_cons_succ, List.getElem?_cons_zero]; exact Is.rfl
               case hr =>
                 repeat (first
                   | (apply RT.op (h := by simp [-addNew]; exact Is.rfl) (he := by (try dsimp only [putEnv]) <;> exact rfl))
                   | (apply RT.call (hg := by simp; exact Is.rfl) (hfo := by simp; exact Is.rfl) (hvs := by simp [-addNew]; exact Is.rfl) (hcl := by simp [-addNew]; exact Is.rfl) (hd := by simp [-addNew]; exact Is.rfl) (hwr := by simp [-addNew]; exact Is.rfl) (hlt := by simp [Is]) (he := by (try dsimp only [putEnv]) <;> exact rfl) (hh := by simp; exact Is.rfl) (hw := by exact Is.rfl))
                   | (apply RT.callI (hg := by simp; exact Is.rfl) (hfo := by simp; exact Is.rfl) (hvs := by simp [-addNew]; exact Is.rfl) (hcl := by simp [-addNew]; exact Is.rfl) (hd := hI1) (hne := hI2) (hw := hI3) (hwr := hI4) (he := by (try dsimp only [putEnv]) <;> exact rfl) (hn0 := by first | omega | simp))
                   | (apply RT.callT (hg := by simp; exact Is.rfl) (hfo := by simp; exact Is.rfl) (hvs := by simp [-addNew]; exact Is.rfl) (hcl := by simp [-addNew]; exact Is.rfl) (hd := hT1) (hk := hT2) (he := by (try dsimp only [putEnv]) <;> exact rfl))
                   | (apply RT.wr (h := by simp [-addNew]; exact Is.rfl) (he := by (try dsimp only [putEnv]) <;> exact rfl) (hh := by simp [-addNew]; exact Is.rfl) (hn := by exact Is.rfl) (hc := by exact Is.rfl) (hw := by exact Is.rfl)))
                 exact RT.nil
               case hc => (show _ = _; kernel_rfl)
               case ht => simp [-addNew]; exact Is.rfl)
            | apply WP.block
            | apply WP.skip
            | apply WP.exit
            | apply WP.ret)
          refine loop_next (by simp [-addNew]; exact Is.rfl) ?_
          exact ⟨d - 1, by omega, i + 1, by omega, hp2, n2, _, wl2, io, go, co, ids, _, cr', E', hJp ▸ hdropE, hcl2, hcd2, hB.tr, st_eq (by simp [dI, hw, hJp]) rfl⟩
        · have hbe := hb
          have hpush : ∀ (X : Ob) (g' : Nat), JO hp0 n0 (idl :: i0) idl gl cl ((hp2.set n2 X).set io ⟨g', false, co ++ (hdY y ++ [.osl idb gb 0 y.brs.length 1 (some y.brs.length)])⟩) (n2 + 1) (addNew n0 (addNew n0 wl2 [(n2, X)]) [(io, ⟨g', false, co ++ (hdY y ++ [.osl idb gb 0 y.brs.length 1 (some y.brs.length)])⟩)]) io g' (co ++ (hdY y ++ [.osl idb gb 0 y.brs.length 1 (some y.brs.length)])) (Jp N l i ++ [y.with bs]) (ids ++ (idb :: ib2)) E' := fun X g' =>
            JO.push (hJ2.new (k := n2) (n' := n2 + 1) (Nat.le_refl _) (by omega)) (hTSy.frame fun j hj => Hp.get_set_ne _ _ _ _ (by have := hJ2.ltE (j := j) (List.mem_append_left _ hj); omega)) (List.Perm.refl _)
          have htr : ∀ (X : Ob) (g' : Nat), TC ((hp2.set n2 X).set io ⟨g', false, co ++ (hdY y ++ [.osl idb gb 0 y.brs.length 1 (some y.brs.length)])⟩).get cr' (l.drop (i + 1)) E' := fun X g' => hB.tr.frame fun j hj => by
            have h1 := hJ2.ltE (j := j) (List.mem_append_right _ hj)
            have hne : io ≠ j := fun he => hdropE.ne.2.2.2.2 (by rw [he]; exact hj)
            rw [Hp.get_set_ne _ _ _ _ hne, Hp.get_set_ne _ _ _ _ (by omega)]
          repeat (first
            | apply WP.seq
            | (apply WP.reg
               case hR => dsimp only [prepL, prepO, List.map, List.getElem?_cons_succ, List.getElem?_cons_zero]; exact Is.rfl
               case hr =>
                 repeat (first
                   | (apply RT.op (h := by simp [-addNew]; exact Is.rfl) (he := by (try dsimp only [putEnv]) <;> exact rfl))
                   | (apply RT.call (hg := by simp; exact Is.rfl) (hfo := by simp; exact Is.rfl) (hvs := by simp [-addNew]; exact Is.rfl) (hcl := by simp [-addNew]; exact Is.rfl) (hd := by simp [-addNew]; exact Is.rfl) (hwr := by simp [-addNew]; exact Is.rfl) (hlt := by simp [Is]) (he := by (try dsimp only [putEnv]) <;> exact rfl) (hh := by simp; exact Is.rfl) (hw := by exact Is.rfl))
                   | (apply RT.callI (hg := by simp; exact Is.rfl) (hfo := by simp; exact Is.rfl) (hvs := by simp [-addNew]; exact Is.rfl) (hcl := by simp [-addNew]; exact Is.rfl) (hd := hI1) (hne := hI2) (hw := hI3) (hwr := hI4) (he := by (try dsimp only [putEnv]) <;> exact rfl) (hn0 := by first | omega | simp))
                   | (apply RT.callT (hg := by simp; exact Is.rfl) (hfo := by simp; exact Is.rfl) (hvs := by simp [-addNew]; exact Is.rfl) (hcl := by simp [-addNew]; exact Is.rfl) (hd := hT1) (hk := hT2) (he := by (try dsimp only [putEnv]) <;> exact rfl))
                   | (apply RT.wr (h := by simp [-addNew]; exact Is.rfl) (he := by (try dsimp only [putEnv]) <;> exact rfl) (hh := by simp [-addNew]; exact Is.rfl) (hn := by exact Is.rfl) (hc := by exact Is.rfl) (hw := by exact Is.rfl)))
                 exact RT.nil
               case hc => (show _ = _; kernel_rfl)
               case ht => simp [-addNew]; exact Is.rfl)
            | apply WP.block
            | apply WP.skip
            | apply WP.exit
            | apply WP.ret)
          cases hout : (Jp N l i).getLast? with
          | none =>
            have hnil : Jp N l i = [] := List.getLast?_eq_none_iff.1 hout
            have hJp : Jp N l (i + 1) = Jp N l i ++ [y.with bs] := by rw [hJpS]; exact jstep_none hbk hbs hbe hout
            have hol : (Jp N l i).length = 0 := by rw [hnil]; rfl
            have hw1 : IntKind.i64.wrap (-1) = -1 := by rw [w_id] <;> omega
            have hco : co = [] := by
              have := hJ2.to.len
              rw [hol] at this
              exact List.length_eq_zero_iff.1 (by omega)
            subst hco
            repeat (first
              | apply WP.seq
              | (apply WP.reg
                 case hR => dsimp only [prepL, prepO, List.map, List.getElem?_cons_succ, List.getElem?_cons_zero]; exact Is.rfl
                 case hr =>
                   repeat (first
                     | (apply RT.op (h := by simp [-addNew, hgo2, hol, hw1]; exact Is.rfl) (he := by (try dsimp only [putEnv]) <;> exact rfl))
                     | (apply RT.call (hg := by simp; exact Is.rfl) (hfo := by simp; exact Is.rfl) (hvs := by simp [-addNew, hgo2, hol, hw1]; exact Is.rfl) (hcl := by simp [-addNew, hgo2, hol, hw1]; exact Is.rfl) (hd := by simp [-addNew, hgo2, hol, hw1]; exact Is.rfl) (hwr := by simp [-addNew, hgo2, hol, hw1]; exact Is.rfl) (hlt := by simp [Is]) (he := by (try dsimp only [putEnv]) <;> exact rfl) (hh := by simp; exact Is.rfl) (hw := by exact Is.rfl))
                     | (apply RT.callI (hg := by simp; exact Is.rfl) (hfo := by simp; exact Is.rfl) (hvs := by simp [-addNew, hgo2, hol, hw1]; exact Is.rfl) (hcl := by simp [-addNew, hgo2, hol, hw1]; exact Is.rfl) (hd := hI1) (hne := hI2) (hw := hI3) (hwr := hI4) (he := by (try dsimp only [putEnv]) <;> exact rfl) (hn0 := by first | omega | simp))
                     | (apply RT.callT (hg := by simp; exact Is.rfl) (hfo := by simp; exact Is.rfl) (hvs := by simp [-addNew, hgo2, hol, hw1]; exact Is.rfl) (hcl := by simp [-addNew, hgo2, hol, hw1]; exact Is.rfl) (hd := hT1) (hk := hT2) (he := by (try dsimp only [putEnv]) <;> exact rfl))
                     | (apply RT.wr (h := by simp [-addNew, hgo2, hol, hw1]; exact Is.rfl) (he := by (try dsimp only [putEnv]) <;> exact rfl) (hh := by simp [-addNew, hgo2, hol, hw1]; exact Is.rfl) (hn := by exact Is.rfl) (hc := by exact Is.rfl) (hw := by exact Is.rfl)))
                   exact RT.nil
                 case hc => (show _ = _; kernel_rfl)
                 case ht => simp [-addNew, hgo2, hol, hw1]; exact Is.rfl)
              | apply WP.block
              | apply WP.skip
              | apply WP.exit
              | apply WP.ret)
            show WP _ _ _ _ _ _
            refine WP.cond _ rfl (fun hb => ?_) (fun hb => ?_)
            · simp at hb
            repeat (first
              | apply WP.seq
              | (apply WP.reg
                 case hR => dsimp only [prepL, prepO, List.map, List.getElem?_cons_succ, List.getElem?_cons_zero]; exact Is.rfl
                 case hr =>
                   repeat (first
                     | (apply RT.op (h := by simp [-addNew, hpbE, hgo2, hol, Hp.get_set, hn2io, hlto2, closeVs_false]; exact Is.rfl) (he := by (try dsimp only [putEnv]) <;> exact rfl))
                     | (apply RT.call (hg := by simp; exact Is.rfl) (hfo := by simp; exact Is.rfl) (hvs := by simp [-addNew, hpbE, hgo2, hol, Hp.get_set, hn2io, hlto2, closeVs_false]; exact Is.rfl) (hcl := by simp [-addNew, hpbE, hgo2, hol, Hp.get_set, hn2io, hlto2, closeVs_false]; exact Is.rfl) (hd := by simp [-addNew, hpbE, hgo2, hol, Hp.get_set, hn2io, hlto2, closeVs_false]; exact Is.rfl) (hwr := by simp [-addNew, hpbE, hgo2, hol, Hp.get_set, hn2io, hlto2, closeVs_false]; exact Is.rfl) (hlt := by simp [Is]) (he := by (try dsimp only [putEnv]) <;> exact rfl) (hh := by simp; exact Is.rfl) (hw := by exact Is.rfl))
                     | (apply RT.callI (hg := by simp; exact Is.rfl) (hfo := by simp; exact Is.rfl) (hvs := by simp [-addNew, hpbE, hgo2, hol, Hp.get_set, hn2io, hlto2, closeVs_false]; exact Is.rfl) (hcl := by simp [-addNew, hpbE, hgo2, hol, Hp.get_set, hn2io, hlto2, closeVs_false]; exact Is.rfl) (hd := hI1) (hne := hI2) (hw := hI3) (hwr := hI4) (he := by (try dsimp only [putEnv]) <;> exact rfl) (hn0 := by first | omega | simp))
                     | (apply RT.callT (hg := by simp; exact Is.rfl) (hfo := by simp; exact Is.rfl) (hvs := by simp [-addNew, hpbE, hgo2, hol, Hp.get_set, hn2io, hlto2, closeVs_false]; exact Is.rfl) (hcl := by simp [-addNew, hpbE, hgo2, hol, Hp.get_set, hn2io, hlto2, closeVs_false]; exact Is.rfl) (hd := hT1) (hk := hT2) (he := by (try dsimp only [putEnv]) <;> exact rfl))
                     | (apply RT.wr (h := by simp [-addNew, hpbE, hgo2, hol, Hp.get_set, hn2io, hlto2, closeVs_false]; exact Is.rfl) (he := by (try dsimp only [putEnv]) <;> exact rfl) (hh := by simp [-addNew, hpbE, hgo2, hol, Hp.get_set, hn2io, hlto2, closeVs_false]; exact Is.rfl) (hn := by exact Is.rfl) (hc := by exact Is.rfl) (hw := by exact Is.rfl)))
                   exact RT.nil
                 case hc => (show _ = _; kernel_rfl)
                 case ht => simp [-addNew, hpbE, hgo2, hol, Hp.get_set, hn2io, hlto2, closeVs_false]; exact Is.rfl)
              | apply WP.block
              | apply WP.skip
              | apply WP.exit
              | apply WP.ret)
            refine loop_next (by simp [-addNew]; exact Is.rfl) ?_
            refine ⟨d - 1, by omega, i + 1, by omega, ?rhp, ?rn, ?rc, ?rwl, io, ?rgo, [] ++ (hdY y ++ [.osl idb gb 0 y.brs.length 1 (some y.brs.length)]), ids ++ (idb :: ib2), cd ++ (hdY y ++ [.osl idb gb 0 y.brs.length 1 (some y.brs.length)]), cr', E', ?rJ, hcl2, hcd2, ?rT, ?rz⟩
            case rz =>
              refine st_eq ?_ rfl
              simp [dI, hw, hJp, hol] <;> rfl
            case rJ =>
              rw [hJp]
              exact hpush _ _
            case rT => exact htr _ _
          | some a =>
            obtain ⟨m, hm⟩ : ∃ m, m = (Jp N l i).length - 1 := ⟨_, rfl⟩
            have hsp := getLast_split hout
            have hol : (Jp N l i).length = m + 1 := by
              have := congrArg List.length hsp
              simp at this
              omega
            have hoa : (Jp N l i)[m]? = some a := by
              rw [List.getLast?_eq_getElem?] at hout
              rw [hm]; exact hout
            have hwl : IntKind.i64.wrap (m : Int) = (m : Int) := by rw [w_id] <;> omega
            have hixm : idx (m : Int) (m + 1) = some m := by
              unfold idx
              rw [if_pos ⟨by omega, by omega⟩]
              simp
            obtain ⟨c1, sca, cx, j1, j2, j3, hco, hc1, hids, hTc1, hTSa, hTcx⟩ := hJ2.to.at_ hoa
            have hlast : (Jp N l i).drop (m + 1) = [] := by rw [← hol]; exact List.drop_length
            rw [hlast] at hTcx
            obtain ⟨hcx, hj3⟩ : cx = [] ∧ j3 = [] := by cases hTcx; exact ⟨rfl, rfl⟩
            subst hcx
            subst hj3
            obtain ⟨ida, ga, vsa, ia, hsca, hj2, hga, hTBa⟩ := hTSa.inv
            subst hsca
            subst hj2
            rw [List.append_nil] at hco hids
            have hscl := hTSa.len
            have hget : (co.drop (m * 12)).take 12 = hdY a ++ [.osl ida ga 0 a.brs.length 1 (some a.brs.length)] := by
              rw [hco, ← hc1, List.drop_left, ← hscl, List.take_length]
            simp only [hdY, List.cons_append, List.nil_append] at hget
            have hcol2 : co.length = (m + 1) * 12 := by rw [hJ2.to.len, hol]
            have hl12 : min 12 ((m + 1) * 12 - m * 12) = 12 := by omega
            have ho1 : (Jp N l i).take m = (Jp N l i).dropLast := by rw [List.dropLast_eq_take, hol]; rfl
            have hasz : szY (Jp N l i).dropLast + a.sz = szY (Jp N l i) := by
              conv => rhs; rw [hsp]
              rw [szY_app, szY_one]
            have hla := Y.sz_eq a
            have hclA := brsD hga hTBa (by unfold MB; omega)
            have hft := fits_den a (y.with bs) (by unfold MX; omega) hysz2
            simp only [aY, Y.with_cells] at hft
            rw [Y.cells_eq a] at hft
            simp only [List.map] at hft
            repeat (first
              | apply WP.seq
              | (apply WP.reg
                 case hR => dsimp only [prepL, prepO, List.map, List.getElem?_cons_succ, List.getElem?_cons_zero]; exact Is.rfl
                 case hr =>
                   repeat (first
                     | (apply RT.op (h := by simp [-addNew, -toD_dep, hgo2, hol, hwl, hixm, hcol2, hl12, hget, hpbE, hclA, hclB, hft]; exact Is.rfl) (he := by (try dsimp only [putEnv]) <;> exact rfl))
                     | (apply RT.call (hg := by simp; exact Is.rfl) (hfo := by simp; exact Is.rfl) (hvs := by simp [-addNew, -toD_dep, hgo2, hol, hwl, hixm, hcol2, hl12, hget, hpbE, hclA, hclB, hft]; exact Is.rfl) (hcl := by simp [-addNew, -toD_dep, hgo2, hol, hwl, hixm, hcol2, hl12, hget, hpbE, hclA, hclB, hft]; exact Is.rfl) (hd := by simp [-addNew, -toD_dep, hgo2, hol, hwl, hixm, hcol2, hl12, hget, hpbE, hclA, hclB, hft]; exact Is.rfl) (hwr := by simp [-addNew, -toD_dep, hgo2, hol, hwl, hixm, hcol2, hl12, hget, hpbE, hclA, hclB, hft]; exact Is.rfl) (hlt := by simp [Is]) (he := by (try dsimp only [putEnv]) <;> exact rfl) (hh := by simp; exact Is.rfl) (hw := by exact Is.rfl))
                     | (apply RT.callI (hg := by simp; exact Is.rfl) (hfo := by simp; exact Is.rfl) (hvs := by simp [-addNew, -toD_dep, hgo2, hol, hwl, hixm, hcol2, hl12, hget, hpbE, hclA, hclB, hft]; exact Is.rfl) (hcl := by simp [-addNew, -toD_dep, hgo2, hol, hwl, hixm, hcol2, hl12, hget, hpbE, hclA, hclB, hft]; exact Is.rfl) (hd := hI1) (hne := hI2) (hw := hI3) (hwr := hI4) (he := by (try dsimp only [putEnv]) <;> exact rfl) (hn0 := by first | omega | simp))
                     | (apply RT.callT (hg := by simp; exact Is.rfl) (hfo := by simp; exact Is.rfl) (hvs := by simp [-addNew, -toD_dep, hgo2, hol, hwl, hixm, hcol2, hl12, hget, hpbE, hclA, hclB, hft]; exact Is.rfl) (hcl := by simp [-addNew, -toD_dep, hgo2, hol, hwl, hixm, hcol2, hl12, hget, hpbE, hclA, hclB, hft]; exact Is.rfl) (hd := hT1) (hk := hT2) (he := by (try dsimp only [putEnv]) <;> exact rfl))
                     | (apply RT.wr (h := by simp [-addNew, -toD_dep, hgo2, hol, hwl, hixm, hcol2, hl12, hget, hpbE, hclA, hclB, hft]; exact Is.rfl) (he := by (try dsimp only [putEnv]) <;> exact rfl) (hh := by simp [-addNew, -toD_dep, hgo2, hol, hwl, hixm, hcol2, hl12, hget, hpbE, hclA, hclB, hft]; exact Is.rfl) (hn := by exact Is.rfl) (hc := by exact Is.rfl) (hw := by exact Is.rfl)))
                   exact RT.nil
                 case hc => (show _ = _; kernel_rfl)
                 case ht => simp [-addNew, -toD_dep, hgo2, hol, hwl, hixm, hcol2, hl12, hget, hpbE, hclA, hclB, hft]; exact Is.rfl)
              | apply WP.block
              | apply WP.skip
              | apply WP.exit
              | apply WP.ret)
            show WP _ _ _ _ _ _
            refine WP.cond _ rfl (fun hb => ?_) (fun hb => ?_)
            · have hJp : Jp N l (i + 1) = (Jp N l i).dropLast ++ [a.with (List.zipWith (fun x y => Jf N (x ++ y)) a.brs bs)] := by rw [hJpS]; exact jstep_fit hbk hbs hbe hout hb
              have hfl : a.brs.length = bs.length := by
                simp only [fitY, Bool.and_eq_true, beq_iff_eq] at hb
                exact hb.1.2
              obtain ⟨zs, hzs⟩ : ∃ zs, zs = List.zipWith (fun x y => Jf N (x ++ y)) a.brs bs := ⟨_, rfl⟩
              rw [← hzs] at hJp
              have hzl : zs.length = bs.length := by rw [hzs]; simp; omega
              rw [ho1] at hTc1
              have hgb2 := hB.gb
              have hK := hJ2.toKO hids hTc1
              rw [hco, hfl] at hK
              have hszN : szB a.brs + szB bs ≤ N := by
                clear hl12 hm12 hwl hixm hol hm hfit
                omega
              have hszM : szB a.brs + szB bs ≤ MB := by
                clear hl12 hm12 hwl hixm hol hm hfit
                unfold MB
                omega
              have hd1 : d - 1 < d := by clear hl12 hm12 hasz hla hwl hixm hol hm hfit; omega
              have hd2 : i + 1 + (d - 1) = l.length := by clear hl12 hm12 hasz hla hwl hixm hol hm hfit; omega
              have hlen : (Jp N l (i + 1)).length = m + 1 := by
                rw [hJp, List.length_append, List.length_dropLast, hol]
                rfl
              have hjb := fun e11 e12 e13 => join_both N ihN hp0 n0 (idl :: i0) idl gl cl io go m c1 (Jp N l i).dropLast j1 ida ga a idb gb vs2 bs zs cr' (l.drop (i + 1)) E' e11 e12 e13 hzs hfl hszN hszM hc1 hp2 n2 c2 wl2 vsa ia ib2 ⟨hK, hga, hTBa, hB.gb, hB.tb, hB.tr⟩
              rw [hbl] at hjb
              repeat (first
                | apply WP.seq
                | (apply WP.reg
                   case hR => dsimp only [prepL, prepO, List.map, List.getElem?_cons_succ, List.getElem?_cons_zero]; exact Is.rfl
                   case hr =>
                     repeat (first
                       | (apply RT.op (h := by simp [-addNew, hpbE, hgb2]; exact Is.rfl) (he := by (try dsimp only [putEnv]) <;> exact rfl))
                       | (apply RT.call (hg := by simp; exact Is.rfl) (hfo := by simp; exact Is.rfl) (hvs := by simp [-addNew, hpbE, hgb2]; exact Is.rfl) (hcl := by simp [-addNew, hpbE, hgb2]; exact Is.rfl) (hd := by simp [-addNew, hpbE, hgb2]; exact Is.rfl) (hwr := by simp [-addNew, hpbE, hgb2]; exact Is.rfl) (hlt := by simp [Is]) (he := by (try dsimp only [putEnv]) <;> exact rfl) (hh := by simp; exact Is.rfl) (hw := by exact Is.rfl))
                       | (apply RT.callI (hg := by simp; exact Is.rfl) (hfo := by simp; exact Is.rfl) (hvs := by simp [-addNew, hpbE, hgb2]; exact Is.rfl) (hcl := by simp [-addNew, hpbE, hgb2]; exact Is.rfl) (hd := hI1) (hne := hI2) (hw := hI3) (hwr := hI4) (he := by (try dsimp only [putEnv]) <;> exact rfl) (hn0 := by first | omega | simp))
                       | (apply RT.callT (hg := by simp; exact Is.rfl) (hfo := by simp; exact Is.rfl) (hvs := by simp [-addNew, hpbE, hgb2]; exact Is.rfl) (hcl := by simp [-addNew, hpbE, hgb2]; exact Is.rfl) (hd := hT1) (hk := hT2) (he := by (try dsimp only [putEnv]) <;> exact rfl))
                       | (apply RT.wr (h := by simp [-addNew, hpbE, hgb2]; exact Is.rfl) (he := by (try dsimp only [putEnv]) <;> exact rfl) (hh := by simp [-addNew, hpbE, hgb2]; exact Is.rfl) (hn := by exact Is.rfl) (hc := by exact Is.rfl) (hw := by exact Is.rfl)))
                     exact RT.nil
                   case hc => (show _ = _; kernel_rfl)
                   case ht => simp [-addNew, hpbE, hgb2]; exact Is.rfl)
                | apply WP.block
                | apply WP.skip
                | apply WP.exit
                | apply WP.ret)
              refine WP.mono (hjb _ _ _) ?_
              rintro e t ⟨rfl, hp3, n3, c3, wl3, vsa3, ia3, hC3, rfl⟩
              have hTSz : TS hp3.get (hdY a ++ [.osl ida ga 0 y.brs.length 1 (some y.brs.length)]) (a.with zs) (ida :: ia3) := by
                have := TS.mk (y := a.with zs) hC3.ga hC3.ta
                rw [show (a.with zs).brs.length = y.brs.length from hzl.trans hbl] at this
                exact this
              have hJ3 := hC3.ko.toJO (iz := idb :: []) hTSz
              show WP _ _ _ _ _ _
              repeat (first
                | apply WP.seq
                | (apply WP.reg
                   case hR => dsimp only [prepL, prepO, List.map, List.getElem?_cons_succ, List.getElem?_cons_zero]; exact Is.rfl
                   case hr =>
                     repeat (first
                       | (apply RT.op (h := by simp [-addNew]; exact Is.rfl) (he := by (try dsimp only [putEnv]) <;> exact rfl))
                       | (apply RT.call (hg := by simp; exact Is.rfl) (hfo := by simp; exact Is.rfl) (hvs := by simp [-addNew]; exact Is.rfl) (hcl := by simp [-addNew]; exact Is.rfl) (hd := by simp [-addNew]; exact Is.rfl) (hwr := by simp [-addNew]; exact Is.rfl) (hlt := by simp [Is]) (he := by (try dsimp only [putEnv]) <;> exact rfl) (hh := by simp; exact Is.rfl) (hw := by exact Is.rfl))
                       | (apply RT.callI (hg := by simp; exact Is.rfl) (hfo := by simp; exact Is.rfl) (hvs := by simp [-addNew]; exact Is.rfl) (hcl := by simp [-addNew]; exact Is.rfl) (hd := hI1) (hne := hI2) (hw := hI3) (hwr := hI4) (he := by (try dsimp only [putEnv]) <;> exact rfl) (hn0 := by first | omega | simp))
                       | (apply RT.callT (hg := by simp; exact Is.rfl) (hfo := by simp; exact Is.rfl) (hvs := by simp [-addNew]; exact Is.rfl) (hcl := by simp [-addNew]; exact Is.rfl) (hd := hT1) (hk := hT2) (he := by (try dsimp only [putEnv]) <;> exact rfl))
                       | (apply RT.wr (h := by simp [-addNew]; exact Is.rfl) (he := by (try dsimp only [putEnv]) <;> exact rfl) (hh := by simp [-addNew]; exact Is.rfl) (hn := by exact Is.rfl) (hc := by exact Is.rfl) (hw := by exact Is.rfl)))
                     exact RT.nil
                   case hc => (show _ = _; kernel_rfl)
                   case ht => simp [-addNew]; exact Is.rfl)
                | apply WP.block
                | apply WP.skip
                | apply WP.exit
                | apply WP.ret)
              refine loop_next (by simp [-addNew]; exact Is.rfl) ?_
              exact ⟨d - 1, hd1, i + 1, hd2, hp3, n3, _, wl3, io, go, _, _, _, cr', E', hJp ▸ hJ3, hcl2, hcd2, hC3.tr, st_eq (by simp [dI, hw, hlen]) rfl⟩
            · have hJp : Jp N l (i + 1) = Jp N l i ++ [y.with bs] := by rw [hJpS]; exact jstep_no hbk hbs hbe hout hb
              have hcot2 : co.take ((m + 1) * 12) = co := by rw [← hcol2, List.take_length]
              have hfit2 : (m + 1 + 1) * 176 ≤ 140737488355328 := by rw [← hol]; exact hfit
              repeat (first
                | apply WP.seq
                | (apply WP.reg
                   case hR => dsimp only [prepL, prepO, List.map, List.getElem?_cons_succ, List.getElem?_cons_zero]; exact Is.rfl
                   case hr =>
                     repeat (first
                       | (apply RT.op (h := by simp [-addNew, hpbE, hgo2, hol, Hp.get_set, hn2io, hlto2, hcol2, hcot2, hfit2, closeVs_false]; exact Is.rfl) (he := by (try dsimp only [putEnv]) <;> exact rfl))
                       | (apply RT.call (hg := by simp; exact Is.rfl) (hfo := by simp; exact Is.rfl) (hvs := by simp [-addNew, hpbE, hgo2, hol, Hp.get_set, hn2io, hlto2, hcol2, hcot2, hfit2, closeVs_false]; exact Is.rfl) (hcl := by simp [-addNew, hpbE, hgo2, hol, Hp.get_set, hn2io, hlto2, hcol2, hcot2, hfit2, closeVs_false]; exact Is.rfl) (hd := by simp [-addNew, hpbE, hgo2, hol, Hp.get_set, hn2io, hlto2, hcol2, hcot2, hfit2, closeVs_false]; exact Is.rfl) (hwr := by simp [-addNew, hpbE, hgo2, hol, Hp.get_set, hn2io, hlto2, hcol2, hcot2, hfit2, closeVs_false]; exact Is.rfl) (hlt := by simp [Is]) (he := by (try dsimp only [putEnv]) <;> exact rfl) (hh := by simp; exact Is.rfl) (hw := by exact Is.rfl))
                       | (apply RT.callI (hg := by simp; exact Is.rfl) (hfo := by simp; exact Is.rfl) (hvs := by simp [-addNew, hpbE, hgo2, hol, Hp.get_set, hn2io, hlto2, hcol2, hcot2, hfit2, closeVs_false]; exact Is.rfl) (hcl := by simp [-addNew, hpbE, hgo2, hol, Hp.get_set, hn2io, hlto2, hcol2, hcot2, hfit2, closeVs_false]; exact Is.rfl) (hd := hI1) (hne := hI2) (hw := hI3) (hwr := hI4) (he := by (try dsimp only [putEnv]) <;> exact rfl) (hn0 := by first | omega | simp))
                       | (apply RT.callT (hg := by simp; exact Is.rfl) (hfo := by simp; exact Is.rfl) (hvs := by simp [-addNew, hpbE, hgo2, hol, Hp.get_set, hn2io, hlto2, hcol2, hcot2, hfit2, closeVs_false]; exact Is.rfl) (hcl := by simp [-addNew, hpbE, hgo2, hol, Hp.get_set, hn2io, hlto2, hcol2, hcot2, hfit2, closeVs_false]; exact Is.rfl) (hd := hT1) (hk := hT2) (he := by (try dsimp only [putEnv]) <;> exact rfl))
                       | (apply RT.wr (h := by simp [-addNew, hpbE, hgo2, hol, Hp.get_set, hn2io, hlto2, hcol2, hcot2, hfit2, closeVs_false]; exact Is.rfl) (he := by (try dsimp only [putEnv]) <;> exact rfl) (hh := by simp [-addNew, hpbE, hgo2, hol, Hp.get_set, hn2io, hlto2, hcol2, hcot2, hfit2, closeVs_false]; exact Is.rfl) (hn := by exact Is.rfl) (hc := by exact Is.rfl) (hw := by exact Is.rfl)))
                     exact RT.nil
                   case hc => (show _ = _; kernel_rfl)
                   case ht => simp [-addNew, hpbE, hgo2, hol, Hp.get_set, hn2io, hlto2, hcol2, hcot2, hfit2, closeVs_false]; exact Is.rfl)
                | apply WP.block
                | apply WP.skip
                | apply WP.exit
                | apply WP.ret)
              refine loop_next (by simp [-addNew]; exact Is.rfl) ?_
              have hd1 : d - 1 < d := by clear hl12 hm12 hasz hla hwl hixm hol hm hfit; omega
              have hd2 : i + 1 + (d - 1) = l.length := by clear hl12 hm12 hasz hla hwl hixm hol hm hfit; omega
              refine ⟨d - 1, hd1, i + 1, hd2, ?shp, ?sn, ?sc, ?swl, io, ?sgo, co ++ (hdY y ++ [.osl idb gb 0 y.brs.length 1 (some y.brs.length)]), ids ++ (idb :: ib2), cd ++ (hdY y ++ [.osl idb gb 0 y.brs.length 1 (some y.brs.length)]), cr', E', ?sJ, hcl2, hcd2, ?sT, ?sz⟩
              case sz =>
                refine st_eq ?_ rfl
                simp [dI, hw, hJp, hol] <;> rfl
              case sJ =>
                rw [hJp]
                exact hpush _ _
              case sT => exact htr _ _
    · simp at hb
      have hie : i = l.length := by omega
      subst hie
      have hJe := Jp_len N l l.length (Nat.le_refl _)
      repeat (first
        | apply WP.seq
        | (apply WP.reg
           case hR => dsimp only [prepL, prepO, List.map, List.getElem?_cons_succ, List.getElem?_cons_zero]; exact Is.rfl
           case hr =>
             repeat (first
               | (apply RT.op (h := by simp [-addNew]; exact Is.rfl) (he := by (try dsimp only [putEnv]) <;> exact rfl))
               | (apply RT.call (hg := by simp; exact Is.rfl) (hfo := by simp; exact Is.rfl) (hvs := by simp [-addNew]; exact Is.rfl) (hcl := by simp [-addNew]; exact Is.rfl) (hd := by simp [-addNew]; exact Is.rfl) (hwr := by simp [-addNew]; exact Is.rfl) (hlt := by simp [Is]) (he := by (try dsimp only [putEnv]) <;> exact rfl) (hh := by simp; exact Is.rfl) (hw := by exact Is.rfl))
               | (apply RT.callI (hg := by simp; exact Is.rfl) (hfo := by simp; exact Is.rfl) (hvs := by simp [-addNew]; exact Is.rfl) (hcl := by simp [-addNew]; exact Is.rfl) (hd := hI1) (hne := hI2) (hw := hI3) (hwr := hI4) (he := by (try dsimp only [putEnv]) <;> exact rfl) (hn0 := by first | omega | simp))
               | (apply RT.callT (hg := by simp; exact Is.rfl) (hfo := by simp; exact Is.rfl) (hvs := by simp [-addNew]; exact Is.rfl) (hcl := by simp [-addNew]; exact Is.rfl) (hd := hT1) (hk := hT2) (he := by (try dsimp only [putEnv]) <;> exact rfl))
               | (apply RT.wr (h := by simp [-addNew]; exact Is.rfl) (he := by (try dsimp only [putEnv]) <;> exact rfl) (hh := by simp [-addNew]; exact Is.rfl) (hn := by exact Is.rfl) (hc := by exact Is.rfl) (hw := by exact Is.rfl)))
             exact RT.nil
           case hc => (show _ = _; kernel_rfl)
           case ht => simp [-addNew]; exact Is.rfl)
        | apply WP.block
        | apply WP.skip
        | apply WP.exit
        | apply WP.ret)
      refine ⟨.inr rfl, _, rfl, hJ.nn, hJ.wi, io, go, co, ids, ?_, hJ.go, ?_, ?_, ?_⟩
      · rw [← hJe]; rfl
      · rw [← hJe]; exact hJ.to
      · have := hJ.nd
        simp only [List.nodup_cons, List.nodup_append, List.mem_append, not_or] at this ⊢
        exact ⟨this.2.1.1, this.2.2.1⟩
      · intro j hj
        have h1 : j ∈ idl :: io :: (ids ++ E) := by
          simp only [List.mem_cons, List.mem_append] at hj ⊢
          rcases hj with h | h
          · exact .inr (.inl h)
          · exact .inr (.inr (.inl h))
        exact ⟨hJ.own j h1, hJ.lt j h1⟩
  obtain ⟨v, t, h1, h2⟩ := main
  exact ⟨_, h1, h2⟩
end Go.Ab
