/- Execution: instances as trees, what a step does; values keep their types (plain). -/
import Derived.Test.YtmjkclonkhempabGreatDoorEmPlM
set_option linter.unusedVariables false
set_option linter.unusedSimpArgs false
section
set_option maxRecDepth 4000
namespace Go.Ac
open Go.Proofs
attribute [local simp] Hp.get_set Ag_set Ag_refl Ag_trunc get_trunc_lt kf84 Ob.k84 kf53 Ob.k53
theorem fieldsE_k {y : Y} (h : fieldsE y = true) : y.k = 1 ∨ y.k = 2 ∨ y.k = 3 ∨ y.k = 4 ∨ y.k = 5 := by
 unfold fieldsE at h
 by_cases k12 : y.k = 1 ∨ y.k = 2
 ·omega
 rw [if_neg k12] at h
 by_cases k3 : y.k = 3
 ·omega
 rw [if_neg k3] at h
 by_cases k4 : y.k = 4
 ·omega
 rw [if_neg k4] at h
 by_cases k5 : y.k = 5
 ·omega
 rw [if_neg k5] at h; cases h
section
variable {ic gc iv gv ip gp im gm ii gi : Nat} {o : Oc} {ea : List Cl} {c : Cl}
set_option maxHeartbeats 4000000 in
theorem stmt109 {N : Nat} (ih : PListAt ic gc iv gv ip gp im gm ii gi o ea c N) (hW : KW o c) (cx : List Pr) (bl : List (List Y)) (hl : bl.length ≤ cx.length + 1) (hnb : nbB bl = true) (y : Y) (hN : y.sz < N + 1) (hbd : cx.length + szY bl.flatten + y.sz ≤ 8388600) (hok : y.ok) :
  QK ic gc iv gv ip gp im gm ii gi o ea c 84 [.ptr ic gc 0, aG y.cells, pP cx bl] (dI (stmtW o c cx bl.flatten y)) := by
 intro hp n cc hK
 obtain ⟨hy1, hy2, hy3, hy4⟩ := Y.ok_eq hok
 have hys := Y.sz_eq y
 have hB : BOK cx bl := ⟨by unfold MX; omega, hnb, by omega⟩
 have hco := hK.co
 have nc := nf hK.lc
 have ni := nf hK.li
 have hli := fun (look : Look) (sz by_ : Nat) (zr : Option (List V)) (y : Tx) (h : look ii = hp.get ii) => hK.look_ins (look := look) (sz := sz) (by_ := by_) (zr := zr) (x := y) h
 have hfm := form133 y
 simp only [aG, Y.cells_eq, List.map_cons, List.map_nil, dB] at hfm
 refine quietV_wp Tryz.func84 rfl (by kernel_rfl) rfl (fun _ => rfl) ?_
 rw [stmtW_eq]
 cases hfe : fieldsE y with
 | false =>
  rw [hfe] at hfm
  rw [if_pos rfl]
  refine wkcv (jn @envOf.eq_1 (jn @envOf.eq_2 (jn @aG.eq_1 (jn @pP.eq_1 (jn @Y.cells_eq (jn @dL.eq_1 @hfm)))))) ?_
  exact ⟨.inr rfl, rfl, _, rfl, rfl⟩
 | true =>
 rw [hfe] at hfm
 rw [if_neg (by decide)]
 have hst := fun h => (store136 (ic := ic) (gc := gc) (iv := iv) (gv := gv) (ip := ip) (gp := gp) (im := im) (gm := gm) (ii := ii) (gi := gi) (ea := ea) hW cx bl hB y h (by unfold MX; omega) hok).fn hK
 rcases fieldsE_k hfe with q | q | q | q | q
 ·rw [if_pos q]
  obtain ⟨F, G, hr⟩ := hst (.inl q)
  rw [← show storeP ⟨o, c, bl.flatten, cx⟩ y = (if (exprW ⟨o, c, bl.flatten, cx⟩ y.r).2 ≠ 0 then (exprW ⟨o, c, bl.flatten, cx⟩ y.r).2 else targetW ⟨o, c, bl.flatten, cx⟩ y.nm (exprW ⟨o, c, bl.flatten, cx⟩ y.r).1) by unfold storeP; rw [if_pos q]]
  generalize storeP ⟨o, c, bl.flatten, cx⟩ y = v at hr ⊢
  simp only [aG, pP, Y.cells_eq, List.map_cons, List.map_nil, dI, q] at hr
  simp only [q] at hfm
  refine wkcv (jn @envOf.eq_1 (jn @envOf.eq_2 (jn @aG.eq_1 (jn @pP.eq_1 (jn @Y.cells_eq (jn @dL.eq_1 (jn @hfm (jn @q @hr)))))))) ?_
  exact ⟨.inr rfl, rfl, _, rfl, rfl⟩
 ·rw [if_neg (by omega), if_pos q]
  obtain ⟨F, G, hr⟩ := hst (.inr q)
  rw [← show storeP ⟨o, c, bl.flatten, cx⟩ y = (if (exprW ⟨o, c, bl.flatten, cx⟩ y.r).2 ≠ 0 then (exprW ⟨o, c, bl.flatten, cx⟩ y.r).2 else if findM c.mems y.nm = 0 then 6 else if findM c.mems y.nm ≠ (exprW ⟨o, c, bl.flatten, cx⟩ y.r).1 then 10 else 0) by unfold storeP; rw [if_neg (by omega : ¬ y.k = 1)]]
  generalize storeP ⟨o, c, bl.flatten, cx⟩ y = v at hr ⊢
  simp only [aG, pP, Y.cells_eq, List.map_cons, List.map_nil, dI, q] at hr
  simp only [q] at hfm
  refine wkcv (jn @envOf.eq_1 (jn @envOf.eq_2 (jn @aG.eq_1 (jn @pP.eq_1 (jn @Y.cells_eq (jn @dL.eq_1 (jn @hfm (jn @q @hr)))))))) ?_
  exact ⟨.inr rfl, rfl, _, rfl, rfl⟩
 ·rw [if_neg (by omega), if_neg (by omega), if_pos q]
  obtain ⟨F, G, hr⟩ := (cases134 ih hW cx bl hl hnb y hN hbd hok).fn hK
  rw [show (if getT c y.nm = 0 then (6 : Int) else if readyW ⟨o, c, bl.flatten, cx⟩ y.nm = false then 22 else if y.t ≠ getT c y.nm ∨ getT c y.nm = 2 then 10 else if (y.brs.length : Int) ≠ sizeE o.en (getT c y.nm) then 9 else brsW o c cx bl.flatten y.nm 0 y.brs) = casesW ⟨o, c, bl.flatten, cx⟩ y from rfl]
  generalize casesW ⟨o, c, bl.flatten, cx⟩ y = v at hr ⊢
  simp only [aG, pP, Y.cells_eq, List.map_cons, List.map_nil, dI, q] at hr
  simp only [q] at hfm
  refine wkcv (jn @envOf.eq_1 (jn @envOf.eq_2 (jn @aG.eq_1 (jn @pP.eq_1 (jn @Y.cells_eq (jn @dL.eq_1 (jn @hfm (jn @q @hr)))))))) ?_
  exact ⟨.inr rfl, rfl, _, rfl, rfl⟩
 ·rw [if_neg (by omega), if_neg (by omega), if_neg (by omega), if_pos q]
  obtain ⟨F, G, hr⟩ := (call135 (ic := ic) (gc := gc) (iv := iv) (gv := gv) (ip := ip) (gp := gp) (im := im) (gm := gm) (ii := ii) (gi := gi) (ea := ea) hW cx bl hB y (by unfold MX; omega) hy3).fn hK
  simp only [aG, pP, Y.cells_eq, List.map_cons, List.map_nil, dI, q] at hr
  simp only [q] at hfm
  refine wkcv (jn @envOf.eq_1 (jn @envOf.eq_2 (jn @aG.eq_1 (jn @pP.eq_1 (jn @Y.cells_eq (jn @dL.eq_1 (jn @hfm (jn @q @hr)))))))) ?_
  exact ⟨.inr rfl, rfl, _, rfl, rfl⟩
 ·rw [if_neg (by omega), if_neg (by omega), if_neg (by omega), if_neg (by omega)]
  simp only [q] at hfm
  generalize hG : findI c.ins o.cl y.nm = G
  obtain ⟨g, ok⟩ := G
  cases ok with
  | false =>
   have hfo : foundC (g, false) = .agg [.d (.str []), .full [], .full [], .full [], .full [], .full [], .full []] := rfl
   repeat (first
 | apply WP.seq
 | (apply WP.reg; (case hR => dsimp only [prepL, prepO, List.map, gS, gZ]; exact iZ); (case hr => (repeat (first
 | (apply RT.op; simp [envOf, aG, pP, Y.cells_eq, dL, hfm, q, hco, nc, ni, hli, zt39, hG, hfo, fillV]; exact iZ; (try dsimp only [putEnv]) <;> exact rfl)
 | (apply RT.call; (iterate 2 simp; exact iZ); exact iZ; (iterate 4 simp [envOf, aG, pP, Y.cells_eq, dL, hfm, q, hco, nc, ni, hli, zt39, hG, hfo, fillV]; exact iZ); simp [Is]; (try dsimp only [putEnv]) <;> exact rfl; simp; exact iZ; simp; exact iZ)
 | (apply RT.callV; (iterate 2 simp; exact iZ); exact iZ; (iterate 3 simp [envOf, aG, pP, Y.cells_eq, dL, hfm, q, hco, nc, ni, hli, zt39, hG, hfo, fillV]; exact iZ); (try dsimp only [putEnv]) <;> exact rfl)
 | (apply RT.wr; simp [envOf, aG, pP, Y.cells_eq, dL, hfm, q, hco, nc, ni, hli, zt39, hG, hfo, fillV]; exact iZ; (try dsimp only [putEnv]) <;> exact rfl; simp [envOf, aG, pP, Y.cells_eq, dL, hfm, q, hco, nc, ni, hli, zt39, hG, hfo, fillV]; exact iZ; (iterate 2 exact iZ); simp; exact iZ))); exact RT.nil); (case hc => first | (refine checkR_un [(0, 4), (1, 4), (2, 4), (3, 4), (0, 5), (1, 5), (2, 5), (3, 5), (8, 9), (0, 10), (1, 10), (2, 10), (3, 10), (4, 10), (5, 10), (6, 10), (7, 10), (8, 10), (9, 10), (9, 11)] (by kernel_rfl) (by kernel_rfl) rfl ?_; simp [memA, disj, nbeq_dec, nc, ni]; done) | (show _ = _; kernel_rfl)); (case ht => simp [envOf, aG, pP, Y.cells_eq, dL, hfm, q, hco, nc, ni, hli, zt39, hG, hfo, fillV]; exact iZ))
 | apply WP.block | apply WP.skip | apply WP.exit | apply WP.ret | refine WP.condT rfl ?_ | refine WP.condF rfl ?_)
   exact ⟨.inr rfl, rfl, _, rfl, rfl⟩
  | true =>
   have hfo : foundC (g, true) = .agg [V.d (.str g.nm), V.d (.slice (encD g.inn)), V.d (.slice (encD g.out)), V.d (.slice (encD g.loc)), V.d (.slice (encM g.mems)), V.d (.slice (encJ g.ins)), V.d (.slice (encY g.step))] := rfl
   repeat (first
 | apply WP.seq
 | (apply WP.reg; (case hR => dsimp only [prepL, prepO, List.map, gS, gZ]; exact iZ); (case hr => (repeat (first
 | (apply RT.op; simp [envOf, aG, pP, Y.cells_eq, dL, hfm, q, hco, nc, ni, hli, zt39, hG, hfo, fillV]; exact iZ; (try dsimp only [putEnv]) <;> exact rfl)
 | (apply RT.call; (iterate 2 simp; exact iZ); exact iZ; (iterate 4 simp [envOf, aG, pP, Y.cells_eq, dL, hfm, q, hco, nc, ni, hli, zt39, hG, hfo, fillV]; exact iZ); simp [Is]; (try dsimp only [putEnv]) <;> exact rfl; simp; exact iZ; simp; exact iZ)
 | (apply RT.callV; (iterate 2 simp; exact iZ); exact iZ; (iterate 3 simp [envOf, aG, pP, Y.cells_eq, dL, hfm, q, hco, nc, ni, hli, zt39, hG, hfo, fillV]; exact iZ); (try dsimp only [putEnv]) <;> exact rfl)
 | (apply RT.wr; simp [envOf, aG, pP, Y.cells_eq, dL, hfm, q, hco, nc, ni, hli, zt39, hG, hfo, fillV]; exact iZ; (try dsimp only [putEnv]) <;> exact rfl; simp [envOf, aG, pP, Y.cells_eq, dL, hfm, q, hco, nc, ni, hli, zt39, hG, hfo, fillV]; exact iZ; (iterate 2 exact iZ); simp; exact iZ))); exact RT.nil); (case hc => first | (refine checkR_un [(0, 4), (1, 4), (2, 4), (3, 4), (0, 5), (1, 5), (2, 5), (3, 5), (8, 9), (0, 10), (1, 10), (2, 10), (3, 10), (4, 10), (5, 10), (6, 10), (7, 10), (8, 10), (9, 10), (9, 11)] (by kernel_rfl) (by kernel_rfl) rfl ?_; simp [memA, disj, nbeq_dec, nc, ni]; done) | (show _ = _; kernel_rfl)); (case ht => simp [envOf, aG, pP, Y.cells_eq, dL, hfm, q, hco, nc, ni, hli, zt39, hG, hfo, fillV]; exact iZ))
 | apply WP.block | apply WP.skip | apply WP.exit | apply WP.ret | refine WP.condT rfl ?_ | refine WP.condF rfl ?_)
   exact ⟨.inr rfl, rfl, _, rfl, rfl⟩
theorem nbB_app (a b : List (List Y)) : nbB (a ++ b) = (nbB a && nbB b) := by simp [nbB_all]

set_option maxHeartbeats 4000000 in
theorem list_step {N : Nat} (ih : PListAt ic gc iv gv ip gp im gm ii gi o ea c N) (hW : KW o c) (hpos : ∀ x, getT c x ≠ 0 → 0 < sizeE o.en (getT c x)) (l : List Y) (cx : List Pr) (bl : List (List Y)) (hN : szY l < N + 1) (hl : bl.length ≤ cx.length) (hnb : nbB bl = true) (hbd : cx.length + szY bl.flatten + szY l ≤ 8388600) (hok : okY l) :
  QK ic gc iv gv ip gp im gm ii gi o ea c 53 [.ptr ic gc 0, dL (encY l), pP cx bl] (dI (listW o c cx bl.flatten l)) := by
 intro hp n cc hK
 have k1 := len_szY l
 refine quietV_wp Tryz.func53 rfl (by kernel_rfl) rfl (fun _ => rfl) ?_
 refine wkcv (jn @envOf.eq_1 (jn @envOf.eq_2 (jn @pP.eq_1 (jn @dL.eq_1 @encY_len)))) ?_
 apply WP.loop' (I := fun D s => ∃ (j c' : Nat) (hp' : Hp), j + D = l.length ∧ listW o c cx (bl.flatten ++ l.take j) (l.drop j) = listW o c cx bl.flatten l ∧ nbL (l.take j) = true ∧ Ag n hp hp' ∧ hp'.get n = some ⟨cc, false, [V.d (.slice (encP cx)), V.d (.slice (encB bl))]⟩ ∧
  s = ⟨[(0, .ptr ic gc 0), (1, dL (encY l)), (5, .ptr n cc 0), (10, dL (encY l)), (11, dI l.length), (12, dI j)], hp', n + 1, c', n, []⟩) (d := l.length)
 ·exact ⟨0, _, _, by simp, by simp, by simp [nbL], by simp, by simp, st_eq (by simp [dI, dL]) rfl⟩
 rintro D _ ⟨j, c', hp', hj, hv, hnl, hag, hx0, rfl⟩
 have hagt := eq_true hag
 refine wkv (jn @dI.eq_1 @dL.eq_1) ?_
 show WP _ _ _ _ _ _
 refine WP.cond _ rfl (fun hb => ?_) (fun hb => ?_)
 ·simp at hb
  have hb' : j < l.length := by omega
  obtain ⟨y, hy, hym, hix⟩ := at_lt hb'
  have hy' := encY_at hy
  have hwj := w_succ hb' (by omega)
  have hsy := szY_take hy
  have hfl : (bl ++ [l.take j]).flatten = bl.flatten ++ l.take j := by simp
  obtain ⟨F, G, hr⟩ := (stmt109 (ic := ic) (gc := gc) (iv := iv) (gv := gv) (ip := ip) (gp := gp) (im := im) (gm := gm) (ii := ii) (gi := gi) (ea := ea) ih hW cx (bl ++ [l.take j]) (by simp; omega) (by rw [nbB_app, hnb]; simp [nbB, hnl]) y (by have := mem_szY hym; omega) (by rw [hfl, szY_app]; omega) ((okY_iff _).1 hok y hym)).fn hK
  rw [hfl] at hr
  have ha := at110 cx bl l j (by omega) (by omega) (by omega)
  rw [drop_at hy, listW] at hv
  simp only [aG, pP, Y.cells_eq, List.map_cons, List.map_nil, dI, dL, nbeq_self] at hr ha
  by_cases hz : stmtW o c cx (bl.flatten ++ l.take j) y = 0
  case neg =>
   have hz' := eq_false hz
   rw [if_pos hz] at hv
   rw [← hv]
   refine wkcv (jn @dI.eq_1 (jn @dL.eq_1 (jn @hx0 (jn @hagt (jn @hix (jn @hy' (jn @Y.cells_eq (jn @fillV.eq_1 (jn @fillV.eq_2 (jn @ha (jn @hr (jn @int_bne @hz')))))))))))) ?_
   exact ⟨.inr rfl, rfl, _, rfl, rfl⟩
  rw [if_neg (by simp [hz])] at hv
  rw [hz] at hr
  have hny : nbY y = true := by
   have := nb_of hpos (szY [y] + 1) [y] cx (bl.flatten ++ l.take j) (by omega) (by rw [listW, hz, listW]; rfl)
   rw [nbL, nbL] at this; simpa using this
  have htk := take_snoc hy
  refine wkcv (jn @dI.eq_1 (jn @dL.eq_1 (jn @hx0 (jn @hagt (jn @hix (jn @hy' (jn @Y.cells_eq (jn @fillV.eq_1 (jn @fillV.eq_2 (jn @ha (jn @hr @int_bne))))))))))) ?_
  refine loop_next (by simp [hwj]; exact Is.rfl) ?_
  exact ⟨D - 1, by omega, j + 1, _, _, by omega, by rw [htk, ← List.append_assoc]; exact hv, by rw [htk, nbL_all, List.all_append, ← nbL_all, hnl]; simp [hny], by simp [hag], by simp [hx0], st_eq (by simp [dI, dL, hwj]) rfl⟩
 ·simp at hb
  have hje : j = l.length := by omega
  rw [hje, List.drop_length, listW] at hv
  rw [← hv]
  refine wkcv (jn @dI.eq_1 @dL.eq_1) ?_
  exact ⟨.inr rfl, rfl, _, rfl, rfl⟩
set_option maxHeartbeats 4000000 in
theorem list_nil {N : Nat} (ih : PListAt ic gc iv gv ip gp im gm ii gi o ea c N) (hW : KW o c) (hpos : ∀ x, getT c x ≠ 0 → 0 < sizeE o.en (getT c x)) (l : List Y)  (hN : szY l < N + 1) (hu : True) (hbd : szY l ≤ 8388600) (hok : okY l) :
  QK ic gc iv gv ip gp im gm ii gi o ea c 53 [.ptr ic gc 0, dL (encY l), .agg [.full [], .full []]] (dI (listW o c [] [] l)) := by
 intro hp n cc hK
 have k1 := len_szY l
 refine quietV_wp Tryz.func53 rfl (by kernel_rfl) rfl (fun _ => rfl) ?_
 refine wkcv (jn @envOf.eq_1 (jn @envOf.eq_2 (jn @pP.eq_1 (jn @dL.eq_1 @encY_len)))) ?_
 apply WP.loop' (I := fun D s => ∃ (j c' : Nat) (hp' : Hp), j + D = l.length ∧ listW o c [] (l.take j) (l.drop j) = listW o c [] [] l ∧ nbL (l.take j) = true ∧ Ag n hp hp' ∧ hp'.get n = some ⟨cc, false, [.full [], .full []]⟩ ∧
  s = ⟨[(0, .ptr ic gc 0), (1, dL (encY l)), (5, .ptr n cc 0), (10, dL (encY l)), (11, dI l.length), (12, dI j)], hp', n + 1, c', n, []⟩) (d := l.length)
 ·exact ⟨0, _, _, by simp, by simp, by simp [nbL], by simp, by simp, st_eq (by simp [dI, dL]) rfl⟩
 rintro D _ ⟨j, c', hp', hj, hv, hnl, hag, hx0, rfl⟩
 have hagt := eq_true hag
 refine wkv (jn @dI.eq_1 @dL.eq_1) ?_
 show WP _ _ _ _ _ _
 refine WP.cond _ rfl (fun hb => ?_) (fun hb => ?_)
 ·simp at hb
  have hb' : j < l.length := by omega
  obtain ⟨y, hy, hym, hix⟩ := at_lt hb'
  have hy' := encY_at hy
  have hwj := w_succ hb' (by omega)
  have hsy := szY_take hy
  have hfl : [l.take j].flatten = l.take j := by simp
  obtain ⟨F, G, hr⟩ := (stmt109 (ic := ic) (gc := gc) (iv := iv) (gv := gv) (ip := ip) (gp := gp) (im := im) (gm := gm) (ii := ii) (gi := gi) (ea := ea) ih hW [] [l.take j] (by simp) (by simp [nbB, hnl]) y (by have := mem_szY hym; omega) (by rw [hfl]; simp; omega) ((okY_iff _).1 hok y hym)).fn hK
  rw [hfl] at hr
  have ha := at110 [] [] l j (by omega) (by simp) (by omega)
  rw [drop_at hy, listW] at hv
  simp only [aG, pP, Y.cells_eq, List.map_cons, List.map_nil, dI, dL, show encP [] = [] from rfl, show encB [] = [] from by simp [encB]] at hr ha
  by_cases hz : stmtW o c [] (l.take j) y = 0
  case neg =>
   have hz' := eq_false hz
   rw [if_pos hz] at hv
   rw [← hv]
   refine wkcv (jn @dI.eq_1 (jn @dL.eq_1 (jn @hx0 (jn @hagt (jn @hix (jn @hy' (jn @Y.cells_eq (jn @fillV.eq_1 (jn @fillV.eq_2 (jn @ha (jn @hr (jn @int_bne @hz')))))))))))) ?_
   exact ⟨.inr rfl, rfl, _, rfl, rfl⟩
  rw [if_neg (by simp [hz])] at hv
  rw [hz] at hr
  have hny : nbY y = true := by
   have := nb_of hpos (szY [y] + 1) [y] [] (l.take j) (by omega) (by rw [listW, hz, listW]; rfl)
   rw [nbL, nbL] at this; simpa using this
  have htk := take_snoc hy
  refine wkcv (jn @dI.eq_1 (jn @dL.eq_1 (jn @hx0 (jn @hagt (jn @hix (jn @hy' (jn @Y.cells_eq (jn @fillV.eq_1 (jn @fillV.eq_2 (jn @ha (jn @hr @int_bne))))))))))) ?_
  refine loop_next (by simp [hwj]; exact Is.rfl) ?_
  exact ⟨D - 1, by omega, j + 1, _, _, by omega, by rw [htk]; exact hv, by rw [htk, nbL_all, List.all_append, ← nbL_all, hnl]; simp [hny], by simp [hag], by simp [hx0], st_eq (by simp [dI, dL, hwj]) rfl⟩
 ·simp at hb
  have hje : j = l.length := by omega
  rw [hje, List.drop_length, listW] at hv
  rw [← hv]
  refine wkcv (jn @dI.eq_1 @dL.eq_1) ?_
  exact ⟨.inr rfl, rfl, _, rfl, rfl⟩
theorem list70 (hW : KW o c) (hpos : ∀ x, getT c x ≠ 0 → 0 < sizeE o.en (getT c x)) : ∀ N, PListAt ic gc iv gv ip gp im gm ii gi o ea c N := by
 intro N
 induction N with
 | zero => intro l cx bl h; omega
 | succ N ih => intro l cx bl hN hl hnb hbd hok; exact list_step ih hW hpos l cx bl hN hl hnb hbd hok
end
end Go.Ac
end

section
set_option maxRecDepth 4000
namespace Go.Ac
open Go.Proofs
section
variable {α : Type}
/-- A value under a name. -/
def mput (l : List (Tx × α)) (x : Tx) (v : α) : List (Tx × α) := match l.findIdx? (fun p => decide (p.1 = x)) with | some i => l.set i (x, v) | none => l ++ [(x, v)]
/-- The place of a name. -/
def mix (l : List (Tx × α)) (x : Tx) : Nat := match l.findIdx? (fun p => decide (p.1 = x)) with | some i => i | none => l.length
/-- A zero under a name that is not there. -/
def mputZ (l : List (Tx × α)) (x : Tx) (z : α) : List (Tx × α) := match l.findIdx? (fun p => decide (p.1 = x)) with | some i => l | none => l ++ [(x, z)]
theorem ixm_spec {l : List (Tx × α)} {x : Tx} {i : Nat} (h : l.findIdx? (fun p => decide (p.1 = x)) = some i) : ∃ hi : i < l.length, (l[i]'hi).1 = x := by
 obtain ⟨h1, h2, _⟩ := List.findIdx?_eq_some_iff_getElem.1 h
 exact ⟨h1, by simpa using h2⟩
theorem map_set_fst (l : List (Tx × α)) (x : Tx) (v : α) (i : Nat) (hi : i < l.length) (h : (l[i]'hi).1 = x) : (l.set i (x, v)).map (fun p => D.str p.1) = l.map fun p => D.str p.1 := by
 rw [List.map_set]
 apply List.ext_getElem
 ·simp
 ·intro j h1 h2
  simp only [List.getElem_set, List.getElem_map]
  split
  ·rename_i e; subst e; rw [h]
  ·rfl
theorem insert_mp (e : α → V) (l : List (Tx × α)) (v : α) {id g : Nat} {sz by_ : Nat} {zr : Option (List V)} {look : Look} {x : Tx} {w : V} (hw : w = e v) (h : look id = some ⟨g, false, [mpC e l]⟩) :
  insertV look ⟨.str, sz, by_, zr⟩ (.mp id g) (.d (.str x)) w = some ⟨.undef, [(id, ⟨g, false, [mpC e (mput l x v)]⟩)], [id], 0, 0, false⟩ := by
 subst hw
 unfold insertV
 have hl : live look id g = some ⟨g, false, [mpC e l]⟩ := by unfold live; rw [h]; simp
 simp only [keyOK, hl, mpC, findV_mp]
 unfold mput
 cases hf : List.findIdx? (fun p => decide (p.1 = x)) l with
 | none => simp [List.range_succ]
 | some i =>
  obtain ⟨hi, hx⟩ := ixm_spec hf
  have := map_set_fst l x v i hi hx
  simp [List.map_set] at this ⊢
  exact this.symm
theorem findB_range : ∀ (n s j i : Nat), i < n → findB ((s + i : Nat) : Int) (List.range' s n) j = some (j + i)
 | 0, s, j, i, h => by omega
 | n + 1, s, j, i, h => by
  rw [List.range'_succ, findB]
  cases i with
  | zero => simp
  | succ i =>
   have h1 : decide ((s : Int) = ((s + (i + 1) : Nat) : Int)) = false := by simp; omega
   rw [h1]
   have := findB_range n (s + 1) (j + 1) i (by omega)
   rw [show s + (i + 1) = s + 1 + i by omega, this, show j + 1 + i = j + (i + 1) by omega]
theorem findB_mp (n i : Nat) (h : i < n) : findB (i : Int) (List.range n) 0 = some i := by
 have := findB_range n 0 0 i h
 rw [List.range_eq_range']
 simpa using this
theorem mix_lt (l : List (Tx × α)) (x : Tx) (z : α) : mix l x < (mputZ l x z).length := by
 unfold mix mputZ
 cases hf : List.findIdx? (fun p => decide (p.1 = x)) l with
 | none => simp
 | some i => exact (ixm_spec hf).1
theorem entry_mp (e : α → V) (l : List (Tx × α)) (z : α) {id g : Nat} {sz by_ : Nat} {zr : Option (List V)} {look : Look} {x : Tx} {w : V} (hw : w = e z) (h : look id = some ⟨g, false, [mpC e l]⟩) :
  entryV look ⟨.str, sz, by_, zr⟩ (some w) (.mp id g) (.d (.str x)) = some ⟨.tuple [e ((mget l x).getD z), .d (.int .i64 (mix l x))], [(id, ⟨g, false, [mpC e (mputZ l x z)]⟩)], [id], 0, 0, false⟩ := by
 subst hw
 unfold entryV
 have hl : live look id g = some ⟨g, false, [mpC e l]⟩ := by unfold live; rw [h]; simp
 simp only [keyOK, hl, mpC, findV_mp]
 rw [← mget_idx]
 unfold mputZ mix
 cases hf : List.findIdx? (fun p => decide (p.1 = x)) l with
 | none => simp [List.range_succ]
 | some i =>
  obtain ⟨hi, hx⟩ := ixm_spec hf
  simp [hi]
theorem stamp_mp (e : α → V) (l : List (Tx × α)) (z v : α) {id g : Nat} {look : Look} {x : Tx} {w : V} (hw : w = e v) (h : look id = some ⟨g, false, [mpC e (mputZ l x z)]⟩) :
  stampV look (.mp id g) (.d (.int .i64 (mix l x))) w = some ⟨.undef, [(id, ⟨g, false, [mpC e (mput l x v)]⟩)], [id], 0, 0, false⟩ := by
 subst hw
 unfold stampV
 have hl : live look id g = some ⟨g, false, [mpC e (mputZ l x z)]⟩ := by unfold live; rw [h]; simp
 simp only [hl, mpC, findB_mp _ _ (mix_lt l x z)]
 unfold mputZ mix mput
 cases hf : List.findIdx? (fun p => decide (p.1 = x)) l with
 | none => simp
 | some i =>
  obtain ⟨hi, hx⟩ := ixm_spec hf
  have := map_set_fst l x v i hi hx
  simp [List.map_set] at this ⊢
  exact this.symm
theorem mget_app (l r : List (Tx × α)) (y : Tx) : mget (l ++ r) y = (mget l y).or (mget r y) := by
 unfold mget; rw [List.find?_append]; cases List.find? (fun p => decide (p.1 = y)) l <;> simp
theorem mget_set : ∀ (l : List (Tx × α)) (x y : Tx) (v : α) (i : Nat), l.findIdx? (fun p => decide (p.1 = x)) = some i → mget (l.set i (x, v)) y = if y = x then some v else mget l y
 | [], x, y, v, i, h => by simp at h
 | p :: r, x, y, v, i, h => by
  simp only [List.findIdx?_cons] at h
  by_cases hp : p.1 = x
  ·simp [hp] at h; subst h
   unfold mget
   simp only [List.set_cons_zero, List.find?_cons, hp]
   by_cases hy : y = x
   ·subst hy; simp
   ·rw [if_neg hy]
    have : decide (x = y) = false := by simp; exact fun e => hy e.symm
    simp [this]
  ·simp [hp] at h
   obtain ⟨k, hk, rfl⟩ := h
   have ih := mget_set r x y v k hk
   unfold mget at ih ⊢
   simp only [List.set_cons_succ, List.find?_cons]
   by_cases hy : p.1 = y
   ·have hne : y ≠ x := fun e => hp (hy.trans e)
    simp [hy, hne]
   ·simp [hy]
    exact ih
theorem mget_put (l : List (Tx × α)) (x y : Tx) (v : α) : mget (mput l x v) y = if y = x then some v else mget l y := by
 unfold mput
 cases hf : List.findIdx? (fun p => decide (p.1 = x)) l with
 | some i => exact mget_set l x y v i hf
 | none =>
  rw [mget_app]
  have hn : mget l x = none := by rw [← mget_idx, hf]
  by_cases hy : y = x
  ·subst hy; rw [hn, if_pos rfl]; simp [mget]
  ·rw [if_neg hy]
   have hd : decide (x = y) = false := by simp; exact fun e => hy e.symm
   have : mget [(x, v)] y = none := by unfold mget; simp [List.find?_cons, hd]
   rw [this]; cases mget l y <;> rfl
/-- Names with values, one after another. -/
def puts (l : List (Tx × α)) : List (Tx × α) → List (Tx × α)
 | [] => l
 | p :: r => puts (mput l p.1 p.2) r
theorem puts_snoc : ∀ (ds l : List (Tx × α)) (p : Tx × α), puts l (ds ++ [p]) = mput (puts l ds) p.1 p.2
 | [], l, p => rfl
 | d :: r, l, p => puts_snoc r (mput l d.1 d.2) p
theorem puts_app : ∀ (a l b : List (Tx × α)), puts l (a ++ b) = puts (puts l a) b
 | [], l, b => rfl
 | d :: r, l, b => puts_app r (mput l d.1 d.2) b
end
def dV (l : List Dc) : List (Tx × Int) := l.map fun d => (d.nm, d.t)
def dP (l : List Dc) : List (Tx × Bool) := l.map fun d => (d.nm, true)
def mV (l : List Mm) : List (Tx × Int) := l.map fun d => (d.nm, d.t)
def eI (t : Int) : V := .d (.int .i64 t)
def eBo (b : Bool) : V := .d (.bool b)
def eC (k : Cl) : V := aG k.cells
def xO (x : Cl) : Ob := ⟨0, false, x.cells.map .d⟩
def kO (en : List En) (ea : List Cl) (x : Cl) : Ob := ⟨5, false, [V.d (.slice (encE en)), V.d (.slice (encC ea)), V.d (.str x.nm), V.d (.slice (encD x.inn)), V.d (.slice (encD x.out)), V.d (.slice (encD x.loc)), V.d (.slice (encM x.mems)), V.d (.slice (encJ x.ins)), V.d (.slice (encY x.step)), .mp 1 1, .mp 2 2, .mp 3 3, .mp 4 4]⟩
/-- The memory while the class object is made. -/
def nHp (en : List En) (ea : List Cl) (x : Cl) (lv : List (Tx × Int)) (lp : List (Tx × Bool)) (lm : List (Tx × Int)) : Hp := [(0, xO x), (1, ⟨1, false, [mpC eI lv]⟩), (2, ⟨2, false, [mpC eBo lp]⟩), (3, ⟨3, false, [mpC eI lm]⟩), (4, ⟨4, false, [mpC eC []]⟩), (5, kO en ea x)]
theorem kf31 (r : Nat) : Ob.keep 31 r = Ob.k31 r := by kernel_rfl
attribute [local simp] kf31 Ob.k31

set_option maxHeartbeats 4000000 in
theorem new29 (en : List En) (ea : List Cl) (x : Cl) (hl : x.inn.length + x.out.length + x.loc.length + x.mems.length ≤ 8388608) :
  ∃ q, lim Tryz.prog Ob.cfg 31 [dL (encE en), dL (encC ea), aG x.cells] [] 0 0 = some q ∧ q.v = .ptr 5 5 0 ∧ q.n = 6 ∧ q.hp = nHp en ea x (puts (puts (puts [] (dV x.inn)) (dV x.out)) (dV x.loc)) (puts (puts [] (dP x.out)) (dP x.loc)) (puts [] (mV x.mems)) := by
 have main : ∃ (v : V) (t : St), lim Tryz.prog Ob.cfg 31 [dL (encE en), dL (encC ea), aG x.cells] [] 0 0 = some ⟨v, t.hp, t.n, t.c, t.wl⟩ ∧ v = .ptr 5 5 0 ∧ t.n = 6 ∧ t.hp = nHp en ea x (puts (puts (puts [] (dV x.inn)) (dV x.out)) (dV x.loc)) (puts (puts [] (dP x.out)) (dP x.loc)) (puts [] (mV x.mems)) := by
  refine lim_wp (Q := fun v (t : St) => v = .ptr 5 5 0 ∧ t.n = 6 ∧ t.hp = nHp en ea x (puts (puts (puts [] (dV x.inn)) (dV x.out)) (dV x.loc)) (puts (puts [] (dP x.out)) (dP x.loc)) (puts [] (mV x.mems))) Tryz.func31 rfl (by kernel_rfl) ?_
  refine wkc (jn @envOf.eq_1 (jn @envOf.eq_2 (jn @dL.eq_1 (jn @aG.eq_1 (jn @Cl.cells.eq_1 (jn @makeMapV.eq_1 (jn @fillV.eq_1 (jn @fillV.eq_2 @Value.oneCell'.eq_def)))))))) ?_
  apply WP.loop' (I := fun D s => ∃ i : Nat, i + D = x.inn.length ∧ SE [(5, .ptr 0 0 0), (7, .ptr 5 5 0), (26, dL (encD x.inn)), (27, dI x.inn.length), (28, dI i)] (nHp en ea x (puts [] (dV (x.inn.take i))) [] []) 6 s) (d := x.inn.length)
  ·exact ⟨0, by simp, SE.mk (by simp [dI, dL]) (by simp [nHp, xO, kO, Cl.cells, dL, dI, dV, puts, mpC])⟩
  rintro D _ ⟨i, hi, cc, rfl⟩
  refine wk (jn @dI.eq_1 @dL.eq_1) ?_
  show WP _ _ _ _ _ _
  refine WP.cond _ rfl (fun hb => ?_) (fun hb => ?_)
  ·simp at hb
   have hb' : i < x.inn.length := by omega
   obtain ⟨d, hd, hdm, hix⟩ := at_lt hb'
   have hd' := encD_at hd
   have hw := w_succ hb' (by omega)
   have htk := take_snoc hd
   have e1 := fun look zr h => insert_mp eI (puts [] (dV (x.inn.take i))) d.t (id := 1) (g := 1) (sz := 1) (by_ := 16) (zr := zr) (look := look) (x := d.nm) (w := .d (.int .i64 d.t)) rfl h
   refine wkc (jn @nHp.eq_1 (jn @xO.eq_1 (jn @kO.eq_1 (jn @Cl.cells.eq_1 (jn @dL.eq_1 (jn @dI.eq_1 (jn @hix (jn @hd' (jn @Dc.cells.eq_1 (jn @fillV.eq_1 (jn @fillV.eq_2 @e1))))))))))) ?_
   refine loop_next (by simp [hw]; exact Is.rfl) ?_
   exact ⟨D - 1, by omega, i + 1, by omega, SE.mk (by simp [dI, dL, hw]) (by rw [htk]; simp only [dV, List.map_append, List.map_cons, List.map_nil, puts_snoc]; rfl)⟩
  simp at hb
  have hie : i = x.inn.length := by omega
  subst hie
  rw [List.take_length]
  clear hb hi
  refine wkc (jn @nHp.eq_1 (jn @xO.eq_1 (jn @kO.eq_1 (jn @Cl.cells.eq_1 (jn @dL.eq_1 (jn @dI.eq_1 (jn @fillV.eq_1 @fillV.eq_2))))))) ?_
  apply WP.loop' (I := fun D s => ∃ j : Nat, j + D = 2 ∧ SE [(5, .ptr 0 0 0), (7, .ptr 5 5 0), (45, .agg [dL (encD x.out), dL (encD x.loc)]), (46, dI j)] (nHp en ea x (puts (puts [] (dV x.inn)) (if j = 0 then [] else if j = 1 then dV x.out else dV x.out ++ dV x.loc)) (puts [] (if j = 0 then [] else if j = 1 then dP x.out else dP x.out ++ dP x.loc)) []) 6 s) (d := 2)
  ·exact ⟨0, by simp, SE.mk (by simp [dI, dL]) (by simp [nHp, xO, kO, Cl.cells, dL, dI, puts])⟩
  rintro D _ ⟨j, hj, cc, rfl⟩
  obtain rfl | rfl | rfl : j = 0 ∨ j = 1 ∨ j = 2 := by omega
  ·refine wkc (jn @dI.eq_1 (jn @dL.eq_1 (jn @idx.eq_def (jn @puts.eq_1 (jn @puts.eq_2 (jn @nHp.eq_1 (jn @xO.eq_1 (jn @kO.eq_1 (jn @Cl.cells.eq_1 (jn @dL.eq_1 @dI.eq_1)))))))))) ?_
   apply WP.loop' (I := fun D s => ∃ i : Nat, i + D = x.out.length ∧ SE [(5, .ptr 0 0 0), (7, .ptr 5 5 0), (45, .agg [dL (encD x.out), dL (encD x.loc)]), (46, dI 0), (49, dL (encD x.out)), (50, dI x.out.length), (51, dI i)] (nHp en ea x (puts (puts [] (dV x.inn)) (dV (x.out.take i))) (puts [] (dP (x.out.take i))) []) 6 s) (d := x.out.length)
   ·exact ⟨0, by simp, SE.mk (by simp [dI, dL]) (by simp [nHp, xO, kO, Cl.cells, dL, dI, dV, dP, puts])⟩
   rintro D2 _ ⟨i, hi, cc2, rfl⟩
   refine wk (jn @dI.eq_1 @dL.eq_1) ?_
   show WP _ _ _ _ _ _
   refine WP.cond _ rfl (fun hb => ?_) (fun hb => ?_)
   ·simp at hb
    have hb' : i < x.out.length := by omega
    obtain ⟨d, hd, hdm, hix⟩ := at_lt hb'
    have hd' := encD_at hd
    have hw := w_succ hb' (by omega)
    have htk := take_snoc hd
    have e1 := fun look zr h => entry_mp eI (puts (puts [] (dV x.inn)) (dV (x.out.take i))) 0 (id := 1) (g := 1) (sz := 1) (by_ := 16) (zr := zr) (look := look) (x := d.nm) (w := .d (.int .i64 0)) rfl h
    have e2 := fun look h => stamp_mp eI (puts (puts [] (dV x.inn)) (dV (x.out.take i))) 0 d.t (id := 1) (g := 1) (look := look) (x := d.nm) (w := .d (.int .i64 d.t)) rfl h
    have e3 := fun look zr h => entry_mp eBo (puts [] (dP (x.out.take i))) false (id := 2) (g := 2) (sz := 1) (by_ := 16) (zr := zr) (look := look) (x := d.nm) (w := .d (.bool false)) rfl h
    have e4 := fun look h => stamp_mp eBo (puts [] (dP (x.out.take i))) false true (id := 2) (g := 2) (look := look) (x := d.nm) (w := .d (.bool true)) rfl h
    refine wkc (jn @nHp.eq_1 (jn @xO.eq_1 (jn @kO.eq_1 (jn @Cl.cells.eq_1 (jn @dL.eq_1 (jn @dI.eq_1 (jn @hix (jn @hd' (jn @Dc.cells.eq_1 (jn @fillV.eq_1 (jn @fillV.eq_2 (jn @zt3 (jn @zt4 (jn @e1 (jn @e2 (jn @e3 @e4)))))))))))))))) ?_
    refine loop_next (by simp [hw]; exact Is.rfl) ?_
    exact ⟨D2 - 1, by omega, i + 1, by omega, SE.mk (by simp [dI, dL, hw]) (by rw [htk]; simp only [dV, dP, List.map_append, List.map_cons, List.map_nil, puts_snoc]; rfl)⟩
   simp at hb
   have hie : i = x.out.length := by omega
   subst hie
   rw [List.take_length]
   clear hb hi
   refine wkc (jn @dI.eq_1 @dL.eq_1) ?_
   refine loop_next (by simp; exact Is.rfl) ?_
   exact ⟨1, by omega, 1, by omega, SE.mk (by simp [dI, dL]; try decide) (by simp [puts_app, puts]; try rfl)⟩
  ·refine wkc (jn @dI.eq_1 (jn @dL.eq_1 (jn @idx.eq_def (jn @puts.eq_1 (jn @puts.eq_2 (jn @nHp.eq_1 (jn @xO.eq_1 (jn @kO.eq_1 (jn @Cl.cells.eq_1 (jn @dL.eq_1 @dI.eq_1)))))))))) ?_
   apply WP.loop' (I := fun D s => ∃ i : Nat, i + D = x.loc.length ∧ SE [(5, .ptr 0 0 0), (7, .ptr 5 5 0), (45, .agg [dL (encD x.out), dL (encD x.loc)]), (46, dI 1), (49, dL (encD x.loc)), (50, dI x.loc.length), (51, dI i)] (nHp en ea x (puts (puts (puts [] (dV x.inn)) (dV x.out)) (dV (x.loc.take i))) (puts (puts [] (dP x.out)) (dP (x.loc.take i))) []) 6 s) (d := x.loc.length)
   ·exact ⟨0, by simp, SE.mk (by simp [dI, dL]) (by simp [nHp, xO, kO, Cl.cells, dL, dI, dV, dP, puts])⟩
   rintro D2 _ ⟨i, hi, cc2, rfl⟩
   refine wk (jn @dI.eq_1 @dL.eq_1) ?_
   show WP _ _ _ _ _ _
   refine WP.cond _ rfl (fun hb => ?_) (fun hb => ?_)
   ·simp at hb
    have hb' : i < x.loc.length := by omega
    obtain ⟨d, hd, hdm, hix⟩ := at_lt hb'
    have hd' := encD_at hd
    have hw := w_succ hb' (by omega)
    have htk := take_snoc hd
    have e1 := fun look zr h => entry_mp eI (puts (puts (puts [] (dV x.inn)) (dV x.out)) (dV (x.loc.take i))) 0 (id := 1) (g := 1) (sz := 1) (by_ := 16) (zr := zr) (look := look) (x := d.nm) (w := .d (.int .i64 0)) rfl h
    have e2 := fun look h => stamp_mp eI (puts (puts (puts [] (dV x.inn)) (dV x.out)) (dV (x.loc.take i))) 0 d.t (id := 1) (g := 1) (look := look) (x := d.nm) (w := .d (.int .i64 d.t)) rfl h
    have e3 := fun look zr h => entry_mp eBo (puts (puts [] (dP x.out)) (dP (x.loc.take i))) false (id := 2) (g := 2) (sz := 1) (by_ := 16) (zr := zr) (look := look) (x := d.nm) (w := .d (.bool false)) rfl h
    have e4 := fun look h => stamp_mp eBo (puts (puts [] (dP x.out)) (dP (x.loc.take i))) false true (id := 2) (g := 2) (look := look) (x := d.nm) (w := .d (.bool true)) rfl h
    refine wkc (jn @nHp.eq_1 (jn @xO.eq_1 (jn @kO.eq_1 (jn @Cl.cells.eq_1 (jn @dL.eq_1 (jn @dI.eq_1 (jn @hix (jn @hd' (jn @Dc.cells.eq_1 (jn @fillV.eq_1 (jn @fillV.eq_2 (jn @zt3 (jn @zt4 (jn @e1 (jn @e2 (jn @e3 @e4)))))))))))))))) ?_
    refine loop_next (by simp [hw]; exact Is.rfl) ?_
    exact ⟨D2 - 1, by omega, i + 1, by omega, SE.mk (by simp [dI, dL, hw]) (by rw [htk]; simp only [dV, dP, List.map_append, List.map_cons, List.map_nil, puts_snoc]; rfl)⟩
   simp at hb
   have hie : i = x.loc.length := by omega
   subst hie
   rw [List.take_length]
   clear hb hi
   refine wkc (jn @dI.eq_1 @dL.eq_1) ?_
   refine loop_next (by simp; exact Is.rfl) ?_
   exact ⟨0, by omega, 2, by omega, SE.mk (by simp [dI, dL]; try decide) (by simp [puts_app, puts]; try rfl)⟩
  ·refine wkc (jn @dI.eq_1 (jn @dL.eq_1 (jn @puts_app (jn @puts.eq_1 (jn @puts.eq_2 (jn @nHp.eq_1 (jn @xO.eq_1 (jn @kO.eq_1 (jn @Cl.cells.eq_1 (jn @dL.eq_1 @dI.eq_1)))))))))) ?_
   apply WP.loop' (I := fun D s => ∃ i : Nat, i + D = x.mems.length ∧ SE [(7, .ptr 5 5 0), (76, dL (encM x.mems)), (77, dI x.mems.length), (78, dI i)] (nHp en ea x (puts (puts (puts [] (dV x.inn)) (dV x.out)) (dV x.loc)) (puts (puts [] (dP x.out)) (dP x.loc)) (puts [] (mV (x.mems.take i)))) 6 s) (d := x.mems.length)
   ·exact ⟨0, by simp, SE.mk (by simp [dI, dL]) (by simp [nHp, xO, kO, Cl.cells, dL, dI, mV, puts_app, puts])⟩
   rintro D2 _ ⟨i, hi, cc2, rfl⟩
   refine wk (jn @dI.eq_1 @dL.eq_1) ?_
   show WP _ _ _ _ _ _
   refine WP.cond _ rfl (fun hb => ?_) (fun hb => ?_)
   ·simp at hb
    have hb' : i < x.mems.length := by omega
    obtain ⟨d, hd, hdm, hix⟩ := at_lt hb'
    have hd' := encM_at hd
    have hw := w_succ hb' (by omega)
    have htk := take_snoc hd
    have e1 := fun look zr h => insert_mp eI (puts [] (mV (x.mems.take i))) d.t (id := 3) (g := 3) (sz := 1) (by_ := 16) (zr := zr) (look := look) (x := d.nm) (w := .d (.int .i64 d.t)) rfl h
    refine wkc (jn @nHp.eq_1 (jn @xO.eq_1 (jn @kO.eq_1 (jn @Cl.cells.eq_1 (jn @dL.eq_1 (jn @dI.eq_1 (jn @hix (jn @hd' (jn @Mm.cells.eq_1 (jn @fillV.eq_1 (jn @fillV.eq_2 @e1))))))))))) ?_
    refine loop_next (by simp [hw]; exact Is.rfl) ?_
    exact ⟨D2 - 1, by omega, i + 1, by omega, SE.mk (by simp [dI, dL, hw]) (by rw [htk]; simp only [mV, List.map_append, List.map_cons, List.map_nil, puts_snoc]; rfl)⟩
   simp at hb
   have hie : i = x.mems.length := by omega
   subst hie
   rw [List.take_length]
   refine wkc (jn @dI.eq_1 @dL.eq_1) ?_
   exact ⟨.inr rfl, _, rfl, .inr rfl, rfl, rfl, rfl⟩
 obtain ⟨v, t, h1, h2, h3, h4⟩ := main
 exact ⟨_, h1, h2, h3, h4⟩
end Go.Ac
end

section
set_option maxRecDepth 4000
namespace Go.Ac
open Go.Proofs
attribute [local simp] Hp.get_set Ag_set Ag_refl Ag_trunc get_trunc_lt
theorem kf82 (r : Nat) : Ob.keep 82 r = Ob.k82 r := by kernel_rfl
attribute [local simp] kf82 Ob.k82
theorem quietC_wp {f : FuncId} {fn : Func} {body : Code} {vs : List V} {v : V} {hp : Hp} {n c : Nat} (hf : Tryz.prog.funcs[f]? = some fn) (hb : fn.body = some body) (hok : (Nat.ble vs.length fn.ntmps && codeOK fn.ntmps body) = true)
  (hthr : Ob.cfg.thr f = false) (h : WP Tryz.prog Ob.cfg f body ⟨envOf 0 vs, hp, n, c, n, []⟩ (fun e t => (e = .normal ∨ e = .ret) ∧ t.wl = [] ∧ ∃ rs ids, resultsV Tryz.prog t fn.results.toList = some rs ∧ closeT t.hp.get (tup rs) = some (v, ids) ∧ (v.flat || ids.all (fun i => Nat.ble n i)) = true)) : QuietV Tryz.prog Ob.cfg f vs hp n c v := by
 obtain ⟨w, t, h1, h2⟩ := lim_wpD (Q := fun w t => w = v ∧ t.wl = []) hf hb hok hthr (h.mono fun e t ⟨he, hwl, rs, ids, a1, a2, a3⟩ => ⟨he, rs, v, ids, a1, a2, a3, rfl, hwl⟩)
 obtain ⟨rfl, hwl⟩ := h2
 rw [hwl] at h1
 exact ⟨_, _, h1⟩
/-- A memory in which a class object lies, with these maps. -/
structure KG (ic gc iv gv ip gp im gm ii gi : Nat) (o : Oc) (ea : List Cl) (c : Cl) (lv : List (Tx × Int)) (lp : List (Tx × Bool)) (lm : List (Tx × Int)) (li : List (Tx × Cl)) (hp : Hp) (n : Nat) : Prop where
 co : hp.get ic = some ⟨gc, false, [V.d (.slice (encE o.en)), V.d (.slice (encC ea)), V.d (.str c.nm), V.d (.slice (encD c.inn)), V.d (.slice (encD c.out)), V.d (.slice (encD c.loc)), V.d (.slice (encM c.mems)), V.d (.slice (encJ c.ins)), V.d (.slice (encY c.step)), .mp iv gv, .mp ip gp, .mp im gm, .mp ii gi]⟩
 vars : hp.get iv = some ⟨gv, false, [mpC eI lv]⟩
 ports : hp.get ip = some ⟨gp, false, [mpC eBo lp]⟩
 mems : hp.get im = some ⟨gm, false, [mpC eI lm]⟩
 ins : hp.get ii = some ⟨gi, false, [mpC eC li]⟩
 lc : ic < n
 lv : iv < n
 lp : ip < n
 lm : im < n
 li : ii < n
theorem KG.ag {ic gc iv gv ip gp im gm ii gi : Nat} {o : Oc} {ea : List Cl} {c : Cl} {lv lm : List (Tx × Int)} {lp : List (Tx × Bool)} {li : List (Tx × Cl)} {hp hp' : Hp} {n n' : Nat} (h : KG ic gc iv gv ip gp im gm ii gi o ea c lv lp lm li hp n) (ha : Ag n hp hp') (hn : n ≤ n') : KG ic gc iv gv ip gp im gm ii gi o ea c lv lp lm li hp' n' := by
 obtain ⟨h1, h2, h3, h4, h5, l1, l2, l3, l4, l5⟩ := h
 rw [← ha _ l1] at h1
 rw [← ha _ l2] at h2
 rw [← ha _ l3] at h3
 rw [← ha _ l4] at h4
 rw [← ha _ l5] at h5
 exact ⟨h1, h2, h3, h4, h5, by omega, by omega, by omega, by omega, by omega⟩
section
variable {ic gc iv gv ip gp im gm ii gi : Nat} {o : Oc} {ea : List Cl} {c : Cl} {lv lm : List (Tx × Int)} {lp : List (Tx × Bool)} {li : List (Tx × Cl)}
set_option maxHeartbeats 4000000 in
theorem names107 (hL : CLen c) (hp : Hp) (n cc : Nat) (hK : KG ic gc iv gv ip gp im gm ii gi o ea c lv lp lm li hp n) : QuietV Tryz.prog Ob.cfg 82 [.ptr ic gc 0] hp n cc (dL (encS c.names)) := by
 have hL := hL.sum
 have hco := hK.co
 have nc := nf hK.lc
 refine quietC_wp Tryz.func82 rfl (by kernel_rfl) rfl ?_
 refine wkcv (jn @envOf.eq_1 (jn @envOf.eq_2 (jn @dL.eq_1 (jn @hco (jn @nc (jn @fillV.eq_1 @fillV.eq_2)))))) ?_
 apply WP.loop' (I := fun D s => ∃ (j g m c' : Nat) (hp' : Hp) (B : List Tx), j + D = 3 ∧ B = (if j = 0 then ([] : List Tx) else if j = 1 then c.inn.map Dc.nm else if j = 2 then (c.inn.map Dc.nm ++ c.out.map Dc.nm) else (c.inn.map Dc.nm ++ c.out.map Dc.nm ++ c.loc.map Dc.nm)) ∧ m = B.length ∧ Ag n hp hp' ∧ hp'.get n = some ⟨g, false, fl (encS B)⟩ ∧ s = ⟨[(0, .ptr ic gc 0), (3, .osl n g 0 m 1 none), (27, .agg [dL (encD c.inn), dL (encD c.out), dL (encD c.loc)]), (28, dI j)], hp', n + 1, c', n, []⟩) (d := 3)
 ·exact ⟨0, cc, _, _, _, [], by simp, by simp, rfl, by simp, by simp [fl, encS], st_eq (by simp [dI, dL]) rfl⟩
 rintro D _ ⟨j, g, m, c', hp', B, hj, hB, hm, hag, hx, rfl⟩
 have hagt := eq_true hag
 have hco := (hK.ag hag (Nat.le_refl n)).co
 obtain rfl | rfl | rfl | rfl : j = 0 ∨ j = 1 ∨ j = 2 ∨ j = 3 := by omega
 ·replace hB : B = ([] : List Tx) := by rw [hB]; simp
  refine wkcv (jn @dI.eq_1 (jn @dL.eq_1 @idx.eq_def)) ?_
  apply WP.loop' (I := fun D s => ∃ (i g m c' : Nat) (hp' : Hp) (B : List Tx), i + D = c.inn.length ∧ B = ([] : List Tx) ++ (c.inn.take i).map Dc.nm ∧ m = B.length ∧ Ag n hp hp' ∧ hp'.get n = some ⟨g, false, fl (encS B)⟩ ∧ s = ⟨[(0, .ptr ic gc 0), (3, .osl n g 0 m 1 none), (27, .agg [dL (encD c.inn), dL (encD c.out), dL (encD c.loc)]), (28, dI 0), (31, dL (encD c.inn)), (32, dI c.inn.length), (33, dI i)], hp', n + 1, c', n, []⟩) (d := c.inn.length)
  ·exact ⟨0, g, m, _, _, B, by simp, by simp [hB], hm, by simp [hag], by simp [hx], st_eq (by simp [dI, dL]) rfl⟩
  clear hB hm hx hag hagt hco
  rintro D2 _ ⟨i, g, m, c', hp', B, hi, hB, hm, hag, hx, rfl⟩
  have hagt := eq_true hag
  have hco := (hK.ag hag (Nat.le_refl n)).co
  refine wkv (jn @dI.eq_1 @dL.eq_1) ?_
  show WP _ _ _ _ _ _
  refine WP.cond _ rfl (fun hb => ?_) (fun hb => ?_)
  ·simp at hb
   have hb' : i < c.inn.length := by omega
   obtain ⟨d, hd, hdm, hix⟩ := at_lt hb'
   have hd' := encD_at hd
   have hwj := w_succ hb' (by omega)
   have hBl : m ≤ 8388608 := by rw [hm, hB]; simp; omega
   have r2 := fl_len (encS_row B)
   have r3 := fl_take (encS_row B)
   have r5 := encS_snoc B d.nm
   have r6 := fl_snoc (encS B) [.str d.nm]
   have f5 : fitsB (m + 1) 16 = true := by simp [fitsB]; omega
   rw [encS_len, ← hm, Nat.mul_one] at r2 r3
   rw [r5] at r6
   simp only [List.map_cons, List.map_nil] at r6
   refine wkcv (jn @dI.eq_1 (jn @dL.eq_1 (jn @hx (jn @hco (jn @nc (jn @hagt (jn @hix (jn @hd' (jn @Dc.cells.eq_1 (jn @fillV.eq_1 (jn @fillV.eq_2 (jn @closeParts.eq_1 (jn @closeParts.eq_2 (jn @cl2.eq_def (jn @toD_dep (jn @toD_d (jn @r2 (jn @r3 (jn @r6 (jn @f5 @nble_d)))))))))))))))))))) ?_
   refine loop_next (by simp [hwj]; exact Is.rfl) ?_
   exact ⟨D2 - 1, by omega, i + 1, _, m + 1, _, _, B ++ [d.nm], by omega, by rw [hB, take_snoc hd]; simp, by simp; omega, by simp [hag], by simp; rfl, st_eq (by simp [dI, dL, hwj]) rfl⟩
  simp at hb
  have hie : i = c.inn.length := by omega
  rw [hie, List.take_length] at hB

  refine wkcv (jn @dI.eq_1 @dL.eq_1) ?_
  refine loop_next (by simp; exact Is.rfl) ?_
  exact ⟨2, by omega, 1, g, m, _, _, B, by omega, by simp [hB], hm, by simp [hag], by simp [hx], st_eq (by simp [dI, dL]; try decide) rfl⟩
 ·replace hB : B = c.inn.map Dc.nm := by rw [hB]; simp
  refine wkcv (jn @dI.eq_1 (jn @dL.eq_1 @idx.eq_def)) ?_
  apply WP.loop' (I := fun D s => ∃ (i g m c' : Nat) (hp' : Hp) (B : List Tx), i + D = c.out.length ∧ B = c.inn.map Dc.nm ++ (c.out.take i).map Dc.nm ∧ m = B.length ∧ Ag n hp hp' ∧ hp'.get n = some ⟨g, false, fl (encS B)⟩ ∧ s = ⟨[(0, .ptr ic gc 0), (3, .osl n g 0 m 1 none), (27, .agg [dL (encD c.inn), dL (encD c.out), dL (encD c.loc)]), (28, dI 1), (31, dL (encD c.out)), (32, dI c.out.length), (33, dI i)], hp', n + 1, c', n, []⟩) (d := c.out.length)
  ·exact ⟨0, g, m, _, _, B, by simp, by simp [hB], hm, by simp [hag], by simp [hx], st_eq (by simp [dI, dL]) rfl⟩
  clear hB hm hx hag hagt hco
  rintro D2 _ ⟨i, g, m, c', hp', B, hi, hB, hm, hag, hx, rfl⟩
  have hagt := eq_true hag
  have hco := (hK.ag hag (Nat.le_refl n)).co
  refine wkv (jn @dI.eq_1 @dL.eq_1) ?_
  show WP _ _ _ _ _ _
  refine WP.cond _ rfl (fun hb => ?_) (fun hb => ?_)
  ·simp at hb
   have hb' : i < c.out.length := by omega
   obtain ⟨d, hd, hdm, hix⟩ := at_lt hb'
   have hd' := encD_at hd
   have hwj := w_succ hb' (by omega)
   have hBl : m ≤ 8388608 := by rw [hm, hB]; simp; omega
   have r2 := fl_len (encS_row B)
   have r3 := fl_take (encS_row B)
   have r5 := encS_snoc B d.nm
   have r6 := fl_snoc (encS B) [.str d.nm]
   have f5 : fitsB (m + 1) 16 = true := by simp [fitsB]; omega
   rw [encS_len, ← hm, Nat.mul_one] at r2 r3
   rw [r5] at r6
   simp only [List.map_cons, List.map_nil] at r6
   refine wkcv (jn @dI.eq_1 (jn @dL.eq_1 (jn @hx (jn @hco (jn @nc (jn @hagt (jn @hix (jn @hd' (jn @Dc.cells.eq_1 (jn @fillV.eq_1 (jn @fillV.eq_2 (jn @closeParts.eq_1 (jn @closeParts.eq_2 (jn @cl2.eq_def (jn @toD_dep (jn @toD_d (jn @r2 (jn @r3 (jn @r6 (jn @f5 @nble_d)))))))))))))))))))) ?_
   refine loop_next (by simp [hwj]; exact Is.rfl) ?_
   exact ⟨D2 - 1, by omega, i + 1, _, m + 1, _, _, B ++ [d.nm], by omega, by rw [hB, take_snoc hd]; simp, by simp; omega, by simp [hag], by simp; rfl, st_eq (by simp [dI, dL, hwj]) rfl⟩
  simp at hb
  have hie : i = c.out.length := by omega
  rw [hie, List.take_length] at hB

  refine wkcv (jn @dI.eq_1 @dL.eq_1) ?_
  refine loop_next (by simp; exact Is.rfl) ?_
  exact ⟨1, by omega, 2, g, m, _, _, B, by omega, by simp [hB], hm, by simp [hag], by simp [hx], st_eq (by simp [dI, dL]; try decide) rfl⟩
 ·replace hB : B = (c.inn.map Dc.nm ++ c.out.map Dc.nm) := by rw [hB]; simp
  refine wkcv (jn @dI.eq_1 (jn @dL.eq_1 @idx.eq_def)) ?_
  apply WP.loop' (I := fun D s => ∃ (i g m c' : Nat) (hp' : Hp) (B : List Tx), i + D = c.loc.length ∧ B = (c.inn.map Dc.nm ++ c.out.map Dc.nm) ++ (c.loc.take i).map Dc.nm ∧ m = B.length ∧ Ag n hp hp' ∧ hp'.get n = some ⟨g, false, fl (encS B)⟩ ∧ s = ⟨[(0, .ptr ic gc 0), (3, .osl n g 0 m 1 none), (27, .agg [dL (encD c.inn), dL (encD c.out), dL (encD c.loc)]), (28, dI 2), (31, dL (encD c.loc)), (32, dI c.loc.length), (33, dI i)], hp', n + 1, c', n, []⟩) (d := c.loc.length)
  ·exact ⟨0, g, m, _, _, B, by simp, by simp [hB], hm, by simp [hag], by simp [hx], st_eq (by simp [dI, dL]) rfl⟩
  clear hB hm hx hag hagt hco
  rintro D2 _ ⟨i, g, m, c', hp', B, hi, hB, hm, hag, hx, rfl⟩
  have hagt := eq_true hag
  have hco := (hK.ag hag (Nat.le_refl n)).co
  refine wkv (jn @dI.eq_1 @dL.eq_1) ?_
  show WP _ _ _ _ _ _
  refine WP.cond _ rfl (fun hb => ?_) (fun hb => ?_)
  ·simp at hb
   have hb' : i < c.loc.length := by omega
   obtain ⟨d, hd, hdm, hix⟩ := at_lt hb'
   have hd' := encD_at hd
   have hwj := w_succ hb' (by omega)
   have hBl : m ≤ 8388608 := by rw [hm, hB]; simp; omega
   have r2 := fl_len (encS_row B)
   have r3 := fl_take (encS_row B)
   have r5 := encS_snoc B d.nm
   have r6 := fl_snoc (encS B) [.str d.nm]
   have f5 : fitsB (m + 1) 16 = true := by simp [fitsB]; omega
   rw [encS_len, ← hm, Nat.mul_one] at r2 r3
   rw [r5] at r6
   simp only [List.map_cons, List.map_nil] at r6
   refine wkcv (jn @dI.eq_1 (jn @dL.eq_1 (jn @hx (jn @hco (jn @nc (jn @hagt (jn @hix (jn @hd' (jn @Dc.cells.eq_1 (jn @fillV.eq_1 (jn @fillV.eq_2 (jn @closeParts.eq_1 (jn @closeParts.eq_2 (jn @cl2.eq_def (jn @toD_dep (jn @toD_d (jn @r2 (jn @r3 (jn @r6 (jn @f5 @nble_d)))))))))))))))))))) ?_
   refine loop_next (by simp [hwj]; exact Is.rfl) ?_
   exact ⟨D2 - 1, by omega, i + 1, _, m + 1, _, _, B ++ [d.nm], by omega, by rw [hB, take_snoc hd]; simp, by simp; omega, by simp [hag], by simp; rfl, st_eq (by simp [dI, dL, hwj]) rfl⟩
  simp at hb
  have hie : i = c.loc.length := by omega
  rw [hie, List.take_length] at hB

  refine wkcv (jn @dI.eq_1 @dL.eq_1) ?_
  refine loop_next (by simp; exact Is.rfl) ?_
  exact ⟨0, by omega, 3, g, m, _, _, B, by omega, by simp [hB], hm, by simp [hag], by simp [hx], st_eq (by simp [dI, dL]; try decide) rfl⟩
 replace hB : B = (c.inn.map Dc.nm ++ c.out.map Dc.nm ++ c.loc.map Dc.nm) := by rw [hB]; simp
 refine wkcv (jn @dI.eq_1 (jn @dL.eq_1 (jn @hco @nc))) ?_
 apply WP.loop' (I := fun D s => ∃ (i g m c' : Nat) (hp' : Hp) (B : List Tx), i + D = c.mems.length ∧ B = (c.inn.map Dc.nm ++ c.out.map Dc.nm ++ c.loc.map Dc.nm) ++ (c.mems.take i).map Mm.nm ∧ m = B.length ∧ Ag n hp hp' ∧ hp'.get n = some ⟨g, false, fl (encS B)⟩ ∧ s = ⟨[(0, .ptr ic gc 0), (3, .osl n g 0 m 1 none), (48, dL (encM c.mems)), (49, dI c.mems.length), (50, dI i)], hp', n + 1, c', n, []⟩) (d := c.mems.length)
 ·exact ⟨0, g, m, _, _, B, by simp, by simp [hB], hm, by simp [hag], by simp [hx], st_eq (by simp [dI, dL]) rfl⟩
 clear hB hm hx hag hagt hco
 rintro D2 _ ⟨i, g, m, c', hp', B, hi, hB, hm, hag, hx, rfl⟩
 have hagt := eq_true hag
 have hco := (hK.ag hag (Nat.le_refl n)).co
 refine wkv (jn @dI.eq_1 @dL.eq_1) ?_
 show WP _ _ _ _ _ _
 refine WP.cond _ rfl (fun hb => ?_) (fun hb => ?_)
 ·simp at hb
  have hb' : i < c.mems.length := by omega
  obtain ⟨d, hd, hdm, hix⟩ := at_lt hb'
  have hd' := encM_at hd
  have hwj := w_succ hb' (by omega)
  have hBl : m ≤ 8388608 := by rw [hm, hB]; simp; omega
  have r2 := fl_len (encS_row B)
  have r3 := fl_take (encS_row B)
  have r5 := encS_snoc B d.nm
  have r6 := fl_snoc (encS B) [.str d.nm]
  have f5 : fitsB (m + 1) 16 = true := by simp [fitsB]; omega
  rw [encS_len, ← hm, Nat.mul_one] at r2 r3
  rw [r5] at r6
  simp only [List.map_cons, List.map_nil] at r6
  refine wkcv (jn @dI.eq_1 (jn @dL.eq_1 (jn @hx (jn @hco (jn @nc (jn @hagt (jn @hix (jn @hd' (jn @Mm.cells.eq_1 (jn @fillV.eq_1 (jn @fillV.eq_2 (jn @closeParts.eq_1 (jn @closeParts.eq_2 (jn @cl2.eq_def (jn @toD_dep (jn @toD_d (jn @r2 (jn @r3 (jn @r6 (jn @f5 @nble_d)))))))))))))))))))) ?_
  refine loop_next (by simp [hwj]; exact Is.rfl) ?_
  exact ⟨D2 - 1, by omega, i + 1, _, m + 1, _, _, B ++ [d.nm], by omega, by rw [hB, take_snoc hd]; simp, by simp; omega, by simp [hag], by simp; rfl, st_eq (by simp [dI, dL, hwj]) rfl⟩
 simp at hb
 have hie : i = c.mems.length := by omega
 rw [hie, List.take_length] at hB

 clear hb hi
 refine wkcv (jn @dI.eq_1 (jn @dL.eq_1 (jn @hco @nc))) ?_
 apply WP.loop' (I := fun D s => ∃ (i g m c' : Nat) (hp' : Hp) (B : List Tx), i + D = c.ins.length ∧ B = (c.inn.map Dc.nm ++ c.out.map Dc.nm ++ c.loc.map Dc.nm ++ c.mems.map Mm.nm) ++ (c.ins.take i).map Ii.nm ∧ m = B.length ∧ Ag n hp hp' ∧ hp'.get n = some ⟨g, false, fl (encS B)⟩ ∧ s = ⟨[(3, .osl n g 0 m 1 none), (64, dL (encJ c.ins)), (65, dI c.ins.length), (66, dI i)], hp', n + 1, c', n, []⟩) (d := c.ins.length)
 ·exact ⟨0, g, m, _, _, B, by simp, by simp [hB], hm, by simp [hag], by simp [hx], st_eq (by simp [dI, dL]) rfl⟩
 clear hB hm hx hag hagt hco
 rintro D2 _ ⟨i, g, m, c', hp', B, hi, hB, hm, hag, hx, rfl⟩
 have hagt := eq_true hag
 have hco := (hK.ag hag (Nat.le_refl n)).co
 refine wkv (jn @dI.eq_1 @dL.eq_1) ?_
 show WP _ _ _ _ _ _
 refine WP.cond _ rfl (fun hb => ?_) (fun hb => ?_)
 ·simp at hb
  have hb' : i < c.ins.length := by omega
  obtain ⟨d, hd, hdm, hix⟩ := at_lt hb'
  have hd' := encJ_at hd
  have hwj := w_succ hb' (by omega)
  have hBl : m ≤ 8388608 := by rw [hm, hB]; simp; omega
  have r2 := fl_len (encS_row B)
  have r3 := fl_take (encS_row B)
  have r5 := encS_snoc B d.nm
  have r6 := fl_snoc (encS B) [.str d.nm]
  have f5 : fitsB (m + 1) 16 = true := by simp [fitsB]; omega
  rw [encS_len, ← hm, Nat.mul_one] at r2 r3
  rw [r5] at r6
  simp only [List.map_cons, List.map_nil] at r6
  refine wkcv (jn @dI.eq_1 (jn @dL.eq_1 (jn @hx (jn @hco (jn @nc (jn @hagt (jn @hix (jn @hd' (jn @Ii.cells.eq_1 (jn @fillV.eq_1 (jn @fillV.eq_2 (jn @closeParts.eq_1 (jn @closeParts.eq_2 (jn @cl2.eq_def (jn @toD_dep (jn @toD_d (jn @r2 (jn @r3 (jn @r6 (jn @f5 @nble_d)))))))))))))))))))) ?_
  refine loop_next (by simp [hwj]; exact Is.rfl) ?_
  exact ⟨D2 - 1, by omega, i + 1, _, m + 1, _, _, B ++ [d.nm], by omega, by rw [hB, take_snoc hd]; simp, by simp; omega, by simp [hag], by simp; rfl, st_eq (by simp [dI, dL, hwj]) rfl⟩
 simp at hb
 have hie : i = c.ins.length := by omega
 rw [hie, List.take_length] at hB

 refine wkcv (jn @dI.eq_1 @dL.eq_1) ?_
 have hcl := close_fl (look := hp'.get) (id := n) (g := g) (ro := false) (cap := none) (encS_row B) hx
 rw [encS_len, ← hm] at hcl
 refine ⟨.inr rfl, rfl, _, [n], rfl, ?_, by simp [Nat.ble_eq]⟩
 show closeT hp'.get (.osl n g 0 m 1 none) = _
 rw [hcl, hB]; rfl
end
end Go.Ac
end

section
set_option maxRecDepth 4000
namespace Go.Ac
open Go.Proofs
attribute [local simp] Hp.get_set Ag_set Ag_refl Ag_trunc get_trunc_lt
def gz (l : List (Tx × Int)) (x : Tx) : Int := (mget l x).getD 0
/-- Where an instance and the variables of a step lie. -/
structure Pa where
 x : Nat
 gx : Nat
 im : Nat
 gm : Nat
 ii : Nat
 gi : Nat
 v : Nat
 gv : Nat
section
variable {a : Pa} {en : List En} {c : Cl} {ms vs : List (Tx × Int)}

end
end Go.Ac
end

section
set_option maxRecDepth 4000
namespace Go.Ac
open Go.Proofs
/-- An instance: its class, its memories, those that it contains. -/
inductive Trn where
 | mk (c : Cl) (ms : List (Tx × Int)) (sb : List Trn)
def Trn.c : Trn → Cl | .mk c _ _ => c
def Trn.ms : Trn → List (Tx × Int) | .mk _ m _ => m
def Trn.sb : Trn → List Trn | .mk _ _ s => s
mutual
def Trn.ht : Trn → Nat
 | .mk _ _ sb => htL sb + 1
def htL : List Trn → Nat
 | [] => 0
 | t :: r => max t.ht (htL r)
end
/-- A step under way: the variables, the memories, the instances. -/
structure Es where
 vs : List (Tx × Int)
 ms : List (Tx × Int)
 sb : List Trn
/-! ### Types -/
theorem gz_put (l : List (Tx × Int)) (x y : Tx) (v : Int) : gz (mput l x v) y = if y = x then v else gz l y := by
 unfold gz; rw [mget_put]; split <;> rfl
/-- A statement that passes the check at some place. -/
def wtY (o : Oc) (c : Cl) (y : Y) : Prop := ∃ cx bf, stmtW o c cx bf y = 0
def wtL (o : Oc) (c : Cl) (l : List Y) : Prop := ∀ y, y ∈ l → wtY o c y
theorem wtL_of (o : Oc) (c : Cl) : ∀ (l : List Y) (cx : List Pr) (bf : List Y), listW o c cx bf l = 0 → wtL o c l
 | [], _, _, _ => fun y h => by cases h
 | x :: r, cx, bf, h => by
  rw [listW] at h
  split at h
  ·rename_i hn; exact absurd h hn
  ·rename_i hn
   intro y hy
   rcases List.mem_cons.1 hy with rfl | hy
   ·exact ⟨cx, bf, Decidable.not_not.1 hn⟩
   ·exact wtL_of o c r cx _ h y hy
theorem wtB_of (o : Oc) (c : Cl) (cx : List Pr) (bf : List Y) (nm : Tx) : ∀ (l : List (List Y)) (k : Nat), brsW o c cx bf nm k l = 0 → ∀ b, b ∈ l → wtL o c b
 | [], _, _ => fun y h => by cases h
 | x :: r, k, h => by
  rw [brsW] at h
  split at h
  ·rename_i hn; exact absurd h hn
  ·rename_i hn
   intro y hy
   rcases List.mem_cons.1 hy with rfl | hy
   ·exact wtL_of o c _ _ _ (Decidable.not_not.1 hn)
   ·exact wtB_of o c cx bf nm r (k + 1) h y hy
/-- An expression of a type. -/
def wtX (o : Oc) (c : Cl) (x : X) (t : Int) : Prop := formE x = true ∧ ∃ bf cx, kindW ⟨o, c, bf, cx⟩ x = (t, 0)
theorem wtX_of {o : Oc} {c : Cl} {bf : List Y} {cx : List Pr} {x : X} (h : (exprW ⟨o, c, bf, cx⟩ x).2 = 0) : wtX o c x (exprW ⟨o, c, bf, cx⟩ x).1 := by
 unfold exprW at h ⊢
 split
 ·rename_i hf
  rw [if_pos hf] at h
  exact ⟨hf, bf, cx, by rw [← h]⟩
 ·rename_i hf; rw [if_neg hf] at h; simp at h
/-- Variables of their types. -/
def tyV (en : List En) (c : Cl) (vs : List (Tx × Int)) : Prop := ∀ nm, getT c nm ≠ 0 → hasE en (getT c nm) (gz vs nm) = true
def tyM (en : List En) (c : Cl) (ms : List (Tx × Int)) : Prop := ms.map Prod.fst = c.mems.map Mm.nm ∧ ∀ nm, findM c.mems nm ≠ 0 → hasE en (findM c.mems nm) (gz ms nm) = true
end Go.Ac
end
