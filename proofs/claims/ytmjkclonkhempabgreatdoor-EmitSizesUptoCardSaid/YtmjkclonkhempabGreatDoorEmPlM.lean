/- Cases, statements, lists: the program's. -/
import Derived.Test.YtmjkclonkhempabGreatDoorEmPjM
set_option linter.unusedVariables false
set_option linter.unusedSimpArgs false
section
set_option maxRecDepth 4000
namespace Go.Ac
open Go.Proofs
attribute [local simp] Hp.get_set Ag_set Ag_refl Ag_trunc get_trunc_lt
theorem kf109 (r : Nat) : Ob.keep 109 r = Ob.k109 r := by kernel_rfl
attribute [local simp] kf109 Ob.k109
theorem nbeq_dec (a b : Nat) : Nat.beq a b = decide (a = b) := by
 by_cases h : a = b
 ·subst h; simp
 ·rw [nbeq_ne h, decide_eq_false h]
theorem tgtP_out (w : Pl) (pre : List Tx) (x : Tx) (d : Dc) : tgtP w x (decide (x ∈ pre)) d.t = outE w pre x d := by unfold tgtP outE; simp
section
variable {ic gc iv gv ip gp im gm ii gi : Nat} {o : Oc} {ea : List Cl} {c : Cl}
set_option maxHeartbeats 4000000 in
theorem call135 (hW : KW o c) (cx : List Pr) (bl : List (List Y)) (hB : BOK cx bl) (y : Y) (hsz : y.sz ≤ MX) (hok : okX y.args) :
  QK ic gc iv gv ip gp im gm ii gi o ea c 109 [.ptr ic gc 0, aG y.cells, pP cx bl] (dI (callW ⟨o, c, bl.flatten, cx⟩ y)) := by
 intro hp n cc hK
 unfold MX at hsz
 rw [Y.sz_eq] at hsz
 have k1 := len_szX y.args
 have k2 := len_szS y.outs
 have hco := hK.co
 have nc := nf hK.lc
 have ni := nf hK.li
 have hli := fun (look : Look) (sz by_ : Nat) (zr : Option (List V)) (y : Tx) (h : look ii = hp.get ii) => hK.look_ins (look := look) (sz := sz) (by_ := by_) (zr := zr) (x := y) h
 refine quietV_wp Tryz.func109 rfl (by kernel_rfl) rfl (fun _ => rfl) ?_
 unfold callW
 show WP _ _ _ _ _ (quietVQ _ _ _ (dI (if (findI c.ins o.cl y.nm).2 = false then 6 else if y.args.length ≠ (findI c.ins o.cl y.nm).1.inn.length ∨ y.outs.length ≠ (findI c.ins o.cl y.nm).1.out.length then 9 else if argsW ⟨o, c, bl.flatten, cx⟩ y.args (findI c.ins o.cl y.nm).1.inn ≠ 0 then argsW ⟨o, c, bl.flatten, cx⟩ y.args (findI c.ins o.cl y.nm).1.inn else outsW ⟨o, c, bl.flatten, cx⟩ [] y.outs (findI c.ins o.cl y.nm).1.out)))
 generalize hw : (⟨o, c, bl.flatten, cx⟩ : Pl) = w
 have hf : ∀ q, findI c.ins o.cl y.nm = q → True := fun _ _ => trivial
 generalize hG : findI c.ins o.cl y.nm = G
 obtain ⟨g, ok⟩ := G
 cases ok with
 | false =>
  have hfo : foundC (g, false) = .agg [.d (.str []), .full [], .full [], .full [], .full [], .full [], .full []] := rfl
  repeat (first
 | apply WP.seq
 | (apply WP.reg; (case hR => dsimp only [prepL, prepO, List.map, gS, gZ]; exact iZ); (case hr => (repeat (first
 | (apply RT.op; simp [envOf, aG, pP, Y.cells_eq, dL, hco, nc, ni, hli, zt39, hG, hfo, fillV]; exact iZ; (try dsimp only [putEnv]) <;> exact rfl)
 | (apply RT.call; (iterate 2 simp; exact iZ); exact iZ; (iterate 4 simp [envOf, aG, pP, Y.cells_eq, dL, hco, nc, ni, hli, zt39, hG, hfo, fillV]; exact iZ); simp [Is]; (try dsimp only [putEnv]) <;> exact rfl; simp; exact iZ; simp; exact iZ)
 | (apply RT.callV; (iterate 2 simp; exact iZ); exact iZ; (iterate 3 simp [envOf, aG, pP, Y.cells_eq, dL, hco, nc, ni, hli, zt39, hG, hfo, fillV]; exact iZ); (try dsimp only [putEnv]) <;> exact rfl)
 | (apply RT.wr; simp [envOf, aG, pP, Y.cells_eq, dL, hco, nc, ni, hli, zt39, hG, hfo, fillV]; exact iZ; (try dsimp only [putEnv]) <;> exact rfl; simp [envOf, aG, pP, Y.cells_eq, dL, hco, nc, ni, hli, zt39, hG, hfo, fillV]; exact iZ; (iterate 2 exact iZ); simp; exact iZ))); exact RT.nil); (case hc => first | (refine checkR_un [(0, 4), (1, 4), (2, 4), (3, 4), (0, 5), (1, 5), (2, 5), (3, 5), (8, 9), (0, 10), (1, 10), (2, 10), (3, 10), (4, 10), (5, 10), (6, 10), (7, 10), (8, 10), (9, 10), (9, 11)] (by kernel_rfl) (by kernel_rfl) rfl ?_; simp [memA, disj, nbeq_dec, nc, ni]; done) | (show _ = _; kernel_rfl)); (case ht => simp [envOf, aG, pP, Y.cells_eq, dL, hco, nc, ni, hli, zt39, hG, hfo, fillV]; exact iZ))
 | apply WP.block | apply WP.skip | apply WP.exit | apply WP.ret | refine WP.condT rfl ?_ | refine WP.condF rfl ?_)
  exact ⟨.inr rfl, rfl, _, rfl, rfl⟩
 | true =>
 have hfo : foundC (g, true) = .agg [V.d (.str g.nm), V.d (.slice (encD g.inn)), V.d (.slice (encD g.out)), V.d (.slice (encD g.loc)), V.d (.slice (encM g.mems)), V.d (.slice (encJ g.ins)), V.d (.slice (encY g.step))] := rfl
 rw [if_neg (by simp)]
 simp only []
 by_cases c1 : y.args.length = g.inn.length
 case neg =>
  have c1' : ((y.args.length : Int) = g.inn.length) = False := eq_false (by omega)
  have c1'' := eq_false c1
  rw [if_pos (.inl c1)]
  repeat (first
 | apply WP.seq
 | (apply WP.reg; (case hR => dsimp only [prepL, prepO, List.map, gS, gZ]; exact iZ); (case hr => (repeat (first
 | (apply RT.op; simp [envOf, aG, pP, Y.cells_eq, dL, hco, nc, ni, hli, zt39, hG, hfo, fillV, int_bne, encX_len, encD_len, c1', c1'']; exact iZ; (try dsimp only [putEnv]) <;> exact rfl)
 | (apply RT.call; (iterate 2 simp; exact iZ); exact iZ; (iterate 4 simp [envOf, aG, pP, Y.cells_eq, dL, hco, nc, ni, hli, zt39, hG, hfo, fillV, int_bne, encX_len, encD_len, c1', c1'']; exact iZ); simp [Is]; (try dsimp only [putEnv]) <;> exact rfl; simp; exact iZ; simp; exact iZ)
 | (apply RT.callV; (iterate 2 simp; exact iZ); exact iZ; (iterate 3 simp [envOf, aG, pP, Y.cells_eq, dL, hco, nc, ni, hli, zt39, hG, hfo, fillV, int_bne, encX_len, encD_len, c1', c1'']; exact iZ); (try dsimp only [putEnv]) <;> exact rfl)
 | (apply RT.wr; simp [envOf, aG, pP, Y.cells_eq, dL, hco, nc, ni, hli, zt39, hG, hfo, fillV, int_bne, encX_len, encD_len, c1', c1'']; exact iZ; (try dsimp only [putEnv]) <;> exact rfl; simp [envOf, aG, pP, Y.cells_eq, dL, hco, nc, ni, hli, zt39, hG, hfo, fillV, int_bne, encX_len, encD_len, c1', c1'']; exact iZ; (iterate 2 exact iZ); simp; exact iZ))); exact RT.nil); (case hc => first | (refine checkR_un [(0, 4), (1, 4), (2, 4), (3, 4), (0, 5), (1, 5), (2, 5), (3, 5), (8, 9), (0, 10), (1, 10), (2, 10), (3, 10), (4, 10), (5, 10), (6, 10), (7, 10), (8, 10), (9, 10), (9, 11)] (by kernel_rfl) (by kernel_rfl) rfl ?_; simp [memA, disj, nbeq_dec, nc, ni]; done) | (show _ = _; kernel_rfl)); (case ht => simp [envOf, aG, pP, Y.cells_eq, dL, hco, nc, ni, hli, zt39, hG, hfo, fillV, int_bne, encX_len, encD_len, c1', c1'']; exact iZ))
 | apply WP.block | apply WP.skip | apply WP.exit | apply WP.ret | refine WP.condT rfl ?_ | refine WP.condF rfl ?_)
  exact ⟨.inr rfl, rfl, _, rfl, rfl⟩
 have c1' : ((y.args.length : Int) = g.inn.length) = True := eq_true (by omega)
 by_cases c2 : y.outs.length = g.out.length
 case neg =>
  have c2' : ((y.outs.length : Int) = g.out.length) = False := eq_false (by omega)
  have c2'' := eq_false c2
  rw [if_pos (.inr c2)]
  repeat (first
 | apply WP.seq
 | (apply WP.reg; (case hR => dsimp only [prepL, prepO, List.map, gS, gZ]; exact iZ); (case hr => (repeat (first
 | (apply RT.op; simp [envOf, aG, pP, Y.cells_eq, dL, hco, nc, ni, hli, zt39, hG, hfo, fillV, int_bne, encX_len, encS_len, encD_len, c1, c2', c2'']; exact iZ; (try dsimp only [putEnv]) <;> exact rfl)
 | (apply RT.call; (iterate 2 simp; exact iZ); exact iZ; (iterate 4 simp [envOf, aG, pP, Y.cells_eq, dL, hco, nc, ni, hli, zt39, hG, hfo, fillV, int_bne, encX_len, encS_len, encD_len, c1, c2', c2'']; exact iZ); simp [Is]; (try dsimp only [putEnv]) <;> exact rfl; simp; exact iZ; simp; exact iZ)
 | (apply RT.callV; (iterate 2 simp; exact iZ); exact iZ; (iterate 3 simp [envOf, aG, pP, Y.cells_eq, dL, hco, nc, ni, hli, zt39, hG, hfo, fillV, int_bne, encX_len, encS_len, encD_len, c1, c2', c2'']; exact iZ); (try dsimp only [putEnv]) <;> exact rfl)
 | (apply RT.wr; simp [envOf, aG, pP, Y.cells_eq, dL, hco, nc, ni, hli, zt39, hG, hfo, fillV, int_bne, encX_len, encS_len, encD_len, c1, c2', c2'']; exact iZ; (try dsimp only [putEnv]) <;> exact rfl; simp [envOf, aG, pP, Y.cells_eq, dL, hco, nc, ni, hli, zt39, hG, hfo, fillV, int_bne, encX_len, encS_len, encD_len, c1, c2', c2'']; exact iZ; (iterate 2 exact iZ); simp; exact iZ))); exact RT.nil); (case hc => first | (refine checkR_un [(0, 4), (1, 4), (2, 4), (3, 4), (0, 5), (1, 5), (2, 5), (3, 5), (8, 9), (0, 10), (1, 10), (2, 10), (3, 10), (4, 10), (5, 10), (6, 10), (7, 10), (8, 10), (9, 10), (9, 11)] (by kernel_rfl) (by kernel_rfl) rfl ?_; simp [memA, disj, nbeq_dec, nc, ni]; done) | (show _ = _; kernel_rfl)); (case ht => simp [envOf, aG, pP, Y.cells_eq, dL, hco, nc, ni, hli, zt39, hG, hfo, fillV, int_bne, encX_len, encS_len, encD_len, c1, c2', c2'']; exact iZ))
 | apply WP.block | apply WP.skip | apply WP.exit | apply WP.ret | refine WP.condT rfl ?_ | refine WP.condF rfl ?_)
  exact ⟨.inr rfl, rfl, _, rfl, rfl⟩
 rw [if_neg (fun h => h.elim (fun h => h c1) (fun h => h c2))]
 repeat (first
 | apply WP.seq
 | (apply WP.reg; (case hR => dsimp only [prepL, prepO, List.map, gS, gZ]; exact iZ); (case hr => (repeat (first
 | (apply RT.op; simp [envOf, aG, pP, Y.cells_eq, dL, hco, nc, ni, hli, zt39, hG, hfo, fillV, int_bne, encX_len, encS_len, encD_len, c1, c2]; exact iZ; (try dsimp only [putEnv]) <;> exact rfl)
 | (apply RT.call; (iterate 2 simp; exact iZ); exact iZ; (iterate 4 simp [envOf, aG, pP, Y.cells_eq, dL, hco, nc, ni, hli, zt39, hG, hfo, fillV, int_bne, encX_len, encS_len, encD_len, c1, c2]; exact iZ); simp [Is]; (try dsimp only [putEnv]) <;> exact rfl; simp; exact iZ; simp; exact iZ)
 | (apply RT.callV; (iterate 2 simp; exact iZ); exact iZ; (iterate 3 simp [envOf, aG, pP, Y.cells_eq, dL, hco, nc, ni, hli, zt39, hG, hfo, fillV, int_bne, encX_len, encS_len, encD_len, c1, c2]; exact iZ); (try dsimp only [putEnv]) <;> exact rfl)
 | (apply RT.wr; simp [envOf, aG, pP, Y.cells_eq, dL, hco, nc, ni, hli, zt39, hG, hfo, fillV, int_bne, encX_len, encS_len, encD_len, c1, c2]; exact iZ; (try dsimp only [putEnv]) <;> exact rfl; simp [envOf, aG, pP, Y.cells_eq, dL, hco, nc, ni, hli, zt39, hG, hfo, fillV, int_bne, encX_len, encS_len, encD_len, c1, c2]; exact iZ; (iterate 2 exact iZ); simp; exact iZ))); exact RT.nil); (case hc => first | (refine checkR_un [(0, 4), (1, 4), (2, 4), (3, 4), (0, 5), (1, 5), (2, 5), (3, 5), (8, 9), (0, 10), (1, 10), (2, 10), (3, 10), (4, 10), (5, 10), (6, 10), (7, 10), (8, 10), (9, 10), (9, 11)] (by kernel_rfl) (by kernel_rfl) rfl ?_; simp [memA, disj, nbeq_dec, nc, ni]; done) | (show _ = _; kernel_rfl)); (case ht => simp [envOf, aG, pP, Y.cells_eq, dL, hco, nc, ni, hli, zt39, hG, hfo, fillV, int_bne, encX_len, encS_len, encD_len, c1, c2]; exact iZ))
 | apply WP.block | apply WP.skip | apply WP.exit | apply WP.ret | refine WP.condT rfl ?_ | refine WP.condF rfl ?_)
 apply WP.loop' (I := fun D s => ∃ (j c' : Nat) (hp' : Hp), j + D = y.args.length ∧ argsW w (y.args.drop j) (g.inn.drop j) = argsW w y.args g.inn ∧ Ag n hp hp' ∧ hp'.get n = some ⟨cc, false, y.cells.map .d⟩ ∧ hp'.get (n + 1) = some ⟨cc + 1, false, [V.d (.slice (encP cx)), V.d (.slice (encB bl))]⟩ ∧ hp'.get (n + 2) = some ⟨cc + 2, false, g.cells.map .d⟩ ∧
  s = ⟨[(0, .ptr ic gc 0), (4, .ptr n cc 0), (5, .ptr (n + 1) (cc + 1) 0), (7, .ptr (n + 2) (cc + 2) 0), (45, dL (encX y.args)), (46, dI y.args.length), (47, dI j)], hp', n + 3, c', n, []⟩) (d := y.args.length)
 ·exact ⟨0, _, _, by simp, by simp, by simp, by simp [Y.cells_eq], by simp, by simp [Cl.cells], st_eq (by simp [dI, dL, c1]) rfl⟩
 rintro D _ ⟨j, c', hp', hj, hv, hag, hy0, hx1, hx2, rfl⟩
 have hagt := eq_true hag
 rw [Y.cells_eq] at hy0
 simp only [Cl.cells, List.map_cons, List.map_nil] at hy0 hx2
 refine wkv (jn @dI.eq_1 @dL.eq_1) ?_
 show WP _ _ _ _ _ _
 refine WP.cond _ rfl (fun hb => ?_) (fun hb => ?_)
 ·simp at hb
  have hb' : j < y.args.length := by omega
  have hb2 : j < g.inn.length := by omega
  obtain ⟨x, hx, hxm, hix⟩ := at_lt hb'
  obtain ⟨d, hd, hdm, hid⟩ := at_lt hb2
  have hx' := encX_at hx
  have hd' := encD_at hd
  have hwj := w_succ hb' (by omega)
  have hxok := (okX_iff _).1 hok x hxm
  obtain ⟨F, G, hr⟩ := (expr153 (ic := ic) (gc := gc) (iv := iv) (gv := gv) (ip := ip) (gp := gp) (im := im) (gm := gm) (ii := ii) (gi := gi) (ea := ea) hW cx bl hB x (by have := mem_szX hxm; unfold MX; omega) hxok).fn hK
  rw [hw] at hr
  simp only [aG, pP, X.cells_eq, List.map_cons, List.map_nil, dI] at hr
  rw [drop_at hx, drop_at hd, argsW] at hv
  by_cases hz : (exprW w x).2 = 0
  case neg =>
   have hz' := eq_false hz
   have ha : argE w x d = (exprW w x).2 := by unfold argE; rw [if_pos hz]
   rw [ha, if_pos hz] at hv
   rw [← hv, if_pos hz]
   refine wkcv (jn @dI.eq_1 (jn @dL.eq_1 (jn @hy0 (jn @hx1 (jn @hx2 (jn @hagt (jn @hix (jn @hx' (jn @X.cells_eq (jn @hr (jn @int_bne (jn @hz' (jn @fillV.eq_1 @fillV.eq_2))))))))))))) ?_
   exact ⟨.inr rfl, rfl, _, rfl, rfl⟩
  rw [hz, exprT_ok hz] at hr
  by_cases ht : (exprW w x).1 = d.t
  case neg =>
   have ht' := eq_false ht
   have ha : argE w x d = 10 := by unfold argE; rw [if_neg (by simp [hz]), if_pos ht]
   rw [ha, if_pos (by decide)] at hv
   rw [← hv, if_pos (by decide)]
   refine wkcv (jn @dI.eq_1 (jn @dL.eq_1 (jn @hy0 (jn @hx1 (jn @hx2 (jn @hagt (jn @encX_len (jn @encD_len (jn @hix (jn @hid (jn @hx' (jn @hd' (jn @X.cells_eq (jn @Dc.cells.eq_1 (jn @hr (jn @int_bne (jn @ht' (jn @fillV.eq_1 @fillV.eq_2)))))))))))))))))) ?_
   exact ⟨.inr rfl, rfl, _, rfl, rfl⟩
  have ha : argE w x d = 0 := by unfold argE; rw [if_neg (by simp [hz]), if_neg (by simp [ht])]
  rw [ha, if_neg (by decide)] at hv
  have ht' := eq_true ht
  refine wkcv (jn @dI.eq_1 (jn @dL.eq_1 (jn @hy0 (jn @hx1 (jn @hx2 (jn @hagt (jn @encX_len (jn @encD_len (jn @hix (jn @hid (jn @hx' (jn @hd' (jn @X.cells_eq (jn @Dc.cells.eq_1 (jn @hr (jn @int_bne (jn @ht' (jn @fillV.eq_1 @fillV.eq_2)))))))))))))))))) ?_
  refine loop_next (by simp [hwj]; exact Is.rfl) ?_
  exact ⟨D - 1, by omega, j + 1, _, _, by omega, hv, by simp [hag], by simp [hy0, Y.cells_eq], by simp [hx1], by simp [hx2, Cl.cells], st_eq (by simp [dI, dL, hwj]) rfl⟩
 ·simp at hb
  have hje : j = y.args.length := by omega
  rw [hje, List.drop_length, argsW_nil] at hv
  rw [← hv, if_neg (by decide)]
  refine wkcv (jn @dI.eq_1 (jn @dL.eq_1 (jn @hy0 (jn @hx1 (jn @hx2 @hagt))))) ?_
  apply WP.loop' (I := fun D s => ∃ (j c' : Nat) (hp' : Hp), j + D = y.outs.length ∧ outsW w (y.outs.take j) (y.outs.drop j) (g.out.drop j) = outsW w [] y.outs g.out ∧ Ag n hp hp' ∧ hp'.get n = some ⟨cc, false, y.cells.map .d⟩ ∧ hp'.get (n + 1) = some ⟨cc + 1, false, [V.d (.slice (encP cx)), V.d (.slice (encB bl))]⟩ ∧ hp'.get (n + 2) = some ⟨cc + 2, false, g.cells.map .d⟩ ∧
   s = ⟨[(0, .ptr ic gc 0), (4, .ptr n cc 0), (5, .ptr (n + 1) (cc + 1) 0), (7, .ptr (n + 2) (cc + 2) 0), (72, dL (encS y.outs)), (73, dI y.outs.length), (74, dI j)], hp', n + 3, c', n, []⟩) (d := y.outs.length)
  ·exact ⟨0, _, _, by simp, by simp, hag, by simp [hy0, Y.cells_eq], hx1, by simp [hx2, Cl.cells], st_eq (by simp [dI, dL]) rfl⟩
  clear hv hj hje hb hy0 hx1 hx2 hagt hag hp'
  rintro D2 _ ⟨j, c2, hp', hj, hv, hag, hy0, hx1, hx2, rfl⟩
  have hagt := eq_true hag
  rw [Y.cells_eq] at hy0
  simp only [Cl.cells, List.map_cons, List.map_nil] at hy0 hx2
  refine wkv (jn @dI.eq_1 @dL.eq_1) ?_
  show WP _ _ _ _ _ _
  refine WP.cond _ rfl (fun hb => ?_) (fun hb => ?_)
  ·simp at hb
   have hb' : j < y.outs.length := by omega
   have hb2 : j < g.out.length := by omega
   obtain ⟨x, hx, hxm, hix⟩ := at_lt hb'
   obtain ⟨d, hd, hdm, hid⟩ := at_lt hb2
   have hx' := encS_at hx
   have hd' := encD_at hd
   have hwj := w_succ hb' (by omega)
   have h75 := contains155 (y.outs.take j) x (by unfold MX; rw [List.length_take]; omega)
   obtain ⟨F, G, ht⟩ := (target154 (ic := ic) (gc := gc) (iv := iv) (gv := gv) (ip := ip) (gp := gp) (im := im) (gm := gm) (ii := ii) (gi := gi) (ea := ea) hW cx bl hB x (decide (x ∈ y.outs.take j)) d.t).fn hK
   rw [hw, tgtP_out] at ht
   simp only [dL, dS, dB, dI, pP] at h75 ht
   rw [drop_at hx, drop_at hd, outsW] at hv
   have htk := take_snoc hx
   rw [← htk] at hv
   have hsl := fun look e b z => slice_rows look e b z (encS_row y.outs) (j := j) (by rw [encS_len]; omega)
   have etk := encS_take y.outs j
   by_cases hz : outE w (y.outs.take j) x d = 0
   case neg =>
    have hz' := eq_false hz
    rw [if_pos hz] at hv
    rw [← hv]
    refine wkcv (jn @dI.eq_1 (jn @dL.eq_1 (jn @hy0 (jn @hx1 (jn @hx2 (jn @hagt (jn @encS_len (jn @encD_len (jn @hix (jn @hid (jn @hx' (jn @hd' (jn @Dc.cells.eq_1 (jn @hsl (jn @etk (jn @h75 (jn @ht (jn @int_bne @hz')))))))))))))))))) ?_
    exact ⟨.inr rfl, rfl, _, rfl, rfl⟩
   rw [if_neg (by simp [hz])] at hv
   rw [hz] at ht
   refine wkcv (jn @dI.eq_1 (jn @dL.eq_1 (jn @hy0 (jn @hx1 (jn @hx2 (jn @hagt (jn @encS_len (jn @encD_len (jn @hix (jn @hid (jn @hx' (jn @hd' (jn @Dc.cells.eq_1 (jn @hsl (jn @etk (jn @h75 (jn @ht @int_bne))))))))))))))))) ?_
   refine loop_next (by simp [hwj]; exact Is.rfl) ?_
   exact ⟨D2 - 1, by omega, j + 1, _, _, by omega, hv, by simp [hag], by simp [hy0, Y.cells_eq], by simp [hx1], by simp [hx2, Cl.cells], st_eq (by simp [dI, dL, hwj]) rfl⟩
  ·simp at hb
   have hje : j = y.outs.length := by omega
   rw [hje, List.drop_length, outsW_nil] at hv
   rw [← hv]
   refine wkcv (jn @dI.eq_1 @dL.eq_1) ?_
   exact ⟨.inr rfl, rfl, _, rfl, rfl⟩
end
end Go.Ac
end

section
namespace Go.Ac
theorem wknv {L : Prop} (hl : L) {G G' : Prop} (k : G') (h : Wk L G G' := by
 intro hl hk
 repeat (first
 | apply WP.seq
 | (apply WP.reg; (case hR => dsimp only [prepL, prepO, List.map, gS, gZ]; exact iZ); (case hr => (repeat (first
 | (apply RT.op; simp [hl]; exact iZ; (try dsimp only [putEnv]) <;> exact rfl)
 | (apply RT.call; (iterate 2 simp; exact iZ); exact iZ; (iterate 4 simp [hl]; exact iZ); simp [Is]; (try dsimp only [putEnv]) <;> exact rfl; simp; exact iZ; simp; exact iZ)
 | (apply RT.clone; (iterate 2 simp; exact iZ); exact iZ; (iterate 2 simp [hl]; exact iZ); (first | assumption | (simp [fitsB]; omega)); (try dsimp only [putEnv]) <;> exact rfl; simp [hl]; exact iZ; simp; exact iZ)
 | (apply RT.callV; (iterate 2 simp; exact iZ); exact iZ; (iterate 3 simp [hl]; exact iZ); (try dsimp only [putEnv]) <;> exact rfl)
 | (apply RT.wr; simp [hl]; exact iZ; (try dsimp only [putEnv]) <;> exact rfl; simp [hl]; exact iZ; (iterate 2 exact iZ); simp; exact iZ))); exact RT.nil); (case hc => (show _ = _; kernel_rfl)); (case ht => simp [hl]; exact iZ))
 | apply WP.block | apply WP.skip | apply WP.exit | apply WP.ret)
 exact hk.out) : G := h hl ⟨k⟩
theorem wkitv {L : Prop} (hl : L) {G G' : Prop} (k : G') (h : Wk L G G' := by
 intro hl hk
 repeat (first
 | apply WP.seq
 | (apply WP.reg; (case hR => dsimp only [prepL, prepO, List.map, gS, gZ]; exact iZ); (case hr => (repeat (first
 | (apply RT.op; simp [hl]; exact iZ; (try dsimp only [putEnv]) <;> exact rfl)
 | (apply RT.call; (iterate 2 simp; exact iZ); exact iZ; (iterate 4 simp [hl]; exact iZ); simp [Is]; (try dsimp only [putEnv]) <;> exact rfl; simp; exact iZ; simp; exact iZ)
 | (apply RT.callV; (iterate 2 simp; exact iZ); exact iZ; (iterate 3 simp [hl]; exact iZ); (try dsimp only [putEnv]) <;> exact rfl)
 | (apply RT.callI (hd := hI1) (hne := hI2) (hw := hI3) (hwr := hI4); (iterate 2 simp; exact iZ); exact iZ; (iterate 2 simp [hl]; exact iZ); (try dsimp only [putEnv]) <;> exact rfl; (first | omega | simp))
 | (apply RT.callT (hd := hT1) (hk := hT2); (iterate 2 simp; exact iZ); exact iZ; (iterate 2 simp [hl]; exact iZ); (try dsimp only [putEnv]) <;> exact rfl)
 | (apply RT.wr; simp [hl]; exact iZ; (try dsimp only [putEnv]) <;> exact rfl; simp [hl]; exact iZ; (iterate 2 exact iZ); simp; exact iZ))); exact RT.nil); (case hc => (show _ = _; kernel_rfl)); (case ht => simp [hl]; exact iZ))
 | apply WP.block | apply WP.skip | apply WP.exit | apply WP.ret)
 exact hk.out) : G := h hl ⟨k⟩
theorem wkcnv {L : Prop} (hl : L) {G G' : Prop} (k : G') (h : Wk L G G' := by
 intro hl hk
 repeat (first
 | apply WP.seq
 | (apply WP.reg; (case hR => dsimp only [prepL, prepO, List.map, gS, gZ]; exact iZ); (case hr => (repeat (first
 | (apply RT.op; simp [hl]; exact iZ; (try dsimp only [putEnv]) <;> exact rfl)
 | (apply RT.call; (iterate 2 simp; exact iZ); exact iZ; (iterate 4 simp [hl]; exact iZ); simp [Is]; (try dsimp only [putEnv]) <;> exact rfl; simp; exact iZ; simp; exact iZ)
 | (apply RT.clone; (iterate 2 simp; exact iZ); exact iZ; (iterate 2 simp [hl]; exact iZ); (first | assumption | (simp [fitsB]; omega)); (try dsimp only [putEnv]) <;> exact rfl; simp [hl]; exact iZ; simp; exact iZ)
 | (apply RT.callV; (iterate 2 simp; exact iZ); exact iZ; (iterate 3 simp [hl]; exact iZ); (try dsimp only [putEnv]) <;> exact rfl)
 | (apply RT.wr; simp [hl]; exact iZ; (try dsimp only [putEnv]) <;> exact rfl; simp [hl]; exact iZ; (iterate 2 exact iZ); simp; exact iZ))); exact RT.nil); (case hc => (show _ = _; kernel_rfl)); (case ht => simp [hl]; exact iZ))
 | apply WP.block | apply WP.skip | apply WP.exit | apply WP.ret | refine WP.condT rfl ?_ | refine WP.condF rfl ?_)
 exact hk.out) : G := h hl ⟨k⟩
theorem wkcitv {L : Prop} (hl : L) {G G' : Prop} (k : G') (h : Wk L G G' := by
 intro hl hk
 repeat (first
 | apply WP.seq
 | (apply WP.reg; (case hR => dsimp only [prepL, prepO, List.map, gS, gZ]; exact iZ); (case hr => (repeat (first
 | (apply RT.op; simp [hl]; exact iZ; (try dsimp only [putEnv]) <;> exact rfl)
 | (apply RT.call; (iterate 2 simp; exact iZ); exact iZ; (iterate 4 simp [hl]; exact iZ); simp [Is]; (try dsimp only [putEnv]) <;> exact rfl; simp; exact iZ; simp; exact iZ)
 | (apply RT.callV; (iterate 2 simp; exact iZ); exact iZ; (iterate 3 simp [hl]; exact iZ); (try dsimp only [putEnv]) <;> exact rfl)
 | (apply RT.callI (hd := hI1) (hne := hI2) (hw := hI3) (hwr := hI4); (iterate 2 simp; exact iZ); exact iZ; (iterate 2 simp [hl]; exact iZ); (try dsimp only [putEnv]) <;> exact rfl; (first | omega | simp))
 | (apply RT.callT (hd := hT1) (hk := hT2); (iterate 2 simp; exact iZ); exact iZ; (iterate 2 simp [hl]; exact iZ); (try dsimp only [putEnv]) <;> exact rfl)
 | (apply RT.wr; simp [hl]; exact iZ; (try dsimp only [putEnv]) <;> exact rfl; simp [hl]; exact iZ; (iterate 2 exact iZ); simp; exact iZ))); exact RT.nil); (case hc => (show _ = _; kernel_rfl)); (case ht => simp [hl]; exact iZ))
 | apply WP.block | apply WP.skip | apply WP.exit | apply WP.ret | refine WP.condT rfl ?_ | refine WP.condF rfl ?_)
 exact hk.out) : G := h hl ⟨k⟩
theorem wkekv {L : Prop} (hl : L) {G G' : Prop} (k : G') (h : Wk L G G' := by
 intro hl hk
 repeat (first
 | apply WP.seq
 | (apply WP.reg; (case hR => dsimp only [prepL, prepO, List.map, gS, gZ]; exact iZ); (case hr => (repeat (first
 | (apply RT.op; simp [hl, -addNew]; exact iZ; (try dsimp only [putEnv]) <;> exact rfl)
 | (apply RT.call; (iterate 2 simp; exact iZ); exact iZ; (iterate 4 simp [hl, -addNew]; exact iZ); simp [Is]; (try dsimp only [putEnv]) <;> exact rfl; simp; exact iZ; exact iZ)
 | (apply RT.callV; (iterate 2 simp; exact iZ); exact iZ; (iterate 3 simp [hl, -addNew]; exact iZ); (try dsimp only [putEnv]) <;> exact rfl)
 | (apply RT.wr; simp [hl, -addNew]; exact iZ; (try dsimp only [putEnv]) <;> exact rfl; simp [hl, -addNew]; exact iZ; (iterate 2 exact iZ); exact iZ))); exact RT.nil); (case hc => (show _ = _; kernel_rfl)); (case ht => simp [hl, -addNew]; exact iZ))
 | apply WP.block | apply WP.skip | apply WP.exit | apply WP.ret)
 exact hk.out) : G := h hl ⟨k⟩
theorem wkektv {L : Prop} (hl : L) {G G' : Prop} (k : G') (h : Wk L G G' := by
 intro hl hk
 repeat (first
 | apply WP.seq
 | (apply WP.reg; (case hR => dsimp only [prepL, prepO, List.map, gS, gZ]; exact iZ); (case hr => (repeat (first
 | (apply RT.op; simp [hl, -addNew]; exact iZ; (try dsimp only [putEnv]) <;> exact rfl)
 | (apply RT.call; (iterate 2 simp; exact iZ); exact iZ; (iterate 4 simp [hl, -addNew]; exact iZ); simp [Is]; (try dsimp only [putEnv]) <;> exact rfl; simp; exact iZ; exact iZ)
 | (apply RT.callV; (iterate 2 simp; exact iZ); exact iZ; (iterate 3 simp [hl, -addNew]; exact iZ); (try dsimp only [putEnv]) <;> exact rfl)
 | (apply RT.callT (hd := hT1) (hk := hT2); (iterate 2 simp; exact iZ); exact iZ; (iterate 2 simp [hl, -addNew]; exact iZ); (try dsimp only [putEnv]) <;> exact rfl)
 | (apply RT.wr; simp [hl, -addNew]; exact iZ; (try dsimp only [putEnv]) <;> exact rfl; simp [hl, -addNew]; exact iZ; (iterate 2 exact iZ); exact iZ))); exact RT.nil); (case hc => (show _ = _; kernel_rfl)); (case ht => simp [hl, -addNew]; exact iZ))
 | apply WP.block | apply WP.skip | apply WP.exit | apply WP.ret)
 exact hk.out) : G := h hl ⟨k⟩
theorem wkcekv {L : Prop} (hl : L) {G G' : Prop} (k : G') (h : Wk L G G' := by
 intro hl hk
 repeat (first
 | apply WP.seq
 | (apply WP.reg; (case hR => dsimp only [prepL, prepO, List.map, gS, gZ]; exact iZ); (case hr => (repeat (first
 | (apply RT.op; simp [hl, -addNew]; exact iZ; (try dsimp only [putEnv]) <;> exact rfl)
 | (apply RT.call; (iterate 2 simp; exact iZ); exact iZ; (iterate 4 simp [hl, -addNew]; exact iZ); simp [Is]; (try dsimp only [putEnv]) <;> exact rfl; simp; exact iZ; exact iZ)
 | (apply RT.callV; (iterate 2 simp; exact iZ); exact iZ; (iterate 3 simp [hl, -addNew]; exact iZ); (try dsimp only [putEnv]) <;> exact rfl)
 | (apply RT.wr; simp [hl, -addNew]; exact iZ; (try dsimp only [putEnv]) <;> exact rfl; simp [hl, -addNew]; exact iZ; (iterate 2 exact iZ); exact iZ))); exact RT.nil); (case hc => (show _ = _; kernel_rfl)); (case ht => simp [hl, -addNew]; exact iZ))
 | apply WP.block | apply WP.skip | apply WP.exit | apply WP.ret | refine WP.condT rfl ?_ | refine WP.condF rfl ?_)
 exact hk.out) : G := h hl ⟨k⟩
theorem wkcektv {L : Prop} (hl : L) {G G' : Prop} (k : G') (h : Wk L G G' := by
 intro hl hk
 repeat (first
 | apply WP.seq
 | (apply WP.reg; (case hR => dsimp only [prepL, prepO, List.map, gS, gZ]; exact iZ); (case hr => (repeat (first
 | (apply RT.op; simp [hl, -addNew]; exact iZ; (try dsimp only [putEnv]) <;> exact rfl)
 | (apply RT.call; (iterate 2 simp; exact iZ); exact iZ; (iterate 4 simp [hl, -addNew]; exact iZ); simp [Is]; (try dsimp only [putEnv]) <;> exact rfl; simp; exact iZ; exact iZ)
 | (apply RT.callV; (iterate 2 simp; exact iZ); exact iZ; (iterate 3 simp [hl, -addNew]; exact iZ); (try dsimp only [putEnv]) <;> exact rfl)
 | (apply RT.callT (hd := hT1) (hk := hT2); (iterate 2 simp; exact iZ); exact iZ; (iterate 2 simp [hl, -addNew]; exact iZ); (try dsimp only [putEnv]) <;> exact rfl)
 | (apply RT.wr; simp [hl, -addNew]; exact iZ; (try dsimp only [putEnv]) <;> exact rfl; simp [hl, -addNew]; exact iZ; (iterate 2 exact iZ); exact iZ))); exact RT.nil); (case hc => (show _ = _; kernel_rfl)); (case ht => simp [hl, -addNew]; exact iZ))
 | apply WP.block | apply WP.skip | apply WP.exit | apply WP.ret | refine WP.condT rfl ?_ | refine WP.condF rfl ?_)
 exact hk.out) : G := h hl ⟨k⟩
end Go.Ac
end

section
set_option maxRecDepth 4000
namespace Go.Ac
open Go.Proofs
attribute [local simp] Hp.get_set Ag_set Ag_refl Ag_trunc get_trunc_lt
theorem kf108 (r : Nat) : Ob.keep 108 r = Ob.k108 r := by kernel_rfl
theorem kf84 (r : Nat) : Ob.keep 84 r = Ob.k84 r := by kernel_rfl
theorem kf53 (r : Nat) : Ob.keep 53 r = Ob.k53 r := by kernel_rfl
attribute [local simp] kf108 Ob.k108 kf84 Ob.k84 kf53 Ob.k53
/-! ### Statements that are right have no case without branches -/
theorem nb_of {o : Oc} {c : Cl} (hpos : ∀ x, getT c x ≠ 0 → 0 < sizeE o.en (getT c x)) : ∀ (N : Nat), (∀ (l : List Y) cx bf, szY l < N → listW o c cx bf l = 0 → nbL l = true) := by
 intro N
 induction N with
 | zero => intro l cx bf h; omega
 | succ N ih =>
 intro l
 induction l with
 | nil => intro cx bf _ _; rw [nbL]
 | cons y r ihl =>
  intro cx bf hN h
  rw [listW] at h
  split at h
  ·rename_i hne; exact absurd h hne
  rename_i hz
  have hz : stmtW o c cx bf y = 0 := by simpa using hz
  rw [szY] at hN
  rw [nbL, ihl cx _ (by omega) h, Bool.and_true, nbY_eq]
  rw [stmtW_eq] at hz
  split at hz
  ·cases hz
  rename_i hfe
  have hfe : fieldsE y = true := by simpa using hfe
  by_cases k3 : y.k = 3
  ·rw [if_neg (by omega), if_neg (by omega), if_pos k3] at hz
   split at hz
   ·cases hz
   rename_i hg
   split at hz
   ·cases hz
   split at hz
   ·cases hz
   split at hz
   ·cases hz
   rename_i hlen
   have hp := hpos _ hg
   have hbne : y.brs ≠ [] := fun e => by rw [e] at hlen; simp at hlen; omega
   have hb : ∀ (brs : List (List Y)) k, szB brs < y.sz → brsW o c cx bf y.nm k brs = 0 → nbB brs = true := by
    intro brs
    induction brs with
    | nil => intro k _ _; rw [nbB]
    | cons b s ihb =>
     intro k hs h
     rw [brsW] at h
     split at h
     ·rename_i hne; exact absurd h hne
     rename_i hz
     have hz : listW o c (cx ++ [⟨y.nm, k⟩]) bf b = 0 := by simpa using hz
     rw [szB] at hs
     rw [nbB, ih b _ _ (by omega) hz, ihb _ (by omega) h]; rfl
   rw [hb _ _ (by rw [Y.sz_eq y]; omega) hz]
   simp [hbne]
  ·have hbr : y.brs = [] := by
    unfold fieldsE at hfe
    by_cases k12 : y.k = 1 ∨ y.k = 2
    ·rw [if_pos k12] at hfe; simp at hfe; exact hfe.2
    ·rw [if_neg k12, if_neg k3] at hfe
     by_cases k4 : y.k = 4
     ·rw [if_pos k4] at hfe; simp at hfe; exact hfe.2
     ·rw [if_neg k4] at hfe
      by_cases k5 : y.k = 5
      ·rw [if_pos k5] at hfe; simp at hfe; exact hfe.2
      ·rw [if_neg k5] at hfe; cases hfe
   rw [hbr, nbB]; simp [k3]
section
variable {ic gc iv gv ip gp im gm ii gi : Nat} {o : Oc} {ea : List Cl} {c : Cl}
/-- What list70 says. -/
def PListAt (ic gc iv gv ip gp im gm ii gi : Nat) (o : Oc) (ea : List Cl) (c : Cl) (N : Nat) : Prop := ∀ (l : List Y) (cx : List Pr) (bl : List (List Y)), szY l < N → bl.length ≤ cx.length → nbB bl = true → cx.length + szY bl.flatten + szY l ≤ 8388600 → okY l →
 QK ic gc iv gv ip gp im gm ii gi o ea c 53 [.ptr ic gc 0, dL (encY l), pP cx bl] (dI (listW o c cx bl.flatten l))
set_option maxHeartbeats 4000000 in
theorem cases134 {N : Nat} (ih : PListAt ic gc iv gv ip gp im gm ii gi o ea c N) (hW : KW o c) (cx : List Pr) (bl : List (List Y)) (hl : bl.length ≤ cx.length + 1) (hnb : nbB bl = true) (y : Y) (hN : y.sz < N + 1) (hbd : cx.length + szY bl.flatten + y.sz ≤ 8388600) (hok : y.ok) :
  QK ic gc iv gv ip gp im gm ii gi o ea c 108 [.ptr ic gc 0, aG y.cells, pP cx bl] (dI (casesW ⟨o, c, bl.flatten, cx⟩ y)) := by
 intro hp n cc hK
 obtain ⟨hy1, hy2, hy3, hy4⟩ := Y.ok_eq hok
 have hys := Y.sz_eq y
 have k1 := len_szB y.brs
 have hB : BOK cx bl := ⟨by unfold MX; omega, hnb, by omega⟩
 have hco := hK.co
 have nc := nf hK.lc
 have nv := nf hK.lv
 have hlv := fun (look : Look) (sz by_ : Nat) (zr : Option (List V)) (y : Tx) (h : look iv = hp.get iv) => hK.look_vars (look := look) (sz := sz) (by_ := by_) (zr := zr) (x := y) h
 have hsz := size39 o.en (getT c y.nm) (hW.i64 _)
 obtain ⟨F, G, hr⟩ := (ready151 (ic := ic) (gc := gc) (iv := iv) (gv := gv) (ip := ip) (gp := gp) (im := im) (gm := gm) (ii := ii) (gi := gi) (ea := ea) hW y.nm cx bl hB.len hB.nb hB.sz).fn hK
 simp only [dS, pP, dI, dL] at hr hsz
 refine quietV_wp Tryz.func108 rfl (by kernel_rfl) rfl (fun _ => rfl) ?_
 unfold casesW
 show WP _ _ _ _ _ (quietVQ _ _ _ (dI (if getT c y.nm = 0 then 6 else if readyW ⟨o, c, bl.flatten, cx⟩ y.nm = false then 22 else if y.t ≠ getT c y.nm ∨ getT c y.nm = 2 then 10 else if (y.brs.length : Int) ≠ sizeE o.en (getT c y.nm) then 9 else brsW o c cx bl.flatten y.nm 0 y.brs)))
 by_cases hz : getT c y.nm = 0
 ·rw [if_pos hz]
  refine wkcnv (jn @envOf.eq_1 (jn @envOf.eq_2 (jn @aG.eq_1 (jn @pP.eq_1 (jn @Y.cells_eq (jn @dL.eq_1 (jn @hco (jn @nc (jn @nv (jn @hlv (jn @zt3 @hz))))))))))) ?_
  exact ⟨.inr rfl, rfl, _, rfl, rfl⟩
 have hz' := eq_false hz
 rw [if_neg hz]
 cases hy : readyW ⟨o, c, bl.flatten, cx⟩ y.nm with
 | false =>
  rw [hy] at hr
  rw [if_pos rfl]
  refine wkcnv (jn @envOf.eq_1 (jn @envOf.eq_2 (jn @aG.eq_1 (jn @pP.eq_1 (jn @Y.cells_eq (jn @dL.eq_1 (jn @hco (jn @nc (jn @nv (jn @hlv (jn @zt3 (jn @hz' @hr)))))))))))) ?_
  exact ⟨.inr rfl, rfl, _, rfl, rfl⟩
 | true =>
 rw [hy] at hr
 rw [if_neg (by decide)]
 by_cases ht : y.t = getT c y.nm
 case neg =>
  have ht' : (getT c y.nm = y.t) = False := eq_false fun e => ht e.symm
  rw [if_pos (.inl ht)]
  refine wkcnv (jn @envOf.eq_1 (jn @envOf.eq_2 (jn @aG.eq_1 (jn @pP.eq_1 (jn @Y.cells_eq (jn @dL.eq_1 (jn @hco (jn @nc (jn @nv (jn @hlv (jn @zt3 (jn @hz' (jn @hr (jn @int_bne @ht')))))))))))))) ?_
  exact ⟨.inr rfl, rfl, _, rfl, rfl⟩
 have ht' : (getT c y.nm = y.t) = True := eq_true ht.symm
 by_cases h2 : getT c y.nm = 2
 ·rw [if_pos (.inr h2)]
  have h2y : y.t = 2 := ht.trans h2
  refine wkcnv (jn @envOf.eq_1 (jn @envOf.eq_2 (jn @aG.eq_1 (jn @pP.eq_1 (jn @Y.cells_eq (jn @dL.eq_1 (jn @hco (jn @nc (jn @nv (jn @hlv (jn @zt3 (jn @hr (jn @h2 @h2y))))))))))))) ?_
  exact ⟨.inr rfl, rfl, _, rfl, rfl⟩
 have h2' := eq_false h2
 have h2y : (y.t = 2) = False := eq_false (by rw [ht]; exact h2)
 rw [if_neg (fun h => h.elim (fun h => h ht) h2)]
 by_cases hs : (y.brs.length : Int) = sizeE o.en (getT c y.nm)
 case neg =>
  have hs' := eq_false hs
  rw [if_pos hs]
  refine wkcnv (jn @envOf.eq_1 (jn @envOf.eq_2 (jn @aG.eq_1 (jn @pP.eq_1 (jn @Y.cells_eq (jn @dL.eq_1 (jn @hco (jn @nc (jn @nv (jn @hlv (jn @zt3 (jn @hz' (jn @hr (jn @int_bne (jn @int_beq (jn @ht (jn @h2' (jn @hsz (jn @hs' @encB_len))))))))))))))))))) ?_
  exact ⟨.inr rfl, rfl, _, rfl, rfl⟩
 have hs' := eq_true hs
 rw [if_neg (by simp [hs])]
 refine wkcnv (jn @envOf.eq_1 (jn @envOf.eq_2 (jn @aG.eq_1 (jn @pP.eq_1 (jn @Y.cells_eq (jn @dL.eq_1 (jn @hco (jn @nc (jn @nv (jn @hlv (jn @zt3 (jn @hz' (jn @hr (jn @int_bne (jn @int_beq (jn @ht (jn @h2' (jn @hsz (jn @hs' @encB_len))))))))))))))))))) ?_
 apply WP.loop' (I := fun D s => ∃ (j c' : Nat) (hp' : Hp), j + D = y.brs.length ∧ brsW o c cx bl.flatten y.nm j (y.brs.drop j) = brsW o c cx bl.flatten y.nm 0 y.brs ∧ Ag n hp hp' ∧ hp'.get n = some ⟨cc, false, y.cells.map .d⟩ ∧ hp'.get (n + 1) = some ⟨cc + 1, false, [V.d (.slice (encP cx)), V.d (.slice (encB bl))]⟩ ∧
  s = ⟨[(0, .ptr ic gc 0), (4, .ptr n cc 0), (5, .ptr (n + 1) (cc + 1) 0), (52, dL (encB y.brs)), (53, dI y.brs.length), (54, dI j)], hp', n + 2, c', n, []⟩) (d := y.brs.length)
 ·exact ⟨0, _, _, by simp, by simp, by simp, by simp [Y.cells_eq, ht], by simp, st_eq (by simp [dI, dL]) rfl⟩
 rintro D _ ⟨j, c', hp', hj, hv, hag, hy0, hx1, rfl⟩
 have hagt := eq_true hag
 rw [Y.cells_eq] at hy0
 simp only [List.map_cons, List.map_nil] at hy0
 refine wknv (jn @dI.eq_1 @dL.eq_1) ?_
 show WP _ _ _ _ _ _
 refine WP.cond _ rfl (fun hb => ?_) (fun hb => ?_)
 ·simp at hb
  have hb' : j < y.brs.length := by omega
  obtain ⟨b, hb1, hbm, hib⟩ := at_lt hb'
  have hb2 := encB_at hb1
  have hwj := w_succ hb' (by omega)
  have hbs := mem_szB hbm
  obtain ⟨F, G, hr⟩ := (ih b (cx ++ [⟨y.nm, j⟩]) bl (by omega) (by simp; omega) hnb (by simp; omega) ((okB_iff _).1 hy4 b hbm)).fn hK
  rw [drop_at hb1, brsW] at hv
  have r1 := fun look => rows_fl look (encP_row cx)
  have f1 : fitsB cx.length 24 = true := by simp [fitsB]; omega
  rw [encP_len] at r1
  have r2 := fl_len (encP_row cx)
  have r3 := fl_take (encP_row cx)
  have r4 := fl_snoc (encP cx) (Pr.cells ⟨y.nm, j⟩)
  have r5 := encP_snoc cx ⟨y.nm, j⟩
  have r6 := fl_len (encP_row (cx ++ [⟨y.nm, j⟩]))
  have r7 := fl_take (encP_row (cx ++ [⟨y.nm, j⟩]))
  have r8 := chunk_flat (encP_row (cx ++ [⟨y.nm, j⟩]))
  have f2 : fitsB (cx.length + 1) 24 = true := by simp [fitsB]; omega
  rw [r5] at r4
  rw [encP_len] at r2 r3
  simp only [encP_len, List.length_append, List.length_cons, List.length_nil, Nat.zero_add] at r6 r7 r8
  simp only [Pr.cells, List.map_cons, List.map_nil] at r4
  simp only [pP, dI, dL] at hr
  by_cases hz : listW o c (cx ++ [⟨y.nm, j⟩]) bl.flatten b = 0
  case neg =>
   have hz' := eq_false hz
   rw [if_pos hz] at hv
   rw [← hv]
   repeat (first
 | apply WP.seq
 | (apply WP.reg; (case hR => dsimp only [prepL, prepO, List.map, gS, gZ]; exact iZ); (case hr => (repeat (first
 | (apply RT.op; simp [dI, dL, hy0, hx1, hagt, hib, hb2, r1, f1, f2, r2, r3, r4, r6, r7, r8, fillV, toD_dep, toD_d, toDs_fl, nble_d, hr, closeParts, cl2, int_bne, hz']; exact iZ; (try dsimp only [putEnv]) <;> exact rfl)
 | (apply RT.call; (iterate 2 simp; exact iZ); exact iZ; (iterate 4 simp [dI, dL, hy0, hx1, hagt, hib, hb2, r1, f1, f2, r2, r3, r4, r6, r7, r8, fillV, toD_dep, toD_d, toDs_fl, nble_d, hr, closeParts, cl2, int_bne, hz']; exact iZ); simp [Is]; (try dsimp only [putEnv]) <;> exact rfl; simp; exact iZ; simp; exact iZ)
 | (apply RT.clone; (iterate 2 simp; exact iZ); exact iZ; (iterate 2 simp [dI, dL, hy0, hx1, hagt, hib, hb2, r1, f1, f2, r2, r3, r4, r6, r7, r8, fillV, toD_dep, toD_d, toDs_fl, nble_d, hr, closeParts, cl2, int_bne, hz']; exact iZ); (first | assumption | (simp [fitsB]; omega)); (try dsimp only [putEnv]) <;> exact rfl; simp [dI, dL, hy0, hx1, hagt, hib, hb2, r1, f1, f2, r2, r3, r4, r6, r7, r8, fillV, toD_dep, toD_d, toDs_fl, nble_d, hr, closeParts, cl2, int_bne, hz']; exact iZ; simp; exact iZ)
 | (apply RT.callV; (iterate 2 simp; exact iZ); exact iZ; (iterate 3 simp [dI, dL, hy0, hx1, hagt, hib, hb2, r1, f1, f2, r2, r3, r4, r6, r7, r8, fillV, toD_dep, toD_d, toDs_fl, nble_d, hr, closeParts, cl2, int_bne, hz']; exact iZ); (try dsimp only [putEnv]) <;> exact rfl)
 | (apply RT.wr; simp [dI, dL, hy0, hx1, hagt, hib, hb2, r1, f1, f2, r2, r3, r4, r6, r7, r8, fillV, toD_dep, toD_d, toDs_fl, nble_d, hr, closeParts, cl2, int_bne, hz']; exact iZ; (try dsimp only [putEnv]) <;> exact rfl; simp [dI, dL, hy0, hx1, hagt, hib, hb2, r1, f1, f2, r2, r3, r4, r6, r7, r8, fillV, toD_dep, toD_d, toDs_fl, nble_d, hr, closeParts, cl2, int_bne, hz']; exact iZ; (iterate 2 exact iZ); simp; exact iZ))); exact RT.nil); (case hc => first | (refine checkR_un [(0, 1), (0, 2), (1, 2), (0, 3), (1, 3), (0, 4), (1, 4), (0, 5), (1, 5), (2, 5), (3, 5), (4, 5), (0, 6), (1, 6), (2, 6), (3, 6), (4, 6), (0, 7), (1, 7), (2, 7), (3, 7), (4, 7), (5, 7), (6, 7), (0, 8), (1, 8), (2, 8), (3, 8), (4, 8), (0, 9), (1, 9), (2, 9), (3, 9), (4, 9), (0, 10), (1, 10), (0, 11), (1, 11), (2, 11), (3, 11), (4, 11), (5, 11), (6, 11), (7, 11), (8, 11), (9, 11), (10, 11), (0, 12), (1, 12), (2, 12), (3, 12), (4, 12), (5, 12), (6, 12), (7, 12), (8, 12), (9, 12), (10, 12), (0, 13), (1, 13)] (by kernel_rfl) (by kernel_rfl) rfl ?_; simp [memA, disj, nbeq_dec, nc]; done) | (show _ = _; kernel_rfl)); (case ht => simp [dI, dL, hy0, hx1, hagt, hib, hb2, r1, f1, f2, r2, r3, r4, r6, r7, r8, fillV, toD_dep, toD_d, toDs_fl, nble_d, hr, closeParts, cl2, int_bne, hz']; exact iZ))
 | apply WP.block | apply WP.skip | apply WP.exit | apply WP.ret | refine WP.condT rfl ?_ | refine WP.condF rfl ?_)
   exact ⟨.inr rfl, rfl, _, rfl, rfl⟩
  rw [if_neg (by simp [hz])] at hv
  rw [hz] at hr
  repeat (first
 | apply WP.seq
 | (apply WP.reg; (case hR => dsimp only [prepL, prepO, List.map, gS, gZ]; exact iZ); (case hr => (repeat (first
 | (apply RT.op; simp [dI, dL, hy0, hx1, hagt, hib, hb2, r1, f1, f2, r2, r3, r4, r6, r7, r8, fillV, toD_dep, toD_d, toDs_fl, nble_d, hr, closeParts, cl2, int_bne]; exact iZ; (try dsimp only [putEnv]) <;> exact rfl)
 | (apply RT.call; (iterate 2 simp; exact iZ); exact iZ; (iterate 4 simp [dI, dL, hy0, hx1, hagt, hib, hb2, r1, f1, f2, r2, r3, r4, r6, r7, r8, fillV, toD_dep, toD_d, toDs_fl, nble_d, hr, closeParts, cl2, int_bne]; exact iZ); simp [Is]; (try dsimp only [putEnv]) <;> exact rfl; simp; exact iZ; simp; exact iZ)
 | (apply RT.clone; (iterate 2 simp; exact iZ); exact iZ; (iterate 2 simp [dI, dL, hy0, hx1, hagt, hib, hb2, r1, f1, f2, r2, r3, r4, r6, r7, r8, fillV, toD_dep, toD_d, toDs_fl, nble_d, hr, closeParts, cl2, int_bne]; exact iZ); (first | assumption | (simp [fitsB]; omega)); (try dsimp only [putEnv]) <;> exact rfl; simp [dI, dL, hy0, hx1, hagt, hib, hb2, r1, f1, f2, r2, r3, r4, r6, r7, r8, fillV, toD_dep, toD_d, toDs_fl, nble_d, hr, closeParts, cl2, int_bne]; exact iZ; simp; exact iZ)
 | (apply RT.callV; (iterate 2 simp; exact iZ); exact iZ; (iterate 3 simp [dI, dL, hy0, hx1, hagt, hib, hb2, r1, f1, f2, r2, r3, r4, r6, r7, r8, fillV, toD_dep, toD_d, toDs_fl, nble_d, hr, closeParts, cl2, int_bne]; exact iZ); (try dsimp only [putEnv]) <;> exact rfl)
 | (apply RT.wr; simp [dI, dL, hy0, hx1, hagt, hib, hb2, r1, f1, f2, r2, r3, r4, r6, r7, r8, fillV, toD_dep, toD_d, toDs_fl, nble_d, hr, closeParts, cl2, int_bne]; exact iZ; (try dsimp only [putEnv]) <;> exact rfl; simp [dI, dL, hy0, hx1, hagt, hib, hb2, r1, f1, f2, r2, r3, r4, r6, r7, r8, fillV, toD_dep, toD_d, toDs_fl, nble_d, hr, closeParts, cl2, int_bne]; exact iZ; (iterate 2 exact iZ); simp; exact iZ))); exact RT.nil); (case hc => first | (refine checkR_un [(0, 1), (0, 2), (1, 2), (0, 3), (1, 3), (0, 4), (1, 4), (0, 5), (1, 5), (2, 5), (3, 5), (4, 5), (0, 6), (1, 6), (2, 6), (3, 6), (4, 6), (0, 7), (1, 7), (2, 7), (3, 7), (4, 7), (5, 7), (6, 7), (0, 8), (1, 8), (2, 8), (3, 8), (4, 8), (0, 9), (1, 9), (2, 9), (3, 9), (4, 9), (0, 10), (1, 10), (0, 11), (1, 11), (2, 11), (3, 11), (4, 11), (5, 11), (6, 11), (7, 11), (8, 11), (9, 11), (10, 11), (0, 12), (1, 12), (2, 12), (3, 12), (4, 12), (5, 12), (6, 12), (7, 12), (8, 12), (9, 12), (10, 12), (0, 13), (1, 13)] (by kernel_rfl) (by kernel_rfl) rfl ?_; simp [memA, disj, nbeq_dec, nc]; done) | (show _ = _; kernel_rfl)); (case ht => simp [dI, dL, hy0, hx1, hagt, hib, hb2, r1, f1, f2, r2, r3, r4, r6, r7, r8, fillV, toD_dep, toD_d, toDs_fl, nble_d, hr, closeParts, cl2, int_bne]; exact iZ))
 | apply WP.block | apply WP.skip | apply WP.exit | apply WP.ret | refine WP.condT rfl ?_ | refine WP.condF rfl ?_)
  refine loop_next (by simp [hwj]; exact Is.rfl) ?_
  exact ⟨D - 1, by omega, j + 1, _, _, by omega, hv, by simp [hag], by simp [hy0, Y.cells_eq], by simp [hx1], st_eq (by simp [dI, dL, hwj]) rfl⟩
 ·simp at hb
  have hje : j = y.brs.length := by omega
  rw [hje, List.drop_length, brsW] at hv
  rw [← hv]
  refine wkcnv (jn @dI.eq_1 @dL.eq_1) ?_
  exact ⟨.inr rfl, rfl, _, rfl, rfl⟩
end
end Go.Ac
end
