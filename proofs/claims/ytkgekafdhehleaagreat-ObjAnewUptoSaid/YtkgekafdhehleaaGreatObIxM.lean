/- Look-ups of classes by name, the program's. -/
import Derived.Test.YtkgekafdhehleaaGreatObPnM
set_option linter.unusedVariables false
set_option linter.unusedSimpArgs false
section
set_option maxRecDepth 4000
namespace Go.Ac
open Go.Proofs
attribute [local simp] Hp.get_set Ag_set Ag_refl Ag_trunc get_trunc_lt
theorem kf107 (r : Nat) : Ob.keep 107 r = Ob.k107 r := by kernel_rfl
attribute [local simp] kf107 Ob.k107
theorem quietC_wp {f : FuncId} {fn : Func} {body : Code} {vs : List V} {v : V} {hp : Hp} {n c : Nat} (hf : Tryz.prog.funcs[f]? = some fn) (hb : fn.body = some body) (hok : (Nat.ble vs.length fn.ntmps && codeOK fn.ntmps body) = true)
  (hthr : Ob.cfg.thr f = false) (h : WP Tryz.prog Ob.cfg f body ⟨envOf 0 vs, hp, n, c, n, []⟩ (fun e t => (e = .normal ∨ e = .ret) ∧ t.wl = [] ∧ ∃ rs ids, resultsV Tryz.prog t fn.results.toList = some rs ∧ closeT t.hp.get (tup rs) = some (v, ids) ∧ (v.flat || ids.all (fun i => Nat.ble n i)) = true)) : QuietV Tryz.prog Ob.cfg f vs hp n c v := by
 obtain ⟨w, t, h1, h2⟩ := lim_wpD (Q := fun w t => w = v ∧ t.wl = []) hf hb hok hthr (h.mono fun e t ⟨he, hwl, rs, ids, a1, a2, a3⟩ => ⟨he, rs, v, ids, a1, a2, a3, rfl, hwl⟩)
 obtain ⟨rfl, hwl⟩ := h2
 rw [hwl] at h1
 exact ⟨_, _, h1⟩
/-- A memory in which a class object lies, with these maps. -/
structure KG (ic gc iv gv ip gp im gm ii gi : Nat) (o : Oc) (ea : List Cl) (c : Cl) (lv : List (Tx × Int)) (lp : List (Tx × Bool)) (lm : List (Tx × Int)) (li : List (Tx × Cl)) (hp : Hp) (n : Nat) : Prop where
 co : hp.get ic = some ⟨gc, false, [V.d (.slice (encE o.en)), V.d (.slice (encC ea)), V.d (.str c.nm), V.d (.slice (encD c.inn)), V.d (.slice (encD c.out)), V.d (.slice (encD c.loc)), V.d (.slice (encM c.mems)), V.d (.slice (encJ c.ins)), V.d (.slice (encY c.step)), .mp iv gv, .mp ip gp, .mp im gm, .mp ii gi]⟩
 vars : hp.get iv = some ⟨gv, false, [mpC eI lv]⟩
 ports : hp.get ip = some ⟨gp, false, [mpC eBo lp]⟩
 mems : hp.get im = some ⟨gm, false, [mpC eI lm]⟩
 ins : hp.get ii = some ⟨gi, false, [mpC eC li]⟩
 lc : ic < n
 lv : iv < n
 lp : ip < n
 lm : im < n
 li : ii < n
theorem KG.ag {ic gc iv gv ip gp im gm ii gi : Nat} {o : Oc} {ea : List Cl} {c : Cl} {lv lm : List (Tx × Int)} {lp : List (Tx × Bool)} {li : List (Tx × Cl)} {hp hp' : Hp} {n n' : Nat} (h : KG ic gc iv gv ip gp im gm ii gi o ea c lv lp lm li hp n) (ha : Ag n hp hp') (hn : n ≤ n') : KG ic gc iv gv ip gp im gm ii gi o ea c lv lp lm li hp' n' := by
 obtain ⟨h1, h2, h3, h4, h5, l1, l2, l3, l4, l5⟩ := h
 rw [← ha _ l1] at h1
 rw [← ha _ l2] at h2
 rw [← ha _ l3] at h3
 rw [← ha _ l4] at h4
 rw [← ha _ l5] at h5
 exact ⟨h1, h2, h3, h4, h5, by omega, by omega, by omega, by omega, by omega⟩
section
variable {ic gc iv gv ip gp im gm ii gi : Nat} {o : Oc} {ea : List Cl} {c : Cl} {lv lm : List (Tx × Int)} {lp : List (Tx × Bool)} {li : List (Tx × Cl)}
set_option maxHeartbeats 4000000 in
theorem names107 (hL : CLen c) (hp : Hp) (n cc : Nat) (hK : KG ic gc iv gv ip gp im gm ii gi o ea c lv lp lm li hp n) : QuietV Tryz.prog Ob.cfg 107 [.ptr ic gc 0] hp n cc (dL (encS c.names)) := by
 have hL := hL.sum
 have hco := hK.co
 have nc := nf hK.lc
 refine quietC_wp Tryz.func107 rfl (by kernel_rfl) rfl ?_
 refine wkcv (jn @envOf.eq_1 (jn @envOf.eq_2 (jn @dL.eq_1 (jn @hco (jn @nc (jn @fillV.eq_1 @fillV.eq_2)))))) ?_
 apply WP.loop' (I := fun D s => ∃ (j g m c' : Nat) (hp' : Hp) (B : List Tx), j + D = 3 ∧ B = (if j = 0 then ([] : List Tx) else if j = 1 then c.inn.map Dc.nm else if j = 2 then (c.inn.map Dc.nm ++ c.out.map Dc.nm) else (c.inn.map Dc.nm ++ c.out.map Dc.nm ++ c.loc.map Dc.nm)) ∧ m = B.length ∧ Ag n hp hp' ∧ hp'.get n = some ⟨g, false, fl (encS B)⟩ ∧ s = ⟨[(0, .ptr ic gc 0), (3, .osl n g 0 m 1 none), (27, .agg [dL (encD c.inn), dL (encD c.out), dL (encD c.loc)]), (28, dI j)], hp', n + 1, c', n, []⟩) (d := 3)
 ·exact ⟨0, cc, _, _, _, [], by simp, by simp, rfl, by simp, by simp [fl, encS], st_eq (by simp [dI, dL]) rfl⟩
 rintro D _ ⟨j, g, m, c', hp', B, hj, hB, hm, hag, hx, rfl⟩
 have hagt := eq_true hag
 have hco := (hK.ag hag (Nat.le_refl n)).co
 obtain rfl | rfl | rfl | rfl : j = 0 ∨ j = 1 ∨ j = 2 ∨ j = 3 := by omega
 ·replace hB : B = ([] : List Tx) := by rw [hB]; simp
  refine wkcv (jn @dI.eq_1 (jn @dL.eq_1 @idx.eq_def)) ?_
  apply WP.loop' (I := fun D s => ∃ (i g m c' : Nat) (hp' : Hp) (B : List Tx), i + D = c.inn.length ∧ B = ([] : List Tx) ++ (c.inn.take i).map Dc.nm ∧ m = B.length ∧ Ag n hp hp' ∧ hp'.get n = some ⟨g, false, fl (encS B)⟩ ∧ s = ⟨[(0, .ptr ic gc 0), (3, .osl n g 0 m 1 none), (27, .agg [dL (encD c.inn), dL (encD c.out), dL (encD c.loc)]), (28, dI 0), (31, dL (encD c.inn)), (32, dI c.inn.length), (33, dI i)], hp', n + 1, c', n, []⟩) (d := c.inn.length)
  ·exact ⟨0, g, m, _, _, B, by simp, by simp [hB], hm, by simp [hag], by simp [hx], st_eq (by simp [dI, dL]) rfl⟩
  clear hB hm hx hag hagt hco
  rintro D2 _ ⟨i, g, m, c', hp', B, hi, hB, hm, hag, hx, rfl⟩
  have hagt := eq_true hag
  have hco := (hK.ag hag (Nat.le_refl n)).co
  refine wkv (jn @dI.eq_1 @dL.eq_1) ?_
  show WP _ _ _ _ _ _
  refine WP.cond _ rfl (fun hb => ?_) (fun hb => ?_)
  ·simp at hb
   have hb' : i < c.inn.length := by omega
   obtain ⟨d, hd, hdm, hix⟩ := at_lt hb'
   have hd' := encD_at hd
   have hwj := w_succ hb' (by omega)
   have hBl : m ≤ 8388608 := by rw [hm, hB]; simp; omega
   have r2 := fl_len (encS_row B)
   have r3 := fl_take (encS_row B)
   have r5 := encS_snoc B d.nm
   have r6 := fl_snoc (encS B) [.str d.nm]
   have f5 : fitsB (m + 1) 16 = true := by simp [fitsB]; omega
   rw [encS_len, ← hm, Nat.mul_one] at r2 r3
   rw [r5] at r6
   simp only [List.map_cons, List.map_nil] at r6
   refine wkcv (jn @dI.eq_1 (jn @dL.eq_1 (jn @hx (jn @hco (jn @nc (jn @hagt (jn @hix (jn @hd' (jn @Dc.cells.eq_1 (jn @fillV.eq_1 (jn @fillV.eq_2 (jn @closeParts.eq_1 (jn @closeParts.eq_2 (jn @cl2.eq_def (jn @toD_dep (jn @toD_d (jn @r2 (jn @r3 (jn @r6 (jn @f5 @nble_d)))))))))))))))))))) ?_
   refine loop_next (by simp [hwj]; exact Is.rfl) ?_
   exact ⟨D2 - 1, by omega, i + 1, _, m + 1, _, _, B ++ [d.nm], by omega, by rw [hB, take_snoc hd]; simp, by simp; omega, by simp [hag], by simp; rfl, st_eq (by simp [dI, dL, hwj]) rfl⟩
  simp at hb
  have hie : i = c.inn.length := by omega
  rw [hie, List.take_length] at hB

  refine wkcv (jn @dI.eq_1 @dL.eq_1) ?_
  refine loop_next (by simp; exact Is.rfl) ?_
  exact ⟨2, by omega, 1, g, m, _, _, B, by omega, by simp [hB], hm, by simp [hag], by simp [hx], st_eq (by simp [dI, dL]; try decide) rfl⟩
 ·replace hB : B = c.inn.map Dc.nm := by rw [hB]; simp
  refine wkcv (jn @dI.eq_1 (jn @dL.eq_1 @idx.eq_def)) ?_
  apply WP.loop' (I := fun D s => ∃ (i g m c' : Nat) (hp' : Hp) (B : List Tx), i + D = c.out.length ∧ B = c.inn.map Dc.nm ++ (c.out.take i).map Dc.nm ∧ m = B.length ∧ Ag n hp hp' ∧ hp'.get n = some ⟨g, false, fl (encS B)⟩ ∧ s = ⟨[(0, .ptr ic gc 0), (3, .osl n g 0 m 1 none), (27, .agg [dL (encD c.inn), dL (encD c.out), dL (encD c.loc)]), (28, dI 1), (31, dL (encD c.out)), (32, dI c.out.length), (33, dI i)], hp', n + 1, c', n, []⟩) (d := c.out.length)
  ·exact ⟨0, g, m, _, _, B, by simp, by simp [hB], hm, by simp [hag], by simp [hx], st_eq (by simp [dI, dL]) rfl⟩
  clear hB hm hx hag hagt hco
  rintro D2 _ ⟨i, g, m, c', hp', B, hi, hB, hm, hag, hx, rfl⟩
  have hagt := eq_true hag
  have hco := (hK.ag hag (Nat.le_refl n)).co
  refine wkv (jn @dI.eq_1 @dL.eq_1) ?_
  show WP _ _ _ _ _ _
  refine WP.cond _ rfl (fun hb => ?_) (fun hb => ?_)
  ·simp at hb
   have hb' : i < c.out.length := by omega
   obtain ⟨d, hd, hdm, hix⟩ := at_lt hb'
   have hd' := encD_at hd
   have hwj := w_succ hb' (by omega)
   have hBl : m ≤ 8388608 := by rw [hm, hB]; simp; omega
   have r2 := fl_len (encS_row B)
   have r3 := fl_take (encS_row B)
   have r5 := encS_snoc B d.nm
   have r6 := fl_snoc (encS B) [.str d.nm]
   have f5 : fitsB (m + 1) 16 = true := by simp [fitsB]; omega
   rw [encS_len, ← hm, Nat.mul_one] at r2 r3
   rw [r5] at r6
   simp only [List.map_cons, List.map_nil] at r6
   refine wkcv (jn @dI.eq_1 (jn @dL.eq_1 (jn @hx (jn @hco (jn @nc (jn @hagt (jn @hix (jn @hd' (jn @Dc.cells.eq_1 (jn @fillV.eq_1 (jn @fillV.eq_2 (jn @closeParts.eq_1 (jn @closeParts.eq_2 (jn @cl2.eq_def (jn @toD_dep (jn @toD_d (jn @r2 (jn @r3 (jn @r6 (jn @f5 @nble_d)))))))))))))))))))) ?_
   refine loop_next (by simp [hwj]; exact Is.rfl) ?_
   exact ⟨D2 - 1, by omega, i + 1, _, m + 1, _, _, B ++ [d.nm], by omega, by rw [hB, take_snoc hd]; simp, by simp; omega, by simp [hag], by simp; rfl, st_eq (by simp [dI, dL, hwj]) rfl⟩
  simp at hb
  have hie : i = c.out.length := by omega
  rw [hie, List.take_length] at hB

  refine wkcv (jn @dI.eq_1 @dL.eq_1) ?_
  refine loop_next (by simp; exact Is.rfl) ?_
  exact ⟨1, by omega, 2, g, m, _, _, B, by omega, by simp [hB], hm, by simp [hag], by simp [hx], st_eq (by simp [dI, dL]; try decide) rfl⟩
 ·replace hB : B = (c.inn.map Dc.nm ++ c.out.map Dc.nm) := by rw [hB]; simp
  refine wkcv (jn @dI.eq_1 (jn @dL.eq_1 @idx.eq_def)) ?_
  apply WP.loop' (I := fun D s => ∃ (i g m c' : Nat) (hp' : Hp) (B : List Tx), i + D = c.loc.length ∧ B = (c.inn.map Dc.nm ++ c.out.map Dc.nm) ++ (c.loc.take i).map Dc.nm ∧ m = B.length ∧ Ag n hp hp' ∧ hp'.get n = some ⟨g, false, fl (encS B)⟩ ∧ s = ⟨[(0, .ptr ic gc 0), (3, .osl n g 0 m 1 none), (27, .agg [dL (encD c.inn), dL (encD c.out), dL (encD c.loc)]), (28, dI 2), (31, dL (encD c.loc)), (32, dI c.loc.length), (33, dI i)], hp', n + 1, c', n, []⟩) (d := c.loc.length)
  ·exact ⟨0, g, m, _, _, B, by simp, by simp [hB], hm, by simp [hag], by simp [hx], st_eq (by simp [dI, dL]) rfl⟩
  clear hB hm hx hag hagt hco
  rintro D2 _ ⟨i, g, m, c', hp', B, hi, hB, hm, hag, hx, rfl⟩
  have hagt := eq_true hag
  have hco := (hK.ag hag (Nat.le_refl n)).co
  refine wkv (jn @dI.eq_1 @dL.eq_1) ?_
  show WP _ _ _ _ _ _
  refine WP.cond _ rfl (fun hb => ?_) (fun hb => ?_)
  ·simp at hb
   have hb' : i < c.loc.length := by omega
   obtain ⟨d, hd, hdm, hix⟩ := at_lt hb'
   have hd' := encD_at hd
   have hwj := w_succ hb' (by omega)
   have hBl : m ≤ 8388608 := by rw [hm, hB]; simp; omega
   have r2 := fl_len (encS_row B)
   have r3 := fl_take (encS_row B)
   have r5 := encS_snoc B d.nm
   have r6 := fl_snoc (encS B) [.str d.nm]
   have f5 : fitsB (m + 1) 16 = true := by simp [fitsB]; omega
   rw [encS_len, ← hm, Nat.mul_one] at r2 r3
   rw [r5] at r6
   simp only [List.map_cons, List.map_nil] at r6
   refine wkcv (jn @dI.eq_1 (jn @dL.eq_1 (jn @hx (jn @hco (jn @nc (jn @hagt (jn @hix (jn @hd' (jn @Dc.cells.eq_1 (jn @fillV.eq_1 (jn @fillV.eq_2 (jn @closeParts.eq_1 (jn @closeParts.eq_2 (jn @cl2.eq_def (jn @toD_dep (jn @toD_d (jn @r2 (jn @r3 (jn @r6 (jn @f5 @nble_d)))))))))))))))))))) ?_
   refine loop_next (by simp [hwj]; exact Is.rfl) ?_
   exact ⟨D2 - 1, by omega, i + 1, _, m + 1, _, _, B ++ [d.nm], by omega, by rw [hB, take_snoc hd]; simp, by simp; omega, by simp [hag], by simp; rfl, st_eq (by simp [dI, dL, hwj]) rfl⟩
  simp at hb
  have hie : i = c.loc.length := by omega
  rw [hie, List.take_length] at hB

  refine wkcv (jn @dI.eq_1 @dL.eq_1) ?_
  refine loop_next (by simp; exact Is.rfl) ?_
  exact ⟨0, by omega, 3, g, m, _, _, B, by omega, by simp [hB], hm, by simp [hag], by simp [hx], st_eq (by simp [dI, dL]; try decide) rfl⟩
 replace hB : B = (c.inn.map Dc.nm ++ c.out.map Dc.nm ++ c.loc.map Dc.nm) := by rw [hB]; simp
 refine wkcv (jn @dI.eq_1 (jn @dL.eq_1 (jn @hco @nc))) ?_
 apply WP.loop' (I := fun D s => ∃ (i g m c' : Nat) (hp' : Hp) (B : List Tx), i + D = c.mems.length ∧ B = (c.inn.map Dc.nm ++ c.out.map Dc.nm ++ c.loc.map Dc.nm) ++ (c.mems.take i).map Mm.nm ∧ m = B.length ∧ Ag n hp hp' ∧ hp'.get n = some ⟨g, false, fl (encS B)⟩ ∧ s = ⟨[(0, .ptr ic gc 0), (3, .osl n g 0 m 1 none), (48, dL (encM c.mems)), (49, dI c.mems.length), (50, dI i)], hp', n + 1, c', n, []⟩) (d := c.mems.length)
 ·exact ⟨0, g, m, _, _, B, by simp, by simp [hB], hm, by simp [hag], by simp [hx], st_eq (by simp [dI, dL]) rfl⟩
 clear hB hm hx hag hagt hco
 rintro D2 _ ⟨i, g, m, c', hp', B, hi, hB, hm, hag, hx, rfl⟩
 have hagt := eq_true hag
 have hco := (hK.ag hag (Nat.le_refl n)).co
 refine wkv (jn @dI.eq_1 @dL.eq_1) ?_
 show WP _ _ _ _ _ _
 refine WP.cond _ rfl (fun hb => ?_) (fun hb => ?_)
 ·simp at hb
  have hb' : i < c.mems.length := by omega
  obtain ⟨d, hd, hdm, hix⟩ := at_lt hb'
  have hd' := encM_at hd
  have hwj := w_succ hb' (by omega)
  have hBl : m ≤ 8388608 := by rw [hm, hB]; simp; omega
  have r2 := fl_len (encS_row B)
  have r3 := fl_take (encS_row B)
  have r5 := encS_snoc B d.nm
  have r6 := fl_snoc (encS B) [.str d.nm]
  have f5 : fitsB (m + 1) 16 = true := by simp [fitsB]; omega
  rw [encS_len, ← hm, Nat.mul_one] at r2 r3
  rw [r5] at r6
  simp only [List.map_cons, List.map_nil] at r6
  refine wkcv (jn @dI.eq_1 (jn @dL.eq_1 (jn @hx (jn @hco (jn @nc (jn @hagt (jn @hix (jn @hd' (jn @Mm.cells.eq_1 (jn @fillV.eq_1 (jn @fillV.eq_2 (jn @closeParts.eq_1 (jn @closeParts.eq_2 (jn @cl2.eq_def (jn @toD_dep (jn @toD_d (jn @r2 (jn @r3 (jn @r6 (jn @f5 @nble_d)))))))))))))))))))) ?_
  refine loop_next (by simp [hwj]; exact Is.rfl) ?_
  exact ⟨D2 - 1, by omega, i + 1, _, m + 1, _, _, B ++ [d.nm], by omega, by rw [hB, take_snoc hd]; simp, by simp; omega, by simp [hag], by simp; rfl, st_eq (by simp [dI, dL, hwj]) rfl⟩
 simp at hb
 have hie : i = c.mems.length := by omega
 rw [hie, List.take_length] at hB

 clear hb hi
 refine wkcv (jn @dI.eq_1 (jn @dL.eq_1 (jn @hco @nc))) ?_
 apply WP.loop' (I := fun D s => ∃ (i g m c' : Nat) (hp' : Hp) (B : List Tx), i + D = c.ins.length ∧ B = (c.inn.map Dc.nm ++ c.out.map Dc.nm ++ c.loc.map Dc.nm ++ c.mems.map Mm.nm) ++ (c.ins.take i).map Ii.nm ∧ m = B.length ∧ Ag n hp hp' ∧ hp'.get n = some ⟨g, false, fl (encS B)⟩ ∧ s = ⟨[(3, .osl n g 0 m 1 none), (64, dL (encJ c.ins)), (65, dI c.ins.length), (66, dI i)], hp', n + 1, c', n, []⟩) (d := c.ins.length)
 ·exact ⟨0, g, m, _, _, B, by simp, by simp [hB], hm, by simp [hag], by simp [hx], st_eq (by simp [dI, dL]) rfl⟩
 clear hB hm hx hag hagt hco
 rintro D2 _ ⟨i, g, m, c', hp', B, hi, hB, hm, hag, hx, rfl⟩
 have hagt := eq_true hag
 have hco := (hK.ag hag (Nat.le_refl n)).co
 refine wkv (jn @dI.eq_1 @dL.eq_1) ?_
 show WP _ _ _ _ _ _
 refine WP.cond _ rfl (fun hb => ?_) (fun hb => ?_)
 ·simp at hb
  have hb' : i < c.ins.length := by omega
  obtain ⟨d, hd, hdm, hix⟩ := at_lt hb'
  have hd' := encJ_at hd
  have hwj := w_succ hb' (by omega)
  have hBl : m ≤ 8388608 := by rw [hm, hB]; simp; omega
  have r2 := fl_len (encS_row B)
  have r3 := fl_take (encS_row B)
  have r5 := encS_snoc B d.nm
  have r6 := fl_snoc (encS B) [.str d.nm]
  have f5 : fitsB (m + 1) 16 = true := by simp [fitsB]; omega
  rw [encS_len, ← hm, Nat.mul_one] at r2 r3
  rw [r5] at r6
  simp only [List.map_cons, List.map_nil] at r6
  refine wkcv (jn @dI.eq_1 (jn @dL.eq_1 (jn @hx (jn @hco (jn @nc (jn @hagt (jn @hix (jn @hd' (jn @Ii.cells.eq_1 (jn @fillV.eq_1 (jn @fillV.eq_2 (jn @closeParts.eq_1 (jn @closeParts.eq_2 (jn @cl2.eq_def (jn @toD_dep (jn @toD_d (jn @r2 (jn @r3 (jn @r6 (jn @f5 @nble_d)))))))))))))))))))) ?_
  refine loop_next (by simp [hwj]; exact Is.rfl) ?_
  exact ⟨D2 - 1, by omega, i + 1, _, m + 1, _, _, B ++ [d.nm], by omega, by rw [hB, take_snoc hd]; simp, by simp; omega, by simp [hag], by simp; rfl, st_eq (by simp [dI, dL, hwj]) rfl⟩
 simp at hb
 have hie : i = c.ins.length := by omega
 rw [hie, List.take_length] at hB

 refine wkcv (jn @dI.eq_1 @dL.eq_1) ?_
 have hcl := close_fl (look := hp'.get) (id := n) (g := g) (ro := false) (cap := none) (encS_row B) hx
 rw [encS_len, ← hm] at hcl
 refine ⟨.inr rfl, rfl, _, [n], rfl, ?_, by simp [Nat.ble_eq]⟩
 show closeT hp'.get (.osl n g 0 m 1 none) = _
 rw [hcl, hB]; rfl
end
end Go.Ac
end

section
set_option maxRecDepth 4000
namespace Go.Ac
open Go.Proofs
attribute [local simp] Hp.get_set Ag_set Ag_refl Ag_trunc get_trunc_lt
def gz (l : List (Tx × Int)) (x : Tx) : Int := (mget l x).getD 0
/-- What the value of an expression is, those of its arguments being known. -/
def evK (vs ms : List (Tx × Int)) (k o v : Int) (nm : Tx) (l : List Int) : Int :=
 if k = 1 then v else if k = 2 then gz vs nm else if k = 12 then gz ms nm
 else if k = 4 then (if l.getD 0 0 = 1 then l.getD 1 0 else l.getD 2 0) else (appE o l).1
mutual
/-- The value of an expression. -/
def evE (vs ms : List (Tx × Int)) : X → Int
 | .mk k o _ v nm args => evK vs ms k o v nm (evL vs ms args)
def evL (vs ms : List (Tx × Int)) : List X → List Int
 | [] => []
 | x :: r => evE vs ms x :: evL vs ms r
end
theorem evE_eq (vs ms : List (Tx × Int)) (x : X) : evE vs ms x = evK vs ms x.k x.o x.v x.nm (evL vs ms x.args) := by cases x; rw [evE]; rfl
theorem evL_map (vs ms : List (Tx × Int)) : ∀ l : List X, evL vs ms l = l.map (evE vs ms)
 | [] => by rw [evL]; rfl
 | x :: r => by rw [evL, evL_map vs ms r]; rfl
/-- The object of an instance. -/
def oO (g : Nat) (en : List En) (c : Cl) (im gm ii gi : Nat) : Ob := ⟨g, false, [V.d (.slice (encE en)), V.d (.str c.nm), V.d (.slice (encD c.inn)), V.d (.slice (encD c.out)), V.d (.slice (encD c.loc)), V.d (.slice (encM c.mems)), V.d (.slice (encJ c.ins)), V.d (.slice (encY c.step)), .mp im gm, .mp ii gi]⟩
/-- Where an instance and the variables of a step lie. -/
structure Pa where
 x : Nat
 gx : Nat
 im : Nat
 gm : Nat
 ii : Nat
 gi : Nat
 v : Nat
 gv : Nat
structure RA (a : Pa) (en : List En) (c : Cl) (ms vs : List (Tx × Int)) (hp : Hp) (n : Nat) : Prop where
 ob : hp.get a.x = some (oO a.gx en c a.im a.gm a.ii a.gi)
 me : hp.get a.im = some ⟨a.gm, false, [mpC eI ms]⟩
 va : hp.get a.v = some ⟨a.gv, false, [mpC eI vs]⟩
 lx : a.x < n
 lm : a.im < n
 lv : a.v < n
def rV (a : Pa) : V := .agg [.ptr a.x a.gx 0, .mp a.v a.gv]
section
variable {a : Pa} {en : List En} {c : Cl} {ms vs : List (Tx × Int)}
theorem RA.ag {hp hp' : Hp} {n n' : Nat} (h : RA a en c ms vs hp n) (ha : Ag n hp hp') (hn : n ≤ n') : RA a en c ms vs hp' n' := by
 obtain ⟨h1, h2, h3, l1, l2, l3⟩ := h
 rw [← ha _ l1] at h1
 rw [← ha _ l2] at h2
 rw [← ha _ l3] at h3
 exact ⟨h1, h2, h3, by omega, by omega, by omega⟩
def QR (a : Pa) (en : List En) (c : Cl) (ms vs : List (Tx × Int)) (f : FuncId) (xs : List V) (v : V) : Prop := ∀ hp n cc, RA a en c ms vs hp n → QuietV Tryz.prog Ob.cfg f xs hp n cc v
theorem QR.fn {f : FuncId} {xs : List V} {v : V} (h : QR a en c ms vs f xs v) {hp : Hp} {n : Nat} (hK : RA a en c ms vs hp n) :
  ∃ (F : Hp → Nat → Nat → Hp) (G : Hp → Nat → Nat → Nat), ∀ hp' n' cc, Ag n hp hp' → n ≤ n' → lim Tryz.prog Ob.cfg f xs hp' n' cc = some ⟨v, F hp' n' cc, n', G hp' n' cc, []⟩ := by
 obtain ⟨F, G, h1⟩ := lim_fn (C := fun hp' n' => Ag n hp hp' ∧ n ≤ n') (P := Tryz.prog) (cfg := Ob.cfg) (f := f) (vs := xs) (v := v) (fun hp' n' cc ha => h hp' n' cc (hK.ag ha.1 ha.2))
 exact ⟨F, G, fun hp' n' cc a b => h1 hp' n' cc ⟨a, b⟩⟩
theorem look_gz (l : List (Tx × Int)) {id g : Nat} {ro : Bool} {sz by_ : Nat} {zr : Option (List V)} {look : Look} {x : Tx} (h : look id = some ⟨g, ro, [mpC eI l]⟩) :
  lookupV look ⟨.str, sz, by_, zr⟩ (some (.d (.int .i64 0))) (.mp id g) (.d (.str x)) false = some ⟨.d (.int .i64 (gz l x)), [], [id], 0, 0, false⟩ := by
 rw [lookup_mp eI l h]
 unfold gz
 cases mget l x <;> rfl
theorem kf124 (r : Nat) : Ob.keep 124 r = Ob.k124 r := by kernel_rfl
theorem kf123 (r : Nat) : Ob.keep 123 r = Ob.k123 r := by kernel_rfl
attribute [local simp] kf124 Ob.k124 kf123 Ob.k123
set_option maxHeartbeats 2000000 in
theorem vals124 {N : Nat} (ih : ∀ x : X, x.sz < N → formE x = true → x.ok → QR a en c ms vs 123 [rV a, aG x.cells] (dI (evE vs ms x)))
  (l : List X) (hN : szX l < N) (hf : l.all formE = true) (hok : okX l) (hM : szX l ≤ 8388608) : QR a en c ms vs 124 [rV a, dL (encX l)] (dL (encI (evL vs ms l))) := by
 intro hp n cc hK
 have hlen := len_szX l
 rw [evL_map]
 refine quietC_wp Tryz.func124 rfl (by kernel_rfl) rfl ?_
 refine wkcv (jn @envOf.eq_1 (jn @envOf.eq_2 (jn @rV.eq_1 (jn @dL.eq_1 (jn @fillV.eq_1 (jn @fillV.eq_2 @encX_len)))))) ?_
 apply WP.loop' (I := fun D s => ∃ (j g c' : Nat) (hp' : Hp) (L : List Int), j + D = l.length ∧ L = (l.take j).map (evE vs ms) ∧ Ag n hp hp' ∧ hp'.get n = some ⟨cc, false, [.ptr a.x a.gx 0, .mp a.v a.gv]⟩ ∧ hp'.get (n + 1) = some ⟨g, false, fl (encI L)⟩ ∧
  s = ⟨[(2, .ptr n cc 0), (5, .osl (n + 1) g 0 j 1 none), (8, dL (encX l)), (9, dI l.length), (10, dI j)], hp', n + 2, c', n, []⟩) (d := l.length)
 ·exact ⟨0, cc + 1, _, _, [], by simp, by simp, by simp, by simp, by simp [fl, encI], st_eq (by simp [dI, dL]) rfl⟩
 rintro D _ ⟨j, g, c', hp', L, hj, hL, hag, hx0, hx1, rfl⟩
 have hagt := eq_true hag
 refine wkv (jn @dI.eq_1 @dL.eq_1) ?_
 show WP _ _ _ _ _ _
 refine WP.cond _ rfl (fun hb => ?_) (fun hb => ?_)
 ·simp at hb
  have hb' : j < l.length := by omega
  obtain ⟨d, hd, hdm, hix⟩ := at_lt hb'
  have hd' := encX_at hd
  have hwj := w_succ hb' (by omega)
  obtain ⟨F, G, hr⟩ := (ih d (by have := mem_szX hdm; omega) (List.all_eq_true.1 hf d hdm) ((okX_iff _).1 hok d hdm)).fn hK
  simp only [aG, rV, X.cells_eq, List.map_cons, List.map_nil, dI] at hr
  have hsn := take_snoc hd
  have hLl : L.length = j := by rw [hL]; simp; omega
  have hLs : (l.take (j + 1)).map (evE vs ms) = L ++ [evE vs ms d] := by rw [hsn, hL]; simp
  have r2 := fl_len (encI_row L)
  have r3 := fl_take (encI_row L)
  have r4 := fl_snoc (encI L) [.int .i64 (evE vs ms d)]
  have r5 := encI_snoc L (evE vs ms d)
  have f5 : fitsB (j + 1) 8 = true := by simp [fitsB]; omega
  rw [r5] at r4
  rw [encI_len, hLl, Nat.mul_one] at r2 r3
  simp only [List.map_cons, List.map_nil] at r4
  refine wkcv (jn @dI.eq_1 (jn @dL.eq_1 (jn @X.cells_eq (jn @hix (jn @hd' (jn @hr (jn @fillV.eq_1 (jn @fillV.eq_2 (jn @closeParts.eq_1 (jn @closeParts.eq_2 (jn @cl2.eq_def (jn @toD_dep (jn @toD_d (jn @nble_d (jn @f5 (jn @r2 (jn @r3 (jn @r4 (jn @hx0 (jn @hx1 @hagt)))))))))))))))))))) ?_
  refine loop_next (by simp [hwj]; exact Is.rfl) ?_
  exact ⟨D - 1, by omega, j + 1, _, _, _, _, by omega, hLs.symm, by simp [hag], by simp [hx0], by simp; rfl, st_eq (by simp [dI, dL, hwj]) rfl⟩
 ·simp at hb
  have hje : j = l.length := by omega
  rw [hje, List.take_length] at hL
  have hLl : L.length = j := by rw [hL, hje]; simp
  rw [← hL]
  refine wkcv (jn @dI.eq_1 @dL.eq_1) ?_
  have hcl := close_fl (look := hp'.get) (id := n + 1) (g := g) (ro := false) (cap := none) (encI_row L) hx1
  rw [encI_len, hLl] at hcl
  refine ⟨.inr rfl, rfl, _, [n + 1], rfl, ?_, by simp [Nat.ble_eq]⟩
  show closeT hp'.get (.osl (n + 1) g 0 j 1 none) = _
  rw [hcl]
theorem args3 {x : X} (hf : formE x = true) (q : x.k = 4) : x.args.length = 3 := by
 rw [formE_eq] at hf
 simp only [formN, q] at hf
 split at hf
 ·cases hf
 ·rename_i n hn
  simp at hn hf
  have h1 := hf.1
  rw [← hn.2] at h1
  omega
set_option maxHeartbeats 4000000 in
theorem value123 : ∀ (N : Nat), N ≤ 8388609 → ∀ x : X, x.sz < N → formE x = true → x.ok → QR a en c ms vs 123 [rV a, aG x.cells] (dI (evE vs ms x)) := by
 intro N
 induction N with
 | zero => intro _ x h; omega
 | succ N ih =>
 intro hNM x hN hf hok hp n cc hK
 obtain ⟨hf1, hf2, hf3⟩ := formE_l hf
 obtain ⟨hx1, hx2⟩ := X.ok_eq hok
 have hs0 := X.sz_eq x
 have hvs := vals124 (a := a) (en := en) (c := c) (ms := ms) (vs := vs) (N := N) (fun y h1 h2 h3 => ih (by omega) y h1 h2 h3) x.args (by omega) hf1 hx2 (by omega)
 have hob := hK.ob
 simp only [oO] at hob
 have nx := nf hK.lx
 have nm := nf hK.lm
 have nv := nf hK.lv
 obtain ⟨F, G, hr⟩ := hvs.fn hK
 simp only [rV, dL] at hr
 have hlv := fun (look : Look) (sz by_ : Nat) (zr : Option (List V)) (y : Tx) (h : look a.v = hp.get a.v) => look_gz vs (sz := sz) (by_ := by_) (zr := zr) (x := y) (h.trans hK.va)
 have hlm := fun (look : Look) (sz by_ : Nat) (zr : Option (List V)) (y : Tx) (h : look a.im = hp.get a.im) => look_gz ms (sz := sz) (by_ := by_) (zr := zr) (x := y) (h.trans hK.me)
 have hel : (evL vs ms x.args).length = x.args.length := by rw [evL_map]; simp
 refine quietV_wp Tryz.func123 rfl (by kernel_rfl) rfl (fun _ => rfl) ?_
 rw [evE_eq]
 rcases formE_k hf with q | q | q | q | q
 ·simp only [evK, q]
  refine wkcv (jn @envOf.eq_1 (jn @envOf.eq_2 (jn @rV.eq_1 (jn @aG.eq_1 (jn @X.cells_eq (jn @dI.eq_1 (jn @q @int_beq))))))) ?_
  exact ⟨.inr rfl, rfl, _, rfl, rfl⟩
 ·simp only [evK, q]
  refine wkcv (jn @envOf.eq_1 (jn @envOf.eq_2 (jn @rV.eq_1 (jn @aG.eq_1 (jn @X.cells_eq (jn @dI.eq_1 (jn @q (jn @int_beq (jn @zt3 (jn @nv @hlv)))))))))) ?_
  exact ⟨.inr rfl, rfl, _, rfl, rfl⟩
 ·simp only [evK, q]
  refine wkcv (jn @envOf.eq_1 (jn @envOf.eq_2 (jn @rV.eq_1 (jn @aG.eq_1 (jn @X.cells_eq (jn @dI.eq_1 (jn @q (jn @int_beq (jn @zt3 (jn @hob (jn @nx (jn @nm @hlm)))))))))))) ?_
  exact ⟨.inr rfl, rfl, _, rfl, rfl⟩
 ·have hap := apply148 x.o (evL vs ms x.args) (by rw [hel]; have := len_szX x.args; unfold MX; omega)
  simp only [dI, dL] at hap
  simp only [evK, q]
  refine wkcv (jn @envOf.eq_1 (jn @envOf.eq_2 (jn @rV.eq_1 (jn @aG.eq_1 (jn @X.cells_eq (jn @dI.eq_1 (jn @dL.eq_1 (jn @q (jn @int_beq (jn @hr @hap)))))))))) ?_
  exact ⟨.inr rfl, rfl, _, rfl, rfl⟩
 ·have h3 := args3 hf q
  simp only [evK, q]
  generalize evL vs ms x.args = L at *
  rw [h3] at hel
  obtain ⟨v0, v1, v2, rfl⟩ : ∃ v0 v1 v2, L = [v0, v1, v2] := by
   match L, hel with
   | [a, b, c], _ => exact ⟨a, b, c, rfl⟩
  simp only [encI, List.map_cons, List.map_nil] at hr
  simp only [List.getD_cons_zero, List.getD_cons_succ]
  have i0 : idx 0 3 = some 0 := rfl
  have i1 : idx 1 3 = some 1 := rfl
  have i2 : idx 2 3 = some 2 := rfl
  by_cases q0 : v0 = 1
  ·simp only [q0] at hr
   rw [q0]
   refine wkcv (jn @envOf.eq_1 (jn @envOf.eq_2 (jn @rV.eq_1 (jn @aG.eq_1 (jn @X.cells_eq (jn @dI.eq_1 (jn @dL.eq_1 (jn @q (jn @int_beq (jn @hr (jn @i0 @i1))))))))))) ?_
   exact ⟨.inr rfl, rfl, _, rfl, rfl⟩
  ·have q0' := eq_false q0
   rw [if_neg q0]
   refine wkcv (jn @envOf.eq_1 (jn @envOf.eq_2 (jn @rV.eq_1 (jn @aG.eq_1 (jn @X.cells_eq (jn @dI.eq_1 (jn @dL.eq_1 (jn @q (jn @int_beq (jn @hr (jn @i0 (jn @i2 @q0')))))))))))) ?_
   exact ⟨.inr rfl, rfl, _, rfl, rfl⟩
end
end Go.Ac
end

section
set_option maxRecDepth 4000
namespace Go.Ac
open Go.Proofs
/-- An instance: its class, its memories, those that it contains. -/
inductive Trn where
 | mk (c : Cl) (ms : List (Tx × Int)) (sb : List Trn)
def Trn.c : Trn → Cl | .mk c _ _ => c
def Trn.ms : Trn → List (Tx × Int) | .mk _ m _ => m
def Trn.sb : Trn → List Trn | .mk _ _ s => s
def mI (l : List Mm) : List (Tx × Int) := l.map fun d => (d.nm, d.ini)
mutual
/-- Back to the beginning. -/
def Trn.init : Trn → Trn
 | .mk c ms sb => .mk c (puts ms (mI c.mems)) (initL sb)
def initL : List Trn → List Trn
 | [] => []
 | t :: r => t.init :: initL r
end
mutual
def Trn.ht : Trn → Nat
 | .mk _ _ sb => htL sb + 1
def htL : List Trn → Nat
 | [] => 0
 | t :: r => max t.ht (htL r)
end
/-- A step under way: the variables, the memories, the instances. -/
structure Es where
 vs : List (Tx × Int)
 ms : List (Tx × Int)
 sb : List Trn
def inIx (c : Cl) (nm : Tx) : Nat := c.ins.findIdx fun d => decide (d.nm = nm)
mutual
def exY (c : Cl) (F : Trn → List Int → Trn × List Int) : Y → Es → Es
 | .mk k nm _ r outs args brs, s =>
  if k = 1 then { s with vs := mput s.vs nm (evE s.vs s.ms r) }
  else if k = 2 then { s with ms := mput s.ms nm (evE s.vs s.ms r) }
  else if k = 3 then exN c F brs (gz s.vs nm).toNat s
  else if k = 4 then (match s.sb[inIx c nm]? with
   | some t => { s with vs := puts s.vs (outs.zip (F t (evL s.vs s.ms args)).2), sb := s.sb.set (inIx c nm) (F t (evL s.vs s.ms args)).1 }
   | none => s)
  else match s.sb[inIx c nm]? with
   | some t => { s with sb := s.sb.set (inIx c nm) t.init }
   | none => s
def exL (c : Cl) (F : Trn → List Int → Trn × List Int) : List Y → Es → Es
 | [], s => s
 | y :: r, s => exL c F r (exY c F y s)
def exN (c : Cl) (F : Trn → List Int → Trn × List Int) : List (List Y) → Nat → Es → Es
 | [], _, s => s
 | b :: _, 0, s => exL c F b s
 | _ :: r, n + 1, s => exN c F r n s
end
/-- A step of an instance of some height. -/
def stepT : Nat → Trn → List Int → Trn × List Int
 | 0, t, _ => (t, [])
 | n + 1, .mk c ms sb, ins =>
  (.mk c (exL c (stepT n) c.step ⟨puts [] ((c.inn.map Dc.nm).zip ins), ms, sb⟩).ms (exL c (stepT n) c.step ⟨puts [] ((c.inn.map Dc.nm).zip ins), ms, sb⟩).sb,
   c.out.map fun d => gz (exL c (stepT n) c.step ⟨puts [] ((c.inn.map Dc.nm).zip ins), ms, sb⟩).vs d.nm)
theorem exY_eq (c : Cl) (F : Trn → List Int → Trn × List Int) (y : Y) (s : Es) : exY c F y s =
  if y.k = 1 then { s with vs := mput s.vs y.nm (evE s.vs s.ms y.r) }
  else if y.k = 2 then { s with ms := mput s.ms y.nm (evE s.vs s.ms y.r) }
  else if y.k = 3 then exN c F y.brs (gz s.vs y.nm).toNat s
  else if y.k = 4 then (match s.sb[inIx c y.nm]? with
   | some t => { s with vs := puts s.vs (y.outs.zip (F t (evL s.vs s.ms y.args)).2), sb := s.sb.set (inIx c y.nm) (F t (evL s.vs s.ms y.args)).1 }
   | none => s)
  else match s.sb[inIx c y.nm]? with
   | some t => { s with sb := s.sb.set (inIx c y.nm) t.init }
   | none => s := by cases y; rw [exY]; rfl
theorem exN_at (c : Cl) (F : Trn → List Int → Trn × List Int) (s : Es) : ∀ (l : List (List Y)) (n : Nat) (b : List Y), l[n]? = some b → exN c F l n s = exL c F b s
 | [], n, b, h => by simp at h
 | d :: r, 0, b, h => by simp at h; subst h; rw [exN]
 | d :: r, n + 1, b, h => by rw [exN]; exact exN_at c F s r n b (by simpa using h)
theorem exN_out (c : Cl) (F : Trn → List Int → Trn × List Int) (s : Es) : ∀ (l : List (List Y)) (n : Nat), l.length ≤ n → exN c F l n s = s
 | [], n, h => by rw [exN]
 | d :: r, 0, h => by simp at h
 | d :: r, n + 1, h => by rw [exN]; exact exN_out c F s r n (by simpa using h)
theorem exL_app (c : Cl) (F : Trn → List Int → Trn × List Int) : ∀ (a b : List Y) (s : Es), exL c F (a ++ b) s = exL c F b (exL c F a s)
 | [], b, s => by rw [exL]; rfl
 | y :: r, b, s => by rw [List.cons_append, exL, exL, exL_app c F r b]

/-! ### Types -/
theorem gz_put (l : List (Tx × Int)) (x y : Tx) (v : Int) : gz (mput l x v) y = if y = x then v else gz l y := by
 unfold gz; rw [mget_put]; split <;> rfl
/-- A statement that passes the check at some place. -/
def wtY (o : Oc) (c : Cl) (y : Y) : Prop := ∃ cx bf, stmtW o c cx bf y = 0
def wtL (o : Oc) (c : Cl) (l : List Y) : Prop := ∀ y, y ∈ l → wtY o c y
theorem wtL_of (o : Oc) (c : Cl) : ∀ (l : List Y) (cx : List Pr) (bf : List Y), listW o c cx bf l = 0 → wtL o c l
 | [], _, _, _ => fun y h => by cases h
 | x :: r, cx, bf, h => by
  rw [listW] at h
  split at h
  ·rename_i hn; exact absurd h hn
  ·rename_i hn
   intro y hy
   rcases List.mem_cons.1 hy with rfl | hy
   ·exact ⟨cx, bf, Decidable.not_not.1 hn⟩
   ·exact wtL_of o c r cx _ h y hy
theorem wtB_of (o : Oc) (c : Cl) (cx : List Pr) (bf : List Y) (nm : Tx) : ∀ (l : List (List Y)) (k : Nat), brsW o c cx bf nm k l = 0 → ∀ b, b ∈ l → wtL o c b
 | [], _, _ => fun y h => by cases h
 | x :: r, k, h => by
  rw [brsW] at h
  split at h
  ·rename_i hn; exact absurd h hn
  ·rename_i hn
   intro y hy
   rcases List.mem_cons.1 hy with rfl | hy
   ·exact wtL_of o c _ _ _ (Decidable.not_not.1 hn)
   ·exact wtB_of o c cx bf nm r (k + 1) h y hy
/-- An expression of a type. -/
def wtX (o : Oc) (c : Cl) (x : X) (t : Int) : Prop := formE x = true ∧ ∃ bf cx, kindW ⟨o, c, bf, cx⟩ x = (t, 0)
theorem wtX_of {o : Oc} {c : Cl} {bf : List Y} {cx : List Pr} {x : X} (h : (exprW ⟨o, c, bf, cx⟩ x).2 = 0) : wtX o c x (exprW ⟨o, c, bf, cx⟩ x).1 := by
 unfold exprW at h ⊢
 split
 ·rename_i hf
  rw [if_pos hf] at h
  exact ⟨hf, bf, cx, by rw [← h]⟩
 ·rename_i hf; rw [if_neg hf] at h; simp at h
/-- Variables of their types. -/
def tyV (en : List En) (c : Cl) (vs : List (Tx × Int)) : Prop := ∀ nm, getT c nm ≠ 0 → hasE en (getT c nm) (gz vs nm) = true
def tyM (en : List En) (c : Cl) (ms : List (Tx × Int)) : Prop := ms.map Prod.fst = c.mems.map Mm.nm ∧ ∀ nm, findM c.mems nm ≠ 0 → hasE en (findM c.mems nm) (gz ms nm) = true
theorem hasE_bool (en : List En) (b : Bool) : hasE en 1 (trE b) = true := by cases b <;> simp [hasE, sizeE, trE]
theorem inW_wr (n : Int) : inW (wr n) = true := by have := wr_in n; simp [inW]; omega
theorem inW_cmp (o a b : Int) : inW (cmpE o a b) = true := by
 unfold cmpE
 repeat' split
 all_goals try exact inW_wr _
 ·unfold divE; split
  ·simp [inW]
  ·exact inW_wr _
 ·unfold modE; split
  ·exact inW_wr _
  ·have := tmod_in a b; simp [inW]; omega
/-- What an operator gives is of its type. -/
theorem app_ty {en : List En} {o t : Int} {ts vs : List Int} (h : resE o ts = (t, 0)) (hl : vs.length = ts.length) (hv : ∀ (i : Nat) (u v : Int), ts[i]? = some u → vs[i]? = some v → hasE en u v = true) : hasE en t (appE o vs).1 = true := by
 have hz : ∀ t, t = 1 ∨ t = 2 → hasE en t 0 = true := by intro t ht; rcases ht with rfl | rfl <;> simp [hasE, sizeE, inW]
 have ht : t = if ariE o then 2 else 1 := by
  unfold resE at h
  repeat' split at h
  all_goals simp at h
  ·rename_i ha; rw [if_pos ha]; exact h.symm
  ·rename_i ha; rw [if_neg ha]; exact h.symm
 have ht2 : t = 1 ∨ t = 2 := by rw [ht]; split <;> simp
 unfold appE
 split
 ·exact hz t ht2
 split
 ·exact hz t ht2
 split
 ·exact hz t ht2
 split
 ·rename_i hg
  have : ariE o = true := by
   unfold grpE at hg
   repeat' split at hg
   all_goals simp_all
  rw [ht, if_pos this]
  simpa [hasE] using inW_cmp _ _ _
 ·rename_i hg0 _ _ hg
  have hb : booE o = true → ariE o = false := fun hb => by
   unfold booE ariE at *; simp at hb ⊢; omega
  have : ariE o = false := by
   cases ha : ariE o with
   | false => rfl
   | true =>
    exfalso
    have h0 : arE o ≠ 0 := fun h0 => hg0 (by unfold grpE; rw [if_pos h0])
    have hbo : ¬ booE o = true := fun hbo => by rw [hb hbo] at ha; cases ha
    exact hg (by unfold grpE; rw [if_neg h0, if_neg hbo, if_pos ha])
  rw [ht, this]
  exact hasE_bool en _
theorem kinds_at (w : Pl) : ∀ {l : List X} {ts : List Int}, kindsW w l = (ts, 0) → l.length = ts.length ∧ ∀ (i : Nat) (x : X) (t : Int), l[i]? = some x → ts[i]? = some t → kindW w x = (t, 0)
 | [], ts, h => by
  rw [kindsW] at h
  simp at h; subst h
  exact ⟨rfl, fun i x t h => by simp at h⟩
 | x :: r, ts, h => by
  rw [kindsW] at h
  split at h
  ·rename_i hn; simp at h; exact absurd h.2 hn
  ·rename_i h1
   split at h
   ·rename_i hn; simp at h; exact absurd h.2 hn
   ·rename_i h2
    simp only [Prod.mk.injEq, and_true] at h
    have ih := kinds_at w (l := r) (ts := (kindsW w r).1) (by rw [← Decidable.not_not.1 h2])
    subst h
    refine ⟨by simp [ih.1], fun i y t hy ht => ?_⟩
    cases i with
    | zero => simp at hy ht; subst hy; subst ht; exact Prod.ext rfl (Decidable.not_not.1 h1)
    | succ i => exact ih.2 i y t (by simpa using hy) (by simpa using ht)
/-- The value of an expression is of its type. -/
theorem ev_ty {o : Oc} {c : Cl} {vs ms : List (Tx × Int)} (hV : tyV o.en c vs) (hM : tyM o.en c ms) (bf : List Y) (cx : List Pr) : ∀ (N : Nat) (x : X) (t : Int), x.sz < N → formE x = true → kindW ⟨o, c, bf, cx⟩ x = (t, 0) → hasE o.en t (evE vs ms x) = true := by
 intro N
 induction N with
 | zero => intro x t h; omega
 | succ N ih =>
 intro x t hN hf hk
 obtain ⟨hf1, hf2, hf3⟩ := formE_l hf
 have hs0 := X.sz_eq x
 rw [kindW_eq] at hk
 split at hk
 ·rename_i hn; simp at hk; exact absurd hk.2 hn
 rename_i hn
 have hks : kindsW ⟨o, c, bf, cx⟩ x.args = ((kindsW ⟨o, c, bf, cx⟩ x.args).1, 0) := by rw [← Decidable.not_not.1 hn]
 obtain ⟨hl, hat⟩ := kinds_at _ hks
 generalize (kindsW ⟨o, c, bf, cx⟩ x.args).1 = ts at *
 have hargs : ∀ (i : Nat) (u v : Int), ts[i]? = some u → (evL vs ms x.args)[i]? = some v → hasE o.en u v = true := by
  intro i u v hu hv
  rw [evL_map, List.getElem?_map] at hv
  cases hx : x.args[i]? with
  | none => rw [hx] at hv; simp at hv
  | some y =>
   rw [hx] at hv
   simp at hv; subst hv
   have hm := List.mem_of_getElem? hx
   exact ih y u (by have := mem_szX hm; omega) (List.all_eq_true.1 hf1 y hm) (hat i y u hx hu)
 have hel : (evL vs ms x.args).length = ts.length := by rw [evL_map]; simp [hl]
 rw [evE_eq]
 unfold kindO at hk
 unfold evK
 by_cases k1 : x.k = 1
 ·rw [if_pos k1] at hk ⊢
  split at hk
  ·rename_i h; simp at hk; rw [← hk]; exact h
  ·simp at hk
 rw [if_neg k1] at hk ⊢
 by_cases k2 : x.k = 2
 ·rw [if_pos k2] at hk ⊢
  split at hk
  ·simp at hk
  ·rename_i h
   split at hk
   ·simp at hk; rw [← hk]; exact hV _ h
   ·simp at hk
 rw [if_neg k2] at hk ⊢
 by_cases k3 : x.k = 12
 ·rw [if_pos k3] at hk ⊢
  split at hk
  ·simp at hk
  ·rename_i h
   simp at hk; rw [← hk]; exact hM.2 _ h
 rw [if_neg k3] at hk ⊢
 by_cases k4 : x.k = 3
 ·rw [if_pos k4] at hk
  rw [if_neg (by omega)]
  exact app_ty hk hel hargs
 rw [if_neg k4] at hk
 split at hk
 ·simp at hk
 rename_i hcd
 simp only [Prod.mk.injEq, and_true] at hk
 have k5 : x.k = 4 := by
  rcases formE_k hf with h | h | h | h | h <;> first | exact absurd h k1 | exact absurd h k2 | exact absurd h k3 | exact absurd h k4 | exact h
 rw [if_pos k5]
 have h3 : x.args.length = 3 := by
  rw [formE_eq] at hf
  simp only [formN, k5] at hf
  split at hf
  ·cases hf
  ·rename_i n hn
   simp at hn hf
   have h1 := hf.1
   rw [← hn.2] at h1
   omega
 have hts : ts.length = 3 := by omega
 obtain ⟨t0, t1, t2, rfl⟩ : ∃ t0 t1 t2, ts = [t0, t1, t2] := by
  match ts, hts with
  | [a, b, c], _ => exact ⟨a, b, c, rfl⟩
 generalize hL : evL vs ms x.args = L at *
 obtain ⟨v0, v1, v2, rfl⟩ : ∃ v0 v1 v2, L = [v0, v1, v2] := by
  match L, hel with
  | [a, b, c], _ => exact ⟨a, b, c, rfl⟩
 simp only [List.getD_cons_zero, List.getD_cons_succ] at hcd hk ⊢
 have e12 : t1 = t2 := Decidable.not_not.1 fun h => hcd (.inr h)
 split
 ·rw [← hk]; exact hargs 1 t1 v1 rfl rfl
 ·rw [← hk]; exact hargs 2 t1 v2 (by rw [e12]; rfl) rfl
theorem wtX.ty {o : Oc} {c : Cl} {vs ms : List (Tx × Int)} (hV : tyV o.en c vs) (hM : tyM o.en c ms) {x : X} {t : Int} (h : wtX o c x t) : hasE o.en t (evE vs ms x) = true := by
 obtain ⟨hf, bf, cx, hk⟩ := h
 exact ev_ty hV hM bf cx _ x t (Nat.lt_succ_self _) hf hk

end Go.Ac
end

section
set_option maxRecDepth 4000
namespace Go.Ac
open Go.Proofs
attribute [local simp] Hp.get_set Ag_set Ag_refl Ag_trunc get_trunc_lt
theorem kf78 (r : Nat) : Ob.keep 78 r = Ob.k78 r := by kernel_rfl
theorem kf67 (r : Nat) : Ob.keep 67 r = Ob.k67 r := by kernel_rfl
theorem kf108 (r : Nat) : Ob.keep 108 r = Ob.k108 r := by kernel_rfl
theorem kf68 (r : Nat) : Ob.keep 68 r = Ob.k68 r := by kernel_rfl
theorem kf79 (r : Nat) : Ob.keep 79 r = Ob.k79 r := by kernel_rfl
theorem kf34 (r : Nat) : Ob.keep 34 r = Ob.k34 r := by kernel_rfl
attribute [local simp] kf78 Ob.k78 kf67 Ob.k67 kf108 Ob.k108 kf68 Ob.k68 kf79 Ob.k79 kf34 Ob.k34
theorem index78a {i1 g1 : Nat} {p : Cl → Bool} (l : List (Cl)) (hl : l.length ≤ MX) (hp : Hp) (n : Nat) (hq : ∀ v, v ∈ l → ∀ hp' c, Ag n hp hp' → Quiet Tryz.prog Ob.cfg 108 [aG v.cells, .ptr i1 g1 0] hp' n c (.bool (p v))) (c : Nat) :
  Quiet Tryz.prog Ob.cfg 78 [dL (encC l), .fn 108 [.ptr i1 g1 0]] hp n c (.int .i64 (ixP p l)) := by
 unfold MX at hl
 refine quiet_wp Tryz.func78 rfl (by kernel_rfl) rfl ?_
 refine wkv (jn @envOf.eq_1 (jn @envOf.eq_2 (jn @dL.eq_1 @encC_len))) ?_
 apply WP.loop' (I := fun d s => ∃ i : Nat, i + d = l.length ∧ (l.take i).all (fun v => !p v) = true ∧ SQ [(0, dL (encC l)), (1, .fn 108 [.ptr i1 g1 0]), (7, dI l.length), (8, dI i)] hp n n s) (d := l.length)
 ·exact ⟨0, by simp, by simp, _, _, Ag.refl n hp, st_eq (by simp [dL, dI]) rfl⟩
 rintro d _ ⟨i, hii, hno, hp', c1, hag, rfl⟩
 refine wkv (jn @dI.eq_1 @dL.eq_1) ?_
 show WP _ _ _ _ _ _
 refine WP.cond _ rfl (fun hb => ?_) (fun hb => ?_)
 ·simp at hb
  have hb' : i < l.length := hb
  obtain ⟨v, hv, hvm, hix⟩ := at_lt hb'
  have hv' := encC_at hv
  have hw := w_succ hb' (by omega)
  have hts := all_snoc (p := fun v => !p v) hv
  obtain ⟨h5, h6, h4⟩ := Quiet.fn (fun c => hq v hvm hp' c hag)
  simp only [aG, dL, dI, Cl.cells, List.map_cons, List.map_nil] at h4
  refine wkv (jn @hix (jn @hv' (jn @dL.eq_1 (jn @dI.eq_1 (jn @Cl.cells.eq_1 @h4))))) ?_
  show WP _ _ _ _ _ _
  refine WP.cond _ rfl (fun hb => ?_) (fun hb => ?_)
  ·refine wkv True.intro ?_
   rw [ixP_some hno hv hb]
   exact ⟨.inr rfl, rfl, _, rfl, rfl⟩
  ·refine wkv True.intro ?_
   refine loop_next (by simp [hw]; exact Is.rfl) ?_
   exact ⟨d - 1, by omega, i + 1, by omega, by rw [hts, hno]; simpa using hb, _, _, hag.trunc, st_eq (by simp [dI, dL, hw]) rfl⟩
 ·simp at hb
  have hil : i = l.length := by omega
  subst hil
  rw [List.take_length] at hno
  refine wkv True.intro ?_
  rw [ixP_none hno]
  exact ⟨.inr rfl, rfl, _, rfl, rfl⟩

theorem index78b {i1 g1 : Nat} {p : Cl → Bool} (l : List (Cl)) (hl : l.length ≤ MX) (hp : Hp) (n : Nat) (hq : ∀ v, v ∈ l → ∀ hp' c, Ag n hp hp' → Quiet Tryz.prog Ob.cfg 68 [aG v.cells, .ptr i1 g1 0] hp' n c (.bool (p v))) (c : Nat) :
  Quiet Tryz.prog Ob.cfg 78 [dL (encC l), .fn 68 [.ptr i1 g1 0]] hp n c (.int .i64 (ixP p l)) := by
 unfold MX at hl
 refine quiet_wp Tryz.func78 rfl (by kernel_rfl) rfl ?_
 refine wkv (jn @envOf.eq_1 (jn @envOf.eq_2 (jn @dL.eq_1 @encC_len))) ?_
 apply WP.loop' (I := fun d s => ∃ i : Nat, i + d = l.length ∧ (l.take i).all (fun v => !p v) = true ∧ SQ [(0, dL (encC l)), (1, .fn 68 [.ptr i1 g1 0]), (7, dI l.length), (8, dI i)] hp n n s) (d := l.length)
 ·exact ⟨0, by simp, by simp, _, _, Ag.refl n hp, st_eq (by simp [dL, dI]) rfl⟩
 rintro d _ ⟨i, hii, hno, hp', c1, hag, rfl⟩
 refine wkv (jn @dI.eq_1 @dL.eq_1) ?_
 show WP _ _ _ _ _ _
 refine WP.cond _ rfl (fun hb => ?_) (fun hb => ?_)
 ·simp at hb
  have hb' : i < l.length := hb
  obtain ⟨v, hv, hvm, hix⟩ := at_lt hb'
  have hv' := encC_at hv
  have hw := w_succ hb' (by omega)
  have hts := all_snoc (p := fun v => !p v) hv
  obtain ⟨h5, h6, h4⟩ := Quiet.fn (fun c => hq v hvm hp' c hag)
  simp only [aG, dL, dI, Cl.cells, List.map_cons, List.map_nil] at h4
  refine wkv (jn @hix (jn @hv' (jn @dL.eq_1 (jn @dI.eq_1 (jn @Cl.cells.eq_1 @h4))))) ?_
  show WP _ _ _ _ _ _
  refine WP.cond _ rfl (fun hb => ?_) (fun hb => ?_)
  ·refine wkv True.intro ?_
   rw [ixP_some hno hv hb]
   exact ⟨.inr rfl, rfl, _, rfl, rfl⟩
  ·refine wkv True.intro ?_
   refine loop_next (by simp [hw]; exact Is.rfl) ?_
   exact ⟨d - 1, by omega, i + 1, by omega, by rw [hts, hno]; simpa using hb, _, _, hag.trunc, st_eq (by simp [dI, dL, hw]) rfl⟩
 ·simp at hb
  have hil : i = l.length := by omega
  subst hil
  rw [List.take_length] at hno
  refine wkv True.intro ?_
  rw [ixP_none hno]
  exact ⟨.inr rfl, rfl, _, rfl, rfl⟩
theorem contains67 {i1 g1 : Nat} {p : Cl → Bool} (l : List (Cl)) (hl : l.length ≤ MX) (hp : Hp) (n : Nat) (hq : ∀ v, v ∈ l → ∀ hp' c, Ag n hp hp' → Quiet Tryz.prog Ob.cfg 68 [aG v.cells, .ptr i1 g1 0] hp' n c (.bool (p v))) (c : Nat) :
  Quiet Tryz.prog Ob.cfg 67 [dL (encC l), .fn 68 [.ptr i1 g1 0]] hp n c (.bool (l.any p)) := by
 obtain ⟨h5, h6, h4⟩ := Quiet.fn (fun c => index78b (p := p) l hl hp n hq c)
 simp only [dL] at h4
 rw [← ixP_any]
 refine quiet_wp Tryz.func67 rfl (by kernel_rfl) rfl ?_
 refine wkv (jn @envOf.eq_1 (jn @envOf.eq_2 (jn @dL.eq_1 @h4))) ?_
 exact ⟨.inr rfl, rfl, _, rfl, rfl⟩

theorem index78c {i1 g1 : Nat} {p : Cl → Bool} (l : List (Cl)) (hl : l.length ≤ MX) (hp : Hp) (n : Nat) (hq : ∀ v, v ∈ l → ∀ hp' c, Ag n hp hp' → Quiet Tryz.prog Ob.cfg 79 [aG v.cells, .ptr i1 g1 0] hp' n c (.bool (p v))) (c : Nat) :
  Quiet Tryz.prog Ob.cfg 78 [dL (encC l), .fn 79 [.ptr i1 g1 0]] hp n c (.int .i64 (ixP p l)) := by
 unfold MX at hl
 refine quiet_wp Tryz.func78 rfl (by kernel_rfl) rfl ?_
 refine wkv (jn @envOf.eq_1 (jn @envOf.eq_2 (jn @dL.eq_1 @encC_len))) ?_
 apply WP.loop' (I := fun d s => ∃ i : Nat, i + d = l.length ∧ (l.take i).all (fun v => !p v) = true ∧ SQ [(0, dL (encC l)), (1, .fn 79 [.ptr i1 g1 0]), (7, dI l.length), (8, dI i)] hp n n s) (d := l.length)
 ·exact ⟨0, by simp, by simp, _, _, Ag.refl n hp, st_eq (by simp [dL, dI]) rfl⟩
 rintro d _ ⟨i, hii, hno, hp', c1, hag, rfl⟩
 refine wkv (jn @dI.eq_1 @dL.eq_1) ?_
 show WP _ _ _ _ _ _
 refine WP.cond _ rfl (fun hb => ?_) (fun hb => ?_)
 ·simp at hb
  have hb' : i < l.length := hb
  obtain ⟨v, hv, hvm, hix⟩ := at_lt hb'
  have hv' := encC_at hv
  have hw := w_succ hb' (by omega)
  have hts := all_snoc (p := fun v => !p v) hv
  obtain ⟨h5, h6, h4⟩ := Quiet.fn (fun c => hq v hvm hp' c hag)
  simp only [aG, dL, dI, Cl.cells, List.map_cons, List.map_nil] at h4
  refine wkv (jn @hix (jn @hv' (jn @dL.eq_1 (jn @dI.eq_1 (jn @Cl.cells.eq_1 @h4))))) ?_
  show WP _ _ _ _ _ _
  refine WP.cond _ rfl (fun hb => ?_) (fun hb => ?_)
  ·refine wkv True.intro ?_
   rw [ixP_some hno hv hb]
   exact ⟨.inr rfl, rfl, _, rfl, rfl⟩
  ·refine wkv True.intro ?_
   refine loop_next (by simp [hw]; exact Is.rfl) ?_
   exact ⟨d - 1, by omega, i + 1, by omega, by rw [hts, hno]; simpa using hb, _, _, hag.trunc, st_eq (by simp [dI, dL, hw]) rfl⟩
 ·simp at hb
  have hil : i = l.length := by omega
  subst hil
  rw [List.take_length] at hno
  refine wkv True.intro ?_
  rw [ixP_none hno]
  exact ⟨.inr rfl, rfl, _, rfl, rfl⟩

theorem decl108 {nm : Tx} {w : V} {i1 g1 : Nat} (d : Cl) (hp : Hp) (n c : Nat) (h1 : hp.get i1 = some ⟨g1, false, [w, dS nm]⟩) (l1 : i1 < n) : Quiet Tryz.prog Ob.cfg 108 [aG d.cells, .ptr i1 g1 0] hp n c (.bool (decide (d.nm = nm))) := by
 have ne := nf l1
 simp only [dS] at h1
 refine quiet_wp Tryz.func108 rfl (by kernel_rfl) rfl ?_
 refine wkv (jn @envOf.eq_1 (jn @envOf.eq_2 (jn @aG.eq_1 (jn @Cl.cells.eq_1 (jn @ne (jn @h1 @tx_beq)))))) ?_
 exact ⟨.inr rfl, rfl, _, rfl, rfl⟩
theorem check68 {ic gc iv gv ip gp im gm ii gi : Nat} {o : Oc} {ea : List Cl} {c : Cl} {lv lm : List (Tx × Int)} {lp : List (Tx × Bool)} {li : List (Tx × Cl)} {i1 g1 : Nat} (d : Cl) (hp : Hp) (n cc : Nat) (hK : KG ic gc iv gv ip gp im gm ii gi o ea c lv lp lm li hp n) (h1 : hp.get i1 = some ⟨g1, false, [.ptr ic gc 0]⟩) (l1 : i1 < n) :
  Quiet Tryz.prog Ob.cfg 68 [aG d.cells, .ptr i1 g1 0] hp n cc (.bool (decide (d.nm = c.nm))) := by
 have ne := nf l1
 have nc := nf hK.lc
 have hco := hK.co
 refine quiet_wp Tryz.func68 rfl (by kernel_rfl) rfl ?_
 refine wkv (jn @envOf.eq_1 (jn @envOf.eq_2 (jn @aG.eq_1 (jn @Cl.cells.eq_1 (jn @ne (jn @nc (jn @h1 (jn @hco @tx_beq)))))))) ?_
 exact ⟨.inr rfl, rfl, _, rfl, rfl⟩
theorem find79 {nm : Tx} {i1 g1 : Nat} (d : Cl) (hp : Hp) (n c : Nat) (h1 : hp.get i1 = some ⟨g1, false, [dS nm]⟩) (l1 : i1 < n) : Quiet Tryz.prog Ob.cfg 79 [aG d.cells, .ptr i1 g1 0] hp n c (.bool (decide (d.nm = nm))) := by
 have ne := nf l1
 simp only [dS] at h1
 refine quiet_wp Tryz.func79 rfl (by kernel_rfl) rfl ?_
 refine wkv (jn @envOf.eq_1 (jn @envOf.eq_2 (jn @aG.eq_1 (jn @Cl.cells.eq_1 (jn @ne (jn @h1 @tx_beq)))))) ?_
 exact ⟨.inr rfl, rfl, _, rfl, rfl⟩
/-- The program's look-up of a class. -/
theorem find34 (o : Oc) (nm : Tx) (hl : o.cl.length ≤ MX) : den Tryz.prog Ob.cfg 34 [aG o.cells, dS nm] = some (dI (ixP (fun d : Cl => decide (d.nm = nm)) o.cl)) := by
 obtain ⟨F, G, hF⟩ := lim_fn (C := fun hp' n' => hp'.get 1 = some ⟨1, false, [dS nm]⟩ ∧ 1 < n') (P := Tryz.prog) (cfg := Ob.cfg) (f := 78) (vs := [dL (encC o.cl), .fn 79 [.ptr 1 1 0]]) (v := .d (.int .i64 (ixP (fun d : Cl => decide (d.nm = nm)) o.cl)))
  (fun hp' n' c' hC => index78c (p := fun d => decide (d.nm = nm)) o.cl hl hp' n' (fun v hv hp'' c'' hag => find79 v hp'' n' c'' ((hag 1 hC.2).trans hC.1) hC.2) c')
 have hF' := hF [(0, ⟨0, false, [V.d (D.slice (encE o.en)), V.d (D.slice (encC o.cl))]⟩), (1, ⟨1, false, [V.d (D.str nm)]⟩)] 2 2 ⟨by simp [dS], by simp⟩
 simp only [dL, dS] at hF'
 refine den_wp Tryz.func34 rfl (by kernel_rfl) rfl rfl ?_
 refine wkcv (jn @aG.eq_1 (jn @Oc.cells.eq_1 (jn @dL.eq_1 (jn @dS.eq_1 @hF')))) ?_
 show retQ _ _ _ _ _
 exact ⟨.inr rfl, _, _, rfl, rfl⟩
end Go.Ac
end
