/- Maps that are written; the class object is made. -/
import Derived.Test.YtkgekafdhehleaaGreatObWxM
set_option linter.unusedVariables false
set_option linter.unusedSimpArgs false
section
set_option maxRecDepth 4000
namespace Go.Ac
open Go.Proofs
attribute [local simp] Hp.get_set Ag_set Ag_refl Ag_trunc get_trunc_lt
theorem kf134 (r : Nat) : Ob.keep 134 r = Ob.k134 r := by kernel_rfl
theorem kf109 (r : Nat) : Ob.keep 109 r = Ob.k109 r := by kernel_rfl
theorem kf70 (r : Nat) : Ob.keep 70 r = Ob.k70 r := by kernel_rfl
attribute [local simp] kf134 Ob.k134 kf109 Ob.k109 kf70 Ob.k70
/-! ### Statements that are right have no case without branches -/
theorem nb_of {o : Oc} {c : Cl} (hpos : ∀ x, getT c x ≠ 0 → 0 < sizeE o.en (getT c x)) : ∀ (N : Nat), (∀ (l : List Y) cx bf, szY l < N → listW o c cx bf l = 0 → nbL l = true) := by
 intro N
 induction N with
 | zero => intro l cx bf h; omega
 | succ N ih =>
 intro l
 induction l with
 | nil => intro cx bf _ _; rw [nbL]
 | cons y r ihl =>
  intro cx bf hN h
  rw [listW] at h
  split at h
  ·rename_i hne; exact absurd h hne
  rename_i hz
  have hz : stmtW o c cx bf y = 0 := by simpa using hz
  rw [szY] at hN
  rw [nbL, ihl cx _ (by omega) h, Bool.and_true, nbY_eq]
  rw [stmtW_eq] at hz
  split at hz
  ·cases hz
  rename_i hfe
  have hfe : fieldsE y = true := by simpa using hfe
  by_cases k3 : y.k = 3
  ·rw [if_neg (by omega), if_neg (by omega), if_pos k3] at hz
   split at hz
   ·cases hz
   rename_i hg
   split at hz
   ·cases hz
   split at hz
   ·cases hz
   split at hz
   ·cases hz
   rename_i hlen
   have hp := hpos _ hg
   have hbne : y.brs ≠ [] := fun e => by rw [e] at hlen; simp at hlen; omega
   have hb : ∀ (brs : List (List Y)) k, szB brs < y.sz → brsW o c cx bf y.nm k brs = 0 → nbB brs = true := by
    intro brs
    induction brs with
    | nil => intro k _ _; rw [nbB]
    | cons b s ihb =>
     intro k hs h
     rw [brsW] at h
     split at h
     ·rename_i hne; exact absurd h hne
     rename_i hz
     have hz : listW o c (cx ++ [⟨y.nm, k⟩]) bf b = 0 := by simpa using hz
     rw [szB] at hs
     rw [nbB, ih b _ _ (by omega) hz, ihb _ (by omega) h]; rfl
   rw [hb _ _ (by rw [Y.sz_eq y]; omega) hz]
   simp [hbne]
  ·have hbr : y.brs = [] := by
    unfold fieldsE at hfe
    by_cases k12 : y.k = 1 ∨ y.k = 2
    ·rw [if_pos k12] at hfe; simp at hfe; exact hfe.2
    ·rw [if_neg k12, if_neg k3] at hfe
     by_cases k4 : y.k = 4
     ·rw [if_pos k4] at hfe; simp at hfe; exact hfe.2
     ·rw [if_neg k4] at hfe
      by_cases k5 : y.k = 5
      ·rw [if_pos k5] at hfe; simp at hfe; exact hfe.2
      ·rw [if_neg k5] at hfe; cases hfe
   rw [hbr, nbB]; simp [k3]
section
variable {ic gc iv gv ip gp im gm ii gi : Nat} {o : Oc} {ea : List Cl} {c : Cl}
/-- What list70 says. -/
def PListAt (ic gc iv gv ip gp im gm ii gi : Nat) (o : Oc) (ea : List Cl) (c : Cl) (N : Nat) : Prop := ∀ (l : List Y) (cx : List Pr) (bl : List (List Y)), szY l < N → bl.length ≤ cx.length → nbB bl = true → cx.length + szY bl.flatten + szY l ≤ 8388600 → okY l →
 QK ic gc iv gv ip gp im gm ii gi o ea c 70 [.ptr ic gc 0, dL (encY l), pP cx bl] (dI (listW o c cx bl.flatten l))
set_option maxHeartbeats 4000000 in
theorem cases134 {N : Nat} (ih : PListAt ic gc iv gv ip gp im gm ii gi o ea c N) (hW : KW o c) (cx : List Pr) (bl : List (List Y)) (hl : bl.length ≤ cx.length + 1) (hnb : nbB bl = true) (y : Y) (hN : y.sz < N + 1) (hbd : cx.length + szY bl.flatten + y.sz ≤ 8388600) (hok : y.ok) :
  QK ic gc iv gv ip gp im gm ii gi o ea c 134 [.ptr ic gc 0, aG y.cells, pP cx bl] (dI (casesW ⟨o, c, bl.flatten, cx⟩ y)) := by
 intro hp n cc hK
 obtain ⟨hy1, hy2, hy3, hy4⟩ := Y.ok_eq hok
 have hys := Y.sz_eq y
 have k1 := len_szB y.brs
 have hB : BOK cx bl := ⟨by unfold MX; omega, hnb, by omega⟩
 have hco := hK.co
 have nc := nf hK.lc
 have nv := nf hK.lv
 have hlv := fun (look : Look) (sz by_ : Nat) (zr : Option (List V)) (y : Tx) (h : look iv = hp.get iv) => hK.look_vars (look := look) (sz := sz) (by_ := by_) (zr := zr) (x := y) h
 have hsz := size39 o.en (getT c y.nm) (hW.i64 _)
 obtain ⟨F, G, hr⟩ := (ready151 (ic := ic) (gc := gc) (iv := iv) (gv := gv) (ip := ip) (gp := gp) (im := im) (gm := gm) (ii := ii) (gi := gi) (ea := ea) hW y.nm cx bl hB.len hB.nb hB.sz).fn hK
 simp only [dS, pP, dI, dL] at hr hsz
 refine quietV_wp Tryz.func134 rfl (by kernel_rfl) rfl (fun _ => rfl) ?_
 unfold casesW
 show WP _ _ _ _ _ (quietVQ _ _ _ (dI (if getT c y.nm = 0 then 6 else if readyW ⟨o, c, bl.flatten, cx⟩ y.nm = false then 22 else if y.t ≠ getT c y.nm ∨ getT c y.nm = 2 then 10 else if (y.brs.length : Int) ≠ sizeE o.en (getT c y.nm) then 9 else brsW o c cx bl.flatten y.nm 0 y.brs)))
 by_cases hz : getT c y.nm = 0
 ·rw [if_pos hz]
  refine wkcnv (jn @envOf.eq_1 (jn @envOf.eq_2 (jn @aG.eq_1 (jn @pP.eq_1 (jn @Y.cells_eq (jn @dL.eq_1 (jn @hco (jn @nc (jn @nv (jn @hlv (jn @zt3 @hz))))))))))) ?_
  exact ⟨.inr rfl, rfl, _, rfl, rfl⟩
 have hz' := eq_false hz
 rw [if_neg hz]
 cases hy : readyW ⟨o, c, bl.flatten, cx⟩ y.nm with
 | false =>
  rw [hy] at hr
  rw [if_pos rfl]
  refine wkcnv (jn @envOf.eq_1 (jn @envOf.eq_2 (jn @aG.eq_1 (jn @pP.eq_1 (jn @Y.cells_eq (jn @dL.eq_1 (jn @hco (jn @nc (jn @nv (jn @hlv (jn @zt3 (jn @hz' @hr)))))))))))) ?_
  exact ⟨.inr rfl, rfl, _, rfl, rfl⟩
 | true =>
 rw [hy] at hr
 rw [if_neg (by decide)]
 by_cases ht : y.t = getT c y.nm
 case neg =>
  have ht' : (getT c y.nm = y.t) = False := eq_false fun e => ht e.symm
  rw [if_pos (.inl ht)]
  refine wkcnv (jn @envOf.eq_1 (jn @envOf.eq_2 (jn @aG.eq_1 (jn @pP.eq_1 (jn @Y.cells_eq (jn @dL.eq_1 (jn @hco (jn @nc (jn @nv (jn @hlv (jn @zt3 (jn @hz' (jn @hr (jn @int_bne @ht')))))))))))))) ?_
  exact ⟨.inr rfl, rfl, _, rfl, rfl⟩
 have ht' : (getT c y.nm = y.t) = True := eq_true ht.symm
 by_cases h2 : getT c y.nm = 2
 ·rw [if_pos (.inr h2)]
  have h2y : y.t = 2 := ht.trans h2
  refine wkcnv (jn @envOf.eq_1 (jn @envOf.eq_2 (jn @aG.eq_1 (jn @pP.eq_1 (jn @Y.cells_eq (jn @dL.eq_1 (jn @hco (jn @nc (jn @nv (jn @hlv (jn @zt3 (jn @hr (jn @h2 @h2y))))))))))))) ?_
  exact ⟨.inr rfl, rfl, _, rfl, rfl⟩
 have h2' := eq_false h2
 have h2y : (y.t = 2) = False := eq_false (by rw [ht]; exact h2)
 rw [if_neg (fun h => h.elim (fun h => h ht) h2)]
 by_cases hs : (y.brs.length : Int) = sizeE o.en (getT c y.nm)
 case neg =>
  have hs' := eq_false hs
  rw [if_pos hs]
  refine wkcnv (jn @envOf.eq_1 (jn @envOf.eq_2 (jn @aG.eq_1 (jn @pP.eq_1 (jn @Y.cells_eq (jn @dL.eq_1 (jn @hco (jn @nc (jn @nv (jn @hlv (jn @zt3 (jn @hz' (jn @hr (jn @int_bne (jn @int_beq (jn @ht (jn @h2' (jn @hsz (jn @hs' @encB_len))))))))))))))))))) ?_
  exact ⟨.inr rfl, rfl, _, rfl, rfl⟩
 have hs' := eq_true hs
 rw [if_neg (by simp [hs])]
 refine wkcnv (jn @envOf.eq_1 (jn @envOf.eq_2 (jn @aG.eq_1 (jn @pP.eq_1 (jn @Y.cells_eq (jn @dL.eq_1 (jn @hco (jn @nc (jn @nv (jn @hlv (jn @zt3 (jn @hz' (jn @hr (jn @int_bne (jn @int_beq (jn @ht (jn @h2' (jn @hsz (jn @hs' @encB_len))))))))))))))))))) ?_
 apply WP.loop' (I := fun D s => ∃ (j c' : Nat) (hp' : Hp), j + D = y.brs.length ∧ brsW o c cx bl.flatten y.nm j (y.brs.drop j) = brsW o c cx bl.flatten y.nm 0 y.brs ∧ Ag n hp hp' ∧ hp'.get n = some ⟨cc, false, y.cells.map .d⟩ ∧ hp'.get (n + 1) = some ⟨cc + 1, false, [V.d (.slice (encP cx)), V.d (.slice (encB bl))]⟩ ∧
  s = ⟨[(0, .ptr ic gc 0), (4, .ptr n cc 0), (5, .ptr (n + 1) (cc + 1) 0), (52, dL (encB y.brs)), (53, dI y.brs.length), (54, dI j)], hp', n + 2, c', n, []⟩) (d := y.brs.length)
 ·exact ⟨0, _, _, by simp, by simp, by simp, by simp [Y.cells_eq, ht], by simp, st_eq (by simp [dI, dL]) rfl⟩
 rintro D _ ⟨j, c', hp', hj, hv, hag, hy0, hx1, rfl⟩
 have hagt := eq_true hag
 rw [Y.cells_eq] at hy0
 simp only [List.map_cons, List.map_nil] at hy0
 refine wknv (jn @dI.eq_1 @dL.eq_1) ?_
 show WP _ _ _ _ _ _
 refine WP.cond _ rfl (fun hb => ?_) (fun hb => ?_)
 ·simp at hb
  have hb' : j < y.brs.length := by omega
  obtain ⟨b, hb1, hbm, hib⟩ := at_lt hb'
  have hb2 := encB_at hb1
  have hwj := w_succ hb' (by omega)
  have hbs := mem_szB hbm
  obtain ⟨F, G, hr⟩ := (ih b (cx ++ [⟨y.nm, j⟩]) bl (by omega) (by simp; omega) hnb (by simp; omega) ((okB_iff _).1 hy4 b hbm)).fn hK
  rw [drop_at hb1, brsW] at hv
  have r1 := fun look => rows_fl look (encP_row cx)
  have f1 : fitsB cx.length 24 = true := by simp [fitsB]; omega
  rw [encP_len] at r1
  have r2 := fl_len (encP_row cx)
  have r3 := fl_take (encP_row cx)
  have r4 := fl_snoc (encP cx) (Pr.cells ⟨y.nm, j⟩)
  have r5 := encP_snoc cx ⟨y.nm, j⟩
  have r6 := fl_len (encP_row (cx ++ [⟨y.nm, j⟩]))
  have r7 := fl_take (encP_row (cx ++ [⟨y.nm, j⟩]))
  have r8 := chunk_flat (encP_row (cx ++ [⟨y.nm, j⟩]))
  have f2 : fitsB (cx.length + 1) 24 = true := by simp [fitsB]; omega
  rw [r5] at r4
  rw [encP_len] at r2 r3
  simp only [encP_len, List.length_append, List.length_cons, List.length_nil, Nat.zero_add] at r6 r7 r8
  simp only [Pr.cells, List.map_cons, List.map_nil] at r4
  simp only [pP, dI, dL] at hr
  by_cases hz : listW o c (cx ++ [⟨y.nm, j⟩]) bl.flatten b = 0
  case neg =>
   have hz' := eq_false hz
   rw [if_pos hz] at hv
   rw [← hv]
   repeat (first
 | apply WP.seq
 | (apply WP.reg; (case hR => dsimp only [prepL, prepO, List.map, gS, gZ]; exact iZ); (case hr => (repeat (first
 | (apply RT.op; simp [dI, dL, hy0, hx1, hagt, hib, hb2, r1, f1, f2, r2, r3, r4, r6, r7, r8, fillV, toD_dep, toD_d, toDs_fl, nble_d, hr, closeParts, cl2, int_bne, hz']; exact iZ; (try dsimp only [putEnv]) <;> exact rfl)
 | (apply RT.call; (iterate 2 simp; exact iZ); exact iZ; (iterate 4 simp [dI, dL, hy0, hx1, hagt, hib, hb2, r1, f1, f2, r2, r3, r4, r6, r7, r8, fillV, toD_dep, toD_d, toDs_fl, nble_d, hr, closeParts, cl2, int_bne, hz']; exact iZ); simp [Is]; (try dsimp only [putEnv]) <;> exact rfl; simp; exact iZ; simp; exact iZ)
 | (apply RT.clone; (iterate 2 simp; exact iZ); exact iZ; (iterate 2 simp [dI, dL, hy0, hx1, hagt, hib, hb2, r1, f1, f2, r2, r3, r4, r6, r7, r8, fillV, toD_dep, toD_d, toDs_fl, nble_d, hr, closeParts, cl2, int_bne, hz']; exact iZ); (first | assumption | (simp [fitsB]; omega)); (try dsimp only [putEnv]) <;> exact rfl; simp [dI, dL, hy0, hx1, hagt, hib, hb2, r1, f1, f2, r2, r3, r4, r6, r7, r8, fillV, toD_dep, toD_d, toDs_fl, nble_d, hr, closeParts, cl2, int_bne, hz']; exact iZ; simp; exact iZ)
 | (apply RT.callV; (iterate 2 simp; exact iZ); exact iZ; (iterate 3 simp [dI, dL, hy0, hx1, hagt, hib, hb2, r1, f1, f2, r2, r3, r4, r6, r7, r8, fillV, toD_dep, toD_d, toDs_fl, nble_d, hr, closeParts, cl2, int_bne, hz']; exact iZ); (try dsimp only [putEnv]) <;> exact rfl)
 | (apply RT.wr; simp [dI, dL, hy0, hx1, hagt, hib, hb2, r1, f1, f2, r2, r3, r4, r6, r7, r8, fillV, toD_dep, toD_d, toDs_fl, nble_d, hr, closeParts, cl2, int_bne, hz']; exact iZ; (try dsimp only [putEnv]) <;> exact rfl; simp [dI, dL, hy0, hx1, hagt, hib, hb2, r1, f1, f2, r2, r3, r4, r6, r7, r8, fillV, toD_dep, toD_d, toDs_fl, nble_d, hr, closeParts, cl2, int_bne, hz']; exact iZ; (iterate 2 exact iZ); simp; exact iZ))); exact RT.nil); (case hc => first | (refine checkR_un [(0, 1), (0, 2), (1, 2), (0, 3), (1, 3), (0, 4), (1, 4), (0, 5), (1, 5), (2, 5), (3, 5), (4, 5), (0, 6), (1, 6), (2, 6), (3, 6), (4, 6), (0, 7), (1, 7), (2, 7), (3, 7), (4, 7), (5, 7), (6, 7), (0, 8), (1, 8), (2, 8), (3, 8), (4, 8), (0, 9), (1, 9), (2, 9), (3, 9), (4, 9), (0, 10), (1, 10), (0, 11), (1, 11), (2, 11), (3, 11), (4, 11), (5, 11), (6, 11), (7, 11), (8, 11), (9, 11), (10, 11), (0, 12), (1, 12), (2, 12), (3, 12), (4, 12), (5, 12), (6, 12), (7, 12), (8, 12), (9, 12), (10, 12), (0, 13), (1, 13)] (by kernel_rfl) (by kernel_rfl) rfl ?_; simp [memA, disj, nbeq_dec, nc]; done) | (show _ = _; kernel_rfl)); (case ht => simp [dI, dL, hy0, hx1, hagt, hib, hb2, r1, f1, f2, r2, r3, r4, r6, r7, r8, fillV, toD_dep, toD_d, toDs_fl, nble_d, hr, closeParts, cl2, int_bne, hz']; exact iZ))
 | apply WP.block | apply WP.skip | apply WP.exit | apply WP.ret | refine WP.condT rfl ?_ | refine WP.condF rfl ?_)
   exact ⟨.inr rfl, rfl, _, rfl, rfl⟩
  rw [if_neg (by simp [hz])] at hv
  rw [hz] at hr
  repeat (first
 | apply WP.seq
 | (apply WP.reg; (case hR => dsimp only [prepL, prepO, List.map, gS, gZ]; exact iZ); (case hr => (repeat (first
 | (apply RT.op; simp [dI, dL, hy0, hx1, hagt, hib, hb2, r1, f1, f2, r2, r3, r4, r6, r7, r8, fillV, toD_dep, toD_d, toDs_fl, nble_d, hr, closeParts, cl2, int_bne]; exact iZ; (try dsimp only [putEnv]) <;> exact rfl)
 | (apply RT.call; (iterate 2 simp; exact iZ); exact iZ; (iterate 4 simp [dI, dL, hy0, hx1, hagt, hib, hb2, r1, f1, f2, r2, r3, r4, r6, r7, r8, fillV, toD_dep, toD_d, toDs_fl, nble_d, hr, closeParts, cl2, int_bne]; exact iZ); simp [Is]; (try dsimp only [putEnv]) <;> exact rfl; simp; exact iZ; simp; exact iZ)
 | (apply RT.clone; (iterate 2 simp; exact iZ); exact iZ; (iterate 2 simp [dI, dL, hy0, hx1, hagt, hib, hb2, r1, f1, f2, r2, r3, r4, r6, r7, r8, fillV, toD_dep, toD_d, toDs_fl, nble_d, hr, closeParts, cl2, int_bne]; exact iZ); (first | assumption | (simp [fitsB]; omega)); (try dsimp only [putEnv]) <;> exact rfl; simp [dI, dL, hy0, hx1, hagt, hib, hb2, r1, f1, f2, r2, r3, r4, r6, r7, r8, fillV, toD_dep, toD_d, toDs_fl, nble_d, hr, closeParts, cl2, int_bne]; exact iZ; simp; exact iZ)
 | (apply RT.callV; (iterate 2 simp; exact iZ); exact iZ; (iterate 3 simp [dI, dL, hy0, hx1, hagt, hib, hb2, r1, f1, f2, r2, r3, r4, r6, r7, r8, fillV, toD_dep, toD_d, toDs_fl, nble_d, hr, closeParts, cl2, int_bne]; exact iZ); (try dsimp only [putEnv]) <;> exact rfl)
 | (apply RT.wr; simp [dI, dL, hy0, hx1, hagt, hib, hb2, r1, f1, f2, r2, r3, r4, r6, r7, r8, fillV, toD_dep, toD_d, toDs_fl, nble_d, hr, closeParts, cl2, int_bne]; exact iZ; (try dsimp only [putEnv]) <;> exact rfl; simp [dI, dL, hy0, hx1, hagt, hib, hb2, r1, f1, f2, r2, r3, r4, r6, r7, r8, fillV, toD_dep, toD_d, toDs_fl, nble_d, hr, closeParts, cl2, int_bne]; exact iZ; (iterate 2 exact iZ); simp; exact iZ))); exact RT.nil); (case hc => first | (refine checkR_un [(0, 1), (0, 2), (1, 2), (0, 3), (1, 3), (0, 4), (1, 4), (0, 5), (1, 5), (2, 5), (3, 5), (4, 5), (0, 6), (1, 6), (2, 6), (3, 6), (4, 6), (0, 7), (1, 7), (2, 7), (3, 7), (4, 7), (5, 7), (6, 7), (0, 8), (1, 8), (2, 8), (3, 8), (4, 8), (0, 9), (1, 9), (2, 9), (3, 9), (4, 9), (0, 10), (1, 10), (0, 11), (1, 11), (2, 11), (3, 11), (4, 11), (5, 11), (6, 11), (7, 11), (8, 11), (9, 11), (10, 11), (0, 12), (1, 12), (2, 12), (3, 12), (4, 12), (5, 12), (6, 12), (7, 12), (8, 12), (9, 12), (10, 12), (0, 13), (1, 13)] (by kernel_rfl) (by kernel_rfl) rfl ?_; simp [memA, disj, nbeq_dec, nc]; done) | (show _ = _; kernel_rfl)); (case ht => simp [dI, dL, hy0, hx1, hagt, hib, hb2, r1, f1, f2, r2, r3, r4, r6, r7, r8, fillV, toD_dep, toD_d, toDs_fl, nble_d, hr, closeParts, cl2, int_bne]; exact iZ))
 | apply WP.block | apply WP.skip | apply WP.exit | apply WP.ret | refine WP.condT rfl ?_ | refine WP.condF rfl ?_)
  refine loop_next (by simp [hwj]; exact Is.rfl) ?_
  exact ⟨D - 1, by omega, j + 1, _, _, by omega, hv, by simp [hag], by simp [hy0, Y.cells_eq], by simp [hx1], st_eq (by simp [dI, dL, hwj]) rfl⟩
 ·simp at hb
  have hje : j = y.brs.length := by omega
  rw [hje, List.drop_length, brsW] at hv
  rw [← hv]
  refine wkcnv (jn @dI.eq_1 @dL.eq_1) ?_
  exact ⟨.inr rfl, rfl, _, rfl, rfl⟩
end
end Go.Ac
end

section
set_option maxRecDepth 4000
namespace Go.Ac
open Go.Proofs
attribute [local simp] Hp.get_set Ag_set Ag_refl Ag_trunc get_trunc_lt kf109 Ob.k109 kf70 Ob.k70
theorem fieldsE_k {y : Y} (h : fieldsE y = true) : y.k = 1 ∨ y.k = 2 ∨ y.k = 3 ∨ y.k = 4 ∨ y.k = 5 := by
 unfold fieldsE at h
 by_cases k12 : y.k = 1 ∨ y.k = 2
 ·omega
 rw [if_neg k12] at h
 by_cases k3 : y.k = 3
 ·omega
 rw [if_neg k3] at h
 by_cases k4 : y.k = 4
 ·omega
 rw [if_neg k4] at h
 by_cases k5 : y.k = 5
 ·omega
 rw [if_neg k5] at h; cases h
section
variable {ic gc iv gv ip gp im gm ii gi : Nat} {o : Oc} {ea : List Cl} {c : Cl}
set_option maxHeartbeats 4000000 in
theorem stmt109 {N : Nat} (ih : PListAt ic gc iv gv ip gp im gm ii gi o ea c N) (hW : KW o c) (cx : List Pr) (bl : List (List Y)) (hl : bl.length ≤ cx.length + 1) (hnb : nbB bl = true) (y : Y) (hN : y.sz < N + 1) (hbd : cx.length + szY bl.flatten + y.sz ≤ 8388600) (hok : y.ok) :
  QK ic gc iv gv ip gp im gm ii gi o ea c 109 [.ptr ic gc 0, aG y.cells, pP cx bl] (dI (stmtW o c cx bl.flatten y)) := by
 intro hp n cc hK
 obtain ⟨hy1, hy2, hy3, hy4⟩ := Y.ok_eq hok
 have hys := Y.sz_eq y
 have hB : BOK cx bl := ⟨by unfold MX; omega, hnb, by omega⟩
 have hco := hK.co
 have nc := nf hK.lc
 have ni := nf hK.li
 have hli := fun (look : Look) (sz by_ : Nat) (zr : Option (List V)) (y : Tx) (h : look ii = hp.get ii) => hK.look_ins (look := look) (sz := sz) (by_ := by_) (zr := zr) (x := y) h
 have hfm := form133 y
 simp only [aG, Y.cells_eq, List.map_cons, List.map_nil, dB] at hfm
 refine quietV_wp Tryz.func109 rfl (by kernel_rfl) rfl (fun _ => rfl) ?_
 rw [stmtW_eq]
 cases hfe : fieldsE y with
 | false =>
  rw [hfe] at hfm
  rw [if_pos rfl]
  refine wkcv (jn @envOf.eq_1 (jn @envOf.eq_2 (jn @aG.eq_1 (jn @pP.eq_1 (jn @Y.cells_eq (jn @dL.eq_1 @hfm)))))) ?_
  exact ⟨.inr rfl, rfl, _, rfl, rfl⟩
 | true =>
 rw [hfe] at hfm
 rw [if_neg (by decide)]
 have hst := fun h => (store136 (ic := ic) (gc := gc) (iv := iv) (gv := gv) (ip := ip) (gp := gp) (im := im) (gm := gm) (ii := ii) (gi := gi) (ea := ea) hW cx bl hB y h (by unfold MX; omega) hok).fn hK
 rcases fieldsE_k hfe with q | q | q | q | q
 ·rw [if_pos q]
  obtain ⟨F, G, hr⟩ := hst (.inl q)
  rw [← show storeP ⟨o, c, bl.flatten, cx⟩ y = (if (exprW ⟨o, c, bl.flatten, cx⟩ y.r).2 ≠ 0 then (exprW ⟨o, c, bl.flatten, cx⟩ y.r).2 else targetW ⟨o, c, bl.flatten, cx⟩ y.nm (exprW ⟨o, c, bl.flatten, cx⟩ y.r).1) by unfold storeP; rw [if_pos q]]
  generalize storeP ⟨o, c, bl.flatten, cx⟩ y = v at hr ⊢
  simp only [aG, pP, Y.cells_eq, List.map_cons, List.map_nil, dI, q] at hr
  simp only [q] at hfm
  refine wkcv (jn @envOf.eq_1 (jn @envOf.eq_2 (jn @aG.eq_1 (jn @pP.eq_1 (jn @Y.cells_eq (jn @dL.eq_1 (jn @hfm (jn @q @hr)))))))) ?_
  exact ⟨.inr rfl, rfl, _, rfl, rfl⟩
 ·rw [if_neg (by omega), if_pos q]
  obtain ⟨F, G, hr⟩ := hst (.inr q)
  rw [← show storeP ⟨o, c, bl.flatten, cx⟩ y = (if (exprW ⟨o, c, bl.flatten, cx⟩ y.r).2 ≠ 0 then (exprW ⟨o, c, bl.flatten, cx⟩ y.r).2 else if findM c.mems y.nm = 0 then 6 else if findM c.mems y.nm ≠ (exprW ⟨o, c, bl.flatten, cx⟩ y.r).1 then 10 else 0) by unfold storeP; rw [if_neg (by omega : ¬ y.k = 1)]]
  generalize storeP ⟨o, c, bl.flatten, cx⟩ y = v at hr ⊢
  simp only [aG, pP, Y.cells_eq, List.map_cons, List.map_nil, dI, q] at hr
  simp only [q] at hfm
  refine wkcv (jn @envOf.eq_1 (jn @envOf.eq_2 (jn @aG.eq_1 (jn @pP.eq_1 (jn @Y.cells_eq (jn @dL.eq_1 (jn @hfm (jn @q @hr)))))))) ?_
  exact ⟨.inr rfl, rfl, _, rfl, rfl⟩
 ·rw [if_neg (by omega), if_neg (by omega), if_pos q]
  obtain ⟨F, G, hr⟩ := (cases134 ih hW cx bl hl hnb y hN hbd hok).fn hK
  rw [show (if getT c y.nm = 0 then (6 : Int) else if readyW ⟨o, c, bl.flatten, cx⟩ y.nm = false then 22 else if y.t ≠ getT c y.nm ∨ getT c y.nm = 2 then 10 else if (y.brs.length : Int) ≠ sizeE o.en (getT c y.nm) then 9 else brsW o c cx bl.flatten y.nm 0 y.brs) = casesW ⟨o, c, bl.flatten, cx⟩ y from rfl]
  generalize casesW ⟨o, c, bl.flatten, cx⟩ y = v at hr ⊢
  simp only [aG, pP, Y.cells_eq, List.map_cons, List.map_nil, dI, q] at hr
  simp only [q] at hfm
  refine wkcv (jn @envOf.eq_1 (jn @envOf.eq_2 (jn @aG.eq_1 (jn @pP.eq_1 (jn @Y.cells_eq (jn @dL.eq_1 (jn @hfm (jn @q @hr)))))))) ?_
  exact ⟨.inr rfl, rfl, _, rfl, rfl⟩
 ·rw [if_neg (by omega), if_neg (by omega), if_neg (by omega), if_pos q]
  obtain ⟨F, G, hr⟩ := (call135 (ic := ic) (gc := gc) (iv := iv) (gv := gv) (ip := ip) (gp := gp) (im := im) (gm := gm) (ii := ii) (gi := gi) (ea := ea) hW cx bl hB y (by unfold MX; omega) hy3).fn hK
  simp only [aG, pP, Y.cells_eq, List.map_cons, List.map_nil, dI, q] at hr
  simp only [q] at hfm
  refine wkcv (jn @envOf.eq_1 (jn @envOf.eq_2 (jn @aG.eq_1 (jn @pP.eq_1 (jn @Y.cells_eq (jn @dL.eq_1 (jn @hfm (jn @q @hr)))))))) ?_
  exact ⟨.inr rfl, rfl, _, rfl, rfl⟩
 ·rw [if_neg (by omega), if_neg (by omega), if_neg (by omega), if_neg (by omega)]
  simp only [q] at hfm
  generalize hG : findI c.ins o.cl y.nm = G
  obtain ⟨g, ok⟩ := G
  cases ok with
  | false =>
   have hfo : foundC (g, false) = .agg [.d (.str []), .full [], .full [], .full [], .full [], .full [], .full []] := rfl
   repeat (first
 | apply WP.seq
 | (apply WP.reg; (case hR => dsimp only [prepL, prepO, List.map, gS, gZ]; exact iZ); (case hr => (repeat (first
 | (apply RT.op; simp [envOf, aG, pP, Y.cells_eq, dL, hfm, q, hco, nc, ni, hli, zt36, hG, hfo, fillV]; exact iZ; (try dsimp only [putEnv]) <;> exact rfl)
 | (apply RT.call; (iterate 2 simp; exact iZ); exact iZ; (iterate 4 simp [envOf, aG, pP, Y.cells_eq, dL, hfm, q, hco, nc, ni, hli, zt36, hG, hfo, fillV]; exact iZ); simp [Is]; (try dsimp only [putEnv]) <;> exact rfl; simp; exact iZ; simp; exact iZ)
 | (apply RT.callV; (iterate 2 simp; exact iZ); exact iZ; (iterate 3 simp [envOf, aG, pP, Y.cells_eq, dL, hfm, q, hco, nc, ni, hli, zt36, hG, hfo, fillV]; exact iZ); (try dsimp only [putEnv]) <;> exact rfl)
 | (apply RT.wr; simp [envOf, aG, pP, Y.cells_eq, dL, hfm, q, hco, nc, ni, hli, zt36, hG, hfo, fillV]; exact iZ; (try dsimp only [putEnv]) <;> exact rfl; simp [envOf, aG, pP, Y.cells_eq, dL, hfm, q, hco, nc, ni, hli, zt36, hG, hfo, fillV]; exact iZ; (iterate 2 exact iZ); simp; exact iZ))); exact RT.nil); (case hc => first | (refine checkR_un [(0, 4), (1, 4), (2, 4), (3, 4), (0, 5), (1, 5), (2, 5), (3, 5), (8, 9), (0, 10), (1, 10), (2, 10), (3, 10), (4, 10), (5, 10), (6, 10), (7, 10), (8, 10), (9, 10), (9, 11)] (by kernel_rfl) (by kernel_rfl) rfl ?_; simp [memA, disj, nbeq_dec, nc, ni]; done) | (show _ = _; kernel_rfl)); (case ht => simp [envOf, aG, pP, Y.cells_eq, dL, hfm, q, hco, nc, ni, hli, zt36, hG, hfo, fillV]; exact iZ))
 | apply WP.block | apply WP.skip | apply WP.exit | apply WP.ret | refine WP.condT rfl ?_ | refine WP.condF rfl ?_)
   exact ⟨.inr rfl, rfl, _, rfl, rfl⟩
  | true =>
   have hfo : foundC (g, true) = .agg [V.d (.str g.nm), V.d (.slice (encD g.inn)), V.d (.slice (encD g.out)), V.d (.slice (encD g.loc)), V.d (.slice (encM g.mems)), V.d (.slice (encJ g.ins)), V.d (.slice (encY g.step))] := rfl
   repeat (first
 | apply WP.seq
 | (apply WP.reg; (case hR => dsimp only [prepL, prepO, List.map, gS, gZ]; exact iZ); (case hr => (repeat (first
 | (apply RT.op; simp [envOf, aG, pP, Y.cells_eq, dL, hfm, q, hco, nc, ni, hli, zt36, hG, hfo, fillV]; exact iZ; (try dsimp only [putEnv]) <;> exact rfl)
 | (apply RT.call; (iterate 2 simp; exact iZ); exact iZ; (iterate 4 simp [envOf, aG, pP, Y.cells_eq, dL, hfm, q, hco, nc, ni, hli, zt36, hG, hfo, fillV]; exact iZ); simp [Is]; (try dsimp only [putEnv]) <;> exact rfl; simp; exact iZ; simp; exact iZ)
 | (apply RT.callV; (iterate 2 simp; exact iZ); exact iZ; (iterate 3 simp [envOf, aG, pP, Y.cells_eq, dL, hfm, q, hco, nc, ni, hli, zt36, hG, hfo, fillV]; exact iZ); (try dsimp only [putEnv]) <;> exact rfl)
 | (apply RT.wr; simp [envOf, aG, pP, Y.cells_eq, dL, hfm, q, hco, nc, ni, hli, zt36, hG, hfo, fillV]; exact iZ; (try dsimp only [putEnv]) <;> exact rfl; simp [envOf, aG, pP, Y.cells_eq, dL, hfm, q, hco, nc, ni, hli, zt36, hG, hfo, fillV]; exact iZ; (iterate 2 exact iZ); simp; exact iZ))); exact RT.nil); (case hc => first | (refine checkR_un [(0, 4), (1, 4), (2, 4), (3, 4), (0, 5), (1, 5), (2, 5), (3, 5), (8, 9), (0, 10), (1, 10), (2, 10), (3, 10), (4, 10), (5, 10), (6, 10), (7, 10), (8, 10), (9, 10), (9, 11)] (by kernel_rfl) (by kernel_rfl) rfl ?_; simp [memA, disj, nbeq_dec, nc, ni]; done) | (show _ = _; kernel_rfl)); (case ht => simp [envOf, aG, pP, Y.cells_eq, dL, hfm, q, hco, nc, ni, hli, zt36, hG, hfo, fillV]; exact iZ))
 | apply WP.block | apply WP.skip | apply WP.exit | apply WP.ret | refine WP.condT rfl ?_ | refine WP.condF rfl ?_)
   exact ⟨.inr rfl, rfl, _, rfl, rfl⟩
theorem nbB_app (a b : List (List Y)) : nbB (a ++ b) = (nbB a && nbB b) := by simp [nbB_all]

set_option maxHeartbeats 4000000 in
theorem list_step {N : Nat} (ih : PListAt ic gc iv gv ip gp im gm ii gi o ea c N) (hW : KW o c) (hpos : ∀ x, getT c x ≠ 0 → 0 < sizeE o.en (getT c x)) (l : List Y) (cx : List Pr) (bl : List (List Y)) (hN : szY l < N + 1) (hl : bl.length ≤ cx.length) (hnb : nbB bl = true) (hbd : cx.length + szY bl.flatten + szY l ≤ 8388600) (hok : okY l) :
  QK ic gc iv gv ip gp im gm ii gi o ea c 70 [.ptr ic gc 0, dL (encY l), pP cx bl] (dI (listW o c cx bl.flatten l)) := by
 intro hp n cc hK
 have k1 := len_szY l
 refine quietV_wp Tryz.func70 rfl (by kernel_rfl) rfl (fun _ => rfl) ?_
 refine wkcv (jn @envOf.eq_1 (jn @envOf.eq_2 (jn @pP.eq_1 (jn @dL.eq_1 @encY_len)))) ?_
 apply WP.loop' (I := fun D s => ∃ (j c' : Nat) (hp' : Hp), j + D = l.length ∧ listW o c cx (bl.flatten ++ l.take j) (l.drop j) = listW o c cx bl.flatten l ∧ nbL (l.take j) = true ∧ Ag n hp hp' ∧ hp'.get n = some ⟨cc, false, [V.d (.slice (encP cx)), V.d (.slice (encB bl))]⟩ ∧
  s = ⟨[(0, .ptr ic gc 0), (1, dL (encY l)), (5, .ptr n cc 0), (10, dL (encY l)), (11, dI l.length), (12, dI j)], hp', n + 1, c', n, []⟩) (d := l.length)
 ·exact ⟨0, _, _, by simp, by simp, by simp [nbL], by simp, by simp, st_eq (by simp [dI, dL]) rfl⟩
 rintro D _ ⟨j, c', hp', hj, hv, hnl, hag, hx0, rfl⟩
 have hagt := eq_true hag
 refine wkv (jn @dI.eq_1 @dL.eq_1) ?_
 show WP _ _ _ _ _ _
 refine WP.cond _ rfl (fun hb => ?_) (fun hb => ?_)
 ·simp at hb
  have hb' : j < l.length := by omega
  obtain ⟨y, hy, hym, hix⟩ := at_lt hb'
  have hy' := encY_at hy
  have hwj := w_succ hb' (by omega)
  have hsy := szY_take hy
  have hfl : (bl ++ [l.take j]).flatten = bl.flatten ++ l.take j := by simp
  obtain ⟨F, G, hr⟩ := (stmt109 (ic := ic) (gc := gc) (iv := iv) (gv := gv) (ip := ip) (gp := gp) (im := im) (gm := gm) (ii := ii) (gi := gi) (ea := ea) ih hW cx (bl ++ [l.take j]) (by simp; omega) (by rw [nbB_app, hnb]; simp [nbB, hnl]) y (by have := mem_szY hym; omega) (by rw [hfl, szY_app]; omega) ((okY_iff _).1 hok y hym)).fn hK
  rw [hfl] at hr
  have ha := at110 cx bl l j (by omega) (by omega) (by omega)
  rw [drop_at hy, listW] at hv
  simp only [aG, pP, Y.cells_eq, List.map_cons, List.map_nil, dI, dL, nbeq_self] at hr ha
  by_cases hz : stmtW o c cx (bl.flatten ++ l.take j) y = 0
  case neg =>
   have hz' := eq_false hz
   rw [if_pos hz] at hv
   rw [← hv]
   refine wkcv (jn @dI.eq_1 (jn @dL.eq_1 (jn @hx0 (jn @hagt (jn @hix (jn @hy' (jn @Y.cells_eq (jn @fillV.eq_1 (jn @fillV.eq_2 (jn @ha (jn @hr (jn @int_bne @hz')))))))))))) ?_
   exact ⟨.inr rfl, rfl, _, rfl, rfl⟩
  rw [if_neg (by simp [hz])] at hv
  rw [hz] at hr
  have hny : nbY y = true := by
   have := nb_of hpos (szY [y] + 1) [y] cx (bl.flatten ++ l.take j) (by omega) (by rw [listW, hz, listW]; rfl)
   rw [nbL, nbL] at this; simpa using this
  have htk := take_snoc hy
  refine wkcv (jn @dI.eq_1 (jn @dL.eq_1 (jn @hx0 (jn @hagt (jn @hix (jn @hy' (jn @Y.cells_eq (jn @fillV.eq_1 (jn @fillV.eq_2 (jn @ha (jn @hr @int_bne))))))))))) ?_
  refine loop_next (by simp [hwj]; exact Is.rfl) ?_
  exact ⟨D - 1, by omega, j + 1, _, _, by omega, by rw [htk, ← List.append_assoc]; exact hv, by rw [htk, nbL_all, List.all_append, ← nbL_all, hnl]; simp [hny], by simp [hag], by simp [hx0], st_eq (by simp [dI, dL, hwj]) rfl⟩
 ·simp at hb
  have hje : j = l.length := by omega
  rw [hje, List.drop_length, listW] at hv
  rw [← hv]
  refine wkcv (jn @dI.eq_1 @dL.eq_1) ?_
  exact ⟨.inr rfl, rfl, _, rfl, rfl⟩
set_option maxHeartbeats 4000000 in
theorem list_nil {N : Nat} (ih : PListAt ic gc iv gv ip gp im gm ii gi o ea c N) (hW : KW o c) (hpos : ∀ x, getT c x ≠ 0 → 0 < sizeE o.en (getT c x)) (l : List Y)  (hN : szY l < N + 1) (hu : True) (hbd : szY l ≤ 8388600) (hok : okY l) :
  QK ic gc iv gv ip gp im gm ii gi o ea c 70 [.ptr ic gc 0, dL (encY l), .agg [.full [], .full []]] (dI (listW o c [] [] l)) := by
 intro hp n cc hK
 have k1 := len_szY l
 refine quietV_wp Tryz.func70 rfl (by kernel_rfl) rfl (fun _ => rfl) ?_
 refine wkcv (jn @envOf.eq_1 (jn @envOf.eq_2 (jn @pP.eq_1 (jn @dL.eq_1 @encY_len)))) ?_
 apply WP.loop' (I := fun D s => ∃ (j c' : Nat) (hp' : Hp), j + D = l.length ∧ listW o c [] (l.take j) (l.drop j) = listW o c [] [] l ∧ nbL (l.take j) = true ∧ Ag n hp hp' ∧ hp'.get n = some ⟨cc, false, [.full [], .full []]⟩ ∧
  s = ⟨[(0, .ptr ic gc 0), (1, dL (encY l)), (5, .ptr n cc 0), (10, dL (encY l)), (11, dI l.length), (12, dI j)], hp', n + 1, c', n, []⟩) (d := l.length)
 ·exact ⟨0, _, _, by simp, by simp, by simp [nbL], by simp, by simp, st_eq (by simp [dI, dL]) rfl⟩
 rintro D _ ⟨j, c', hp', hj, hv, hnl, hag, hx0, rfl⟩
 have hagt := eq_true hag
 refine wkv (jn @dI.eq_1 @dL.eq_1) ?_
 show WP _ _ _ _ _ _
 refine WP.cond _ rfl (fun hb => ?_) (fun hb => ?_)
 ·simp at hb
  have hb' : j < l.length := by omega
  obtain ⟨y, hy, hym, hix⟩ := at_lt hb'
  have hy' := encY_at hy
  have hwj := w_succ hb' (by omega)
  have hsy := szY_take hy
  have hfl : [l.take j].flatten = l.take j := by simp
  obtain ⟨F, G, hr⟩ := (stmt109 (ic := ic) (gc := gc) (iv := iv) (gv := gv) (ip := ip) (gp := gp) (im := im) (gm := gm) (ii := ii) (gi := gi) (ea := ea) ih hW [] [l.take j] (by simp) (by simp [nbB, hnl]) y (by have := mem_szY hym; omega) (by rw [hfl]; simp; omega) ((okY_iff _).1 hok y hym)).fn hK
  rw [hfl] at hr
  have ha := at110 [] [] l j (by omega) (by simp) (by omega)
  rw [drop_at hy, listW] at hv
  simp only [aG, pP, Y.cells_eq, List.map_cons, List.map_nil, dI, dL, show encP [] = [] from rfl, show encB [] = [] from by simp [encB]] at hr ha
  by_cases hz : stmtW o c [] (l.take j) y = 0
  case neg =>
   have hz' := eq_false hz
   rw [if_pos hz] at hv
   rw [← hv]
   refine wkcv (jn @dI.eq_1 (jn @dL.eq_1 (jn @hx0 (jn @hagt (jn @hix (jn @hy' (jn @Y.cells_eq (jn @fillV.eq_1 (jn @fillV.eq_2 (jn @ha (jn @hr (jn @int_bne @hz')))))))))))) ?_
   exact ⟨.inr rfl, rfl, _, rfl, rfl⟩
  rw [if_neg (by simp [hz])] at hv
  rw [hz] at hr
  have hny : nbY y = true := by
   have := nb_of hpos (szY [y] + 1) [y] [] (l.take j) (by omega) (by rw [listW, hz, listW]; rfl)
   rw [nbL, nbL] at this; simpa using this
  have htk := take_snoc hy
  refine wkcv (jn @dI.eq_1 (jn @dL.eq_1 (jn @hx0 (jn @hagt (jn @hix (jn @hy' (jn @Y.cells_eq (jn @fillV.eq_1 (jn @fillV.eq_2 (jn @ha (jn @hr @int_bne))))))))))) ?_
  refine loop_next (by simp [hwj]; exact Is.rfl) ?_
  exact ⟨D - 1, by omega, j + 1, _, _, by omega, by rw [htk]; exact hv, by rw [htk, nbL_all, List.all_append, ← nbL_all, hnl]; simp [hny], by simp [hag], by simp [hx0], st_eq (by simp [dI, dL, hwj]) rfl⟩
 ·simp at hb
  have hje : j = l.length := by omega
  rw [hje, List.drop_length, listW] at hv
  rw [← hv]
  refine wkcv (jn @dI.eq_1 @dL.eq_1) ?_
  exact ⟨.inr rfl, rfl, _, rfl, rfl⟩
theorem list70 (hW : KW o c) (hpos : ∀ x, getT c x ≠ 0 → 0 < sizeE o.en (getT c x)) : ∀ N, PListAt ic gc iv gv ip gp im gm ii gi o ea c N := by
 intro N
 induction N with
 | zero => intro l cx bl h; omega
 | succ N ih => intro l cx bl hN hl hnb hbd hok; exact list_step ih hW hpos l cx bl hN hl hnb hbd hok
end
end Go.Ac
end

section
set_option maxRecDepth 4000
namespace Go.Ac
open Go.Proofs
section
variable {α : Type}
/-- A value under a name. -/
def mput (l : List (Tx × α)) (x : Tx) (v : α) : List (Tx × α) := match l.findIdx? (fun p => decide (p.1 = x)) with | some i => l.set i (x, v) | none => l ++ [(x, v)]
/-- The place of a name. -/
def mix (l : List (Tx × α)) (x : Tx) : Nat := match l.findIdx? (fun p => decide (p.1 = x)) with | some i => i | none => l.length
/-- A zero under a name that is not there. -/
def mputZ (l : List (Tx × α)) (x : Tx) (z : α) : List (Tx × α) := match l.findIdx? (fun p => decide (p.1 = x)) with | some i => l | none => l ++ [(x, z)]
theorem ixm_spec {l : List (Tx × α)} {x : Tx} {i : Nat} (h : l.findIdx? (fun p => decide (p.1 = x)) = some i) : ∃ hi : i < l.length, (l[i]'hi).1 = x := by
 obtain ⟨h1, h2, _⟩ := List.findIdx?_eq_some_iff_getElem.1 h
 exact ⟨h1, by simpa using h2⟩
theorem map_set_fst (l : List (Tx × α)) (x : Tx) (v : α) (i : Nat) (hi : i < l.length) (h : (l[i]'hi).1 = x) : (l.set i (x, v)).map (fun p => D.str p.1) = l.map fun p => D.str p.1 := by
 rw [List.map_set]
 apply List.ext_getElem
 ·simp
 ·intro j h1 h2
  simp only [List.getElem_set, List.getElem_map]
  split
  ·rename_i e; subst e; rw [h]
  ·rfl
theorem insert_mp (e : α → V) (l : List (Tx × α)) (v : α) {id g : Nat} {sz by_ : Nat} {zr : Option (List V)} {look : Look} {x : Tx} {w : V} (hw : w = e v) (h : look id = some ⟨g, false, [mpC e l]⟩) :
  insertV look ⟨.str, sz, by_, zr⟩ (.mp id g) (.d (.str x)) w = some ⟨.undef, [(id, ⟨g, false, [mpC e (mput l x v)]⟩)], [id], 0, 0, false⟩ := by
 subst hw
 unfold insertV
 have hl : live look id g = some ⟨g, false, [mpC e l]⟩ := by unfold live; rw [h]; simp
 simp only [keyOK, hl, mpC, findV_mp]
 unfold mput
 cases hf : List.findIdx? (fun p => decide (p.1 = x)) l with
 | none => simp [List.range_succ]
 | some i =>
  obtain ⟨hi, hx⟩ := ixm_spec hf
  have := map_set_fst l x v i hi hx
  simp [List.map_set] at this ⊢
  exact this.symm
theorem findB_range : ∀ (n s j i : Nat), i < n → findB ((s + i : Nat) : Int) (List.range' s n) j = some (j + i)
 | 0, s, j, i, h => by omega
 | n + 1, s, j, i, h => by
  rw [List.range'_succ, findB]
  cases i with
  | zero => simp
  | succ i =>
   have h1 : decide ((s : Int) = ((s + (i + 1) : Nat) : Int)) = false := by simp; omega
   rw [h1]
   have := findB_range n (s + 1) (j + 1) i (by omega)
   rw [show s + (i + 1) = s + 1 + i by omega, this, show j + 1 + i = j + (i + 1) by omega]
theorem findB_mp (n i : Nat) (h : i < n) : findB (i : Int) (List.range n) 0 = some i := by
 have := findB_range n 0 0 i h
 rw [List.range_eq_range']
 simpa using this
theorem mix_lt (l : List (Tx × α)) (x : Tx) (z : α) : mix l x < (mputZ l x z).length := by
 unfold mix mputZ
 cases hf : List.findIdx? (fun p => decide (p.1 = x)) l with
 | none => simp
 | some i => exact (ixm_spec hf).1
theorem entry_mp (e : α → V) (l : List (Tx × α)) (z : α) {id g : Nat} {sz by_ : Nat} {zr : Option (List V)} {look : Look} {x : Tx} {w : V} (hw : w = e z) (h : look id = some ⟨g, false, [mpC e l]⟩) :
  entryV look ⟨.str, sz, by_, zr⟩ (some w) (.mp id g) (.d (.str x)) = some ⟨.tuple [e ((mget l x).getD z), .d (.int .i64 (mix l x))], [(id, ⟨g, false, [mpC e (mputZ l x z)]⟩)], [id], 0, 0, false⟩ := by
 subst hw
 unfold entryV
 have hl : live look id g = some ⟨g, false, [mpC e l]⟩ := by unfold live; rw [h]; simp
 simp only [keyOK, hl, mpC, findV_mp]
 rw [← mget_idx]
 unfold mputZ mix
 cases hf : List.findIdx? (fun p => decide (p.1 = x)) l with
 | none => simp [List.range_succ]
 | some i =>
  obtain ⟨hi, hx⟩ := ixm_spec hf
  simp [hi]
theorem stamp_mp (e : α → V) (l : List (Tx × α)) (z v : α) {id g : Nat} {look : Look} {x : Tx} {w : V} (hw : w = e v) (h : look id = some ⟨g, false, [mpC e (mputZ l x z)]⟩) :
  stampV look (.mp id g) (.d (.int .i64 (mix l x))) w = some ⟨.undef, [(id, ⟨g, false, [mpC e (mput l x v)]⟩)], [id], 0, 0, false⟩ := by
 subst hw
 unfold stampV
 have hl : live look id g = some ⟨g, false, [mpC e (mputZ l x z)]⟩ := by unfold live; rw [h]; simp
 simp only [hl, mpC, findB_mp _ _ (mix_lt l x z)]
 unfold mputZ mix mput
 cases hf : List.findIdx? (fun p => decide (p.1 = x)) l with
 | none => simp
 | some i =>
  obtain ⟨hi, hx⟩ := ixm_spec hf
  have := map_set_fst l x v i hi hx
  simp [List.map_set] at this ⊢
  exact this.symm
theorem mget_app (l r : List (Tx × α)) (y : Tx) : mget (l ++ r) y = (mget l y).or (mget r y) := by
 unfold mget; rw [List.find?_append]; cases List.find? (fun p => decide (p.1 = y)) l <;> simp
theorem mget_set : ∀ (l : List (Tx × α)) (x y : Tx) (v : α) (i : Nat), l.findIdx? (fun p => decide (p.1 = x)) = some i → mget (l.set i (x, v)) y = if y = x then some v else mget l y
 | [], x, y, v, i, h => by simp at h
 | p :: r, x, y, v, i, h => by
  simp only [List.findIdx?_cons] at h
  by_cases hp : p.1 = x
  ·simp [hp] at h; subst h
   unfold mget
   simp only [List.set_cons_zero, List.find?_cons, hp]
   by_cases hy : y = x
   ·subst hy; simp
   ·rw [if_neg hy]
    have : decide (x = y) = false := by simp; exact fun e => hy e.symm
    simp [this]
  ·simp [hp] at h
   obtain ⟨k, hk, rfl⟩ := h
   have ih := mget_set r x y v k hk
   unfold mget at ih ⊢
   simp only [List.set_cons_succ, List.find?_cons]
   by_cases hy : p.1 = y
   ·have hne : y ≠ x := fun e => hp (hy.trans e)
    simp [hy, hne]
   ·simp [hy]
    exact ih
theorem mget_put (l : List (Tx × α)) (x y : Tx) (v : α) : mget (mput l x v) y = if y = x then some v else mget l y := by
 unfold mput
 cases hf : List.findIdx? (fun p => decide (p.1 = x)) l with
 | some i => exact mget_set l x y v i hf
 | none =>
  rw [mget_app]
  have hn : mget l x = none := by rw [← mget_idx, hf]
  by_cases hy : y = x
  ·subst hy; rw [hn, if_pos rfl]; simp [mget]
  ·rw [if_neg hy]
   have hd : decide (x = y) = false := by simp; exact fun e => hy e.symm
   have : mget [(x, v)] y = none := by unfold mget; simp [List.find?_cons, hd]
   rw [this]; cases mget l y <;> rfl
/-- Names with values, one after another. -/
def puts (l : List (Tx × α)) : List (Tx × α) → List (Tx × α)
 | [] => l
 | p :: r => puts (mput l p.1 p.2) r
theorem puts_snoc : ∀ (ds l : List (Tx × α)) (p : Tx × α), puts l (ds ++ [p]) = mput (puts l ds) p.1 p.2
 | [], l, p => rfl
 | d :: r, l, p => puts_snoc r (mput l d.1 d.2) p
theorem puts_app : ∀ (a l b : List (Tx × α)), puts l (a ++ b) = puts (puts l a) b
 | [], l, b => rfl
 | d :: r, l, b => puts_app r (mput l d.1 d.2) b
end
def dV (l : List Dc) : List (Tx × Int) := l.map fun d => (d.nm, d.t)
def dP (l : List Dc) : List (Tx × Bool) := l.map fun d => (d.nm, true)
def mV (l : List Mm) : List (Tx × Int) := l.map fun d => (d.nm, d.t)
def eI (t : Int) : V := .d (.int .i64 t)
def eBo (b : Bool) : V := .d (.bool b)
def eC (k : Cl) : V := aG k.cells
def xO (x : Cl) : Ob := ⟨0, false, x.cells.map .d⟩
def kO (en : List En) (ea : List Cl) (x : Cl) : Ob := ⟨5, false, [V.d (.slice (encE en)), V.d (.slice (encC ea)), V.d (.str x.nm), V.d (.slice (encD x.inn)), V.d (.slice (encD x.out)), V.d (.slice (encD x.loc)), V.d (.slice (encM x.mems)), V.d (.slice (encJ x.ins)), V.d (.slice (encY x.step)), .mp 1 1, .mp 2 2, .mp 3 3, .mp 4 4]⟩
/-- The memory while the class object is made. -/
def nHp (en : List En) (ea : List Cl) (x : Cl) (lv : List (Tx × Int)) (lp : List (Tx × Bool)) (lm : List (Tx × Int)) : Hp := [(0, xO x), (1, ⟨1, false, [mpC eI lv]⟩), (2, ⟨2, false, [mpC eBo lp]⟩), (3, ⟨3, false, [mpC eI lm]⟩), (4, ⟨4, false, [mpC eC []]⟩), (5, kO en ea x)]
theorem kf29 (r : Nat) : Ob.keep 29 r = Ob.k29 r := by kernel_rfl
attribute [local simp] kf29 Ob.k29

set_option maxHeartbeats 4000000 in
theorem new29 (en : List En) (ea : List Cl) (x : Cl) (hl : x.inn.length + x.out.length + x.loc.length + x.mems.length ≤ 8388608) :
  ∃ q, lim Tryz.prog Ob.cfg 29 [dL (encE en), dL (encC ea), aG x.cells] [] 0 0 = some q ∧ q.v = .ptr 5 5 0 ∧ q.n = 6 ∧ q.hp = nHp en ea x (puts (puts (puts [] (dV x.inn)) (dV x.out)) (dV x.loc)) (puts (puts [] (dP x.out)) (dP x.loc)) (puts [] (mV x.mems)) := by
 have main : ∃ (v : V) (t : St), lim Tryz.prog Ob.cfg 29 [dL (encE en), dL (encC ea), aG x.cells] [] 0 0 = some ⟨v, t.hp, t.n, t.c, t.wl⟩ ∧ v = .ptr 5 5 0 ∧ t.n = 6 ∧ t.hp = nHp en ea x (puts (puts (puts [] (dV x.inn)) (dV x.out)) (dV x.loc)) (puts (puts [] (dP x.out)) (dP x.loc)) (puts [] (mV x.mems)) := by
  refine lim_wp (Q := fun v (t : St) => v = .ptr 5 5 0 ∧ t.n = 6 ∧ t.hp = nHp en ea x (puts (puts (puts [] (dV x.inn)) (dV x.out)) (dV x.loc)) (puts (puts [] (dP x.out)) (dP x.loc)) (puts [] (mV x.mems))) Tryz.func29 rfl (by kernel_rfl) ?_
  refine wkc (jn @envOf.eq_1 (jn @envOf.eq_2 (jn @dL.eq_1 (jn @aG.eq_1 (jn @Cl.cells.eq_1 (jn @makeMapV.eq_1 (jn @fillV.eq_1 (jn @fillV.eq_2 @Value.oneCell'.eq_def)))))))) ?_
  apply WP.loop' (I := fun D s => ∃ i : Nat, i + D = x.inn.length ∧ SE [(5, .ptr 0 0 0), (7, .ptr 5 5 0), (26, dL (encD x.inn)), (27, dI x.inn.length), (28, dI i)] (nHp en ea x (puts [] (dV (x.inn.take i))) [] []) 6 s) (d := x.inn.length)
  ·exact ⟨0, by simp, SE.mk (by simp [dI, dL]) (by simp [nHp, xO, kO, Cl.cells, dL, dI, dV, puts, mpC])⟩
  rintro D _ ⟨i, hi, cc, rfl⟩
  refine wk (jn @dI.eq_1 @dL.eq_1) ?_
  show WP _ _ _ _ _ _
  refine WP.cond _ rfl (fun hb => ?_) (fun hb => ?_)
  ·simp at hb
   have hb' : i < x.inn.length := by omega
   obtain ⟨d, hd, hdm, hix⟩ := at_lt hb'
   have hd' := encD_at hd
   have hw := w_succ hb' (by omega)
   have htk := take_snoc hd
   have e1 := fun look zr h => insert_mp eI (puts [] (dV (x.inn.take i))) d.t (id := 1) (g := 1) (sz := 1) (by_ := 16) (zr := zr) (look := look) (x := d.nm) (w := .d (.int .i64 d.t)) rfl h
   refine wkc (jn @nHp.eq_1 (jn @xO.eq_1 (jn @kO.eq_1 (jn @Cl.cells.eq_1 (jn @dL.eq_1 (jn @dI.eq_1 (jn @hix (jn @hd' (jn @Dc.cells.eq_1 (jn @fillV.eq_1 (jn @fillV.eq_2 @e1))))))))))) ?_
   refine loop_next (by simp [hw]; exact Is.rfl) ?_
   exact ⟨D - 1, by omega, i + 1, by omega, SE.mk (by simp [dI, dL, hw]) (by rw [htk]; simp only [dV, List.map_append, List.map_cons, List.map_nil, puts_snoc]; rfl)⟩
  simp at hb
  have hie : i = x.inn.length := by omega
  subst hie
  rw [List.take_length]
  clear hb hi
  refine wkc (jn @nHp.eq_1 (jn @xO.eq_1 (jn @kO.eq_1 (jn @Cl.cells.eq_1 (jn @dL.eq_1 (jn @dI.eq_1 (jn @fillV.eq_1 @fillV.eq_2))))))) ?_
  apply WP.loop' (I := fun D s => ∃ j : Nat, j + D = 2 ∧ SE [(5, .ptr 0 0 0), (7, .ptr 5 5 0), (45, .agg [dL (encD x.out), dL (encD x.loc)]), (46, dI j)] (nHp en ea x (puts (puts [] (dV x.inn)) (if j = 0 then [] else if j = 1 then dV x.out else dV x.out ++ dV x.loc)) (puts [] (if j = 0 then [] else if j = 1 then dP x.out else dP x.out ++ dP x.loc)) []) 6 s) (d := 2)
  ·exact ⟨0, by simp, SE.mk (by simp [dI, dL]) (by simp [nHp, xO, kO, Cl.cells, dL, dI, puts])⟩
  rintro D _ ⟨j, hj, cc, rfl⟩
  obtain rfl | rfl | rfl : j = 0 ∨ j = 1 ∨ j = 2 := by omega
  ·refine wkc (jn @dI.eq_1 (jn @dL.eq_1 (jn @idx.eq_def (jn @puts.eq_1 (jn @puts.eq_2 (jn @nHp.eq_1 (jn @xO.eq_1 (jn @kO.eq_1 (jn @Cl.cells.eq_1 (jn @dL.eq_1 @dI.eq_1)))))))))) ?_
   apply WP.loop' (I := fun D s => ∃ i : Nat, i + D = x.out.length ∧ SE [(5, .ptr 0 0 0), (7, .ptr 5 5 0), (45, .agg [dL (encD x.out), dL (encD x.loc)]), (46, dI 0), (49, dL (encD x.out)), (50, dI x.out.length), (51, dI i)] (nHp en ea x (puts (puts [] (dV x.inn)) (dV (x.out.take i))) (puts [] (dP (x.out.take i))) []) 6 s) (d := x.out.length)
   ·exact ⟨0, by simp, SE.mk (by simp [dI, dL]) (by simp [nHp, xO, kO, Cl.cells, dL, dI, dV, dP, puts])⟩
   rintro D2 _ ⟨i, hi, cc2, rfl⟩
   refine wk (jn @dI.eq_1 @dL.eq_1) ?_
   show WP _ _ _ _ _ _
   refine WP.cond _ rfl (fun hb => ?_) (fun hb => ?_)
   ·simp at hb
    have hb' : i < x.out.length := by omega
    obtain ⟨d, hd, hdm, hix⟩ := at_lt hb'
    have hd' := encD_at hd
    have hw := w_succ hb' (by omega)
    have htk := take_snoc hd
    have e1 := fun look zr h => entry_mp eI (puts (puts [] (dV x.inn)) (dV (x.out.take i))) 0 (id := 1) (g := 1) (sz := 1) (by_ := 16) (zr := zr) (look := look) (x := d.nm) (w := .d (.int .i64 0)) rfl h
    have e2 := fun look h => stamp_mp eI (puts (puts [] (dV x.inn)) (dV (x.out.take i))) 0 d.t (id := 1) (g := 1) (look := look) (x := d.nm) (w := .d (.int .i64 d.t)) rfl h
    have e3 := fun look zr h => entry_mp eBo (puts [] (dP (x.out.take i))) false (id := 2) (g := 2) (sz := 1) (by_ := 16) (zr := zr) (look := look) (x := d.nm) (w := .d (.bool false)) rfl h
    have e4 := fun look h => stamp_mp eBo (puts [] (dP (x.out.take i))) false true (id := 2) (g := 2) (look := look) (x := d.nm) (w := .d (.bool true)) rfl h
    refine wkc (jn @nHp.eq_1 (jn @xO.eq_1 (jn @kO.eq_1 (jn @Cl.cells.eq_1 (jn @dL.eq_1 (jn @dI.eq_1 (jn @hix (jn @hd' (jn @Dc.cells.eq_1 (jn @fillV.eq_1 (jn @fillV.eq_2 (jn @zt3 (jn @zt4 (jn @e1 (jn @e2 (jn @e3 @e4)))))))))))))))) ?_
    refine loop_next (by simp [hw]; exact Is.rfl) ?_
    exact ⟨D2 - 1, by omega, i + 1, by omega, SE.mk (by simp [dI, dL, hw]) (by rw [htk]; simp only [dV, dP, List.map_append, List.map_cons, List.map_nil, puts_snoc]; rfl)⟩
   simp at hb
   have hie : i = x.out.length := by omega
   subst hie
   rw [List.take_length]
   clear hb hi
   refine wkc (jn @dI.eq_1 @dL.eq_1) ?_
   refine loop_next (by simp; exact Is.rfl) ?_
   exact ⟨1, by omega, 1, by omega, SE.mk (by simp [dI, dL]; try decide) (by simp [puts_app, puts]; try rfl)⟩
  ·refine wkc (jn @dI.eq_1 (jn @dL.eq_1 (jn @idx.eq_def (jn @puts.eq_1 (jn @puts.eq_2 (jn @nHp.eq_1 (jn @xO.eq_1 (jn @kO.eq_1 (jn @Cl.cells.eq_1 (jn @dL.eq_1 @dI.eq_1)))))))))) ?_
   apply WP.loop' (I := fun D s => ∃ i : Nat, i + D = x.loc.length ∧ SE [(5, .ptr 0 0 0), (7, .ptr 5 5 0), (45, .agg [dL (encD x.out), dL (encD x.loc)]), (46, dI 1), (49, dL (encD x.loc)), (50, dI x.loc.length), (51, dI i)] (nHp en ea x (puts (puts (puts [] (dV x.inn)) (dV x.out)) (dV (x.loc.take i))) (puts (puts [] (dP x.out)) (dP (x.loc.take i))) []) 6 s) (d := x.loc.length)
   ·exact ⟨0, by simp, SE.mk (by simp [dI, dL]) (by simp [nHp, xO, kO, Cl.cells, dL, dI, dV, dP, puts])⟩
   rintro D2 _ ⟨i, hi, cc2, rfl⟩
   refine wk (jn @dI.eq_1 @dL.eq_1) ?_
   show WP _ _ _ _ _ _
   refine WP.cond _ rfl (fun hb => ?_) (fun hb => ?_)
   ·simp at hb
    have hb' : i < x.loc.length := by omega
    obtain ⟨d, hd, hdm, hix⟩ := at_lt hb'
    have hd' := encD_at hd
    have hw := w_succ hb' (by omega)
    have htk := take_snoc hd
    have e1 := fun look zr h => entry_mp eI (puts (puts (puts [] (dV x.inn)) (dV x.out)) (dV (x.loc.take i))) 0 (id := 1) (g := 1) (sz := 1) (by_ := 16) (zr := zr) (look := look) (x := d.nm) (w := .d (.int .i64 0)) rfl h
    have e2 := fun look h => stamp_mp eI (puts (puts (puts [] (dV x.inn)) (dV x.out)) (dV (x.loc.take i))) 0 d.t (id := 1) (g := 1) (look := look) (x := d.nm) (w := .d (.int .i64 d.t)) rfl h
    have e3 := fun look zr h => entry_mp eBo (puts (puts [] (dP x.out)) (dP (x.loc.take i))) false (id := 2) (g := 2) (sz := 1) (by_ := 16) (zr := zr) (look := look) (x := d.nm) (w := .d (.bool false)) rfl h
    have e4 := fun look h => stamp_mp eBo (puts (puts [] (dP x.out)) (dP (x.loc.take i))) false true (id := 2) (g := 2) (look := look) (x := d.nm) (w := .d (.bool true)) rfl h
    refine wkc (jn @nHp.eq_1 (jn @xO.eq_1 (jn @kO.eq_1 (jn @Cl.cells.eq_1 (jn @dL.eq_1 (jn @dI.eq_1 (jn @hix (jn @hd' (jn @Dc.cells.eq_1 (jn @fillV.eq_1 (jn @fillV.eq_2 (jn @zt3 (jn @zt4 (jn @e1 (jn @e2 (jn @e3 @e4)))))))))))))))) ?_
    refine loop_next (by simp [hw]; exact Is.rfl) ?_
    exact ⟨D2 - 1, by omega, i + 1, by omega, SE.mk (by simp [dI, dL, hw]) (by rw [htk]; simp only [dV, dP, List.map_append, List.map_cons, List.map_nil, puts_snoc]; rfl)⟩
   simp at hb
   have hie : i = x.loc.length := by omega
   subst hie
   rw [List.take_length]
   clear hb hi
   refine wkc (jn @dI.eq_1 @dL.eq_1) ?_
   refine loop_next (by simp; exact Is.rfl) ?_
   exact ⟨0, by omega, 2, by omega, SE.mk (by simp [dI, dL]; try decide) (by simp [puts_app, puts]; try rfl)⟩
  ·refine wkc (jn @dI.eq_1 (jn @dL.eq_1 (jn @puts_app (jn @puts.eq_1 (jn @puts.eq_2 (jn @nHp.eq_1 (jn @xO.eq_1 (jn @kO.eq_1 (jn @Cl.cells.eq_1 (jn @dL.eq_1 @dI.eq_1)))))))))) ?_
   apply WP.loop' (I := fun D s => ∃ i : Nat, i + D = x.mems.length ∧ SE [(7, .ptr 5 5 0), (76, dL (encM x.mems)), (77, dI x.mems.length), (78, dI i)] (nHp en ea x (puts (puts (puts [] (dV x.inn)) (dV x.out)) (dV x.loc)) (puts (puts [] (dP x.out)) (dP x.loc)) (puts [] (mV (x.mems.take i)))) 6 s) (d := x.mems.length)
   ·exact ⟨0, by simp, SE.mk (by simp [dI, dL]) (by simp [nHp, xO, kO, Cl.cells, dL, dI, mV, puts_app, puts])⟩
   rintro D2 _ ⟨i, hi, cc2, rfl⟩
   refine wk (jn @dI.eq_1 @dL.eq_1) ?_
   show WP _ _ _ _ _ _
   refine WP.cond _ rfl (fun hb => ?_) (fun hb => ?_)
   ·simp at hb
    have hb' : i < x.mems.length := by omega
    obtain ⟨d, hd, hdm, hix⟩ := at_lt hb'
    have hd' := encM_at hd
    have hw := w_succ hb' (by omega)
    have htk := take_snoc hd
    have e1 := fun look zr h => insert_mp eI (puts [] (mV (x.mems.take i))) d.t (id := 3) (g := 3) (sz := 1) (by_ := 16) (zr := zr) (look := look) (x := d.nm) (w := .d (.int .i64 d.t)) rfl h
    refine wkc (jn @nHp.eq_1 (jn @xO.eq_1 (jn @kO.eq_1 (jn @Cl.cells.eq_1 (jn @dL.eq_1 (jn @dI.eq_1 (jn @hix (jn @hd' (jn @Mm.cells.eq_1 (jn @fillV.eq_1 (jn @fillV.eq_2 @e1))))))))))) ?_
    refine loop_next (by simp [hw]; exact Is.rfl) ?_
    exact ⟨D2 - 1, by omega, i + 1, by omega, SE.mk (by simp [dI, dL, hw]) (by rw [htk]; simp only [mV, List.map_append, List.map_cons, List.map_nil, puts_snoc]; rfl)⟩
   simp at hb
   have hie : i = x.mems.length := by omega
   subst hie
   rw [List.take_length]
   refine wkc (jn @dI.eq_1 @dL.eq_1) ?_
   exact ⟨.inr rfl, _, rfl, .inr rfl, rfl, rfl, rfl⟩
 obtain ⟨v, t, h1, h2, h3, h4⟩ := main
 exact ⟨_, h1, h2, h3, h4⟩
end Go.Ac
end
