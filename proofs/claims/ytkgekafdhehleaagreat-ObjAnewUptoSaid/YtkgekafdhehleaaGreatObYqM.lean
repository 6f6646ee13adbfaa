/- ObAnew by data. -/
import Derived.Test.YtkgekafdhehleaaGreatObKaM
import Derived.Test.YtkgekafdhehleaaGreatObH
set_option linter.unusedVariables false
set_option linter.unusedSimpArgs false
section
set_option maxRecDepth 4000
namespace Go.Ac
open Go.Proofs
attribute [local simp] Hp.get_set addNew_zero get_trunc_lt
theorem ow_of {o : Oc} (hsz : o.sz ≤ 2097152) (hok : o.ok) (h : checkRef o = 0) : OW o := by
 unfold Oc.sz at hsz
 have hm : ∀ c, c ∈ o.cl → c.inn.length + c.out.length + c.loc.length + c.mems.length + c.ins.length + szY c.step ≤ 2097152 := fun c hc => by
  have hcs := mem_szC hc
  unfold Cl.sz at hcs
  have l1 := len_szD c.inn
  have l2 := len_szD c.out
  have l3 := len_szD c.loc
  have l4 := len_szM c.mems
  have l5 := len_szJ c.ins
  omega
 exact ⟨cwf_of h, fun c hc => ⟨by have := hm c hc; omega⟩, hok, fun c hc => by have := hm c hc; omega⟩
theorem encL_row {l : List (List Int)} {j : Nat} (h : j < l.length) : (encL l)[j]? = some [.slice (encI (l.getD j []))] := by
 unfold encL; simp [List.getD, h]
theorem encL_len (l : List (List Int)) : (encL l).length = l.length := by unfold encL; simp
/-- What a step leaves. -/
theorem stepR_ok {o : Oc} (hO : OW o) {t : Trn} (ht : t.ok o) (ins : List Int) : (stepR o.en t ins).1.ok o ∧ (stepR o.en t ins).1.c = t.c ∧ (stepR o.en t ins).1.bare = t.bare ∧ ((stepR o.en t ins).2.2 = 0 → insOK o.en t.c.out (stepR o.en t ins).2.1) ∧ ((stepR o.en t ins).2.2 ≠ 0 → (stepR o.en t ins).2.1 = []) := by
 unfold stepR
 split
 ·exact ⟨ht, rfl, rfl, fun h => by simp at h, fun _ => rfl⟩
 ·rename_i h1
  split
  ·exact ⟨ht, rfl, rfl, fun h => by simp at h, fun _ => rfl⟩
  ·rename_i h2
   have := stepT_ok hO.wf t.ht t ins (Nat.le_refl _) ht (okI_of (by simpa using h1) (by simpa using h2))
   exact ⟨this.1, this.2.1, stepT_bare _ _ _, fun _ => this.2.2.2, fun h => absurd rfl h⟩
/-- After a step. -/
theorem Lies.step {en : List En} {t u : Trn} {p : Pt} {hp hp' hpz : Hp} {n : Nat} (h : Lies en t p hp n) (hb : u.bare = t.bare) (hf : ∀ k, k < n → k ∉ mids p → hp'.get k = hp.get k) (hm : ∀ e, e ∈ meC u p → hpz.get e.1 = some e.2) (hs : ∀ k, k < n → (hpz.get k).isSome = true → hp'.get k = hpz.get k) : Lies en u p hp' n := by
 refine h.upd hb hf fun e he => ?_
 have hfi : Go.Ac.fit u p := by rw [← fit_bare, hb, fit_bare]; exact h.fit
 have hlt := h.mids_lt e.1 (by rw [← meC_keys _ _ hfi]; exact List.mem_map.2 ⟨e, he, rfl⟩)
 have h2 := hm e he
 rw [hs _ hlt (by rw [h2]; rfl)]; exact h2
end Go.Ac
end

section
set_option maxRecDepth 4000
namespace Go.Ac
open Go.Proofs
attribute [local simp] Hp.get_set addNew_zero get_trunc_lt
/-- Two instances that lie apart. -/
structure Two (en : List En) (t : Trn) (p : Pt) (u : Trn) (r : Pt) (hp : Hp) (n : Nat) : Prop where
 a : Lies en t p hp n
 b : Lies en u r hp n
 d1 : ∀ k, k ∈ sids r ++ mids r → k ∉ mids p
 d2 : ∀ k, k ∈ sids p ++ mids p → k ∉ mids r
theorem Two.stepa {en : List En} {t t' u : Trn} {p r : Pt} {hp hp' : Hp} {n : Nat} (h : Two en t p u r hp n) (hL : Lies en t' p hp' n) (hf : ∀ k, k < n → k ∉ mids p → hp'.get k = hp.get k) : Two en t' p u r hp' n := by
 refine ⟨hL, h.b.same2 (fun k hk => hf k ?_ (h.d1 k hk)) (Nat.le_refl _), h.d1, h.d2⟩
 rcases List.mem_append.1 hk with hk | hk
 ·exact h.b.sids_lt k hk
 ·exact h.b.mids_lt k hk
theorem Two.stepb {en : List En} {t u u' : Trn} {p r : Pt} {hp hp' : Hp} {n : Nat} (h : Two en t p u r hp n) (hL : Lies en u' r hp' n) (hf : ∀ k, k < n → k ∉ mids r → hp'.get k = hp.get k) : Two en t p u' r hp' n := by
 refine ⟨h.a.same2 (fun k hk => hf k ?_ (h.d2 k hk)) (Nat.le_refl _), hL, h.d1, h.d2⟩
 rcases List.mem_append.1 hk with hk | hk
 ·exact h.a.sids_lt k hk
 ·exact h.a.mids_lt k hk
theorem Two.mono {en : List En} {t u : Trn} {p r : Pt} {hp hp' : Hp} {n : Nat} (h : Two en t p u r hp n) (ha : Ag n hp hp') : Two en t p u r hp' n := ⟨h.a.mono ha (Nat.le_refl _), h.b.mono ha (Nat.le_refl _), h.d1, h.d2⟩
theorem Lies.ob {en : List En} {t : Trn} {p : Pt} {hp : Hp} {n : Nat} (h : Lies en t p hp n) : p.a.x < n ∧ hp.get p.a.x = some (oO p.a.gx en t.c p.a.im p.a.gm p.a.ii p.a.gi) :=
 h.st (p.a.x, oO p.a.gx en t.c p.a.im p.a.gm p.a.ii p.a.gi) (by cases t; cases p; rw [stC]; simp [Trn.c, Pt.a])
/-- The memories of another instance, loaded. -/
theorem loadR_mem {o : Oc} (hO : OW o) {t u : Trn} (ht : t.ok o) (hu : u.ok o) (hb : t.bare = u.bare) : loadR o.en t (memT u) = (u, 0) := by
 have hl : (memT u).length = (typT t).length := by rw [mem_len hO.wf u hu, typ_bare hO.wf t u hb]
 have hk : okM o.en (typT t) (memT u) = true := by
  unfold okM
  rw [List.all_eq_true]
  intro x hx
  obtain ⟨i, hi⟩ := List.mem_iff_getElem?.1 hx
  rw [List.getElem?_zip_eq_some] at hi
  exact mem_ty hO.wf u hu i x.1 x.2 (by rw [typ_bare hO.wf u t hb.symm]; exact hi.1) hi.2
 have := load_mem hO.wf t u [] ht hu hb
 rw [List.append_nil] at this
 unfold loadR
 rw [if_neg (by simp [hl]), if_neg (by simp [hk]), this]
/-- A new instance is as after Reset. -/
theorem newT_init {o : Oc} (h : checkRef o = 0) : ∀ (k i : Nat) (c : Cl), o.cl[i]? = some c → i < k → (newT o k c).init = newT o k c
 | 0, i, c, _, hi => by omega
 | k + 1, i, c, hc, hi => by
  have hn := (cwf_of h c (List.mem_of_getElem? hc)).mn
  have hmn : ((mI c.mems).map Prod.fst) = c.mems.map Mm.nm := by unfold mI; rw [List.map_map]; rfl
  have hp : puts [] (mI c.mems) = mI c.mems := by
   have := puts_nd (mI c.mems) [] (by rw [List.nil_append, hmn]; exact hn)
   simpa using this
  rw [newT, Trn.init, hp, puts_over rfl (by rw [hmn]; exact hn), initL_map, List.map_map]
  congr 1
  apply List.map_congr_left
  intro d hd
  obtain ⟨j, hj, hja, _⟩ := ins_before h hc d hd
  exact newT_init h k j _ hja (by omega)
theorem kf8 (r : Nat) : Ob.keep 8 r = Ob.k8 r := by kernel_rfl
attribute [local simp] kf8 Ob.k8
set_option maxHeartbeats 8000000 in
theorem anew_den (o : Oc) (nm : Tx) (rows more : List (List Int)) (hsz : o.sz ≤ 2097152) (hok : o.ok) (hr1 : rows.length ≤ 1048576) (hr2 : ∀ r ∈ rows, r.length ≤ 1048576) (hr3 : more.length ≤ 1048576) (hr4 : ∀ r ∈ more, r.length ≤ 1048576) : den Tryz.prog Ob.cfg 8 [aG o.cells, dS nm, dLL rows, dLL more] = some (dB true) := by
 have haw := awake_den
 simp only [dB] at haw
 by_cases hbig : 12 < isum o.cl
 ·have hh := heavy_big o (by unfold MX; omega) hbig
  simp only [aG, Oc.cells, List.map_cons, List.map_nil, dB, dI] at hh
  refine den_wp Tryz.func8 rfl (by kernel_rfl) rfl rfl ?_
  refine wkcitv (jn @aG.eq_1 (jn @Oc.cells.eq_1 (jn @dLL.eq_1 (jn @dS.eq_1 (jn @hh (jn @haw @encL_len)))))) ?_
  show retQ _ _ _ _ _
  exact ⟨.inr rfl, _, _, rfl, rfl⟩
 obtain ⟨bh, hh⟩ := heavy_den o (by unfold MX; omega)
 have hsz' := hsz
 unfold Oc.sz at hsz'
 have k2 := len_szC o.cl
 simp only [aG, Oc.cells, List.map_cons, List.map_nil, dB, dI] at hh
 cases bh with
 | true =>
  refine den_wp Tryz.func8 rfl (by kernel_rfl) rfl rfl ?_
  refine wkcitv (jn @aG.eq_1 (jn @Oc.cells.eq_1 (jn @dLL.eq_1 (jn @dS.eq_1 (jn @hh (jn @haw @encL_len)))))) ?_
  show retQ _ _ _ _ _
  exact ⟨.inr rfl, _, _, rfl, rfl⟩
 | false =>
 by_cases c1 : 20 < rows.length
 ·have c1' := eq_true (show (20 : Int) < rows.length by omega)
  refine den_wp Tryz.func8 rfl (by kernel_rfl) rfl rfl ?_
  refine wkcitv (jn @aG.eq_1 (jn @Oc.cells.eq_1 (jn @dLL.eq_1 (jn @dS.eq_1 (jn @hh (jn @haw (jn @encL_len @c1'))))))) ?_
  show retQ _ _ _ _ _
  exact ⟨.inr rfl, _, _, rfl, rfl⟩
 have c1' := eq_false (show ¬ (20 : Int) < rows.length by omega)
 by_cases c2 : 20 < more.length
 ·have c2' := eq_true (show (20 : Int) < more.length by omega)
  refine den_wp Tryz.func8 rfl (by kernel_rfl) rfl rfl ?_
  refine wkcitv (jn @aG.eq_1 (jn @Oc.cells.eq_1 (jn @dLL.eq_1 (jn @dS.eq_1 (jn @hh (jn @haw (jn @encL_len (jn @c1' @c2')))))))) ?_
  show retQ _ _ _ _ _
  exact ⟨.inr rfl, _, _, rfl, rfl⟩
 have c2' := eq_false (show ¬ (20 : Int) < more.length by omega)
 have bad : ∀ e : Int, e ≠ 0 → den Tryz.prog Ob.cfg 13 [aG o.cells, dS nm] = some (.tuple [.con (.pointer none), dI e]) → den Tryz.prog Ob.cfg 8 [aG o.cells, dS nm, dLL rows, dLL more] = some (dB true) := by
  intro e he hb
  have he' := eq_false he
  simp only [aG, Oc.cells, List.map_cons, List.map_nil, dS, dI] at hb
  refine den_wp Tryz.func8 rfl (by kernel_rfl) rfl rfl ?_
  refine wkcitv (jn @aG.eq_1 (jn @Oc.cells.eq_1 (jn @dI.eq_1 (jn @dLL.eq_1 (jn @dS.eq_1 (jn @hh (jn @haw (jn @encL_len (jn @c1' (jn @c2' (jn @hb (jn @int_beq (jn @int_bne @he'))))))))))))) ?_
  show retQ _ _ _ _ _
  exact ⟨.inr rfl, _, _, rfl, rfl⟩
 by_cases hck : checkRef o = 0
 case neg => exact bad _ hck (new13_bad o nm hsz hok hck)
 cases hfn : (findC o.cl nm).2 with
 | false => exact bad 6 (by omega) (new13_none o nm hsz hok hck hfn)
 | true =>
 have hO := ow_of hsz hok hck
 obtain ⟨i, _, hia, _⟩ := findC_ix hfn
 have hilt := (List.getElem?_eq_some_iff.1 hia).1
 obtain ⟨q, p0, hI1, hqv, hLq⟩ := new13_ok o nm hsz hok hck hfn
 have hto := newT_ok hck o.cl.length i _ hia hilt
 have hml : ∀ c, c ∈ o.cl → c.mems.length ≤ 2097152 := fun c hc => by
  have h1 := mem_szC hc
  unfold Cl.sz at h1
  have h2 := len_szM c.mems
  omega
 have hbd := mem_bound hck hml o.cl.length i _ hia hilt
 have hbd2 : 2097152 * 2 ^ isum (o.cl.take (i + 1)) ≤ 2097152 * 2 ^ 12 := Nat.mul_le_mul_left _ (Nat.pow_le_pow_right (by omega) (by have := isum_mono o.cl o.cl.length (i + 1) (by omega); rw [List.take_length] at this; omega))
 have hni := newT_init hck o.cl.length i _ hia hilt
 generalize newT o o.cl.length (findC o.cl nm).1 = t0 at hLq hto hbd hni
 have hT0 : (typT t0).length ≤ 17592186044416 := by rw [← mem_len hO.wf t0 hto]; omega
 clear hbd hbd2 hml
 have hlen : ∀ t : Trn, t.ok o → t.bare = t0.bare → (memT t).length ≤ 17592186044416 ∧ (typT t).length ≤ 17592186044416 := fun t ht hb => by
  have h1 := mem_len hO.wf t ht
  rw [typ_bare hO.wf t t0 hb] at h1 ⊢
  omega
 have hI2 : closeT noLook q.v = none := by rw [hqv]; rfl
 obtain ⟨p, hp⟩ : ∃ p, p = p0.sh 1 1 := ⟨_, rfl⟩
 have hI3 : shiftV 1 1 q.v = .tuple [.ptr p.a.x p.a.gx 0, dI 0] := by rw [hqv, hp, Pt.sh_a]; simp [shiftV, shiftVs, Pb.sh, dI]
 obtain ⟨W1, hI4⟩ : ∃ W, shiftH 1 1 (wrOf q.hp.get (List.range q.n)) = W := ⟨_, rfl⟩
 simp only [aG, Oc.cells, List.map_cons, List.map_nil, dS] at hI1
 refine den_wp Tryz.func8 rfl (by kernel_rfl) rfl rfl ?_
 refine wkcitv (jn @aG.eq_1 (jn @Oc.cells.eq_1 (jn @dI.eq_1 (jn @dLL.eq_1 (jn @dS.eq_1 (jn @hh (jn @haw (jn @encL_len (jn @c1' @c2'))))))))) ?_
 apply WP.gen
 intro hp1 wl1 hhp hwl1
 have hwl0 : wl1 = [] := hwl1
 subst hwl0
 have h0 : hp1.get 0 = some ⟨0, false, [V.d (.slice (encE o.en)), V.d (.slice (encC o.cl))]⟩ := by rw [hhp, ← hI4, import_old (by omega)]; rfl
 have hL1 : Lies o.en t0 p hp1 (1 + q.n) := by rw [hhp, ← hI4, hp, Nat.add_comm]; exact hLq.import
 clear hhp hwl1 hI3 hI4
 obtain ⟨n1, hn1⟩ : ∃ n1, n1 = 1 + q.n := ⟨_, rfl⟩
 obtain ⟨cc1, hcc1⟩ : ∃ n1, n1 = 1 + q.c := ⟨_, rfl⟩
 rw [← hn1] at hL1
 rw [← hn1, ← hcc1]
 obtain ⟨r, hr⟩ : ∃ r, r = p0.sh n1 cc1 := ⟨_, rfl⟩
 have hI3 : shiftV n1 cc1 q.v = .tuple [.ptr r.a.x r.a.gx 0, dI 0] := by rw [hqv, hr, Pt.sh_a]; simp [shiftV, shiftVs, Pb.sh, dI]
 obtain ⟨W2, hI4⟩ : ∃ W, shiftH n1 cc1 (wrOf q.hp.get (List.range q.n)) = W := ⟨_, rfl⟩
 refine wkcitv (jn @aG.eq_1 (jn @Oc.cells.eq_1 (jn @dI.eq_1 (jn @dLL.eq_1 (jn @dS.eq_1 @h0))))) ?_
 apply WP.gen
 intro hp2 wl2 hhp hwl2
 have hwl0 : wl2 = [] := hwl2
 subst hwl0
 have hT : Two o.en t0 p t0 r hp2 (n1 + q.n) := by
  refine ⟨?_, ?_, fun k hk hk2 => ?_, fun k hk hk2 => ?_⟩
  ·rw [hhp]; exact hL1.mono (fun k hk => by rw [← hI4, import_old hk]) (by omega)
  ·rw [hhp, ← hI4, hr, Nat.add_comm]; exact hLq.import
  ·have h1 := hL1.mids_lt k hk2
   have h2 : n1 ≤ k := by rw [hr] at hk; exact sh_ge _ _ _ k hk
   omega
  ·have h2 : n1 ≤ k := by rw [hr] at hk2; exact sh_ge _ _ _ k (List.mem_append_right _ hk2)
   rcases List.mem_append.1 hk with hk | hk
   ·have := hL1.sids_lt k hk; omega
   ·have := hL1.mids_lt k hk; omega
 have hN0 : 0 < n1 + q.n := by omega
 clear hhp hwl2 hI3 hI4 hI1 hI2 hL1 h0 hqv hLq
 generalize n1 + q.n = N at hT hN0 ⊢
 generalize cc1 + q.c = C at ⊢
 obtain ⟨lp, hop⟩ := hT.a.ob
 obtain ⟨lr, hor⟩ := hT.b.ob
 simp only [oO] at hop hor
 have np := nf lp
 have nr := nf lr
 obtain ⟨F, G, hF⟩ := lim_fn (C := fun hp' n' => Lies o.en t0 p hp' n') (P := Tryz.prog) (cfg := Ob.cfg) (f := 21) (vs := [.ptr p.a.x p.a.gx 0]) (v := dL (encI (memT t0))) (fun hp' n' c' hC => memory21 hO (t0.ht + 1) t0 p (Nat.lt_succ_self _) hto (hlen t0 hto rfl).1 hp' n' c' hC)
 have hLa := eq_true hT.a
 simp only [dL] at hF
 refine wkcitv (jn @dI.eq_1 (jn @dL.eq_1 (jn @dLL.eq_1 (jn @int_bne (jn @int_beq (jn @hop (jn @hor (jn @np (jn @nr (jn @hF (jn @hLa @encL_len))))))))))) ?_
 apply WP.loop' (I := fun D s => ∃ (j c' : Nat) (hp' : Hp) (t : Trn), j + D = rows.length ∧ t.ok o ∧ t.bare = t0.bare ∧ Two o.en t p t0 r hp' N ∧
  s = ⟨[(2, dLL rows), (3, dLL more), (9, .ptr p.a.x p.a.gx 0), (11, .ptr r.a.x r.a.gx 0), (13, dL (encI (memT t0))), (14, dI j)], hp', N, c', 0, []⟩) (d := rows.length)
 ·exact ⟨0, _, _, t0, by simp, hto, rfl, hT, st_eq (by simp [dI, dL, dLL]) rfl⟩
 clear hT hop hor hF hLa F G
 rintro D _ ⟨j, c', hp', t, hj, hto', htb, hT, rfl⟩
 refine wkitv (jn @dI.eq_1 (jn @dLL.eq_1 (jn @dL.eq_1 @encL_len))) ?_
 show WP _ _ _ _ _ _
 refine WP.cond _ rfl (fun hb => ?_) (fun hb => ?_)
 ·simp at hb
  have hb' : j < rows.length := by omega
  have hwj := w_succ hb' (by omega)
  have hix := idx_lt hb'
  have hrow := encL_row hb'
  obtain ⟨row, hrowe⟩ : ∃ r, r = rows.getD j [] := ⟨_, rfl⟩
  have hrl : row.length ≤ 1048576 := by rw [hrowe]; exact hr2 _ (by rw [List.getD_eq_getElem?_getD, List.getElem?_eq_getElem hb']; exact List.getElem_mem hb')
  rw [← hrowe] at hrow
  refine wkcitv (jn @dI.eq_1 (jn @dLL.eq_1 @encL_len)) ?_
  obtain ⟨r0, hT1, hv, hn, hT2, hki, hfr, hpz, hΦ, hsame⟩ := (step14 hO t p row hto' (by omega) hp' N c' hT.a).caller (fun k h => hT.a.mids_lt k h)
  obtain ⟨g1, g2, g3, g4, g5⟩ := stepR_ok hO hto' row
  have hT4 := hT.stepa (hT.a.step (n := N) g3 (fun k hk h => hfr k hk h) hΦ hsame) (fun k hk h => hfr k hk h)
  simp only [dL, dI] at hT1 hv
  refine wkcitv (jn @dI.eq_1 (jn @dL.eq_1 (jn @dLL.eq_1 (jn @encL_len (jn @hix (jn @hrow (jn @int_beq (jn @int_bne (jn @hv @hn))))))))) ?_
  refine loop_next (by simp [hwj]; exact Is.rfl) ?_
  exact ⟨D - 1, by omega, j + 1, _, _, _, by omega, g1, g3.trans htb, hT4.mono (by simp [Ag_trunc, Ag_refl]), st_eq (by simp [dI, dL, dLL, hwj]) rfl⟩
 simp at hb
 refine wkcitv (jn @dI.eq_1 (jn @dLL.eq_1 @dL.eq_1)) ?_
 obtain ⟨F, G, hF⟩ := lim_fn (C := fun hp' n' => Lies o.en t p hp' n') (P := Tryz.prog) (cfg := Ob.cfg) (f := 21) (vs := [.ptr p.a.x p.a.gx 0]) (v := dL (encI (memT t))) (fun hp' n' c' hC => memory21 hO (t.ht + 1) t p (Nat.lt_succ_self _) hto' (hlen t hto' htb).1 hp' n' c' hC)
 have hLa := eq_true hT.a
 have hml2 := (hlen t hto' htb).1
 obtain ⟨r0, hT1, hv, hn, hT2, hki, hfr, hpz, hΦ, hsame⟩ := (load24 hO t0 r (memT t) hto hT0 (by omega) hp' N (c' + (G hp' N c' - c')) hT.b).caller (fun k h => hT.b.mids_lt k h)
 rw [loadR_mem hO hto hto' htb.symm] at hv hΦ
 have hL4 := hT.b.step (n := N) htb (fun k hk h => hfr k hk h) hΦ hsame
 have hT4 : Two o.en t p t r (hp'.sets (tWr r0 N)) N := hT.stepb hL4 (fun k hk h => hfr k hk h)
 simp only [dL, dI] at hT1 hv hF
 refine wkcitv (jn @dI.eq_1 (jn @dL.eq_1 (jn @dLL.eq_1 (jn @encL_len (jn @hF (jn @hLa (jn @int_beq (jn @int_bne (jn @hv @hn))))))))) ?_
 apply WP.loop' (I := fun D s => ∃ (j c' : Nat) (hp' : Hp) (t : Trn), j + D = more.length ∧ t.ok o ∧ t.bare = t0.bare ∧ Two o.en t p t r hp' N ∧
  s = ⟨[(3, dLL more), (9, .ptr p.a.x p.a.gx 0), (11, .ptr r.a.x r.a.gx 0), (13, dL (encI (memT t0))), (15, dI j)], hp', N, c', 0, []⟩) (d := more.length)
 ·exact ⟨0, _, _, t, by simp, hto', htb, hT4, st_eq (by simp [dI, dL, dLL]) rfl⟩
 clear hT hT4 hL4 hF hLa F G hT1 hT2 hv hn hki hfr hΦ hsame hto' htb hml2 hb hj
 clear t j c' hp' D r0 hpz
 rintro D _ ⟨j, c', hp', t, hj, hto', htb, hT, rfl⟩
 refine wkitv (jn @dI.eq_1 (jn @dLL.eq_1 (jn @dL.eq_1 @encL_len))) ?_
 show WP _ _ _ _ _ _
 refine WP.cond _ rfl (fun hb => ?_) (fun hb => ?_)
 ·simp at hb
  have hb' : j < more.length := by omega
  have hwj := w_succ hb' (by omega)
  have hix := idx_lt hb'
  have hrow := encL_row hb'
  obtain ⟨row, hrowe⟩ : ∃ r, r = more.getD j [] := ⟨_, rfl⟩
  have hrl : row.length ≤ 1048576 := by rw [hrowe]; exact hr4 _ (by rw [List.getD_eq_getElem?_getD, List.getElem?_eq_getElem hb']; exact List.getElem_mem hb')
  rw [← hrowe] at hrow
  refine wkcitv (jn @dI.eq_1 (jn @dLL.eq_1 @encL_len)) ?_
  obtain ⟨r0, hT1, hv, hn, hT2, hki, hfr, hpz, hΦ, hsame⟩ := (step14 hO t p row hto' (by omega) hp' N c' hT.a).caller (fun k h => hT.a.mids_lt k h)
  obtain ⟨g1, g2, g3, g4, g5⟩ := stepR_ok hO hto' row
  have hT4 := hT.stepa (hT.a.step (n := N) g3 (fun k hk h => hfr k hk h) hΦ hsame) (fun k hk h => hfr k hk h)
  simp only [dL, dI] at hT1 hv
  refine wkcitv (jn @dI.eq_1 (jn @dL.eq_1 (jn @dLL.eq_1 (jn @encL_len (jn @hix (jn @hrow (jn @int_beq (jn @int_bne (jn @hv @hn))))))))) ?_
  apply WP.gen3
  intro hp4 c4 wl4 hhp hwl4
  have hwl0 : wl4 = [] := hwl4
  subst hwl0
  rw [← hhp] at hT4
  clear hT1 hT2 hv hn hki hfr hΦ hsame hhp hwl4
  obtain ⟨r1, hT1, hv, hn, hT2, hki, hfr, hpz2, hΦ, hsame⟩ := (step14 hO t r row hto' (by omega) hp4 N c4 hT4.b).caller (fun k h => hT4.b.mids_lt k h)
  have hT5 := hT4.stepb (hT4.b.step (n := N) g3 (fun k hk h => hfr k hk h) hΦ hsame) (fun k hk h => hfr k hk h)
  simp only [dL, dI] at hT1 hv
  refine wkcitv (jn @dI.eq_1 (jn @dL.eq_1 (jn @dLL.eq_1 (jn @encL_len (jn @hix (jn @hrow (jn @int_beq (jn @int_bne (jn @hv @hn))))))))) ?_
  generalize stepR o.en t row = R at g1 g2 g3 g4 g5 hT5 ⊢
  obtain ⟨u, outs, e⟩ := R
  simp only at g1 g2 g3 g4 g5 hT5 ⊢
  have hol : outs.length ≤ 17592186044416 := by
   by_cases he : e = 0
   ·have h1 := (g4 he).1
    have h2 := (hO.len t.c ((Trn.ok_eq o t).1 hto').1).sum
    omega
   ·rw [g5 he]; simp
  have hub := g3.trans htb
  have hi1 := ints20 outs outs hol hol
  have hi2 := ints20 (memT u) (memT u) (hlen u g1 hub).1 (hlen u g1 hub).1
  rw [decide_eq_true rfl] at hi1 hi2
  obtain ⟨F, G, hF⟩ := lim_fn (C := fun hp' n' => Lies o.en u p hp' n') (P := Tryz.prog) (cfg := Ob.cfg) (f := 21) (vs := [.ptr p.a.x p.a.gx 0]) (v := dL (encI (memT u))) (fun hp' n' c' hC => memory21 hO (u.ht + 1) u p (Nat.lt_succ_self _) g1 (hlen u g1 hub).1 hp' n' c' hC)
  obtain ⟨F2, G2, hF2⟩ := lim_fn (C := fun hp' n' => Lies o.en u r hp' n') (P := Tryz.prog) (cfg := Ob.cfg) (f := 21) (vs := [.ptr r.a.x r.a.gx 0]) (v := dL (encI (memT u))) (fun hp' n' c' hC => memory21 hO (u.ht + 1) u r (Nat.lt_succ_self _) g1 (hlen u g1 hub).1 hp' n' c' hC)
  simp only [dL, dB] at hi1 hi2 hF hF2
  apply WP.gen3
  intro hp6 c6 wl6 hhp hwl6
  have hwl0 : wl6 = [] := hwl6
  subst hwl0
  rw [← hhp] at hT5
  clear hT1 hT2 hv hn hki hfr hΦ hsame hhp hwl6
  have hLa := eq_true hT5.a
  have hLb := eq_true hT5.b
  refine wkcitv (jn @dI.eq_1 (jn @dL.eq_1 (jn @dLL.eq_1 (jn @int_beq (jn @int_bne (jn @hi1 (jn @hi2 (jn @hF (jn @hF2 (jn @hLa @hLb)))))))))) ?_
  refine loop_next (by simp [hwj]; exact Is.rfl) ?_
  exact ⟨D - 1, by omega, j + 1, _, _, u, by omega, g1, hub, hT5.mono (by simp [Ag_trunc, Ag_refl]), st_eq (by simp [dI, dL, dLL, hwj]) rfl⟩
 simp at hb
 refine wkcitv (jn @dI.eq_1 (jn @dLL.eq_1 @dL.eq_1)) ?_
 obtain ⟨r1, hT1, hrv, hrn, hrw, hrf, hrm⟩ := reset_all hO.len o.en _ t p (Nat.lt_succ_self _) hto' hp' N c' hT.a
 have hT2 : ∀ k, k ∈ (tWr r1 N).map (·.1) → k < N + (r1.n - N) := by
  intro k hk
  obtain ⟨h1, h2⟩ := (tWr_mem hrn).1 hk
  have := hT.a.mids_lt k (wset_mids t p k ((hrw k).1 h1))
  omega
 have hL6 : Lies o.en t.init p (hp'.sets (tWr r1 N)) N := by
  refine hT.a.upd (init_bare t) (fun k h1 h2 => ?_) fun e he => ?_
  ·rw [tWr_get hrn, if_neg fun h => h2 (wset_mids t p _ ((hrw _).1 h.1))]
  ·have hfi : fit t.init p := by rw [← fit_bare, init_bare, fit_bare]; exact hT.a.fit
   have hlt := hT.a.mids_lt e.1 (by rw [← meC_keys _ _ hfi]; exact List.mem_map.2 ⟨e, he, rfl⟩)
   have h2 := hrm e he
   rw [tWr_get hrn]
   split
   ·exact h2
   ·rename_i hw3
    rw [← hrf _ (by omega) fun hw4 => hw3 ⟨(hrw _).2 hw4, by rw [h2]; rfl⟩]; exact h2
 have hit := initT_same hO.wf t t0 hto' hto htb
 rw [hni] at hit
 rw [hit] at hL6
 have hi2 := ints20 (memT t0) (memT t0) (hlen t0 hto rfl).1 (hlen t0 hto rfl).1
 rw [decide_eq_true rfl] at hi2
 obtain ⟨F, G, hF⟩ := lim_fn (C := fun hp' n' => Lies o.en t0 p hp' n') (P := Tryz.prog) (cfg := Ob.cfg) (f := 21) (vs := [.ptr p.a.x p.a.gx 0]) (v := dL (encI (memT t0))) (fun hp' n' c' hC => memory21 hO (t0.ht + 1) t0 p (Nat.lt_succ_self _) hto (hlen t0 hto rfl).1 hp' n' c' hC)
 simp only [dL, dB] at hi2 hF
 refine wkcitv (jn @dI.eq_1 (jn @dL.eq_1 (jn @dLL.eq_1 (jn @hrv @hrn)))) ?_
 apply WP.gen3
 intro hp6 c6 wl6 hhp hwl6
 have hwl0 : wl6 = [] := hwl6
 subst hwl0
 rw [← hhp] at hL6
 have hLa := eq_true hL6
 clear hT1 hT2 hrv hrn hrw hrf hrm hhp hwl6
 refine wkcitv (jn @dI.eq_1 (jn @dL.eq_1 (jn @dLL.eq_1 (jn @hi2 (jn @hF (jn @hLa @haw)))))) ?_
 show retQ _ _ _ _ _
 exact ⟨.inr rfl, _, _, rfl, rfl⟩
end Go.Ac
end
