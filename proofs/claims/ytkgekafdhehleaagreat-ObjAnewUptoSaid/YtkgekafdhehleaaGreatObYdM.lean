/- Copies of statements (the program's). -/
import Derived.Test.YtkgekafdhehleaaGreatObYhM
set_option linter.unusedVariables false
set_option linter.unusedSimpArgs false
section
set_option maxRecDepth 4000
namespace Go.Ac
open Go.Proofs
attribute [local simp] Hp.get_set Ag_set Ag_refl Ag_trunc get_trunc_lt
theorem slice_from (look : Look) (e b : Nat) (z : Option (List V)) {sz : Nat} {rows : List (List D)} (hr : ∀ r ∈ rows, r.length = sz) {j : Nat} (h : j ≤ rows.length) :
  sliceV look ⟨.slice e sz b, 1, 24, z⟩ (.d (.slice rows)) (some (.d (.int .i64 j))) none none = ret (.d (.slice (rows.drop j))) := by
 have ha : rows.all (fun r => Nat.beq r.length sz) = true := by rw [List.all_eq_true]; intro r hm; rw [hr r hm]; exact nbeq_self sz
 have e1 : bnd none rows.length = some rows.length := rfl
 have e2 : bnd (some (V.d (.int .i64 (j : Int)))) 0 = some j := by
  unfold bnd; simp
 unfold sliceV
 simp only [e1, e2, ha]
 rw [if_pos ⟨h, Nat.le_refl _, trivial⟩, List.take_length]
theorem slice_from1 (look : Look) (e b : Nat) (z : Option (List V)) {sz : Nat} {rows : List (List D)} (hr : ∀ r ∈ rows, r.length = sz) (h : 1 ≤ rows.length) :
  sliceV look ⟨.slice e sz b, 1, 24, z⟩ (.d (.slice rows)) (some (.d (.int .i64 1))) none none = ret (.d (.slice (rows.drop 1))) := slice_from look e b z hr (j := 1) h
theorem encI_drop (l : List Int) (j : Nat) : (encI l).drop j = encI (l.drop j) := by unfold encI; rw [List.map_drop]
/-- A memory of an instance is set. -/
theorem Lies.setM {en : List En} {c : Cl} {ms ms' : List (Tx × Int)} {sb : List Trn} {pb : Pb} {ps : List Pt} {hp hp' : Hp} {n : Nat} (h : Lies en (.mk c ms sb) (.mk pb ps) hp n) (hg : ∀ id, id < n → hp'.get id = if id = pb.im then some ⟨pb.gm, false, [mpC eI ms']⟩ else hp.get id) : Lies en (.mk c ms' sb) (.mk pb ps) hp' n := by
 have hnm : pb.im ∉ midsL ps := by
  have := h.nd
  unfold Pt.nd at this
  rw [mids, List.nodup_append, List.nodup_cons] at this
  exact this.2.1.1
 have hfit := h.fit
 rw [Go.Ac.fit] at hfit
 obtain ⟨lm, hmo⟩ := h.me (pb.im, ⟨pb.gm, false, [mpC eI ms]⟩) (by rw [meC]; simp)
 refine h.upd (by rw [Trn.bare, Trn.bare]) (fun k hk hm => ?_) fun q hq => ?_
 ·rw [hg k hk, if_neg]
  intro e; exact hm (by rw [mids]; simp [e])
 ·rw [meC, List.mem_cons] at hq
  rcases hq with hq | hq
  ·subst hq; rw [hg _ lm, if_pos rfl]
  ·obtain ⟨h1, h2⟩ := h.me q (by rw [meC]; exact List.mem_cons_of_mem _ hq)
   rw [hg _ h1, if_neg, h2]
   intro e
   have : q.1 ∈ midsL ps := by rw [← meL_keys sb ps hfit.2]; exact List.mem_map.2 ⟨q, hq, rfl⟩
   rw [e] at this; exact hnm this
/-- An instance that another contains has changed. -/
theorem Lies.setS {en : List En} {c : Cl} {ms : List (Tx × Int)} {sb : List Trn} {pb : Pb} {ps : List Pt} {hp hp' : Hp} {n : Nat} (h : Lies en (.mk c ms sb) (.mk pb ps) hp n) {i : Nat} {t u : Trn} {q : Pt} (ht : sb[i]? = some t) (hq : ps[i]? = some q) (hb : u.bare = t.bare) (hf : ∀ id, id < n → id ∉ mids q → hp'.get id = hp.get id) (hm : ∀ e, e ∈ meC u q → hp'.get e.1 = some e.2) : Lies en (.mk c ms (sb.set i u)) (.mk pb ps) hp' n := by
 have hnd : (pb.im :: midsL ps).Nodup := by
  have := h.nd
  unfold Pt.nd at this
  rw [mids, List.nodup_append] at this
  exact this.2.1
 rw [List.nodup_cons] at hnd
 have hfit := h.fit
 rw [Go.Ac.fit] at hfit
 obtain ⟨lm, hmo⟩ := h.me (pb.im, ⟨pb.gm, false, [mpC eI ms]⟩) (by rw [meC]; simp)
 refine h.upd (by rw [Trn.bare, Trn.bare, set_bare ht hb]) (fun k hk hm => hf k hk fun h2 => hm (by rw [mids]; exact List.mem_cons_of_mem _ (mids_at ps i q hq k h2))) fun e he => ?_
 rw [meC, List.mem_cons] at he
 rcases he with he | he
 ·subst he
  rw [hf _ lm fun h2 => hnd.1 (mids_at ps i q hq _ h2)]; exact hmo
 ·obtain ⟨j, t2, p2, h1, h2, h3⟩ := (meL_mem _ _ _).1 he
  rw [List.getElem?_set] at h1
  split at h1
  ·rename_i hij
   subst hij
   split at h1
   ·simp only [Option.some.injEq] at h1
    subst h1
    rw [hq] at h2
    simp only [Option.some.injEq] at h2
    subst h2
    exact hm e h3
   ·cases h1
  ·rename_i hij
   obtain ⟨g1, g2⟩ := h.me e (by rw [meC]; exact List.mem_cons_of_mem _ ((meL_mem _ _ _).2 ⟨j, t2, p2, h1, h2, h3⟩))
   have hk : e.1 ∈ mids p2 := by rw [← meC_keys t2 p2 (fitL_at sb ps j t2 p2 hfit.2 h1 h2)]; exact List.mem_map.2 ⟨e, h3, rfl⟩
   rw [hf _ g1 (mids_dj ps hnd.2 j i p2 q h2 hq (fun e => hij e.symm) _ hk)]
   exact g2
/-- The instances that are loaded, and those that are not yet. -/
def loadP (sb : List Trn) (m : List Int) (i : Nat) : List Trn := loadL (sb.take i) m ++ sb.drop i
theorem loadL_app : ∀ (a b : List Trn) (m : List Int), loadL (a ++ b) m = loadL a m ++ loadL b (m.drop (typL a).length)
 | [], b, m => by simp [loadL, typL]
 | t :: r, b, m => by
  rw [List.cons_append, loadL, loadL, typL, loadL_app r b, List.cons_append, List.length_append, List.drop_drop]
theorem loadL_len : ∀ (l : List Trn) (m : List Int), (loadL l m).length = l.length
 | [], m => by rw [loadL]
 | t :: r, m => by rw [loadL, List.length_cons, List.length_cons, loadL_len r]
theorem loadP_zero (sb : List Trn) (m : List Int) : loadP sb m 0 = sb := by simp [loadP, loadL]
theorem loadP_all (sb : List Trn) (m : List Int) : loadP sb m sb.length = loadL sb m := by simp [loadP]
theorem loadP_at (sb : List Trn) (m : List Int) {i : Nat} {t : Trn} (h : sb[i]? = some t) : (loadP sb m i)[i]? = some t := by
 have hlt := (List.getElem?_eq_some_iff.1 h).1
 unfold loadP
 rw [List.getElem?_append_right (by rw [loadL_len]; simp; omega), loadL_len, List.getElem?_drop]
 have : i + (i - (sb.take i).length) = i := by simp; omega
 rw [this]; exact h
theorem loadP_succ (sb : List Trn) (m : List Int) {i : Nat} {t : Trn} (h : sb[i]? = some t) : loadP sb m (i + 1) = (loadP sb m i).set i (loadT t (m.drop (typL (sb.take i)).length)) := by
 have hlt := (List.getElem?_eq_some_iff.1 h).1
 have he : sb.drop i = t :: sb.drop (i + 1) := by
  rw [List.drop_eq_getElem_cons hlt, (List.getElem?_eq_some_iff.1 h).2]
 have hl : (loadL (sb.take i) m).length = i := by rw [loadL_len]; simp; omega
 unfold loadP
 rw [take_snoc h, loadL_app, he, List.set_append_right _ _ (by omega), hl, Nat.sub_self, List.set_cons_zero, loadL, loadL, List.append_assoc]
 rfl
theorem kf56 (r : Nat) : Ob.keep 56 r = Ob.k56 r := by kernel_rfl
attribute [local simp] kf56 Ob.k56
set_option maxHeartbeats 8000000 in
theorem load56 {o : Oc} (hO : OW o) : ∀ (N : Nat) (t : Trn) (p : Pt) (m : List Int), t.ht < N → t.ok o → (typT t).length ≤ m.length → m.length ≤ 4611686018427387904 → ∀ hp n cc, Lies o.en t p hp n →
  ThrG Tryz.prog Ob.cfg 56 [.ptr p.a.x p.a.gx 0, dL (encI m)] hp n cc (dL (encI (m.drop (typT t).length))) (mids p) (fun hp' => ∀ e, e ∈ meC (loadT t m) p → hp'.get e.1 = some e.2) := by
 intro N
 induction N with
 | zero => intro t p m h; omega
 | succ N ih =>
 intro t p m hht hok hml hmm hp n cc hK
 obtain ⟨c, ms, sb⟩ := t
 obtain ⟨pb, ps⟩ := p
 rw [Trn.ok] at hok
 rw [Trn.ht] at hht
 rw [typT] at hml ⊢
 rw [loadT]
 rw [List.length_append, List.length_map] at hml
 have hc := hok.1
 have hcl := (hO.len c hc).sum
 have hnd0 := hK.nd
 unfold Pt.nd at hnd0
 rw [sids, mids, List.nodup_append] at hnd0
 have nxm : pb.x ≠ pb.im := fun e => hnd0.2.2 pb.x (by simp) pb.im (by simp) e
 have nim : pb.ii ≠ pb.im := fun e => hnd0.2.2 pb.ii (by simp) pb.im (by simp) e
 have hxo := hK.st (pb.x, oO pb.gx o.en c pb.im pb.gm pb.ii pb.gi) (by rw [stC]; simp)
 obtain ⟨lx, hob⟩ := hxo
 simp only [oO] at lx hob
 obtain ⟨li, hio⟩ := hK.st (pb.ii, ⟨pb.gi, false, [mpC eP (insL c ps)]⟩) (by rw [stC]; simp)
 obtain ⟨lm, hmo⟩ := hK.me (pb.im, ⟨pb.gm, false, [mpC eI ms]⟩) (by rw [meC]; simp)
 simp only at li hio lm hmo
 have nx := nf lx
 have ni := nf li
 have nm := nf lm
 show ThrG Tryz.prog Ob.cfg 56 [.ptr pb.x pb.gx 0, dL (encI m)] hp n cc _ _ _
 refine thrG_wp Tryz.func56 rfl (by kernel_rfl) rfl ?_
 refine wkcektv (jn @envOf.eq_1 (jn @envOf.eq_2 (jn @dI.eq_1 (jn @dL.eq_1 (jn @fillV.eq_1 (jn @fillV.eq_2 (jn @hob (jn @nx @encM_len)))))))) ?_
 apply WP.loop' (I := fun D st => ∃ (i c' : Nat) (wl : List Nat) (hp' : Hp), i + D = c.mems.length ∧ Lies o.en (.mk c (puts ms (((c.mems.map Mm.nm).zip m).take i)) sb) (.mk pb ps) hp' n ∧ WI (mids (.mk pb ps)) n hp wl hp' ∧
  st = ⟨[(0, .ptr pb.x pb.gx 0), (1, dL (encI (m.drop i))), (13, dL (encM c.mems)), (14, dI c.mems.length), (15, dI i)], hp', n, c', n, wl⟩) (d := c.mems.length)
 ·exact ⟨0, _, _, _, by simp, by simpa [puts] using hK, WI.refl, st_eq (by simp [dI, dL]) rfl⟩
 rintro D _ ⟨i, c', wl, hp', hi, hE, hwi, rfl⟩
 have hob' := (hE.st (pb.x, oO pb.gx o.en c pb.im pb.gm pb.ii pb.gi) (by rw [stC]; simp)).2
 have hmo' := (hE.me (pb.im, ⟨pb.gm, false, [mpC eI (puts ms (((c.mems.map Mm.nm).zip m).take i))]⟩) (by rw [meC]; simp)).2
 simp only [oO] at hob' hmo'
 refine wkektv (jn @dI.eq_1 @dL.eq_1) ?_
 show WP _ _ _ _ _ _
 refine WP.cond _ rfl (fun hb => ?_) (fun hb => ?_)
 ·simp at hb
  have hb' : i < c.mems.length := by omega
  obtain ⟨d, hd, hdm, hix⟩ := at_lt hb'
  have hd' := encM_at hd
  have hwj := w_succ hb' (by omega)
  obtain ⟨w, hw, hwm, _⟩ := at_lt (show i < m.length by omega)
  have hdl : (m.drop i).length = m.length - i := by simp
  have h0m : idx 0 (m.length - i) = some 0 := idx_lt (i := 0) (show 0 < m.length - i by omega)
  have hdl2 : (encI (m.drop i)).length = m.length - i := by rw [encI_len, hdl]
  have h0w : (encI (m.drop i))[0]? = some [.int .i64 w] := encI_at (by rw [List.getElem?_drop]; exact hw)
  have hsl := fun look e b z => slice_from1 look e b z (encI_row (m.drop i)) (by rw [encI_len, hdl]; omega)
  rw [encI_drop, List.drop_drop] at hsl
  have lm1 : (pb.im < n + 1) = True := eq_true (by omega)
  have hzs : ((c.mems.map Mm.nm).zip m).take (i + 1) = ((c.mems.map Mm.nm).zip m).take i ++ [(d.nm, w)] := take_snoc (by rw [List.getElem?_zip_eq_some]; exact ⟨by simp [hd], hw⟩)
  have hins := fun (look : Look) (sz by_ : Nat) (zr : Option (List V)) (h : look pb.im = some ⟨pb.gm, false, [mpC eI (puts ms (((c.mems.map Mm.nm).zip m).take i))]⟩) => insert_mp eI (puts ms (((c.mems.map Mm.nm).zip m).take i)) w (w := .d (.int .i64 w)) (sz := sz) (by_ := by_) (zr := zr) (x := d.nm) rfl h
  refine wkcektv (jn @dI.eq_1 (jn @dL.eq_1 (jn @hix (jn @hd' (jn @Mm.cells.eq_1 (jn @fillV.eq_1 (jn @fillV.eq_2 (jn @hdl2 (jn @h0m (jn @h0w (jn @hob' (jn @nx (jn @nm (jn @hmo' (jn @lm1 (jn @hins @hsl)))))))))))))))) ?_
  refine loop_next (by simp [-addNew, hwj]; exact Is.rfl) ?_
  refine ⟨D - 1, by omega, i + 1, _, _, _, by omega, ?_, (by repeat' (first | exact hwi | (refine WI.trunc ?_ (by omega)) | (refine WI.set ?_ (.inr (by omega))) | (refine WI.set ?_ (.inl (by rw [mids]; simp))))), st_eq (by simp [dI, dL, hwj]) rfl⟩
  rw [hzs, puts_snoc]
  refine hE.setM fun id hid => ?_
  have e1 : (n = id) = False := eq_false (by omega)
  by_cases hq : pb.im = id
  ·subst hq; simp [lm, nm]
  ·simp [hid, e1, hq, Ne.symm hq]
 simp at hb
 have hie : i = c.mems.length := by omega
 have hzt : ((c.mems.map Mm.nm).zip m).take i = (c.mems.map Mm.nm).zip m := List.take_of_length_le (by simp; omega)
 rw [hzt] at hE
 rw [hie]
 refine wkcektv (jn @dI.eq_1 (jn @dL.eq_1 (jn @hob' @nx))) ?_
 obtain ⟨m1, hm1⟩ : ∃ m1, m1 = m.drop c.mems.length := ⟨_, rfl⟩
 have hm1l : m1.length = m.length - c.mems.length := by rw [hm1]; simp
 rw [← hm1]
 generalize hmse : puts ms ((c.mems.map Mm.nm).zip m) = ms1 at hE ⊢
 have hfit := hK.fit
 rw [fit] at hfit
 have hsl := hfit.1
 have hpl := fitL_len sb ps hfit.2
 have hndn : (c.ins.map Ii.nm).Nodup := by
  have := (hO.wf c hc).nd
  unfold Cl.names at this
  exact (List.nodup_append.1 this).2.1
 obtain ⟨z, hz⟩ := zt37
 clear hob' hmo' hzt hb
 apply WP.loop' (I := fun D2 st => ∃ (i c' : Nat) (wl : List Nat) (hp' : Hp), i + D2 = c.ins.length ∧ Lies o.en (.mk c ms1 (loadP sb m1 i)) (.mk pb ps) hp' n ∧ WI (mids (.mk pb ps)) n hp wl hp' ∧
  st = ⟨[(0, .ptr pb.x pb.gx 0), (1, dL (encI (m1.drop (typL (sb.take i)).length))), (35, dL (encJ c.ins)), (36, dI c.ins.length), (37, dI i)], hp', n, c', n, wl⟩) (d := c.ins.length)
 ·exact ⟨0, _, _, _, by simp, by rw [loadP_zero]; exact hE, hwi, st_eq (by simp [dI, dL, typL]) rfl⟩
 clear hE hwi hie hi
 clear i c' wl hp' D
 rintro D _ ⟨i, c', wl, hp', hi, hE, hwi, rfl⟩
 refine wkektv (jn @dI.eq_1 @dL.eq_1) ?_
 show WP _ _ _ _ _ _
 refine WP.cond _ rfl (fun hb => ?_) (fun hb => ?_)
 ·simp at hb
  have hb' : i < c.ins.length := by omega
  obtain ⟨d, hd, hdm, hix⟩ := at_lt hb'
  have hd' := encJ_at hd
  have hwj := w_succ hb' (by omega)
  have hts : sb[i]? = some (sb[i]'(by omega)) := List.getElem?_eq_getElem (by omega)
  generalize (sb[i]'(by omega)) = t at hts
  obtain ⟨_, _, _, hto⟩ := okS_at o sb c.ins i t hok.2.2 hts
  refine wkcektv (jn @dI.eq_1 (jn @dL.eq_1 (jn @hix (jn @hd' (jn @Ii.cells.eq_1 (jn @fillV.eq_1 @fillV.eq_2)))))) ?_
  apply WP.gen3
  intro hp3 c3 wl3 hhp hwl
  have hE3 : Lies o.en (.mk c ms1 (loadP sb m1 i)) (.mk pb ps) hp3 n := by rw [hhp]; exact hE.mono (by simp [Ag_set, Ag_refl]) (Nat.le_refl _)
  have hwi3 : WI (mids (.mk pb ps)) n hp wl3 hp3 := by rw [hhp, hwl]; exact (hwi.set (.inr (by omega))).set (.inr (by omega))
  have hx3 : hp3.get n = some ⟨c', false, [.d (.str d.nm), .d (.str d.cl)]⟩ := by rw [hhp]; simp
  clear hhp hwl hE hwi
  have hob3 := (hE3.st (pb.x, oO pb.gx o.en c pb.im pb.gm pb.ii pb.gi) (by rw [stC]; simp)).2
  have hio3 := (hE3.st (pb.ii, ⟨pb.gi, false, [mpC eP (insL c ps)]⟩) (by rw [stC]; simp)).2
  simp only [oO] at hob3 hio3
  obtain ⟨q, hq, hLq⟩ := hE3.sub (i := i) (u := t) (loadP_at sb m1 hts)
  have hq : ps[i]? = some q := hq
  have hixd := ix_nodup c.ins i d hndn hd
  have hget := insL_get c.ins ps d.nm q (by rw [hixd]; exact hb') (by rw [hixd]; exact hq)
  have hlk : ∀ (look : Look) (sz by_ : Nat) (zr : Option (List V)), look pb.ii = some ⟨pb.gi, false, [mpC eP (insL c ps)]⟩ → lookupV look ⟨.str, sz, by_, zr⟩ (some z) (.mp pb.ii pb.gi) (.d (.str d.nm)) false = some ⟨.ptr q.a.x q.a.gx 0, [], [pb.ii], 0, 0, false⟩ := by
   intro look sz by_ zr h
   rw [lookup_mp eP (insL c ps) h]
   unfold insL
   rw [hget]; rfl
  have hht2 : t.ht < N := by have := htL_mem (List.mem_of_getElem? hts); omega
  have hmt := typL_take sb i t hts
  have hle := typL_le sb (i + 1)
  rw [hmt, List.length_append] at hle
  have hmq : ∀ k, k ∈ mids q → k ∈ mids (.mk pb ps) := fun k hk => by rw [mids]; exact List.mem_cons_of_mem _ (mids_at ps i q hq k hk)
  obtain ⟨r0, hT1, hv, hn, hT2, hki, hfr, hpz, hΦ, hsame⟩ := (ih t q (m1.drop (typL (sb.take i)).length) hht2 hto (by rw [List.length_drop]; omega) (by rw [List.length_drop]; omega) hp3 (n + 1) c3 (hLq.mono (Ag.refl _ _) (by omega))).caller (fun k hk => by have := hLq.mids_lt k hk; omega)
  rw [List.drop_drop] at hv
  simp only [dL] at hT1 hv
  repeat (first
 | apply WP.seq
 | (apply WP.reg; (case hR => dsimp only [prepL, prepO, List.map, gS, gZ]; exact iZ); (case hr => (repeat (first
 | (apply RT.op; simp [-addNew, dI, dL, hx3, hob3, hio3, hlk, hz, nx, ni, hv, hn]; exact iZ; (try dsimp only [putEnv]) <;> exact rfl)
 | (apply RT.call; (iterate 2 simp; exact iZ); exact iZ; (iterate 4 simp [-addNew, dI, dL, hx3, hob3, hio3, hlk, hz, nx, ni, hv, hn]; exact iZ); simp [Is]; (try dsimp only [putEnv]) <;> exact rfl; simp; exact iZ; exact iZ)
 | (apply RT.callV; (iterate 2 simp; exact iZ); exact iZ; (iterate 3 simp [-addNew, dI, dL, hx3, hob3, hio3, hlk, hz, nx, ni, hv, hn]; exact iZ); (try dsimp only [putEnv]) <;> exact rfl)
 | (apply RT.callT (hd := hT1) (hk := hT2); (iterate 2 simp; exact iZ); exact iZ; (iterate 2 simp [-addNew, dI, dL, hx3, hob3, hio3, hlk, hz, nx, ni, hv, hn]; exact iZ); (try dsimp only [putEnv]) <;> exact rfl)
 | (apply RT.wr; simp [-addNew, dI, dL, hx3, hob3, hio3, hlk, hz, nx, ni, hv, hn]; exact iZ; (try dsimp only [putEnv]) <;> exact rfl; simp [-addNew, dI, dL, hx3, hob3, hio3, hlk, hz, nx, ni, hv, hn]; exact iZ; (iterate 2 exact iZ); exact iZ))); exact RT.nil); (case hc => first | (refine checkR_un [(0, 4), (1, 4), (2, 4), (3, 4), (0, 5), (1, 5), (2, 5), (3, 5), (0, 7), (1, 7), (2, 7), (3, 7), (4, 7), (5, 7), (6, 7)] (by kernel_rfl) (by kernel_rfl) rfl ?_; simp [memA, disj, nbeq_dec, nx, ni]; done) | (show _ = _; kernel_rfl)); (case ht => simp [-addNew, dI, dL, hx3, hob3, hio3, hlk, hz, nx, ni, hv, hn]; exact iZ))
 | apply WP.block | apply WP.skip | apply WP.exit | apply WP.ret | refine WP.condT rfl ?_ | refine WP.condF rfl ?_)
  refine loop_next (by simp [-addNew, hwj]; exact Is.rfl) ?_
  refine ⟨D - 1, by omega, i + 1, _, _, _, by omega, ?_, WI.trunc (hwi3.sets fun x hx => .inl (hmq _ (hki x.1 (List.mem_map.2 ⟨x, hx, rfl⟩)))) (Nat.le_refl _), st_eq (by simp [dI, dL, hwj, hmt]) rfl⟩
  rw [loadP_succ sb m1 hts]
  refine hE3.setS (loadP_at sb m1 hts) hq (loadT_bare _ _) (fun id h1 h2 => ?_) (fun e he => ?_)
  ·rw [Hp.get_trunc _ _ _ h1]; exact hfr id (by omega) h2
  ·have hfi : Go.Ac.fit (loadT t (m1.drop (typL (sb.take i)).length)) q := by rw [← fit_bare, loadT_bare, fit_bare]; exact hLq.fit
   have hlt := hLq.mids_lt e.1 (by rw [← meC_keys _ _ hfi]; exact List.mem_map.2 ⟨e, he, rfl⟩)
   have h2 := hΦ e he
   rw [Hp.get_trunc _ _ _ hlt, hsame _ (by omega) (by rw [h2]; rfl)]; exact h2
 simp at hb
 have hie : i = sb.length := by omega
 rw [hie, loadP_all] at hE
 rw [hie, List.take_length]
 refine wkcektv (jn @dI.eq_1 @dL.eq_1) ?_
 refine ⟨.inr rfl, _, [], rfl, ?_, rfl, hwi, fun e he => ?_⟩
 ·show some _ = some _
  rw [List.length_append, List.length_map, ← List.drop_drop, hm1]
  rfl
 ·obtain ⟨h1, h2⟩ := hE.me e he
  show (Hp.trunc n hp').get e.1 = _
  rw [Hp.get_trunc _ _ _ h1]; exact h2
end Go.Ac
end

section
set_option maxRecDepth 4000
namespace Go.Ac
open Go.Proofs
attribute [local simp] Hp.get_set Ag_set Ag_refl Ag_trunc get_trunc_lt
def okM (en : List En) (l vs : List Int) : Bool := (l.zip vs).all fun p => hasE en p.1 p.2
/-- Memories are loaded, or an error. -/
def loadR (en : List En) (t : Trn) (m : List Int) : Trn × Int :=
 if m.length ≠ (typT t).length then (t, 9) else if okM en (typT t) m = false then (t, 14) else (loadT t m, 0)
mutual
theorem typ_i64 {o : Oc} (hO : OW o) : ∀ (t : Trn), t.ok o → ∀ u, u ∈ typT t → I64 u
 | .mk c ms sb, h, u, hu => by
  rw [Trn.ok] at h
  rw [typT, List.mem_append] at hu
  rcases hu with hu | hu
  ·obtain ⟨d, hd, rfl⟩ := List.mem_map.1 hu
   exact ((hO.ok c h.1).mems d hd).1
  ·exact typL_i64 hO sb c.ins h.2.2 u hu
theorem typL_i64 {o : Oc} (hO : OW o) : ∀ (l : List Trn) (is : List Ii), okS o l is → ∀ u, u ∈ typL l → I64 u
 | [], is, h, u, hu => by rw [typL] at hu; cases hu
 | t :: r, [], h, u, hu => by rw [okS] at h; exact h.elim
 | t :: r, i :: is, h, u, hu => by
  rw [okS] at h
  rw [typL, List.mem_append] at hu
  rcases hu with hu | hu
  ·exact typ_i64 hO t h.2.1 u hu
  ·exact typL_i64 hO r is h.2.2 u hu
end
theorem kf24 (r : Nat) : Ob.keep 24 r = Ob.k24 r := by kernel_rfl
attribute [local simp] kf24 Ob.k24
set_option maxHeartbeats 8000000 in
theorem load24 {o : Oc} (hO : OW o) (t : Trn) (p : Pt) (m : List Int) (hok : t.ok o) (htl : (typT t).length ≤ 17592186044416) (hil : m.length ≤ 4611686018427387904) (hp : Hp) (n cc : Nat) (hK : Lies o.en t p hp n) :
  ThrG Tryz.prog Ob.cfg 24 [.ptr p.a.x p.a.gx 0, dL (encI m)] hp n cc (dI (loadR o.en t m).2) (mids p) (fun hp' => ∀ e, e ∈ meC (loadR o.en t m).1 p → hp'.get e.1 = some e.2) := by
 have hc : t.c ∈ o.cl := ((Trn.ok_eq o t).1 hok).1
 have hxo := hK.st (p.a.x, oO p.a.gx o.en t.c p.a.im p.a.gm p.a.ii p.a.gi) (by cases t; cases p; rw [stC]; simp [Trn.c, Pt.a])
 obtain ⟨lx, hob⟩ := hxo
 simp only [oO] at lx hob
 have nx := nf lx
 have hme : ∀ e, e ∈ meC t p → hp.get e.1 = some e.2 := fun e he => (hK.me e he).2
 have hmt : ∀ e, e ∈ meC t p → e.1 < n := fun e he => (hK.me e he).1
 obtain ⟨F, G, hF⟩ := lim_fn (C := fun hp2 n2 => Ag n hp hp2 ∧ n ≤ n2) (P := Tryz.prog) (cfg := Ob.cfg) (f := 55) (vs := [.ptr p.a.x p.a.gx 0]) (v := dL (encI (typT t))) (fun hp2 n2 c2 hC => types55 hO (t.ht + 1) t p (Nat.lt_succ_self _) hok htl hp2 n2 c2 (hK.mono hC.1 hC.2))
 have hr := fun hp2 n2 c2 a b => hF hp2 n2 c2 ⟨a, b⟩
 simp only [dL] at hr
 unfold loadR
 refine thrG_wp Tryz.func24 rfl (by kernel_rfl) rfl ?_
 by_cases q1 : m.length = (typT t).length
 case neg =>
  rw [if_pos q1]
  have q1' := eq_false (show ¬ (m.length : Int) = (typT t).length by omega)
  refine wkcektv (jn @envOf.eq_1 (jn @envOf.eq_2 (jn @dI.eq_1 (jn @dL.eq_1 (jn @fillV.eq_1 (jn @fillV.eq_2 (jn @hob (jn @nx (jn @hr (jn @encI_len (jn @int_bne @q1'))))))))))) ?_
  exact ⟨.inr rfl, _, [], rfl, rfl, rfl, WI.refl, fun e he => by rw [Hp.get_trunc _ _ _ (hmt e he)]; exact hme e he⟩
 rw [if_neg (fun h => h q1)]
 have q1' := eq_true (show (m.length : Int) = (typT t).length by omega)
 refine wkcektv (jn @envOf.eq_1 (jn @envOf.eq_2 (jn @dI.eq_1 (jn @dL.eq_1 (jn @fillV.eq_1 (jn @fillV.eq_2 (jn @hob (jn @nx (jn @hr (jn @encI_len (jn @int_bne @q1'))))))))))) ?_
 apply WP.loop' (I := fun D st => ∃ (i c' : Nat) (wl : List Nat) (hp' : Hp), i + D = (typT t).length ∧ (((typT t).zip m).take i).all (fun e => hasE o.en e.1 e.2) = true ∧ WI (mids p) n hp wl hp' ∧ Ag n hp hp' ∧
  st = ⟨[(0, .ptr p.a.x p.a.gx 0), (1, dL (encI m)), (17, dL (encI (typT t))), (18, dI (typT t).length), (19, dI i)], hp', n, c', n, wl⟩) (d := (typT t).length)
 ·exact ⟨0, _, _, _, by simp, by simp, WI.refl, Ag.refl n hp, st_eq (by simp [dI, dL]) rfl⟩
 rintro D _ ⟨i, c', wl, hp', hi, hno, hwi, hag, rfl⟩
 have hob' := (hag _ lx).trans hob
 have hagt := eq_true hag
 refine wkektv (jn @dI.eq_1 @dL.eq_1) ?_
 show WP _ _ _ _ _ _
 refine WP.cond _ rfl (fun hb => ?_) (fun hb => ?_)
 ·simp at hb
  have hb' : i < (typT t).length := by omega
  obtain ⟨d, hd, hdm, hix⟩ := at_lt hb'
  have hd' := encI_at hd
  obtain ⟨w, hw, hwm, hiy⟩ := at_lt (show i < m.length by omega)
  have hw' := encI_at hw
  have hwj := w_succ hb' (by omega)
  have hzd : ((typT t).zip m)[i]? = some (d, w) := by rw [List.getElem?_zip_eq_some]; exact ⟨hd, hw⟩
  have hh := has15 o.en d w (typ_i64 hO t hok d hdm)
  simp only [dL, dI, dB] at hh
  have hs := all_snoc (p := fun e : Int × Int => hasE o.en e.1 e.2) hzd
  cases hz : hasE o.en d w with
  | true =>
   rw [hz] at hh
   refine wkcektv (jn @dI.eq_1 (jn @dL.eq_1 (jn @hix (jn @hd' (jn @fillV.eq_1 (jn @fillV.eq_2 (jn @hiy (jn @hw' (jn @encI_len (jn @hob' (jn @nx @hh))))))))))) ?_
   refine loop_next (by simp [-addNew, hwj]; exact Is.rfl) ?_
   exact ⟨D - 1, by omega, i + 1, _, _, _, by omega, by rw [hs, hno, hz]; rfl, (by repeat' (first | exact hwi | (refine WI.trunc ?_ (by omega)) | (refine WI.set ?_ (.inr (by omega))))), by simp [hag], st_eq (by simp [dI, dL, hwj]) rfl⟩
  | false =>
   rw [hz] at hh
   have hk : okM o.en (typT t) m = false := by
    unfold okM
    cases ha : ((typT t).zip m).all (fun p => hasE o.en p.1 p.2) with
    | false => rfl
    | true =>
     have := List.all_eq_true.1 ha _ (List.mem_of_getElem? hzd)
     simp only at this
     rw [hz] at this; cases this
   rw [if_pos hk]
   refine wkcektv (jn @dI.eq_1 (jn @dL.eq_1 (jn @hix (jn @hd' (jn @fillV.eq_1 (jn @fillV.eq_2 (jn @hiy (jn @hw' (jn @encI_len (jn @hob' (jn @nx @hh))))))))))) ?_
   refine ⟨.inr rfl, _, [], rfl, rfl, rfl, (by repeat' (first | exact hwi | (refine WI.trunc ?_ (by omega)) | (refine WI.set ?_ (.inr (by omega))))), fun e he => ?_⟩
   have hlt := hmt e he
   have h2 := (hag _ hlt).trans (hme e he)
   have e1 : (n = e.1) = False := eq_false (by omega)
   have e3 : (e.1 < n) = True := eq_true hlt
   simp [e1, e3, h2]
 simp at hb
 have hie : i = (typT t).length := by omega
 have hk : okM o.en (typT t) m = true := by
  have hzt : ((typT t).zip m).take i = (typT t).zip m := List.take_of_length_le (by simp; omega)
  rw [hzt] at hno; exact hno
 rw [if_neg (by simp [hk])]
 refine wkcektv (jn @dI.eq_1 @dL.eq_1) ?_
 apply WP.gen3
 intro hp3 c3 wl3 hhp hwl
 have hag3 : Ag n hp hp3 := by rw [hhp]; exact hag
 have hwi3 : WI (mids p) n hp wl3 hp3 := by rw [hhp, hwl]; exact hwi
 clear hhp hwl
 obtain ⟨q, hT1, hv, hn, hT2, hki, hfr, hpz, hΦ, hsame⟩ := (load56 hO (t.ht + 1) t p m (Nat.lt_succ_self _) hok (by omega) hil hp3 n c3 (hK.mono hag3 (Nat.le_refl n))).caller (fun k h => hK.mids_lt k h)
 simp only [dL] at hT1 hv
 refine wkcektv (jn @dI.eq_1 (jn @dL.eq_1 (jn @hv @hn))) ?_
 refine ⟨.inr rfl, _, [], rfl, rfl, rfl, hwi3.sets fun x hx => .inl (hki x.1 (List.mem_map.2 ⟨x, hx, rfl⟩)), fun e he => ?_⟩
 have hfi : fit (loadT t m) p := by rw [← fit_bare, loadT_bare, fit_bare]; exact hK.fit
 have hlt := hK.mids_lt e.1 (by rw [← meC_keys _ _ hfi]; exact List.mem_map.2 ⟨e, he, rfl⟩)
 have h2 := hΦ e he
 rw [Hp.get_trunc _ _ _ hlt, hsame _ hlt (by rw [h2]; rfl)]; exact h2
end Go.Ac
end

section
set_option maxRecDepth 4000
namespace Go.Ac
open Go.Proofs
def isum (l : List Cl) : Nat := (l.map fun c => c.ins.length).sum
theorem isum_snoc (l : List Cl) (c : Cl) : isum (l ++ [c]) = isum l + c.ins.length := by unfold isum; simp
theorem isum_mono : ∀ (l : List Cl) (i j : Nat), j ≤ i → isum (l.take j) ≤ isum (l.take i)
 | [], i, j, _ => by simp
 | c :: r, i, 0, _ => by simp [isum]
 | c :: r, 0, j + 1, h => by omega
 | c :: r, i + 1, j + 1, h => by
  have := isum_mono r i j (by omega)
  rw [List.take_succ_cons, List.take_succ_cons]
  unfold isum at *
  simp only [List.map_cons, List.sum_cons]
  omega
theorem isum_sz (l : List Cl) : isum l ≤ szC l := by
 induction l with
 | nil => simp [isum]
 | cons c r ih =>
  unfold isum szC at *
  simp only [List.map_cons, List.sum_cons]
  have := len_szJ c.ins
  have h2 : c.sz = szT c.nm + szD c.inn + szD c.out + szD c.loc + szM c.mems + szJ c.ins + szY c.step + 7 := rfl
  omega
theorem memL_sum {B : Nat} : ∀ (l : List Trn), (∀ t, t ∈ l → (memT t).length ≤ B) → (memL l).length ≤ l.length * B
 | [], _ => by simp [memL]
 | t :: r, h => by
  have h1 := h t (List.mem_cons_self ..)
  have h2 := memL_sum r fun u hu => h u (List.mem_cons_of_mem _ hu)
  rw [memL, List.length_append, List.length_cons, Nat.add_mul]
  omega
theorem two_pow_ge (m : Nat) : m + 1 ≤ 2 ^ m := by
 induction m with
 | zero => simp
 | succ m ih => rw [Nat.pow_succ]; omega
theorem mem_bound {o : Oc} (h : checkRef o = 0) {M : Nat} (hM : ∀ c, c ∈ o.cl → c.mems.length ≤ M) : ∀ (k i : Nat) (c : Cl), o.cl[i]? = some c → i < k → (memT (newT o k c)).length ≤ M * 2 ^ isum (o.cl.take (i + 1))
 | 0, i, c, _, hi => by omega
 | k + 1, i, c, hc, hi => by
  rw [newT, memT, List.length_append, List.length_map]
  have h1 := hM c (List.mem_of_getElem? hc)
  have h2 : (memL (c.ins.map fun i => newT o k (findC o.cl i.cl).1)).length ≤ (c.ins.map fun i => newT o k (findC o.cl i.cl).1).length * (M * 2 ^ isum (o.cl.take i)) := by
   refine memL_sum _ fun t ht => ?_
   obtain ⟨d, hd, rfl⟩ := List.mem_map.1 ht
   obtain ⟨j, hj, hja, _⟩ := ins_before h hc d hd
   refine Nat.le_trans (mem_bound h hM k j _ hja (by omega)) (Nat.mul_le_mul_left _ (Nat.pow_le_pow_right (by omega) (isum_mono o.cl i (j + 1) (by omega))))
  rw [List.length_map] at h2
  rw [take_snoc hc, isum_snoc, Nat.pow_add]
  have h3 := two_pow_ge c.ins.length
  have h4 : 1 ≤ 2 ^ isum (o.cl.take i) := Nat.one_le_two_pow
  have h5 : M ≤ M * 2 ^ isum (o.cl.take i) := Nat.le_mul_of_pos_right _ h4
  generalize 2 ^ isum (o.cl.take i) = S at *
  generalize 2 ^ c.ins.length = T at *
  have h6 : (c.ins.length + 1) * (M * S) ≤ T * (M * S) := Nat.mul_le_mul_right _ h3
  rw [Nat.add_mul, Nat.one_mul] at h6
  have h7 : T * (M * S) = M * (S * T) := by rw [Nat.mul_comm T, Nat.mul_assoc]
  omega
attribute [local simp] kf9 Ob.k9
set_option maxHeartbeats 4000000 in
/-- Code with more than twelve instances is too large. -/
theorem heavy_big (x : Oc) (ha : x.sz ≤ MX) (hbig : 12 < isum x.cl) : den Tryz.prog Ob.cfg 9 [aG x.cells] = some (dB true) := by
 unfold Oc.sz MX at ha
 have l1 := len_szC x.cl
 have l2 := isum_sz x.cl
 obtain ⟨r0, h0⟩ := w26a x.en (by unfold MX; omega)
 simp only [pE, dI] at h0
 refine den_wp Tryz.func9 rfl (by kernel_rfl) rfl rfl ?_
 refine wkc (jn @aG.eq_1 (jn @Oc.cells.eq_1 (jn @dI.eq_1 @h0))) ?_
 apply WP.loop' (I := fun D s => ∃ (j : Nat) (k : Int), j + D = x.cl.length ∧ SE [(1, .ptr 0 0 0), (3, dI k), (4, dI (isum (x.cl.take j))), (5, dI j)] [(0, ⟨0, false, x.cells.map .d⟩)] 1 s) (d := x.cl.length)
 ·exact ⟨0, _, by simp, SE.mk (by simp [dI, isum]; rfl) (by simp [Oc.cells])⟩
 rintro D _ ⟨j, k, hj, cc, rfl⟩
 by_cases hd' : j < x.cl.length ∧ k < 600
 ·obtain ⟨hb', hk⟩ := hd'
  have c1 : ((j : Int) < x.cl.length) = True := eq_true (by omega)
  have c1' : (j < x.cl.length) = True := eq_true hb'
  have c2 := eq_true hk
  obtain ⟨y, hy, hym, hix⟩ := at_lt hb'
  have hy' := encC_at hy
  have hw := w_succ hb' (by omega)
  have m1 := mem_szC hym
  unfold Cl.sz at m1
  have l3 := len_szJ y.ins
  have l4 := isum_mono x.cl x.cl.length j (by omega)
  rw [List.take_length] at l4
  have hwi : IntKind.i64.wrap ((isum (x.cl.take j) : Int) + y.ins.length) = (isum (x.cl.take (j + 1)) : Nat) := by
   rw [take_snoc hy, isum_snoc, w_id'] <;> omega
  obtain ⟨r1, h1⟩ := w26b y.inn y.out y.loc (by unfold MX; omega) (by unfold MX; omega) (by unfold MX; omega)
  obtain ⟨r2, h2⟩ := w27 (szY y.step + 1) y.step 600 (by omega) (by unfold MX; omega)
  simp only [pN, nD, dL, dI] at h1 h2
  refine wkc (jn @dI.eq_1 (jn @dL.eq_1 (jn @Oc.cells.eq_1 (jn @c1 (jn @c1' @c2))))) ?_
  refine wkc (jn @dI.eq_1 (jn @dL.eq_1 (jn @Oc.cells.eq_1 (jn @Cl.cells.eq_1 (jn @hix (jn @hy' (jn @h1 (jn @h2 (jn @fillV.eq_1 (jn @fillV.eq_2 (jn @closeParts.eq_1 (jn @closeParts.eq_2 (jn @toD_dep (jn @toD_d (jn @toD_full (jn @toDs.eq_1 (jn @toDs.eq_2 (jn @chunk.eq_1 (jn @chunk.eq_2 (jn @nble_d (jn @encJ_len @hwi))))))))))))))))))))) ?_
  refine loop_next (by simp [hw]; exact Is.rfl) ?_
  exact ⟨D - 1, by omega, j + 1, _, by omega, SE.mk (by simp [dI, dL]; rfl) (by simp [Oc.cells])⟩
 by_cases hq : k ≥ 600
 ·have q := eq_true hq
  have q' : (600 ≤ k) = True := q
  have hor : (((j : Int) < x.cl.length) = True ∧ (j < x.cl.length) = True ∧ (k < 600) = False) ∨ (((j : Int) < x.cl.length) = False ∧ (j < x.cl.length) = False) := by
   by_cases hd1 : j < x.cl.length
   ·exact .inl ⟨eq_true (by omega), eq_true hd1, eq_false (fun h => hd' ⟨hd1, h⟩)⟩
   ·exact .inr ⟨eq_false (by omega), eq_false hd1⟩
  rcases hor with ⟨e1, e1', e2⟩ | ⟨e1, e1'⟩
  ·refine wkc (jn @dI.eq_1 (jn @dL.eq_1 (jn @Oc.cells.eq_1 (jn @e1 (jn @e1' (jn @e2 (jn @q @q'))))))) ?_
   show retQ _ _ _ _ _
   exact ⟨.inr rfl, _, _, rfl, rfl⟩
  ·refine wkc (jn @dI.eq_1 (jn @dL.eq_1 (jn @Oc.cells.eq_1 (jn @e1 (jn @e1' (jn @q @q')))))) ?_
   show retQ _ _ _ _ _
   exact ⟨.inr rfl, _, _, rfl, rfl⟩
 ·have q := eq_false hq
  have q' : (600 ≤ k) = False := q
  have hjl : j = x.cl.length := by
   rcases Nat.lt_or_ge j x.cl.length with h | h
   ·exact absurd ⟨h, by omega⟩ hd'
   ·omega
  have e1 : ((j : Int) < x.cl.length) = False := eq_false (by omega)
  have e1' : (j < x.cl.length) = False := eq_false (by omega)
  rw [hjl, List.take_length]
  have e3 := eq_false (show ¬ ((x.cl.length : Int) < x.cl.length) by omega)
  have e4 := eq_true (show (12 : Int) < (isum x.cl : Nat) by omega)
  have e5 := eq_true hbig
  refine wkc (jn @dI.eq_1 (jn @dL.eq_1 (jn @Oc.cells.eq_1 (jn @e3 (jn @q (jn @q' (jn @e4 @e5))))))) ?_
  show retQ _ _ _ _ _
  exact ⟨.inr rfl, _, _, rfl, rfl⟩
end Go.Ac
end

section
set_option maxRecDepth 4000
namespace Go.Ac
open Go.Proofs
theorem kf20 (r : Nat) : Ob.keep 20 r = Ob.k20 r := by kernel_rfl
attribute [local simp] kf20 Ob.k20
theorem ints20 (a b : List Int) (ha : a.length ≤ 17592186044416) (hb0 : b.length ≤ 17592186044416) : den Tryz.prog Ob.cfg 20 [dL (encI a), dL (encI b)] = some (dB (decide (a = b))) := by
 refine den_wp Tryz.func20 rfl (by kernel_rfl) rfl rfl ?_
 by_cases hl : a.length = b.length
 case neg =>
  have hl2 : ((a.length : Int) = b.length) = False := eq_false (by omega)
  have hab : decide (a = b) = false := by simp; intro h; rw [h] at hl; exact hl rfl
  rw [hab]
  refine wkc (jn @dI.eq_1 (jn @dL.eq_1 (jn @encI_len (jn @hl (jn @hl2 @int_bne))))) ?_
  show retQ _ _ _ _ _
  exact ⟨.inr rfl, _, _, rfl, rfl⟩
 have hl2 : ((a.length : Int) = b.length) = True := eq_true (by omega)
 refine wkc (jn @dI.eq_1 (jn @dL.eq_1 (jn @encI_len (jn @hl (jn @hl2 @int_bne))))) ?_
 apply WP.loop' (I := fun D s => ∃ j : Nat, j + D = a.length ∧ a.take j = b.take j ∧ SE [(0, dL (encI a)), (1, dL (encI b)), (5, dI j)] [] 0 s) (d := a.length)
 ·exact ⟨0, by simp, by simp, SE.mk (by simp [dI, dL]) rfl⟩
 rintro D _ ⟨j, hj, he, cc, rfl⟩
 refine wk (jn @dI.eq_1 (jn @dL.eq_1 @encI_len)) ?_
 show WP _ _ _ _ _ _
 refine WP.cond _ rfl (fun hb => ?_) (fun hb => ?_)
 ·simp at hb
  have hb' : j < a.length := by omega
  obtain ⟨x, hx, _, x1⟩ := at_lt hb'
  obtain ⟨y, hy, _, x2⟩ := at_lt (show j < b.length by omega)
  have e1 := encI_at hx
  have e2 := encI_at hy
  have hw := w_succ hb' (by omega)
  by_cases hq : x = y
  ·have hq2 : (x = y) = True := eq_true hq
   refine wkc (jn @dI.eq_1 (jn @dL.eq_1 (jn @encI_len (jn @x1 (jn @x2 (jn @e1 (jn @e2 (jn @hq2 @int_bne)))))))) ?_
   refine loop_next (by simp [hw]; exact Is.rfl) ?_
   exact ⟨D - 1, by omega, j + 1, by omega, by rw [take_snoc hx, take_snoc hy, he, hq], SE.mk (by simp [dI, dL, hw]) rfl⟩
  ·have hq2 : (x = y) = False := eq_false hq
   have hab : decide (a = b) = false := by simp; intro h; rw [h, hy] at hx; exact hq (Option.some.inj hx).symm
   rw [hab]
   refine wkc (jn @dI.eq_1 (jn @dL.eq_1 (jn @encI_len (jn @x1 (jn @x2 (jn @e1 (jn @e2 (jn @hq2 @int_bne)))))))) ?_
   show retQ _ _ _ _ _
   exact ⟨.inr rfl, _, _, rfl, rfl⟩
 ·simp at hb
  have hje : j = a.length := by omega
  rw [hje, List.take_length, hl, List.take_length] at he
  have hab : decide (a = b) = true := by simp [he]
  rw [hab]
  refine wkc (jn @dI.eq_1 @dL.eq_1) ?_
  show retQ _ _ _ _ _
  exact ⟨.inr rfl, _, _, rfl, rfl⟩
end Go.Ac
end

section
set_option maxRecDepth 4000
namespace Go.Ac
open Go.Proofs
attribute [local simp] Hp.get_set get_trunc_lt
theorem encX_row6 (l : List X) : ∀ r ∈ encX l, r.length = 6 := by rw [encX_map]; intro r hr; obtain ⟨x, _, rfl⟩ := List.mem_map.1 hr; rw [X.cells_eq]; rfl
theorem encX_snoc1 (l : List X) (x : X) : encX l ++ [x.cells] = encX (l ++ [x]) := by simp [encX_map]
theorem kf122 (r : Nat) : Ob.keep 122 r = Ob.k122 r := by kernel_rfl
attribute [local simp] kf122 Ob.k122
set_option maxHeartbeats 4000000 in
theorem copy122 : ∀ (N : Nat) (l : List X), szX l < N → szX l ≤ 8388608 → den Tryz.prog Ob.cfg 122 [dL (encX l)] = some (dL (encX l)) := by
 intro N
 induction N with
 | zero => intro l h; omega
 | succ N ih =>
 intro l hN hM
 have hlen := len_szX l
 refine den_wp Tryz.func122 rfl (by kernel_rfl) rfl rfl ?_
 refine wkc (jn @envOf.eq_1 (jn @envOf.eq_2 (jn @dL.eq_1 (jn @fillV.eq_1 (jn @fillV.eq_2 @encX_len))))) ?_
 apply WP.loop' (I := fun D s => ∃ (j g c' : Nat) (hp' : Hp), j + D = l.length ∧ hp'.get 0 = some ⟨g, false, fl (encX (l.take j))⟩ ∧
  s = ⟨[(3, .osl 0 g 0 j 6 none), (6, dL (encX l)), (7, dI l.length), (8, dI j)], hp', 1, c', 0, []⟩) (d := l.length)
 ·exact ⟨0, 0, _, _, by simp, by simp [fl, encX], st_eq (by simp [dI, dL]) rfl⟩
 rintro D _ ⟨j, g, c', hp', hj, hx, rfl⟩
 refine wk (jn @dI.eq_1 @dL.eq_1) ?_
 show WP _ _ _ _ _ _
 refine WP.cond _ rfl (fun hb => ?_) (fun hb => ?_)
 ·simp at hb
  have hb' : j < l.length := by omega
  obtain ⟨d, hd, hdm, hix⟩ := at_lt hb'
  have hd' := encX_at hd
  have hwj := w_succ hb' (by omega)
  have hs0 := X.sz_eq d
  have hms := mem_szX hdm
  have hc := ih d.args (by omega) (by omega)
  simp only [dL] at hc
  have hsn := take_snoc hd
  have hLl : (l.take j).length = j := by simp; omega
  have r2 := fl_len (encX_row6 (l.take j))
  have r3 := fl_take (encX_row6 (l.take j))
  have r4 := fl_snoc (encX (l.take j)) d.cells
  have r5 := encX_snoc1 (l.take j) d
  have f5 : fitsB (j + 1) 72 = true := by simp [fitsB]; omega
  rw [r5, ← hsn, X.cells_eq] at r4
  rw [encX_len, hLl] at r2 r3
  simp only [List.map_cons, List.map_nil] at r4
  refine wkc (jn @dI.eq_1 (jn @dL.eq_1 (jn @X.cells_eq (jn @hix (jn @hd' (jn @hc (jn @fillV.eq_1 (jn @fillV.eq_2 (jn @closeParts.eq_1 (jn @closeParts.eq_2 (jn @cl2.eq_def (jn @toD_dep (jn @toD_d (jn @nble_d (jn @f5 (jn @r2 (jn @r3 (jn @r4 @hx)))))))))))))))))) ?_
  refine loop_next (by simp [hwj]; exact Is.rfl) ?_
  exact ⟨D - 1, by omega, j + 1, _, _, _, by omega, by simp; rfl, st_eq (by simp [dI, dL, hwj]) rfl⟩
 ·simp at hb
  have hje : j = l.length := by omega
  rw [hje, List.take_length] at hx
  refine wkc (jn @dI.eq_1 @dL.eq_1) ?_
  have hcl := close_fl (look := hp'.get) (id := 0) (g := g) (ro := false) (cap := none) (encX_row6 l) hx
  rw [encX_len, ← hje] at hcl
  exact ⟨.inr rfl, _, [0], rfl, hcl⟩
end Go.Ac
end

section
set_option maxRecDepth 4000
namespace Go.Ac
open Go.Proofs
attribute [local simp] Hp.get_set get_trunc_lt
theorem rowsOf_S (look : Look) (l : List Tx) : rowsOf look 1 (.d (.slice (encS l))) = some (l.length, fl (encS l), []) := by
 have h : (encS l).all (fun r => Nat.beq r.length 1) = true := by
  rw [List.all_eq_true]; intro r hr; rw [encS_row l r hr]; rfl
 unfold rowsOf
 simp only [h, encS_len]
 rfl
theorem kf84 (r : Nat) : Ob.keep 84 r = Ob.k84 r := by kernel_rfl
attribute [local simp] kf84 Ob.k84
set_option maxHeartbeats 4000000 in
theorem copy84 : ∀ (N : Nat) (l : List Y), szY l < N → szY l ≤ 8388608 → den Tryz.prog Ob.cfg 84 [dL (encY l)] = some (dL (encY l)) := by
 intro N
 induction N with
 | zero => intro l h; omega
 | succ N ih =>
 intro l hN hM
 have hlen := len_szY l
 refine den_wp Tryz.func84 rfl (by kernel_rfl) rfl rfl ?_
 refine wkcnv (jn @envOf.eq_1 (jn @envOf.eq_2 (jn @dL.eq_1 (jn @fillV.eq_1 (jn @fillV.eq_2 @encY_len))))) ?_
 apply WP.loop' (I := fun D s => ∃ (j g c' : Nat) (hp' : Hp), j + D = l.length ∧ hp'.get 0 = some ⟨g, false, fl (encY (l.take j))⟩ ∧
  s = ⟨[(3, .osl 0 g 0 j 12 none), (9, dL (encY l)), (10, dI l.length), (11, dI j)], hp', 1, c', 0, []⟩) (d := l.length)
 ·exact ⟨0, 0, _, _, by simp, by simp [fl, encY], st_eq (by simp [dI, dL]) rfl⟩
 rintro D _ ⟨j, g, c', hp', hj, hx, rfl⟩
 refine wknv (jn @dI.eq_1 @dL.eq_1) ?_
 show WP _ _ _ _ _ _
 refine WP.cond _ rfl (fun hb => ?_) (fun hb => ?_)
 ·simp at hb
  have hb' : j < l.length := by omega
  obtain ⟨y, hy, hym, hix⟩ := at_lt hb'
  have hy' := encY_at hy
  have hwj := w_succ hb' (by omega)
  have hs0 := Y.sz_eq y
  have hms := mem_szY hym
  have hc1 := copy122 _ [y.r] (Nat.lt_succ_self _) (by rw [szX, szX]; omega)
  have hc2 := copy122 _ y.args (Nat.lt_succ_self _) (by omega)
  rw [show encX [y.r] = [y.r.cells] by simp [encX_map]] at hc1
  simp only [dL, X.cells_eq] at hc1 hc2
  have i0 : idx 0 1 = some 0 := rfl
  have hos := len_szS y.outs
  have fS : fitsB y.outs.length 16 = true := by simp [fitsB]; omega
  have s2 := fl_len (encS_row y.outs)
  have s3 := fl_take (encS_row y.outs)
  have s4 := chunk_flat (encS_row y.outs)
  rw [encS_len, Nat.mul_one] at s2 s3
  rw [encS_len] at s4
  repeat (first
 | apply WP.seq
 | (apply WP.reg; (case hR => dsimp only [prepL, prepO, List.map, gS, gZ]; exact iZ); (case hr => (repeat (first
 | (apply RT.op; simp [dI, dL, Y.cells_eq, X.cells_eq, hix, hy', hc1, hc2, i0, fillV, closeParts, cl2, toD_dep, toD_d, toDs, chunk, nble_d, roOf, encY_len, encB_len, encS_len, encX_len, hx, rowsOf_S, cloneV, fS, s2, s3, s4, toDs_fl]; exact iZ; (try dsimp only [putEnv]) <;> exact rfl)
 | (apply RT.call; (iterate 2 simp; exact iZ); exact iZ; (iterate 4 simp [dI, dL, Y.cells_eq, X.cells_eq, hix, hy', hc1, hc2, i0, fillV, closeParts, cl2, toD_dep, toD_d, toDs, chunk, nble_d, roOf, encY_len, encB_len, encS_len, encX_len, hx, rowsOf_S, cloneV, fS, s2, s3, s4, toDs_fl]; exact iZ); simp [Is]; (try dsimp only [putEnv]) <;> exact rfl; simp; exact iZ; simp; exact iZ)
 | (apply RT.clone; (iterate 2 simp; exact iZ); exact iZ; (iterate 2 simp [dI, dL, Y.cells_eq, X.cells_eq, hix, hy', hc1, hc2, i0, fillV, closeParts, cl2, toD_dep, toD_d, toDs, chunk, nble_d, roOf, encY_len, encB_len, encS_len, encX_len, hx, rowsOf_S, cloneV, fS, s2, s3, s4, toDs_fl]; exact iZ); (first | assumption | (simp [fitsB]; omega)); (try dsimp only [putEnv]) <;> exact rfl; simp [dI, dL, Y.cells_eq, X.cells_eq, hix, hy', hc1, hc2, i0, fillV, closeParts, cl2, toD_dep, toD_d, toDs, chunk, nble_d, roOf, encY_len, encB_len, encS_len, encX_len, hx, rowsOf_S, cloneV, fS, s2, s3, s4, toDs_fl]; exact iZ; simp; exact iZ)
 | (apply RT.callV; (iterate 2 simp; exact iZ); exact iZ; (iterate 3 simp [dI, dL, Y.cells_eq, X.cells_eq, hix, hy', hc1, hc2, i0, fillV, closeParts, cl2, toD_dep, toD_d, toDs, chunk, nble_d, roOf, encY_len, encB_len, encS_len, encX_len, hx, rowsOf_S, cloneV, fS, s2, s3, s4, toDs_fl]; exact iZ); (try dsimp only [putEnv]) <;> exact rfl)
 | (apply RT.wr; simp [dI, dL, Y.cells_eq, X.cells_eq, hix, hy', hc1, hc2, i0, fillV, closeParts, cl2, toD_dep, toD_d, toDs, chunk, nble_d, roOf, encY_len, encB_len, encS_len, encX_len, hx, rowsOf_S, cloneV, fS, s2, s3, s4, toDs_fl]; exact iZ; (try dsimp only [putEnv]) <;> exact rfl; simp [dI, dL, Y.cells_eq, X.cells_eq, hix, hy', hc1, hc2, i0, fillV, closeParts, cl2, toD_dep, toD_d, toDs, chunk, nble_d, roOf, encY_len, encB_len, encS_len, encX_len, hx, rowsOf_S, cloneV, fS, s2, s3, s4, toDs_fl]; exact iZ; (iterate 2 exact iZ); simp; exact iZ))); exact RT.nil); (case hc => first | (refine checkR_un [(0, 2), (1, 2), (0, 3), (1, 3), (0, 4), (1, 4), (2, 4), (3, 4), (0, 5), (1, 5), (2, 5), (3, 5), (0, 6), (1, 6), (2, 6), (3, 6), (4, 6), (5, 6), (0, 7), (1, 7), (2, 7), (3, 7), (4, 7), (5, 7), (0, 8), (1, 8), (2, 8), (3, 8), (4, 8), (5, 8), (0, 9), (1, 9), (2, 9), (3, 9), (4, 9), (5, 9), (0, 10), (1, 10), (2, 10), (3, 10), (4, 10), (5, 10), (0, 11), (1, 11), (2, 11), (3, 11), (4, 11), (5, 11), (0, 12), (1, 12), (2, 12), (3, 12), (4, 12), (5, 12), (6, 12), (7, 12), (8, 12), (9, 12), (10, 12), (11, 12), (0, 13), (1, 13), (2, 13), (3, 13), (4, 13), (5, 13), (6, 13), (7, 13), (8, 13), (9, 13), (10, 13), (11, 13), (0, 14), (1, 14), (2, 14), (3, 14), (4, 14), (5, 14), (10, 14), (11, 14), (0, 15), (1, 15), (2, 15), (3, 15), (4, 15), (5, 15), (6, 15), (7, 15), (8, 15), (9, 15), (10, 15), (11, 15), (12, 15), (13, 15), (14, 15), (0, 16), (1, 16), (2, 16), (3, 16), (4, 16), (5, 16), (6, 16), (7, 16), (8, 16), (9, 16), (10, 16), (11, 16), (12, 16), (13, 16), (14, 16), (0, 17), (1, 17), (2, 17), (3, 17), (4, 17), (5, 17), (10, 17), (11, 17), (0, 19), (1, 19), (2, 19), (3, 19), (4, 19), (5, 19), (6, 19), (7, 19), (8, 19), (9, 19), (10, 19), (11, 19), (12, 19), (13, 19), (14, 19), (15, 19), (16, 19), (17, 19), (18, 19)] (by kernel_rfl) (by kernel_rfl) rfl ?_; simp [memA, disj, nbeq_dec]; done) | (show _ = _; kernel_rfl)); (case ht => simp [dI, dL, Y.cells_eq, X.cells_eq, hix, hy', hc1, hc2, i0, fillV, closeParts, cl2, toD_dep, toD_d, toDs, chunk, nble_d, roOf, encY_len, encB_len, encS_len, encX_len, hx, rowsOf_S, cloneV, fS, s2, s3, s4, toDs_fl]; exact iZ))
 | apply WP.block | apply WP.skip | apply WP.exit | apply WP.ret | refine WP.condT rfl ?_ | refine WP.condF rfl ?_)
  apply WP.loop' (I := fun D2 s => ∃ (k gb c5 : Nat) (hp5 : Hp), k + D2 = y.brs.length ∧ hp5.get 0 = some ⟨g, false, fl (encY (l.take j))⟩ ∧ hp5.get 3 = some ⟨c' + 2, false, fl (encS y.outs)⟩ ∧
   hp5.get 4 = some ⟨c' + 3, false, [.d (.int .i64 y.k), .d (.str y.nm), .d (.int .i64 y.t), .d (.int .i64 y.r.k), .d (.int .i64 y.r.o), .d (.int .i64 y.r.t), .d (.int .i64 y.r.v), .d (.str y.r.nm), .d (.slice (encX y.r.args)), .osl 3 (c' + 2) 0 y.outs.length 1 none, .d (.slice (encX y.args)), .osl 5 gb 0 k 1 none]⟩ ∧
   hp5.get 5 = some ⟨gb, false, fl (encB (y.brs.take k))⟩ ∧
   s = ⟨[(3, .osl 0 g 0 j 12 none), (6, .ptr 4 (c' + 3) 0), (9, dL (encY l)), (10, dI l.length), (11, dI j), (35, dL (encB y.brs)), (36, dI y.brs.length), (37, dI k)], hp5, 6, c5, 0, []⟩) (d := y.brs.length)
  ·exact ⟨0, c' + 4, _, _, by simp, by simp [hx], by simp, by simp, by simp [fl, encB], st_eq (by simp [dI, dL]) rfl⟩
  rintro D2 _ ⟨k, gb, c5, hp5, hk, h0, h3, h4, h5, rfl⟩
  refine wknv (jn @dI.eq_1 @dL.eq_1) ?_
  show WP _ _ _ _ _ _
  refine WP.cond _ rfl (fun hb => ?_) (fun hb => ?_)
  ·simp at hb
   have hb5 : k < y.brs.length := by omega
   obtain ⟨b, hbb, hbm, hix5⟩ := at_lt hb5
   have hb' := encB_at hbb
   have hwk := w_succ hb5 (by have := len_szB y.brs; omega)
   have hms5 := mem_szB hbm
   have hcb := ih b (by omega) (by omega)
   simp only [dL] at hcb
   have hsn := take_snoc hbb
   have hLl : (y.brs.take k).length = k := by simp; omega
   have r2 := fl_len (encB_row (y.brs.take k))
   have r3 := fl_take (encB_row (y.brs.take k))
   have r4 := fl_snoc (encB (y.brs.take k)) [.slice (encY b)]
   have r5 := encB_snoc (y.brs.take k) b
   have f5 : fitsB (k + 1) 24 = true := by have := len_szB y.brs; simp [fitsB]; omega
   rw [r5, ← hsn] at r4
   rw [encB_len, hLl, Nat.mul_one] at r2 r3
   simp only [List.map_cons, List.map_nil] at r4
   repeat (first
 | apply WP.seq
 | (apply WP.reg; (case hR => dsimp only [prepL, prepO, List.map, gS, gZ]; exact iZ); (case hr => (repeat (first
 | (apply RT.op; simp [dI, dL, hix5, hb', hcb, fillV, closeParts, cl2, toD_dep, toD_d, nble_d, f5, r2, r3, r4, h0, h3, h4, h5]; exact iZ; (try dsimp only [putEnv]) <;> exact rfl)
 | (apply RT.call; (iterate 2 simp; exact iZ); exact iZ; (iterate 4 simp [dI, dL, hix5, hb', hcb, fillV, closeParts, cl2, toD_dep, toD_d, nble_d, f5, r2, r3, r4, h0, h3, h4, h5]; exact iZ); simp [Is]; (try dsimp only [putEnv]) <;> exact rfl; simp; exact iZ; simp; exact iZ)
 | (apply RT.clone; (iterate 2 simp; exact iZ); exact iZ; (iterate 2 simp [dI, dL, hix5, hb', hcb, fillV, closeParts, cl2, toD_dep, toD_d, nble_d, f5, r2, r3, r4, h0, h3, h4, h5]; exact iZ); (first | assumption | (simp [fitsB]; omega)); (try dsimp only [putEnv]) <;> exact rfl; simp [dI, dL, hix5, hb', hcb, fillV, closeParts, cl2, toD_dep, toD_d, nble_d, f5, r2, r3, r4, h0, h3, h4, h5]; exact iZ; simp; exact iZ)
 | (apply RT.callV; (iterate 2 simp; exact iZ); exact iZ; (iterate 3 simp [dI, dL, hix5, hb', hcb, fillV, closeParts, cl2, toD_dep, toD_d, nble_d, f5, r2, r3, r4, h0, h3, h4, h5]; exact iZ); (try dsimp only [putEnv]) <;> exact rfl)
 | (apply RT.wr; simp [dI, dL, hix5, hb', hcb, fillV, closeParts, cl2, toD_dep, toD_d, nble_d, f5, r2, r3, r4, h0, h3, h4, h5]; exact iZ; (try dsimp only [putEnv]) <;> exact rfl; simp [dI, dL, hix5, hb', hcb, fillV, closeParts, cl2, toD_dep, toD_d, nble_d, f5, r2, r3, r4, h0, h3, h4, h5]; exact iZ; (iterate 2 exact iZ); simp; exact iZ))); exact RT.nil); (case hc => first | (refine checkR_un [(0, 2), (1, 2), (0, 3), (1, 3), (0, 4), (1, 4)] (by kernel_rfl) (by kernel_rfl) rfl ?_; simp [memA, disj, nbeq_dec]; done) | (show _ = _; kernel_rfl)); (case ht => simp [dI, dL, hix5, hb', hcb, fillV, closeParts, cl2, toD_dep, toD_d, nble_d, f5, r2, r3, r4, h0, h3, h4, h5]; exact iZ))
 | apply WP.block | apply WP.skip | apply WP.exit | apply WP.ret | refine WP.condT rfl ?_ | refine WP.condF rfl ?_)
   refine loop_next (by simp [hwk]; exact Is.rfl) ?_
   exact ⟨D2 - 1, by omega, k + 1, c5 + 1, _, _, by omega, by simp [h0], by simp [h3], by simp, by simp, st_eq (by simp [dI, dL, hwk]) rfl⟩
  simp at hb
  have hke : k = y.brs.length := by omega
  rw [hke, List.take_length] at h5
  have hsn := take_snoc hy
  have hLl : (l.take j).length = j := by simp; omega
  have r2 := fl_len (encY_row (l.take j))
  have r3 := fl_take (encY_row (l.take j))
  have r4 := fl_snoc (encY (l.take j)) y.cells
  have r5 := encY_snoc (l.take j) y
  have f5 : fitsB (j + 1) 176 = true := by simp [fitsB]; omega
  rw [r5, ← hsn] at r4
  rw [encY_len, hLl] at r2 r3
  simp only [Y.cells_eq, X.cells_eq, List.map_cons, List.map_nil, List.map_append, List.cons_append, List.nil_append] at r4
  have u2 := fl_len (encB_row y.brs)
  have u3 := fl_take (encB_row y.brs)
  have u4 := chunk_flat (encB_row y.brs)
  rw [encB_len, Nat.mul_one] at u2 u3
  rw [encB_len] at u4
  refine wkcnv (jn @dI.eq_1 (jn @dL.eq_1 (jn @fillV.eq_1 (jn @fillV.eq_2 (jn @closeParts.eq_1 (jn @closeParts.eq_2 (jn @cl2.eq_def (jn @toD_dep (jn @toD_d (jn @toDs.eq_1 (jn @toDs.eq_2 (jn @chunk.eq_1 (jn @chunk.eq_2 (jn @nble_d (jn @f5 (jn @r2 (jn @r3 (jn @r4 (jn @s2 (jn @s3 (jn @s4 (jn @u2 (jn @u3 (jn @u4 (jn @toDs_fl (jn @h0 (jn @h3 (jn @h4 (jn @h5 @hke))))))))))))))))))))))))))))) ?_
  refine loop_next (by simp [hwj]; exact Is.rfl) ?_
  exact ⟨D - 1, by omega, j + 1, c5 + 1, _, _, by omega, by simp, st_eq (by simp [dI, dL, hwj]) rfl⟩
 ·simp at hb
  have hje : j = l.length := by omega
  rw [hje, List.take_length] at hx
  refine wkcnv (jn @dI.eq_1 @dL.eq_1) ?_
  have hcl := close_fl (look := hp'.get) (id := 0) (g := g) (ro := false) (cap := none) (encY_row l) hx
  rw [encY_len, ← hje] at hcl
  exact ⟨.inr rfl, _, [0], rfl, hcl⟩
end Go.Ac
end
