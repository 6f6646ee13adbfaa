/- The memories of an instance (the program's Memory). -/
import Derived.Test.YtkgekafdhehleaaGreatObXvM
set_option linter.unusedVariables false
set_option linter.unusedSimpArgs false
section
set_option maxRecDepth 4000
namespace Go.Ac
open Go.Proofs
attribute [local simp] Hp.get_set Ag_set Ag_refl Ag_trunc get_trunc_lt
theorem insL_get : ∀ (is : List Ii) (ps : List Pt) (nm : Tx) (q : Pt), is.findIdx (fun d => decide (d.nm = nm)) < is.length → ps[is.findIdx fun d => decide (d.nm = nm)]? = some q → mget ((is.map Ii.nm).zip (ps.map fun p => (p.a.x, p.a.gx))) nm = some (q.a.x, q.a.gx)
 | [], ps, nm, q, h, _ => by simp at h
 | d :: r, [], nm, q, h, hq => by simp at hq
 | d :: r, p :: ps, nm, q, h, hq => by
  rw [List.findIdx_cons] at h hq
  unfold mget
  rw [List.map_cons, List.map_cons, List.zip_cons_cons, List.find?_cons]
  by_cases hd : d.nm = nm
  ·simp [hd] at hq ⊢
   rw [hq]; exact ⟨rfl, rfl⟩
  ·rw [decide_eq_false hd] at h hq ⊢
   simp only [cond_false, List.length_cons] at h hq
   have := insL_get r ps nm q (by omega) (by simpa using hq)
   unfold mget at this
   exact this
theorem args_form {w : Pl} : ∀ (l : List X) (ds : List Dc), argsW w l ds = 0 → l.length = ds.length → l.all formE = true
 | [], _, _, _ => rfl
 | x :: r, [], _, h => by simp at h
 | x :: r, d :: ds, h, hl => by
  rw [argsW] at h
  split at h
  ·rename_i hn; exact absurd h hn
  rename_i hn
  have ha : argE w x d = 0 := Decidable.not_not.1 hn
  unfold argE at ha
  split at ha
  ·rename_i h1; exact absurd ha h1
  rename_i h1
  have h1 := Decidable.not_not.1 h1
  rw [List.all_cons, args_form r ds h (by simpa using hl), Bool.and_true]
  unfold exprW at h1
  split at h1
  ·assumption
  ·simp at h1
theorem zt37 : ∃ z, zeroT Tryz.prog 37 = some z := Option.isSome_iff_exists.1 (by kernel_rfl)
/-- What a step does. -/
def StepAt (o : Oc) (N : Nat) : Prop := ∀ (t : Trn) (p : Pt) (ins : List Int), t.ht ≤ N → t.ok o → insOK o.en t.c.inn ins → ∀ hp n cc, Lies o.en t p hp n →
 ThrG Tryz.prog Ob.cfg 37 [.ptr p.a.x p.a.gx 0, dL (encI ins)] hp n cc (dL (encI (stepT N t ins).2)) (mids p) (fun hp' => ∀ e, e ∈ meC (stepT N t ins).1 p → hp'.get e.1 = some e.2)
theorem kf85 (r : Nat) : Ob.keep 85 r = Ob.k85 r := by kernel_rfl
attribute [local simp] kf85 Ob.k85
section
variable {o : Oc} {c : Cl} {pb : Pb} {ps : List Pt} {v gv : Nat} {N h0 : Nat}
theorem exL_snoc (F : Trn → List Int → Trn × List Int) {l : List Y} {j : Nat} {y : Y} (h : l[j]? = some y) (s : Es) : exL c F (l.take (j + 1)) s = exY c F y (exL c F (l.take j) s) := by
 rw [take_snoc h, exL_app, exL, exL]
set_option maxHeartbeats 8000000 in
theorem exec85 (hw : ∀ c, c ∈ o.cl → CWf o c) (hL : ∀ c, c ∈ o.cl → CLen c) (hc : c ∈ o.cl) (hS : StepAt o N) (hh : h0 ≤ N) : ∀ M, M ≤ 8388609 → ∀ l : List Y, szY l < M → wtL o c l → okY l → ∀ s : Es, s.ok o c h0 → ∀ hp n cc, EA o.en c pb ps v gv s hp n →
  ThrG Tryz.prog Ob.cfg 85 [.agg [.ptr pb.x pb.gx 0, .mp v gv], dL (encY l)] hp n cc (.tuple []) (v :: mids (.mk pb ps)) (fun hp' => hp'.get v = some ⟨gv, false, [mpC eI (exL c (stepT N) l s).vs]⟩ ∧ ∀ e, e ∈ meC (.mk c (exL c (stepT N) l s).ms (exL c (stepT N) l s).sb) (.mk pb ps) → hp'.get e.1 = some e.2) := by
 intro M
 induction M with
 | zero => intro _ l h; omega
 | succ M ih =>
 intro hM l hl hwt hok s hs hp n cc hE
 have hlen := len_szY l
 have hcw := hw c hc
 have hFok : Fok o N (stepT N) := stepT_ok hw N
 have hF0 : Fok o h0 (stepT N) := fun t ins h1 => hFok t ins (by omega)
 refine thrG_wp Tryz.func85 rfl (by kernel_rfl) rfl ?_
 refine wkcektv (jn @envOf.eq_1 (jn @envOf.eq_2 (jn @dI.eq_1 (jn @dL.eq_1 (jn @fillV.eq_1 (jn @fillV.eq_2 @encY_len)))))) ?_
 apply WP.loop' (I := fun D st => ∃ (j c' : Nat) (wl : List Nat) (hp' : Hp) (sj : Es), j + D = l.length ∧ sj = exL c (stepT N) (l.take j) s ∧ sj.ok o c h0 ∧ EA o.en c pb ps v gv sj hp' n ∧ WI (v :: mids (.mk pb ps)) n hp wl hp' ∧ hp'.get n = some ⟨cc, false, [.ptr pb.x pb.gx 0, .mp v gv]⟩ ∧
  st = ⟨[(2, .ptr n cc 0), (9, dL (encY l)), (10, dI l.length), (11, dI j)], hp', n + 1, c', n, wl⟩) (d := l.length)
 ·exact ⟨0, _, _, _, s, by simp, by simp [exL], hs, hE.mono (by simp [Ag_set, Ag_refl]) (Nat.le_refl n), WI.refl.set (.inr (Nat.le_refl n)), by simp, st_eq (by simp [dI, dL]) rfl⟩
 rintro D _ ⟨j, c', wl, hp', sj, hj, hsj, hsok, hEj, hwi, hx0, rfl⟩
 refine wkektv (jn @dI.eq_1 (jn @dL.eq_1 @encY_len)) ?_
 show WP _ _ _ _ _ _
 refine WP.cond _ rfl (fun hb => ?_) (fun hb => ?_)
 ·simp at hb
  have hb' : j < l.length := by omega
  obtain ⟨y, hy, hym, hix⟩ := at_lt hb'
  have hy' := encY_at hy
  have hwj := w_succ hb' (by omega)
  have hex := exL_snoc (c := c) (stepT N) hy s
  rw [← hsj, exY_eq] at hex
  have hyt := hwt y hym
  have hysz := mem_szY hym
  have hys := Y.sz_eq y
  obtain ⟨ok1, ok2, ok3, ok4⟩ := Y.ok_eq ((okY_iff _).1 hok y hym)
  have hvn := eq_false (show ¬ n = v by have := hEj.lv; omega)
  have hvn1 := eq_false (show ¬ n + 1 = v by have := hEj.lv; omega)
  have lv1 : (v < n + 1) = True := eq_true (by have := hEj.lv; omega)
  have lv2 : (v < n + 2) = True := eq_true (by have := hEj.lv; omega)
  have hs2 := ex_ok hw hcw hF0 _ (l.take (j + 1)) (Nat.lt_succ_self _) (fun z hz => hwt z (List.mem_of_mem_take hz)) s hs
  have hva := hEj.va
  have hob := hEj.ob.2
  simp only [oO] at hob
  have hmo := hEj.mo.2
  have hio := hEj.io.2
  have nx := nf hEj.ob.1
  have nm := nf hEj.mo.1
  have ni := nf hEj.io.1
  have nv := nf hEj.lv
  have hnv := eq_false (show ¬ v = n by have := hEj.lv; omega)
  have hni := eq_false (show ¬ pb.im = n by have := hEj.mo.1; omega)
  have hvlt := hEj.lv
  have hnv1 := eq_false (show ¬ v = n + 1 by have := hEj.lv; omega)
  have lm1 : (pb.im < n + 1) = True := eq_true (by have := hEj.mo.1; omega)
  have lm2 : (pb.im < n + 2) = True := eq_true (by have := hEj.mo.1; omega)
  rcases hyt.cases hw hcw with ⟨k, t, h1, h2, h3⟩ | ⟨k, h1, h2⟩ | ⟨k, h1, h2, h3, h4⟩ | ⟨k, h1, h2, h3, cx, bf, h4, h5⟩ | ⟨k, h1⟩
  ·rw [if_pos k] at hex
   have hval := value123 (a := paOf pb v gv) (en := o.en) (c := c) (ms := sj.ms) (vs := sj.vs) M (by omega) y.r (by omega) h1.1 ok2
   obtain ⟨F, G, hr⟩ := hval.fn hEj.ra
   simp only [aG, rV, paOf, X.cells_eq, List.map_cons, List.map_nil, dI] at hr
   have hins := fun (look : Look) (sz by_ : Nat) (zr : Option (List V)) (h : look v = some ⟨gv, false, [mpC eI sj.vs]⟩) => insert_mp eI sj.vs (evE sj.vs sj.ms y.r) (w := .d (.int .i64 (evE sj.vs sj.ms y.r))) (sz := sz) (by_ := by_) (zr := zr) (x := y.nm) rfl h
   refine wkcektv (jn @dI.eq_1 (jn @dL.eq_1 (jn @encY_len (jn @hix (jn @hy' (jn @Y.cells_eq (jn @X.cells_eq (jn @fillV.eq_1 (jn @fillV.eq_2 (jn @k (jn @int_beq (jn @hx0 (jn @hr (jn @hvn (jn @hvn1 (jn @lv1 (jn @lv2 (jn @hva @hins)))))))))))))))))) ?_
   refine loop_next (by simp [-addNew, hwj]; exact Is.rfl) ?_
   refine ⟨D - 1, by omega, j + 1, _, _, _, _, by omega, rfl, hs2, ?_, (by repeat' (first | exact hwi | (refine WI.trunc ?_ (by omega)) | (refine WI.set ?_ (.inr (by omega))) | (refine WI.set ?_ (.inl (by simp [mids]))))), by simp [hx0, hnv, hni], st_eq (by simp [dI, dL, hwj]) rfl⟩
   rw [hex]
   refine hEj.setV fun id hid => ?_
   have e1 : (n + 1 = id) = False := eq_false (by omega)
   have e2 : (id < n + 1) = True := eq_true (by omega)
   by_cases hq : v = id
   ·subst hq; simp [e2]
   ·simp [e1, e2, hq, Ne.symm hq]
  ·rw [if_neg (by omega), if_pos k] at hex
   have hval := value123 (a := paOf pb v gv) (en := o.en) (c := c) (ms := sj.ms) (vs := sj.vs) M (by omega) y.r (by omega) h1.1 ok2
   obtain ⟨F, G, hr⟩ := hval.fn hEj.ra
   simp only [aG, rV, paOf, X.cells_eq, List.map_cons, List.map_nil, dI] at hr
   have hins := fun (look : Look) (sz by_ : Nat) (zr : Option (List V)) (h : look pb.im = some ⟨pb.gm, false, [mpC eI sj.ms]⟩) => insert_mp eI sj.ms (evE sj.vs sj.ms y.r) (w := .d (.int .i64 (evE sj.vs sj.ms y.r))) (sz := sz) (by_ := by_) (zr := zr) (x := y.nm) rfl h
   refine wkcektv (jn @dI.eq_1 (jn @dL.eq_1 (jn @encY_len (jn @hix (jn @hy' (jn @Y.cells_eq (jn @X.cells_eq (jn @fillV.eq_1 (jn @fillV.eq_2 (jn @k (jn @int_beq (jn @hx0 (jn @hr (jn @hob (jn @nx (jn @nm (jn @lm1 (jn @lm2 (jn @hmo @hins))))))))))))))))))) ?_
   refine loop_next (by simp [-addNew, hwj]; exact Is.rfl) ?_
   refine ⟨D - 1, by omega, j + 1, _, _, _, _, by omega, rfl, hs2, ?_, (by repeat' (first | exact hwi | (refine WI.trunc ?_ (by omega)) | (refine WI.set ?_ (.inr (by omega))) | (refine WI.set ?_ (.inl (by simp [mids]))))), by simp [hx0, hnv, hni], st_eq (by simp [dI, dL, hwj]) rfl⟩
   rw [hex]
   refine hEj.setM fun id hid => ?_
   have e1 : (n + 1 = id) = False := eq_false (by omega)
   have e2 : (id < n + 1) = True := eq_true (by omega)
   by_cases hq : pb.im = id
   ·rw [← hq]; simp [lm1]
   ·simp [e1, e2, hq, Ne.symm hq]
  ·rw [if_neg (by omega), if_neg (by omega), if_pos k] at hex
   have hty := hsok.v y.nm h1
   unfold hasE at hty
   rw [if_neg h2] at hty
   simp at hty
   generalize hV0 : gz sj.vs y.nm = V0 at *
   have hlt : V0.toNat < y.brs.length := by omega
   obtain ⟨b, hb1⟩ : ∃ b, y.brs[V0.toNat]? = some b := ⟨_, List.getElem?_eq_getElem hlt⟩
   have hbm := List.mem_of_getElem? hb1
   have hb2 := encB_at hb1
   rw [exN_at c (stepT N) sj y.brs _ b hb1] at hex
   have hge' : (0 ≤ V0) = True := eq_true hty.1
   have hlt' : (V0 < (y.brs.length : Int)) = True := eq_true (by omega)
   have hixb : idx V0 y.brs.length = some V0.toNat := by unfold idx; rw [if_pos ⟨hty.1, by omega⟩]
   have hlv := fun (look : Look) (sz by_ : Nat) (zr : Option (List V)) (h : look v = hp'.get v) => look_gz sj.vs (sz := sz) (by_ := by_) (zr := zr) (x := y.nm) (h.trans hEj.va)
   simp only [hV0] at hlv
   refine wkcektv (jn @dI.eq_1 (jn @dL.eq_1 (jn @encY_len (jn @hix (jn @hy' (jn @Y.cells_eq (jn @X.cells_eq (jn @fillV.eq_1 (jn @fillV.eq_2 (jn @k (jn @int_beq (jn @hx0 (jn @hvn (jn @hvn1 (jn @zt3 (jn @nv (jn @hlv (jn @hge' (jn @hlt' @encB_len))))))))))))))))))) ?_
   apply WP.gen3
   intro hp3 c3 wl3 hhp hwl
   have hx3 : hp3.get n = some ⟨cc, false, [.ptr pb.x pb.gx 0, .mp v gv]⟩ := by rw [hhp]; simp [hx0]
   have hy3 : hp3.get (n + 1) = some ⟨c', false, [V.d (.int .i64 3), V.d (.str y.nm), V.d (.int .i64 y.t), V.d (.int .i64 y.r.k), V.d (.int .i64 y.r.o), V.d (.int .i64 y.r.t), V.d (.int .i64 y.r.v), V.d (.str y.r.nm), V.d (.slice (encX y.r.args)), V.d (.slice (encS y.outs)), V.d (.slice (encX y.args)), V.d (.slice (encB y.brs))]⟩ := by rw [hhp]; simp
   have hag3 : Ag n hp' hp3 := by rw [hhp]; simp [Ag_set, Ag_refl]
   have hwi3 : WI (v :: mids (.mk pb ps)) n hp wl3 hp3 := by rw [hhp, hwl]; exact (hwi.set (.inr (by omega))).set (.inr (by omega))
   have hE3 : EA o.en c pb ps v gv sj hp3 (n + 2) := hEj.mono hag3 (by omega)
   clear hhp hwl
   obtain ⟨q, hT1, hv, hn, hT2, hki, hfr, hpz, hΦ, hsame⟩ := (ih (by omega) b (by have := mem_szB hbm; omega) (h4 b hbm) ((okB_iff _).1 ok4 b hbm) sj hsok hp3 (n + 2) c3 hE3).caller (by
    intro k hk
    rcases List.mem_cons.1 hk with rfl | hk
    ·exact hE3.lv
    ·exact hE3.mlt k hk)
   refine wkcektv (jn @dI.eq_1 (jn @dL.eq_1 (jn @encB_len (jn @hx3 (jn @hy3 (jn @hixb (jn @hb2 (jn @hv @hn)))))))) ?_
   refine loop_next (by simp [-addNew, hwj]; exact Is.rfl) ?_
   refine ⟨D - 1, by omega, j + 1, _, _, _, _, by omega, rfl, hs2, ?_, WI.trunc (hwi3.sets fun p hp' => .inl (hki p.1 (List.mem_map.2 ⟨p, hp', rfl⟩))) (by omega), ?_, st_eq (by simp [dI, dL, hwj]) rfl⟩
   ·rw [hex]
    refine hEj.setA (ex_bare (stepT_bare N) _ b (Nat.lt_succ_self _) sj) (fun id h1 h2 h3 => ?_) ?_ fun e he => ?_
    ·rw [Hp.get_trunc _ _ _ (by omega), hfr id (by omega) (by simp [h2, h3]), hag3 id h1]
    ·rw [Hp.get_trunc _ _ _ (by omega), hsame v (by omega) (by rw [hΦ.1]; rfl)]; exact hΦ.1
    ·have hfi : fit (.mk c (exL c (stepT N) b sj).ms (exL c (stepT N) b sj).sb) (.mk pb ps) := by rw [← fit_bare, Trn.bare, ex_bare (stepT_bare N) _ b (Nat.lt_succ_self _) sj, ← Trn.bare, fit_bare]; exact hEj.li.fit
     have hlt := hEj.mlt e.1 (by rw [← meC_keys _ _ hfi]; exact List.mem_map.2 ⟨e, he, rfl⟩)
     have h2 := hΦ.2 e he
     rw [Hp.get_trunc _ _ _ (by omega), hsame _ (by omega) (by rw [h2]; rfl)]; exact h2
   ·rw [Hp.get_trunc _ _ _ (Nat.lt_succ_self n), hfr n (by omega) fun h => ?_]
    ·exact hx3
    ·rcases List.mem_cons.1 h with h | h
     ·omega
     ·exact Nat.lt_irrefl _ (hEj.mlt _ h)
  ·rw [if_neg (by omega), if_neg (by omega), if_neg (by omega), if_pos k] at hex
   obtain ⟨t, ht, hto, htc⟩ := inst_at hsok.b h1
   simp only [ht] at hex
   have hlt : inIx c y.nm < c.ins.length := by
    have h1 := okS_len o _ _ hsok.b
    have h2 := (List.getElem?_eq_some_iff.1 ht).1
    omega
   obtain ⟨q, hq, hLq⟩ := hEj.li.sub (i := inIx c y.nm) (u := t) ht
   have hq : ps[inIx c y.nm]? = some q := hq
   have hget := insL_get c.ins ps y.nm q hlt hq
   obtain ⟨z, hz⟩ := zt37
   have hlk : ∀ (look : Look) (sz by_ : Nat) (zr : Option (List V)), look pb.ii = some ⟨pb.gi, false, [mpC eP (insL c ps)]⟩ → lookupV look ⟨.str, sz, by_, zr⟩ (some z) (.mp pb.ii pb.gi) (.d (.str y.nm)) false = some ⟨.ptr q.a.x q.a.gx 0, [], [pb.ii], 0, 0, false⟩ := by
    intro look sz by_ zr h
    rw [lookup_mp eP (insL c ps) h]
    unfold insL
    rw [hget]; rfl
   have hql : ∀ k, k ∈ mids q → k ∈ v :: mids (.mk pb ps) := fun k hk => List.mem_cons_of_mem _ (by rw [mids]; exact List.mem_cons_of_mem _ (mids_at ps _ q hq k hk))
   rw [← htc] at h2 h3 h4 h5
   have hi := args_ok hw hsok.v hsok.m cx bf y.args t.c.inn h4 h2
   have hth : t.ht ≤ N := by
    have h1 := htL_mem (List.mem_of_getElem? ht)
    have h2 := hsok.h
    omega
   obtain ⟨g1, g2, g3, g4⟩ := hFok t _ hth hto hi
   have hvals := vals124 (a := paOf pb v gv) (en := o.en) (c := c) (ms := sj.ms) (vs := sj.vs) (N := M) (fun x a1 a2 a3 => value123 M (by omega) x a1 a2 a3) y.args (by omega) (args_form y.args t.c.inn h4 h2) ok3 (by omega)
   obtain ⟨F, G, hr⟩ := hvals.fn hEj.ra
   simp only [rV, paOf, dL] at hr
   refine wkcektv (jn @dI.eq_1 (jn @dL.eq_1 (jn @encY_len (jn @hix (jn @hy' (jn @Y.cells_eq (jn @X.cells_eq (jn @fillV.eq_1 (jn @fillV.eq_2 (jn @k (jn @int_beq @hx0))))))))))) ?_
   apply WP.gen3
   intro hp3 c3 wl3 hhp hwl
   have hx3 : hp3.get n = some ⟨cc, false, [.ptr pb.x pb.gx 0, .mp v gv]⟩ := by rw [hhp]; simp [hx0]
   have hy3 : hp3.get (n + 1) = some ⟨c', false, [V.d (.int .i64 4), V.d (.str y.nm), V.d (.int .i64 y.t), V.d (.int .i64 y.r.k), V.d (.int .i64 y.r.o), V.d (.int .i64 y.r.t), V.d (.int .i64 y.r.v), V.d (.str y.r.nm), V.d (.slice (encX y.r.args)), V.d (.slice (encS y.outs)), V.d (.slice (encX y.args)), V.d (.slice (encB y.brs))]⟩ := by rw [hhp]; simp
   have hag3 : Ag n hp' hp3 := by rw [hhp]; simp [Ag_set, Ag_refl]
   have hwi3 : WI (v :: mids (.mk pb ps)) n hp wl3 hp3 := by rw [hhp, hwl]; exact (hwi.set (.inr (by omega))).set (.inr (by omega))
   clear hhp hwl
   have hob3 : hp3.get pb.x = _ := (hag3 _ hEj.ob.1).trans hob
   have hio3 : hp3.get pb.ii = _ := (hag3 _ hEj.io.1).trans hio
   have hLq3 : Lies o.en t q hp3 (n + 2) := hLq.mono hag3 (by omega)
   have hagt := eq_true hag3
   obtain ⟨q4, hT1, hv, hn, hT2, hki, hfr, hpz, hΦ, hsame⟩ := (hS t q _ hth hto hi hp3 (n + 2) (c3 + (G hp3 (n + 2) c3 - c3)) hLq3).caller (by
    intro k hk
    exact hLq3.mids_lt k hk)
   have hub := stepT_bare N t (evL sj.vs sj.ms y.args)
   simp only [dL] at hT1 hv
   generalize hST : stepT N t (evL sj.vs sj.ms y.args) = ST at *
   obtain ⟨u, os⟩ := ST
   simp only at hv hΦ hex g1 g2 g3 g4 hub
   repeat (first
 | apply WP.seq
 | (apply WP.reg; (case hR => dsimp only [prepL, prepO, List.map, gS, gZ]; exact iZ); (case hr => (repeat (first
 | (apply RT.op; simp [-addNew, dI, dL, hx3, hy3, hob3, hio3, hlk, hz, hr, hagt, nx, ni, hv, hn, encI_len]; exact iZ; (try dsimp only [putEnv]) <;> exact rfl)
 | (apply RT.call; (iterate 2 simp; exact iZ); exact iZ; (iterate 4 simp [-addNew, dI, dL, hx3, hy3, hob3, hio3, hlk, hz, hr, hagt, nx, ni, hv, hn, encI_len]; exact iZ); simp [Is]; (try dsimp only [putEnv]) <;> exact rfl; simp; exact iZ; exact iZ)
 | (apply RT.callV; (iterate 2 simp; exact iZ); exact iZ; (iterate 3 simp [-addNew, dI, dL, hx3, hy3, hob3, hio3, hlk, hz, hr, hagt, nx, ni, hv, hn, encI_len]; exact iZ); (try dsimp only [putEnv]) <;> exact rfl)
 | (apply RT.callT (hd := hT1) (hk := hT2); (iterate 2 simp; exact iZ); exact iZ; (iterate 2 simp [-addNew, dI, dL, hx3, hy3, hob3, hio3, hlk, hz, hr, hagt, nx, ni, hv, hn, encI_len]; exact iZ); (try dsimp only [putEnv]) <;> exact rfl)
 | (apply RT.wr; simp [-addNew, dI, dL, hx3, hy3, hob3, hio3, hlk, hz, hr, hagt, nx, ni, hv, hn, encI_len]; exact iZ; (try dsimp only [putEnv]) <;> exact rfl; simp [-addNew, dI, dL, hx3, hy3, hob3, hio3, hlk, hz, hr, hagt, nx, ni, hv, hn, encI_len]; exact iZ; (iterate 2 exact iZ); exact iZ))); exact RT.nil); (case hc => first | (refine checkR_un [(0, 5), (1, 5), (2, 5), (3, 5), (4, 5), (0, 6), (1, 6), (2, 6), (3, 6), (4, 6), (0, 8), (1, 8), (2, 8), (3, 8), (4, 8), (5, 8), (6, 8), (7, 8), (0, 9), (1, 9), (2, 9), (3, 9), (4, 9), (5, 9), (6, 9), (7, 9), (8, 9), (0, 10), (1, 10), (2, 10), (3, 10), (4, 10), (5, 10), (6, 10), (7, 10), (8, 10), (0, 11), (1, 11), (2, 11), (3, 11), (4, 11), (5, 11), (6, 11), (7, 11), (0, 14), (1, 14), (2, 14), (3, 14), (4, 14), (5, 14), (6, 14), (7, 14), (8, 14), (9, 14), (10, 14), (11, 14), (12, 14), (13, 14)] (by kernel_rfl) (by kernel_rfl) rfl ?_; simp [memA, disj, nbeq_dec, nx, ni]; done) | (show _ = _; kernel_rfl)); (case ht => simp [-addNew, dI, dL, hx3, hy3, hob3, hio3, hlk, hz, hr, hagt, nx, ni, hv, hn, encI_len]; exact iZ))
 | apply WP.block | apply WP.skip | apply WP.exit | apply WP.ret | refine WP.condT rfl ?_ | refine WP.condF rfl ?_)
   have hEs : EA o.en c pb ps v gv { sj with sb := sj.sb.set (inIx c y.nm) u } (hp3.sets (tWr q4 (n + 2))) n := by
    refine hEj.setS ht hq hub (fun id h1 h2 => ?_) fun e he => ?_
    ·rw [hfr id (by omega) h2, hag3 id h1]
    ·have h6 := hΦ e he
     have hfi : fit u q := by rw [← fit_bare, hub, fit_bare]; exact hLq.fit
     have hlt := hLq.mids_lt e.1 (by rw [← meC_keys _ _ hfi]; exact List.mem_map.2 ⟨e, he, rfl⟩)
     rw [hsame _ (by omega) (by rw [h6]; rfl)]; exact h6
   have hol : y.outs.length = os.length := by rw [h3]; exact g4.1.symm
   have hqn : n ∉ mids q ∧ n + 1 ∉ mids q := ⟨fun h => by have := hLq.mids_lt _ h; omega, fun h => by have := hLq.mids_lt _ h; omega⟩
   have hou : y.outs.length ≤ 8388608 := by have := len_szS y.outs; omega
   apply WP.loop' (I := fun D2 st => ∃ (i c5 : Nat) (wl5 : List Nat) (hp5 : Hp), i + D2 = os.length ∧ EA o.en c pb ps v gv { sj with vs := puts sj.vs ((y.outs.zip os).take i), sb := sj.sb.set (inIx c y.nm) u } hp5 n ∧ WI (v :: mids (.mk pb ps)) n hp wl5 hp5 ∧
    hp5.get n = some ⟨cc, false, [.ptr pb.x pb.gx 0, .mp v gv]⟩ ∧ hp5.get (n + 1) = some ⟨c', false, [V.d (.int .i64 4), V.d (.str y.nm), V.d (.int .i64 y.t), V.d (.int .i64 y.r.k), V.d (.int .i64 y.r.o), V.d (.int .i64 y.r.t), V.d (.int .i64 y.r.v), V.d (.str y.r.nm), V.d (.slice (encX y.r.args)), V.d (.slice (encS y.outs)), V.d (.slice (encX y.args)), V.d (.slice (encB y.brs))]⟩ ∧ st = ⟨[(2, .ptr n cc 0), (5, .ptr (n + 1) c' 0), (9, dL (encY l)), (10, dI l.length), (11, dI j), (77, dL (encI os)), (78, dI os.length), (79, dI i)], hp5, n + 2, c5, n, wl5⟩) (d := os.length)
   ·exact ⟨0, _, _, _, by simp, by simpa [puts] using hEs, hwi3.sets fun p hp' => .inl (hql _ (hki p.1 (List.mem_map.2 ⟨p, hp', rfl⟩))), by rw [hfr n (by omega) hqn.1]; exact hx3, by rw [hfr (n + 1) (by omega) hqn.2]; exact hy3, st_eq (by simp [dI, dL]) rfl⟩
   rintro D2 _ ⟨i, c5, wl5, hp5, hi5, hE5, hwi5, hx5, hy5, rfl⟩
   refine wkektv (jn @dI.eq_1 (jn @dL.eq_1 @encI_len)) ?_
   show WP _ _ _ _ _ _
   refine WP.cond _ rfl (fun hb => ?_) (fun hb => ?_)
   ·simp at hb
    have hb5 : i < os.length := by omega
    obtain ⟨d5, hd5, hdm5, hix5⟩ := at_lt hb5
    have hd5' := encI_at hd5
    obtain ⟨e5, he5, hem5, hiy5⟩ := at_lt (show i < y.outs.length by omega)
    have he5' := encS_at he5
    have hwj5 := w_succ hb5 (by omega)
    have hva5 := hE5.va
    have hzs : (y.outs.zip os).take (i + 1) = (y.outs.zip os).take i ++ [(e5, d5)] := take_snoc (by rw [List.getElem?_zip_eq_some]; exact ⟨he5, hd5⟩)
    simp only at hva5
    have hins := fun (look : Look) (sz by_ : Nat) (zr : Option (List V)) (h : look v = some ⟨gv, false, [mpC eI (puts sj.vs ((y.outs.zip os).take i))]⟩) => insert_mp eI (puts sj.vs ((y.outs.zip os).take i)) d5 (w := .d (.int .i64 d5)) (sz := sz) (by_ := by_) (zr := zr) (x := e5) rfl h
    refine wkcektv (jn @dI.eq_1 (jn @dL.eq_1 (jn @encI_len (jn @encS_len (jn @hx5 (jn @hy5 (jn @hix5 (jn @hd5' (jn @hiy5 (jn @he5' (jn @hva5 (jn @lv1 (jn @lv2 @hins))))))))))))) ?_
    refine loop_next (by simp [-addNew, hwj5]; exact Is.rfl) ?_
    have hwi := hwi5
    refine ⟨D2 - 1, by omega, i + 1, _, _, _, by omega, ?_, (by repeat' (first | exact hwi | (refine WI.trunc ?_ (by omega)) | (refine WI.set ?_ (.inr (by omega))) | (refine WI.set ?_ (.inl (by simp [mids]))))), by simp [hx5, hnv], by simp [hy5, hnv1], st_eq (by simp [dI, dL, hwj5]) rfl⟩
    rw [hzs, puts_snoc]
    refine hE5.setV fun id hid => ?_
    have e2 : (id < n + 2) = True := eq_true (by omega)
    by_cases hq : v = id
    ·subst hq; simp [e2, lv2]
    ·simp [e2, hq, Ne.symm hq]
   simp at hb
   have hie5 : i = os.length := by omega
   have hzt : (y.outs.zip os).take i = y.outs.zip os := List.take_of_length_le (by simp; omega)
   rw [hzt] at hE5
   refine wkcektv (jn @dI.eq_1 @dL.eq_1) ?_
   refine loop_next (by simp [-addNew, hwj]; exact Is.rfl) ?_
   have hwi := hwi5
   refine ⟨D - 1, by omega, j + 1, _, _, _, _, by omega, rfl, hs2, ?_, (by repeat' (first | exact hwi | (refine WI.trunc ?_ (by omega)) | (refine WI.set ?_ (.inr (by omega))) | (refine WI.set ?_ (.inl (by simp [mids]))))), by simp [hx5], st_eq (by simp [dI, dL, hwj]) rfl⟩
   rw [hex]
   exact hE5.mono (by simp [Ag_trunc, Ag_refl]) (Nat.le_refl n)
  ·rw [if_neg (by omega), if_neg (by omega), if_neg (by omega), if_neg (by omega)] at hex
   obtain ⟨t, ht, hto, htc⟩ := inst_at hsok.b h1
   simp only [ht] at hex
   have hlt : inIx c y.nm < c.ins.length := by
    have h1 := okS_len o _ _ hsok.b
    have h2 := (List.getElem?_eq_some_iff.1 ht).1
    omega
   obtain ⟨q, hq, hLq⟩ := hEj.li.sub (i := inIx c y.nm) (u := t) ht
   have hq : ps[inIx c y.nm]? = some q := hq
   have hget := insL_get c.ins ps y.nm q hlt hq
   obtain ⟨z, hz⟩ := zt37
   have hlk : ∀ (look : Look) (sz by_ : Nat) (zr : Option (List V)), look pb.ii = some ⟨pb.gi, false, [mpC eP (insL c ps)]⟩ → lookupV look ⟨.str, sz, by_, zr⟩ (some z) (.mp pb.ii pb.gi) (.d (.str y.nm)) false = some ⟨.ptr q.a.x q.a.gx 0, [], [pb.ii], 0, 0, false⟩ := by
    intro look sz by_ zr h
    rw [lookup_mp eP (insL c ps) h]
    unfold insL
    rw [hget]; rfl
   have hql : ∀ k, k ∈ mids q → k ∈ v :: mids (.mk pb ps) := fun k hk => List.mem_cons_of_mem _ (by rw [mids]; exact List.mem_cons_of_mem _ (mids_at ps _ q hq k hk))
   refine wkcektv (jn @dI.eq_1 (jn @dL.eq_1 (jn @encY_len (jn @hix (jn @hy' (jn @Y.cells_eq (jn @X.cells_eq (jn @fillV.eq_1 (jn @fillV.eq_2 (jn @k (jn @int_beq @hx0))))))))))) ?_
   apply WP.gen3
   intro hp3 c3 wl3 hhp hwl
   have hx3 : hp3.get n = some ⟨cc, false, [.ptr pb.x pb.gx 0, .mp v gv]⟩ := by rw [hhp]; simp [hx0]
   have hy3 : hp3.get (n + 1) = some ⟨c', false, [V.d (.int .i64 5), V.d (.str y.nm), V.d (.int .i64 y.t), V.d (.int .i64 y.r.k), V.d (.int .i64 y.r.o), V.d (.int .i64 y.r.t), V.d (.int .i64 y.r.v), V.d (.str y.r.nm), V.d (.slice (encX y.r.args)), V.d (.slice (encS y.outs)), V.d (.slice (encX y.args)), V.d (.slice (encB y.brs))]⟩ := by rw [hhp]; simp
   have hag3 : Ag n hp' hp3 := by rw [hhp]; simp [Ag_set, Ag_refl]
   have hwi3 : WI (v :: mids (.mk pb ps)) n hp wl3 hp3 := by rw [hhp, hwl]; exact (hwi.set (.inr (by omega))).set (.inr (by omega))
   clear hhp hwl
   have hob3 : hp3.get pb.x = _ := (hag3 _ hEj.ob.1).trans hob
   have hio3 : hp3.get pb.ii = _ := (hag3 _ hEj.io.1).trans hio
   have hLq3 : Lies o.en t q hp3 (n + 2) := hLq.mono hag3 (by omega)
   obtain ⟨r, hT1, hrv, hrn, hrw, hrf, hrm⟩ := reset_all hL o.en _ t q (Nat.lt_succ_self _) hto hp3 (n + 2) c3 hLq3
   have hT2 : ∀ k, k ∈ (tWr r (n + 2)).map (·.1) → k < n + 2 + (r.n - (n + 2)) := by
    intro k hk
    obtain ⟨h1, h2⟩ := (tWr_mem hrn).1 hk
    have := hLq3.mids_lt k (wset_mids t q k ((hrw k).1 h1))
    omega
   refine wkcektv (jn @dI.eq_1 (jn @dL.eq_1 (jn @hx3 (jn @hy3 (jn @hob3 (jn @hio3 (jn @hlk (jn @hz (jn @hrn (jn @nx @ni)))))))))) ?_
   refine loop_next (by simp [-addNew, hwj]; exact Is.rfl) ?_
   refine ⟨D - 1, by omega, j + 1, _, _, _, _, by omega, rfl, hs2, ?_, WI.trunc (hwi3.sets fun p hp' => .inl (hql _ (wset_mids t q _ ((hrw _).1 ((tWr_mem hrn).1 (List.mem_map.2 ⟨p, hp', rfl⟩)).1)))) (by omega), ?_, st_eq (by simp [dI, dL, hwj]) rfl⟩
   ·rw [hex]
    refine hEj.setS ht hq (init_bare t) (fun id h1 h2 => ?_) fun e he => ?_
    ·rw [Hp.get_trunc _ _ _ (by omega), tWr_get hrn, if_neg fun h => h2 (wset_mids t q _ ((hrw _).1 h.1)), hag3 id h1]
    ·have hfi : fit t.init q := by rw [← fit_bare, init_bare, fit_bare]; exact hLq.fit
     have hlt := hLq.mids_lt e.1 (by rw [← meC_keys _ _ hfi]; exact List.mem_map.2 ⟨e, he, rfl⟩)
     have h2 := hrm e he
     rw [Hp.get_trunc _ _ _ (by omega), tWr_get hrn]
     split
     ·exact h2
     ·rename_i hw3
      rw [← hrf _ (by omega) fun hw4 => hw3 ⟨(hrw _).2 hw4, by rw [h2]; rfl⟩]; exact h2
   ·rw [Hp.get_trunc _ _ _ (Nat.lt_succ_self n), tWr_get hrn, if_neg fun h => ?_]
    ·exact hx3
    ·exact Nat.lt_irrefl _ (hLq.mids_lt _ (wset_mids t q _ ((hrw _).1 h.1)))
 ·simp at hb
  have hje : j = l.length := by omega
  rw [hje, List.take_length] at hsj
  refine wkcektv (jn @dI.eq_1 @dL.eq_1) ?_
  refine ⟨.inl rfl, [], [], rfl, rfl, rfl, hwi, ?_, fun e he => ?_⟩
  ·rw [Hp.get_trunc _ _ _ hEj.lv, ← hsj]; exact hEj.va
  ·rw [← hsj] at he
   obtain ⟨h1, h2⟩ := hEj.li.me e he
   rw [Hp.get_trunc _ _ _ h1]; exact h2
end
end Go.Ac
end

section
set_option maxRecDepth 4000
namespace Go.Ac
open Go.Proofs
attribute [local simp] Hp.get_set Ag_set Ag_refl Ag_trunc get_trunc_lt
structure OW (o : Oc) : Prop where
 wf : ∀ c, c ∈ o.cl → CWf o c
 len : ∀ c, c ∈ o.cl → CLen c
 ok : ∀ c, c ∈ o.cl → c.ok
 sz : ∀ c, c ∈ o.cl → szY c.step ≤ 8388600
theorem Lies.sids_lt {en : List En} {t : Trn} {p : Pt} {hp : Hp} {n : Nat} (h : Lies en t p hp n) : ∀ k, k ∈ sids p → k < n := fun k hk => by
 rw [← stC_keys en t p h.fit] at hk
 obtain ⟨q, hq, rfl⟩ := List.mem_map.1 hk
 exact (h.st q hq).1
theorem kf37 (r : Nat) : Ob.keep 37 r = Ob.k37 r := by kernel_rfl
attribute [local simp] kf37 Ob.k37
set_option maxHeartbeats 8000000 in
theorem step37 {o : Oc} (hO : OW o) : ∀ N, StepAt o N := by
 intro N
 induction N with
 | zero => intro t p ins h; cases t; rw [Trn.ht] at h; omega
 | succ N ih =>
 intro t p ins hht hok hi hp n cc hK
 obtain ⟨c, ms, sb⟩ := t
 obtain ⟨pb, ps⟩ := p
 have hst0 := stepT_ok hO.wf (N + 1) _ ins hht hok hi
 rw [stepT] at hst0 ⊢
 rw [Trn.ok] at hok
 rw [Trn.ht] at hht
 have hi1 : ins.length = c.inn.length := hi.1
 have hc := hok.1
 have hcw := hO.wf c hc
 have hcl := (hO.len c hc).sum
 have hsz := hO.sz c hc
 have hxo := hK.st (pb.x, oO pb.gx o.en c pb.im pb.gm pb.ii pb.gi) (by rw [stC]; simp)
 obtain ⟨lx, hob⟩ := hxo
 simp only [oO] at lx hob
 have nx := nf lx
 show ThrG Tryz.prog Ob.cfg 37 [.ptr pb.x pb.gx 0, dL (encI ins)] hp n cc _ _ _
 generalize hs' : exL c (stepT N) c.step ⟨puts [] ((c.inn.map Dc.nm).zip ins), ms, sb⟩ = s' at hst0 ⊢
 refine thrG_wp Tryz.func37 rfl (by kernel_rfl) rfl ?_
 refine wkcektv (jn @envOf.eq_1 (jn @envOf.eq_2 (jn @dI.eq_1 (jn @dL.eq_1 (jn @fillV.eq_1 (jn @fillV.eq_2 (jn @makeMapV.eq_1 (jn @Value.oneCell'.eq_def (jn @hob (jn @nx @encD_len)))))))))) ?_
 have hvs : n ∉ sids (.mk pb ps) := fun h => by have := hK.sids_lt _ h; omega
 have hvm : n ∉ mids (.mk pb ps) := fun h => by have := hK.mids_lt _ h; omega
 apply WP.loop' (I := fun D st => ∃ (i c' : Nat) (wl : List Nat) (hp' : Hp), i + D = c.inn.length ∧ EA o.en c pb ps n cc ⟨puts [] (((c.inn.map Dc.nm).zip ins).take i), ms, sb⟩ hp' (n + 2) ∧ WI (mids (.mk pb ps)) n hp wl hp' ∧ hp'.get (n + 1) = some ⟨cc + 1, false, [.ptr pb.x pb.gx 0, .mp n cc]⟩ ∧
  st = ⟨[(0, .ptr pb.x pb.gx 0), (1, dL (encI ins)), (5, .ptr (n + 1) (cc + 1) 0), (18, dL (encD c.inn)), (19, dI c.inn.length), (20, dI i)], hp', n + 2, c', n, wl⟩) (d := c.inn.length)
 ·refine ⟨0, _, _, _, by simp, ⟨hK.mono (by simp [Ag_set, Ag_refl]) (by omega), by simp [puts, mpC], by omega, hvs, hvm⟩, ((WI.refl.set (.inr (by omega))).set (.inr (by omega))).set (.inr (by omega)), by simp, st_eq (by simp [dI, dL]) rfl⟩
 rintro D _ ⟨i, c', wl, hp', hii, hE, hwi, hx1, rfl⟩
 refine wkektv (jn @dI.eq_1 @dL.eq_1) ?_
 show WP _ _ _ _ _ _
 refine WP.cond _ rfl (fun hb => ?_) (fun hb => ?_)
 ·simp at hb
  have hb' : i < c.inn.length := by omega
  obtain ⟨d, hd, hdm, hix⟩ := at_lt hb'
  have hd' := encD_at hd
  obtain ⟨w, hw, hwm, hiy⟩ := at_lt (show i < ins.length by omega)
  have hw' := encI_at hw
  have hwj := w_succ hb' (by omega)
  have hva := hE.va
  simp only at hva
  have hzs : ((c.inn.map Dc.nm).zip ins).take (i + 1) = ((c.inn.map Dc.nm).zip ins).take i ++ [(d.nm, w)] := take_snoc (by rw [List.getElem?_zip_eq_some]; exact ⟨by simp [hd], hw⟩)
  have hins := fun (look : Look) (sz by_ : Nat) (zr : Option (List V)) (h : look n = some ⟨cc, false, [mpC eI (puts [] (((c.inn.map Dc.nm).zip ins).take i))]⟩) => insert_mp eI (puts [] (((c.inn.map Dc.nm).zip ins).take i)) w (w := .d (.int .i64 w)) (sz := sz) (by_ := by_) (zr := zr) (x := d.nm) rfl h
  refine wkcektv (jn @dI.eq_1 (jn @dL.eq_1 (jn @hix (jn @hd' (jn @Dc.cells.eq_1 (jn @fillV.eq_1 (jn @fillV.eq_2 (jn @hiy (jn @hw' (jn @encI_len (jn @hx1 (jn @hva @hins)))))))))))) ?_
  refine loop_next (by simp [-addNew, hwj]; exact Is.rfl) ?_
  refine ⟨D - 1, by omega, i + 1, _, _, _, by omega, ?_, (by repeat' (first | exact hwi | (refine WI.trunc ?_ (by omega)) | (refine WI.set ?_ (.inr (by omega))))), by simp [hx1], st_eq (by simp [dI, dL, hwj]) rfl⟩
  rw [hzs, puts_snoc]
  refine hE.setV fun id hid => ?_
  have e1 : (n + 2 = id) = False := eq_false (by omega)
  by_cases hq : n = id
  ·subst hq; simp
  ·simp [hid, e1, hq, Ne.symm hq]
 simp at hb
 have hie : i = c.inn.length := by omega
 have hzt : ((c.inn.map Dc.nm).zip ins).take i = (c.inn.map Dc.nm).zip ins := List.take_of_length_le (by simp; omega)
 rw [hzt] at hE
 refine wkcektv (jn @dI.eq_1 @dL.eq_1) ?_
 apply WP.gen3
 intro hp3 c3 wl3 hhp hwl
 have hx3 : hp3.get (n + 1) = some ⟨cc + 1, false, [.ptr pb.x pb.gx 0, .mp n cc]⟩ := by rw [hhp]; exact hx1
 have hE3 : EA o.en c pb ps n cc ⟨puts [] ((c.inn.map Dc.nm).zip ins), ms, sb⟩ hp3 (n + 2) := by rw [hhp]; exact hE
 have hwi3 : WI (mids (.mk pb ps)) n hp wl3 hp3 := by rw [hhp, hwl]; exact hwi
 clear hhp hwl
 have hob3 := hE3.ob.2
 simp only [oO] at hob3
 obtain ⟨q, hT1, hv, hn, hT2, hki, hfr, hpz, hΦ, hsame⟩ := (exec85 (h0 := htL sb) hO.wf hO.len hc ih (by omega) 8388609 (Nat.le_refl _) c.step (by omega) hcw.step (hO.ok c hc).step _ ⟨start_ok hO.wf hcw hi, hok.2.1, hok.2.2, rfl⟩ hp3 (n + 2) c3 hE3).caller (by
  intro k hk
  rcases List.mem_cons.1 hk with rfl | hk
  ·omega
  ·have := hK.mids_lt k hk; omega)
 have hbr := ex_bare (c := c) (stepT_bare N) _ c.step (Nat.lt_succ_self _) ⟨puts [] ((c.inn.map Dc.nm).zip ins), ms, sb⟩
 rw [hs'] at hΦ hbr
 have hbr : bareL s'.sb = bareL sb := hbr
 have hb2 : Trn.bare (.mk c s'.ms s'.sb) = Trn.bare (.mk c ms sb) := by rw [Trn.bare, Trn.bare, hbr]
 have hE4 : EA o.en c pb ps n cc s' (hp3.sets (tWr q (n + 2))) (n + 2) := by
  refine hE3.setA hbr (fun id h1 h2 h3 => hfr id (by omega) (by simp [h2, h3])) ?_ fun e he => ?_
  ·rw [hsame n (by omega) (by rw [hΦ.1]; rfl)]; exact hΦ.1
  ·have hfi : fit (.mk c s'.ms s'.sb) (.mk pb ps) := by rw [← fit_bare, hb2, fit_bare]; exact hK.fit
   have hlt := hK.mids_lt e.1 (by rw [← meC_keys _ _ hfi]; exact List.mem_map.2 ⟨e, he, rfl⟩)
   have h2 := hΦ.2 e he
   rw [hsame _ (by omega) (by rw [h2]; rfl)]; exact h2
 have hwi4 : WI (mids (.mk pb ps)) n hp (addNew n wl3 (tWr q (n + 2))) (hp3.sets (tWr q (n + 2))) := hwi3.sets fun p hp' => by
  rcases List.mem_cons.1 (hki p.1 (List.mem_map.2 ⟨p, hp', rfl⟩)) with h | h
  ·exact .inr (by omega)
  ·exact .inl h
 have hx4 : (hp3.sets (tWr q (n + 2))).get (n + 1) = some ⟨cc + 1, false, [.ptr pb.x pb.gx 0, .mp n cc]⟩ := by
  rw [hfr (n + 1) (by omega) fun h => ?_]
  ·exact hx3
  ·rcases List.mem_cons.1 h with h | h
   ·omega
   ·have := hK.mids_lt _ h; omega
 have hob4 := hE4.ob.2
 simp only [oO] at hob4
 refine wkcektv (jn @dI.eq_1 (jn @dL.eq_1 (jn @hx3 (jn @hob3 (jn @hob4 (jn @hv (jn @hn (jn @fillV.eq_1 (jn @fillV.eq_2 @nx))))))))) ?_
 apply WP.loop' (I := fun D st => ∃ (j g c5 : Nat) (wl5 : List Nat) (hp5 : Hp) (L : List Int), j + D = c.out.length ∧ L = (c.out.take j).map (fun d => gz s'.vs d.nm) ∧ EA o.en c pb ps n cc s' hp5 (n + 2) ∧ WI (mids (.mk pb ps)) n hp wl5 hp5 ∧ hp5.get (n + 1) = some ⟨cc + 1, false, [.ptr pb.x pb.gx 0, .mp n cc]⟩ ∧ hp5.get (n + 2) = some ⟨g, false, fl (encI L)⟩ ∧
  st = ⟨[(5, .ptr (n + 1) (cc + 1) 0), (8, .osl (n + 2) g 0 j 1 none), (45, dL (encD c.out)), (46, dI c.out.length), (47, dI j)], hp5, n + 3, c5, n, wl5⟩) (d := c.out.length)
 ·exact ⟨0, _, _, _, _, [], by simp, by simp, hE4.mono (by simp [Ag_set, Ag_refl]) (Nat.le_refl _), ⟨hwi4.1, fun k h1 h2 => by rw [Hp.get_set_ne _ _ _ _ (by omega)]; exact hwi4.2 k h1 h2⟩, by simp [hx4], by simp [fl, encI]; rfl, st_eq (by simp [dI, dL]) rfl⟩
 clear hE4 hwi4 hx4 hob4 hE3 hwi3 hx3 hob3 hT1 hT2 hki hfr hpz hΦ hsame hv hn hE hwi hx1
 rintro D _ ⟨j, g, c5, wl5, hp5, L, hj, hL, hE, hwi, hx1, hx2, rfl⟩
 refine wkektv (jn @dI.eq_1 @dL.eq_1) ?_
 show WP _ _ _ _ _ _
 refine WP.cond _ rfl (fun hb => ?_) (fun hb => ?_)
 ·simp at hb
  have hb' : j < c.out.length := by omega
  obtain ⟨d, hd, hdm, hix⟩ := at_lt hb'
  have hd' := encD_at hd
  have hwj := w_succ hb' (by omega)
  have hsn := take_snoc hd
  have hLl : L.length = j := by rw [hL]; simp; omega
  have hLs : (c.out.take (j + 1)).map (fun d => gz s'.vs d.nm) = L ++ [gz s'.vs d.nm] := by rw [hsn, hL]; simp
  have r2 := fl_len (encI_row L)
  have r3 := fl_take (encI_row L)
  have r4 := fl_snoc (encI L) [.int .i64 (gz s'.vs d.nm)]
  have r5 := encI_snoc L (gz s'.vs d.nm)
  have f5 : fitsB (j + 1) 8 = true := by simp [fitsB]; omega
  rw [r5] at r4
  rw [encI_len, hLl, Nat.mul_one] at r2 r3
  simp only [List.map_cons, List.map_nil] at r4
  have hva := hE.va
  have hlv := fun (look : Look) (sz by_ : Nat) (zr : Option (List V)) (h : look n = some ⟨cc, false, [mpC eI s'.vs]⟩) => look_gz s'.vs (sz := sz) (by_ := by_) (zr := zr) (x := d.nm) h
  refine wkcektv (jn @dI.eq_1 (jn @dL.eq_1 (jn @hix (jn @hd' (jn @Dc.cells.eq_1 (jn @fillV.eq_1 (jn @fillV.eq_2 (jn @hx1 (jn @hx2 (jn @hva (jn @hlv (jn @zt3 (jn @closeParts.eq_1 (jn @closeParts.eq_2 (jn @cl2.eq_def (jn @toD_dep (jn @toD_d (jn @nble_d (jn @f5 (jn @r2 (jn @r3 @r4))))))))))))))))))))) ?_
  refine loop_next (by simp [-addNew, hwj]; exact Is.rfl) ?_
  refine ⟨D - 1, by omega, j + 1, _, _, _, _, _, by omega, hLs.symm, hE.mono (by simp [Ag_set, Ag_refl, Ag_trunc]) (Nat.le_refl _), (by repeat' (first | exact hwi | (refine WI.trunc ?_ (by omega)) | (refine WI.set ?_ (.inr (by omega))))), by simp [hx1], by simp; rfl, st_eq (by simp [dI, dL, hwj]) rfl⟩
 ·simp at hb
  have hje : j = c.out.length := by omega
  rw [hje, List.take_length] at hL
  have hLl : L.length = j := by rw [hL, hje]; simp
  refine wkcektv (jn @dI.eq_1 @dL.eq_1) ?_
  have hcl := close_fl (look := hp5.get) (id := n + 2) (g := g) (ro := false) (cap := none) (encI_row L) hx2
  rw [encI_len, hLl] at hcl
  refine ⟨.inr rfl, _, [n + 2], rfl, ?_, by simp [Nat.ble_eq], hwi, fun e he => ?_⟩
  ·show closeT hp5.get (.osl (n + 2) g 0 j 1 none) = _
   rw [hcl, hL]
  ·obtain ⟨h1, h2⟩ := hE.li.me e he
   have hfi : fit (.mk c s'.ms s'.sb) (.mk pb ps) := by rw [← fit_bare, hb2, fit_bare]; exact hK.fit
   have hlt := hK.mids_lt e.1 (by rw [← meC_keys _ _ hfi]; exact List.mem_map.2 ⟨e, he, rfl⟩)
   show (Hp.trunc n hp5).get e.1 = _
   rw [Hp.get_trunc _ _ _ hlt]; exact h2
end Go.Ac
end

section
set_option maxRecDepth 4000
namespace Go.Ac
open Go.Proofs
attribute [local simp] Hp.get_set Ag_set Ag_refl Ag_trunc get_trunc_lt
def okI (en : List En) (l : List Dc) (vs : List Int) : Bool := (l.zip vs).all fun p => hasE en p.1.t p.2
/-- A step, or its error. -/
def stepR (en : List En) (t : Trn) (ins : List Int) : Trn × List Int × Int :=
 if ins.length ≠ t.c.inn.length then (t, [], 9) else if okI en t.c.inn ins = false then (t, [], 14) else ((stepT t.ht t ins).1, (stepT t.ht t ins).2, 0)
theorem okI_of {en : List En} {l : List Dc} {vs : List Int} (hl : vs.length = l.length) (h : okI en l vs = true) : insOK en l vs := by
 refine ⟨hl, fun i d v h1 h2 => ?_⟩
 have hz : (l.zip vs)[i]? = some (d, v) := by rw [List.getElem?_zip_eq_some]; exact ⟨h1, h2⟩
 exact List.all_eq_true.1 h _ (List.mem_of_getElem? hz)
theorem kf14 (r : Nat) : Ob.keep 14 r = Ob.k14 r := by kernel_rfl
attribute [local simp] kf14 Ob.k14
set_option maxHeartbeats 8000000 in
theorem step14 {o : Oc} (hO : OW o) (t : Trn) (p : Pt) (ins : List Int) (hok : t.ok o) (hil : ins.length ≤ 4611686018427387904) (hp : Hp) (n cc : Nat) (hK : Lies o.en t p hp n) :
  ThrG Tryz.prog Ob.cfg 14 [.ptr p.a.x p.a.gx 0, dL (encI ins)] hp n cc (.tuple [dL (encI (stepR o.en t ins).2.1), dI (stepR o.en t ins).2.2]) (mids p) (fun hp' => ∀ e, e ∈ meC (stepR o.en t ins).1 p → hp'.get e.1 = some e.2) := by
 have hc : t.c ∈ o.cl := ((Trn.ok_eq o t).1 hok).1
 have hcl := (hO.len _ hc).sum
 have hcok := hO.ok _ hc
 have hxo := hK.st (p.a.x, oO p.a.gx o.en t.c p.a.im p.a.gm p.a.ii p.a.gi) (by cases t; cases p; rw [stC]; simp [Trn.c, Pt.a])
 obtain ⟨lx, hob⟩ := hxo
 simp only [oO] at lx hob
 have nx := nf lx
 have hme : ∀ e, e ∈ meC t p → hp.get e.1 = some e.2 := fun e he => (hK.me e he).2
 have hmt : ∀ e, e ∈ meC t p → e.1 < n := fun e he => (hK.me e he).1
 unfold stepR
 refine thrG_wp Tryz.func14 rfl (by kernel_rfl) rfl ?_
 by_cases q1 : ins.length = t.c.inn.length
 case neg =>
  rw [if_pos q1]
  have q1' := eq_false (show ¬ (ins.length : Int) = t.c.inn.length by omega)
  refine wkcektv (jn @envOf.eq_1 (jn @envOf.eq_2 (jn @dI.eq_1 (jn @dL.eq_1 (jn @fillV.eq_1 (jn @fillV.eq_2 (jn @hob (jn @nx (jn @encI_len (jn @encD_len (jn @int_bne @q1'))))))))))) ?_
  exact ⟨.inr rfl, _, [], rfl, rfl, rfl, WI.refl, fun e he => by rw [Hp.get_trunc _ _ _ (hmt e he)]; exact hme e he⟩
 rw [if_neg (fun h => h q1)]
 have q1' := eq_true (show (ins.length : Int) = t.c.inn.length by omega)
 refine wkcektv (jn @envOf.eq_1 (jn @envOf.eq_2 (jn @dI.eq_1 (jn @dL.eq_1 (jn @fillV.eq_1 (jn @fillV.eq_2 (jn @hob (jn @nx (jn @encI_len (jn @encD_len (jn @int_bne @q1'))))))))))) ?_
 apply WP.loop' (I := fun D st => ∃ (i c' : Nat) (wl : List Nat) (hp' : Hp), i + D = t.c.inn.length ∧ ((t.c.inn.zip ins).take i).all (fun e => hasE o.en e.1.t e.2) = true ∧ WI (mids p) n hp wl hp' ∧ Ag n hp hp' ∧
  st = ⟨[(0, .ptr p.a.x p.a.gx 0), (1, dL (encI ins)), (25, dL (encD t.c.inn)), (26, dI t.c.inn.length), (27, dI i)], hp', n, c', n, wl⟩) (d := t.c.inn.length)
 ·exact ⟨0, _, _, _, by simp, by simp, WI.refl, Ag.refl n hp, st_eq (by simp [dI, dL]) rfl⟩
 rintro D _ ⟨i, c', wl, hp', hi, hno, hwi, hag, rfl⟩
 have hob' := (hag _ lx).trans hob
 have hagt := eq_true hag
 refine wkektv (jn @dI.eq_1 @dL.eq_1) ?_
 show WP _ _ _ _ _ _
 refine WP.cond _ rfl (fun hb => ?_) (fun hb => ?_)
 ·simp at hb
  have hb' : i < t.c.inn.length := by omega
  obtain ⟨d, hd, hdm, hix⟩ := at_lt hb'
  have hd' := encD_at hd
  obtain ⟨w, hw, hwm, hiy⟩ := at_lt (show i < ins.length by omega)
  have hw' := encI_at hw
  have hwj := w_succ hb' (by omega)
  have hzd : (t.c.inn.zip ins)[i]? = some (d, w) := by rw [List.getElem?_zip_eq_some]; exact ⟨hd, hw⟩
  have hh := has15 o.en d.t w ((hcok.inn d hdm).1)
  simp only [dL, dI, dB] at hh
  have hs := all_snoc (p := fun e : Dc × Int => hasE o.en e.1.t e.2) hzd
  cases hz : hasE o.en d.t w with
  | true =>
   rw [hz] at hh
   refine wkcektv (jn @dI.eq_1 (jn @dL.eq_1 (jn @hix (jn @hd' (jn @Dc.cells.eq_1 (jn @fillV.eq_1 (jn @fillV.eq_2 (jn @hiy (jn @hw' (jn @encI_len (jn @hob' (jn @nx @hh)))))))))))) ?_
   refine loop_next (by simp [-addNew, hwj]; exact Is.rfl) ?_
   exact ⟨D - 1, by omega, i + 1, _, _, _, by omega, by rw [hs, hno, hz]; rfl, (by repeat' (first | exact hwi | (refine WI.trunc ?_ (by omega)) | (refine WI.set ?_ (.inr (by omega))))), by simp [hag], st_eq (by simp [dI, dL, hwj]) rfl⟩
  | false =>
   rw [hz] at hh
   have hk : okI o.en t.c.inn ins = false := by
    unfold okI
    cases ha : (t.c.inn.zip ins).all (fun p => hasE o.en p.1.t p.2) with
    | false => rfl
    | true =>
     have := List.all_eq_true.1 ha _ (List.mem_of_getElem? hzd)
     simp only at this
     rw [hz] at this; cases this
   rw [if_pos hk]
   refine wkcektv (jn @dI.eq_1 (jn @dL.eq_1 (jn @hix (jn @hd' (jn @Dc.cells.eq_1 (jn @fillV.eq_1 (jn @fillV.eq_2 (jn @hiy (jn @hw' (jn @encI_len (jn @hob' (jn @nx @hh)))))))))))) ?_
   refine ⟨.inr rfl, _, [], rfl, rfl, rfl, (by repeat' (first | exact hwi | (refine WI.trunc ?_ (by omega)) | (refine WI.set ?_ (.inr (by omega))))), fun e he => ?_⟩
   have hlt := hmt e he
   have h2 := (hag _ hlt).trans (hme e he)
   have e1 : (n = e.1) = False := eq_false (by omega)
   have e3 : (e.1 < n) = True := eq_true hlt
   simp [e1, e3, h2]
 simp at hb
 have hie : i = t.c.inn.length := by omega
 have hk : okI o.en t.c.inn ins = true := by
  have hzt : (t.c.inn.zip ins).take i = t.c.inn.zip ins := List.take_of_length_le (by simp; omega)
  rw [hzt] at hno; exact hno
 rw [if_neg (by simp [hk])]
 refine wkcektv (jn @dI.eq_1 @dL.eq_1) ?_
 apply WP.gen3
 intro hp3 c3 wl3 hhp hwl
 have hag3 : Ag n hp hp3 := by rw [hhp]; exact hag
 have hwi3 : WI (mids p) n hp wl3 hp3 := by rw [hhp, hwl]; exact hwi
 clear hhp hwl
 obtain ⟨q, hT1, hv, hn, hT2, hki, hfr, hpz, hΦ, hsame⟩ := (step37 hO t.ht t p ins (Nat.le_refl _) hok (okI_of q1 hk) hp3 n c3 (hK.mono hag3 (Nat.le_refl n))).caller (fun k h => hK.mids_lt k h)
 simp only [dL] at hT1 hv
 refine wkcektv (jn @dI.eq_1 (jn @dL.eq_1 (jn @hv @hn))) ?_
 refine ⟨.inr rfl, _, [], rfl, rfl, rfl, hwi3.sets fun x hx => .inl (hki x.1 (List.mem_map.2 ⟨x, hx, rfl⟩)), fun e he => ?_⟩
 have hfi : fit (stepT t.ht t ins).1 p := by rw [← fit_bare, stepT_bare, fit_bare]; exact hK.fit
 have hlt := hK.mids_lt e.1 (by rw [← meC_keys _ _ hfi]; exact List.mem_map.2 ⟨e, he, rfl⟩)
 have h2 := hΦ e he
 rw [Hp.get_trunc _ _ _ hlt, hsame _ hlt (by rw [h2]; rfl)]; exact h2
end Go.Ac
end

section
set_option maxRecDepth 4000
namespace Go.Ac
open Go.Proofs
attribute [local simp] Hp.get_set Ag_set Ag_refl Ag_trunc get_trunc_lt
mutual
/-- The memories of an instance and of those that it contains. -/
def memT : Trn → List Int
 | .mk c ms sb => c.mems.map (fun d => gz ms d.nm) ++ memL sb
def memL : List Trn → List Int
 | [] => []
 | t :: r => memT t ++ memL r
end
theorem memL_take : ∀ (l : List Trn) (i : Nat) (t : Trn), l[i]? = some t → memL (l.take (i + 1)) = memL (l.take i) ++ memT t
 | [], i, t, h => by simp at h
 | x :: r, 0, t, h => by simp at h; subst h; simp [memL]
 | x :: r, i + 1, t, h => by
  rw [List.take_succ_cons, List.take_succ_cons, memL, memL, memL_take r i t (by simpa using h), List.append_assoc]
theorem memL_le : ∀ (l : List Trn) (i : Nat), (memL (l.take i)).length ≤ (memL l).length
 | [], i => by simp
 | x :: r, 0 => by simp [memL]
 | x :: r, i + 1 => by rw [List.take_succ_cons, memL, memL, List.length_append, List.length_append]; have := memL_le r i; omega
theorem ix_nodup : ∀ (l : List Ii) (i : Nat) (d : Ii), (l.map Ii.nm).Nodup → l[i]? = some d → l.findIdx (fun e => decide (e.nm = d.nm)) = i
 | [], i, d, _, h => by simp at h
 | x :: r, 0, d, _, h => by simp at h; subst h; rw [List.findIdx_cons]; simp
 | x :: r, i + 1, d, hn, h => by
  rw [List.map_cons, List.nodup_cons] at hn
  have h' : r[i]? = some d := by simpa using h
  have hne : x.nm ≠ d.nm := fun e => hn.1 (List.mem_map.2 ⟨d, List.mem_of_getElem? h', e.symm⟩)
  rw [List.findIdx_cons, decide_eq_false hne, cond_false, ix_nodup r i d hn.2 h']
theorem rowsOf_I (look : Look) (l : List Int) : rowsOf look 1 (.d (.slice (encI l))) = some (l.length, fl (encI l), []) := by
 have h : (encI l).all (fun r => Nat.beq r.length 1) = true := by
  rw [List.all_eq_true]; intro r hr; rw [encI_row l r hr]; rfl
 unfold rowsOf
 simp only [h, encI_len]
 rfl
theorem fl_encI_app (a b : List Int) : fl (encI a) ++ fl (encI b) = fl (encI (a ++ b)) := by unfold fl encI; simp
theorem kf21 (r : Nat) : Ob.keep 21 r = Ob.k21 r := by kernel_rfl
attribute [local simp] kf21 Ob.k21
set_option maxHeartbeats 8000000 in
theorem memory21 {o : Oc} (hO : OW o) : ∀ (N : Nat) (t : Trn) (p : Pt), t.ht < N → t.ok o → (memT t).length ≤ 17592186044416 → ∀ hp n cc, Lies o.en t p hp n → QuietV Tryz.prog Ob.cfg 21 [.ptr p.a.x p.a.gx 0] hp n cc (dL (encI (memT t))) := by
 intro N
 induction N with
 | zero => intro t p h; omega
 | succ N ih =>
 intro t p hht hok hml hp n cc hK
 obtain ⟨c, ms, sb⟩ := t
 obtain ⟨pb, ps⟩ := p
 rw [Trn.ok] at hok
 rw [Trn.ht] at hht
 rw [memT] at hml ⊢
 rw [List.length_append, List.length_map] at hml
 have hc := hok.1
 have hcl := (hO.len c hc).sum
 have hxo := hK.st (pb.x, oO pb.gx o.en c pb.im pb.gm pb.ii pb.gi) (by rw [stC]; simp)
 obtain ⟨lx, hob⟩ := hxo
 simp only [oO] at lx hob
 obtain ⟨li, hio⟩ := hK.st (pb.ii, ⟨pb.gi, false, [mpC eP (insL c ps)]⟩) (by rw [stC]; simp)
 obtain ⟨lm, hmo⟩ := hK.me (pb.im, ⟨pb.gm, false, [mpC eI ms]⟩) (by rw [meC]; simp)
 simp only at li hio lm hmo
 have nx := nf lx
 have ni := nf li
 have nm := nf lm
 show QuietV Tryz.prog Ob.cfg 21 [.ptr pb.x pb.gx 0] hp n cc _
 refine quietC_wp Tryz.func21 rfl (by kernel_rfl) rfl ?_
 refine wkcv (jn @envOf.eq_1 (jn @envOf.eq_2 (jn @dI.eq_1 (jn @dL.eq_1 (jn @fillV.eq_1 (jn @fillV.eq_2 (jn @hob @nx))))))) ?_
 apply WP.loop' (I := fun D st => ∃ (j g c' : Nat) (hp' : Hp) (L : List Int), j + D = c.mems.length ∧ L = (c.mems.take j).map (fun d => gz ms d.nm) ∧ Ag n hp hp' ∧ hp'.get n = some ⟨g, false, fl (encI L)⟩ ∧
  st = ⟨[(0, .ptr pb.x pb.gx 0), (3, .osl n g 0 j 1 none), (14, dL (encM c.mems)), (15, dI c.mems.length), (16, dI j)], hp', n + 1, c', n, []⟩) (d := c.mems.length)
 ·exact ⟨0, _, _, _, [], by simp, by simp, by simp, by simp [fl, encI]; rfl, st_eq (by simp [dI, dL]) rfl⟩
 rintro D _ ⟨j, g, c', hp', L, hj, hL, hag, hx, rfl⟩
 have hagt := eq_true hag
 have hob' := (hag _ lx).trans hob
 refine wkv (jn @dI.eq_1 @dL.eq_1) ?_
 show WP _ _ _ _ _ _
 refine WP.cond _ rfl (fun hb => ?_) (fun hb => ?_)
 ·simp at hb
  have hb' : j < c.mems.length := by omega
  obtain ⟨d, hd, hdm, hix⟩ := at_lt hb'
  have hd' := encM_at hd
  have hwj := w_succ hb' (by omega)
  have hsn := take_snoc hd
  have hLl : L.length = j := by rw [hL]; simp; omega
  have hLs : (c.mems.take (j + 1)).map (fun d => gz ms d.nm) = L ++ [gz ms d.nm] := by rw [hsn, hL]; simp
  have r2 := fl_len (encI_row L)
  have r3 := fl_take (encI_row L)
  have r4 := fl_snoc (encI L) [.int .i64 (gz ms d.nm)]
  have r5 := encI_snoc L (gz ms d.nm)
  have f5 : fitsB (j + 1) 8 = true := by simp [fitsB]; omega
  rw [r5] at r4
  rw [encI_len, hLl, Nat.mul_one] at r2 r3
  simp only [List.map_cons, List.map_nil] at r4
  have hmo' := (hag _ lm).trans hmo
  have hlv := fun (look : Look) (sz by_ : Nat) (zr : Option (List V)) (h : look pb.im = some ⟨pb.gm, false, [mpC eI ms]⟩) => look_gz ms (sz := sz) (by_ := by_) (zr := zr) (x := d.nm) h
  refine wkcv (jn @dI.eq_1 (jn @dL.eq_1 (jn @hix (jn @hd' (jn @Mm.cells.eq_1 (jn @fillV.eq_1 (jn @fillV.eq_2 (jn @hob' (jn @nx (jn @nm (jn @hmo' (jn @hlv (jn @zt3 (jn @hx (jn @closeParts.eq_1 (jn @closeParts.eq_2 (jn @cl2.eq_def (jn @toD_dep (jn @toD_d (jn @nble_d (jn @f5 (jn @r2 (jn @r3 @r4))))))))))))))))))))))) ?_
  refine loop_next (by simp [hwj]; exact Is.rfl) ?_
  exact ⟨D - 1, by omega, j + 1, _, _, _, _, by omega, hLs.symm, by simp [hag], by simp; rfl, st_eq (by simp [dI, dL, hwj]) rfl⟩
 simp at hb
 have hje : j = c.mems.length := by omega
 rw [hje, List.take_length] at hL
 refine wkcv (jn @dI.eq_1 (jn @dL.eq_1 (jn @hob' @nx))) ?_
 have hLl : L.length = j := by rw [hL, hje]; simp
 have hfit := hK.fit
 rw [fit] at hfit
 have hsl := hfit.1
 have hpl := fitL_len sb ps hfit.2
 have hnd : (c.ins.map Ii.nm).Nodup := by
  have := (hO.wf c hc).nd
  unfold Cl.names at this
  exact (List.nodup_append.1 this).2.1
 obtain ⟨z, hz⟩ := zt37
 apply WP.loop' (I := fun D2 st => ∃ (i g2 m c5 : Nat) (hp5 : Hp) (L5 : List Int), i + D2 = c.ins.length ∧ L5 = L ++ memL (sb.take i) ∧ m = L5.length ∧ Ag n hp hp5 ∧ hp5.get n = some ⟨g2, false, fl (encI L5)⟩ ∧
  st = ⟨[(0, .ptr pb.x pb.gx 0), (3, .osl n g2 0 m 1 none), (35, dL (encJ c.ins)), (36, dI c.ins.length), (37, dI i)], hp5, n + 1, c5, n, []⟩) (d := c.ins.length)
 ·exact ⟨0, g, j, _, _, L, by simp, by simp [memL], hLl.symm, hag, hx, st_eq (by simp [dI, dL]) rfl⟩
 rintro D2 _ ⟨i, g2, m, c5, hp5, L5, hi5, hL5, hm5, hag5, hx5, rfl⟩
 have hagt5 := eq_true hag5
 have hob5 := (hag5 _ lx).trans hob
 have hio5 := (hag5 _ li).trans hio
 refine wkv (jn @dI.eq_1 @dL.eq_1) ?_
 show WP _ _ _ _ _ _
 refine WP.cond _ rfl (fun hb => ?_) (fun hb => ?_)
 ·simp at hb
  have hb5 : i < c.ins.length := by omega
  obtain ⟨d, hd, hdm, hix⟩ := at_lt hb5
  have hd' := encJ_at hd
  have hwj := w_succ hb5 (by omega)
  have hts : sb[i]? = some (sb[i]'(by omega)) := List.getElem?_eq_getElem (by omega)
  generalize (sb[i]'(by omega)) = t at hts
  obtain ⟨q, hq, hLq⟩ := hK.sub (i := i) (u := t) hts
  have hq : ps[i]? = some q := hq
  obtain ⟨_, _, _, hto⟩ := okS_at o sb c.ins i t hok.2.2 hts
  have hixd := ix_nodup c.ins i d hnd hd
  have hget := insL_get c.ins ps d.nm q (by rw [hixd]; exact hb5) (by rw [hixd]; exact hq)
  have hlk : ∀ (look : Look) (sz by_ : Nat) (zr : Option (List V)), look pb.ii = some ⟨pb.gi, false, [mpC eP (insL c ps)]⟩ → lookupV look ⟨.str, sz, by_, zr⟩ (some z) (.mp pb.ii pb.gi) (.d (.str d.nm)) false = some ⟨.ptr q.a.x q.a.gx 0, [], [pb.ii], 0, 0, false⟩ := by
   intro look sz by_ zr h
   rw [lookup_mp eP (insL c ps) h]
   unfold insL
   rw [hget]; rfl
  have hht2 : t.ht < N := by have := htL_mem (List.mem_of_getElem? hts); omega
  have hmt := memL_take sb i t hts
  have hle := memL_le sb (i + 1)
  rw [hmt, List.length_append] at hle
  obtain ⟨F, G, hF⟩ := lim_fn (C := fun hp2 n2 => Ag n hp hp2 ∧ n ≤ n2) (P := Tryz.prog) (cfg := Ob.cfg) (f := 21) (vs := [.ptr q.a.x q.a.gx 0]) (v := dL (encI (memT t))) (fun hp2 n2 c2 hC => ih t q hht2 hto (by omega) hp2 n2 c2 (hLq.mono hC.1 hC.2))
  have hr := fun hp2 n2 c2 a b => hF hp2 n2 c2 ⟨a, b⟩
  simp only [dL] at hr
  have r2 := fl_len (encI_row L5)
  have r3 := fl_take (encI_row L5)
  rw [encI_len, ← hm5, Nat.mul_one] at r2 r3
  have f5 : fitsB (m + (memT t).length) 8 = true := by simp [fitsB]; rw [hm5, hL5, List.length_append]; omega
  refine wkcv (jn @dI.eq_1 (jn @dL.eq_1 (jn @hix (jn @hd' (jn @Ii.cells.eq_1 (jn @fillV.eq_1 (jn @fillV.eq_2 (jn @hob5 (jn @nx (jn @ni (jn @hio5 (jn @hlk (jn @hz (jn @hr (jn @hx5 (jn @hagt5 (jn @closeParts.eq_1 (jn @closeParts.eq_2 (jn @cl2.eq_def (jn @toD_dep (jn @toD_d (jn @nble_d (jn @f5 (jn @r2 (jn @r3 (jn @encI_len (jn @rowsOf_I @fl_encI_app))))))))))))))))))))))))))) ?_
  refine loop_next (by simp [hwj]; exact Is.rfl) ?_
  refine ⟨D2 - 1, by omega, i + 1, _, m + (memT t).length, _, _, L5 ++ memT t, by omega, by rw [hL5, hmt, List.append_assoc], by rw [List.length_append, ← hm5], by simp [hag5], by simp; rfl, st_eq (by simp [dI, dL, hwj]) rfl⟩
 simp at hb
 have hie : i = c.ins.length := by omega
 have hst : sb.take i = sb := List.take_of_length_le (by omega)
 rw [hst, hL] at hL5
 refine wkcv (jn @dI.eq_1 @dL.eq_1) ?_
 have hcl := close_fl (look := hp5.get) (id := n) (g := g2) (ro := false) (cap := none) (encI_row L5) hx5
 rw [encI_len, ← hm5] at hcl
 refine ⟨.inr rfl, rfl, _, [n], rfl, ?_, by simp [Nat.ble_eq]⟩
 show closeT hp5.get (.osl n g2 0 m 1 none) = _
 rw [hcl, hL5]
end Go.Ac
end
