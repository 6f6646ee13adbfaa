/- ObjTyped by data. -/
import Derived.Test.YtkgekafdhehleaaGreatAcA
import Derived.Test.YtkgekafdhehleaaGreatAcB
import Derived.Test.YtkgekafdhehleaaGreatAcDM
import Derived.Test.YtkgekafdhehleaaGreatAcGM
import Derived.Test.YtkgekafdhehleaaGreatAcJM
import Derived.Test.YtkgekafdhehleaaGreatAcLM
import Derived.Test.YtkgekafdhehleaaGreatAcNM
import Derived.Test.YtkgekafdhehleaaGreatAcQM
import Derived.Test.YtkgekafdhehleaaGreatAcTM
import Derived.Test.YtkgekafdhehleaaGreatAcXM
import Derived.Test.YtkgekafdhehleaaGreatAcThM
import Derived.Test.YtkgekafdhehleaaGreatAcQvM
import Derived.Test.YtkgekafdhehleaaGreatObCM
import Derived.Test.YtkgekafdhehleaaGreatObD
import Derived.Test.YtkgekafdhehleaaGreatObE
import Derived.Test.YtkgekafdhehleaaGreatObKM
import Derived.Test.YtkgekafdhehleaaGreatObPcM
import Derived.Test.YtkgekafdhehleaaGreatObPd
import Derived.Test.YtkgekafdhehleaaGreatObPe
import Derived.Test.YtkgekafdhehleaaGreatObXaM
import Derived.Test.YtkgekafdhehleaaGreatObPhM
import Derived.Test.YtkgekafdhehleaaGreatObWxM
import Derived.Test.YtkgekafdhehleaaGreatObPnM
import Derived.Test.YtkgekafdhehleaaGreatObIxM
import Derived.Test.YtkgekafdhehleaaGreatObQaM
import Derived.Test.YtkgekafdhehleaaGreatAcMlM
import Derived.Test.YtkgekafdhehleaaGreatObXvM
import Derived.Test.YtkgekafdhehleaaGreatObYcM
import Derived.Test.YtkgekafdhehleaaGreatObYeM
import Derived.Test.YtkgekafdhehleaaGreatObKaM
import Derived.Test.YtkgekafdhehleaaGreatObH
import Derived.Calls
import Derived.Orders
import Derived.Laws.World
import Derived.Laws.Sem
import Derived.Laws.Cells
import Derived.Laws.Append
import GoSem.ClaimData
import Derived.Laws.Tables
import Derived.Laws.Slices
import Derived.Laws.Strings
import Derived.Laws.Small
import Derived.Laws.IdiomRangeMap
import Derived.KernelRfl
import Derived.Test.YtkgekafdhehleaaGreatChecked
import Derived.Test.YtkgekafdhehleaaGreatRows
import Derived.Deep.Slices
import Derived.ChangeArms
import Derived.RowKit3
import Derived.ReadAgain
import Derived.ChangeStays
import Derived.WalkKit
import Derived.ProofKit
import Derived.OpenShut
import Derived.JoinedCond
import Derived.Below
set_option linter.unusedVariables false
set_option linter.unusedSimpArgs false
set_option maxRecDepth 4000
set_option linter.unusedSimpArgs false
set_option linter.unusedVariables false
namespace Go.Ac
open Go.Proofs
attribute [local simp] Hp.get_set addNew_zero get_trunc_lt
theorem ow_of {o : Oc} (hsz : o.sz ≤ 2097152) (hok : o.ok) (h : checkRef o = 0) : OW o := by
  unfold Oc.sz at hsz
  have hm : ∀ c, c ∈ o.cl → c.inn.length + c.out.length + c.loc.length + c.mems.length + c.ins.length + szY c.step ≤ 2097152 := fun c hc => by
    have hcs := mem_szC hc
    unfold Cl.sz at hcs
    have l1 := len_szD c.inn
    have l2 := len_szD c.out
    have l3 := len_szD c.loc
    have l4 := len_szM c.mems
    have l5 := len_szJ c.ins
    omega
  exact ⟨cwf_of h, fun c hc => ⟨by have := hm c hc; omega⟩, hok, fun c hc => by have := hm c hc; omega⟩
theorem encL_row {l : List (List Int)} {j : Nat} (h : j < l.length) : (encL l)[j]? = some [.slice (encI (l.getD j []))] := by
  unfold encL; simp [List.getD, h]
theorem encL_len (l : List (List Int)) : (encL l).length = l.length := by unfold encL; simp
/-- No two classes have one name. -/
theorem cls_uniq {o : Oc} (h : checkRef o = 0) {i : Nat} {c : Cl} (hi : o.cl[i]? = some c) : findC o.cl c.nm = (c, true) := by
  have h' := h
  unfold checkRef at h
  split at h
  · simp at h
  split at h
  · simp at h
  have hk := allW_at o o.cl 0 i c h hi
  rw [Nat.zero_add] at hk
  unfold classW at hk
  split at hk
  · rename_i hn; exact absurd hk hn
  rename_i hh
  clear hk
  have hh := Decidable.not_not.1 hh
  unfold headW at hh
  split at hh
  · simp at hh
  rename_i e0
  have hlt := (List.getElem?_eq_some_iff.1 hi).1
  have e0 := any_false e0
  have hc2 : (findC o.cl c.nm).2 = true := by
    unfold findC
    cases hf : o.cl.find? (fun d => decide (d.nm = c.nm)) with
    | some d => rfl
    | none =>
      rw [List.find?_eq_none] at hf
      have := hf c (List.mem_of_getElem? hi)
      simp at this
  obtain ⟨j, _, hja, hmin⟩ := findC_ix hc2
  have hji := hmin i c hi rfl
  have hnm := findC_nm hc2
  have : j = i := by
    rcases Nat.lt_or_ge j i with hl | hl
    · exfalso
      have hm : (findC o.cl c.nm).1 ∈ o.cl.take i := by
        rw [List.mem_take_iff_getElem]
        obtain ⟨g1, g2⟩ := List.getElem?_eq_some_iff.1 hja
        exact ⟨j, by omega, g2⟩
      have := e0 _ hm
      simp [hnm] at this
    · omega
  subst this
  rw [hi] at hja
  exact Prod.ext (Option.some.inj hja).symm hc2
/-- What a step leaves. -/
theorem stepR_ok {o : Oc} (hO : OW o) {t : Trn} (ht : t.ok o) (ins : List Int) : (stepR o.en t ins).1.ok o ∧ (stepR o.en t ins).1.c = t.c ∧ (stepR o.en t ins).1.bare = t.bare ∧ ((stepR o.en t ins).2.2 = 0 → insOK o.en t.c.out (stepR o.en t ins).2.1) ∧ ((stepR o.en t ins).2.2 ≠ 0 → (stepR o.en t ins).2.1 = []) := by
  unfold stepR
  split
  · exact ⟨ht, rfl, rfl, fun h => by simp at h, fun _ => rfl⟩
  · rename_i h1
    split
    · exact ⟨ht, rfl, rfl, fun h => by simp at h, fun _ => rfl⟩
    · rename_i h2
      have := stepT_ok hO.wf t.ht t ins (Nat.le_refl _) ht (okI_of (by simpa using h1) (by simpa using h2))
      exact ⟨this.1, this.2.1, stepT_bare _ _ _, fun _ => this.2.2.2, fun h => absurd rfl h⟩
/-- After a step. -/
theorem Lies.step {en : List En} {t u : Trn} {p : Pt} {hp hp' hpz : Hp} {n : Nat} (h : Lies en t p hp n) (hb : u.bare = t.bare) (hf : ∀ k, k < n → k ∉ mids p → hp'.get k = hp.get k) (hm : ∀ e, e ∈ meC u p → hpz.get e.1 = some e.2) (hs : ∀ k, k < n → (hpz.get k).isSome = true → hp'.get k = hpz.get k) : Lies en u p hp' n := by
  refine h.upd hb hf fun e he => ?_
  have hfi : Go.Ac.fit u p := by rw [← fit_bare, hb, fit_bare]; exact h.fit
  have hlt := h.mids_lt e.1 (by rw [← meC_keys _ _ hfi]; exact List.mem_map.2 ⟨e, he, rfl⟩)
  have h2 := hm e he
  rw [hs _ hlt (by rw [h2]; rfl)]; exact h2
theorem kf4 (r : Nat) : Ob.keep 4 r = Ob.k4 r := by kernel_rfl
attribute [local simp] kf4 Ob.k4
set_option maxHeartbeats 8000000 in
theorem typed_den (o : Oc) (rows : List (List Int)) (hsz : o.sz ≤ 2097152) (hok : o.ok) (hr1 : rows.length ≤ 1048576) (hr2 : ∀ r ∈ rows, r.length ≤ 1048576) : den Tryz.prog Ob.cfg 4 [aG o.cells, dLL rows] = some (dB true) := by
  have haw := awake_den
  obtain ⟨bh, hh⟩ := heavy_den o (by unfold MX; omega)
  have hsz' := hsz
  unfold Oc.sz at hsz'
  have k2 := len_szC o.cl
  simp only [aG, Oc.cells, List.map_cons, List.map_nil, dB, dI] at haw hh
  refine den_wp Tryz.func4 rfl (by kernel_rfl) rfl rfl ?_
  cases bh with
  | true =>
    refine wkcitv (And.intro @aG.eq_1 (And.intro @Oc.cells.eq_1 (And.intro @dLL.eq_1 (And.intro @hh (And.intro @haw (And.intro @encL_len @encC_len)))))) ?_
    show retQ _ _ _ _ _
    exact ⟨.inr rfl, _, _, rfl, rfl⟩
  | false =>
  by_cases c1 : 40 < rows.length
  · have c1' := eq_true (show (40 : Int) < rows.length by omega)
    refine wkcitv (And.intro @aG.eq_1 (And.intro @Oc.cells.eq_1 (And.intro @dLL.eq_1 (And.intro @hh (And.intro @haw (And.intro @encL_len (And.intro @encC_len @c1'))))))) ?_
    show retQ _ _ _ _ _
    exact ⟨.inr rfl, _, _, rfl, rfl⟩
  have c1' := eq_false (show ¬ (40 : Int) < rows.length by omega)
  by_cases c2 : o.cl.length = 0
  · have c2' := eq_true c2
    refine wkcitv (And.intro @aG.eq_1 (And.intro @Oc.cells.eq_1 (And.intro @dLL.eq_1 (And.intro @hh (And.intro @haw (And.intro @encL_len (And.intro @encC_len (And.intro @c1' (And.intro @c2' @int_beq))))))))) ?_
    show retQ _ _ _ _ _
    exact ⟨.inr rfl, _, _, rfl, rfl⟩
  have c2' := eq_false c2
  refine wkcitv (And.intro @aG.eq_1 (And.intro @Oc.cells.eq_1 (And.intro @dLL.eq_1 (And.intro @hh (And.intro @haw (And.intro @encL_len (And.intro @encC_len (And.intro @c1' (And.intro @c2' @int_beq))))))))) ?_
  have hll : o.cl.length - 1 < o.cl.length := by omega
  obtain ⟨c, hcl, hcm, hixc⟩ := at_lt hll
  have hcl' := encC_at hcl
  have hwl : IntKind.i64.wrap ((o.cl.length : Int) - 1) = ((o.cl.length - 1 : Nat) : Int) := by rw [w_id'] <;> omega
  by_cases hck : checkRef o = 0
  case neg =>
    have hb := new13_bad o c.nm hsz hok hck
    have hck' := eq_false hck
    simp only [aG, Oc.cells, List.map_cons, List.map_nil, dI, dS] at hb
    refine wkcitv (And.intro @aG.eq_1 (And.intro @Oc.cells.eq_1 (And.intro @dI.eq_1 (And.intro @dL.eq_1 (And.intro @dLL.eq_1 (And.intro @encL_len (And.intro @encC_len (And.intro @hwl (And.intro @hixc (And.intro @hcl' (And.intro @Cl.cells.eq_1 (And.intro @fillV.eq_1 (And.intro @fillV.eq_2 (And.intro @hb (And.intro @int_beq @hck'))))))))))))))) ?_
    apply WP.loop' (I := fun D s => ∃ (c' : Nat) (hp' : Hp), s = ⟨[(1, dLL rows), (2, .ptr 0 0 0), (5, .ptr 1 1 0), (6, .con (.pointer none)), (7, dI (checkRef o)), (8, dI 0)], hp', 2, c', 0, []⟩) (d := 0)
    · exact ⟨_, _, st_eq (by simp [dI, dLL]) rfl⟩
    rintro D _ ⟨c', hp', rfl⟩
    by_cases c3 : 0 < rows.length
    · have c3' := eq_true (show (0 : Int) < rows.length by omega)
      have c3'' := eq_true c3
      refine wkcitv (And.intro @dI.eq_1 (And.intro @dLL.eq_1 (And.intro @encL_len (And.intro @hck' (And.intro @int_beq (And.intro @c3' (And.intro @c3'' @haw))))))) ?_
      show retQ _ _ _ _ _
      exact ⟨.inr rfl, _, _, rfl, rfl⟩
    · have c3' := eq_false (show ¬ (0 : Int) < rows.length by omega)
      have c3'' := eq_false c3
      refine wkcitv (And.intro @dI.eq_1 (And.intro @dLL.eq_1 (And.intro @encL_len (And.intro @hck' (And.intro @int_beq (And.intro @c3' (And.intro @c3'' @haw))))))) ?_
      show retQ _ _ _ _ _
      exact ⟨.inr rfl, _, _, rfl, rfl⟩
  have hO := ow_of hsz hok hck
  have hfc := cls_uniq hck hcl
  obtain ⟨q, p, hI1, hqv, hLq⟩ := new13_ok o c.nm hsz hok hck (by rw [hfc])
  rw [hfc] at hLq
  simp only at hLq
  have hto := newT_ok hck o.cl.length (o.cl.length - 1) c hcl hll
  have htc := newT_c o o.cl.length c
  generalize newT o o.cl.length c = t0 at hLq hto htc
  have hI2 : closeT noLook q.v = none := by rw [hqv]; rfl
  obtain ⟨p2, hp2⟩ : ∃ p2, p2 = p.sh 2 2 := ⟨_, rfl⟩
  have hI3 : shiftV 2 2 q.v = .tuple [.ptr p2.a.x p2.a.gx 0, dI 0] := by rw [hqv, hp2, Pt.sh_a]; simp [shiftV, shiftVs, Pb.sh, dI]
  obtain ⟨W1, hI4⟩ : ∃ W, shiftH 2 2 (wrOf q.hp.get (List.range q.n)) = W := ⟨_, rfl⟩
  simp only [aG, Oc.cells, List.map_cons, List.map_nil, dS] at hI1
  have hco := hok c hcm
  have hge : ∀ k, k ∈ mids p2 → 2 ≤ k := fun k hk => by rw [hp2] at hk; exact sh_ge 2 2 p k (List.mem_append_right _ hk)
  refine wkcitv (And.intro @aG.eq_1 (And.intro @Oc.cells.eq_1 (And.intro @dI.eq_1 (And.intro @dL.eq_1 (And.intro @dLL.eq_1 (And.intro @encL_len (And.intro @encC_len (And.intro @hwl (And.intro @hixc (And.intro @hcl' (And.intro @Cl.cells.eq_1 (And.intro @fillV.eq_1 (And.intro @fillV.eq_2 @int_beq))))))))))))) ?_
  apply WP.gen
  intro hp1 wl1 hhp hwl1
  have hwl0 : wl1 = [] := hwl1
  subst hwl0
  have h0 : hp1.get 0 = some ⟨0, false, [V.d (.slice (encE o.en)), V.d (.slice (encC o.cl))]⟩ := by rw [hhp, ← hI4, import_old (by omega)]; rfl
  have h1 : hp1.get 1 = some ⟨1, false, [V.d (.str c.nm), V.d (.slice (encD c.inn)), V.d (.slice (encD c.out)), V.d (.slice (encD c.loc)), V.d (.slice (encM c.mems)), V.d (.slice (encJ c.ins)), V.d (.slice (encY c.step))]⟩ := by rw [hhp, ← hI4, import_old (by omega)]; rfl
  have hL : Lies o.en t0 p2 hp1 (2 + q.n) := by rw [hhp, ← hI4, hp2, Nat.add_comm]; exact hLq.import
  clear hhp hwl1 hI3 hI4 hI1 hI2 hLq hqv
  have hl2 : 2 ≤ 2 + q.n := by omega
  generalize 2 + q.n = n1 at hL hl2 ⊢
  generalize 2 + q.c = cc1
  have hxo := hL.st (p2.a.x, oO p2.a.gx o.en c p2.a.im p2.a.gm p2.a.ii p2.a.gi) (by rw [← htc]; cases t0; cases p2; rw [stC]; simp [Trn.c, Pt.a])
  obtain ⟨lx, hob⟩ := hxo
  simp only [oO] at lx hob
  refine wkcitv (And.intro @dI.eq_1 (And.intro @dL.eq_1 (And.intro @int_beq @hob))) ?_
  apply WP.loop' (I := fun D s => ∃ (j c' : Nat) (hp' : Hp) (t : Trn), j + D = rows.length ∧ t.ok o ∧ t.c = c ∧ t.bare = t0.bare ∧ Lies o.en t p2 hp' n1 ∧ hp'.get 0 = some ⟨0, false, [V.d (.slice (encE o.en)), V.d (.slice (encC o.cl))]⟩ ∧ hp'.get 1 = some ⟨1, false, [V.d (.str c.nm), V.d (.slice (encD c.inn)), V.d (.slice (encD c.out)), V.d (.slice (encD c.loc)), V.d (.slice (encM c.mems)), V.d (.slice (encJ c.ins)), V.d (.slice (encY c.step))]⟩ ∧
    s = ⟨[(1, dLL rows), (2, .ptr 0 0 0), (5, .ptr 1 1 0), (6, .ptr p2.a.x p2.a.gx 0), (7, dI 0), (8, dI j)], hp', n1, c', 0, []⟩) (d := rows.length)
  · exact ⟨0, _, _, t0, by simp, hto, htc, rfl, hL, h0, h1, st_eq (by simp [dI, dLL]) rfl⟩
  clear hL h0 h1 hob lx
  rintro D _ ⟨j, c', hp', t, hj, hto', htc', htb, hL, h0, h1, rfl⟩
  by_cases hb' : j < rows.length
  case neg =>
    have c3' := eq_false (show ¬ (j : Int) < rows.length by omega)
    have c3'' := eq_false hb'
    refine wkcitv (And.intro @dI.eq_1 (And.intro @dLL.eq_1 (And.intro @encL_len (And.intro @int_beq (And.intro @c3' (And.intro @c3'' @haw)))))) ?_
    show retQ _ _ _ _ _
    exact ⟨.inr rfl, _, _, rfl, rfl⟩
  have c3' := eq_true (show (j : Int) < rows.length by omega)
  have c3'' := eq_true hb'
  have hwj := w_succ hb' (by omega)
  have hix := idx_lt hb'
  have hrow := encL_row hb'
  obtain ⟨row, hrowe⟩ : ∃ r, r = rows.getD j [] := ⟨_, rfl⟩
  have hrl : row.length ≤ 1048576 := by rw [hrowe]; exact hr2 _ (by rw [List.getD_eq_getElem?_getD, List.getElem?_eq_getElem hb']; exact List.getElem_mem hb')
  rw [← hrowe] at hrow
  refine wkcitv (And.intro @dI.eq_1 (And.intro @dLL.eq_1 (And.intro @encL_len (And.intro @int_beq (And.intro @c3' @c3''))))) ?_
  obtain ⟨r0, hT1, hv, hn, hT2, hki, hfr, hpz, hΦ, hsame⟩ := (step14 hO t p2 row hto' (by omega) hp' n1 c' hL).caller (fun k h => hL.mids_lt k h)
  obtain ⟨g1, g2, g3, g4, g5⟩ := stepR_ok hO hto' row
  have hL4 := hL.step (n := n1) g3 (fun k hk h => hfr k hk h) hΦ hsame
  have y0 := (hfr 0 (by omega) (fun h => by have := hge 0 h; omega)).trans h0
  have y1 := (hfr 1 (by omega) (fun h => by have := hge 1 h; omega)).trans h1
  generalize stepR o.en t row = R at g1 g2 g3 g4 g5 hL4 hv
  obtain ⟨u, outs, e⟩ := R
  simp only at g1 g2 g3 g4 g5 hL4 hv
  simp only [dL, dI] at hT1 hv
  by_cases c4 : e = 0
  case neg =>
    have c4' := eq_false c4
    refine wkcitv (And.intro @dI.eq_1 (And.intro @dL.eq_1 (And.intro @dLL.eq_1 (And.intro @encL_len (And.intro @hix (And.intro @hrow (And.intro @int_beq (And.intro @int_bne (And.intro @hv (And.intro @hn @c4')))))))))) ?_
    refine loop_next (by simp [hwj]; exact Is.rfl) ?_
    exact ⟨D - 1, by omega, j + 1, _, _, u, by omega, g1, g2.trans htc', g3.trans htb, hL4.mono (by simp [Ag_trunc, Ag_refl]) (Nat.le_refl _), by rw [Hp.get_trunc _ _ _ (by omega)]; exact y0, by rw [Hp.get_trunc _ _ _ (by omega)]; exact y1, st_eq (by simp [dI, dLL, hwj]) rfl⟩
  have g6 := g4 c4
  rw [htc'] at g6
  have hol := g6.1
  have hcls := mem_szC hcm
  unfold Cl.sz at hcls
  have hll2 := len_szD c.out
  have c5 := eq_true (show (outs.length : Int) = c.out.length by omega)
  refine wkcitv (And.intro @dI.eq_1 (And.intro @dL.eq_1 (And.intro @dLL.eq_1 (And.intro @encL_len (And.intro @encI_len (And.intro @encD_len (And.intro @hix (And.intro @hrow (And.intro @int_beq (And.intro @int_bne (And.intro @hv (And.intro @hn (And.intro @c4 (And.intro @y0 (And.intro @y1 @c5))))))))))))))) ?_
  apply WP.loop' (I := fun D2 s => ∃ (k c5 : Nat) (hp5 : Hp), k + D2 = outs.length ∧ Ag n1 (hp'.sets (tWr r0 n1)) hp5 ∧
    s = ⟨[(1, dLL rows), (2, .ptr 0 0 0), (5, .ptr 1 1 0), (6, .ptr p2.a.x p2.a.gx 0), (7, dI 0), (8, dI j), (9, dL (encI outs)), (11, dI k)], hp5, n1, c5, 0, []⟩) (d := outs.length)
  · exact ⟨0, _, _, by simp, Ag.refl _ _, st_eq (by simp [dI, dL, dLL]) rfl⟩
  rintro D2 _ ⟨k, c5, hp5, hk, hag, rfl⟩
  have za := (hag 0 (by omega)).trans y0
  have zb := (hag 1 (by omega)).trans y1
  refine wkitv (And.intro @dI.eq_1 (And.intro @dL.eq_1 (And.intro @dLL.eq_1 @encI_len))) ?_
  show WP _ _ _ _ _ _
  refine WP.cond _ rfl (fun hb => ?_) (fun hb => ?_)
  · simp at hb
    have hb5 : k < outs.length := by omega
    obtain ⟨w, hw, hwm, hix5⟩ := at_lt hb5
    have hw' := encI_at hw
    obtain ⟨d, hd, hdm, hix6⟩ := at_lt (show k < c.out.length by omega)
    have hd' := encD_at hd
    have hwk := w_succ hb5 (by omega)
    have hh5 := has15 o.en d.t w ((hco.out d hdm).1)
    rw [g6.2 k d w hd hw] at hh5
    simp only [dL, dI, dB] at hh5
    refine wkcitv (And.intro @dI.eq_1 (And.intro @dL.eq_1 (And.intro @dLL.eq_1 (And.intro @encI_len (And.intro @encD_len (And.intro @hix5 (And.intro @hw' (And.intro @hix6 (And.intro @hd' (And.intro @Dc.cells.eq_1 (And.intro @fillV.eq_1 (And.intro @fillV.eq_2 (And.intro @za (And.intro @zb @hh5)))))))))))))) ?_
    refine loop_next (by simp [hwk]; exact Is.rfl) ?_
    exact ⟨D2 - 1, by omega, k + 1, _, _, by omega, by simp [Ag_trunc, hag], st_eq (by simp [dI, dL, dLL, hwk]) rfl⟩
  refine wkcitv (And.intro @dI.eq_1 (And.intro @dL.eq_1 @dLL.eq_1)) ?_
  refine loop_next (by simp [hwj]; exact Is.rfl) ?_
  exact ⟨D - 1, by omega, j + 1, _, _, u, by omega, g1, g2.trans htc', g3.trans htb, hL4.mono (by simp [Ag_trunc, hag]) (Nat.le_refl _), by rw [Hp.get_trunc _ _ _ (by omega)]; exact za, by rw [Hp.get_trunc _ _ _ (by omega)]; exact zb, st_eq (by simp [dI, dLL, hwj]) rfl⟩
end Go.Ac
