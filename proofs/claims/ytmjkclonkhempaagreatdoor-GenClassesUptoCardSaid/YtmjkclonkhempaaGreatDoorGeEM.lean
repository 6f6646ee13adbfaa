/- The class of a node: the reference's. -/
import Derived.Test.YtmjkclonkhempaaGreatDoorGeC
set_option linter.unusedVariables false
set_option linter.unusedSimpArgs false
section
set_option maxRecDepth 8000
namespace Go.Ac
open Go.Proofs
attribute [local simp] Hp.get_set Ag_set Ag_refl Ag_trunc get_trunc_lt
theorem kf13 (r : Nat) : Ob.keep 13 r = Ob.k13 r := by kernel_rfl
attribute [local simp] kf13 Ob.k13
set_option maxHeartbeats 8000000 in
theorem build13 (n : Nn) (hs : n.sz ≤ 4194304) (hok : ∀ q ∈ n.eqs, okQ q) (hb : n.eqs.length + (dNm (vrN n)).length ≤ 402) : den Tryz.prog Ob.cfg 13 [aG n.cells, .fn 14 []] = some (aG (clN n).cells) := by
 refine den_wp Tryz.func13 rfl (by kernel_rfl) rfl rfl ?_
 refine wkctv (jn @envOf.eq_1 (jn @envOf.eq_2 (jn @aG.eq_1 (jn @Nn.cells.eq_1 (jn @fillV.eq_1 @fillV.eq_2))))) ?_
 apply WP.gen3
 intro hp1 c1 wl1 hhp hwl
 have hK : MK 4 4 2 2 3 3 n [] [] hp1 5 := ⟨by rw [hhp]; rfl, by rw [hhp]; rfl, by rw [hhp]; rfl, by omega, by omega, by omega⟩
 have hx1 : hp1.get 1 = some ⟨1, false, [.d (.str []), .full [], .full [], .full [], .full [], .full [], .full []]⟩ := by rw [hhp]; rfl
 obtain ⟨u, hT1, hqn, hT2, hki, hfr, hpz, ⟨huv, hun, _⟩, _⟩ := (class31 n hs hok hb hp1 c1 hK).caller (by simp)
 have hx2 := (hfr 1 (by omega) (by simp)).trans hx1
 obtain ⟨C, hC⟩ : ∃ C, clN n = C := ⟨_, rfl⟩
 rw [hC] at huv ⊢
 simp only [aG, Cl.cells, List.map_cons, List.map_nil] at huv
 clear hhp hwl hK
 have l1 := eq_true (show 1 < 5 + (u.n - 5) by omega)
 refine wkctv (jn @hx2 (jn @huv @l1)) ?_
 refine ⟨.inr rfl, [aG C.cells], [], ?_, rfl⟩
 show resultsV Tryz.prog _ [_] = _
 simp [resultsV, resultV, aG, Cl.cells]
/-- Whether an equation can be translated. -/
def wrQ (q : Nq) : Bool := (decide (q.k = 4) && !decide ((prsT q.node).2 = 0)) || q.ck.any (fun o => decide (o.tag < 0) || decide ((if o.t = 1 then 2 else 16) ≤ o.tag))
theorem okQ_of {q : Nq} (h : wrQ q = false) : okQ q := by
 unfold wrQ at h
 rw [Bool.or_eq_false_iff] at h
 refine ⟨fun h4 => ?_, fun o ho => ?_⟩
 ·have := h.1; simp [h4] at this; exact this
 ·have := List.any_eq_false.1 h.2 o ho
  simp only [Bool.or_eq_true, decide_eq_true_eq, not_or, Int.not_lt, Int.not_le] at this
  obtain ⟨h1, h2⟩ := this
  refine ⟨h1, fun ht => ?_, ?_⟩
  ·rw [if_pos ht] at h2; exact h2
  ·split at h2 <;> omega
theorem kf16 (r : Nat) : Ob.keep 16 r = Ob.k16 r := by kernel_rfl
theorem kf12 (r : Nat) : Ob.keep 12 r = Ob.k12 r := by kernel_rfl
attribute [local simp] kf16 Ob.k16 kf12 Ob.k12
set_option maxHeartbeats 8000000 in
theorem wrong16 (q : Nq) (hq : q.sz ≤ 4194304) : den Tryz.prog Ob.cfg 16 [aG q.cells] = some (dB (wrQ q)) := by
 refine den_wp Tryz.func16 rfl (by kernel_rfl) rfl rfl ?_
 have hs0 : q.sz = szS q.left + q.r.sz + szT q.node + szX q.args + szT q.ev + szO q.ck + 13 := rfl
 have hol := len_szO q.ck
 have hp := parse34 q.node (by unfold szT at hs0; omega)
 obtain ⟨w, hw⟩ : ∃ w, prsT q.node = w := ⟨_, rfl⟩
 unfold wrQ
 rw [hw] at hp ⊢
 obtain ⟨⟨hd, lo⟩, e⟩ := w
 simp only [aW, dL, dI, dS] at hp
 simp only
 have hOe : (encO q.ck).length = q.ck.length := encO_len _
 have h41 : (q.k = 4 ∧ e ≠ 0) ∨ ¬ (q.k = 4 ∧ e ≠ 0) := Classical.em _
 rcases h41 with ⟨k4, he⟩ | hn
 ·have k4' := eq_true k4
  have he' := eq_false he
  simp only [k4, he, decide_true, decide_false, Bool.not_false, Bool.and_self, Bool.true_or]
  refine wkctv (jn @envOf.eq_1 (jn @envOf.eq_2 (jn @aG.eq_1 (jn @Nq.cells.eq_1 (jn @dI.eq_1 (jn @dS.eq_1 (jn @dB.eq_1 (jn @fillV.eq_1 (jn @fillV.eq_2 (jn @hp (jn @int_beq (jn @int_bne (jn @k4' @he'))))))))))))) ?_
  show retQ _ _ _ _ _
  exact ⟨.inr rfl, _, _, rfl, rfl⟩
 ·have hf : (decide (q.k = 4) && !decide (e = 0)) = false := by
   by_cases h4 : q.k = 4
   ·have : e = 0 := by by_cases h : e = 0; exact h; exact absurd ⟨h4, h⟩ hn
    simp [this]
   ·simp [h4]
  rw [hf, Bool.false_or]
  have hx : (q.k = 4 ∧ e = 0) ∨ q.k ≠ 4 := by
   by_cases h4 : q.k = 4
   ·exact .inl ⟨h4, by by_cases h : e = 0; exact h; exact absurd ⟨h4, h⟩ hn⟩
   ·exact .inr h4
  rcases hx with ⟨h4, he⟩ | h4
  have k4' := eq_true h4
  have he' := eq_true he
  refine wkctv (jn @envOf.eq_1 (jn @envOf.eq_2 (jn @aG.eq_1 (jn @Nq.cells.eq_1 (jn @dI.eq_1 (jn @dS.eq_1 (jn @dB.eq_1 (jn @fillV.eq_1 (jn @fillV.eq_2 (jn @hp (jn @int_beq (jn @int_bne (jn @k4' @he'))))))))))))) ?_
  rotate_left
  have k4' := eq_false h4
  refine wkctv (jn @envOf.eq_1 (jn @envOf.eq_2 (jn @aG.eq_1 (jn @Nq.cells.eq_1 (jn @dI.eq_1 (jn @dS.eq_1 (jn @dB.eq_1 (jn @fillV.eq_1 (jn @fillV.eq_2 (jn @hp (jn @int_beq (jn @int_bne @k4')))))))))))) ?_
  rotate_left
  all_goals
   apply WP.loop' (I := fun D s => ∃ (j c' : Nat) (hp' : Hp), j + D = q.ck.length ∧ hp'.get 0 = some ⟨0, false, QC q⟩ ∧ (q.ck.take j).any (fun o => decide (o.tag < 0) || decide ((if o.t = 1 then 2 else 16) ≤ o.tag)) = false ∧
    s = ⟨[(1, .ptr 0 0 0), (5, dI j)], hp', 2, c', 0, []⟩) (d := q.ck.length)
   ·exact ⟨0, _, _, by simp, by rfl, by simp, st_eq (by simp [dI]) rfl⟩
   clear hp
   rintro D _ ⟨j, c', hp', hj, h0, hno, rfl⟩
   unfold QC at h0
   refine wktv (jn @dI.eq_1 (jn @dL.eq_1 (jn @h0 @hOe))) ?_
   show WP _ _ _ _ _ _
   refine WP.cond _ rfl (fun hb => ?_) (fun hb => ?_)
   ·simp at hb
    have hb' : j < q.ck.length := by omega
    obtain ⟨o, ho, hom, hix⟩ := at_lt hb'
    have ho' := encO_at ho
    have hwj := w_succ hb' (by omega)
    have hsn : (q.ck.take (j + 1)).any (fun o => decide (o.tag < 0) || decide ((if o.t = 1 then 2 else 16) ≤ o.tag)) = (decide (o.tag < 0) || decide ((if o.t = 1 then 2 else 16) ≤ o.tag)) := by
     rw [take_snoc ho, List.any_append, hno, Bool.false_or]; simp
    have hin : (decide (o.tag < 0) || decide ((if o.t = 1 then 2 else 16) ≤ o.tag)) = true → q.ck.any (fun o => decide (o.tag < 0) || decide ((if o.t = 1 then 2 else 16) ≤ o.tag)) = true := fun h => List.any_eq_true.2 ⟨o, hom, h⟩
    by_cases t1 : o.t = 1
    ·have t1' := eq_true t1
     rw [if_pos t1] at hsn hin
     by_cases g0 : o.tag = 0
     ·have q0 := eq_true g0
      refine wkctv (jn @dI.eq_1 (jn @dL.eq_1 (jn @dB.eq_1 (jn @On.cells.eq_1 (jn @hix (jn @ho' (jn @h0 (jn @fillV.eq_1 (jn @fillV.eq_2 (jn @int_beq (jn @int_bne (jn @t1' @q0)))))))))))) ?_
      refine loop_next (by simp [hwj]; exact Is.rfl) ?_
      exact ⟨D - 1, by omega, j + 1, _, _, by omega, by simp [h0, QC], by rw [hsn, g0]; rfl, st_eq (by simp [dI, hwj]) rfl⟩
     by_cases g1 : o.tag = 1
     ·have q0 := eq_false g0
      have q1 := eq_true g1
      refine wkctv (jn @dI.eq_1 (jn @dL.eq_1 (jn @dB.eq_1 (jn @On.cells.eq_1 (jn @hix (jn @ho' (jn @h0 (jn @fillV.eq_1 (jn @fillV.eq_2 (jn @int_beq (jn @int_bne (jn @t1' (jn @q0 @q1))))))))))))) ?_
      refine loop_next (by simp [hwj]; exact Is.rfl) ?_
      exact ⟨D - 1, by omega, j + 1, _, _, by omega, by simp [h0, QC], by rw [hsn, g1]; rfl, st_eq (by simp [dI, hwj]) rfl⟩
     ·have q0 := eq_false g0
      have q1 := eq_false g1
      rw [hin (by simp; omega)]
      refine wkctv (jn @dI.eq_1 (jn @dL.eq_1 (jn @dB.eq_1 (jn @On.cells.eq_1 (jn @hix (jn @ho' (jn @h0 (jn @fillV.eq_1 (jn @fillV.eq_2 (jn @int_beq (jn @int_bne (jn @t1' (jn @q0 @q1))))))))))))) ?_
      show retQ _ _ _ _ _
      exact ⟨.inr rfl, _, _, rfl, rfl⟩
    ·have t1' := eq_false t1
     rw [if_neg t1] at hsn hin
     by_cases g0 : o.tag < 0
     ·have q0 := eq_true g0
      rw [hin (by simp [g0])]
      refine wkctv (jn @dI.eq_1 (jn @dL.eq_1 (jn @dB.eq_1 (jn @On.cells.eq_1 (jn @hix (jn @ho' (jn @h0 (jn @fillV.eq_1 (jn @fillV.eq_2 (jn @int_beq (jn @int_bne (jn @t1' @q0)))))))))))) ?_
      show retQ _ _ _ _ _
      exact ⟨.inr rfl, _, _, rfl, rfl⟩
     by_cases g1 : o.tag ≥ 16
     ·have q0 := eq_false g0
      have q1 := eq_true g1
      rw [hin (by simp; omega)]
      refine wkctv (jn @dI.eq_1 (jn @dL.eq_1 (jn @dB.eq_1 (jn @On.cells.eq_1 (jn @hix (jn @ho' (jn @h0 (jn @fillV.eq_1 (jn @fillV.eq_2 (jn @int_beq (jn @int_bne (jn @t1' (jn @q0 @q1))))))))))))) ?_
      show retQ _ _ _ _ _
      exact ⟨.inr rfl, _, _, rfl, rfl⟩
     ·have q0 := eq_false g0
      have q1 := eq_false g1
      refine wkctv (jn @dI.eq_1 (jn @dL.eq_1 (jn @dB.eq_1 (jn @On.cells.eq_1 (jn @hix (jn @ho' (jn @h0 (jn @fillV.eq_1 (jn @fillV.eq_2 (jn @int_beq (jn @int_bne (jn @t1' (jn @q0 @q1))))))))))))) ?_
      refine loop_next (by simp [hwj]; exact Is.rfl) ?_
      exact ⟨D - 1, by omega, j + 1, _, _, by omega, by simp [h0, QC], by rw [hsn]; simp; omega, st_eq (by simp [dI, hwj]) rfl⟩
   ·simp at hb
    have hje : j = q.ck.length := by omega
    rw [hje, List.take_length] at hno
    rw [hno]
    refine wkctv (jn @dI.eq_1 @dL.eq_1) ?_
    show retQ _ _ _ _ _
    exact ⟨.inr rfl, _, _, rfl, rfl⟩
/-- Whether a node can be translated. -/
theorem any_snoc2 {α : Type} {p : α → Bool} {l : List α} {j : Nat} {x : α} (h : l[j]? = some x) (hn : (l.take j).any p = false) : (l.take (j + 1)).any p = p x := by
 rw [take_snoc h, List.any_append, hn, Bool.false_or]; simp
set_option maxHeartbeats 8000000 in
theorem form12 (n : Nn) (hn : n.sz ≤ 4194304) : den Tryz.prog Ob.cfg 12 [aG n.cells] = some (dI (if n.eqs.any wrQ = true then 5 else 0)) := by
 refine den_wp Tryz.func12 rfl (by kernel_rfl) rfl rfl ?_
 have hsz : n.sz = szT n.nm + szD n.inn + szD n.out + szD n.loc + szN n.eqs + 5 := rfl
 have hNl := len_szN n.eqs
 have hNe : (encN n.eqs).length = n.eqs.length := encN_len _
 refine wkctv (jn @envOf.eq_1 (jn @envOf.eq_2 (jn @aG.eq_1 (jn @Nn.cells.eq_1 (jn @fillV.eq_1 (jn @fillV.eq_2 (jn @dL.eq_1 @hNe))))))) ?_
 apply WP.loop' (I := fun D s => ∃ (i c' : Nat) (hp' : Hp), i + D = n.eqs.length ∧ (n.eqs.take i).any wrQ = false ∧
  s = ⟨[(11, dL (encN n.eqs)), (12, dI n.eqs.length), (13, dI i)], hp', 1, c', 0, []⟩) (d := n.eqs.length)
 ·exact ⟨0, _, _, by simp, by simp, st_eq (by simp [dI, dL]) rfl⟩
 rintro D _ ⟨i, c', hp', hi, hno, rfl⟩
 refine wktv (jn @dI.eq_1 (jn @dL.eq_1 @hNe)) ?_
 show WP _ _ _ _ _ _
 refine WP.cond _ rfl (fun hb => ?_) (fun hb => ?_)
 ·simp at hb
  have hb' : i < n.eqs.length := by omega
  obtain ⟨q, hq, hqm, hix⟩ := at_lt hb'
  have hq' := encN_at hq
  have hwi := w_succ hb' (by omega)
  have hqs := mem_szN hqm
  have hqz : q.sz = szS q.left + q.r.sz + szT q.node + szX q.args + szT q.ev + szO q.ck + 13 := rfl
  have hol := len_szO q.ck
  have hOe : (encO q.ck).length = q.ck.length := encO_len _
  have hsnq := any_snoc2 hq hno
  have hinq : wrQ q = true → n.eqs.any wrQ = true := fun h => List.any_eq_true.2 ⟨q, hqm, h⟩
  have hp := parse30 q.node (by unfold szT at hqz; omega)
  obtain ⟨w, hw⟩ : ∃ w, prsT q.node = w := ⟨_, rfl⟩
  have hwq : wrQ q = ((decide (q.k = 4) && !decide (w.2 = 0)) || q.ck.any (fun o => decide (o.tag < 0) || decide ((if o.t = 1 then 2 else 16) ≤ o.tag))) := by unfold wrQ; rw [hw]
  rw [hw] at hp
  obtain ⟨⟨hd, lo⟩, e⟩ := w
  simp only [aW, dL, dI, dS] at hp
  simp only at hwq
  have h41 : (q.k = 4 ∧ e ≠ 0) ∨ ¬ (q.k = 4 ∧ e ≠ 0) := Classical.em _
  rcases h41 with ⟨k4, he⟩ | hn4
  ·have k4' := eq_true k4
   have he' := eq_false he
   rw [hinq (by rw [hwq]; simp [k4, he]), if_pos rfl]
   refine wkctv (jn @Nq.cells.eq_1 (jn @dI.eq_1 (jn @dS.eq_1 (jn @dB.eq_1 (jn @dL.eq_1 (jn @hix (jn @hq' (jn @fillV.eq_1 (jn @fillV.eq_2 (jn @hp (jn @int_beq (jn @int_bne (jn @k4' @he'))))))))))))) ?_
   show retQ _ _ _ _ _
   exact ⟨.inr rfl, _, _, rfl, rfl⟩
  ·have hf : (decide (q.k = 4) && !decide (e = 0)) = false := by
    by_cases h4 : q.k = 4
    ·have : e = 0 := by by_cases h : e = 0; exact h; exact absurd ⟨h4, h⟩ hn4
     simp [this]
    ·simp [h4]
   rw [hf, Bool.false_or] at hwq
   have hx : (q.k = 4 ∧ e = 0) ∨ q.k ≠ 4 := by
    by_cases h4 : q.k = 4
    ·exact .inl ⟨h4, by by_cases h : e = 0; exact h; exact absurd ⟨h4, h⟩ hn4⟩
    ·exact .inr h4
   rcases hx with ⟨h4, he⟩ | h4
   have k4' := eq_true h4
   have he' := eq_true he
   refine wkctv (jn @Nq.cells.eq_1 (jn @dI.eq_1 (jn @dS.eq_1 (jn @dB.eq_1 (jn @dL.eq_1 (jn @hix (jn @hq' (jn @fillV.eq_1 (jn @fillV.eq_2 (jn @hp (jn @int_beq (jn @int_bne (jn @k4' (jn @he' @hOe)))))))))))))) ?_
   obtain ⟨N, hN⟩ : ∃ N, N = 3 := ⟨_, rfl⟩
   apply WP.gen3
   intro hp1 c1 wl1 hhp1 hwl1
   have hw1 : wl1 = [] := hwl1
   subst hw1
   refine WP.st_eq2 (s' := ⟨[(11, dL (encN n.eqs)), (12, dI n.eqs.length), (13, dI i), (29, dL (encO q.ck)), (30, dI q.ck.length), (31, dI 0)], hp1, N, c1, 0, []⟩) (by rw [hN]; rfl) ?_
   clear hhp1 hwl1
   rotate_left
   have k4' := eq_false h4
   refine wkctv (jn @Nq.cells.eq_1 (jn @dI.eq_1 (jn @dS.eq_1 (jn @dB.eq_1 (jn @dL.eq_1 (jn @hix (jn @hq' (jn @fillV.eq_1 (jn @fillV.eq_2 (jn @hp (jn @int_beq (jn @int_bne (jn @k4' @hOe))))))))))))) ?_
   obtain ⟨N, hN⟩ : ∃ N, N = 2 := ⟨_, rfl⟩
   apply WP.gen3
   intro hp1 c1 wl1 hhp1 hwl1
   have hw1 : wl1 = [] := hwl1
   subst hw1
   refine WP.st_eq2 (s' := ⟨[(11, dL (encN n.eqs)), (12, dI n.eqs.length), (13, dI i), (29, dL (encO q.ck)), (30, dI q.ck.length), (31, dI 0)], hp1, N, c1, 0, []⟩) (by rw [hN]; rfl) ?_
   clear hhp1 hwl1
   rotate_left
   all_goals
    clear hp
    apply WP.loop' (I := fun D s => ∃ (j c' : Nat) (hp' : Hp), j + D = q.ck.length ∧ (q.ck.take j).any (fun o => decide (o.tag < 0) || decide ((if o.t = 1 then 2 else 16) ≤ o.tag)) = false ∧
     s = ⟨[(11, dL (encN n.eqs)), (12, dI n.eqs.length), (13, dI i), (29, dL (encO q.ck)), (30, dI q.ck.length), (31, dI j)], hp', N, c', 0, []⟩) (d := q.ck.length)
    ·exact ⟨0, _, _, by simp, by simp, st_eq (by simp [dI]) rfl⟩
    rintro D2 _ ⟨j, c', hp', hj, hnoj, rfl⟩
    subst hN
    refine wktv (jn @dI.eq_1 (jn @dL.eq_1 @hOe)) ?_
    show WP _ _ _ _ _ _
    refine WP.cond _ rfl (fun hb => ?_) (fun hb => ?_)
    ·simp at hb
     have hb' : j < q.ck.length := by omega
     obtain ⟨o, ho, hom, hix⟩ := at_lt hb'
     have ho' := encO_at ho
     have hwj := w_succ hb' (by omega)
     have hsn := any_snoc2 ho hnoj
     have hin : (decide (o.tag < 0) || decide ((if o.t = 1 then 2 else 16) ≤ o.tag)) = true → q.ck.any (fun o => decide (o.tag < 0) || decide ((if o.t = 1 then 2 else 16) ≤ o.tag)) = true := fun h => List.any_eq_true.2 ⟨o, hom, h⟩
     by_cases t1 : o.t = 1
     ·have t1' := eq_true t1
      simp only [if_pos t1] at hsn hin
      by_cases g0 : o.tag < 0
      ·have q0 := eq_true g0
       rw [hinq (by rw [hwq]; exact hin (by simp [g0])), if_pos rfl]
       refine wkctv (jn @dI.eq_1 (jn @dL.eq_1 (jn @dB.eq_1 (jn @On.cells.eq_1 (jn @hix (jn @ho' (jn @fillV.eq_1 (jn @fillV.eq_2 (jn @int_beq (jn @int_bne (jn @t1' @q0))))))))))) ?_
       show retQ _ _ _ _ _
       exact ⟨.inr rfl, _, _, rfl, rfl⟩
      by_cases g1 : o.tag ≥ 2
      ·have q0 := eq_false g0
       have q1 := eq_true g1
       rw [hinq (by rw [hwq]; exact hin (by simp; omega)), if_pos rfl]
       refine wkctv (jn @dI.eq_1 (jn @dL.eq_1 (jn @dB.eq_1 (jn @On.cells.eq_1 (jn @hix (jn @ho' (jn @fillV.eq_1 (jn @fillV.eq_2 (jn @int_beq (jn @int_bne (jn @t1' (jn @q0 @q1)))))))))))) ?_
       show retQ _ _ _ _ _
       exact ⟨.inr rfl, _, _, rfl, rfl⟩
      ·have q0 := eq_false g0
       have q1 := eq_false g1
       refine wkctv (jn @dI.eq_1 (jn @dL.eq_1 (jn @dB.eq_1 (jn @On.cells.eq_1 (jn @hix (jn @ho' (jn @fillV.eq_1 (jn @fillV.eq_2 (jn @int_beq (jn @int_bne (jn @t1' (jn @q0 @q1)))))))))))) ?_
       refine loop_next (by simp [hwj]; exact Is.rfl) ?_
       exact ⟨D2 - 1, by omega, j + 1, _, _, by omega, by rw [hsn]; simp; omega, st_eq (by simp [dI, dL, hwj]) rfl⟩
     ·have t1' := eq_false t1
      simp only [if_neg t1] at hsn hin
      by_cases g0 : o.tag < 0
      ·have q0 := eq_true g0
       rw [hinq (by rw [hwq]; exact hin (by simp [g0])), if_pos rfl]
       refine wkctv (jn @dI.eq_1 (jn @dL.eq_1 (jn @dB.eq_1 (jn @On.cells.eq_1 (jn @hix (jn @ho' (jn @fillV.eq_1 (jn @fillV.eq_2 (jn @int_beq (jn @int_bne (jn @t1' @q0))))))))))) ?_
       show retQ _ _ _ _ _
       exact ⟨.inr rfl, _, _, rfl, rfl⟩
      by_cases g1 : o.tag ≥ 16
      ·have q0 := eq_false g0
       have q1 := eq_true g1
       rw [hinq (by rw [hwq]; exact hin (by simp; omega)), if_pos rfl]
       refine wkctv (jn @dI.eq_1 (jn @dL.eq_1 (jn @dB.eq_1 (jn @On.cells.eq_1 (jn @hix (jn @ho' (jn @fillV.eq_1 (jn @fillV.eq_2 (jn @int_beq (jn @int_bne (jn @t1' (jn @q0 @q1)))))))))))) ?_
       show retQ _ _ _ _ _
       exact ⟨.inr rfl, _, _, rfl, rfl⟩
      ·have q0 := eq_false g0
       have q1 := eq_false g1
       refine wkctv (jn @dI.eq_1 (jn @dL.eq_1 (jn @dB.eq_1 (jn @On.cells.eq_1 (jn @hix (jn @ho' (jn @fillV.eq_1 (jn @fillV.eq_2 (jn @int_beq (jn @int_bne (jn @t1' (jn @q0 @q1)))))))))))) ?_
       refine loop_next (by simp [hwj]; exact Is.rfl) ?_
       exact ⟨D2 - 1, by omega, j + 1, _, _, by omega, by rw [hsn]; simp; omega, st_eq (by simp [dI, dL, hwj]) rfl⟩
    ·simp at hb
     have hje : j = q.ck.length := by omega
     rw [hje, List.take_length] at hnoj
     rw [hnoj] at hwq
     refine wkctv (jn @dI.eq_1 @dL.eq_1) ?_
     refine loop_next (by simp [hwi]; exact Is.rfl) ?_
     exact ⟨D - 1, by omega, i + 1, _, _, by omega, by rw [hsnq, hwq], st_eq (by simp [dI, dL, hwi]) rfl⟩
 ·simp at hb
  have hie : i = n.eqs.length := by omega
  rw [hie, List.take_length] at hno
  rw [hno, if_neg (by simp)]
  refine wkctv (jn @dI.eq_1 @dL.eq_1) ?_
  show retQ _ _ _ _ _
  exact ⟨.inr rfl, _, _, rfl, rfl⟩
end Go.Ac
end

section
set_option maxRecDepth 8000
namespace Go.Ac
open Go.Proofs
attribute [local simp] Hp.get_set get_trunc_lt
def zC1 : Cl := ⟨[], [], [], [], [], [], []⟩
/-- What both answer: the class, the error (r: whether the order is right). -/
def clsA (n : Nn) (r : Bool) : Cl × Int := if r = false then (zC1, 22) else if n.eqs.any wrQ = true then (zC1, 5) else (clN n, 0)
def oN (n : Nn) : List V := [.d (.str n.nm), .d (.slice (encD n.inn)), .d (.slice (encD n.out)), .d (.slice (encD n.loc)), .d (.slice (encN n.eqs))]
def clR (n : Nn) (g3 a g4 b g5 e : Nat) : List V := [.d (.str n.nm), .d (.slice (encD (n.inn.map brD))), .d (.slice (encD (n.out.map brD))), .d (.slice (encD (n.loc.map brD))), .osl 3 g3 0 a 3 none, .osl 4 g4 0 b 2 none, .osl 5 g5 0 e 12 none]
/-- The memory while the class is made. -/
structure R1 (g1 g2 : Nat) (n : Nn) (g3 : Nat) (M : List Mm) (g4 : Nat) (I : List Ii) (g5 : Nat) (S : List Y) (hp : Hp) : Prop where
 o0 : hp.get 0 = some ⟨0, false, oN n⟩
 o1 : hp.get 1 = some ⟨g1, false, zCl⟩
 o2 : hp.get 2 = some ⟨g2, false, clR n g3 M.length g4 I.length g5 S.length⟩
 o3 : ∃ cs, hp.get 3 = some ⟨g3, false, cs⟩ ∧ RowD cs (encM M) 3
 o4 : ∃ cs, hp.get 4 = some ⟨g4, false, cs⟩ ∧ RowD cs (encJ I) 2
 o5 : ∃ cs, hp.get 5 = some ⟨g5, false, cs⟩ ∧ RowD cs (encY S) 12
theorem close_tupC {look : Look} {v w : V} {b : D} {ids : List Nat} (h : close look v = some (w, ids)) : closeT look (.tuple [v, .d b]) = some (.tuple [w, .d b], ids) := by
 simp only [closeT, closeVs, h, close_d, List.append_nil]
theorem close_zCl (look : Look) : close look (.agg zCl) = some (aG zC1.cells, []) := by
 unfold zCl
 simp only [close, closeVs, close1, toD_d, toD_full, ofD]
 simp [zC1, aG, Cl.cells, encD, encM, encJ, encY_map]
theorem eqN_fst (n : Nn) : (eqN n).map (·.1) = n.eqs := prL_fst _ _ _
theorem eqN_snd (n : Nn) : (eqN n).map (·.2) = nmsL (dNm (vrN n)) (1, 1) n.eqs := prL_snd _ _ _
theorem close_clsX {look : Look} {a b c d x7 x8 x10 : D} {i7 g7 n7 s7 i8 g8 n8 s8 i10 g10 n10 s10 : Nat} {q7 q8 q10 : Option Nat} {r7 r8 r10 : List Nat}
  (h7 : toD look depthD (.osl i7 g7 0 n7 s7 q7) = some (x7, r7)) (h8 : toD look depthD (.osl i8 g8 0 n8 s8 q8) = some (x8, r8)) (h10 : toD look depthD (.osl i10 g10 0 n10 s10 q10) = some (x10, r10)) :
  close look (.agg [.d a, .d b, .d c, .d d, .osl i7 g7 0 n7 s7 q7, .osl i8 g8 0 n8 s8 q8, .osl i10 g10 0 n10 s10 q10]) = some (.agg [.d a, .d b, .d c, .d d, .d x7, .d x8, .d x10], r7 ++ (r8 ++ r10)) := close_cls h7 h8 h10
theorem kf7 (r : Nat) : Ob.keep 7 r = Ob.k7 r := by kernel_rfl
attribute [local simp] kf7 Ob.k7
set_option maxHeartbeats 40000000 in
theorem class7 (n : Nn) (r : Bool) (hs : n.sz ≤ 4194304) (hb : n.eqs.length + (dNm (vrN n)).length ≤ 402) (hR : den Tryz.prog Ob.cfg 15 [aG n.cells] = some (dB r)) :
  den Tryz.prog Ob.cfg 7 [aG n.cells] = some (.tuple [aG (clsA n r).1.cells, dI (clsA n r).2]) := by
 have hb2 := hb
 refine den_wp Tryz.func7 rfl (by kernel_rfl) rfl rfl ?_
 have hsz : n.sz = szT n.nm + szD n.inn + szD n.out + szD n.loc + szN n.eqs + 5 := rfl
 have hNe : (encN n.eqs).length = n.eqs.length := encN_len _
 have hNl := len_szN n.eqs
 simp only [aG, Nn.cells, List.map_cons, List.map_nil, dB] at hR
 unfold clsA
 cases r with
 | false =>
  rw [if_pos rfl]
  refine wkc (jn @envOf.eq_1 (jn @envOf.eq_2 (jn @aG.eq_1 (jn @Nn.cells.eq_1 (jn @fillV.eq_1 (jn @fillV.eq_2 @hR)))))) ?_
  refine ⟨.inr rfl, [.agg zCl, .d (.int .i64 22)], [], ?_, close_tupC (close_zCl _)⟩
  show resultsV Tryz.prog _ [_, _] = _
  simp [resultsV, resultV, zCl]
 | true =>
 rw [if_neg (by simp)]
 refine wkc (jn @envOf.eq_1 (jn @envOf.eq_2 (jn @aG.eq_1 (jn @Nn.cells.eq_1 (jn @fillV.eq_1 (jn @fillV.eq_2 @hR)))))) ?_
 apply WP.loop' (I := fun D s => ∃ (j c' : Nat) (hp' : Hp), j + D = n.eqs.length ∧ hp'.get 0 = some ⟨0, false, oN n⟩ ∧ hp'.get 1 = some ⟨1, false, zCl⟩ ∧ (n.eqs.take j).any wrQ = false ∧
  s = ⟨[(1, .ptr 0 0 0), (2, .ptr 1 1 0), (4, dI j)], hp', 2, c', 0, []⟩) (d := n.eqs.length)
 ·exact ⟨0, _, _, by simp, rfl, rfl, by simp, st_eq (by simp [dI]) rfl⟩
 rintro D _ ⟨j, c', hp', hj, h0, h1, hno, rfl⟩
 unfold oN at h0
 unfold zCl at h1
 refine wk (jn @dI.eq_1 (jn @dL.eq_1 (jn @h0 @hNe))) ?_
 show WP _ _ _ _ _ _
 refine WP.cond _ rfl (fun hb => ?_) (fun hb => ?_)
 ·simp at hb
  have hb' : j < n.eqs.length := by omega
  obtain ⟨q, hq, hqm, hix⟩ := at_lt hb'
  have hq' := encN_at hq
  have hwj := w_succ hb' (by omega)
  have hqs := mem_szN hqm
  have hw := wrong16 q (by omega)
  have hsn := any_snoc2 hq hno
  simp only [aG, Nq.cells, List.map_cons, List.map_nil, dB] at hw
  cases hwq : wrQ q with
  | true =>
   rw [hwq] at hw
   rw [if_pos (List.any_eq_true.2 ⟨q, hqm, hwq⟩)]
   refine wkc (jn @dI.eq_1 (jn @dL.eq_1 (jn @hNe (jn @Nq.cells.eq_1 (jn @hix (jn @hq' (jn @h0 (jn @h1 (jn @hw (jn @fillV.eq_1 @fillV.eq_2)))))))))) ?_
   refine ⟨.inr rfl, [.agg zCl, .d (.int .i64 5)], [], ?_, close_tupC (close_zCl _)⟩
   show resultsV Tryz.prog _ [_, _] = _
   simp [resultsV, resultV, zCl]
  | false =>
   rw [hwq] at hw hsn
   refine wkc (jn @dI.eq_1 (jn @dL.eq_1 (jn @hNe (jn @Nq.cells.eq_1 (jn @hix (jn @hq' (jn @h0 (jn @h1 (jn @hw (jn @fillV.eq_1 @fillV.eq_2)))))))))) ?_
   refine loop_next (by simp [hwj]; exact Is.rfl) ?_
   exact ⟨D - 1, by omega, j + 1, _, _, by omega, by simp [h0, oN], by simp [h1, zCl], hsn, st_eq (by simp [dI, hwj]) rfl⟩
 ·simp at hb
  have hje : j = n.eqs.length := by omega
  rw [hje, List.take_length] at hno
  rw [if_neg (by rw [hno]; simp)]
  have hnm := names17 n hb2
  have p1 := bare18 n.inn (by have := len_szD n.inn; omega)
  have p2 := bare18 n.out (by have := len_szD n.out; omega)
  have p3 := bare18 n.loc (by have := len_szD n.loc; omega)
  obtain ⟨NM, hNM⟩ : ∃ NM, nmsL (dNm (n.inn ++ n.out ++ n.loc)) (1, 1) n.eqs = NM := ⟨_, rfl⟩
  rw [hNM] at hnm
  simp only [aG, Nn.cells, List.map_cons, List.map_nil, dL] at hnm p1 p2 p3
  repeat (first
 | apply WP.seq
 | (apply WP.reg; (case hR => dsimp only [prepL, prepO, List.map, gS, gZ]; exact iZ); (case hr => (repeat (first
 | (apply RT.op; simp [dI, dL, h0, h1, hnm, p1, p2, p3, fillV, closeParts, cl2, toD_dep, toD_d]; exact iZ; (try dsimp only [putEnv]) <;> exact rfl)
 | (apply RT.call; (iterate 2 simp; exact iZ); exact iZ; (iterate 4 simp [dI, dL, h0, h1, hnm, p1, p2, p3, fillV, closeParts, cl2, toD_dep, toD_d]; exact iZ); simp [Is]; (try dsimp only [putEnv]) <;> exact rfl; simp; exact iZ; simp; exact iZ)
 | (apply RT.wr; simp [dI, dL, h0, h1, hnm, p1, p2, p3, fillV, closeParts, cl2, toD_dep, toD_d]; exact iZ; (try dsimp only [putEnv]) <;> exact rfl; simp [dI, dL, h0, h1, hnm, p1, p2, p3, fillV, closeParts, cl2, toD_dep, toD_d]; exact iZ; (iterate 2 exact iZ); simp; exact iZ))); exact RT.nil); (case hc => first | (refine checkR_un [(0, 2), (1, 2), (0, 3), (1, 3), (0, 4), (1, 4), (0, 5), (1, 5), (2, 5), (3, 5), (4, 5), (0, 6), (1, 6), (2, 6), (3, 6), (4, 6), (0, 7), (1, 7), (0, 8), (1, 8), (2, 8), (3, 8), (4, 8), (5, 8), (6, 8), (7, 8), (0, 9), (1, 9), (2, 9), (3, 9), (4, 9), (5, 9), (6, 9), (7, 9), (0, 10), (1, 10), (0, 12), (1, 12), (2, 12), (3, 12), (4, 12), (5, 12), (6, 12), (7, 12), (8, 12), (9, 12), (10, 12), (11, 12)] (by kernel_rfl) (by kernel_rfl) rfl ?_; simp [memA, disj, nbeq_dec]; done) | (show _ = _; kernel_rfl)); (case ht => simp [dI, dL, h0, h1, hnm, p1, p2, p3, fillV, closeParts, cl2, toD_dep, toD_d]; exact iZ))
 | apply WP.block | apply WP.skip | apply WP.exit | apply WP.ret | refine WP.condT rfl ?_ | refine WP.condF rfl ?_)
  apply WP.gen3
  intro hp1 c1 wl1 hhp hwl
  have hw1 : wl1 = [] := hwl
  subst hw1
  obtain ⟨W, hW⟩ : ∃ W, vrN n = W := ⟨_, rfl⟩
  obtain ⟨E, hE⟩ : ∃ E, eqN n = E := ⟨_, rfl⟩
  have hE1 := eqN_fst n
  have hE2 := eqN_snd n
  have hNM' : nmsL (dNm (vrN n)) (1, 1) n.eqs = NM := hNM
  rw [hE] at hE1 hE2
  rw [hNM'] at hE2
  have hEl : E.length = n.eqs.length := by rw [← hE1, List.length_map]
  have hCa : ∃ g3 g4 g5, R1 1 c' n g3 [] g4 [] g5 [] hp1 ∧ g3 = c' + 1 ∧ g4 = c' + 2 ∧ g5 = c' + 3 := ⟨c' + 1, c' + 2, c' + 3, ⟨by rw [hhp]; simp [h0, oN], by rw [hhp]; simp [h1, zCl], by rw [hhp]; simp [clR], ⟨[], by rw [hhp]; simp, RowD.nil 3⟩, ⟨[], by rw [hhp]; simp, RowD.nil 2⟩, ⟨[], by rw [hhp]; simp, RowD.nil 12⟩⟩, rfl, rfl, rfl⟩
  clear hhp hwl h0 h1 hnm p1 p2 p3 hR
  obtain ⟨g2, hg2⟩ : ∃ g2, c' = g2 := ⟨_, rfl⟩
  rw [hg2] at hCa ⊢
  clear hg2
  have hokq : ∀ q, q ∈ n.eqs → okQ q := fun q hq => okQ_of (by
   have := List.any_eq_false.1 hno q hq; simpa using this)
  apply WP.loop' (I := fun D s => ∃ (j c' : Nat) (hp' : Hp) (g3 g4 g5 : Nat), j + D = n.eqs.length ∧ R1 1 g2 n g3 ((E.take j).flatMap (memQ W)) g4 ((E.take j).flatMap insQ) g5 ((E.take j).flatMap fstQ) hp' ∧
   s = ⟨[(1, .ptr 0 0 0), (2, .ptr 1 1 0), (5, dL (encS NM)), (6, .ptr 2 g2 0), (7, dI j)], hp', 6, c', 0, []⟩) (d := n.eqs.length)
  ·obtain ⟨g3, g4, g5, hCa, _⟩ := hCa
   exact ⟨0, _, _, g3, g4, g5, by simp, by simpa using hCa, st_eq (by simp [dI, dL]) rfl⟩
  clear hCa
  rintro D _ ⟨j, c', hp', g3, g4, g5, hj, hC, rfl⟩
  obtain ⟨M, hM⟩ : ∃ M, (E.take j).flatMap (memQ W) = M := ⟨_, rfl⟩
  obtain ⟨I, hI⟩ : ∃ I, (E.take j).flatMap insQ = I := ⟨_, rfl⟩
  obtain ⟨F, hF⟩ : ∃ F, (E.take j).flatMap fstQ = F := ⟨_, rfl⟩
  rw [hM, hI, hF] at hC
  have h0 := hC.o0
  unfold oN at h0
  refine wk (jn @dI.eq_1 (jn @dL.eq_1 (jn @h0 @hNe))) ?_
  show WP _ _ _ _ _ _
  refine WP.cond _ rfl (fun hb => ?_) (fun hb => ?_)
  ·simp at hb
   have hb' : j < n.eqs.length := by omega
   obtain ⟨p, hp, hpm, _⟩ := at_lt (show j < E.length by omega)
   obtain ⟨q, nm⟩ := p
   have hq : n.eqs[j]? = some q := by rw [← hE1, List.getElem?_map, hp]; rfl
   have hnm : NM[j]? = some nm := by rw [← hE2, List.getElem?_map, hp]; rfl
   have hqm : q ∈ n.eqs := List.mem_of_getElem? hq
   have hix := idx_lt hb'
   have hNMl : NM.length = n.eqs.length := by rw [← hE2, List.length_map, hEl]
   have hix2 := idx_lt (show j < NM.length by omega)
   have hq' := encN_at hq
   have hnm' := encS_at hnm
   have hSe : (encS NM).length = NM.length := encS_len _
   have hwj := w_succ hb' (by omega)
   have hsn := take_snoc hp
   have hqs := mem_szN hqm
   have hqz : q.sz = szS q.left + q.r.sz + szT q.node + szX q.args + szT q.ev + szO q.ck + 13 := rfl
   have hM1 : (E.take (j + 1)).flatMap (memQ W) = M ++ memQ W (q, nm) := by rw [hsn, fm_snoc, hM]
   have hI1 : (E.take (j + 1)).flatMap insQ = I ++ insQ (q, nm) := by rw [hsn, fm_snoc, hI]
   have hF1 : (E.take (j + 1)).flatMap fstQ = F ++ fstQ (q, nm) := by rw [hsn, fm_snoc, hF]
   have hPl : (E.take j).length ≤ 402 := by rw [List.length_take]; omega
   have hMl : M.length ≤ 402 := by have := fm_len (memQ_len W) (E.take j); rw [hM] at this; omega
   have hIl : I.length ≤ 402 := by have := fm_len insQ_len (E.take j); rw [hI] at this; omega
   have hFl : F.length ≤ 402 := by have := fm_len fstQ_len (E.take j); rw [hF] at this; omega
   have hlf := left20 q
   obtain ⟨lf, hlf0⟩ : ∃ lf, lfQ q = lf := ⟨_, rfl⟩
   rw [hlf0] at hlf
   have hty := typeOf19 n lf (by have := len_szD n.inn; have := len_szD n.out; have := len_szD n.loc; omega)
   have hty0 : tyL (n.inn ++ n.out ++ n.loc) lf = tyL W lf := by rw [← hW]; rfl
   rw [hty0] at hty
   have hst := mem21 nm
   obtain ⟨x, hx⟩ : ∃ x, xSt nm = x := ⟨_, rfl⟩
   rw [hx] at hst
   obtain ⟨ty, hty1⟩ : ∃ ty, tyL W lf = ty := ⟨_, rfl⟩
   rw [hty1] at hty
   simp only [dI, dL, dS, aG, Nq.cells, Nn.cells, X.cells_eq, List.map_cons, List.map_nil] at hlf hty hst
   have h1 := hC.o1
   have h2 := hC.o2
   unfold clR at h2
   obtain ⟨cs3, h3, r3⟩ := hC.o3
   obtain ⟨cs4, h4, r4⟩ := hC.o4
   obtain ⟨cs5, h5, r5⟩ := hC.o5
   have r3l := r3.len
   have r3t := r3.take
   rw [encM_len] at r3l r3t
   have r4l := r4.len
   have r4t := r4.take
   rw [encJ_len] at r4l r4t
   have r5l := r5.len
   have r5t := r5.take
   rw [encY_len] at r5l r5t
   have f3 := fits32 (show M.length ≤ 8388608 by omega)
   have f4 := fits32 (show I.length ≤ 8388608 by omega)
   have f5 := fits176 (show F.length ≤ 8388608 by omega)
   by_cases k2 : q.k = 2
   ·have k2' := eq_true k2
    repeat (first
 | apply WP.seq
 | (apply WP.reg; (case hR => dsimp only [prepL, prepO, List.map, gS, gZ]; exact iZ); (case hr => (repeat (first
 | (apply RT.op; simp [dI, dL, dS, hNe, hSe, Nq.cells, hix, hix2, hq', hnm', h0, h2, h3, h5, r3l, r3t, r5l, r5t, f3, f5, hlf, hty, hst, fillV, int_beq, k2', closeParts, cl2, toD_d, toD_full, nble_d]; exact iZ; (try dsimp only [putEnv]) <;> exact rfl)
 | (apply RT.call; (iterate 2 simp; exact iZ); exact iZ; (iterate 4 simp [dI, dL, dS, hNe, hSe, Nq.cells, hix, hix2, hq', hnm', h0, h2, h3, h5, r3l, r3t, r5l, r5t, f3, f5, hlf, hty, hst, fillV, int_beq, k2', closeParts, cl2, toD_d, toD_full, nble_d]; exact iZ); simp [Is]; (try dsimp only [putEnv]) <;> exact rfl; simp; exact iZ; simp; exact iZ)
 | (apply RT.wr; simp [dI, dL, dS, hNe, hSe, Nq.cells, hix, hix2, hq', hnm', h0, h2, h3, h5, r3l, r3t, r5l, r5t, f3, f5, hlf, hty, hst, fillV, int_beq, k2', closeParts, cl2, toD_d, toD_full, nble_d]; exact iZ; (try dsimp only [putEnv]) <;> exact rfl; simp [dI, dL, dS, hNe, hSe, Nq.cells, hix, hix2, hq', hnm', h0, h2, h3, h5, r3l, r3t, r5l, r5t, f3, f5, hlf, hty, hst, fillV, int_beq, k2', closeParts, cl2, toD_d, toD_full, nble_d]; exact iZ; (iterate 2 exact iZ); simp; exact iZ))); exact RT.nil); (case hc => first | (refine checkR_un [(0, 2), (1, 2), (0, 3), (1, 3), (2, 3), (0, 4), (1, 4), (0, 5), (1, 5), (0, 6), (1, 6), (2, 6), (3, 6), (4, 6), (5, 6), (0, 7), (1, 7), (2, 7), (3, 7), (4, 7), (5, 7), (6, 7), (0, 8), (1, 8), (2, 8), (3, 8), (4, 8), (5, 8), (6, 8), (0, 9), (1, 9), (2, 9), (3, 9), (4, 9), (5, 9), (0, 10), (1, 10), (2, 10), (3, 10), (4, 10), (5, 10), (6, 10), (7, 10), (8, 10), (9, 10), (0, 11), (1, 11), (2, 11), (3, 11), (4, 11), (5, 11), (6, 11), (7, 11), (8, 11), (9, 11), (0, 12), (1, 12), (0, 13), (1, 13)] (by kernel_rfl) (by kernel_rfl) rfl ?_; simp [memA, disj, nbeq_dec]; done) | (refine checkR_un [(0, 2), (1, 2), (0, 3), (1, 3), (0, 4), (1, 4), (2, 4), (3, 4), (0, 5), (1, 5), (2, 5), (3, 5), (4, 5), (0, 6), (1, 6), (2, 6), (3, 6), (0, 7), (1, 7), (2, 7), (3, 7), (0, 8), (1, 8), (0, 9), (1, 9), (0, 10), (1, 10)] (by kernel_rfl) (by kernel_rfl) rfl ?_; simp [memA, disj, nbeq_dec]; done) | (show _ = _; kernel_rfl)); (case ht => simp [dI, dL, dS, hNe, hSe, Nq.cells, hix, hix2, hq', hnm', h0, h2, h3, h5, r3l, r3t, r5l, r5t, f3, f5, hlf, hty, hst, fillV, int_beq, k2', closeParts, cl2, toD_d, toD_full, nble_d]; exact iZ))
 | apply WP.block | apply WP.skip | apply WP.exit | apply WP.ret | refine WP.condT rfl ?_ | refine WP.condF rfl ?_)
    refine loop_next (by simp [hwj]; exact Is.rfl) ?_
    have m1 : memQ W (q, nm) = [⟨nm, ty, q.ini⟩] := by unfold memQ; rw [if_pos k2, ← hty1, ← hlf0]
    have m2 : insQ (q, nm) = [] := by unfold insQ; rw [if_neg (show ¬ ((q, nm).1.k = 3) by show ¬ q.k = 3; omega)]
    have m3 : fstQ (q, nm) = [.mk 1 lf 0 x [] [] []] := by unfold fstQ; rw [if_pos k2, ← hlf0, ← hx]
    rw [m1] at hM1
    rw [m2, List.append_nil] at hI1
    rw [m3] at hF1
    have q3 := r3.snoc (vs := [V.d (.str nm), V.d (.int .i64 ty), V.d (.int .i64 q.ini)]) (r := (Mm.mk nm ty q.ini).cells) (by repeat (first | exact VD.nil | apply VD.d | apply VD.full)) rfl
    rw [encM_snoc] at q3
    have q5 := r5.snoc (vs := [V.d (.int .i64 1), V.d (.str lf), V.d (.int .i64 0), V.d (.int .i64 x.k), V.d (.int .i64 x.o), V.d (.int .i64 x.t), V.d (.int .i64 x.v), V.d (.str x.nm), V.d (.slice (encX x.args)), V.full [], V.full [], V.full []]) (r := (Y.mk 1 lf 0 x [] [] []).cells) (by rw [Y.cells, X.cells_eq, encS, encX_map [], encB_map]; repeat (first | exact VD.nil | apply VD.d | apply VD.full)) (by rw [Y.cells, X.cells_eq]; rfl)
    rw [show encY F ++ [(Y.mk 1 lf 0 x [] [] []).cells] = encY (F ++ [Y.mk 1 lf 0 x [] [] []]) by simp [encY_map]] at q5
    refine ⟨D - 1, by omega, j + 1, _, _, c' + 2, g4, c' + 4, by omega, ?_, st_eq (by simp [dI, dL, hwj]) rfl⟩
    rw [hM1, hI1, hF1]
    exact ⟨by rw [get_trunc_lt (by omega)]; simp [hC.o0], by rw [get_trunc_lt (by omega)]; simp [h1], by rw [get_trunc_lt (by omega)]; simp [clR], ⟨_, by rw [get_trunc_lt (by omega)]; simp, q3⟩, ⟨cs4, by rw [get_trunc_lt (by omega)]; simp [h4], r4⟩, ⟨_, by rw [get_trunc_lt (by omega)]; simp, q5⟩⟩
   have k2' := eq_false k2
   by_cases k4 : q.k = 4
   ·have k4' := eq_true k4
    repeat (first
 | apply WP.seq
 | (apply WP.reg; (case hR => dsimp only [prepL, prepO, List.map, gS, gZ]; exact iZ); (case hr => (repeat (first
 | (apply RT.op; simp [dI, dL, dS, hNe, hSe, Nq.cells, hix, hix2, hq', hnm', h0, h2, h3, h4, h5, r3l, r3t, r4l, r4t, r5l, r5t, f3, f4, f5, hlf, hty, hst, fillV, int_beq, k2', k4', closeParts, cl2, toD_d, toD_full, nble_d]; exact iZ; (try dsimp only [putEnv]) <;> exact rfl)
 | (apply RT.call; (iterate 2 simp; exact iZ); exact iZ; (iterate 4 simp [dI, dL, dS, hNe, hSe, Nq.cells, hix, hix2, hq', hnm', h0, h2, h3, h4, h5, r3l, r3t, r4l, r4t, r5l, r5t, f3, f4, f5, hlf, hty, hst, fillV, int_beq, k2', k4', closeParts, cl2, toD_d, toD_full, nble_d]; exact iZ); simp [Is]; (try dsimp only [putEnv]) <;> exact rfl; simp; exact iZ; simp; exact iZ)
 | (apply RT.wr; simp [dI, dL, dS, hNe, hSe, Nq.cells, hix, hix2, hq', hnm', h0, h2, h3, h4, h5, r3l, r3t, r4l, r4t, r5l, r5t, f3, f4, f5, hlf, hty, hst, fillV, int_beq, k2', k4', closeParts, cl2, toD_d, toD_full, nble_d]; exact iZ; (try dsimp only [putEnv]) <;> exact rfl; simp [dI, dL, dS, hNe, hSe, Nq.cells, hix, hix2, hq', hnm', h0, h2, h3, h4, h5, r3l, r3t, r4l, r4t, r5l, r5t, f3, f4, f5, hlf, hty, hst, fillV, int_beq, k2', k4', closeParts, cl2, toD_d, toD_full, nble_d]; exact iZ; (iterate 2 exact iZ); simp; exact iZ))); exact RT.nil); (case hc => first | (refine checkR_un [(0, 2), (1, 2), (0, 3), (1, 3), (2, 3), (0, 4), (1, 4), (0, 5), (1, 5), (0, 6), (1, 6), (0, 7), (1, 7)] (by kernel_rfl) (by kernel_rfl) rfl ?_; simp [memA, disj, nbeq_dec]; done) | (show _ = _; kernel_rfl)); (case ht => simp [dI, dL, dS, hNe, hSe, Nq.cells, hix, hix2, hq', hnm', h0, h2, h3, h4, h5, r3l, r3t, r4l, r4t, r5l, r5t, f3, f4, f5, hlf, hty, hst, fillV, int_beq, k2', k4', closeParts, cl2, toD_d, toD_full, nble_d]; exact iZ))
 | apply WP.block | apply WP.skip | apply WP.exit | apply WP.ret | refine WP.condT rfl ?_ | refine WP.condF rfl ?_)
    refine loop_next (by simp [hwj]; exact Is.rfl) ?_
    have m1 : memQ W (q, nm) = [⟨nm, 2, 0⟩] := by unfold memQ; rw [if_neg k2, if_pos k4]
    have m2 : insQ (q, nm) = [] := by unfold insQ; rw [if_neg (show ¬ ((q, nm).1.k = 3) by show ¬ q.k = 3; omega)]
    have m3 : fstQ (q, nm) = [] := by unfold fstQ; rw [if_neg k2]
    rw [m1] at hM1
    rw [m2, List.append_nil] at hI1
    rw [m3, List.append_nil] at hF1
    have q3 := r3.snoc (vs := [V.d (.str nm), V.d (.int .i64 2), V.d (.int .i64 0)]) (r := (Mm.mk nm 2 0).cells) (by repeat (first | exact VD.nil | apply VD.d | apply VD.full)) rfl
    rw [encM_snoc] at q3
    refine ⟨D - 1, by omega, j + 1, _, _, c' + 2, g4, g5, by omega, ?_, st_eq (by simp [dI, dL, hwj]) rfl⟩
    rw [hM1, hI1, hF1]
    exact ⟨by rw [get_trunc_lt (by omega)]; simp [hC.o0], by rw [get_trunc_lt (by omega)]; simp [h1], by rw [get_trunc_lt (by omega)]; simp [clR], ⟨_, by rw [get_trunc_lt (by omega)]; simp, q3⟩, ⟨cs4, by rw [get_trunc_lt (by omega)]; simp [h4], r4⟩, ⟨cs5, by rw [get_trunc_lt (by omega)]; simp [h5], r5⟩⟩
   have k4' := eq_false k4
   by_cases k3 : q.k = 3
   ·have k3' := eq_true k3
    repeat (first
 | apply WP.seq
 | (apply WP.reg; (case hR => dsimp only [prepL, prepO, List.map, gS, gZ]; exact iZ); (case hr => (repeat (first
 | (apply RT.op; simp [dI, dL, dS, hNe, hSe, Nq.cells, hix, hix2, hq', hnm', h0, h2, h3, h4, h5, r3l, r3t, r4l, r4t, r5l, r5t, f3, f4, f5, hlf, hty, hst, fillV, int_beq, k2', k4', k3', closeParts, cl2, toD_d, toD_full, nble_d]; exact iZ; (try dsimp only [putEnv]) <;> exact rfl)
 | (apply RT.call; (iterate 2 simp; exact iZ); exact iZ; (iterate 4 simp [dI, dL, dS, hNe, hSe, Nq.cells, hix, hix2, hq', hnm', h0, h2, h3, h4, h5, r3l, r3t, r4l, r4t, r5l, r5t, f3, f4, f5, hlf, hty, hst, fillV, int_beq, k2', k4', k3', closeParts, cl2, toD_d, toD_full, nble_d]; exact iZ); simp [Is]; (try dsimp only [putEnv]) <;> exact rfl; simp; exact iZ; simp; exact iZ)
 | (apply RT.wr; simp [dI, dL, dS, hNe, hSe, Nq.cells, hix, hix2, hq', hnm', h0, h2, h3, h4, h5, r3l, r3t, r4l, r4t, r5l, r5t, f3, f4, f5, hlf, hty, hst, fillV, int_beq, k2', k4', k3', closeParts, cl2, toD_d, toD_full, nble_d]; exact iZ; (try dsimp only [putEnv]) <;> exact rfl; simp [dI, dL, dS, hNe, hSe, Nq.cells, hix, hix2, hq', hnm', h0, h2, h3, h4, h5, r3l, r3t, r4l, r4t, r5l, r5t, f3, f4, f5, hlf, hty, hst, fillV, int_beq, k2', k4', k3', closeParts, cl2, toD_d, toD_full, nble_d]; exact iZ; (iterate 2 exact iZ); simp; exact iZ))); exact RT.nil); (case hc => first | (refine checkR_un [(0, 2), (1, 2), (0, 3), (1, 3), (2, 3), (0, 4), (1, 4), (0, 5), (1, 5), (0, 6), (1, 6), (2, 6), (3, 6), (4, 6), (5, 6), (0, 7), (1, 7), (2, 7), (3, 7), (4, 7), (5, 7), (0, 8), (1, 8), (0, 9), (1, 9)] (by kernel_rfl) (by kernel_rfl) rfl ?_; simp [memA, disj, nbeq_dec]; done) | (show _ = _; kernel_rfl)); (case ht => simp [dI, dL, dS, hNe, hSe, Nq.cells, hix, hix2, hq', hnm', h0, h2, h3, h4, h5, r3l, r3t, r4l, r4t, r5l, r5t, f3, f4, f5, hlf, hty, hst, fillV, int_beq, k2', k4', k3', closeParts, cl2, toD_d, toD_full, nble_d]; exact iZ))
 | apply WP.block | apply WP.skip | apply WP.exit | apply WP.ret | refine WP.condT rfl ?_ | refine WP.condF rfl ?_)
    refine loop_next (by simp [hwj]; exact Is.rfl) ?_
    have m1 : memQ W (q, nm) = [] := by unfold memQ; rw [if_neg k2, if_neg k4]
    have m2 : insQ (q, nm) = [⟨nm, q.node⟩] := by unfold insQ; rw [if_pos k3]
    have m3 : fstQ (q, nm) = [] := by unfold fstQ; rw [if_neg k2]
    rw [m1, List.append_nil] at hM1
    rw [m2] at hI1
    rw [m3, List.append_nil] at hF1
    have q4 := r4.snoc (vs := [V.d (.str nm), V.d (.str q.node)]) (r := (Ii.mk nm q.node).cells) (by repeat (first | exact VD.nil | apply VD.d | apply VD.full)) rfl
    rw [encJ_snoc] at q4
    refine ⟨D - 1, by omega, j + 1, _, _, g3, c' + 2, g5, by omega, ?_, st_eq (by simp [dI, dL, hwj]) rfl⟩
    rw [hM1, hI1, hF1]
    exact ⟨by rw [get_trunc_lt (by omega)]; simp [hC.o0], by rw [get_trunc_lt (by omega)]; simp [h1], by rw [get_trunc_lt (by omega)]; simp [clR], ⟨cs3, by rw [get_trunc_lt (by omega)]; simp [h3], r3⟩, ⟨_, by rw [get_trunc_lt (by omega)]; simp, q4⟩, ⟨cs5, by rw [get_trunc_lt (by omega)]; simp [h5], r5⟩⟩
   ·have k3' := eq_false k3
    refine wkc (jn @dI.eq_1 (jn @dL.eq_1 (jn @dS.eq_1 (jn @hNe (jn @hSe (jn @Nq.cells.eq_1 (jn @hix (jn @hix2 (jn @hq' (jn @hnm' (jn @h0 (jn @h2 (jn @h3 (jn @h4 (jn @h5 (jn @r3l (jn @r3t (jn @r4l (jn @r4t (jn @r5l (jn @r5t (jn @f3 (jn @f4 (jn @f5 (jn @hlf (jn @hty (jn @hst (jn @fillV.eq_1 (jn @fillV.eq_2 (jn @int_beq (jn @k2' (jn @k4' (jn @k3' (jn @closeParts.eq_1 (jn @closeParts.eq_2 (jn @cl2.eq_def (jn @toD_d (jn @toD_full @nble_d)))))))))))))))))))))))))))))))))))))) ?_
    refine loop_next (by simp [hwj]; exact Is.rfl) ?_
    have m1 : memQ W (q, nm) = [] := by unfold memQ; rw [if_neg k2, if_neg k4]
    have m2 : insQ (q, nm) = [] := by unfold insQ; rw [if_neg k3]
    have m3 : fstQ (q, nm) = [] := by unfold fstQ; rw [if_neg k2]
    rw [m1, List.append_nil] at hM1
    rw [m2, List.append_nil] at hI1
    rw [m3, List.append_nil] at hF1
    refine ⟨D - 1, by omega, j + 1, _, _, g3, g4, g5, by omega, ?_, st_eq (by simp [dI, dL, hwj]) rfl⟩
    rw [hM1, hI1, hF1]
    exact ⟨by rw [get_trunc_lt (by omega)]; simp [hC.o0], by rw [get_trunc_lt (by omega)]; simp [h1], by rw [get_trunc_lt (by omega)]; simp [clR, h2], ⟨cs3, by rw [get_trunc_lt (by omega)]; simp [h3], r3⟩, ⟨cs4, by rw [get_trunc_lt (by omega)]; simp [h4], r4⟩, ⟨cs5, by rw [get_trunc_lt (by omega)]; simp [h5], r5⟩⟩
  ·simp at hb
   have hje : j = n.eqs.length := by omega
   rw [show E.take j = E by rw [hje, ← hEl, List.take_length]] at hM hI hF
   refine wkc (jn @dI.eq_1 @dL.eq_1) ?_
   apply WP.loop' (I := fun D s => ∃ (j c' : Nat) (hp' : Hp) (g5 : Nat), j + D = n.eqs.length ∧ R1 1 g2 n g3 M g4 I g5 (F ++ (E.take j).flatMap rstQ) hp' ∧
    s = ⟨[(1, .ptr 0 0 0), (2, .ptr 1 1 0), (5, dL (encS NM)), (6, .ptr 2 g2 0), (9, dI j)], hp', 6, c', 0, []⟩) (d := n.eqs.length)
   ·exact ⟨0, _, _, g5, by simp, by simpa using hC, st_eq (by simp [dI, dL]) rfl⟩
   clear hC h0
   rintro D _ ⟨j, c', hp', g5, hj, hC, rfl⟩
   have h0 := hC.o0
   unfold oN at h0
   refine wk (jn @dI.eq_1 (jn @dL.eq_1 (jn @h0 @hNe))) ?_
   show WP _ _ _ _ _ _
   refine WP.cond _ rfl (fun hb => ?_) (fun hb => ?_)
   ·simp at hb
    have hb' : j < n.eqs.length := by omega
    obtain ⟨p, hp, hpm, _⟩ := at_lt (show j < E.length by omega)
    obtain ⟨q, nm⟩ := p
    have hq : n.eqs[j]? = some q := by rw [← hE1, List.getElem?_map, hp]; rfl
    have hnm : NM[j]? = some nm := by rw [← hE2, List.getElem?_map, hp]; rfl
    have hqm : q ∈ n.eqs := List.mem_of_getElem? hq
    have hix := idx_lt hb'
    have hNMl : NM.length = n.eqs.length := by rw [← hE2, List.length_map, hEl]
    have hix2 := idx_lt (show j < NM.length by omega)
    have hq' := encN_at hq
    have hnm' := encS_at hnm
    have hSe : (encS NM).length = NM.length := encS_len _
    have hwj := w_succ hb' (by omega)
    have hsn := take_snoc hp
    have hqs := mem_szN hqm
    have hqz : q.sz = szS q.left + q.r.sz + szT q.node + szX q.args + szT q.ev + szO q.ck + 13 := rfl
    have hol := len_szO q.ck
    have hqo := hokq q hqm
    have hR1 : (E.take (j + 1)).flatMap rstQ = (E.take j).flatMap rstQ ++ rstQ (q, nm) := by rw [hsn, fm_snoc]
    have hPl : (E.take j).length ≤ 402 := by rw [List.length_take]; omega
    have hRl := fm_len rstQ_len (E.take j)
    have hFl := fm_len fstQ_len E
    rw [hF] at hFl
    obtain ⟨R, hR0⟩ : ∃ R, (E.take j).flatMap rstQ = R := ⟨_, rfl⟩
    rw [hR0] at hC hRl hR1
    have hst := stmts22 q nm (by omega) hqo.1
    have h1 := hC.o1
    have h2 := hC.o2
    unfold clR at h2
    obtain ⟨cs3, h3, r3⟩ := hC.o3
    obtain ⟨cs4, h4, r4⟩ := hC.o4
    obtain ⟨cs5, h5, r5⟩ := hC.o5
    have r5l := r5.len
    have r5t := r5.take
    rw [encY_len] at r5l r5t
    obtain ⟨S, hS⟩ : ∃ S, F ++ R = S := ⟨_, rfl⟩
    have hSl : S.length ≤ 1608 := by rw [← hS, List.length_append]; omega
    rw [hS] at h2 r5l r5t r5
    by_cases hk4 : q.k = 1 ∨ q.k = 2 ∨ q.k = 3 ∨ q.k = 4
    ·have hsp := (stQ_pos (nm := nm) hk4)
     have hun := under23 (stQ q nm) q.ck hqo.2 (by omega)
     have hUl := unY_len (stQ q nm) q.ck
     have m3 : rstQ (q, nm) = unY q.ck (stQ q nm) := by unfold rstQ; rw [if_pos hk4]
     rw [m3] at hR1
     obtain ⟨L, hL⟩ : ∃ L, stQ q nm = L := ⟨_, rfl⟩
     rw [hL] at hst hsp hun hUl hR1
     obtain ⟨U, hU⟩ : ∃ U, unY q.ck L = U := ⟨_, rfl⟩
     rw [hU] at hun hUl hR1
     have hLe : (encY L).length = L.length := encY_len _
     have hLp := eq_true (show (L.length : Int) > 0 by omega)
     have hLp2 := eq_true (show 0 < L.length by omega)
     have frow := fun look => rows_fl look (encY_row U)
     simp only [encY_len] at frow
     have f5 := fits176m (show S.length + U.length ≤ 8388608 by omega)
     have hfl := fl_len (encY_row U)
     have hft := fl_take (encY_row U)
     rw [encY_len] at hfl hft
     simp only [dI, dL, dS, aG, Nq.cells, List.map_cons, List.map_nil] at hst hun
     repeat (first
 | apply WP.seq
 | (apply WP.reg; (case hR => dsimp only [prepL, prepO, List.map, gS, gZ]; exact iZ); (case hr => (repeat (first
 | (apply RT.op; simp [dI, dL, dS, hNe, hSe, Nq.cells, hix, hix2, hq', hnm', h0, hst, hLe, hLp, hLp2]; exact iZ; (try dsimp only [putEnv]) <;> exact rfl)
 | (apply RT.call; (iterate 2 simp; exact iZ); exact iZ; (iterate 4 simp [dI, dL, dS, hNe, hSe, Nq.cells, hix, hix2, hq', hnm', h0, hst, hLe, hLp, hLp2]; exact iZ); simp [Is]; (try dsimp only [putEnv]) <;> exact rfl; simp; exact iZ; simp; exact iZ)
 | (apply RT.wr; simp [dI, dL, dS, hNe, hSe, Nq.cells, hix, hix2, hq', hnm', h0, hst, hLe, hLp, hLp2]; exact iZ; (try dsimp only [putEnv]) <;> exact rfl; simp [dI, dL, dS, hNe, hSe, Nq.cells, hix, hix2, hq', hnm', h0, hst, hLe, hLp, hLp2]; exact iZ; (iterate 2 exact iZ); simp; exact iZ))); exact RT.nil); (case hc => first | (refine checkR_un [(0, 2), (1, 2), (0, 5), (1, 5), (2, 5), (3, 5), (4, 5), (0, 6), (1, 6), (2, 6), (3, 6), (4, 6), (5, 6), (0, 7), (1, 7), (2, 7), (3, 7), (4, 7), (0, 8), (1, 8), (2, 8), (3, 8), (4, 8)] (by kernel_rfl) (by kernel_rfl) rfl ?_; simp [memA, disj, nbeq_dec]; done) | (show _ = _; kernel_rfl)); (case ht => simp [dI, dL, dS, hNe, hSe, Nq.cells, hix, hix2, hq', hnm', h0, hst, hLe, hLp, hLp2]; exact iZ))
 | apply WP.block | apply WP.skip | apply WP.exit | apply WP.ret | refine WP.condT rfl ?_ | refine WP.condF rfl ?_)
     repeat (first
 | apply WP.seq
 | (apply WP.reg; (case hR => dsimp only [prepL, prepO, List.map, gS, gZ]; exact iZ); (case hr => (repeat (first
 | (apply RT.op; simp [dI, dL, dS, hNe, hSe, Nq.cells, hix, hix2, hq', hnm', h0, h2, h5, r5l, r5t, f5, frow, hfl, hft, hun, fillV, closeParts, cl2, toD_d, toD_full, nble_d]; exact iZ; (try dsimp only [putEnv]) <;> exact rfl)
 | (apply RT.call; (iterate 2 simp; exact iZ); exact iZ; (iterate 4 simp [dI, dL, dS, hNe, hSe, Nq.cells, hix, hix2, hq', hnm', h0, h2, h5, r5l, r5t, f5, frow, hfl, hft, hun, fillV, closeParts, cl2, toD_d, toD_full, nble_d]; exact iZ); simp [Is]; (try dsimp only [putEnv]) <;> exact rfl; simp; exact iZ; simp; exact iZ)
 | (apply RT.wr; simp [dI, dL, dS, hNe, hSe, Nq.cells, hix, hix2, hq', hnm', h0, h2, h5, r5l, r5t, f5, frow, hfl, hft, hun, fillV, closeParts, cl2, toD_d, toD_full, nble_d]; exact iZ; (try dsimp only [putEnv]) <;> exact rfl; simp [dI, dL, dS, hNe, hSe, Nq.cells, hix, hix2, hq', hnm', h0, h2, h5, r5l, r5t, f5, frow, hfl, hft, hun, fillV, closeParts, cl2, toD_d, toD_full, nble_d]; exact iZ; (iterate 2 exact iZ); simp; exact iZ))); exact RT.nil); (case hc => first | (refine checkR_un [(0, 2), (1, 2), (0, 3), (1, 3), (0, 4), (1, 4), (2, 4), (3, 4), (0, 5), (1, 5), (0, 6), (1, 6), (0, 7), (1, 7), (0, 8), (1, 8), (2, 8), (3, 8), (4, 8), (5, 8), (6, 8), (7, 8), (0, 9), (1, 9)] (by kernel_rfl) (by kernel_rfl) rfl ?_; simp [memA, disj, nbeq_dec]; done) | (show _ = _; kernel_rfl)); (case ht => simp [dI, dL, dS, hNe, hSe, Nq.cells, hix, hix2, hq', hnm', h0, h2, h5, r5l, r5t, f5, frow, hfl, hft, hun, fillV, closeParts, cl2, toD_d, toD_full, nble_d]; exact iZ))
 | apply WP.block | apply WP.skip | apply WP.exit | apply WP.ret | refine WP.condT rfl ?_ | refine WP.condF rfl ?_)
     refine loop_next (by simp [hwj]; exact Is.rfl) ?_
     have rU : RowD (fl (encY U)) (encY U) 12 := ⟨VD.map _, encY_row U⟩
     have q5 := r5.app rU
     rw [show encY S ++ encY U = encY (F ++ (R ++ U)) by rw [← hS]; simp [encY_map]] at q5
     have hl5 : (F ++ (R ++ U)).length = S.length + U.length := by rw [← hS]; simp; omega
     refine ⟨D - 1, by omega, j + 1, _, _, c', by omega, ?_, st_eq (by simp [dI, dL, hwj]) rfl⟩
     rw [hR1]
     exact ⟨by rw [get_trunc_lt (by omega)]; simp [hC.o0], by rw [get_trunc_lt (by omega)]; simp [h1], by rw [get_trunc_lt (by omega)]; rw [hl5]; simp [clR], ⟨cs3, by rw [get_trunc_lt (by omega)]; simp [h3], r3⟩, ⟨cs4, by rw [get_trunc_lt (by omega)]; simp [h4], r4⟩, ⟨_, by rw [get_trunc_lt (by omega)]; simp, q5⟩⟩
    ·have m3 : rstQ (q, nm) = [] := by unfold rstQ; rw [if_neg hk4]
     have hL0 : stQ q nm = [] := by unfold stQ; rw [if_neg (fun h => hk4 (.inl h)), if_neg (fun h => hk4 (.inr (.inl h))), if_neg (fun h => hk4 (.inr (.inr (.inl h)))), if_neg (fun h => hk4 (.inr (.inr (.inr h))))]
     rw [m3, List.append_nil] at hR1
     rw [hL0] at hst
     have hLe : (encY []).length = 0 := rfl
     simp only [dI, dL, dS, aG, Nq.cells, List.map_cons, List.map_nil] at hst
     repeat (first
 | apply WP.seq
 | (apply WP.reg; (case hR => dsimp only [prepL, prepO, List.map, gS, gZ]; exact iZ); (case hr => (repeat (first
 | (apply RT.op; simp [dI, dL, dS, hNe, hSe, Nq.cells, hix, hix2, hq', hnm', h0, hst, hLe]; exact iZ; (try dsimp only [putEnv]) <;> exact rfl)
 | (apply RT.call; (iterate 2 simp; exact iZ); exact iZ; (iterate 4 simp [dI, dL, dS, hNe, hSe, Nq.cells, hix, hix2, hq', hnm', h0, hst, hLe]; exact iZ); simp [Is]; (try dsimp only [putEnv]) <;> exact rfl; simp; exact iZ; simp; exact iZ)
 | (apply RT.wr; simp [dI, dL, dS, hNe, hSe, Nq.cells, hix, hix2, hq', hnm', h0, hst, hLe]; exact iZ; (try dsimp only [putEnv]) <;> exact rfl; simp [dI, dL, dS, hNe, hSe, Nq.cells, hix, hix2, hq', hnm', h0, hst, hLe]; exact iZ; (iterate 2 exact iZ); simp; exact iZ))); exact RT.nil); (case hc => first | (refine checkR_un [(0, 2), (1, 2), (0, 5), (1, 5), (2, 5), (3, 5), (4, 5), (0, 6), (1, 6), (2, 6), (3, 6), (4, 6), (5, 6), (0, 7), (1, 7), (2, 7), (3, 7), (4, 7), (0, 8), (1, 8), (2, 8), (3, 8), (4, 8)] (by kernel_rfl) (by kernel_rfl) rfl ?_; simp [memA, disj, nbeq_dec]; done) | (show _ = _; kernel_rfl)); (case ht => simp [dI, dL, dS, hNe, hSe, Nq.cells, hix, hix2, hq', hnm', h0, hst, hLe]; exact iZ))
 | apply WP.block | apply WP.skip | apply WP.exit | apply WP.ret | refine WP.condT rfl ?_ | refine WP.condF rfl ?_)
     refine loop_next (by simp [hwj]; exact Is.rfl) ?_
     refine ⟨D - 1, by omega, j + 1, _, _, g5, by omega, ?_, st_eq (by simp [dI, dL, hwj]) rfl⟩
     rw [hR1]
     exact ⟨by rw [get_trunc_lt (by omega)]; exact hC.o0, by rw [get_trunc_lt (by omega)]; exact h1, by rw [get_trunc_lt (by omega)]; exact hC.o2, ⟨cs3, by rw [get_trunc_lt (by omega)]; exact h3, r3⟩, ⟨cs4, by rw [get_trunc_lt (by omega)]; exact h4, r4⟩, ⟨cs5, by rw [get_trunc_lt (by omega)]; exact h5, by rw [hS]; exact r5⟩⟩
   ·simp at hb
    have hje : j = n.eqs.length := by omega
    rw [show E.take j = E by rw [hje, ← hEl, List.take_length]] at hC
    have h1 := hC.o1
    have h2 := hC.o2
    unfold zCl at h1
    unfold clR at h2
    obtain ⟨cs3, h3, r3⟩ := hC.o3
    obtain ⟨cs4, h4, r4⟩ := hC.o4
    obtain ⟨cs5, h5, r5⟩ := hC.o5
    obtain ⟨S, hS⟩ : ∃ S, F ++ E.flatMap rstQ = S := ⟨_, rfl⟩
    rw [hS] at h2 r5
    refine wkc (jn @dI.eq_1 (jn @dL.eq_1 (jn @h1 @h2))) ?_
    have e : aG (clN n).cells = .agg [V.d (.str n.nm), V.d (.slice (encD (n.inn.map brD))), V.d (.slice (encD (n.out.map brD))), V.d (.slice (encD (n.loc.map brD))), V.d (.slice (encM M)), V.d (.slice (encJ I)), V.d (.slice (encY S))] := by
     unfold clN; rw [hE, hW, hM, hI, hF, hS]; rfl
    rw [e]
    refine ⟨.inr rfl, [.agg [V.d (.str n.nm), V.d (.slice (encD (n.inn.map brD))), V.d (.slice (encD (n.out.map brD))), V.d (.slice (encD (n.loc.map brD))), V.osl 3 g3 0 M.length 3 none, V.osl 4 g4 0 I.length 2 none, V.osl 5 g5 0 S.length 12 none], V.d (.int .i64 0)], [3, 4, 5], ?_, close_tupC (close_clsX (r3.toD2 (ro := false) (by simp [h3]) (by rw [encM_len])) (r4.toD2 (ro := false) (by simp [h4]) (by rw [encJ_len])) (r5.toD2 (ro := false) (by simp [h5]) (by rw [encY_len])))⟩
    show resultsV Tryz.prog _ [_, _] = _
    simp [resultsV, resultV]
end Go.Ac
end
