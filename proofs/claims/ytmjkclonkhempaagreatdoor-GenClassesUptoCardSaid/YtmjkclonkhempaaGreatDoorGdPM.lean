/- Copies of expressions (the program's). -/
import Derived.Test.YtmjkclonkhempaaGreatDoorGdYM
set_option linter.unusedVariables false
set_option linter.unusedSimpArgs false
section
set_option maxRecDepth 8000
namespace Go.Ac
open Go.Proofs
attribute [local simp] Hp.get_set get_trunc_lt
def pM : Tx := [109, 95]
def pI : Tx := [105, 95]
/-- The name of an equation's memory or instance; how the numbers go on. -/
def nmOf (T : List Tx) (s : Nat × Nat) (q : Nq) : Tx := if q.k = 2 ∨ q.k = 4 then nmT pM (nx pM T 404 s.1) else if q.k = 3 then nmT pI (nx pI T 404 s.2) else []
def stOf (T : List Tx) (s : Nat × Nat) (q : Nq) : Nat × Nat := if q.k = 2 ∨ q.k = 4 then (nx pM T 404 s.1 + 1, s.2) else if q.k = 3 then (s.1, nx pI T 404 s.2 + 1) else s
def nmsL (T : List Tx) : Nat × Nat → List Nq → List Tx
 | _, [] => []
 | s, q :: r => nmOf T s q :: nmsL T (stOf T s q) r
def mcs (T : List Tx) (l : List Nq) : Nat × Nat := l.foldl (stOf T) (1, 1)
theorem nmsL_snoc (T : List Tx) (q : Nq) : ∀ (l : List Nq) (s : Nat × Nat), nmsL T s (l ++ [q]) = nmsL T s l ++ [nmOf T (l.foldl (stOf T) s) q]
 | [], s => rfl
 | x :: r, s => by rw [List.cons_append, nmsL, nmsL_snoc T q r, nmsL, List.foldl_cons]; rfl
theorem nmsL_len (T : List Tx) : ∀ (l : List Nq) (s : Nat × Nat), (nmsL T s l).length = l.length
 | [], s => rfl
 | x :: r, s => by rw [nmsL, List.length_cons, nmsL_len T r, List.length_cons]
theorem mcs_snoc (T : List Tx) (l : List Nq) (q : Nq) : mcs T (l ++ [q]) = stOf T (mcs T l) q := by unfold mcs; rw [List.foldl_append]; rfl
/-- Both numbers can be explained. -/
structure Ivs (T : List Tx) (i : Nat) (s : Nat × Nat) : Prop where
 m : Iv pM T i s.1
 c : Iv pI T i s.2
 lm : s.1 ≤ 404
 lc : s.2 ≤ 404
theorem Ivs.one (T : List Tx) : Ivs T 0 (1, 1) := ⟨⟨Nat.le_refl _, by simp⟩, ⟨Nat.le_refl _, by simp⟩, by simp, by simp⟩
theorem Ivs.step {T : List Tx} {i : Nat} {s : Nat × Nat} (h : Ivs T i s) (hb : 1 + i + T.length ≤ 403) (q : Nq) : Ivs T (i + 1) (stOf T s q) := by
 unfold stOf
 split
 ·obtain ⟨h1, h2, h3⟩ := nx_spec hb 404 s.1 (by omega) h.lm h.m
  exact ⟨h1.on h2, h.c.mono (by omega), by simp only; omega, h.lc⟩
 ·split
  ·obtain ⟨h1, h2, h3⟩ := nx_spec hb 404 s.2 (by omega) h.lc h.c
   exact ⟨h.m.mono (by omega), h1.on h2, h.lm, by simp only; omega⟩
  ·exact ⟨h.m.mono (by omega), h.c.mono (by omega), h.lm, h.lc⟩
theorem mcs_ok {T : List Tx} : ∀ {l : List Nq} {i : Nat}, i ≤ l.length → l.length + T.length ≤ 402 → Ivs T i (mcs T (l.take i))
 | l, 0, _, _ => by rw [List.take_zero]; exact Ivs.one T
 | l, i + 1, h, hb => by
  have ih := mcs_ok (l := l) (i := i) (by omega) hb
  rw [take_snoc (List.getElem?_eq_getElem (by omega : i < l.length)), mcs_snoc]
  exact ih.step (by omega) _
theorem encS_snoc2 (l : List Tx) (x : Tx) : encS l ++ [[.str x]] = encS (l ++ [x]) := by unfold encS; simp
theorem fits16 {j : Nat} (h : j ≤ 8388608) : fitsB (j + 1) 16 = true := by simp [fitsB]; omega
def dNm (l : List Dc) : List Tx := l.map Dc.nm
theorem kf17 (r : Nat) : Ob.keep 17 r = Ob.k17 r := by kernel_rfl
attribute [local simp] kf17 Ob.k17
set_option maxHeartbeats 8000000 in
theorem names17 (n : Nn) (hb : n.eqs.length + (dNm (n.inn ++ n.out ++ n.loc)).length ≤ 402) : den Tryz.prog Ob.cfg 17 [aG n.cells] = some (dL (encS (nmsL (dNm (n.inn ++ n.out ++ n.loc)) (1, 1) n.eqs))) := by
 have hv := vars35 n.inn n.out n.loc (by unfold dNm at hb; simp only [List.length_map, List.length_append] at hb; omega)
 obtain ⟨W, hW⟩ : ∃ W, n.inn ++ n.out ++ n.loc = W := ⟨_, rfl⟩
 rw [hW] at hb hv ⊢
 have hWl : W.length ≤ 402 := by unfold dNm at hb; rw [List.length_map] at hb; omega
 simp only [vN, dL] at hv
 have hb2 := hb
 refine den_wp Tryz.func17 rfl (by kernel_rfl) rfl rfl ?_
 have hWe : (encD W).length = W.length := encD_len W
 refine wkc (jn @envOf.eq_1 (jn @envOf.eq_2 (jn @aG.eq_1 (jn @Nn.cells.eq_1 (jn @dL.eq_1 (jn @fillV.eq_1 (jn @fillV.eq_2 @hv))))))) ?_
 apply WP.loop' (I := fun D s => ∃ (j g c' : Nat) (hp' : Hp) (cs : List V), j + D = W.length ∧ hp'.get 0 = some ⟨0, false, [.d (.str n.nm), .d (.slice (encD n.inn)), .d (.slice (encD n.out)), .d (.slice (encD n.loc)), .d (.slice (encN n.eqs))]⟩ ∧ hp'.get 1 = some ⟨g, false, cs⟩ ∧ RowD cs (encS ((W.take j).map Dc.nm)) 1 ∧ hp'.get 2 = some ⟨2, false, []⟩ ∧
  s = ⟨[(1, .ptr 0 0 0), (3, .osl 1 g 0 j 1 none), (4, .osl 2 2 0 0 1 none), (5, dL (encD W)), (6, dI j)], hp', 3, c', 0, []⟩) (d := W.length)
 ·exact ⟨0, _, _, _, _, by simp, by rfl, by rfl, RowD.nil 1, by rfl, st_eq (by simp [dI, dL]) rfl⟩
 rintro D _ ⟨j, g, c', hp', cs, hj, h0, h1, hr, h2, rfl⟩
 refine wk (jn @dI.eq_1 (jn @dL.eq_1 @hWe)) ?_
 have hLl : (encS ((W.take j).map Dc.nm)).length = j := by rw [encS_len, List.length_map, List.length_take]; omega
 show WP _ _ _ _ _ _
 refine WP.cond _ rfl (fun hb => ?_) (fun hb => ?_)
 ·simp at hb
  have hb' : j < W.length := by omega
  obtain ⟨d, hd, hdm, hix⟩ := at_lt hb'
  have hd' := encD_at hd
  have hwj := w_succ hb' (by omega)
  have hsn := take_snoc hd
  have f5 := fits16 (show j ≤ 8388608 by omega)
  have r2 := hr.len
  have r3 := hr.take
  rw [hLl, Nat.mul_one] at r2 r3
  refine wkc (jn @dI.eq_1 (jn @dL.eq_1 (jn @Dc.cells.eq_1 (jn @hWe (jn @hix (jn @hd' (jn @fillV.eq_1 (jn @fillV.eq_2 (jn @toD_dep (jn @toD_d (jn @nble_d (jn @f5 (jn @r2 (jn @r3 @h1)))))))))))))) ?_
  refine loop_next (by simp [hwj]; exact Is.rfl) ?_
  have hr2 := hr.snoc (vs := [V.d (.str d.nm)]) (r := [.str d.nm]) (VD.d VD.nil) rfl
  rw [encS_snoc2, show (W.take j).map Dc.nm ++ [d.nm] = (W.take (j + 1)).map Dc.nm by rw [hsn]; simp] at hr2
  exact ⟨D - 1, by omega, j + 1, _, _, _, _, by omega, by simp [h0], by simp; rfl, hr2, by simp [h2], st_eq (by simp [dI, dL, hwj]) rfl⟩
 ·simp at hb
  have hje : j = W.length := by omega
  rw [hje, List.take_length] at hr hLl
  obtain ⟨T, hT⟩ : ∃ T, dNm W = T := ⟨_, rfl⟩
  have hTl : T.length = W.length := by rw [← hT]; unfold dNm; simp
  rw [hT] at hb2 ⊢
  unfold dNm at hT
  rw [hT] at hr
  rw [hje]
  have hNe : (encN n.eqs).length = n.eqs.length := encN_len _
  refine wkc (jn @dI.eq_1 @dL.eq_1) ?_
  apply WP.loop' (I := fun D s => ∃ (i g2 c' : Nat) (hp' : Hp) (cs2 : List V), i + D = n.eqs.length ∧ hp'.get 0 = some ⟨0, false, [.d (.str n.nm), .d (.slice (encD n.inn)), .d (.slice (encD n.out)), .d (.slice (encD n.loc)), .d (.slice (encN n.eqs))]⟩ ∧ hp'.get 1 = some ⟨g, false, cs⟩ ∧ hp'.get 2 = some ⟨g2, false, cs2⟩ ∧ RowD cs2 (encS (nmsL T (1, 1) (n.eqs.take i))) 1 ∧
   s = ⟨[(1, .ptr 0 0 0), (3, .osl 1 g 0 T.length 1 none), (4, .osl 2 g2 0 i 1 none), (7, dI (mcs T (n.eqs.take i)).1), (8, dI (mcs T (n.eqs.take i)).2), (9, dI i)], hp', 3, c', 0, []⟩) (d := n.eqs.length)
  ·exact ⟨0, _, _, _, _, by simp, h0, h1, h2, RowD.nil 1, st_eq (by simp [dI, dL, hTl, mcs]) rfl⟩
  clear h0 h1 h2
  rintro D _ ⟨i, g2, c', hp', cs2, hi, h0, h1, h2, hr2, rfl⟩
  refine wk (jn @dI.eq_1 (jn @dL.eq_1 (jn @hNe @h0))) ?_
  have hLl2 : (encS (nmsL T (1, 1) (n.eqs.take i))).length = i := by rw [encS_len, nmsL_len, List.length_take]; omega
  show WP _ _ _ _ _ _
  refine WP.cond _ rfl (fun hb => ?_) (fun hb => ?_)
  ·simp at hb
   have hb' : i < n.eqs.length := by omega
   obtain ⟨q, hq, hqm, hix⟩ := at_lt hb'
   have hq' := encN_at hq
   have hwi := w_succ hb' (by omega)
   have hsn := take_snoc hq
   have f5 := fits16 (show i ≤ 8388608 by omega)
   have r2 := hr2.len
   have r3 := hr2.take
   rw [hLl2, Nat.mul_one] at r2 r3
   have e1 := fun (look : Look) (h : look 1 = some ⟨g, false, cs⟩) => (show toD look depthD (.osl 1 g 0 T.length 1 none) = some (.slice (encS T), [1]) by have := hr.toD (cap := none) h; rwa [encS_len] at this)
   have hiv := mcs_ok (T := T) (l := n.eqs) (i := i) (by omega) (by omega)
   have hmc : mcs T (n.eqs.take (i + 1)) = stOf T (mcs T (n.eqs.take i)) q := by rw [hsn, mcs_snoc]
   have hnn : nmsL T (1, 1) (n.eqs.take (i + 1)) = nmsL T (1, 1) (n.eqs.take i) ++ [nmOf T (mcs T (n.eqs.take i)) q] := by rw [hsn, nmsL_snoc]; rfl
   obtain ⟨s, hs⟩ : ∃ s, mcs T (n.eqs.take i) = s := ⟨_, rfl⟩
   rw [hs] at hiv hmc hnn ⊢
   by_cases c24 : q.k = 2 ∨ q.k = 4
   ·obtain ⟨hn1, hn2, hn3⟩ := nx_spec (p := pM) (T := T) (i := i) (by omega) 404 s.1 (by omega) hiv.lm hiv.m
    have hd1 := next36 pM (by decide) T i s.1 (by omega) hiv.m hiv.lm
    have hsto : stOf T s q = (nx pM T 404 s.1 + 1, s.2) := by unfold stOf; rw [if_pos c24]
    have hnmo : nmOf T s q = nmT pM (nx pM T 404 s.1) := by unfold nmOf; rw [if_pos c24]
    obtain ⟨r, hrx⟩ : ∃ r, nx pM T 404 s.1 = r := ⟨_, rfl⟩
    rw [hrx] at hn1 hn2 hn3 hd1 hsto hnmo
    have hd2 := decimal37 r (by omega)
    have htl := decT_len r
    obtain ⟨t, ht⟩ : ∃ t, decT r = t := ⟨_, rfl⟩
    unfold nmT at hnmo
    rw [ht] at hd2 htl hnmo
    simp only [dI, dS, dL, pM] at hd1 hd2 hnmo
    have hfit := eq_true (show t.length + 2 ≤ 9223372036854775807 by omega)
    have hfit2 := eq_true (show 2 + t.length ≤ 9223372036854775807 by omega)
    have hwr := w_succ (show r < 404 by omega) (by omega)
    have hr3 := hr2.snoc (vs := [V.d (.str ([109, 95] ++ t))]) (r := [.str ([109, 95] ++ t)]) (VD.d VD.nil) rfl
    rw [encS_snoc2, ← hnmo, ← hnn] at hr3
    have c4 : (q.k = 2) = True ∨ ((q.k = 2) = False ∧ (q.k = 4) = True) := by
     rcases c24 with h | h
     ·exact .inl (eq_true h)
     ·exact .inr ⟨eq_false (by omega), eq_true h⟩
    rcases c4 with k2 | ⟨k2, k4⟩
    ·refine wkc (jn @dI.eq_1 (jn @dL.eq_1 (jn @dS.eq_1 (jn @Nq.cells.eq_1 (jn @hNe (jn @hix (jn @hq' (jn @int_beq (jn @k2 (jn @h0 (jn @h1 (jn @h2 (jn @hd1 (jn @hd2 (jn @e1 (jn @hfit (jn @hfit2 (jn @hwr (jn @fillV.eq_1 (jn @fillV.eq_2 (jn @toD_dep (jn @toD_d (jn @nble_d (jn @f5 (jn @r2 @r3))))))))))))))))))))))))) ?_
     refine loop_next (by simp [hwi]; exact Is.rfl) ?_
     exact ⟨D - 1, by omega, i + 1, c' + 1, _, _, _, by omega, by simp [h0], by simp [h1], by simp [hnmo], hr3, st_eq (by simp [dI, dL, hmc, hsto, hwi]) rfl⟩
    ·refine wkc (jn @dI.eq_1 (jn @dL.eq_1 (jn @dS.eq_1 (jn @Nq.cells.eq_1 (jn @hNe (jn @hix (jn @hq' (jn @int_beq (jn @k2 (jn @k4 (jn @h0 (jn @h1 (jn @h2 (jn @hd1 (jn @hd2 (jn @e1 (jn @hfit (jn @hfit2 (jn @hwr (jn @fillV.eq_1 (jn @fillV.eq_2 (jn @toD_dep (jn @toD_d (jn @nble_d (jn @f5 (jn @r2 @r3)))))))))))))))))))))))))) ?_
     refine loop_next (by simp [hwi]; exact Is.rfl) ?_
     exact ⟨D - 1, by omega, i + 1, c' + 1, _, _, _, by omega, by simp [h0], by simp [h1], by simp [hnmo], hr3, st_eq (by simp [dI, dL, hmc, hsto, hwi]) rfl⟩
   ·have n2 := eq_false (show ¬ q.k = 2 from fun h => c24 (.inl h))
    have n4 := eq_false (show ¬ q.k = 4 from fun h => c24 (.inr h))
    by_cases c3 : q.k = 3
    ·have k3 := eq_true c3
     obtain ⟨hn1, hn2, hn3⟩ := nx_spec (p := pI) (T := T) (i := i) (by omega) 404 s.2 (by omega) hiv.lc hiv.c
     have hd1 := next36 pI (by decide) T i s.2 (by omega) hiv.c hiv.lc
     have hsto : stOf T s q = (s.1, nx pI T 404 s.2 + 1) := by unfold stOf; rw [if_neg c24, if_pos c3]
     have hnmo : nmOf T s q = nmT pI (nx pI T 404 s.2) := by unfold nmOf; rw [if_neg c24, if_pos c3]
     obtain ⟨r, hrx⟩ : ∃ r, nx pI T 404 s.2 = r := ⟨_, rfl⟩
     rw [hrx] at hn1 hn2 hn3 hd1 hsto hnmo
     have hd2 := decimal37 r (by omega)
     have htl := decT_len r
     obtain ⟨t, ht⟩ : ∃ t, decT r = t := ⟨_, rfl⟩
     unfold nmT at hnmo
     rw [ht] at hd2 htl hnmo
     simp only [dI, dS, dL, pI] at hd1 hd2 hnmo
     have hfit := eq_true (show t.length + 2 ≤ 9223372036854775807 by omega)
     have hfit2 := eq_true (show 2 + t.length ≤ 9223372036854775807 by omega)
     have hwr := w_succ (show r < 404 by omega) (by omega)
     have hr3 := hr2.snoc (vs := [V.d (.str ([105, 95] ++ t))]) (r := [.str ([105, 95] ++ t)]) (VD.d VD.nil) rfl
     rw [encS_snoc2, ← hnmo, ← hnn] at hr3
     refine wkc (jn @dI.eq_1 (jn @dL.eq_1 (jn @dS.eq_1 (jn @Nq.cells.eq_1 (jn @hNe (jn @hix (jn @hq' (jn @int_beq (jn @n2 (jn @n4 (jn @k3 (jn @h0 (jn @h1 (jn @h2 (jn @hd1 (jn @hd2 (jn @e1 (jn @hfit (jn @hfit2 (jn @hwr (jn @fillV.eq_1 (jn @fillV.eq_2 (jn @toD_dep (jn @toD_d (jn @nble_d (jn @f5 (jn @r2 @r3))))))))))))))))))))))))))) ?_
     refine loop_next (by simp [hwi]; exact Is.rfl) ?_
     exact ⟨D - 1, by omega, i + 1, c' + 1, _, _, _, by omega, by simp [h0], by simp [h1], by simp [hnmo], hr3, st_eq (by simp [dI, dL, hmc, hsto, hwi]) rfl⟩
    ·have k3 := eq_false c3
     have hsto : stOf T s q = s := by unfold stOf; rw [if_neg c24, if_neg c3]
     have hnmo : nmOf T s q = [] := by unfold nmOf; rw [if_neg c24, if_neg c3]
     have hr3 := hr2.snoc (vs := [V.d (.str [])]) (r := [.str []]) (VD.d VD.nil) rfl
     rw [encS_snoc2, ← hnmo, ← hnn] at hr3
     refine wkc (jn @dI.eq_1 (jn @dL.eq_1 (jn @dS.eq_1 (jn @Nq.cells.eq_1 (jn @hNe (jn @hix (jn @hq' (jn @int_beq (jn @n2 (jn @n4 (jn @k3 (jn @h0 (jn @h1 (jn @h2 (jn @e1 (jn @fillV.eq_1 (jn @fillV.eq_2 (jn @toD_dep (jn @toD_d (jn @nble_d (jn @f5 (jn @r2 @r3)))))))))))))))))))))) ?_
     refine loop_next (by simp [hwi]; exact Is.rfl) ?_
     exact ⟨D - 1, by omega, i + 1, c' + 1, _, _, _, by omega, by simp [h0], by simp [h1], by simp [hnmo], hr3, st_eq (by simp [dI, dL, hmc, hsto, hwi]) rfl⟩
  ·simp at hb
   have hie : i = n.eqs.length := by omega
   rw [hie, List.take_length] at hr2 hLl2
   have hcl := hr2.close2 (cap := none) (m := i) h2 (by rw [hLl2, hie])
   refine wkc (jn @dI.eq_1 @dL.eq_1) ?_
   exact ⟨.inr rfl, _, [2], rfl, hcl⟩
end Go.Ac
end

section
set_option maxRecDepth 8000
namespace Go.Ac
open Go.Proofs
theorem itoa_b0 : allUp (saysT 100 72) 120 0 = true := by kernel_rfl
theorem itoa_b1 : allUp (saysT 100 72) 60 120 = true := by kernel_rfl
theorem itoa_b2 : allUp (saysT 100 72) 60 180 = true := by kernel_rfl
theorem itoa_b3 : allUp (saysT 100 72) 60 240 = true := by kernel_rfl
theorem itoa_b4 : allUp (saysT 100 72) 60 300 = true := by kernel_rfl
theorem itoa_b5 : allUp (saysT 100 72) 44 360 = true := by kernel_rfl
theorem itoa72 (k : Nat) (h : k < 404) : den Tryz.prog Ob.cfg 72 [dI k] = some (dS (decT k)) := by
 refine saysT_den (k := 100) ?_
 by_cases h0 : k < 120
 ·exact allUp_at itoa_b0 (by omega) (by omega)
 by_cases h1 : k < 180
 ·exact allUp_at itoa_b1 (by omega) (by omega)
 by_cases h2 : k < 240
 ·exact allUp_at itoa_b2 (by omega) (by omega)
 by_cases h3 : k < 300
 ·exact allUp_at itoa_b3 (by omega) (by omega)
 by_cases h4 : k < 360
 ·exact allUp_at itoa_b4 (by omega) (by omega)
 exact allUp_at itoa_b5 (by omega) (by omega)
end Go.Ac
end

section
set_option maxRecDepth 8000
namespace Go.Ac
open Go.Proofs
attribute [local simp] Hp.get_set Ag_set Ag_refl Ag_trunc get_trunc_lt
/-- A call that hands the memory back and gives data. -/
theorem thrD_wp {f : FuncId} {fn : Func} {body : Code} {vs : List V} {hp : Hp} {n c : Nat} {ids0 : List Nat} {v : V} {Φ : Hp → Prop} (hf : Tryz.prog.funcs[f]? = some fn) (hb : fn.body = some body) (hok : (Nat.ble vs.length fn.ntmps && codeOK fn.ntmps body) = true)
  (hthr : Ob.cfg.thr f = false) (h : WP Tryz.prog Ob.cfg f body ⟨envOf 0 vs, hp, n, c, n, []⟩ (fun e t => (e = .normal ∨ e = .ret) ∧ ∃ rs ids, resultsV Tryz.prog t fn.results.toList = some rs ∧ closeT t.hp.get (tup rs) = some (v, ids) ∧ (v.flat || ids.all (fun i => Nat.ble n i)) = true ∧ WI ids0 n hp t.wl t.hp ∧ Φ (Hp.trunc n t.hp))) :
  ThrX f vs hp n c ids0 (fun v' hp' n' => v' = v ∧ n' = n ∧ Φ hp') := by
 obtain ⟨w, t, h1, h2, h3, h4⟩ := lim_wpD (Q := fun w t => w = v ∧ WI ids0 n hp t.wl t.hp ∧ Φ (Hp.trunc n t.hp)) hf hb hok hthr (h.mono fun e t ⟨he, rs, ids, a1, a2, a3, a4, a5⟩ => ⟨he, rs, v, ids, a1, a2, a3, rfl, a4, a5⟩)
 exact ⟨_, h1, Nat.le_refl _, ⟨h3.1, fun j hj hn => by rw [get_trunc_lt hj]; exact h3.2 j hj hn⟩, h2, rfl, h4⟩
theorem mput2 {α : Type} (l : List (Tx × α)) (x : Tx) (v : α) : mget (mput l x v) x = some v := by rw [mget_put, if_pos rfl]
theorem look_mp {α : Type} (e : α → V) (l : List (Tx × α)) (d : α) {id g : Nat} {ro : Bool} {z : V} {sz by_ : Nat} {zr : Option (List V)} {look : Look} {x : Tx} (hz : z = e d) (h : look id = some ⟨g, ro, [mpC e l]⟩) :
  lookupV look ⟨.str, sz, by_, zr⟩ (some z) (.mp id g) (.d (.str x)) false = some ⟨e ((mget l x).getD d), [], [id], 0, 0, false⟩ := by
 rw [lookup_mp e l h]; subst hz; cases mget l x <;> rfl
theorem kf53 (r : Nat) : Ob.keep 53 r = Ob.k53 r := by kernel_rfl
attribute [local simp] kf53 Ob.k53
set_option maxHeartbeats 8000000 in
theorem name53 {im gm it gt il gl : Nat} {n : Nn} {T : List (Tx × Bool)} {K : List (Tx × Int)} (b : Tx) (hbl : b.length ≤ 4) (Tn : List Tx) (hT : ∀ x, (mget T x).getD false = decide (x ∈ Tn)) (i k0 : Nat) (hbd : 1 + i + Tn.length ≤ 403) (hi : Iv (b ++ [95]) Tn i k0) (hk0 : k0 ≤ 404) (hg : (mget K b).getD 0 = (k0 : Int) - 1)
  (hp : Hp) (m c : Nat) (hK : MK im gm it gt il gl n T K hp m) (hil : il ≠ im ∧ il ≠ it) :
  ThrX 53 [.ptr im gm 0, dS b] hp m c [il] (fun v hp' n' => v = dS (nmT (b ++ [95]) (nx (b ++ [95]) Tn 404 k0)) ∧ n' = m ∧ ∃ K', MK im gm it gt il gl n T K' hp' m ∧ ∀ y, (mget K' y).getD 0 = if y = b then ((nx (b ++ [95]) Tn 404 k0 : Nat) : Int) else (mget K y).getD 0) := by
 obtain ⟨r, hr⟩ : ∃ r, nx (b ++ [95]) Tn 404 k0 = r := ⟨_, rfl⟩
 rw [hr]
 refine thrD_wp Tryz.func53 rfl (by kernel_rfl) rfl ?_
 refine wkektv (jn @envOf.eq_1 @envOf.eq_2) ?_
 apply WP.loop' (I := fun D s => ∃ (k f c' : Nat) (wl : List Nat) (hp' : Hp) (K' : List (Tx × Int)) (E : Env), D = 405 - k ∧ 404 ≤ f + k ∧ nx (b ++ [95]) Tn f k = r ∧ Iv (b ++ [95]) Tn i k ∧ k ≤ 404 ∧ MK im gm it gt il gl n T K' hp' m ∧ (mget K' b).getD 0 = (k : Int) - 1 ∧ (∀ y, y ≠ b → (mget K' y).getD 0 = (mget K y).getD 0) ∧ WI [il] m hp wl hp' ∧
  s = ⟨(0, .ptr im gm 0) :: (1, dS b) :: E, hp', m, c', m, wl⟩) (d := 405 - k0)
 ·exact ⟨k0, 404, _, _, _, K, [], rfl, by omega, hr, hi, hk0, hK, hg, fun _ _ => rfl, WI.refl, st_eq (by simp [dS]) rfl⟩
 clear hK hg
 rintro D _ ⟨k, f, c', wl, hp', K', E, hD, hf, hnx, hik, hk, hK, hg, hoth, hwi, rfl⟩
 have hle := hik.le hbd hk
 have hd := itoa72 k (by omega)
 have htl := decT_len k
 obtain ⟨t, ht⟩ : ∃ t, decT k = t := ⟨_, rfl⟩
 rw [ht] at hd htl
 simp only [dI, dS] at hd
 obtain ⟨f', rfl⟩ : ∃ f', f = f' + 1 := ⟨f - 1, by omega⟩
 unfold nx at hnx
 have ho := hK.ob
 have h2 := hK.tk
 have h3 := hK.la
 have hk2 : mget (mput K' b (k : Int)) b = some (k : Int) := mput2 _ _ _
 have l1 := fun (look : Look) (sz by_ : Nat) (zr : Option (List V)) (h : look il = some ⟨gl, false, [mpC eI K']⟩) => (by have := look_mp eI K' 0 (z := V.d (.int .i64 0)) (sz := sz) (by_ := by_) (zr := zr) (x := b) rfl h; rw [hg] at this; exact this : lookupV look ⟨.str, sz, by_, zr⟩ (some (V.d (.int .i64 0))) (.mp il gl) (.d (.str b)) false = some ⟨.d (.int .i64 ((k : Int) - 1)), [], [il], 0, 0, false⟩)
 have l2 := fun (look : Look) (sz by_ : Nat) (zr : Option (List V)) (h : look il = some ⟨gl, false, [mpC eI (mput K' b (k : Int))]⟩) => (by have := look_mp eI (mput K' b (k : Int)) 0 (z := V.d (.int .i64 0)) (sz := sz) (by_ := by_) (zr := zr) (x := b) rfl h; rw [hk2] at this; exact this : lookupV look ⟨.str, sz, by_, zr⟩ (some (V.d (.int .i64 0))) (.mp il gl) (.d (.str b)) false = some ⟨.d (.int .i64 (k : Int)), [], [il], 0, 0, false⟩)
 have l3 := fun (look : Look) (sz by_ : Nat) (zr : Option (List V)) (h : look it = some ⟨gt, false, [mpC eBo T]⟩) => (by have := look_mp eBo T false (z := V.d (.bool false)) (sz := sz) (by_ := by_) (zr := zr) (x := b ++ 95 :: t) rfl h; rw [hT] at this; exact this : lookupV look ⟨.str, sz, by_, zr⟩ (some (V.d (.bool false))) (.mp it gt) (.d (.str (b ++ 95 :: t))) false = some ⟨.d (.bool (decide (b ++ 95 :: t ∈ Tn))), [], [it], 0, 0, false⟩)
 have l4 := fun (look : Look) (sz by_ : Nat) (zr : Option (List V)) (h : look il = some ⟨gl, false, [mpC eI K']⟩) => insert_mp eI K' (k : Int) (sz := sz) (by_ := by_) (zr := zr) (x := b) (w := .d (.int .i64 k)) rfl h
 have hw1 : IntKind.i64.wrap (k : Int) = (k : Int) := by rw [w_id] <;> omega
 have hll := eq_true hK.ll
 have q3 := eq_false (show ¬ im = il from fun h => hil.1 h.symm)
 have q4 := eq_false (show ¬ it = il from fun h => hil.2 h.symm)
 have q1 := eq_false hil.1
 have q2 := eq_false hil.2
 have hfit := eq_true (show b.length + 1 ≤ 9223372036854775807 by omega)
 have hfit2 := eq_true (show b.length + 1 + t.length ≤ 9223372036854775807 by omega)
 have hnm : nmT (b ++ [95]) k = b ++ 95 :: t := by unfold nmT; rw [ht, List.append_assoc]; rfl
 rw [hnm] at hnx
 by_cases h : b ++ 95 :: t ∈ Tn
 ·rw [if_pos h] at hnx
  have hdc : decide (b ++ 95 :: t ∈ Tn) = true := decide_eq_true h
  rw [hdc] at l3
  refine wkcektv (jn @dI.eq_1 (jn @dS.eq_1 (jn @ho (jn @h2 (jn @h3 (jn @l1 (jn @l2 (jn @l3 (jn @l4 (jn @hd (jn @hw1 (jn @hll (jn @q1 (jn @q2 (jn @q3 (jn @q4 (jn @zt3 (jn @zt4 (jn @hfit @hfit2))))))))))))))))))) ?_
  refine blockQ_nn ?_
  refine loop_next (by simp [-addNew, addNew_nil]; exact Is.rfl) ?_
  have hup := hik.up (show nmT (b ++ [95]) k ∈ Tn by rw [hnm]; exact h)
  refine ⟨404 - k, by omega, k + 1, f', c', addNew m wl [(il, ⟨gl, false, [mpC eI (mput K' b (k : Int))]⟩)], Hp.trunc m (hp'.set il ⟨gl, false, [mpC eI (mput K' b (k : Int))]⟩), mput K' b (k : Int), _, by omega, by omega, hnx, hup, by omega, ⟨by rw [get_trunc_lt hK.lm]; simp [q1, q3, ho], by rw [get_trunc_lt hK.lt]; simp [q2, q4, h2], by rw [get_trunc_lt hK.ll]; simp, hK.lm, hK.lt, hK.ll⟩, by rw [hk2]; show (k : Int) = ((k + 1 : Nat) : Int) - 1; omega, fun y hy => by rw [mget_put, if_neg hy]; exact hoth y hy, (hwi.set (.inl (List.mem_singleton.2 rfl))).trunc (Nat.le_refl m), st_eq (by simp [dS]; rfl) rfl⟩
 ·rw [if_neg h] at hnx
  have hdc : decide (b ++ 95 :: t ∈ Tn) = false := decide_eq_false h
  rw [hdc] at l3
  refine wkcektv (jn @dI.eq_1 (jn @dS.eq_1 (jn @ho (jn @h2 (jn @h3 (jn @l1 (jn @l2 (jn @l3 (jn @l4 (jn @hd (jn @hw1 (jn @hll (jn @q1 (jn @q2 (jn @q3 (jn @q4 (jn @zt3 (jn @zt4 (jn @hfit @hfit2))))))))))))))))))) ?_
  rw [← hnx]
  refine ⟨.inr rfl, _, [], rfl, by rw [hnm]; rfl, rfl, by rw [addNew_nil]; exact hwi.set (.inl (by simp)), mput K' b (k : Int), ⟨by rw [get_trunc_lt hK.lm]; simp [q1, q3, ho], by rw [get_trunc_lt hK.lt]; simp [q2, q4, h2], by rw [get_trunc_lt hK.ll]; simp, hK.lm, hK.lt, hK.ll⟩, fun y => ?_⟩
  rw [mget_put]
  by_cases hy : y = b
  ·rw [if_pos hy, if_pos hy]; rfl
  ·rw [if_neg hy, if_neg hy]; exact hoth y hy
end Go.Ac
end

section
set_option maxRecDepth 8000
namespace Go.Ac
open Go.Proofs
def prL (T : List Tx) : Nat × Nat → List Nq → List (Nq × Tx)
 | _, [] => []
 | s, q :: r => (q, nmOf T s q) :: prL T (stOf T s q) r
theorem prL_snoc (T : List Tx) (q : Nq) : ∀ (l : List Nq) (s : Nat × Nat), prL T s (l ++ [q]) = prL T s l ++ [(q, nmOf T (l.foldl (stOf T) s) q)]
 | [], s => rfl
 | x :: r, s => by rw [List.cons_append, prL, prL_snoc T q r, prL, List.foldl_cons]; rfl
theorem prL_fst (T : List Tx) : ∀ (l : List Nq) (s : Nat × Nat), (prL T s l).map (·.1) = l
 | [], s => rfl
 | x :: r, s => by rw [prL, List.map_cons, prL_fst T r]
theorem prL_snd (T : List Tx) : ∀ (l : List Nq) (s : Nat × Nat), (prL T s l).map (·.2) = nmsL T s l
 | [], s => rfl
 | x :: r, s => by rw [prL, List.map_cons, prL_snd T r]; rfl
/-- What an equation gives: memories, instances, first statements, the others. -/
def memQ (W : List Dc) (p : Nq × Tx) : List Mm := if p.1.k = 2 then [⟨p.2, tyL W (lfQ p.1), p.1.ini⟩] else if p.1.k = 4 then [⟨p.2, 2, 0⟩] else []
def insQ (p : Nq × Tx) : List Ii := if p.1.k = 3 then [⟨p.2, p.1.node⟩] else []
def fstQ (p : Nq × Tx) : List Y := if p.1.k = 2 then [.mk 1 (lfQ p.1) 0 (xSt p.2) [] [] []] else []
def rstQ (p : Nq × Tx) : List Y := if p.1.k = 1 ∨ p.1.k = 2 ∨ p.1.k = 3 ∨ p.1.k = 4 then unY p.1.ck (stQ p.1 p.2) else []
/-- The variables of a node; its equations with names. -/
def vrN (n : Nn) : List Dc := n.inn ++ n.out ++ n.loc
def eqN (n : Nn) : List (Nq × Tx) := prL (dNm (vrN n)) (1, 1) n.eqs
/-- The class of a node. -/
def clN (n : Nn) : Cl := ⟨n.nm, n.inn.map brD, n.out.map brD, n.loc.map brD, (eqN n).flatMap (memQ (vrN n)), (eqN n).flatMap insQ, (eqN n).flatMap fstQ ++ (eqN n).flatMap rstQ⟩
theorem fm_snoc {α β : Type} (f : α → List β) (l : List α) (x : α) : (l ++ [x]).flatMap f = l.flatMap f ++ f x := by rw [List.flatMap_append]; simp
/-- What form demands of an equation. -/
def okQ (q : Nq) : Prop := (q.k = 4 → (prsT q.node).2 = 0) ∧ ∀ o ∈ q.ck, okO o
theorem addNew_cons {n k : Nat} {o : Ob} {wl : List Nat} {r : List (Nat × Ob)} (h : ¬ k < n) : addNew n wl ((k, o) :: r) = addNew n wl r := by
 have hk : Nat.blt k n = false := by
  cases hb : Nat.blt k n with
  | false => rfl
  | true => rw [Nat.blt_eq] at hb; omega
 rw [addNew, hk]
theorem mgetB_put (T : List (Tx × Bool)) (x : Tx) (P : List Tx) (h : ∀ y, (mget T y).getD false = decide (y ∈ P)) : ∀ y, (mget (mput T x true) y).getD false = decide (y ∈ P ++ [x]) := fun y => by
 rw [mget_put]
 by_cases hy : y = x
 ·rw [if_pos hy]; simp [hy]
 ·rw [if_neg hy, h]; simp [hy]
end Go.Ac
end

section
set_option maxRecDepth 4000
namespace Go.Ac
open Go.Proofs
attribute [local simp] Hp.get_set get_trunc_lt
def zXc : List V := [.d (.int .i64 0), .d (.int .i64 0), .d (.int .i64 0), .d (.int .i64 0), .d (.str []), .full []]
/-- A list of expressions of which the first are copied. -/
def hfX (l : List X) (j : Nat) : List V := fl (encX (l.take j)) ++ (List.replicate (l.length - j) zXc).flatten
theorem hfX_len (l : List X) {j : Nat} (h : j ≤ l.length) : (hfX l j).length = l.length * 6 := by
 unfold hfX
 rw [List.length_append, fl_len (encX_row _), encX_len, List.length_take, List.length_flatten, List.map_replicate, List.sum_replicate_nat]
 simp only [zXc, List.length_cons, List.length_nil]
 omega
theorem hfX_done (l : List X) : hfX l l.length = fl (encX l) := by unfold hfX; rw [List.take_length, Nat.sub_self]; simp
theorem hfX_step {l : List X} {j : Nat} {y : X} (h : l[j]? = some y) : (hfX l j).take (j * 6) ++ (y.cells.map V.d ++ (hfX l j).drop (j * 6 + 6)) = hfX l (j + 1) := by
 have hj := (List.getElem?_eq_some_iff.1 h).1
 have ha : (fl (encX (l.take j))).length = j * 6 := by rw [fl_len (encX_row _), encX_len, List.length_take]; omega
 have e : l.length - j = (l.length - (j + 1)) + 1 := by omega
 unfold hfX
 rw [e, List.replicate_succ, List.flatten_cons, List.take_left' ha, List.drop_append, List.drop_of_length_le (by omega), ha, Nat.add_sub_cancel_left, take_snoc h, ← encX_snoc, ← fl_snoc]
 simp [zXc]
theorem kf56 (r : Nat) : Ob.keep 56 r = Ob.k56 r := by kernel_rfl
attribute [local simp] kf56 Ob.k56
set_option maxHeartbeats 8000000 in
theorem rename56 : ∀ (N : Nat) (x : X), x.sz < N → x.sz ≤ 8388608 → den Tryz.prog Ob.cfg 56 [aG x.cells, dS [], dS []] = some (aG x.cells)
 | 0, x, hN, hM => by omega
 | N + 1, x, hN, hM => by
  have hs0 := X.sz_eq x
  have hlen := len_szX x.args
  have hv := var73 x
  simp only [aG, X.cells_eq, List.map_cons, List.map_nil, dB] at hv
  have hf1 : fitsB x.args.length 72 = true ∨ x.args.length = 0 := by
   by_cases h : x.args.length = 0
   ·exact .inr h
   ·left; simp [fitsB]; omega
  have hf2 : fitsB x.args.length 72 = true := by simp [fitsB]; omega
  have hmx := eq_true (show (x.args.length : Int) ≤ 9223372036854775807 by omega)
  refine den_wp Tryz.func56 rfl (by kernel_rfl) rfl (by rw [X.cells_eq]; rfl) ?_
  rw [aX_eq]
  have h3 : vaX x = false ∨ (vaX x = true ∧ x.nm = []) ∨ (vaX x = true ∧ x.nm ≠ []) := by
   cases vaX x
   ·exact .inl rfl
   ·by_cases h : x.nm = []
    ·exact .inr (.inl ⟨rfl, h⟩)
    ·exact .inr (.inr ⟨rfl, h⟩)
  rcases h3 with h3 | h3 | h3
  rw [h3] at hv
  refine wkc (jn @envOf.eq_1 (jn @envOf.eq_2 (jn @dS.eq_1 (jn @hv (jn @fillV.eq_1 (jn @fillV.eq_2 (jn @makeV.eq_def (jn @encX_len (jn @hf2 @hmx))))))))) ?_
  refine WP.st_eq2 (s' := ⟨[(1, dS []), (2, dS []), (3, .ptr 0 0 0), (6, .ptr 1 1 0), (7, .osl 2 2 0 x.args.length 6 (some x.args.length)), (25, dL (encX x.args)), (26, dI x.args.length), (27, dI 0)], [(0, ⟨0, false, [.d (.int .i64 x.k), .d (.int .i64 x.o), .d (.int .i64 x.t), .d (.int .i64 x.v), .d (.str x.nm), .d (.slice (encX x.args))]⟩), (1, ⟨1, false, [.d (.int .i64 0), .d (.int .i64 0), .d (.int .i64 0), .d (.int .i64 0), .d (.str []), .full []]⟩), (2, ⟨2, false, (List.replicate x.args.length zXc).flatten⟩)], 3, 3, 0, []⟩) rfl ?_
  rotate_left
  rw [h3.1] at hv
  have hn := h3.2
  rw [hn] at hv
  refine wkc (jn @envOf.eq_1 (jn @envOf.eq_2 (jn @dS.eq_1 (jn @hv (jn @fillV.eq_1 (jn @fillV.eq_2 (jn @makeV.eq_def (jn @encX_len (jn @hf2 (jn @hmx @hn)))))))))) ?_
  refine WP.st_eq2 (s' := ⟨[(1, dS []), (2, dS []), (3, .ptr 0 0 0), (6, .ptr 1 1 0), (7, .osl 2 2 0 x.args.length 6 (some x.args.length)), (25, dL (encX x.args)), (26, dI x.args.length), (27, dI 0)], [(0, ⟨0, false, [.d (.int .i64 x.k), .d (.int .i64 x.o), .d (.int .i64 x.t), .d (.int .i64 x.v), .d (.str x.nm), .d (.slice (encX x.args))]⟩), (1, ⟨1, false, [.d (.int .i64 0), .d (.int .i64 0), .d (.int .i64 0), .d (.int .i64 0), .d (.str []), .full []]⟩), (2, ⟨2, false, (List.replicate x.args.length zXc).flatten⟩)], 3, 3, 0, []⟩) (by rw [hn]; rfl) ?_
  rotate_left
  rw [h3.1] at hv
  have hn := eq_false h3.2
  refine wkc (jn @envOf.eq_1 (jn @envOf.eq_2 (jn @dS.eq_1 (jn @hv (jn @fillV.eq_1 (jn @fillV.eq_2 (jn @makeV.eq_def (jn @encX_len (jn @hf2 (jn @hmx (jn @hn @tx_beq))))))))))) ?_
  refine WP.st_eq2 (s' := ⟨[(1, dS []), (2, dS []), (3, .ptr 0 0 0), (6, .ptr 1 1 0), (7, .osl 2 2 0 x.args.length 6 (some x.args.length)), (25, dL (encX x.args)), (26, dI x.args.length), (27, dI 0)], [(0, ⟨0, false, [.d (.int .i64 x.k), .d (.int .i64 x.o), .d (.int .i64 x.t), .d (.int .i64 x.v), .d (.str x.nm), .d (.slice (encX x.args))]⟩), (1, ⟨1, false, [.d (.int .i64 0), .d (.int .i64 0), .d (.int .i64 0), .d (.int .i64 0), .d (.str []), .full []]⟩), (2, ⟨2, false, (List.replicate x.args.length zXc).flatten⟩)], 3, 3, 0, []⟩) rfl ?_
  rotate_left
  all_goals
   clear h3 hv
   apply WP.loop' (I := fun D s => ∃ (j c' : Nat) (hp' : Hp), j + D = x.args.length ∧ hp'.get 0 = some ⟨0, false, [.d (.int .i64 x.k), .d (.int .i64 x.o), .d (.int .i64 x.t), .d (.int .i64 x.v), .d (.str x.nm), .d (.slice (encX x.args))]⟩ ∧ hp'.get 1 = some ⟨1, false, [.d (.int .i64 0), .d (.int .i64 0), .d (.int .i64 0), .d (.int .i64 0), .d (.str []), .full []]⟩ ∧ hp'.get 2 = some ⟨2, false, hfX x.args j⟩ ∧
    s = ⟨[(1, dS []), (2, dS []), (3, .ptr 0 0 0), (6, .ptr 1 1 0), (7, .osl 2 2 0 x.args.length 6 (some x.args.length)), (25, dL (encX x.args)), (26, dI x.args.length), (27, dI j)], hp', 3, c', 0, []⟩) (d := x.args.length)
   ·exact ⟨0, _, _, by simp, rfl, rfl, by simp [hfX, fl, encX_map], st_eq (by simp [dI, dL, dS]) rfl⟩
   rintro D _ ⟨j, c', hp', hj, h0, h1, h2, rfl⟩
   refine wk (jn @dI.eq_1 (jn @dL.eq_1 @dS.eq_1)) ?_
   show WP _ _ _ _ _ _
   refine WP.cond _ rfl (fun hb => ?_) (fun hb => ?_)
   ·simp at hb
    have hb' : j < x.args.length := by omega
    obtain ⟨y, hy, hym, hix⟩ := at_lt hb'
    have hy' := encX_at hy
    have hw := w_succ hb' (by omega)
    have hms := mem_szX hym
    have ih := rename56 N y (by omega) (by omega)
    simp only [aG, X.cells_eq, List.map_cons, List.map_nil, dS] at ih
    have hl2 := hfX_len x.args (j := j) (by omega)
    have hst := hfX_step hy
    simp only [X.cells_eq, List.map_cons, List.map_nil, List.cons_append, List.nil_append] at hst
    have hle : Nat.ble (j * 6 + 6) (x.args.length * 6) = true := by rw [Nat.ble_eq]; omega
    refine wkc (jn @dI.eq_1 (jn @dL.eq_1 (jn @dS.eq_1 (jn @hix (jn @hy' (jn @X.cells_eq (jn @ih (jn @hl2 (jn @hst (jn @hle (jn @h0 (jn @h1 (jn @h2 (jn @fillV.eq_1 @fillV.eq_2)))))))))))))) ?_
    refine loop_next (by simp [hw]; exact Is.rfl) ?_
    exact ⟨D - 1, by omega, j + 1, _, _, by omega, by simp [h0], by simp [h1], by simp, st_eq (by simp [dI, dL, dS, hw]) rfl⟩
   ·simp at hb
    have hje : j = x.args.length := by omega
    rw [hje, hfX_done] at h2
    have hcl := fun a b => toD_fl (cap := some x.args.length) (id := 2) (g := 2) (ro := false) (look := ((hp'.set 0 a).set 1 b).get) (encX_row x.args) (by simp; exact h2)
    rw [encX_len] at hcl
    refine wkc (jn @dI.eq_1 (jn @dL.eq_1 (jn @dS.eq_1 (jn @h0 (jn @h1 (jn @h2 (jn @fillV.eq_1 @fillV.eq_2))))))) ?_
    refine ⟨.inr rfl, [.agg [.d (.int .i64 x.k), .d (.int .i64 x.o), .d (.int .i64 x.t), .d (.int .i64 x.v), .d (.str x.nm), .osl 2 2 0 x.args.length 6 (some x.args.length)]], [2], ?_, close_agg6 (hcl _ _)⟩
    show resultsV Tryz.prog _ [_] = _
    simp [resultsV, resultV]
end Go.Ac
end
