/- The abstract machine: walking through a loop over a map, in any order. No conditions. -/
import Derived.Test.YtmjkclonkhempabGreatDoorEnFM
import Derived.WalkKit
import Derived.ProofKit
import Derived.OpenShut
import Derived.JoinedCond
import Derived.Below
import Derived.Deep.DeepHandedRow
import Derived.Lib.LaidTab
set_option linter.unusedVariables false
set_option linter.unusedSimpArgs false
section
set_option maxRecDepth 4000
namespace Go.Ac
open Go.Proofs
attribute [local simp] Hp.get_set Ag_set Ag_refl Ag_trunc get_trunc_lt
theorem fl_I_map : ∀ l : List Int, fl (encI l) = l.map fun s => V.d (.int .i64 s) := fun l => by unfold fl encI; simp [List.flatten_eq_flatMap, List.flatMap_map]; induction l <;> simp_all
theorem fl_I_at {l : List Int} {j : Nat} {x : Int} (h : l[j]? = some x) : (fl (encI l))[j]? = some (.d (.int .i64 x)) := by rw [fl_I_map, List.getElem?_map, h]; rfl
theorem rzF_bd {cl : List Cl} {R : List Int} {B : Int} (hB : 0 ≤ B) : ∀ (l : List Ii) (m : Int), (∀ d, d ∈ l → 0 ≤ R.getD (clX cl d.cl) 0) → 0 ≤ m → 0 ≤ rzF B cl R m l ∧ rzF B cl R m l ≤ max m B
 | [], m, _, h => ⟨h, Int.le_max_left ..⟩
 | d :: r, m, hR, h => by
  have h1 := hR d (List.mem_cons_self ..)
  have : rzF B cl R m (d :: r) = rzF B cl R (min (m + R.getD (clX cl d.cl) 0) B) r := rfl
  rw [this]
  have := rzF_bd hB r (min (m + R.getD (clX cl d.cl) 0) B) (fun d hd => hR d (List.mem_cons_of_mem _ hd)) (by omega)
  omega
theorem kf17 (r : Nat) : Ob.keep 17 r = Ob.k17 r := by kernel_rfl
attribute [local simp] kf17 Ob.k17
set_option maxHeartbeats 8000000 in
theorem rsizes17 (o : Oc) (hsz : o.sz ≤ 2097152) (hck : checkRef o = 0) : den Tryz.prog Ob.cfg 17 [aG o.cells] = some (dL (encI (rzL 16385 o.cl o.cl))) := by
 have k2 := len_szC o.cl
 unfold Oc.sz at hsz
 refine den_wp Tryz.func17 rfl (by kernel_rfl) rfl rfl ?_
 refine wkcv (jn @envOf.eq_1 (jn @envOf.eq_2 (jn @dL.eq_1 (jn @aG.eq_1 @Oc.cells.eq_1)))) ?_
 apply WP.loop' (I := fun D st => ∃ (k g c' : Nat) (hp' : Hp) (L : List Int), k + D = o.cl.length ∧ L = rzL 16385 o.cl (o.cl.take k) ∧ hp'.get 0 = some ⟨0, false, [V.d (.slice (encE o.en)), V.d (.slice (encC o.cl))]⟩ ∧ hp'.get 1 = some ⟨g, false, fl (encI L)⟩ ∧
  st = ⟨[(1, .ptr 0 0 0), (3, .osl 1 g 0 k 1 none), (4, dI k)], hp', 2, c', 0, []⟩) (d := o.cl.length)
 ·exact ⟨0, _, _, _, [], by simp, by simp [rzL], by simp, by simp [fl, encI]; rfl, st_eq (by simp [dI, dL]) rfl⟩
 rintro D _ ⟨k, g, c', hp', L, hk, hL, h0, h1, rfl⟩
 refine wkv (jn @dI.eq_1 (jn @dL.eq_1 (jn @h0 @encC_len))) ?_
 show WP _ _ _ _ _ _
 refine WP.cond _ rfl (fun hb => ?_) (fun hb => ?_)
 ·simp at hb
  have hb' : k < o.cl.length := by omega
  obtain ⟨c, hc, hcm, hix⟩ := at_lt hb'
  have hc' := encC_at hc
  have hw := w_succ hb' (by omega)
  have hcs := mem_szC hcm
  unfold Cl.sz at hcs
  have l4 := len_szM c.mems
  have l5 := len_szJ c.ins
  have htk := take_snoc hc
  have hLl : L.length = k := by rw [hL, rzL_len, List.length_take]; omega
  have hget : ∀ d, d ∈ c.ins → ∃ j', j' < k ∧ ixP (fun e : Cl => decide (e.nm = d.cl)) o.cl = j' ∧ clX o.cl d.cl = j' ∧ L[j']? = some (L.getD j' 0) ∧ 0 ≤ L.getD j' 0 ∧ L.getD j' 0 ≤ 16385 := fun d hd => by
   obtain ⟨j', hj, e1, e2⟩ := ins_ix hck hc d hd
   refine ⟨j', hj, e1, clX_ix e1, ?_, ?_⟩
   ·rw [List.getD_eq_getElem?_getD, List.getElem?_eq_getElem (by omega)]; rfl
   ·have := rzL_cap hck (B := 16385) (by omega) k (by omega) j' _ hj e2
    rw [← hL] at this
    have h2 := tz_nn o (findC o.cl d.cl).1.nm
    rw [this]; omega
  refine wkcv (jn @dI.eq_1 (jn @dL.eq_1 (jn @h0 (jn @hix (jn @hc' (jn @Cl.cells.eq_1 @encM_len)))))) ?_
  apply WP.loop' (I := fun D2 st => ∃ (j c2 : Nat) (hp2 : Hp), j + D2 = c.ins.length ∧ hp2.get 0 = some ⟨0, false, [V.d (.slice (encE o.en)), V.d (.slice (encC o.cl))]⟩ ∧ hp2.get 1 = some ⟨g, false, fl (encI L)⟩ ∧
   st = ⟨[(1, .ptr 0 0 0), (3, .osl 1 g 0 k 1 none), (4, dI k), (5, dI (rzF 16385 o.cl L c.mems.length (c.ins.take j))), (6, dI j)], hp2, 2, c2, 0, []⟩) (d := c.ins.length)
  ·exact ⟨0, _, _, by simp, h0, h1, st_eq (by simp [dI, dL, rzF]) rfl⟩
  rintro D2 _ ⟨j, c2, hp2, hj, h2, h3, rfl⟩
  refine wkv (jn @dI.eq_1 (jn @dL.eq_1 (jn @h2 (jn @hix (jn @hc' (jn @Cl.cells.eq_1 @encJ_len)))))) ?_
  show WP _ _ _ _ _ _
  refine WP.cond _ rfl (fun hb => ?_) (fun hb => ?_)
  ·simp at hb
   have hb2 : j < c.ins.length := by omega
   obtain ⟨d, hd, hdm, hix2⟩ := at_lt hb2
   have hd' := encJ_at hd
   have hw2 := w_succ hb2 (by omega)
   have htk2 := take_snoc hd
   obtain ⟨j', hj', e1, e2, e3, e4, e5⟩ := hget d hdm
   have hf := find16 o d.cl (by unfold MX; omega)
   rw [e1] at hf
   have hix3 := idx_lt hj'
   have hfa := fl_I_at e3
   have hbd := rzF_bd (B := 16385) (by omega) (c.ins.take j) c.mems.length (fun e he => by obtain ⟨i, _, _, a, _, b, _⟩ := hget e (List.mem_of_mem_take he); rw [a]; exact b) (by omega)
   have e6 := w_id' (n := rzF 16385 o.cl L c.mems.length (c.ins.take j) + L.getD j' 0) (by omega) (by omega)
   have e7 := rzF_snoc 16385 o.cl L c.mems.length (c.ins.take j) d
   rw [← htk2, e2] at e7
   generalize L.getD j' 0 = v at e3 e4 e5 hfa e6 e7
   simp only [aG, Oc.cells, List.map_cons, List.map_nil, dI, dS] at hf
   repeat (first
 | apply WP.seq
 | (apply WP.reg; (case hR => dsimp only [prepL, prepO, List.map, gS, gZ]; exact iZ); (case hr => (repeat (first
 | (apply RT.op; simp [dI, dL, h2, h3, hix, hc', Cl.cells, hix2, hd', Ii.cells, hf, hix3, hfa, e6, maxV, maxI, min_ite]; exact iZ; (try dsimp only [putEnv]) <;> exact rfl)
 | (apply RT.call; (iterate 2 simp; exact iZ); exact iZ; (iterate 4 simp [dI, dL, h2, h3, hix, hc', Cl.cells, hix2, hd', Ii.cells, hf, hix3, hfa, e6, maxV, maxI, min_ite]; exact iZ); simp [Is]; (try dsimp only [putEnv]) <;> exact rfl; simp; exact iZ; simp; exact iZ)
 | (apply RT.callV; (iterate 2 simp; exact iZ); exact iZ; (iterate 3 simp [dI, dL, h2, h3, hix, hc', Cl.cells, hix2, hd', Ii.cells, hf, hix3, hfa, e6, maxV, maxI, min_ite]; exact iZ); (try dsimp only [putEnv]) <;> exact rfl)
 | (apply RT.wr; simp [dI, dL, h2, h3, hix, hc', Cl.cells, hix2, hd', Ii.cells, hf, hix3, hfa, e6, maxV, maxI, min_ite]; exact iZ; (try dsimp only [putEnv]) <;> exact rfl; simp [dI, dL, h2, h3, hix, hc', Cl.cells, hix2, hd', Ii.cells, hf, hix3, hfa, e6, maxV, maxI, min_ite]; exact iZ; (iterate 2 exact iZ); simp; exact iZ))); exact RT.nil); (case hc => first | (refine checkR_un [(0, 1), (0, 2), (1, 2), (0, 3), (1, 3), (2, 3), (0, 4), (1, 4), (2, 4), (0, 5), (1, 5), (2, 5), (3, 5), (4, 5), (0, 6), (1, 6), (2, 6), (0, 7), (1, 7), (2, 7), (0, 8), (1, 8), (2, 8), (0, 9), (1, 9), (2, 9), (3, 9), (4, 9), (5, 9), (6, 9), (7, 9), (8, 9), (0, 10), (1, 10), (2, 10), (0, 11), (1, 11), (2, 11), (0, 12), (1, 12), (2, 12), (0, 13), (1, 13), (0, 14), (0, 15)] (by kernel_rfl) (by kernel_rfl) rfl ?_; simp [memA, disj, nbeq_dec]; done) | (show _ = _; kernel_rfl)); (case ht => simp [dI, dL, h2, h3, hix, hc', Cl.cells, hix2, hd', Ii.cells, hf, hix3, hfa, e6, maxV, maxI, min_ite]; exact iZ))
 | apply WP.block | apply WP.skip | apply WP.exit | apply WP.ret | refine WP.condT rfl ?_ | refine WP.condF rfl ?_)
   refine loop_next (by simp [hw2]; exact Is.rfl) ?_
   exact ⟨D2 - 1, by omega, j + 1, _, _, by omega, by simp [h2], by simp [h3], st_eq (by simp [dI, dL, hw2, e7]) rfl⟩
  ·simp at hb
   have hje : j = c.ins.length := by omega
   rw [hje, List.take_length]
   have r2 := fl_len (encI_row L)
   have r3 := fl_take (encI_row L)
   have r4 := fl_snoc (encI L) [.int .i64 (min (rzF 16385 o.cl L c.mems.length c.ins) 16385)]
   have r5 := encI_snoc L (min (rzF 16385 o.cl L c.mems.length c.ins) 16385)
   have f5 : fitsB (k + 1) 8 = true := by simp [fitsB]; omega
   rw [r5] at r4
   rw [encI_len, hLl, Nat.mul_one] at r2 r3
   simp only [List.map_cons, List.map_nil] at r4
   have hLs : rzL 16385 o.cl (o.cl.take (k + 1)) = L ++ [min (rzF 16385 o.cl L c.mems.length c.ins) 16385] := by rw [htk, rzL_snoc, ← hL]
   refine wkcv (jn @dI.eq_1 (jn @dL.eq_1 (jn @h2 (jn @h3 (jn @maxV.eq_def (jn @maxI.eq_1 (jn @maxI.eq_2 (jn @maxI.eq_3 (jn @maxI.eq_4 (jn @min_ite (jn @fillV.eq_1 (jn @fillV.eq_2 (jn @closeParts.eq_1 (jn @closeParts.eq_2 (jn @cl2.eq_def (jn @toD_dep (jn @toD_d (jn @nble_d (jn @f5 (jn @r2 (jn @r3 @r4))))))))))))))))))))) ?_
   refine loop_next (by simp [hw]; exact Is.rfl) ?_
   exact ⟨D - 1, by omega, k + 1, _, _, _, _, by omega, hLs.symm, by simp [h2], by simp; rfl, st_eq (by simp [dI, dL, hw]) rfl⟩
 ·simp at hb
  have hke : k = o.cl.length := by omega
  rw [hke, List.take_length] at hL
  have hLl : L.length = o.cl.length := by rw [hL, rzL_len]
  refine wkcv (jn @dI.eq_1 @dL.eq_1) ?_
  have hcl := close_fl (look := hp'.get) (id := 1) (g := g) (ro := false) (cap := none) (encI_row L) h1
  rw [encI_len, hLl, ← hke] at hcl
  refine ⟨.inr rfl, _, [1], rfl, ?_⟩
  show closeT hp'.get (.osl 1 g 0 k 1 none) = _
  rw [hcl, hL]
theorem kf20 (r : Nat) : Ob.keep 20 r = Ob.k20 r := by kernel_rfl
attribute [local simp] kf20 Ob.k20
set_option maxHeartbeats 8000000 in
theorem roffset20 (o : Oc) (hsz : o.sz ≤ 2097152) (hck : checkRef o = 0) {i : Nat} {c : Cl} (hi : o.cl[i]? = some c) (m : Nat) (hm : m ≤ c.ins.length) (hB : tzI o c.mems.length (c.ins.take m) ≤ 16385) : den Tryz.prog Ob.cfg 20 [aG o.cells, dI i, dI m] = some (dI (tzI o c.mems.length (c.ins.take m))) := by
 have k2 := len_szC o.cl
 have h17 := rsizes17 o hsz hck
 have hRl : (rzL 16385 o.cl o.cl).length = o.cl.length := rzL_len _ _ _
 unfold Oc.sz at hsz
 obtain ⟨_, _, hcm, hix⟩ := at_lt (List.getElem?_eq_some_iff.1 hi).1
 have hc' := encC_at hi
 have hcs := mem_szC (List.mem_of_getElem? hi)
 unfold Cl.sz at hcs
 have l4 := len_szM c.mems
 have l5 := len_szJ c.ins
 have hex : ∀ j, j ≤ m → roF (rzL 16385 o.cl o.cl) o.cl c.mems.length (c.ins.take j) = tzI o c.mems.length (c.ins.take j) ∧ 0 ≤ tzI o c.mems.length (c.ins.take j) ∧ tzI o c.mems.length (c.ins.take j) ≤ 16385 := fun j hj => by
  have hsp := tzI_app o c.mems.length (c.ins.take j) ((c.ins.take m).drop j)
  rw [show c.ins.take j = (c.ins.take m).take j by rw [List.take_take, Nat.min_eq_left hj], List.take_append_drop] at hsp
  have hge := tzI_ge o ((c.ins.take m).drop j) (tzI o c.mems.length ((c.ins.take m).take j))
  rw [← hsp, List.take_take, Nat.min_eq_left hj] at hge
  have hge2 := tzI_ge o (c.ins.take j) c.mems.length
  exact ⟨roF_exact hck (by omega) hi _ _ (fun d hd => List.mem_of_mem_take hd) (by omega) (by omega), by omega, by omega⟩
 simp only [aG, Oc.cells, List.map_cons, List.map_nil, dL] at h17
 refine den_wp Tryz.func20 rfl (by kernel_rfl) rfl rfl ?_
 refine wkcv (jn @envOf.eq_1 (jn @envOf.eq_2 (jn @dI.eq_1 (jn @dL.eq_1 (jn @aG.eq_1 (jn @Oc.cells.eq_1 (jn @h17 (jn @hix (jn @hc' (jn @Cl.cells.eq_1 @encM_len)))))))))) ?_
 apply WP.loop' (I := fun D st => ∃ (j c' : Nat) (hp' : Hp), j + D = m ∧ hp'.get 0 = some ⟨0, false, [V.d (.slice (encE o.en)), V.d (.slice (encC o.cl))]⟩ ∧
  st = ⟨[(1, dI i), (2, dI m), (3, .ptr 0 0 0), (7, dL (encI (rzL 16385 o.cl o.cl))), (8, dI (tzI o c.mems.length (c.ins.take j))), (9, dI j)], hp', 1, c', 0, []⟩) (d := m)
 ·exact ⟨0, _, _, by simp, by simp, st_eq (by simp [dI, dL, tzI]) rfl⟩
 rintro D _ ⟨j, c', hp', hj, h0, rfl⟩
 refine wkv (jn @dI.eq_1 (jn @dL.eq_1 @h0)) ?_
 show WP _ _ _ _ _ _
 refine WP.cond _ rfl (fun hb => ?_) (fun hb => ?_)
 ·simp at hb
  have hb2 : j < c.ins.length := by omega
  obtain ⟨d, hd, hdm, hix2⟩ := at_lt hb2
  have hd' := encJ_at hd
  have hw2 := w_succ hb2 (by omega)
  have htk2 := take_snoc hd
  obtain ⟨j', hj', e1, e2⟩ := ins_ix hck hi d hdm
  have hf := find16 o d.cl (by unfold MX; omega)
  rw [e1] at hf
  have hjl := (List.getElem?_eq_some_iff.1 e2).1
  have hix3 := idx_lt (i := j') (n := (rzL 16385 o.cl o.cl).length) (by rw [hRl]; exact hjl)
  have e3 : (rzL 16385 o.cl o.cl)[j']? = some ((rzL 16385 o.cl o.cl).getD j' 0) := by rw [List.getD_eq_getElem?_getD, List.getElem?_eq_getElem (by omega)]; rfl
  have hfa := encI_at e3
  obtain ⟨a1, a2, a3⟩ := hex j (by omega)
  obtain ⟨b1, b2, b3⟩ := hex (j + 1) (by omega)
  rw [htk2, roF_snoc, a1, clX_ix e1, ← htk2] at b1
  have e6 := w_id' (n := tzI o c.mems.length (c.ins.take j) + (rzL 16385 o.cl o.cl).getD j' 0) (by omega) (by omega)
  rw [b1] at e6
  have e6' : IntKind.i64.wrap (tzI o c.mems.length (c.ins.take j) + (rzL 16385 o.cl o.cl).getD j' 0) = tzI o c.mems.length (c.ins.take (j + 1)) := by rw [b1]; exact e6
  generalize (rzL 16385 o.cl o.cl).getD j' 0 = v at e3 hfa e6' b1 e6
  simp only [aG, Oc.cells, List.map_cons, List.map_nil, dI, dS] at hf
  repeat (first
 | apply WP.seq
 | (apply WP.reg; (case hR => dsimp only [prepL, prepO, List.map, gS, gZ]; exact iZ); (case hr => (repeat (first
 | (apply RT.op; simp [dI, dL, h0, hix, hc', Cl.cells, hix2, hd', Ii.cells, hf, hix3, hfa, e6']; exact iZ; (try dsimp only [putEnv]) <;> exact rfl)
 | (apply RT.call; (iterate 2 simp; exact iZ); exact iZ; (iterate 4 simp [dI, dL, h0, hix, hc', Cl.cells, hix2, hd', Ii.cells, hf, hix3, hfa, e6']; exact iZ); simp [Is]; (try dsimp only [putEnv]) <;> exact rfl; simp; exact iZ; simp; exact iZ)
 | (apply RT.callV; (iterate 2 simp; exact iZ); exact iZ; (iterate 3 simp [dI, dL, h0, hix, hc', Cl.cells, hix2, hd', Ii.cells, hf, hix3, hfa, e6']; exact iZ); (try dsimp only [putEnv]) <;> exact rfl)
 | (apply RT.wr; simp [dI, dL, h0, hix, hc', Cl.cells, hix2, hd', Ii.cells, hf, hix3, hfa, e6']; exact iZ; (try dsimp only [putEnv]) <;> exact rfl; simp [dI, dL, h0, hix, hc', Cl.cells, hix2, hd', Ii.cells, hf, hix3, hfa, e6']; exact iZ; (iterate 2 exact iZ); simp; exact iZ))); exact RT.nil); (case hc => first | (refine checkR_un [(0, 1), (0, 2), (1, 2), (0, 3), (1, 3), (2, 3), (0, 4), (1, 4), (2, 4), (0, 5), (1, 5), (2, 5), (3, 5), (4, 5), (0, 6), (1, 6), (2, 6), (0, 7), (1, 7), (2, 7), (0, 8), (1, 8), (2, 8), (0, 9), (1, 9), (2, 9), (3, 9), (4, 9), (5, 9), (6, 9), (7, 9), (8, 9), (0, 10), (1, 10), (2, 10), (0, 11), (1, 11), (2, 11), (0, 12), (1, 12), (2, 12), (0, 13), (1, 13), (0, 14), (0, 15)] (by kernel_rfl) (by kernel_rfl) rfl ?_; simp [memA, disj, nbeq_dec]; done) | (show _ = _; kernel_rfl)); (case ht => simp [dI, dL, h0, hix, hc', Cl.cells, hix2, hd', Ii.cells, hf, hix3, hfa, e6']; exact iZ))
 | apply WP.block | apply WP.skip | apply WP.exit | apply WP.ret | refine WP.condT rfl ?_ | refine WP.condF rfl ?_)
  refine loop_next (by simp [hw2]; exact Is.rfl) ?_
  exact ⟨D - 1, by omega, j + 1, _, _, by omega, by simp [h0], st_eq (by simp [dI, dL, hw2]) rfl⟩
 ·simp at hb
  have hje : j = m := by omega
  subst hje
  refine wkcv (jn @dI.eq_1 @dL.eq_1) ?_
  show retQ _ _ _ _ _
  exact ⟨.inr rfl, _, _, rfl, rfl⟩
theorem kf7 (r : Nat) : Ob.keep 7 r = Ob.k7 r := by kernel_rfl
attribute [local simp] kf7 Ob.k7
set_option maxHeartbeats 4000000 in
theorem rsize7 (o : Oc) (nm : Tx) (hsz : o.sz ≤ 2097152) (hok : o.ok) : den Tryz.prog Ob.cfg 7 [aG o.cells, dS nm] = some (.tuple [dI (siS o nm).1, dI (siS o nm).2]) := by
 have hck := rcheck_den o hsz hok
 have k2 := len_szC o.cl
 have hsz' := hsz
 unfold Oc.sz at hsz'
 have hf := find16 o nm (by unfold MX; omega)
 refine den_wp Tryz.func7 rfl (by kernel_rfl) rfl rfl ?_
 unfold siS
 by_cases c1 : checkRef o = 0
 case neg =>
  rw [if_pos c1]
  have c1' := eq_false c1
  simp only [aG, Oc.cells, List.map_cons, List.map_nil, dI, dS] at hck
  refine wkcv (jn @envOf.eq_1 (jn @envOf.eq_2 (jn @aG.eq_1 (jn @Oc.cells.eq_1 (jn @dL.eq_1 (jn @dS.eq_1 (jn @dI.eq_1 (jn @hck (jn @int_bne (jn @int_beq @c1')))))))))) ?_
  show retQ _ _ _ _ _
  exact ⟨.inr rfl, _, _, rfl, rfl⟩
 rw [if_neg (by simp [c1])]
 have h17 := rsizes17 o hsz c1
 rw [c1] at hck
 by_cases c2 : ixP (fun d : Cl => decide (d.nm = nm)) o.cl < 0
 ·rw [if_pos c2]
  have c2' := eq_true c2
  simp only [aG, Oc.cells, List.map_cons, List.map_nil, dI, dS] at hck hf
  refine wkcv (jn @envOf.eq_1 (jn @envOf.eq_2 (jn @aG.eq_1 (jn @Oc.cells.eq_1 (jn @dL.eq_1 (jn @dS.eq_1 (jn @dI.eq_1 (jn @hck (jn @hf (jn @int_bne (jn @int_beq @c2'))))))))))) ?_
  show retQ _ _ _ _ _
  exact ⟨.inr rfl, _, _, rfl, rfl⟩
 rw [if_neg c2]
 obtain ⟨j, c, hj, hc, hcn, _⟩ := ixP_at c2
 have hcn : c.nm = nm := by simpa using hcn
 have hjl := (List.getElem?_eq_some_iff.1 hc).1
 have hRl : (rzL 16385 o.cl o.cl).length = o.cl.length := rzL_len _ _ _
 have hcap := rzL_cap c1 (B := 16385) (by omega) o.cl.length (Nat.le_refl _) j c hjl hc
 rw [List.take_length, hcn] at hcap
 have hnn := tz_nn o nm
 have e3 : (rzL 16385 o.cl o.cl)[j]? = some (min (tz o nm) 16385) := by rw [← hcap, List.getD_eq_getElem?_getD, List.getElem?_eq_getElem (by omega)]; rfl
 have hfa := encI_at e3
 have hix3 := idx_lt (i := j) (n := (rzL 16385 o.cl o.cl).length) (by rw [hRl]; exact hjl)
 rw [hj] at hf
 have c2' : ((j : Int) < 0) = False := eq_false (by omega)
 simp only [aG, Oc.cells, List.map_cons, List.map_nil, dI, dS, dL] at hck hf h17
 by_cases c3 : 16384 < tz o nm
 ·rw [if_pos c3]
  have c3' : (16384 < min (tz o nm) 16385) = True := eq_true (by omega)
  refine wkcv (jn @envOf.eq_1 (jn @envOf.eq_2 (jn @aG.eq_1 (jn @Oc.cells.eq_1 (jn @dL.eq_1 (jn @dS.eq_1 (jn @dI.eq_1 (jn @hck (jn @hf (jn @h17 (jn @int_bne (jn @int_beq (jn @c2' (jn @hix3 (jn @hfa @c3'))))))))))))))) ?_
  show retQ _ _ _ _ _
  exact ⟨.inr rfl, _, _, rfl, rfl⟩
 ·rw [if_neg c3]
  have hmin : min (tz o nm) 16385 = tz o nm := by omega
  rw [hmin] at hfa
  have c3' := eq_false c3
  refine wkcv (jn @envOf.eq_1 (jn @envOf.eq_2 (jn @aG.eq_1 (jn @Oc.cells.eq_1 (jn @dL.eq_1 (jn @dS.eq_1 (jn @dI.eq_1 (jn @hck (jn @hf (jn @h17 (jn @int_bne (jn @int_beq (jn @c2' (jn @hix3 (jn @hfa @c3'))))))))))))))) ?_
  show retQ _ _ _ _ _
  exact ⟨.inr rfl, _, _, rfl, rfl⟩
theorem kf9 (r : Nat) : Ob.keep 9 r = Ob.k9 r := by kernel_rfl
attribute [local simp] kf9 Ob.k9
set_option maxHeartbeats 8000000 in
theorem roffset9 (o : Oc) (nm inst : Tx) (hsz : o.sz ≤ 2097152) (hok : o.ok) : den Tryz.prog Ob.cfg 9 [aG o.cells, dS nm, dS inst] = some (.tuple [dI (ofS o nm inst).1, dI (ofS o nm inst).2]) := by
 have h7 := rsize7 o nm hsz hok
 have k2 := len_szC o.cl
 have hsz' := hsz
 unfold Oc.sz at hsz'
 have hf := find16 o nm (by unfold MX; omega)
 refine den_wp Tryz.func9 rfl (by kernel_rfl) rfl rfl ?_
 unfold siS at h7
 unfold ofS
 by_cases c1 : checkRef o = 0
 case neg =>
  rw [if_pos c1] at h7 ⊢
  have c1' := eq_false c1
  by_cases c9 : checkRef o = 3
  ·exact absurd c9 (checkRef_no3 o)
  have c9' := eq_false c9
  simp only [aG, Oc.cells, List.map_cons, List.map_nil, dI, dS] at h7
  refine wkcv (jn @envOf.eq_1 (jn @envOf.eq_2 (jn @aG.eq_1 (jn @Oc.cells.eq_1 (jn @dL.eq_1 (jn @dS.eq_1 (jn @dI.eq_1 (jn @h7 (jn @int_bne (jn @int_beq (jn @c1' @c9'))))))))))) ?_
  show retQ _ _ _ _ _
  exact ⟨.inr rfl, _, _, rfl, rfl⟩
 rw [if_neg (by simp [c1])] at h7 ⊢
 by_cases c2 : ixP (fun d : Cl => decide (d.nm = nm)) o.cl < 0
 ·rw [if_pos c2] at h7
  rw [ixP_not c2]
  simp only [aG, Oc.cells, List.map_cons, List.map_nil, dI, dS] at h7
  refine wkcv (jn @envOf.eq_1 (jn @envOf.eq_2 (jn @aG.eq_1 (jn @Oc.cells.eq_1 (jn @dL.eq_1 (jn @dS.eq_1 (jn @dI.eq_1 (jn @h7 (jn @int_bne @int_beq))))))))) ?_
  show retQ _ _ _ _ _
  exact ⟨.inr rfl, _, _, rfl, rfl⟩
 rw [if_neg c2] at h7
 obtain ⟨j, c, hj, hc, hcn, hfd⟩ := ixP_at c2
 rw [hfd]
 rw [hj] at hf
 have hcn : c.nm = nm := by simpa using hcn
 have hjl := (List.getElem?_eq_some_iff.1 hc).1
 obtain ⟨_, _, hcm, hix⟩ := at_lt hjl
 have hc' := encC_at hc
 have hcs := mem_szC (List.mem_of_getElem? hc)
 unfold Cl.sz at hcs
 have l5 := len_szJ c.ins
 have htz := tz_at c1 hc
 rw [hcn] at htz
 -- what Size has given
 obtain ⟨e, s, hes, hee⟩ : ∃ e s : Int, (if 16384 < tz o nm then ((0 : Int), (3 : Int)) else (tz o nm, 0)) = (s, e) ∧ ((e = 0 ∧ ¬ 16384 < tz o nm) ∨ (e = 3 ∧ 16384 < tz o nm)) := by
  by_cases q : 16384 < tz o nm
  ·exact ⟨3, 0, by rw [if_pos q], .inr ⟨rfl, q⟩⟩
  ·exact ⟨0, tz o nm, by rw [if_neg q], .inl ⟨rfl, q⟩⟩
 rw [hes] at h7
 simp only [aG, Oc.cells, List.map_cons, List.map_nil, dI, dS] at h7 hf
 have fin : ∀ (i : Nat) (d : Ii), c.ins[i]? = some d → d.nm = inst → (c.ins.take i).all (fun d : Ii => !decide (d.nm = inst)) = true → (if ixP (fun d : Ii => decide (d.nm = inst)) c.ins < 0 then ((0 : Int), (6 : Int)) else if 16384 < tz o nm then (0, 3) else (tzI o c.mems.length (c.ins.take (ixP (fun d : Ii => decide (d.nm = inst)) c.ins).toNat), 0)) = if 16384 < tz o nm then (0, 3) else (tzI o c.mems.length (c.ins.take i), 0) := fun i d hd hq hno => by
  rw [ixP_some hno hd (decide_eq_true hq), if_neg (by omega)]; rfl
 have finn : (c.ins).all (fun d : Ii => !decide (d.nm = inst)) = true → (if ixP (fun d : Ii => decide (d.nm = inst)) c.ins < 0 then ((0 : Int), (6 : Int)) else if 16384 < tz o nm then (0, 3) else (tzI o c.mems.length (c.ins.take (ixP (fun d : Ii => decide (d.nm = inst)) c.ins).toNat), 0)) = (0, 6) := fun hno => by
  rw [ixP_none hno, if_pos (by omega)]
 simp only
 generalize hR : (if ixP (fun d : Ii => decide (d.nm = inst)) c.ins < 0 then ((0 : Int), (6 : Int)) else if 16384 < tz o nm then (0, 3) else (tzI o c.mems.length (c.ins.take (ixP (fun d : Ii => decide (d.nm = inst)) c.ins).toNat), 0)) = R at fin finn ⊢
 rcases hee with ⟨h, htzn⟩ | ⟨h, htzn⟩
 all_goals subst h
 ·refine wkcv (jn @envOf.eq_1 (jn @envOf.eq_2 (jn @aG.eq_1 (jn @Oc.cells.eq_1 (jn @dL.eq_1 (jn @dS.eq_1 (jn @dI.eq_1 (jn @h7 (jn @hf (jn @int_bne @int_beq)))))))))) ?_
  apply WP.loop' (I := fun D st => ∃ (i c' : Nat) (hp' : Hp), i + D = c.ins.length ∧ (c.ins.take i).all (fun d : Ii => !decide (d.nm = inst)) = true ∧ hp'.get 0 = some ⟨0, false, [V.d (.slice (encE o.en)), V.d (.slice (encC o.cl))]⟩ ∧
   st = ⟨[(2, dS inst), (3, .ptr 0 0 0), (9, dI 0), (10, dI j), (11, dI i)], hp', 1, c', 0, []⟩) (d := c.ins.length)
  ·exact ⟨0, _, _, by simp, by simp, by simp, st_eq (by simp [dI, dL, dS]) rfl⟩
  rintro D _ ⟨i, c', hp', hi, hno, h0, rfl⟩
  refine wkv (jn @dI.eq_1 (jn @dL.eq_1 (jn @dS.eq_1 (jn @h0 (jn @hix (jn @hc' (jn @Cl.cells.eq_1 @encJ_len))))))) ?_
  show WP _ _ _ _ _ _
  refine WP.cond _ rfl (fun hb => ?_) (fun hb => ?_)
  ·simp at hb
   have hb2 : i < c.ins.length := by omega
   obtain ⟨d, hd, hdm, hix2⟩ := at_lt hb2
   have hd' := encJ_at hd
   have hw2 := w_succ hb2 (by omega)
   have hs := all_snoc (p := fun d : Ii => !decide (d.nm = inst)) hd
   by_cases hq : d.nm = inst
   ·have hq' := eq_true hq
    rw [fin i d hd hq hno, if_neg htzn]
    have hle : tzI o c.mems.length (c.ins.take i) ≤ 16385 := by
     have hsp := tzI_app o c.mems.length (c.ins.take i) (c.ins.drop i)
     rw [List.take_append_drop, ← htz] at hsp
     have hge := tzI_ge o (c.ins.drop i) (tzI o c.mems.length (c.ins.take i))
     rw [← hsp] at hge
     omega
    have h20 := roffset20 o hsz c1 hc i (by omega) hle
    simp only [aG, Oc.cells, List.map_cons, List.map_nil, dI] at h20
    refine wkcv (jn @dI.eq_1 (jn @dL.eq_1 (jn @dS.eq_1 (jn @h0 (jn @hix (jn @hc' (jn @Cl.cells.eq_1 (jn @hix2 (jn @hd' (jn @Ii.cells.eq_1 (jn @tx_beq (jn @hq' (jn @int_bne (jn @int_beq @h20)))))))))))))) ?_
    show retQ _ _ _ _ _
    exact ⟨.inr rfl, _, _, rfl, rfl⟩
   ·have hq' := eq_false hq
    refine wkcv (jn @dI.eq_1 (jn @dL.eq_1 (jn @dS.eq_1 (jn @h0 (jn @hix (jn @hc' (jn @Cl.cells.eq_1 (jn @hix2 (jn @hd' (jn @Ii.cells.eq_1 (jn @tx_beq (jn @hq' (jn @int_bne @int_beq))))))))))))) ?_
    refine loop_next (by simp [hw2]; exact Is.rfl) ?_
    exact ⟨D - 1, by omega, i + 1, _, _, by omega, by rw [hs, hno, decide_eq_false hq]; rfl, by simp [h0], st_eq (by simp [dI, dL, dS, hw2]) rfl⟩
  ·simp at hb
   have hie : i = c.ins.length := by omega
   rw [hie, List.take_length] at hno
   rw [finn hno]
   refine wkcv (jn @dI.eq_1 (jn @dL.eq_1 @dS.eq_1)) ?_
   show retQ _ _ _ _ _
   exact ⟨.inr rfl, _, _, rfl, rfl⟩
 ·refine wkcv (jn @envOf.eq_1 (jn @envOf.eq_2 (jn @aG.eq_1 (jn @Oc.cells.eq_1 (jn @dL.eq_1 (jn @dS.eq_1 (jn @dI.eq_1 (jn @h7 (jn @hf (jn @int_bne @int_beq)))))))))) ?_
  apply WP.loop' (I := fun D st => ∃ (i c' : Nat) (hp' : Hp), i + D = c.ins.length ∧ (c.ins.take i).all (fun d : Ii => !decide (d.nm = inst)) = true ∧ hp'.get 0 = some ⟨0, false, [V.d (.slice (encE o.en)), V.d (.slice (encC o.cl))]⟩ ∧
   st = ⟨[(2, dS inst), (3, .ptr 0 0 0), (9, dI 3), (10, dI j), (11, dI i)], hp', 1, c', 0, []⟩) (d := c.ins.length)
  ·exact ⟨0, _, _, by simp, by simp, by simp, st_eq (by simp [dI, dL, dS]) rfl⟩
  rintro D _ ⟨i, c', hp', hi, hno, h0, rfl⟩
  refine wkv (jn @dI.eq_1 (jn @dL.eq_1 (jn @dS.eq_1 (jn @h0 (jn @hix (jn @hc' (jn @Cl.cells.eq_1 @encJ_len))))))) ?_
  show WP _ _ _ _ _ _
  refine WP.cond _ rfl (fun hb => ?_) (fun hb => ?_)
  ·simp at hb
   have hb2 : i < c.ins.length := by omega
   obtain ⟨d, hd, hdm, hix2⟩ := at_lt hb2
   have hd' := encJ_at hd
   have hw2 := w_succ hb2 (by omega)
   have hs := all_snoc (p := fun d : Ii => !decide (d.nm = inst)) hd
   by_cases hq : d.nm = inst
   ·have hq' := eq_true hq
    rw [fin i d hd hq hno, if_pos htzn]
    refine wkcv (jn @dI.eq_1 (jn @dL.eq_1 (jn @dS.eq_1 (jn @h0 (jn @hix (jn @hc' (jn @Cl.cells.eq_1 (jn @hix2 (jn @hd' (jn @Ii.cells.eq_1 (jn @tx_beq (jn @hq' (jn @int_bne @int_beq))))))))))))) ?_
    show retQ _ _ _ _ _
    exact ⟨.inr rfl, _, _, rfl, rfl⟩
   ·have hq' := eq_false hq
    refine wkcv (jn @dI.eq_1 (jn @dL.eq_1 (jn @dS.eq_1 (jn @h0 (jn @hix (jn @hc' (jn @Cl.cells.eq_1 (jn @hix2 (jn @hd' (jn @Ii.cells.eq_1 (jn @tx_beq (jn @hq' (jn @int_bne @int_beq))))))))))))) ?_
    refine loop_next (by simp [hw2]; exact Is.rfl) ?_
    exact ⟨D - 1, by omega, i + 1, _, _, by omega, by rw [hs, hno, decide_eq_false hq]; rfl, by simp [h0], st_eq (by simp [dI, dL, dS, hw2]) rfl⟩
  ·simp at hb
   have hie : i = c.ins.length := by omega
   rw [hie, List.take_length] at hno
   rw [finn hno]
   refine wkcv (jn @dI.eq_1 (jn @dL.eq_1 @dS.eq_1)) ?_
   show retQ _ _ _ _ _
   exact ⟨.inr rfl, _, _, rfl, rfl⟩
end Go.Ac
end

section
set_option maxRecDepth 4000
namespace Go.Ac
open Go.Proofs Go.ChangeShapes Go.WideShapes Go.RowKit
open Go.Proofs.YtmjkclonkhempabGreatDoor (Rows.uptoBulk Rows.uptoBulkAll Rows.uptoSmall Rows.laid_synchrony_asm_operations)
section
variable {H : Type} {enc : TypeId × Value → H} {w : World} {sp : Nat → Bool} {held : Bool}
theorem c160 : Tryz.prog.cellsOf 160 = 4 := by kernel_rfl
theorem c162 : Tryz.prog.cellsOf 162 = 6 := by kernel_rfl
theorem c175 : Tryz.prog.cellsOf 175 = 66 := by kernel_rfl
theorem RDs.chunks (sz : Nat) : ∀ (rows : List (List D)) (cs : List Value), cs.length = rows.length * sz → (∀ (i : Nat) r, rows[i]? = some r → RDs w r ((cs.drop (i * sz)).take sz)) → RDs w rows.flatten cs
 | [], cs, hl, _ => by
  have : cs = [] := List.eq_nil_of_length_eq_zero (by simpa using hl)
  subst this
  exact ⟨rfl, fun j d v h _ => by simp at h⟩
 | r :: rows, cs, hl, h => by
  have h0 := h 0 r rfl
  rw [Nat.zero_mul, List.drop_zero] at h0
  have hlen : cs.length = rows.length * sz + sz := by rw [hl, List.length_cons, Nat.add_mul, Nat.one_mul]
  have ih := RDs.chunks sz rows (cs.drop sz) (by rw [List.length_drop]; omega) fun i q hq => by
   have := h (i + 1) q (by simpa using hq)
   rw [List.drop_drop]
   rwa [Nat.add_mul, Nat.one_mul, Nat.add_comm] at this
  have := RDs.app h0 ih
  rwa [List.take_append_drop] at this
/-- One operation's row. -/
theorem row162 {f : Nat} {cs : List Value} {x : DataW H × List MemPlace} (h : DataW.trod enc Tryz.prog w 0 sp held f 162 cs = some x) {s : List UInt8} {a b c d n : Int} (hx : x.1 = .agg [.lit (.string s), .agg [.lit (.int .i64 a), .lit (.int .i64 b), .lit (.int .i64 c), .lit (.int .i64 d)], .lit (.int .i64 n)]) :
  RDs w [.str s, .int .i64 a, .int .i64 b, .int .i64 c, .int .i64 d, .int .i64 n] cs := by
 obtain ⟨ys, m, rfl, rfl, hl, hyl, hy⟩ := DataW.trod_struct Tryz.underlying162 h
 rw [c162] at hl
 match cs, hl with
 | [v0, v1, v2, v3, v4, v5], _ =>
 have hy3 : ys.length = 3 := hyl
 match ys, hy3 with
 | [y0, y1, y2], _ =>
 have h0 := hy 0 _ rfl
 have h1 := hy 1 _ rfl
 have h2 := hy 2 _ rfl
 simp [cz3, cz9, c160] at h0 h1 h2
 obtain ⟨s0, e0, rfl, _⟩ := DataW.trod_string Tryz.underlying9 h0
 obtain ⟨n2, e2, rfl, _⟩ := DataW.trod_int Tryz.underlying3 h2
 obtain ⟨xs, m1, rfl, rfl, hl1, hxl, hx1⟩ := DataW.trod_array Tryz.underlying160 h1
 match xs, hxl with
 | [x0, x1, x2, x3], _ =>
 have g0 := hx1 0 (by omega)
 have g1 := hx1 1 (by omega)
 have g2 := hx1 2 (by omega)
 have g3 := hx1 3 (by omega)
 simp [cz3] at g0 g1 g2 g3
 obtain ⟨m0, q0, rfl, _⟩ := DataW.trod_int Tryz.underlying3 g0
 obtain ⟨m1', q1, rfl, _⟩ := DataW.trod_int Tryz.underlying3 g1
 obtain ⟨m2, q2, rfl, _⟩ := DataW.trod_int Tryz.underlying3 g2
 obtain ⟨m3, q3, rfl, _⟩ := DataW.trod_int Tryz.underlying3 g3
 simp only [List.cons.injEq, and_true] at e0 e2 q0 q1 q2 q3
 subst e0 e2 q0 q1 q2 q3
 simp at hx
 obtain ⟨rfl, ⟨rfl, rfl, rfl, rfl⟩, rfl⟩ := hx
 exact RDs.app (d1 := [_]) (v1 := [_]) (.one (.str _ _ (by simp))) (RDs.app (d1 := [_]) (v1 := [_]) (.one (.int _ _)) (RDs.app (d1 := [_]) (v1 := [_]) (.one (.int _ _)) (RDs.app (d1 := [_]) (v1 := [_]) (.one (.int _ _)) (RDs.app (d1 := [_]) (v1 := [_]) (.one (.int _ _)) (.one (.int _ _))))))
def rowD (p : List UInt8 × Int × Int × Int × Int × Int) : List D := [.str p.1, .int .i64 p.2.1, .int .i64 p.2.2.1, .int .i64 p.2.2.2.1, .int .i64 p.2.2.2.2.1, .int .i64 p.2.2.2.2.2]
def rowW (p : List UInt8 × Int × Int × Int × Int × Int) : DataW H := .agg [.lit (.string p.1), .agg [.lit (.int .i64 p.2.1), .lit (.int .i64 p.2.2.1), .lit (.int .i64 p.2.2.2.1), .lit (.int .i64 p.2.2.2.2.1)], .lit (.int .i64 p.2.2.2.2.2)]
def opsL : List (List UInt8 × Int × Int × Int × Int × Int) := [([], 0, 0, 0, 0, 0), ([108, 111, 97, 100], 1, 3, 0, 0, 0), ([109, 111, 118, 101], 1, 1, 0, 0, 0), ([114, 101, 97, 100], 1, 2, 0, 0, 0), ([119, 114, 105, 116, 101], 2, 1, 0, 0, 0), ([117, 110, 97, 114, 121], 1, 1, 5, 0, 1), ([97, 112, 112, 108, 121], 1, 1, 1, 5, 2), ([106, 117, 109, 112], 0, 4, 0, 0, 0), ([122, 101, 114, 111], 1, 4, 0, 0, 0), ([99, 97, 108, 108], 6, 7, 8, 9, 0), ([114, 101, 115, 101, 116], 6, 7, 0, 0, 0)]
theorem ops_rows : opsTab = (opsL.map rowD).flatten := by rfl
theorem laid_rows : (Go.Proofs.YtmjkclonkhempabGreatDoor.Rows.laid_synchrony_asm_operations : DataW H) = .agg (opsL.map rowW) := by rfl
theorem tab_cells {f : Nat} {cs : List Value} {p : List MemPlace} (h : DataW.trod enc Tryz.prog w 0 sp held f 175 cs = some (Go.Proofs.YtmjkclonkhempabGreatDoor.Rows.laid_synchrony_asm_operations, p)) : RDs w opsTab cs := by
 obtain ⟨xs, m, rfl, hx, hl, hxl, hi⟩ := DataW.trod_array Tryz.underlying175 h
 rw [laid_rows] at hx
 have hx1 : opsL.map rowW = xs.map (·.1) := by
  have := congrArg Prod.fst hx
  simpa using this
 rw [ops_rows]
 refine RDs.chunks 6 _ cs (by rw [hl, c175]; rfl) fun i r hr => ?_
 rw [List.getElem?_map, Option.map_eq_some_iff] at hr
 obtain ⟨q, hq, rfl⟩ := hr
 have hi11 : i < 11 := (List.getElem?_eq_some_iff.1 hq).1
 have h1 := hi i hi11
 rw [c162] at h1
 have h2 : (xs.map (·.1))[i]? = some (rowW q) := by rw [← hx1, List.getElem?_map, hq]; rfl
 rw [List.getElem?_map, Option.map_eq_some_iff] at h2
 obtain ⟨y, hy, hy2⟩ := h2
 rw [hy] at h1
 exact row162 h1 hy2
end
theorem gTab : Tryz.prog.globalNamed "synchrony/asm.operations" = some 0 := by kernel_rfl
theorem gTabType : (Tryz.prog.globals[0]?).map (·.type) = some 175 := by kernel_rfl
/-- What the row's list gives. -/
theorem table {W : World} (h : laidMet Tryz.prog [("synchrony/asm.operations", Go.Proofs.YtmjkclonkhempabGreatDoor.Rows.laid_synchrony_asm_operations)] W) : ∃ cs : List Value, RDs W opsTab cs ∧ ∀ i, W.cell? ⟨0, i, none⟩ = cs[i]? := by
 obtain ⟨ps, ⟨g', t', cs, fuel, p, q, hg', ht', hvar, hd, _, _⟩, _⟩ := h
 obtain rfl := Option.some.inj (gTab.symm.trans hg')
 obtain rfl := Option.some.inj (gTabType.symm.trans ht')
 refine ⟨cs.toList, tab_cells hd, fun i => ?_⟩
 rw [World.var?_cell hg' hvar i]
 simp
theorem noCount : NoCount Tryz.prog := by
 have h : (Tryz.prog.funcs.toList.all fun fn => !(fn.name == "runtime.NumGoroutine")) = true := by kernel_rfl
 intro f fn hf _
 rw [List.all_eq_true] at h
 have := h fn (List.mem_of_getElem? (by rw [Array.getElem?_toList]; exact hf))
 simpa using this
theorem cloneOK : ∀ f p, Ob.cfg.prim f = some p → CloneAt Tryz.prog f p.1 p.2 := by
 intro f p h
 simp only [prim_Ob, Ob.prim] at h
 split at h
 ·simp at h; subst h
  exact CloneAt.of (t := 69) (e := 37) Tryz.func111 rfl rfl rfl (by kernel_rfl) (by kernel_rfl) ⟨rfl, rfl, rfl⟩ ⟨rfl, rfl, rfl⟩ ⟨rfl, rfl, rfl⟩ ⟨rfl, rfl, rfl⟩ ⟨rfl, rfl, rfl⟩ ⟨rfl, rfl, rfl⟩ ⟨rfl, rfl, rfl⟩ ⟨rfl, rfl, rfl⟩
 ·simp at h; subst h
  exact CloneAt.of (t := 122) (e := 182) Tryz.func122 rfl rfl rfl (by kernel_rfl) (by kernel_rfl) ⟨rfl, rfl, rfl⟩ ⟨rfl, rfl, rfl⟩ ⟨rfl, rfl, rfl⟩ ⟨rfl, rfl, rfl⟩ ⟨rfl, rfl, rfl⟩ ⟨rfl, rfl, rfl⟩ ⟨rfl, rfl, rfl⟩ ⟨rfl, rfl, rfl⟩
 ·simp at h
theorem preOK : Pre Tryz.prog Ob.cfg := ⟨noCount, primOK cloneOK⟩
theorem mixed : Tryz.prog.follows .mixedOrders = true := by kernel_rfl
abbrev m0 (W : World) : M := ⟨fun _ => none, fun _ => none, fun _ g => g < 0, W⟩
theorem RD.m0 {W : World} {d : D} {v : Value} (h : RD W noB d v) : RD (m0 W).w ((m0 W).av noB) d v := h.mono fun b _ hn => ⟨fun hx => by
 rcases hx with hx | ⟨id, o, x, hx, _⟩
 ·exact hx
 ·simp at hx, rfl⟩
theorem glob_ok {W : World} (h : laidMet Tryz.prog [("synchrony/asm.operations", Rows.laid_synchrony_asm_operations)] W) : ∀ g, RV noB (m0 W) (Gl.gv g) (.pointer (some ⟨g, 0, none⟩)) := fun g => by
 cases g with
 | zero =>
  obtain ⟨cs, hR, hc⟩ := table h
  refine RV.vref (cells := opsTab) (fun j => cs.getD j default) (fun j d hj => ⟨fun hx => ?_, ?_⟩) fun j d hj => ?_
  ·rcases hx with hx | ⟨id, o, x, hx, _⟩
   ·exact hx
   ·simp at hx
  ·have hjl : j < cs.length := by rw [← hR.1]; exact (List.getElem?_eq_some_iff.1 hj).1
   rw [Nat.zero_add]
   show W.cell? _ = _
   rw [hc j]
   simp [List.getD, hjl]
  ·have hjl : j < cs.length := by rw [← hR.1]; exact (List.getElem?_eq_some_iff.1 hj).1
   have : cs[j]? = some (cs.getD j default) := by simp [List.getD, hjl]
   exact (hR.2 j d _ hj this).m0
 | succ g => exact .any _

/-- A call by data is a call of the model's. -/
theorem den_calls {f : FuncId} {ws : List V} {xs : List Value} {b : Bool} {W : World} (hL : laidMet Tryz.prog [("synchrony/asm.operations", Rows.laid_synchrony_asm_operations)] W) (hd : den Tryz.prog Ob.cfg f ws = some (.d (.bool b))) (hx : RVs noB (m0 W) ws xs) :
  Calls Tryz.prog f xs.toArray W fun e W' => e = .returned (.bool b) ∧ Grown W W' ∧ ∀ i, i < W.heap.size → W'.heap[i]? = W.heap[i]? := by
 unfold den at hd
 split at hd
 ·rename_i r hr
  split at hd
  ·simp only [Option.some.injEq] at hd
   obtain ⟨K, hK⟩ := lim_some hr
   have hok := (callF_ok Ob.cfg preOK mixed K).ok (hK K (Nat.le_refl _)) (fun id _ => rfl) (S := noB) (m := m0 W) (xs := xs) rfl rfl
    ⟨glob_ok hL, fun id o h => by simp at h, fun id o h => by simp at h, fun id o b base h => by simp at h, fun i j oi oj b x y h => by simp at h, fun b h => h.elim⟩ hx
   refine hok.mono fun e W' ⟨x, m', he, hw, hRel, hEvo, hRV, _, _⟩ => ?_
   rw [hd] at hRV
   have hx2 : x = .bool b := by
    cases hRV with
    | d h => cases h; rfl
   have hheap : ∀ i, i < W.heap.size → W'.heap[i]? = W.heap[i]? := fun i hi => by
    rw [← hw]
    refine (hEvo.keep i hi ?_).2
    rintro (h | ⟨id, o, x, h, _⟩)
    ·exact h
    ·simp at h
   refine ⟨by rw [he, hx2], ⟨⟨by rw [← hw]; exact hEvo.rest.1, by rw [← hw]; exact hEvo.rest.2.1, fun i hi => ?_⟩, fun a => by rw [← hw]; exact hEvo.rest.2.2 a, by rw [← hw]; exact hEvo.size⟩, hheap⟩
   rw [hheap i hi]
   exact (World.keptBut_refl W (fun _ => False)).2.2 i hi
  ·simp at hd
 ·simp at hd

theorem kids : Kids Tryz.prog (· < Tryz.prog.types.size) := kids_rows (by kernel_rfl) (by kernel_rfl)
theorem full : ∀ t e, t < Tryz.prog.types.size → Tryz.prog.underlying t = some (.slice e) → 0 < Tryz.prog.cellsOf e := slices_full_of Tryz.prog (by kernel_rfl)

theorem lt25 : 25 < Tryz.prog.types.size := of_decide_eq_true (by kernel_rfl)
theorem lt9 : 9 < Tryz.prog.types.size := of_decide_eq_true (by kernel_rfl)
theorem stay {H : Type} {enc : TypeId × Value → H} {W : World} {t : TypeId} {v : Value} {d : DataW H} {ps : List MemPlace} (ht : t < Tryz.prog.types.size) (h : DataW.Trod enc Tryz.prog W 0 (fun _ => true) true t v d ps) :
  ∀ (W' : World) (sp : Nat → Bool), (∀ i, i < W.heap.size → W'.heap[i]? = W.heap[i]?) → (∀ p ∈ ps, sp p.block = true) → DataW.Trod enc Tryz.prog W' 0 sp true t v d ps := fun W' sp hh hs => by
 obtain ⟨fuel, hf⟩ := h
 refine ⟨fuel, DataW.trod_stays kids (fun {t e} ht => full t e ht) (fun hh => by cases hh) ht hf (fun p hp => ?_) hs⟩
 have hlt := DataW.trod_lt fuel t _ _ hf p hp
 cases p with
 | cell b off => simp only [World.sameAt, World.cell?]; rw [hh b hlt]
 | map b => simp only [World.sameAt]; exact hh b hlt

section
variable {H : Type} {enc : TypeId × Value → H} {W : World} {r : Reach} {base : Nat} {v : Value} {d : DataW H} {ps : List MemPlace}
theorem open25 (hv : Value.okWide Tryz.prog W r base 25 v) (h : DataW.Trod enc Tryz.prog W 0 (fun _ => true) true 25 v d ps) : ∃ x : Oc, x.sz ≤ 2 * Rows.uptoBulk d ∧ x.ok ∧ RV noB (m0 W) (aG x.cells) v := by
 obtain ⟨cs, rfl, hcs⟩ : ∃ cs, v = .agg cs ∧ cs.size = 2 := by
  unfold Value.okWide at hv
  rw [Tryz.underlying25] at hv
  obtain ⟨cs, h1, h2, _⟩ := hv
  exact ⟨cs, h1, by rw [h2, cz25]⟩
 obtain ⟨fuel, hf⟩ := h
 obtain ⟨x, h1, h2, h3⟩ := openOc hf
 refine ⟨x, h2, h3, .agg (by simp [Oc.cells, hcs]) fun j a y hx hy => ?_⟩
 rw [List.getElem?_map, Option.map_eq_some_iff] at hx
 obtain ⟨d, hd, rfl⟩ := hx
 exact .d (h1.2 j d y hd (by simpa [Value.cells] using hy)).m0
end

section
variable {H : Type} {enc : TypeId × Value → H} {W : World} {r : Reach} {base : Nat} {v : Value} {d : DataW H} {ps : List MemPlace}
theorem open9 (hv : Value.okWide Tryz.prog W r base 9 v) (h : DataW.Trod enc Tryz.prog W 0 (fun _ => true) true 9 v d ps) : ∃ s : Tx, RV noB (m0 W) (dS s) v := by
 obtain ⟨s, rfl⟩ := okWide_string Tryz.underlying9 hv
 exact ⟨s.data.toList, .d (RD.m0 (.str _ _ rfl))⟩
end
/-- What a law of these arguments comes to. -/
theorem contractSS {f : FuncId} {fn : Func} {spec : ChangeSpec} (hp : fn.params = #[25, 9, 9]) (hr : fn.resultTypes = #[4]) (hvars : spec.vars = []) (hspec : ∀ (H : Type) (d0 d1 d2 : DataW H), spec.fn H [d0, d1, d2] = { results := [.lit (.bool true)], args := [d0, d1, d2] })
  (hden : ∀ (x1 : Oc) (s1 s2 : Tx), x1.sz ≤ 2097152 → x1.ok → den Tryz.prog Ob.cfg f [aG x1.cells, dS s1, dS s2] = some (.d (.bool true)))
  (H : Type) (enc : TypeId × Value → H) (W : World) (base : Nat) (args : Array Value) (ds gs : List (DataW H)) (before : List MemPlace)
  (hval : ∀ (j : Nat) t v, fn.params[j]? = some t → args[j]? = some v → Value.okWide Tryz.prog W .any base t v)
  (hW : DataW.Whole enc Tryz.prog fn.params.toList spec.vars false W args.toList ds gs before) (hk : Rows.uptoSmall H (ds ++ gs) = true)
  (hL : laidMet Tryz.prog [("synchrony/asm.operations", Rows.laid_synchrony_asm_operations)] W) :
  Calls Tryz.prog f args W fun e W' => ∃ v, e = .returned v ∧ spec.post enc Tryz.prog fn false true false false W args v W' := by
 have hW' := hW
 obtain ⟨p, q, hA0, hV, rfl, hfz, hnd⟩ := hW
 have hA : DataW.TrodAll enc Tryz.prog W 0 (fun _ => true) true fn.params.toList args.toList ds p := hA0
 rw [hp] at hA hval
 obtain ⟨v0, vs0, d0, ds0, p0, q0, hargs, rfl, rfl, h0, r0⟩ := trodAll_cons hA
 obtain ⟨v1, vs1, d1, ds1, p1, q1, rfl, rfl, rfl, h1, r1⟩ := trodAll_cons r0
 obtain ⟨v2, vs2, d2, ds2, p2, q2, rfl, rfl, rfl, h2, r2⟩ := trodAll_cons r1
 obtain ⟨rfl, rfl, rfl⟩ := trodAll_nil r2
 obtain rfl : args = #[v0, v1, v2] := by cases args; simp_all
 rw [hvars] at hV
 obtain ⟨rfl, rfl⟩ := trodVars_none hV
 have hb : Rows.uptoBulk d0 + (Rows.uptoBulk d1 + (Rows.uptoBulk d2)) ≤ 1048576 := by
  have h1 := of_decide_eq_true hk
  simp only [List.append_nil, Rows.uptoBulkAll] at h1
  omega
 obtain ⟨x1, a0, b0, hRV0⟩ := open25 (hval 0 25 v0 rfl rfl) h0
 obtain ⟨s1, hRV1⟩ := open9 (hval 1 9 v1 rfl rfl) h1
 obtain ⟨s2, hRV2⟩ := open9 (hval 2 9 v2 rfl rfl) h2
 have hd := hden x1 s1 s2 (by omega) b0
 refine (den_calls (xs := [v0, v1, v2]) hL hd ⟨rfl, fun j x y hx hy => ?_⟩).mono fun e W' ⟨he, hg, hh⟩ => ?_
 ·match j with
  | 0 => simp at hx hy; subst hx; subst hy; exact hRV0
  | 1 => simp at hx hy; subst hx; subst hy; exact hRV1
  | 2 => simp at hx hy; subst hx; subst hy; exact hRV2
  | j + 3 => simp at hx
 subst he
 clear hA0
 simp only [List.append_nil] at hW'
 have hfn := hspec H d0 d1 d2
 refine ⟨_, rfl, post_of_same (pa := p0 ++ (p1 ++ (p2 ++ []))) (pv := []) (by simpa using hW') (fun _ _ _ => ?_) (fun sp hs => ?_) (fun _ _ => ?_) (by simp) (hg.frame _) hg.2.1 ?_⟩
 ·rw [hr]
  show DataW.TrodAll enc Tryz.prog W' _ _ _ [4] [.bool true] (spec.fn H [d0, d1, d2]).results []
  rw [hfn]
  exact trodAll_cons_mk (shut_bool Tryz.underlying4 _) trodAll_mk0
 ·rw [hp]
  show DataW.TrodAll enc Tryz.prog W' 0 sp true [25, 9, 9] [v0, v1, v2] (spec.fn H [d0, d1, d2]).args (p0 ++ (p1 ++ (p2 ++ [])))
  rw [hfn]
  exact trodAll_cons_mk (stay lt25 h0 W' sp hh fun p hp => hs p (by simp [hp])) (trodAll_cons_mk (stay lt9 h1 W' sp hh fun p hp => hs p (by simp [hp])) (trodAll_cons_mk (stay lt9 h2 W' sp hh fun p hp => hs p (by simp [hp])) trodAll_mk0))
 ·show DataW.TrodVars enc Tryz.prog W' _ spec.vars (spec.fn H [d0, d1, d2]).vars []
  rw [hvars, hfn]
  exact rfl
 ·exact ok_one hr rfl (okWide_bool_mk Tryz.underlying4 _)
end Go.Ac
end

section
namespace Go.Ac
variable {P : Program} {cfg : Cfg} {fid : FuncId}

/-- One round comes to an end. -/
def RoundT [Gl] (P : Program) (cfg : Cfg) (fid : FuncId) (rid : Nat) (ops : Array Oper) (d : Nat) (rest : Code) (s : St) (e : Ex) (u : St) : Prop :=
 ∃ K, ∀ k, K ≤ k → roundR (runRegion P cfg (callBy P cfg (execF P cfg k)) fid rid (handed ops d) false) (execF P cfg k fid rest) s = some (e, u)

theorem RoundT.of [Gl] {rid d : Nat} {ops : Array Oper} {rest : Code} {s : St} {Q : Ex → St → Prop} (h : WP P cfg fid (.region rid (handed ops d) false) s (seqQ P cfg fid rest Q)) : ∃ e u, RoundT P cfg fid rid ops d rest s e u ∧ Q e u := by
 obtain ⟨e1, t1, ⟨K, hK⟩, hq⟩ := h
 have hreg : ∀ k, K ≤ k → e1 = .normal ∧ runRegion P cfg (callBy P cfg (execF P cfg k)) fid rid (handed ops d) false s = some t1 := fun k hk => by
  have := hK (k + 1) (by omega)
  simp only [execF, Option.map_eq_some_iff] at this
  obtain ⟨x, hx, he⟩ := this
  simp only [Prod.mk.injEq] at he
  obtain ⟨rfl, rfl⟩ := he
  exact ⟨rfl, hx⟩
 obtain ⟨rfl, _⟩ := hreg K (Nat.le_refl _)
 obtain ⟨e, u, ⟨L, hL⟩, hq⟩ := hq
 refine ⟨e, u, ⟨max K L, fun k hk => ?_⟩, hq⟩
 unfold roundR
 rw [(hreg k (Nat.le_trans (Nat.le_max_left _ _) hk)).2]
 exact hL k (Nat.le_trans (Nat.le_max_right _ _) hk)

/-- The last state: what is kept of it. -/
structure FinS (E : Ex) (U : Nat → V) (G : Nat → Option Ob) (n n0 it : Nat) (W : Nat → Prop) (e : Ex) (u : St) : Prop where
 e : e = E
 env : ∀ t, U t = .any ∨ u.env.get t = U t
 hp : ∀ id, id < n → id ≠ it → u.hp.get id = G id
 n0 : u.n0 = n0
 wl : ∀ i, i ∈ u.wl ↔ W i

/-- What is so from some number on for each of a list. -/
theorem uniform {α : Type} {Pr : α → Nat → Nat → Prop} (hm : ∀ x K K' C C', K ≤ K' → C ≤ C' → Pr x K C → Pr x K' C') : ∀ (l : List α), (∀ x, x ∈ l → ∃ K C, Pr x K C) → ∃ K C, ∀ x, x ∈ l → Pr x K C
 | [], _ => ⟨0, 0, fun x h => by cases h⟩
 | a :: r, h => by
  obtain ⟨K1, C1, h1⟩ := h a (List.mem_cons_self ..)
  obtain ⟨K2, C2, h2⟩ := uniform hm r fun x hx => h x (List.mem_cons_of_mem _ hx)
  refine ⟨max K1 K2, max C1 C2, fun x hx => ?_⟩
  rcases List.mem_cons.1 hx with rfl | hx
  ·exact hm _ _ _ _ _ (Nat.le_max_left _ _) (Nat.le_max_left _ _) h1
  ·exact hm _ _ _ _ _ (Nat.le_max_right _ _) (Nat.le_max_right _ _) (h2 x hx)

section
variable {b rest : Code} {rid t d : Nat} {ops : Array Oper} {E : Ex} {U : Nat → V} {G : Nat → Option Ob} {n n0 it : Nat} {W : Nat → Prop}

end
end Go.Ac
end
