/- From a call by data to the given statements: object code, names, rows, memories. -/
import Derived.Test.YtkgekafdhehleaaGreatObYdM
import Derived.WalkKit
import Derived.ProofKit
import Derived.OpenShut
import Derived.JoinedCond
import Derived.Below
set_option linter.unusedVariables false
set_option linter.unusedSimpArgs false
section
set_option maxRecDepth 4000
namespace Go.Ac
open Go.Proofs
attribute [local simp] Hp.get_set get_trunc_lt
theorem rowsOf_d (look : Look) {sz : Nat} {l : List (List D)} (hr : ∀ r ∈ l, r.length = sz) : rowsOf look sz (.d (.slice l)) = some (l.length, fl l, []) := by
 have h : l.all (fun r => Nat.beq r.length sz) = true := by
  rw [List.all_eq_true]; intro r h1; rw [hr r h1]; simp
 unfold rowsOf
 simp only [h]
 rfl
theorem encE_row2 (l : List En) : ∀ r ∈ encE l, r.length = 2 := by unfold encE; intro r hr; obtain ⟨x, _, rfl⟩ := List.mem_map.1 hr; rfl
theorem encE_snoc1 (l : List En) (x : En) : encE l ++ [x.cells] = encE (l ++ [x]) := by simp [encE]
theorem encD_row3 (l : List Dc) : ∀ r ∈ encD l, r.length = 3 := by unfold encD; intro r hr; obtain ⟨x, _, rfl⟩ := List.mem_map.1 hr; rfl
theorem encM_row3 (l : List Mm) : ∀ r ∈ encM l, r.length = 3 := by unfold encM; intro r hr; obtain ⟨x, _, rfl⟩ := List.mem_map.1 hr; rfl
theorem encJ_row2 (l : List Ii) : ∀ r ∈ encJ l, r.length = 2 := by unfold encJ; intro r hr; obtain ⟨x, _, rfl⟩ := List.mem_map.1 hr; rfl
theorem encC_snoc1 (l : List Cl) (x : Cl) : encC l ++ [x.cells] = encC (l ++ [x]) := by simp [encC]
theorem kf36 (r : Nat) : Ob.keep 36 r = Ob.k36 r := by kernel_rfl
attribute [local simp] kf36 Ob.k36
set_option maxHeartbeats 8000000 in
theorem copy36 (o : Oc) (hsz : o.sz ≤ 2097152) : den Tryz.prog Ob.cfg 36 [aG o.cells] = some (aG o.cells) := by
 unfold Oc.sz at hsz
 have k1 := len_szE o.en
 have k2 := len_szC o.cl
 refine den_wp Tryz.func36 rfl (by kernel_rfl) rfl rfl ?_
 refine wkcnv (jn @envOf.eq_1 (jn @envOf.eq_2 (jn @aG.eq_1 (jn @Oc.cells.eq_1 (jn @dI.eq_1 (jn @dL.eq_1 (jn @fillV.eq_1 (jn @fillV.eq_2 @encE_len)))))))) ?_
 apply WP.loop' (I := fun D s => ∃ (j g c' : Nat) (hp' : Hp), j + D = o.en.length ∧ hp'.get 0 = some ⟨0, false, [V.d (.slice (encE o.en)), V.d (.slice (encC o.cl))]⟩ ∧ hp'.get 1 = some ⟨1, false, [.full [], .full []]⟩ ∧ hp'.get 2 = some ⟨2, false, [.osl 3 g 0 j 2 none, .osl 4 4 0 0 7 none]⟩ ∧ hp'.get 3 = some ⟨g, false, fl (encE (o.en.take j))⟩ ∧ hp'.get 4 = some ⟨4, false, []⟩ ∧
  s = ⟨[(1, .ptr 0 0 0), (2, .ptr 1 1 0), (3, .ptr 2 2 0), (9, dL (encE o.en)), (10, dI o.en.length), (11, dI j)], hp', 5, c', 0, []⟩) (d := o.en.length)
 ·exact ⟨0, 3, _, _, by simp, rfl, rfl, rfl, rfl, rfl, st_eq (by simp [dI, dL]) rfl⟩
 rintro D _ ⟨j, g, c', hp', hj, h0, h1, h2, h3, h4, rfl⟩
 refine wknv (jn @dI.eq_1 @dL.eq_1) ?_
 show WP _ _ _ _ _ _
 refine WP.cond _ rfl (fun hb => ?_) (fun hb => ?_)
 ·simp at hb
  have hb' : j < o.en.length := by omega
  obtain ⟨d, hd, hdm, hix⟩ := at_lt hb'
  have hd' := encE_at hd
  have hwj := w_succ hb' (by omega)
  have hms := mem_szE hdm
  unfold En.sz at hms
  have hos := len_szS d.tags
  have hsn := take_snoc hd
  have hLl : (o.en.take j).length = j := by simp; omega
  have r2 := fl_len (encE_row2 (o.en.take j))
  have r3 := fl_take (encE_row2 (o.en.take j))
  have r4 := fl_snoc (encE (o.en.take j)) d.cells
  have r5 := encE_snoc1 (o.en.take j) d
  have f5 : fitsB (j + 1) 40 = true := by simp [fitsB]; omega
  rw [r5, ← hsn] at r4
  rw [encE_len, hLl] at r2 r3
  simp only [En.cells, List.map_cons, List.map_nil] at r4
  have fS : fitsB d.tags.length 16 = true := by simp [fitsB]; omega
  have s0 := fun look => rowsOf_d look (encS_row d.tags)
  have s2 := fl_len (encS_row d.tags)
  have s3 := fl_take (encS_row d.tags)
  have s4 := chunk_flat (encS_row d.tags)
  rw [encS_len, Nat.mul_one] at s2 s3
  rw [encS_len] at s0 s4
  repeat (first
 | apply WP.seq
 | (apply WP.reg; (case hR => dsimp only [prepL, prepO, List.map, gS, gZ]; exact iZ); (case hr => (repeat (first
 | (apply RT.op; simp [dI, dL, hix, hd', En.cells, fillV, closeParts, cl2, toD_dep, toD_d, toDs, chunk, nble_d, f5, r2, r3, r4, s0, s2, s3, s4, fS, toDs_fl, cloneV, h0, h1, h2, h3, h4]; exact iZ; (try dsimp only [putEnv]) <;> exact rfl)
 | (apply RT.call; (iterate 2 simp; exact iZ); exact iZ; (iterate 4 simp [dI, dL, hix, hd', En.cells, fillV, closeParts, cl2, toD_dep, toD_d, toDs, chunk, nble_d, f5, r2, r3, r4, s0, s2, s3, s4, fS, toDs_fl, cloneV, h0, h1, h2, h3, h4]; exact iZ); simp [Is]; (try dsimp only [putEnv]) <;> exact rfl; simp; exact iZ; simp; exact iZ)
 | (apply RT.clone; (iterate 2 simp; exact iZ); exact iZ; (iterate 2 simp [dI, dL, hix, hd', En.cells, fillV, closeParts, cl2, toD_dep, toD_d, toDs, chunk, nble_d, f5, r2, r3, r4, s0, s2, s3, s4, fS, toDs_fl, cloneV, h0, h1, h2, h3, h4]; exact iZ); (first | assumption | (simp [fitsB]; omega)); (try dsimp only [putEnv]) <;> exact rfl; simp [dI, dL, hix, hd', En.cells, fillV, closeParts, cl2, toD_dep, toD_d, toDs, chunk, nble_d, f5, r2, r3, r4, s0, s2, s3, s4, fS, toDs_fl, cloneV, h0, h1, h2, h3, h4]; exact iZ; simp; exact iZ)
 | (apply RT.callV; (iterate 2 simp; exact iZ); exact iZ; (iterate 3 simp [dI, dL, hix, hd', En.cells, fillV, closeParts, cl2, toD_dep, toD_d, toDs, chunk, nble_d, f5, r2, r3, r4, s0, s2, s3, s4, fS, toDs_fl, cloneV, h0, h1, h2, h3, h4]; exact iZ); (try dsimp only [putEnv]) <;> exact rfl)
 | (apply RT.wr; simp [dI, dL, hix, hd', En.cells, fillV, closeParts, cl2, toD_dep, toD_d, toDs, chunk, nble_d, f5, r2, r3, r4, s0, s2, s3, s4, fS, toDs_fl, cloneV, h0, h1, h2, h3, h4]; exact iZ; (try dsimp only [putEnv]) <;> exact rfl; simp [dI, dL, hix, hd', En.cells, fillV, closeParts, cl2, toD_dep, toD_d, toDs, chunk, nble_d, f5, r2, r3, r4, s0, s2, s3, s4, fS, toDs_fl, cloneV, h0, h1, h2, h3, h4]; exact iZ; (iterate 2 exact iZ); simp; exact iZ))); exact RT.nil); (case hc => first | (refine checkR_un [(0, 2), (1, 2), (0, 3), (1, 3), (0, 4), (1, 4), (2, 4), (3, 4), (0, 5), (1, 5), (2, 5), (3, 5), (0, 6), (1, 6), (2, 6), (3, 6), (0, 7), (1, 7), (0, 8), (1, 8)] (by kernel_rfl) (by kernel_rfl) rfl ?_; simp [memA, disj, nbeq_dec]; done) | (show _ = _; kernel_rfl)); (case ht => simp [dI, dL, hix, hd', En.cells, fillV, closeParts, cl2, toD_dep, toD_d, toDs, chunk, nble_d, f5, r2, r3, r4, s0, s2, s3, s4, fS, toDs_fl, cloneV, h0, h1, h2, h3, h4]; exact iZ))
 | apply WP.block | apply WP.skip | apply WP.exit | apply WP.ret | refine WP.condT rfl ?_ | refine WP.condF rfl ?_)
  refine loop_next (by simp [hwj]; exact Is.rfl) ?_
  exact ⟨D - 1, by omega, j + 1, c' + 3, _, _, by omega, by simp [h0], by simp [h1], by simp, by simp, by simp [h4], st_eq (by simp [dI, dL, hwj]) rfl⟩
 simp at hb
 have hje : j = o.en.length := by omega
 rw [hje, List.take_length] at h3
 refine wkcnv (jn @dI.eq_1 (jn @dL.eq_1 (jn @h0 (jn @h1 (jn @h2 (jn @h3 (jn @h4 @encC_len))))))) ?_
 apply WP.loop' (I := fun D s => ∃ (k g2 c5 : Nat) (hp5 : Hp), k + D = o.cl.length ∧ hp5.get 1 = some ⟨1, false, [.full [], .full []]⟩ ∧ hp5.get 2 = some ⟨2, false, [.osl 3 g 0 j 2 none, .osl 4 g2 0 k 7 none]⟩ ∧ hp5.get 3 = some ⟨g, false, fl (encE o.en)⟩ ∧ hp5.get 4 = some ⟨g2, false, fl (encC (o.cl.take k))⟩ ∧
  s = ⟨[(2, .ptr 1 1 0), (3, .ptr 2 2 0), (28, dL (encC o.cl)), (29, dI o.cl.length), (30, dI k)], hp5, 5, c5, 0, []⟩) (d := o.cl.length)
 ·exact ⟨0, 4, _, _, by simp, h1, h2, h3, by rw [h4]; rfl, st_eq (by simp [dI, dL]) rfl⟩
 clear h0 h1 h2 h3 h4 hb hj
 rintro D2 _ ⟨k, g2, c5, hp5, hk, h1, h2, h3, h4, rfl⟩
 refine wknv (jn @dI.eq_1 @dL.eq_1) ?_
 show WP _ _ _ _ _ _
 refine WP.cond _ rfl (fun hb => ?_) (fun hb => ?_)
 ·simp at hb
  have hb' : k < o.cl.length := by omega
  obtain ⟨d, hd, hdm, hix⟩ := at_lt hb'
  have hd' := encC_at hd
  have hwk := w_succ hb' (by omega)
  have hms := mem_szC hdm
  unfold Cl.sz at hms
  have hl1 := len_szD d.inn
  have hl2 := len_szD d.out
  have hl3 := len_szD d.loc
  have hl4 := len_szM d.mems
  have hl5 := len_szJ d.ins
  have hcy := copy84 _ d.step (Nat.lt_succ_self _) (by omega)
  simp only [dL] at hcy
  have hsn := take_snoc hd
  have hLl : (o.cl.take k).length = k := by simp; omega
  have r2 := fl_len (encC_row (o.cl.take k))
  have r3 := fl_take (encC_row (o.cl.take k))
  have r4 := fl_snoc (encC (o.cl.take k)) d.cells
  have r5 := encC_snoc1 (o.cl.take k) d
  have f5 : fitsB (k + 1) 160 = true := by simp [fitsB]; omega
  rw [r5, ← hsn] at r4
  rw [encC_len, hLl] at r2 r3
  simp only [Cl.cells, List.map_cons, List.map_nil] at r4
  have fta : fitsB d.inn.length 48 = true := by simp [fitsB]; omega
  have ta0 := fun look => rowsOf_d look (encD_row3 d.inn)
  have ta2 := fl_len (encD_row3 d.inn)
  have ta3 := fl_take (encD_row3 d.inn)
  have ta4 := chunk_flat (encD_row3 d.inn)
  rw [encD_len] at ta0 ta2 ta3 ta4
  have ftb : fitsB d.out.length 48 = true := by simp [fitsB]; omega
  have tb0 := fun look => rowsOf_d look (encD_row3 d.out)
  have tb2 := fl_len (encD_row3 d.out)
  have tb3 := fl_take (encD_row3 d.out)
  have tb4 := chunk_flat (encD_row3 d.out)
  rw [encD_len] at tb0 tb2 tb3 tb4
  have ftc : fitsB d.loc.length 48 = true := by simp [fitsB]; omega
  have tc0 := fun look => rowsOf_d look (encD_row3 d.loc)
  have tc2 := fl_len (encD_row3 d.loc)
  have tc3 := fl_take (encD_row3 d.loc)
  have tc4 := chunk_flat (encD_row3 d.loc)
  rw [encD_len] at tc0 tc2 tc3 tc4
  have ftd : fitsB d.mems.length 32 = true := by simp [fitsB]; omega
  have td0 := fun look => rowsOf_d look (encM_row3 d.mems)
  have td2 := fl_len (encM_row3 d.mems)
  have td3 := fl_take (encM_row3 d.mems)
  have td4 := chunk_flat (encM_row3 d.mems)
  rw [encM_len] at td0 td2 td3 td4
  have fte : fitsB d.ins.length 32 = true := by simp [fitsB]; omega
  have te0 := fun look => rowsOf_d look (encJ_row2 d.ins)
  have te2 := fl_len (encJ_row2 d.ins)
  have te3 := fl_take (encJ_row2 d.ins)
  have te4 := chunk_flat (encJ_row2 d.ins)
  rw [encJ_len] at te0 te2 te3 te4
  repeat (first
 | apply WP.seq
 | (apply WP.reg; (case hR => dsimp only [prepL, prepO, List.map, gS, gZ]; exact iZ); (case hr => (repeat (first
 | (apply RT.op; simp [dI, dL, hix, hd', Cl.cells, fillV, closeParts, cl2, toD_dep, toD_d, toDs, chunk, nble_d, f5, r2, r3, r4, ta0, ta2, ta3, ta4, fta, tb0, tb2, tb3, tb4, ftb, tc0, tc2, tc3, tc4, ftc, td0, td2, td3, td4, ftd, te0, te2, te3, te4, fte, hcy, toDs_fl, cloneV, h1, h2, h3, h4]; exact iZ; (try dsimp only [putEnv]) <;> exact rfl)
 | (apply RT.call; (iterate 2 simp; exact iZ); exact iZ; (iterate 4 simp [dI, dL, hix, hd', Cl.cells, fillV, closeParts, cl2, toD_dep, toD_d, toDs, chunk, nble_d, f5, r2, r3, r4, ta0, ta2, ta3, ta4, fta, tb0, tb2, tb3, tb4, ftb, tc0, tc2, tc3, tc4, ftc, td0, td2, td3, td4, ftd, te0, te2, te3, te4, fte, hcy, toDs_fl, cloneV, h1, h2, h3, h4]; exact iZ); simp [Is]; (try dsimp only [putEnv]) <;> exact rfl; simp; exact iZ; simp; exact iZ)
 | (apply RT.clone; (iterate 2 simp; exact iZ); exact iZ; (iterate 2 simp [dI, dL, hix, hd', Cl.cells, fillV, closeParts, cl2, toD_dep, toD_d, toDs, chunk, nble_d, f5, r2, r3, r4, ta0, ta2, ta3, ta4, fta, tb0, tb2, tb3, tb4, ftb, tc0, tc2, tc3, tc4, ftc, td0, td2, td3, td4, ftd, te0, te2, te3, te4, fte, hcy, toDs_fl, cloneV, h1, h2, h3, h4]; exact iZ); (first | assumption | (simp [fitsB]; omega)); (try dsimp only [putEnv]) <;> exact rfl; simp [dI, dL, hix, hd', Cl.cells, fillV, closeParts, cl2, toD_dep, toD_d, toDs, chunk, nble_d, f5, r2, r3, r4, ta0, ta2, ta3, ta4, fta, tb0, tb2, tb3, tb4, ftb, tc0, tc2, tc3, tc4, ftc, td0, td2, td3, td4, ftd, te0, te2, te3, te4, fte, hcy, toDs_fl, cloneV, h1, h2, h3, h4]; exact iZ; simp; exact iZ)
 | (apply RT.callV; (iterate 2 simp; exact iZ); exact iZ; (iterate 3 simp [dI, dL, hix, hd', Cl.cells, fillV, closeParts, cl2, toD_dep, toD_d, toDs, chunk, nble_d, f5, r2, r3, r4, ta0, ta2, ta3, ta4, fta, tb0, tb2, tb3, tb4, ftb, tc0, tc2, tc3, tc4, ftc, td0, td2, td3, td4, ftd, te0, te2, te3, te4, fte, hcy, toDs_fl, cloneV, h1, h2, h3, h4]; exact iZ); (try dsimp only [putEnv]) <;> exact rfl)
 | (apply RT.wr; simp [dI, dL, hix, hd', Cl.cells, fillV, closeParts, cl2, toD_dep, toD_d, toDs, chunk, nble_d, f5, r2, r3, r4, ta0, ta2, ta3, ta4, fta, tb0, tb2, tb3, tb4, ftb, tc0, tc2, tc3, tc4, ftc, td0, td2, td3, td4, ftd, te0, te2, te3, te4, fte, hcy, toDs_fl, cloneV, h1, h2, h3, h4]; exact iZ; (try dsimp only [putEnv]) <;> exact rfl; simp [dI, dL, hix, hd', Cl.cells, fillV, closeParts, cl2, toD_dep, toD_d, toDs, chunk, nble_d, f5, r2, r3, r4, ta0, ta2, ta3, ta4, fta, tb0, tb2, tb3, tb4, ftb, tc0, tc2, tc3, tc4, ftc, td0, td2, td3, td4, ftd, te0, te2, te3, te4, fte, hcy, toDs_fl, cloneV, h1, h2, h3, h4]; exact iZ; (iterate 2 exact iZ); simp; exact iZ))); exact RT.nil); (case hc => first | (refine checkR_un [(0, 2), (1, 2), (0, 3), (1, 3), (0, 4), (1, 4), (2, 4), (3, 4), (0, 5), (1, 5), (2, 5), (3, 5), (0, 6), (1, 6), (2, 6), (3, 6), (0, 7), (1, 7), (2, 7), (3, 7), (4, 7), (5, 7), (6, 7), (0, 8), (1, 8), (2, 8), (3, 8), (4, 8), (5, 8), (6, 8), (0, 9), (1, 9), (2, 9), (3, 9), (0, 10), (1, 10), (2, 10), (3, 10), (4, 10), (5, 10), (6, 10), (7, 10), (8, 10), (9, 10), (0, 11), (1, 11), (2, 11), (3, 11), (4, 11), (5, 11), (6, 11), (7, 11), (8, 11), (9, 11), (0, 12), (1, 12), (2, 12), (3, 12), (0, 13), (1, 13), (2, 13), (3, 13), (4, 13), (5, 13), (6, 13), (7, 13), (8, 13), (9, 13), (10, 13), (11, 13), (12, 13), (0, 14), (1, 14), (2, 14), (3, 14), (4, 14), (5, 14), (6, 14), (7, 14), (8, 14), (9, 14), (10, 14), (11, 14), (12, 14), (0, 15), (1, 15), (2, 15), (3, 15), (0, 16), (1, 16), (2, 16), (3, 16), (4, 16), (5, 16), (6, 16), (7, 16), (8, 16), (9, 16), (10, 16), (11, 16), (12, 16), (13, 16), (14, 16), (15, 16), (0, 17), (1, 17), (2, 17), (3, 17), (4, 17), (5, 17), (6, 17), (7, 17), (8, 17), (9, 17), (10, 17), (11, 17), (12, 17), (13, 17), (14, 17), (15, 17), (0, 18), (1, 18), (2, 18), (3, 18), (0, 19), (1, 19), (2, 19), (3, 19), (4, 19), (5, 19), (6, 19), (7, 19), (8, 19), (9, 19), (10, 19), (11, 19), (12, 19), (13, 19), (14, 19), (15, 19), (16, 19), (17, 19), (18, 19), (0, 20), (1, 20), (2, 20), (3, 20), (4, 20), (5, 20), (6, 20), (7, 20), (8, 20), (9, 20), (10, 20), (11, 20), (12, 20), (13, 20), (14, 20), (15, 20), (16, 20), (17, 20), (18, 20), (0, 21), (1, 21), (2, 21), (3, 21), (0, 22), (1, 22), (0, 23), (1, 23)] (by kernel_rfl) (by kernel_rfl) rfl ?_; simp [memA, disj, nbeq_dec]; done) | (show _ = _; kernel_rfl)); (case ht => simp [dI, dL, hix, hd', Cl.cells, fillV, closeParts, cl2, toD_dep, toD_d, toDs, chunk, nble_d, f5, r2, r3, r4, ta0, ta2, ta3, ta4, fta, tb0, tb2, tb3, tb4, ftb, tc0, tc2, tc3, tc4, ftc, td0, td2, td3, td4, ftd, te0, te2, te3, te4, fte, hcy, toDs_fl, cloneV, h1, h2, h3, h4]; exact iZ))
 | apply WP.block | apply WP.skip | apply WP.exit | apply WP.ret | refine WP.condT rfl ?_ | refine WP.condF rfl ?_)
  refine loop_next (by simp [hwk]; exact Is.rfl) ?_
  refine ⟨D2 - 1, by omega, k + 1, ?_, _, _, by omega, by simp [h1], by simp; rfl, by simp [h3], by simp, st_eq (by simp [dI, dL, hwk]) rfl⟩
 simp at hb
 have hke : k = o.cl.length := by omega
 rw [hke, List.take_length] at h4
 refine wkcnv (jn @dI.eq_1 (jn @dL.eq_1 (jn @h1 (jn @h2 (jn @h3 @h4))))) ?_
 have x3 : (hp5.set 1 ⟨1, false, [.osl 3 g 0 j 2 none, .osl 4 g2 0 k 7 none]⟩).get 3 = some ⟨g, false, fl (encE o.en)⟩ := by simp [h3]
 have x4 : (hp5.set 1 ⟨1, false, [.osl 3 g 0 j 2 none, .osl 4 g2 0 k 7 none]⟩).get 4 = some ⟨g2, false, fl (encC o.cl)⟩ := by simp [h4]
 have q3 := close_fl (cap := none) (encE_row2 o.en) x3
 have q4 := close_fl (cap := none) (encC_row o.cl) x4
 rw [encE_len, ← hje] at q3
 rw [encC_len, ← hke] at q4
 refine ⟨.inr rfl, [.agg [.osl 3 g 0 j 2 none, .osl 4 g2 0 k 7 none]], [3, 4], ?_, ?_⟩
 ·show resultsV Tryz.prog _ [_] = _
  simp [resultsV, resultV]
 have q3' : close1 (hp5.set 1 ⟨1, false, [.osl 3 g 0 j 2 none, .osl 4 g2 0 k 7 none]⟩).get (.osl 3 g 0 j 2 none) = some (dL (encE o.en), [3]) := q3
 have q4' : close1 (hp5.set 1 ⟨1, false, [.osl 3 g 0 j 2 none, .osl 4 g2 0 k 7 none]⟩).get (.osl 4 g2 0 k 7 none) = some (dL (encC o.cl), [4]) := q4
 show (match closeVs (close1 (hp5.set 1 ⟨1, false, [.osl 3 g 0 j 2 none, .osl 4 g2 0 k 7 none]⟩).get) [.osl 3 g 0 j 2 none, .osl 4 g2 0 k 7 none] with | some (xs, r) => some (V.agg xs, r) | none => none) = _
 simp only [closeVs, q3', q4']
 rfl
end Go.Ac
end

section
set_option maxRecDepth 4000
namespace Go.Ac
open Go.Proofs
attribute [local simp] Hp.get_set addNew_zero
theorem disj_l (b : List Nat) : disj [] b = true := rfl
theorem disj_r (a : List Nat) : disj a [] = true := by unfold disj; simp
theorem disj_ge {W : List (Nat × Ob)} {n k : Nat} (h : ∀ p, p ∈ W → n ≤ p.1) (hk : k < n) : disj (W.map fun x => x.1) [k] = true := by
 unfold disj
 rw [List.all_eq_true]
 intro x hx
 obtain ⟨p, hp, rfl⟩ := List.mem_map.1 hx
 have := h p hp
 have hb : Nat.beq p.1 k = false := by
  cases hq : Nat.beq p.1 k with
  | false => rfl
  | true => have := Nat.eq_of_beq_eq_true hq; omega
 simp [hb]
theorem shiftH_ge (n c : Nat) (l : List (Nat × Ob)) : ∀ p, p ∈ shiftH n c l → n ≤ p.1 := by
 intro p hp
 rw [shiftH_eq, List.mem_map] at hp
 obtain ⟨x, _, rfl⟩ := hp
 simp only; omega
/-- An instance that a call makes. -/
def InsAt (o : Oc) (i : Nat) (t : Trn) : Prop := ∃ (q : CR) (p : Pt), lim Tryz.prog Ob.cfg 35 [aG o.cells, dI i] [] 0 0 = some q ∧ q.v = .ptr p.a.x p.a.gx 0 ∧ Lies o.en t p q.hp q.n
theorem kf35 (r : Nat) : Ob.keep 35 r = Ob.k35 r := by kernel_rfl
attribute [local simp] kf35 Ob.k35
set_option maxHeartbeats 8000000 in
theorem inst35 {o : Oc} (hck : checkRef o = 0) (hsz : o.sz ≤ 2097152) : ∀ (N i : Nat) (c : Cl), i < N → o.cl[i]? = some c → InsAt o i (newT o (i + 1) c) := by
 intro N
 induction N with
 | zero => intro i c h; omega
 | succ N ih =>
 intro i c hiN hic
 unfold Oc.sz at hsz
 have k2 := len_szC o.cl
 have hcm := List.mem_of_getElem? hic
 have hcs := mem_szC hcm
 unfold Cl.sz at hcs
 have l4 := len_szM c.mems
 have l5 := len_szJ c.ins
 have hilt := (List.getElem?_eq_some_iff.1 hic).1
 have hix := idx_lt hilt
 have hic' := encC_at hic
 have hwf := cwf_of hck c hcm
 have hnd := hwf.nd
 unfold Cl.names at hnd
 have hmn : (c.mems.map Mm.nm).Nodup := (List.nodup_append.1 (List.nodup_append.1 hnd).1).2.1
 have hin : (c.ins.map Ii.nm).Nodup := (List.nodup_append.1 hnd).2.1
 have main : ∃ (v : V) (t : St), lim Tryz.prog Ob.cfg 35 [aG o.cells, dI i] [] 0 0 = some ⟨v, t.hp, t.n, t.c, t.wl⟩ ∧ ∃ p : Pt, v = .ptr p.a.x p.a.gx 0 ∧ Lies o.en (newT o (i + 1) c) p t.hp t.n := by
  refine lim_wp (Q := fun v (t : St) => ∃ p : Pt, v = .ptr p.a.x p.a.gx 0 ∧ Lies o.en (newT o (i + 1) c) p t.hp t.n) Tryz.func35 rfl (by kernel_rfl) ?_
  refine wkciv (jn @envOf.eq_1 (jn @envOf.eq_2 (jn @dI.eq_1 (jn @dL.eq_1 (jn @aG.eq_1 (jn @Oc.cells.eq_1 (jn @Cl.cells.eq_1 (jn @makeMapV.eq_1 (jn @fillV.eq_1 (jn @fillV.eq_2 (jn @Value.oneCell'.eq_def (jn @hix @hic')))))))))))) ?_
  apply WP.loop' (I := fun D s => ∃ (k n' c' : Nat) (hp' : Hp), k + D = c.mems.length ∧ 4 ≤ n' ∧ hp'.get 0 = some ⟨0, false, [V.d (.slice (encE o.en)), V.d (.slice (encC o.cl))]⟩ ∧ hp'.get 1 = some ⟨1, false, [mpC eI (puts [] (mI (c.mems.take k)))]⟩ ∧ hp'.get 2 = some ⟨2, false, [mpC eP []]⟩ ∧ hp'.get 3 = some (oO 3 o.en c 1 1 2 2) ∧
   s = ⟨[(2, .ptr 0 0 0), (5, .ptr 3 3 0), (25, dL (encM c.mems)), (26, dI c.mems.length), (27, dI k)], hp', n', c', 0, []⟩) (d := c.mems.length)
  ·exact ⟨0, 4, _, _, by simp, by omega, rfl, rfl, rfl, rfl, st_eq (by simp [dI, dL]) rfl⟩
  rintro D _ ⟨k, n', c', hp', hk, hn4, h0, h1, h2, h3, rfl⟩
  simp only [oO] at h3
  have n0 := nf (show 0 < n' by omega)
  have n1 := nf (show 1 < n' by omega)
  have n2 := nf (show 2 < n' by omega)
  have n3 := nf (show 3 < n' by omega)
  have m1 := eq_true (show 1 < n' + 1 by omega)
  refine wkiv (jn @dI.eq_1 @dL.eq_1) ?_
  show WP _ _ _ _ _ _
  refine WP.cond _ rfl (fun hb => ?_) (fun hb => ?_)
  ·simp at hb
   have hb' : k < c.mems.length := by omega
   obtain ⟨d, hd, hdm, hixm⟩ := at_lt hb'
   have hd' := encM_at hd
   have hwk := w_succ hb' (by omega)
   have htk := take_snoc hd
   have hins := fun (look : Look) (sz by_ : Nat) (zr : Option (List V)) (h : look 1 = some ⟨1, false, [mpC eI (puts [] (mI (c.mems.take k)))]⟩) => insert_mp eI (puts [] (mI (c.mems.take k))) d.ini (w := .d (.int .i64 d.ini)) (sz := sz) (by_ := by_) (zr := zr) (x := d.nm) rfl h
   refine wkciv (jn @dI.eq_1 (jn @dL.eq_1 (jn @hixm (jn @hd' (jn @Mm.cells.eq_1 (jn @fillV.eq_1 (jn @fillV.eq_2 (jn @h0 (jn @h1 (jn @h2 (jn @h3 (jn @n0 (jn @n1 (jn @n2 (jn @n3 (jn @m1 @hins)))))))))))))))) ?_
   refine loop_next (by simp [hwk]; exact Is.rfl) ?_
   have e1 : puts [] (mI (c.mems.take (k + 1))) = mput (puts [] (mI (c.mems.take k))) d.nm d.ini := by rw [htk]; simp only [mI, List.map_append, List.map_cons, List.map_nil, puts_snoc]
   have q0 : (n' = 0) = False := eq_false (by omega)
   have q1 : (n' = 1) = False := eq_false (by omega)
   have q2 : (n' = 2) = False := eq_false (by omega)
   have q3 : (n' = 3) = False := eq_false (by omega)
   exact ⟨D - 1, by omega, k + 1, _, _, _, by omega, by omega, by simp [q0, h0], by simp [e1], by simp [q2, h2], by simp [q3, h3, oO], st_eq (by simp [dI, dL, hwk]) rfl⟩
  simp at hb
  have hke : k = c.mems.length := by omega
  rw [hke, List.take_length] at h1
  refine wkciv (jn @dI.eq_1 (jn @dL.eq_1 (jn @h3 @n3))) ?_
  apply WP.loop' (I := fun D s => ∃ (k n' c' : Nat) (hp' : Hp) (ps : List Pt), k + D = c.ins.length ∧ ps.length = k ∧ 4 ≤ n' ∧ LL o.en ((c.ins.take k).map fun d => newT o i (findC o.cl d.cl).1) ps 4 hp' n' ∧ hp'.get 0 = some ⟨0, false, [V.d (.slice (encE o.en)), V.d (.slice (encC o.cl))]⟩ ∧ hp'.get 1 = some ⟨1, false, [mpC eI (puts [] (mI c.mems))]⟩ ∧ hp'.get 2 = some ⟨2, false, [mpC eP (insL c ps)]⟩ ∧ hp'.get 3 = some (oO 3 o.en c 1 1 2 2) ∧
   s = ⟨[(2, .ptr 0 0 0), (5, .ptr 3 3 0), (44, dL (encJ c.ins)), (45, dI c.ins.length), (46, dI k)], hp', n', c', 0, []⟩) (d := c.ins.length)
  ·exact ⟨0, n', _, _, [], by simp, rfl, hn4, by simpa using LL.nil, h0, h1, by rw [h2]; simp [insL], by rw [h3]; rfl, st_eq (by simp [dI, dL]) rfl⟩
  clear h0 h1 h2 h3 n0 n1 n2 n3 m1 hn4 hke hb hk
  clear n' c' hp' k D
  rintro D _ ⟨k, n', c', hp', ps, hk, hpl, hn4, hLL, h0, h1, h2, h3, rfl⟩
  simp only [oO] at h3
  have n0 := nf (show 0 < n' by omega)
  have n1 := nf (show 1 < n' by omega)
  have n2 := nf (show 2 < n' by omega)
  have n3 := nf (show 3 < n' by omega)
  refine wkiv (jn @dI.eq_1 @dL.eq_1) ?_
  show WP _ _ _ _ _ _
  refine WP.cond _ rfl (fun hb => ?_) (fun hb => ?_)
  ·simp at hb
   have hb' : k < c.ins.length := by omega
   obtain ⟨d, hd, hdm, hixm⟩ := at_lt hb'
   have hd' := encJ_at hd
   have hwk := w_succ hb' (by omega)
   have htk := take_snoc hd
   obtain ⟨j, hji, hjx, hja⟩ := ins_ix hck hic d hdm
   obtain ⟨q, p, hI1, hqv, hLq⟩ := ih j _ (by omega) hja
   rw [← newT_fuel hck i i j _ (Nat.le_refl _) hja hji] at hLq
   have hf := find34 o d.cl (by unfold MX; omega)
   rw [hjx] at hf
   simp only [aG, Oc.cells, List.map_cons, List.map_nil, dS, dI] at hf hI1
   have hI2 : closeT noLook q.v = none := by rw [hqv]; rfl
   refine wkciv (jn @dI.eq_1 (jn @dL.eq_1 (jn @hixm (jn @hd' (jn @Ii.cells.eq_1 (jn @fillV.eq_1 (jn @fillV.eq_2 (jn @h0 (jn @h1 (jn @h2 (jn @h3 (jn @n0 (jn @n1 (jn @n2 @n3)))))))))))))) ?_
   apply WP.gen3
   intro hp1 c1 wl1 hhp hwl
   have q0 : (n' = 0) = False := eq_false (by omega)
   have q1 : (n' = 1) = False := eq_false (by omega)
   have q2 : (n' = 2) = False := eq_false (by omega)
   have q3 : (n' = 3) = False := eq_false (by omega)
   have y0 : hp1.get 0 = some ⟨0, false, [V.d (.slice (encE o.en)), V.d (.slice (encC o.cl))]⟩ := by rw [hhp]; simp [q0, h0]
   have y1 : hp1.get 1 = some ⟨1, false, [mpC eI (puts [] (mI c.mems))]⟩ := by rw [hhp]; simp [q1, h1]
   have y2 : hp1.get 2 = some ⟨2, false, [mpC eP (insL c ps)]⟩ := by rw [hhp]; simp [q2, h2]
   have y3 : hp1.get 3 = some ⟨3, false, [V.d (.slice (encE o.en)), V.d (.str c.nm), V.d (.slice (encD c.inn)), V.d (.slice (encD c.out)), V.d (.slice (encD c.loc)), V.d (.slice (encM c.mems)), V.d (.slice (encJ c.ins)), V.d (.slice (encY c.step)), .mp 1 1, .mp 2 2]⟩ := by rw [hhp]; simp [q3, h3]
   have y4 : hp1.get n' = some ⟨c', false, [V.d (.str d.nm), V.d (.str d.cl)]⟩ := by rw [hhp]; simp
   have hLL1 : LL o.en ((c.ins.take k).map fun d => newT o i (findC o.cl d.cl).1) ps 4 hp1 n' := hLL.same (Nat.le_refl _) fun x hx1 hx2 => by
    have : (n' = x) = False := eq_false (by omega)
    rw [hhp]; simp [this]
   have hwl0 : wl1 = [] := hwl
   subst hwl0
   clear hhp hwl
   obtain ⟨p2, hp2⟩ : ∃ p2, p2 = p.sh (n' + 1) c1 := ⟨_, rfl⟩
   have hI3 : shiftV (n' + 1) c1 q.v = .ptr p2.a.x p2.a.gx 0 := by rw [hqv, hp2, Pt.sh_a]; simp [shiftV, Pb.sh]
   obtain ⟨W1, hI4⟩ : ∃ W, shiftH (n' + 1) c1 (wrOf q.hp.get (List.range q.n)) = W := ⟨_, rfl⟩
   have hL2 : Lies o.en (newT o i (findC o.cl d.cl).1) p2 (hp1.sets W1) (q.n + (n' + 1)) := by rw [← hI4, hp2]; exact hLq.import
   have hold : ∀ x, x < n' + 1 → (hp1.sets W1).get x = hp1.get x := fun x hx => by rw [← hI4, import_old hx]
   have z2 := (hold 2 (by omega)).trans y2
   have m2 := eq_true (show 2 < n' + 1 + q.n by omega)
   have hins := fun (look : Look) (sz by_ : Nat) (zr : Option (List V)) (h : look 2 = some ⟨2, false, [mpC eP (insL c ps)]⟩) => insert_mp eP (insL c ps) (p2.a.x, p2.a.gx) (w := .ptr p2.a.x p2.a.gx 0) (sz := sz) (by_ := by_) (zr := zr) (x := d.nm) rfl h
   rw [insL_snoc hin (by rw [hpl]; exact hd)] at hins
   have hge : ∀ p, p ∈ W1 → n' + 1 ≤ p.1 := by rw [← hI4]; exact shiftH_ge _ _ _
   have d0 := disj_ge hge (show 0 < n' + 1 by omega)
   have d3 := disj_ge hge (show 3 < n' + 1 by omega)
   have dn := disj_ge hge (show n' < n' + 1 by omega)
   repeat (first
 | apply WP.seq
 | (apply WP.reg; (case hR => dsimp only [prepL, prepO, List.map, gS, gZ]; exact iZ); (case hr => (repeat (first
 | (apply RT.op; simp [dI, dL, y0, y1, y2, y3, y4, z2, n0, n1, n2, n3, m2, hf, hins]; exact iZ; (try dsimp only [putEnv]) <;> exact rfl)
 | (apply RT.call; (iterate 2 simp; exact iZ); exact iZ; (iterate 4 simp [dI, dL, y0, y1, y2, y3, y4, z2, n0, n1, n2, n3, m2, hf, hins]; exact iZ); simp [Is]; (try dsimp only [putEnv]) <;> exact rfl; simp; exact iZ; simp; exact iZ)
 | (apply RT.callV; (iterate 2 simp; exact iZ); exact iZ; (iterate 3 simp [dI, dL, y0, y1, y2, y3, y4, z2, n0, n1, n2, n3, m2, hf, hins]; exact iZ); (try dsimp only [putEnv]) <;> exact rfl)
 | (apply RT.callI (hd := hI1) (hne := hI2) (hw := hI3) (hwr := hI4); (iterate 2 simp; exact iZ); exact iZ; (iterate 2 simp [dI, dL, y0, y1, y2, y3, y4, z2, n0, n1, n2, n3, m2, hf, hins]; exact iZ); (try dsimp only [putEnv]) <;> exact rfl; (first | omega | simp))
 | (apply RT.wr; simp [dI, dL, y0, y1, y2, y3, y4, z2, n0, n1, n2, n3, m2, hf, hins]; exact iZ; (try dsimp only [putEnv]) <;> exact rfl; simp [dI, dL, y0, y1, y2, y3, y4, z2, n0, n1, n2, n3, m2, hf, hins]; exact iZ; (iterate 2 exact iZ); simp; exact iZ))); exact RT.nil); (case hc => first | (refine checkR_un [(0, 4), (1, 4), (2, 4), (3, 4), (0, 5), (1, 5), (2, 5), (3, 5), (0, 6), (1, 6), (2, 6), (3, 6), (4, 6), (5, 6), (0, 7), (1, 7), (2, 7), (3, 7), (4, 7), (5, 7), (6, 7), (0, 8), (1, 8), (2, 8), (3, 8), (4, 8), (5, 8), (6, 8), (7, 8), (0, 9), (1, 9), (2, 9), (3, 9), (4, 9), (5, 9), (6, 9), (7, 9), (0, 10), (1, 10), (2, 10), (3, 10), (4, 10), (5, 10), (6, 10), (0, 11), (1, 11), (2, 11), (3, 11), (4, 11), (5, 11)] (by kernel_rfl) (by kernel_rfl) rfl ?_; simp [memA, d0, d3, dn, disj_l, disj_r]; done) | (show _ = _; kernel_rfl)); (case ht => simp [dI, dL, y0, y1, y2, y3, y4, z2, n0, n1, n2, n3, m2, hf, hins]; exact iZ))
 | apply WP.block | apply WP.skip | apply WP.exit | apply WP.ret | refine WP.condT rfl ?_ | refine WP.condF rfl ?_)
   refine loop_next (by simp [hwk]; exact Is.rfl) ?_
   refine ⟨D - 1, by omega, k + 1, n' + 1 + q.n, _, _, ps ++ [p2], by omega, by simp [hpl], by omega, ?_, by simp [(hold 0 (by omega)).trans y0], by simp [(hold 1 (by omega)).trans y1], by simp, by simp [(hold 3 (by omega)).trans y3, oO], st_eq (by simp [dI, dL, hwk]) rfl⟩
   rw [htk, List.map_append]
   refine hLL1.snoc hn4 (hL2.same2 (fun x hx => ?_) (by omega)) (fun x hx => ?_) (by omega) (fun x hx1 hx2 => ?_)
   ·have hx2 : n' + 1 ≤ x := by rw [hp2] at hx; exact sh_ge _ _ _ x hx
    have : (2 = x) = False := eq_false (by omega)
    simp [this]
   ·have hx2 : n' + 1 ≤ x := by rw [hp2] at hx; exact sh_ge _ _ _ x hx
    omega
   ·have : (2 = x) = False := eq_false (by omega)
    simp only [Hp.get_set, this, if_false]
    exact hold x (by omega)
  simp at hb
  have hke : k = c.ins.length := by omega
  rw [hke, List.take_length] at hLL
  refine wkciv (jn @dI.eq_1 @dL.eq_1) ?_
  refine ⟨.inr rfl, _, rfl, .inr rfl, .mk ⟨3, 3, 1, 1, 2, 2⟩ ps, rfl, ?_⟩
  rw [newT]
  exact hLL.lies (by simp) (by simp) (by simp) (by simp) (by simp) (by simp) (by simp) hn4 (by rw [h3]; rfl) h2 h1
 obtain ⟨v, t, h1, p, h2, h3⟩ := main
 exact ⟨_, p, h1, h2, h3⟩
end Go.Ac
end

section
set_option maxRecDepth 4000
namespace Go.Ac
open Go.Proofs
attribute [local simp] Hp.get_set addNew_zero
theorem findC_none {l : List Cl} {x : Tx} (h : (findC l x).2 = false) : ixP (fun d : Cl => decide (d.nm = x)) l = -1 := by
 unfold findC at h
 unfold ixP
 cases hf : l.find? (fun d => decide (d.nm = x)) with
 | some d => rw [hf] at h; cases h
 | none =>
  rw [List.find?_eq_none] at hf
  have : List.findIdx? (fun d : Cl => decide (d.nm = x)) l = none := by
   rw [List.findIdx?_eq_none_iff]
   intro y hy
   have := hf y hy
   simpa using this
  rw [this]
theorem kf13 (r : Nat) : Ob.keep 13 r = Ob.k13 r := by kernel_rfl
attribute [local simp] kf13 Ob.k13
section
variable (o : Oc) (nm : Tx) (hsz : o.sz ≤ 2097152) (hok : o.ok)
include hsz hok
theorem new13_bad (h : checkRef o ≠ 0) : den Tryz.prog Ob.cfg 13 [aG o.cells, dS nm] = some (.tuple [.con (.pointer none), dI (checkRef o)]) := by
 have hc := check_den o hsz hok
 simp only [aG, Oc.cells, List.map_cons, List.map_nil, dI] at hc
 refine den_wp Tryz.func13 rfl (by kernel_rfl) rfl rfl ?_
 refine wkciv (jn @dI.eq_1 (jn @dS.eq_1 (jn @aG.eq_1 (jn @Oc.cells.eq_1 (jn @hc (jn @h @int_bne)))))) ?_
 show retQ _ _ _ _ _
 exact ⟨.inr rfl, _, _, rfl, rfl⟩
theorem new13_none (h : checkRef o = 0) (hf : (findC o.cl nm).2 = false) : den Tryz.prog Ob.cfg 13 [aG o.cells, dS nm] = some (.tuple [.con (.pointer none), dI 6]) := by
 have hc := check_den o hsz hok
 unfold Oc.sz at hsz
 have k2 := len_szC o.cl
 have hx := find34 o nm (by unfold MX; omega)
 rw [findC_none hf] at hx
 rw [h] at hc
 simp only [aG, Oc.cells, List.map_cons, List.map_nil, dI, dS] at hc hx
 refine den_wp Tryz.func13 rfl (by kernel_rfl) rfl rfl ?_
 refine wkciv (jn @dI.eq_1 (jn @dS.eq_1 (jn @aG.eq_1 (jn @Oc.cells.eq_1 (jn @hc (jn @hx @int_bne)))))) ?_
 show retQ _ _ _ _ _
 exact ⟨.inr rfl, _, _, rfl, rfl⟩
/-- What New gives. -/
theorem new13_ok (h : checkRef o = 0) (hf : (findC o.cl nm).2 = true) : ∃ (q : CR) (p : Pt), lim Tryz.prog Ob.cfg 13 [aG o.cells, dS nm] [] 0 0 = some q ∧ q.v = .tuple [.ptr p.a.x p.a.gx 0, dI 0] ∧ Lies o.en (newT o o.cl.length (findC o.cl nm).1) p q.hp q.n := by
 have hc := check_den o hsz hok
 have hcp := copy36 o hsz
 obtain ⟨i, hxi, hia, _⟩ := findC_ix hf
 have hilt := (List.getElem?_eq_some_iff.1 hia).1
 obtain ⟨q, p, hI1, hqv, hLq⟩ := inst35 h hsz (i + 1) i _ (Nat.lt_succ_self i) hia
 rw [← newT_fuel h o.cl.length o.cl.length i _ (Nat.le_refl _) hia hilt] at hLq
 unfold Oc.sz at hsz
 have k2 := len_szC o.cl
 have hx := find34 o nm (by unfold MX; omega)
 rw [hxi] at hx
 rw [h] at hc
 have hi0 := eq_false (show ¬ (i : Int) < 0 by omega)
 simp only [aG, Oc.cells, List.map_cons, List.map_nil, dI, dS] at hc hx hcp hI1
 have hI2 : closeT noLook q.v = none := by rw [hqv]; rfl
 have main : ∃ (v : V) (t : St), lim Tryz.prog Ob.cfg 13 [aG o.cells, dS nm] [] 0 0 = some ⟨v, t.hp, t.n, t.c, t.wl⟩ ∧ ∃ p : Pt, v = .tuple [.ptr p.a.x p.a.gx 0, dI 0] ∧ Lies o.en (newT o o.cl.length (findC o.cl nm).1) p t.hp t.n := by
  refine lim_wp (Q := fun v (t : St) => ∃ p : Pt, v = .tuple [.ptr p.a.x p.a.gx 0, dI 0] ∧ Lies o.en (newT o o.cl.length (findC o.cl nm).1) p t.hp t.n) Tryz.func13 rfl (by kernel_rfl) ?_
  refine wkciv (jn @envOf.eq_1 (jn @envOf.eq_2 (jn @dI.eq_1 (jn @dS.eq_1 (jn @aG.eq_1 (jn @Oc.cells.eq_1 (jn @hc (jn @hx (jn @hcp (jn @int_bne @hi0)))))))))) ?_
  obtain ⟨p2, hp2⟩ : ∃ p2, p2 = p.sh 1 1 := ⟨_, rfl⟩
  have hI3 : shiftV 1 1 q.v = .ptr p2.a.x p2.a.gx 0 := by rw [hqv, hp2, Pt.sh_a]; simp [shiftV, Pb.sh]
  obtain ⟨W1, hI4⟩ : ∃ W, shiftH 1 1 (wrOf q.hp.get (List.range q.n)) = W := ⟨_, rfl⟩
  have hL2 : Lies o.en (newT o o.cl.length (findC o.cl nm).1) p2 (Hp.sets [(0, ⟨0, false, [V.d (.slice (encE o.en)), V.d (.slice (encC o.cl))]⟩)] W1) (q.n + 1) := by rw [← hI4, hp2]; exact hLq.import
  refine wkciv (jn @dI.eq_1 (jn @dL.eq_1 @hcp)) ?_
  refine ⟨.inr rfl, _, rfl, .inr rfl, p2, rfl, hL2.same2 (fun _ _ => rfl) ?_⟩
  show q.n + 1 ≤ 1 + q.n
  omega
 obtain ⟨v, t, h1, p, h2, h3⟩ := main
 exact ⟨_, p, h1, h2, h3⟩
end
end Go.Ac
end

section
set_option maxRecDepth 4000
namespace Go.Ac
open Go.Proofs Go.ChangeShapes Go.WideShapes Go.RowKit
open Go.Proofs.YtkgekafdhehleaaGreat (Rows.uptoBulk Rows.uptoBulkAll Rows.uptoSmall)

theorem noCount : NoCount Tryz.prog := by
 have h : (Tryz.prog.funcs.toList.all fun fn => !(fn.name == "runtime.NumGoroutine")) = true := by kernel_rfl
 intro f fn hf _
 rw [List.all_eq_true] at h
 have := h fn (List.mem_of_getElem? (by rw [Array.getElem?_toList]; exact hf))
 simpa using this

theorem cloneOK : ∀ f p, Ob.cfg.prim f = some p → CloneAt Tryz.prog f p.1 p.2 := by
 intro f p h
 simp only [prim_Ob, Ob.prim] at h
 split at h
 ·simp at h; subst h
  exact CloneAt.of (t := 71) (e := 9) Tryz.func80 rfl rfl rfl (by kernel_rfl) (by kernel_rfl) ⟨rfl, rfl, rfl⟩ ⟨rfl, rfl, rfl⟩ ⟨rfl, rfl, rfl⟩ ⟨rfl, rfl, rfl⟩ ⟨rfl, rfl, rfl⟩ ⟨rfl, rfl, rfl⟩ ⟨rfl, rfl, rfl⟩ ⟨rfl, rfl, rfl⟩
 ·simp at h; subst h
  exact CloneAt.of (t := 31) (e := 46) Tryz.func81 rfl rfl rfl (by kernel_rfl) (by kernel_rfl) ⟨rfl, rfl, rfl⟩ ⟨rfl, rfl, rfl⟩ ⟨rfl, rfl, rfl⟩ ⟨rfl, rfl, rfl⟩ ⟨rfl, rfl, rfl⟩ ⟨rfl, rfl, rfl⟩ ⟨rfl, rfl, rfl⟩ ⟨rfl, rfl, rfl⟩
 ·simp at h; subst h
  exact CloneAt.of (t := 32) (e := 103) Tryz.func82 rfl rfl rfl (by kernel_rfl) (by kernel_rfl) ⟨rfl, rfl, rfl⟩ ⟨rfl, rfl, rfl⟩ ⟨rfl, rfl, rfl⟩ ⟨rfl, rfl, rfl⟩ ⟨rfl, rfl, rfl⟩ ⟨rfl, rfl, rfl⟩ ⟨rfl, rfl, rfl⟩ ⟨rfl, rfl, rfl⟩
 ·simp at h; subst h
  exact CloneAt.of (t := 33) (e := 106) Tryz.func83 rfl rfl rfl (by kernel_rfl) (by kernel_rfl) ⟨rfl, rfl, rfl⟩ ⟨rfl, rfl, rfl⟩ ⟨rfl, rfl, rfl⟩ ⟨rfl, rfl, rfl⟩ ⟨rfl, rfl, rfl⟩ ⟨rfl, rfl, rfl⟩ ⟨rfl, rfl, rfl⟩ ⟨rfl, rfl, rfl⟩
 ·simp at h; subst h
  exact CloneAt.of (t := 72) (e := 34) Tryz.func137 rfl rfl rfl (by kernel_rfl) (by kernel_rfl) ⟨rfl, rfl, rfl⟩ ⟨rfl, rfl, rfl⟩ ⟨rfl, rfl, rfl⟩ ⟨rfl, rfl, rfl⟩ ⟨rfl, rfl, rfl⟩ ⟨rfl, rfl, rfl⟩ ⟨rfl, rfl, rfl⟩ ⟨rfl, rfl, rfl⟩
 ·simp at h; subst h
  exact CloneAt.of (t := 132) (e := 214) Tryz.func152 rfl rfl rfl (by kernel_rfl) (by kernel_rfl) ⟨rfl, rfl, rfl⟩ ⟨rfl, rfl, rfl⟩ ⟨rfl, rfl, rfl⟩ ⟨rfl, rfl, rfl⟩ ⟨rfl, rfl, rfl⟩ ⟨rfl, rfl, rfl⟩ ⟨rfl, rfl, rfl⟩ ⟨rfl, rfl, rfl⟩
 ·simp at h
theorem preOK : Pre Tryz.prog Ob.cfg := ⟨noCount, primOK cloneOK⟩
theorem mixed : Tryz.prog.follows .mixedOrders = true := by kernel_rfl
abbrev m0 (W : World) : M := ⟨fun _ => none, fun _ => none, fun _ g => g < 0, W⟩
theorem RD.m0 {W : World} {d : D} {v : Value} (h : RD W noB d v) : RD (m0 W).w ((m0 W).av noB) d v := h.mono fun b _ hn => ⟨fun hx => by
 rcases hx with hx | ⟨id, o, x, hx, _⟩
 ·exact hx
 ·simp at hx, rfl⟩
theorem glob_ok {W : World} : ∀ g, RV noB (m0 W) (Gl.gv g) (.pointer (some ⟨g, 0, none⟩)) := fun g => .any _

/-- A call by data is a call of the model's. -/
theorem den_calls {f : FuncId} {ws : List V} {xs : List Value} {b : Bool} {W : World} (hd : den Tryz.prog Ob.cfg f ws = some (.d (.bool b))) (hx : RVs noB (m0 W) ws xs) :
  Calls Tryz.prog f xs.toArray W fun e W' => e = .returned (.bool b) ∧ Grown W W' ∧ ∀ i, i < W.heap.size → W'.heap[i]? = W.heap[i]? := by
 unfold den at hd
 split at hd
 ·rename_i r hr
  split at hd
  ·simp only [Option.some.injEq] at hd
   obtain ⟨K, hK⟩ := lim_some hr
   have hok := (callF_ok Ob.cfg preOK mixed K).ok (hK K (Nat.le_refl _)) (fun id _ => rfl) (S := noB) (m := m0 W) (xs := xs) rfl rfl
    ⟨glob_ok, fun id o h => by simp at h, fun id o h => by simp at h, fun id o b base h => by simp at h, fun i j oi oj b x y h => by simp at h, fun b h => h.elim⟩ hx
   refine hok.mono fun e W' ⟨x, m', he, hw, hRel, hEvo, hRV, _, _⟩ => ?_
   rw [hd] at hRV
   have hx2 : x = .bool b := by
    cases hRV with
    | d h => cases h; rfl
   have hheap : ∀ i, i < W.heap.size → W'.heap[i]? = W.heap[i]? := fun i hi => by
    rw [← hw]
    refine (hEvo.keep i hi ?_).2
    rintro (h | ⟨id, o, x, h, _⟩)
    ·exact h
    ·simp at h
   refine ⟨by rw [he, hx2], ⟨⟨by rw [← hw]; exact hEvo.rest.1, by rw [← hw]; exact hEvo.rest.2.1, fun i hi => ?_⟩, fun a => by rw [← hw]; exact hEvo.rest.2.2 a, by rw [← hw]; exact hEvo.size⟩, hheap⟩
   rw [hheap i hi]
   exact (World.keptBut_refl W (fun _ => False)).2.2 i hi
  ·simp at hd
 ·simp at hd


theorem kids : Kids Tryz.prog (· < Tryz.prog.types.size) := kids_rows (by kernel_rfl) (by kernel_rfl)
theorem full : ∀ t e, t < Tryz.prog.types.size → Tryz.prog.underlying t = some (.slice e) → 0 < Tryz.prog.cellsOf e := slices_full_of Tryz.prog (by kernel_rfl)

theorem lt25 : 25 < Tryz.prog.types.size := of_decide_eq_true (by kernel_rfl)
theorem lt9 : 9 < Tryz.prog.types.size := of_decide_eq_true (by kernel_rfl)
theorem lt30 : 30 < Tryz.prog.types.size := of_decide_eq_true (by kernel_rfl)
theorem stay {H : Type} {enc : TypeId × Value → H} {W : World} {t : TypeId} {v : Value} {d : DataW H} {ps : List MemPlace} (ht : t < Tryz.prog.types.size) (h : DataW.Trod enc Tryz.prog W 0 (fun _ => true) true t v d ps) :
  ∀ (W' : World) (sp : Nat → Bool), (∀ i, i < W.heap.size → W'.heap[i]? = W.heap[i]?) → (∀ p ∈ ps, sp p.block = true) → DataW.Trod enc Tryz.prog W' 0 sp true t v d ps := fun W' sp hh hs => by
 obtain ⟨fuel, hf⟩ := h
 refine ⟨fuel, DataW.trod_stays kids (fun {t e} ht => full t e ht) (fun hh => by cases hh) ht hf (fun p hp => ?_) hs⟩
 have hlt := DataW.trod_lt fuel t _ _ hf p hp
 cases p with
 | cell b off => simp only [World.sameAt, World.cell?]; rw [hh b hlt]
 | map b => simp only [World.sameAt]; exact hh b hlt

section
variable {H : Type} {enc : TypeId × Value → H} {W : World} {r : Reach} {base : Nat} {v : Value} {d : DataW H} {ps : List MemPlace}
theorem open25 (hv : Value.okWide Tryz.prog W r base 25 v) (h : DataW.Trod enc Tryz.prog W 0 (fun _ => true) true 25 v d ps) : ∃ x : Oc, x.sz ≤ 2 * Rows.uptoBulk d ∧ x.ok ∧ RV noB (m0 W) (aG x.cells) v := by
 obtain ⟨cs, rfl, hcs⟩ : ∃ cs, v = .agg cs ∧ cs.size = 2 := by
  unfold Value.okWide at hv
  rw [Tryz.underlying25] at hv
  obtain ⟨cs, h1, h2, _⟩ := hv
  exact ⟨cs, h1, by rw [h2, cz25]⟩
 obtain ⟨fuel, hf⟩ := h
 obtain ⟨x, h1, h2, h3⟩ := openOc hf
 refine ⟨x, h2, h3, .agg (by simp [Oc.cells, hcs]) fun j a y hx hy => ?_⟩
 rw [List.getElem?_map, Option.map_eq_some_iff] at hx
 obtain ⟨d, hd, rfl⟩ := hx
 exact .d (h1.2 j d y hd (by simpa [Value.cells] using hy)).m0
end

end Go.Ac
end

section
set_option maxRecDepth 4000
namespace Go.Ac
open Go.Proofs Go.ChangeShapes Go.WideShapes Go.RowKit
open Go.Proofs.YtkgekafdhehleaaGreat (Rows.uptoBulk Rows.uptoBulkAll Rows.uptoSmall)
def dLL (l : List (List Int)) : V := .d (.slice (encL l))
section
variable {H : Type} {enc : TypeId × Value → H} {W : World} {r : Reach} {base : Nat} {v : Value} {d : DataW H} {ps : List MemPlace}
theorem open30 (hv : Value.okWide Tryz.prog W r base 30 v) (h : DataW.Trod enc Tryz.prog W 0 (fun _ => true) true 30 v d ps) : ∃ l : List (List Int), l.length ≤ Rows.uptoBulk d ∧ (∀ r ∈ l, r.length ≤ Rows.uptoBulk d) ∧ RV noB (m0 W) (dLL l) v := by
 obtain ⟨a, len, cap, rfl⟩ := okWide_slice Tryz.underlying30 hv
 obtain ⟨fuel, hf⟩ := h
 obtain ⟨l, v', h1, h2, h3, h4⟩ := openRow hf
 have hv' : v' = .slice a len cap := by simpa [Value.cells] using h1.symm
 subst hv'
 exact ⟨l, h3, h4, .d h2.m0⟩
theorem open9 (hv : Value.okWide Tryz.prog W r base 9 v) (h : DataW.Trod enc Tryz.prog W 0 (fun _ => true) true 9 v d ps) : ∃ s : Tx, RV noB (m0 W) (dS s) v := by
 obtain ⟨s, rfl⟩ := okWide_string Tryz.underlying9 hv
 exact ⟨s.data.toList, .d (RD.m0 (.str _ _ rfl))⟩
end
/-- What a law of these arguments comes to. -/
theorem contractSRR {f : FuncId} {fn : Func} {spec : ChangeSpec} (hp : fn.params = #[25, 9, 30, 30]) (hr : fn.resultTypes = #[4]) (hvars : spec.vars = []) (hspec : ∀ (H : Type) (d0 d1 d2 d3 : DataW H), spec.fn H [d0, d1, d2, d3] = { results := [.lit (.bool true)], args := [d0, d1, d2, d3] })
  (hden : ∀ (x1 : Oc) (s1 : Tx) (r1 : List (List Int)) (r2 : List (List Int)), x1.sz ≤ 2097152 → x1.ok → r1.length ≤ 1048576 → (∀ r ∈ r1, r.length ≤ 1048576) → r2.length ≤ 1048576 → (∀ r ∈ r2, r.length ≤ 1048576) → den Tryz.prog Ob.cfg f [aG x1.cells, dS s1, dLL r1, dLL r2] = some (.d (.bool true)))
  (H : Type) (enc : TypeId × Value → H) (W : World) (base : Nat) (args : Array Value) (ds gs : List (DataW H)) (before : List MemPlace)
  (hval : ∀ (j : Nat) t v, fn.params[j]? = some t → args[j]? = some v → Value.okWide Tryz.prog W .any base t v)
  (hW : DataW.Whole enc Tryz.prog fn.params.toList spec.vars false W args.toList ds gs before) (hk : Rows.uptoSmall H (ds ++ gs) = true) :
  Calls Tryz.prog f args W fun e W' => ∃ v, e = .returned v ∧ spec.post enc Tryz.prog fn false true false false W args v W' := by
 have hW' := hW
 obtain ⟨p, q, hA0, hV, rfl, hfz, hnd⟩ := hW
 have hA : DataW.TrodAll enc Tryz.prog W 0 (fun _ => true) true fn.params.toList args.toList ds p := hA0
 rw [hp] at hA hval
 obtain ⟨v0, vs0, d0, ds0, p0, q0, hargs, rfl, rfl, h0, r0⟩ := trodAll_cons hA
 obtain ⟨v1, vs1, d1, ds1, p1, q1, rfl, rfl, rfl, h1, r1⟩ := trodAll_cons r0
 obtain ⟨v2, vs2, d2, ds2, p2, q2, rfl, rfl, rfl, h2, r2⟩ := trodAll_cons r1
 obtain ⟨v3, vs3, d3, ds3, p3, q3, rfl, rfl, rfl, h3, r3⟩ := trodAll_cons r2
 obtain ⟨rfl, rfl, rfl⟩ := trodAll_nil r3
 obtain rfl : args = #[v0, v1, v2, v3] := by cases args; simp_all
 rw [hvars] at hV
 obtain ⟨rfl, rfl⟩ := trodVars_none hV
 have hb : Rows.uptoBulk d0 + (Rows.uptoBulk d1 + (Rows.uptoBulk d2 + (Rows.uptoBulk d3))) ≤ 1048576 := by
  have h1 := of_decide_eq_true hk
  simp only [List.append_nil, Rows.uptoBulkAll] at h1
  omega
 obtain ⟨x1, a0, b0, hRV0⟩ := open25 (hval 0 25 v0 rfl rfl) h0
 obtain ⟨s1, hRV1⟩ := open9 (hval 1 9 v1 rfl rfl) h1
 obtain ⟨r1, a2, b2, hRV2⟩ := open30 (hval 2 30 v2 rfl rfl) h2
 obtain ⟨r2, a3, b3, hRV3⟩ := open30 (hval 3 30 v3 rfl rfl) h3
 have hd := hden x1 s1 r1 r2 (by omega) b0 (by omega) (fun r hr => by have := b2 r hr; omega) (by omega) (fun r hr => by have := b3 r hr; omega)
 refine (den_calls (xs := [v0, v1, v2, v3]) hd ⟨rfl, fun j x y hx hy => ?_⟩).mono fun e W' ⟨he, hg, hh⟩ => ?_
 ·match j with
  | 0 => simp at hx hy; subst hx; subst hy; exact hRV0
  | 1 => simp at hx hy; subst hx; subst hy; exact hRV1
  | 2 => simp at hx hy; subst hx; subst hy; exact hRV2
  | 3 => simp at hx hy; subst hx; subst hy; exact hRV3
  | j + 4 => simp at hx
 subst he
 clear hA0
 simp only [List.append_nil] at hW'
 have hfn := hspec H d0 d1 d2 d3
 refine ⟨_, rfl, post_of_same (pa := p0 ++ (p1 ++ (p2 ++ (p3 ++ [])))) (pv := []) (by simpa using hW') (fun _ _ _ => ?_) (fun sp hs => ?_) (fun _ _ => ?_) (by simp) (hg.frame _) hg.2.1 ?_⟩
 ·rw [hr]
  show DataW.TrodAll enc Tryz.prog W' _ _ _ [4] [.bool true] (spec.fn H [d0, d1, d2, d3]).results []
  rw [hfn]
  exact trodAll_cons_mk (shut_bool Tryz.underlying4 _) trodAll_mk0
 ·rw [hp]
  show DataW.TrodAll enc Tryz.prog W' 0 sp true [25, 9, 30, 30] [v0, v1, v2, v3] (spec.fn H [d0, d1, d2, d3]).args (p0 ++ (p1 ++ (p2 ++ (p3 ++ []))))
  rw [hfn]
  exact trodAll_cons_mk (stay lt25 h0 W' sp hh fun p hp => hs p (by simp [hp])) (trodAll_cons_mk (stay lt9 h1 W' sp hh fun p hp => hs p (by simp [hp])) (trodAll_cons_mk (stay lt30 h2 W' sp hh fun p hp => hs p (by simp [hp])) (trodAll_cons_mk (stay lt30 h3 W' sp hh fun p hp => hs p (by simp [hp])) trodAll_mk0)))
 ·show DataW.TrodVars enc Tryz.prog W' _ spec.vars (spec.fn H [d0, d1, d2, d3]).vars []
  rw [hvars, hfn]
  exact rfl
 ·exact ok_one hr rfl (okWide_bool_mk Tryz.underlying4 _)
end Go.Ac
end
