/- Instances that are taken over at another place (plain). -/
import Derived.Test.YtkgekafdhehleaaGreatAcA
import Derived.Test.YtkgekafdhehleaaGreatAcB
import Derived.Test.YtkgekafdhehleaaGreatAcDM
import Derived.Test.YtkgekafdhehleaaGreatAcGM
import Derived.Test.YtkgekafdhehleaaGreatAcJM
import Derived.Test.YtkgekafdhehleaaGreatAcNM
import Derived.Test.YtkgekafdhehleaaGreatAcQM
import Derived.Test.YtkgekafdhehleaaGreatAcTM
import Derived.Test.YtkgekafdhehleaaGreatAcXM
import Derived.Test.YtkgekafdhehleaaGreatAcThM
import Derived.Test.YtkgekafdhehleaaGreatAcQvM
import Derived.Test.YtkgekafdhehleaaGreatObCM
import Derived.Test.YtkgekafdhehleaaGreatObD
import Derived.Test.YtkgekafdhehleaaGreatObE
import Derived.Test.YtkgekafdhehleaaGreatObKM
import Derived.Test.YtkgekafdhehleaaGreatObPcM
import Derived.Test.YtkgekafdhehleaaGreatObPd
import Derived.Test.YtkgekafdhehleaaGreatObPe
import Derived.Test.YtkgekafdhehleaaGreatObXaM
import Derived.Test.YtkgekafdhehleaaGreatObPhM
import Derived.Test.YtkgekafdhehleaaGreatObWxM
import Derived.Test.YtkgekafdhehleaaGreatObPnM
import Derived.Test.YtkgekafdhehleaaGreatObIxM
import Derived.Test.YtkgekafdhehleaaGreatObQaM
import Derived.Test.YtkgekafdhehleaaGreatAcMlM
import Derived.Test.YtkgekafdhehleaaGreatObXvM
import Derived.Test.YtkgekafdhehleaaGreatObYcM
import Derived.Calls
import Derived.Orders
import Derived.Laws.World
import Derived.Laws.Sem
import Derived.Laws.Cells
import Derived.Laws.Append
import GoSem.ClaimData
import Derived.Laws.Tables
import Derived.Laws.Slices
import Derived.Laws.Strings
import Derived.Laws.Small
import Derived.Laws.IdiomRangeMap
import Derived.KernelRfl
import Derived.Test.YtkgekafdhehleaaGreatChecked
import Derived.Test.YtkgekafdhehleaaGreatRows
import Derived.Deep.Slices
import Derived.ChangeArms
import Derived.RowKit3
import Derived.ReadAgain
import Derived.ChangeStays
set_option linter.unusedVariables false
set_option linter.unusedSimpArgs false
section
set_option maxRecDepth 4000
set_option linter.unusedSimpArgs false
set_option linter.unusedVariables false
namespace Go.Ac
open Go.Proofs
attribute [local simp] Hp.get_set get_trunc_lt
theorem rowsOf_S (look : Look) (l : List Tx) : rowsOf look 1 (.d (.slice (encS l))) = some (l.length, fl (encS l), []) := by
  have h : (encS l).all (fun r => Nat.beq r.length 1) = true := by
    rw [List.all_eq_true]; intro r hr; rw [encS_row l r hr]; rfl
  unfold rowsOf
  simp only [h, encS_len]
  rfl
theorem kf84 (r : Nat) : Ob.keep 84 r = Ob.k84 r := by kernel_rfl
attribute [local simp] kf84 Ob.k84
set_option maxHeartbeats 4000000 in
theorem copy84 : ∀ (N : Nat) (l : List Y), szY l < N → szY l ≤ 8388608 → den Tryz.prog Ob.cfg 84 [dL (encY l)] = some (dL (encY l)) := by
  intro N
  induction N with
  | zero => intro l h; omega
  | succ N ih =>
  intro l hN hM
  have hlen := len_szY l
  refine den_wp Tryz.func84 rfl (by kernel_rfl) rfl rfl ?_
  refine wkcnv (And.intro @envOf.eq_1 (And.intro @envOf.eq_2 (And.intro @dL.eq_1 (And.intro @fillV.eq_1 (And.intro @fillV.eq_2 @encY_len))))) ?_
  apply WP.loop' (I := fun D s => ∃ (j g c' : Nat) (hp' : Hp), j + D = l.length ∧ hp'.get 0 = some ⟨g, false, fl (encY (l.take j))⟩ ∧
    s = ⟨[(3, .osl 0 g 0 j 12 none), (9, dL (encY l)), (10, dI l.length), (11, dI j)], hp', 1, c', 0, []⟩) (d := l.length)
  · exact ⟨0, 0, _, _, by simp, by simp [fl, encY], st_eq (by simp [dI, dL]) rfl⟩
  rintro D _ ⟨j, g, c', hp', hj, hx, rfl⟩
  refine wknv (And.intro @dI.eq_1 @dL.eq_1) ?_
  show WP _ _ _ _ _ _
  refine WP.cond _ rfl (fun hb => ?_) (fun hb => ?_)
  · simp at hb
    have hb' : j < l.length := by omega
    obtain ⟨y, hy, hym, hix⟩ := at_lt hb'
    have hy' := encY_at hy
    have hwj := w_succ hb' (by omega)
    have hs0 := Y.sz_eq y
    have hms := mem_szY hym
    have hc1 := copy122 _ [y.r] (Nat.lt_succ_self _) (by rw [szX, szX]; omega)
    have hc2 := copy122 _ y.args (Nat.lt_succ_self _) (by omega)
    rw [show encX [y.r] = [y.r.cells] by simp [encX_map]] at hc1
    simp only [dL, X.cells_eq] at hc1 hc2
    have i0 : idx 0 1 = some 0 := rfl
    have hos := len_szS y.outs
    have fS : fitsB y.outs.length 16 = true := by simp [fitsB]; omega
    have s2 := fl_len (encS_row y.outs)
    have s3 := fl_take (encS_row y.outs)
    have s4 := chunk_flat (encS_row y.outs)
    rw [encS_len, Nat.mul_one] at s2 s3
    rw [encS_len] at s4
    repeat (first
 | apply WP.seq
 | (apply WP.reg; (case hR => dsimp only [prepL, prepO, List.map, gS, gZ]; exact iZ); (case hr => (repeat (first
 | (apply RT.op; simp [dI, dL, Y.cells_eq, X.cells_eq, hix, hy', hc1, hc2, i0, fillV, closeParts, cl2, toD_dep, toD_d, toDs, chunk, nble_d, roOf, encY_len, encB_len, encS_len, encX_len, hx, rowsOf_S, cloneV, fS, s2, s3, s4, toDs_fl]; exact iZ; (try dsimp only [putEnv]) <;> exact rfl)
 | (apply RT.call; (iterate 2 simp; exact iZ); exact iZ; (iterate 4 simp [dI, dL, Y.cells_eq, X.cells_eq, hix, hy', hc1, hc2, i0, fillV, closeParts, cl2, toD_dep, toD_d, toDs, chunk, nble_d, roOf, encY_len, encB_len, encS_len, encX_len, hx, rowsOf_S, cloneV, fS, s2, s3, s4, toDs_fl]; exact iZ); simp [Is]; (try dsimp only [putEnv]) <;> exact rfl; simp; exact iZ; simp; exact iZ)
 | (apply RT.clone; (iterate 2 simp; exact iZ); exact iZ; (iterate 2 simp [dI, dL, Y.cells_eq, X.cells_eq, hix, hy', hc1, hc2, i0, fillV, closeParts, cl2, toD_dep, toD_d, toDs, chunk, nble_d, roOf, encY_len, encB_len, encS_len, encX_len, hx, rowsOf_S, cloneV, fS, s2, s3, s4, toDs_fl]; exact iZ); (first | assumption | (simp [fitsB]; omega)); (try dsimp only [putEnv]) <;> exact rfl; simp [dI, dL, Y.cells_eq, X.cells_eq, hix, hy', hc1, hc2, i0, fillV, closeParts, cl2, toD_dep, toD_d, toDs, chunk, nble_d, roOf, encY_len, encB_len, encS_len, encX_len, hx, rowsOf_S, cloneV, fS, s2, s3, s4, toDs_fl]; exact iZ; simp; exact iZ)
 | (apply RT.callV; (iterate 2 simp; exact iZ); exact iZ; (iterate 3 simp [dI, dL, Y.cells_eq, X.cells_eq, hix, hy', hc1, hc2, i0, fillV, closeParts, cl2, toD_dep, toD_d, toDs, chunk, nble_d, roOf, encY_len, encB_len, encS_len, encX_len, hx, rowsOf_S, cloneV, fS, s2, s3, s4, toDs_fl]; exact iZ); (try dsimp only [putEnv]) <;> exact rfl)
 | (apply RT.wr; simp [dI, dL, Y.cells_eq, X.cells_eq, hix, hy', hc1, hc2, i0, fillV, closeParts, cl2, toD_dep, toD_d, toDs, chunk, nble_d, roOf, encY_len, encB_len, encS_len, encX_len, hx, rowsOf_S, cloneV, fS, s2, s3, s4, toDs_fl]; exact iZ; (try dsimp only [putEnv]) <;> exact rfl; simp [dI, dL, Y.cells_eq, X.cells_eq, hix, hy', hc1, hc2, i0, fillV, closeParts, cl2, toD_dep, toD_d, toDs, chunk, nble_d, roOf, encY_len, encB_len, encS_len, encX_len, hx, rowsOf_S, cloneV, fS, s2, s3, s4, toDs_fl]; exact iZ; (iterate 2 exact iZ); simp; exact iZ))); exact RT.nil); (case hc => first | (refine checkR_un [(0, 2), (1, 2), (0, 3), (1, 3), (0, 4), (1, 4), (2, 4), (3, 4), (0, 5), (1, 5), (2, 5), (3, 5), (0, 6), (1, 6), (2, 6), (3, 6), (4, 6), (5, 6), (0, 7), (1, 7), (2, 7), (3, 7), (4, 7), (5, 7), (0, 8), (1, 8), (2, 8), (3, 8), (4, 8), (5, 8), (0, 9), (1, 9), (2, 9), (3, 9), (4, 9), (5, 9), (0, 10), (1, 10), (2, 10), (3, 10), (4, 10), (5, 10), (0, 11), (1, 11), (2, 11), (3, 11), (4, 11), (5, 11), (0, 12), (1, 12), (2, 12), (3, 12), (4, 12), (5, 12), (6, 12), (7, 12), (8, 12), (9, 12), (10, 12), (11, 12), (0, 13), (1, 13), (2, 13), (3, 13), (4, 13), (5, 13), (6, 13), (7, 13), (8, 13), (9, 13), (10, 13), (11, 13), (0, 14), (1, 14), (2, 14), (3, 14), (4, 14), (5, 14), (10, 14), (11, 14), (0, 15), (1, 15), (2, 15), (3, 15), (4, 15), (5, 15), (6, 15), (7, 15), (8, 15), (9, 15), (10, 15), (11, 15), (12, 15), (13, 15), (14, 15), (0, 16), (1, 16), (2, 16), (3, 16), (4, 16), (5, 16), (6, 16), (7, 16), (8, 16), (9, 16), (10, 16), (11, 16), (12, 16), (13, 16), (14, 16), (0, 17), (1, 17), (2, 17), (3, 17), (4, 17), (5, 17), (10, 17), (11, 17), (0, 19), (1, 19), (2, 19), (3, 19), (4, 19), (5, 19), (6, 19), (7, 19), (8, 19), (9, 19), (10, 19), (11, 19), (12, 19), (13, 19), (14, 19), (15, 19), (16, 19), (17, 19), (18, 19)] (by kernel_rfl) (by kernel_rfl) rfl ?_; simp [memA, disj, nbeq_dec]; done) | (show _ = _; kernel_rfl)); (case ht => simp [dI, dL, Y.cells_eq, X.cells_eq, hix, hy', hc1, hc2, i0, fillV, closeParts, cl2, toD_dep, toD_d, toDs, chunk, nble_d, roOf, encY_len, encB_len, encS_len, encX_len, hx, rowsOf_S, cloneV, fS, s2, s3, s4, toDs_fl]; exact iZ))
 | apply WP.block | apply WP.skip | apply WP.exit | apply WP.ret | refine WP.condT rfl ?_ | refine WP.condF rfl ?_)
    apply WP.loop' (I := fun D2 s => ∃ (k gb c5 : Nat) (hp5 : Hp), k + D2 = y.brs.length ∧ hp5.get 0 = some ⟨g, false, fl (encY (l.take j))⟩ ∧ hp5.get 3 = some ⟨c' + 2, false, fl (encS y.outs)⟩ ∧
      hp5.get 4 = some ⟨c' + 3, false, [.d (.int .i64 y.k), .d (.str y.nm), .d (.int .i64 y.t), .d (.int .i64 y.r.k), .d (.int .i64 y.r.o), .d (.int .i64 y.r.t), .d (.int .i64 y.r.v), .d (.str y.r.nm), .d (.slice (encX y.r.args)), .osl 3 (c' + 2) 0 y.outs.length 1 none, .d (.slice (encX y.args)), .osl 5 gb 0 k 1 none]⟩ ∧
      hp5.get 5 = some ⟨gb, false, fl (encB (y.brs.take k))⟩ ∧
      s = ⟨[(3, .osl 0 g 0 j 12 none), (6, .ptr 4 (c' + 3) 0), (9, dL (encY l)), (10, dI l.length), (11, dI j), (35, dL (encB y.brs)), (36, dI y.brs.length), (37, dI k)], hp5, 6, c5, 0, []⟩) (d := y.brs.length)
    · exact ⟨0, c' + 4, _, _, by simp, by simp [hx], by simp, by simp, by simp [fl, encB], st_eq (by simp [dI, dL]) rfl⟩
    rintro D2 _ ⟨k, gb, c5, hp5, hk, h0, h3, h4, h5, rfl⟩
    refine wknv (And.intro @dI.eq_1 @dL.eq_1) ?_
    show WP _ _ _ _ _ _
    refine WP.cond _ rfl (fun hb => ?_) (fun hb => ?_)
    · simp at hb
      have hb5 : k < y.brs.length := by omega
      obtain ⟨b, hbb, hbm, hix5⟩ := at_lt hb5
      have hb' := encB_at hbb
      have hwk := w_succ hb5 (by have := len_szB y.brs; omega)
      have hms5 := mem_szB hbm
      have hcb := ih b (by omega) (by omega)
      simp only [dL] at hcb
      have hsn := take_snoc hbb
      have hLl : (y.brs.take k).length = k := by simp; omega
      have r2 := fl_len (encB_row (y.brs.take k))
      have r3 := fl_take (encB_row (y.brs.take k))
      have r4 := fl_snoc (encB (y.brs.take k)) [.slice (encY b)]
      have r5 := encB_snoc (y.brs.take k) b
      have f5 : fitsB (k + 1) 24 = true := by have := len_szB y.brs; simp [fitsB]; omega
      rw [r5, ← hsn] at r4
      rw [encB_len, hLl, Nat.mul_one] at r2 r3
      simp only [List.map_cons, List.map_nil] at r4
      repeat (first
 | apply WP.seq
 | (apply WP.reg; (case hR => dsimp only [prepL, prepO, List.map, gS, gZ]; exact iZ); (case hr => (repeat (first
 | (apply RT.op; simp [dI, dL, hix5, hb', hcb, fillV, closeParts, cl2, toD_dep, toD_d, nble_d, f5, r2, r3, r4, h0, h3, h4, h5]; exact iZ; (try dsimp only [putEnv]) <;> exact rfl)
 | (apply RT.call; (iterate 2 simp; exact iZ); exact iZ; (iterate 4 simp [dI, dL, hix5, hb', hcb, fillV, closeParts, cl2, toD_dep, toD_d, nble_d, f5, r2, r3, r4, h0, h3, h4, h5]; exact iZ); simp [Is]; (try dsimp only [putEnv]) <;> exact rfl; simp; exact iZ; simp; exact iZ)
 | (apply RT.clone; (iterate 2 simp; exact iZ); exact iZ; (iterate 2 simp [dI, dL, hix5, hb', hcb, fillV, closeParts, cl2, toD_dep, toD_d, nble_d, f5, r2, r3, r4, h0, h3, h4, h5]; exact iZ); (first | assumption | (simp [fitsB]; omega)); (try dsimp only [putEnv]) <;> exact rfl; simp [dI, dL, hix5, hb', hcb, fillV, closeParts, cl2, toD_dep, toD_d, nble_d, f5, r2, r3, r4, h0, h3, h4, h5]; exact iZ; simp; exact iZ)
 | (apply RT.callV; (iterate 2 simp; exact iZ); exact iZ; (iterate 3 simp [dI, dL, hix5, hb', hcb, fillV, closeParts, cl2, toD_dep, toD_d, nble_d, f5, r2, r3, r4, h0, h3, h4, h5]; exact iZ); (try dsimp only [putEnv]) <;> exact rfl)
 | (apply RT.wr; simp [dI, dL, hix5, hb', hcb, fillV, closeParts, cl2, toD_dep, toD_d, nble_d, f5, r2, r3, r4, h0, h3, h4, h5]; exact iZ; (try dsimp only [putEnv]) <;> exact rfl; simp [dI, dL, hix5, hb', hcb, fillV, closeParts, cl2, toD_dep, toD_d, nble_d, f5, r2, r3, r4, h0, h3, h4, h5]; exact iZ; (iterate 2 exact iZ); simp; exact iZ))); exact RT.nil); (case hc => first | (refine checkR_un [(0, 2), (1, 2), (0, 3), (1, 3), (0, 4), (1, 4)] (by kernel_rfl) (by kernel_rfl) rfl ?_; simp [memA, disj, nbeq_dec]; done) | (show _ = _; kernel_rfl)); (case ht => simp [dI, dL, hix5, hb', hcb, fillV, closeParts, cl2, toD_dep, toD_d, nble_d, f5, r2, r3, r4, h0, h3, h4, h5]; exact iZ))
 | apply WP.block | apply WP.skip | apply WP.exit | apply WP.ret | refine WP.condT rfl ?_ | refine WP.condF rfl ?_)
      refine loop_next (by simp [hwk]; exact Is.rfl) ?_
      exact ⟨D2 - 1, by omega, k + 1, c5 + 1, _, _, by omega, by simp [h0], by simp [h3], by simp, by simp, st_eq (by simp [dI, dL, hwk]) rfl⟩
    simp at hb
    have hke : k = y.brs.length := by omega
    rw [hke, List.take_length] at h5
    have hsn := take_snoc hy
    have hLl : (l.take j).length = j := by simp; omega
    have r2 := fl_len (encY_row (l.take j))
    have r3 := fl_take (encY_row (l.take j))
    have r4 := fl_snoc (encY (l.take j)) y.cells
    have r5 := encY_snoc (l.take j) y
    have f5 : fitsB (j + 1) 176 = true := by simp [fitsB]; omega
    rw [r5, ← hsn] at r4
    rw [encY_len, hLl] at r2 r3
    simp only [Y.cells_eq, X.cells_eq, List.map_cons, List.map_nil, List.map_append, List.cons_append, List.nil_append] at r4
    have u2 := fl_len (encB_row y.brs)
    have u3 := fl_take (encB_row y.brs)
    have u4 := chunk_flat (encB_row y.brs)
    rw [encB_len, Nat.mul_one] at u2 u3
    rw [encB_len] at u4
    refine wkcnv (And.intro @dI.eq_1 (And.intro @dL.eq_1 (And.intro @fillV.eq_1 (And.intro @fillV.eq_2 (And.intro @closeParts.eq_1 (And.intro @closeParts.eq_2 (And.intro @cl2.eq_def (And.intro @toD_dep (And.intro @toD_d (And.intro @toDs.eq_1 (And.intro @toDs.eq_2 (And.intro @chunk.eq_1 (And.intro @chunk.eq_2 (And.intro @nble_d (And.intro @f5 (And.intro @r2 (And.intro @r3 (And.intro @r4 (And.intro @s2 (And.intro @s3 (And.intro @s4 (And.intro @u2 (And.intro @u3 (And.intro @u4 (And.intro @toDs_fl (And.intro @h0 (And.intro @h3 (And.intro @h4 (And.intro @h5 @hke))))))))))))))))))))))))))))) ?_
    refine loop_next (by simp [hwj]; exact Is.rfl) ?_
    exact ⟨D - 1, by omega, j + 1, c5 + 1, _, _, by omega, by simp, st_eq (by simp [dI, dL, hwj]) rfl⟩
  · simp at hb
    have hje : j = l.length := by omega
    rw [hje, List.take_length] at hx
    refine wkcnv (And.intro @dI.eq_1 @dL.eq_1) ?_
    have hcl := close_fl (look := hp'.get) (id := 0) (g := g) (ro := false) (cap := none) (encY_row l) hx
    rw [encY_len, ← hje] at hcl
    exact ⟨.inr rfl, _, [0], rfl, hcl⟩
end Go.Ac
end

section
set_option maxRecDepth 4000
set_option linter.unusedSimpArgs false
set_option linter.unusedVariables false
namespace Go.Ac
open Go.Proofs
attribute [local simp] Hp.get_set get_trunc_lt
theorem rowsOf_d (look : Look) {sz : Nat} {l : List (List D)} (hr : ∀ r ∈ l, r.length = sz) : rowsOf look sz (.d (.slice l)) = some (l.length, fl l, []) := by
  have h : l.all (fun r => Nat.beq r.length sz) = true := by
    rw [List.all_eq_true]; intro r h1; rw [hr r h1]; simp
  unfold rowsOf
  simp only [h]
  rfl
theorem encE_row2 (l : List En) : ∀ r ∈ encE l, r.length = 2 := by unfold encE; intro r hr; obtain ⟨x, _, rfl⟩ := List.mem_map.1 hr; rfl
theorem encE_snoc1 (l : List En) (x : En) : encE l ++ [x.cells] = encE (l ++ [x]) := by simp [encE]
theorem encD_row3 (l : List Dc) : ∀ r ∈ encD l, r.length = 3 := by unfold encD; intro r hr; obtain ⟨x, _, rfl⟩ := List.mem_map.1 hr; rfl
theorem encM_row3 (l : List Mm) : ∀ r ∈ encM l, r.length = 3 := by unfold encM; intro r hr; obtain ⟨x, _, rfl⟩ := List.mem_map.1 hr; rfl
theorem encJ_row2 (l : List Ii) : ∀ r ∈ encJ l, r.length = 2 := by unfold encJ; intro r hr; obtain ⟨x, _, rfl⟩ := List.mem_map.1 hr; rfl
theorem encC_snoc1 (l : List Cl) (x : Cl) : encC l ++ [x.cells] = encC (l ++ [x]) := by simp [encC]
theorem kf36 (r : Nat) : Ob.keep 36 r = Ob.k36 r := by kernel_rfl
attribute [local simp] kf36 Ob.k36
set_option maxHeartbeats 8000000 in
theorem copy36 (o : Oc) (hsz : o.sz ≤ 2097152) : den Tryz.prog Ob.cfg 36 [aG o.cells] = some (aG o.cells) := by
  unfold Oc.sz at hsz
  have k1 := len_szE o.en
  have k2 := len_szC o.cl
  refine den_wp Tryz.func36 rfl (by kernel_rfl) rfl rfl ?_
  refine wkcnv (And.intro @envOf.eq_1 (And.intro @envOf.eq_2 (And.intro @aG.eq_1 (And.intro @Oc.cells.eq_1 (And.intro @dI.eq_1 (And.intro @dL.eq_1 (And.intro @fillV.eq_1 (And.intro @fillV.eq_2 @encE_len)))))))) ?_
  apply WP.loop' (I := fun D s => ∃ (j g c' : Nat) (hp' : Hp), j + D = o.en.length ∧ hp'.get 0 = some ⟨0, false, [V.d (.slice (encE o.en)), V.d (.slice (encC o.cl))]⟩ ∧ hp'.get 1 = some ⟨1, false, [.full [], .full []]⟩ ∧ hp'.get 2 = some ⟨2, false, [.osl 3 g 0 j 2 none, .osl 4 4 0 0 7 none]⟩ ∧ hp'.get 3 = some ⟨g, false, fl (encE (o.en.take j))⟩ ∧ hp'.get 4 = some ⟨4, false, []⟩ ∧
    s = ⟨[(1, .ptr 0 0 0), (2, .ptr 1 1 0), (3, .ptr 2 2 0), (9, dL (encE o.en)), (10, dI o.en.length), (11, dI j)], hp', 5, c', 0, []⟩) (d := o.en.length)
  · exact ⟨0, 3, _, _, by simp, rfl, rfl, rfl, rfl, rfl, st_eq (by simp [dI, dL]) rfl⟩
  rintro D _ ⟨j, g, c', hp', hj, h0, h1, h2, h3, h4, rfl⟩
  refine wknv (And.intro @dI.eq_1 @dL.eq_1) ?_
  show WP _ _ _ _ _ _
  refine WP.cond _ rfl (fun hb => ?_) (fun hb => ?_)
  · simp at hb
    have hb' : j < o.en.length := by omega
    obtain ⟨d, hd, hdm, hix⟩ := at_lt hb'
    have hd' := encE_at hd
    have hwj := w_succ hb' (by omega)
    have hms := mem_szE hdm
    unfold En.sz at hms
    have hos := len_szS d.tags
    have hsn := take_snoc hd
    have hLl : (o.en.take j).length = j := by simp; omega
    have r2 := fl_len (encE_row2 (o.en.take j))
    have r3 := fl_take (encE_row2 (o.en.take j))
    have r4 := fl_snoc (encE (o.en.take j)) d.cells
    have r5 := encE_snoc1 (o.en.take j) d
    have f5 : fitsB (j + 1) 40 = true := by simp [fitsB]; omega
    rw [r5, ← hsn] at r4
    rw [encE_len, hLl] at r2 r3
    simp only [En.cells, List.map_cons, List.map_nil] at r4
    have fS : fitsB d.tags.length 16 = true := by simp [fitsB]; omega
    have s0 := fun look => rowsOf_d look (encS_row d.tags)
    have s2 := fl_len (encS_row d.tags)
    have s3 := fl_take (encS_row d.tags)
    have s4 := chunk_flat (encS_row d.tags)
    rw [encS_len, Nat.mul_one] at s2 s3
    rw [encS_len] at s0 s4
    repeat (first
 | apply WP.seq
 | (apply WP.reg; (case hR => dsimp only [prepL, prepO, List.map, gS, gZ]; exact iZ); (case hr => (repeat (first
 | (apply RT.op; simp [dI, dL, hix, hd', En.cells, fillV, closeParts, cl2, toD_dep, toD_d, toDs, chunk, nble_d, f5, r2, r3, r4, s0, s2, s3, s4, fS, toDs_fl, cloneV, h0, h1, h2, h3, h4]; exact iZ; (try dsimp only [putEnv]) <;> exact rfl)
 | (apply RT.call; (iterate 2 simp; exact iZ); exact iZ; (iterate 4 simp [dI, dL, hix, hd', En.cells, fillV, closeParts, cl2, toD_dep, toD_d, toDs, chunk, nble_d, f5, r2, r3, r4, s0, s2, s3, s4, fS, toDs_fl, cloneV, h0, h1, h2, h3, h4]; exact iZ); simp [Is]; (try dsimp only [putEnv]) <;> exact rfl; simp; exact iZ; simp; exact iZ)
 | (apply RT.clone; (iterate 2 simp; exact iZ); exact iZ; (iterate 2 simp [dI, dL, hix, hd', En.cells, fillV, closeParts, cl2, toD_dep, toD_d, toDs, chunk, nble_d, f5, r2, r3, r4, s0, s2, s3, s4, fS, toDs_fl, cloneV, h0, h1, h2, h3, h4]; exact iZ); (first | assumption | (simp [fitsB]; omega)); (try dsimp only [putEnv]) <;> exact rfl; simp [dI, dL, hix, hd', En.cells, fillV, closeParts, cl2, toD_dep, toD_d, toDs, chunk, nble_d, f5, r2, r3, r4, s0, s2, s3, s4, fS, toDs_fl, cloneV, h0, h1, h2, h3, h4]; exact iZ; simp; exact iZ)
 | (apply RT.callV; (iterate 2 simp; exact iZ); exact iZ; (iterate 3 simp [dI, dL, hix, hd', En.cells, fillV, closeParts, cl2, toD_dep, toD_d, toDs, chunk, nble_d, f5, r2, r3, r4, s0, s2, s3, s4, fS, toDs_fl, cloneV, h0, h1, h2, h3, h4]; exact iZ); (try dsimp only [putEnv]) <;> exact rfl)
 | (apply RT.wr; simp [dI, dL, hix, hd', En.cells, fillV, closeParts, cl2, toD_dep, toD_d, toDs, chunk, nble_d, f5, r2, r3, r4, s0, s2, s3, s4, fS, toDs_fl, cloneV, h0, h1, h2, h3, h4]; exact iZ; (try dsimp only [putEnv]) <;> exact rfl; simp [dI, dL, hix, hd', En.cells, fillV, closeParts, cl2, toD_dep, toD_d, toDs, chunk, nble_d, f5, r2, r3, r4, s0, s2, s3, s4, fS, toDs_fl, cloneV, h0, h1, h2, h3, h4]; exact iZ; (iterate 2 exact iZ); simp; exact iZ))); exact RT.nil); (case hc => first | (refine checkR_un [(0, 2), (1, 2), (0, 3), (1, 3), (0, 4), (1, 4), (2, 4), (3, 4), (0, 5), (1, 5), (2, 5), (3, 5), (0, 6), (1, 6), (2, 6), (3, 6), (0, 7), (1, 7), (0, 8), (1, 8)] (by kernel_rfl) (by kernel_rfl) rfl ?_; simp [memA, disj, nbeq_dec]; done) | (show _ = _; kernel_rfl)); (case ht => simp [dI, dL, hix, hd', En.cells, fillV, closeParts, cl2, toD_dep, toD_d, toDs, chunk, nble_d, f5, r2, r3, r4, s0, s2, s3, s4, fS, toDs_fl, cloneV, h0, h1, h2, h3, h4]; exact iZ))
 | apply WP.block | apply WP.skip | apply WP.exit | apply WP.ret | refine WP.condT rfl ?_ | refine WP.condF rfl ?_)
    refine loop_next (by simp [hwj]; exact Is.rfl) ?_
    exact ⟨D - 1, by omega, j + 1, c' + 3, _, _, by omega, by simp [h0], by simp [h1], by simp, by simp, by simp [h4], st_eq (by simp [dI, dL, hwj]) rfl⟩
  simp at hb
  have hje : j = o.en.length := by omega
  rw [hje, List.take_length] at h3
  refine wkcnv (And.intro @dI.eq_1 (And.intro @dL.eq_1 (And.intro @h0 (And.intro @h1 (And.intro @h2 (And.intro @h3 (And.intro @h4 @encC_len))))))) ?_
  apply WP.loop' (I := fun D s => ∃ (k g2 c5 : Nat) (hp5 : Hp), k + D = o.cl.length ∧ hp5.get 1 = some ⟨1, false, [.full [], .full []]⟩ ∧ hp5.get 2 = some ⟨2, false, [.osl 3 g 0 j 2 none, .osl 4 g2 0 k 7 none]⟩ ∧ hp5.get 3 = some ⟨g, false, fl (encE o.en)⟩ ∧ hp5.get 4 = some ⟨g2, false, fl (encC (o.cl.take k))⟩ ∧
    s = ⟨[(2, .ptr 1 1 0), (3, .ptr 2 2 0), (28, dL (encC o.cl)), (29, dI o.cl.length), (30, dI k)], hp5, 5, c5, 0, []⟩) (d := o.cl.length)
  · exact ⟨0, 4, _, _, by simp, h1, h2, h3, by rw [h4]; rfl, st_eq (by simp [dI, dL]) rfl⟩
  clear h0 h1 h2 h3 h4 hb hj
  rintro D2 _ ⟨k, g2, c5, hp5, hk, h1, h2, h3, h4, rfl⟩
  refine wknv (And.intro @dI.eq_1 @dL.eq_1) ?_
  show WP _ _ _ _ _ _
  refine WP.cond _ rfl (fun hb => ?_) (fun hb => ?_)
  · simp at hb
    have hb' : k < o.cl.length := by omega
    obtain ⟨d, hd, hdm, hix⟩ := at_lt hb'
    have hd' := encC_at hd
    have hwk := w_succ hb' (by omega)
    have hms := mem_szC hdm
    unfold Cl.sz at hms
    have hl1 := len_szD d.inn
    have hl2 := len_szD d.out
    have hl3 := len_szD d.loc
    have hl4 := len_szM d.mems
    have hl5 := len_szJ d.ins
    have hcy := copy84 _ d.step (Nat.lt_succ_self _) (by omega)
    simp only [dL] at hcy
    have hsn := take_snoc hd
    have hLl : (o.cl.take k).length = k := by simp; omega
    have r2 := fl_len (encC_row (o.cl.take k))
    have r3 := fl_take (encC_row (o.cl.take k))
    have r4 := fl_snoc (encC (o.cl.take k)) d.cells
    have r5 := encC_snoc1 (o.cl.take k) d
    have f5 : fitsB (k + 1) 160 = true := by simp [fitsB]; omega
    rw [r5, ← hsn] at r4
    rw [encC_len, hLl] at r2 r3
    simp only [Cl.cells, List.map_cons, List.map_nil] at r4
    have fta : fitsB d.inn.length 48 = true := by simp [fitsB]; omega
    have ta0 := fun look => rowsOf_d look (encD_row3 d.inn)
    have ta2 := fl_len (encD_row3 d.inn)
    have ta3 := fl_take (encD_row3 d.inn)
    have ta4 := chunk_flat (encD_row3 d.inn)
    rw [encD_len] at ta0 ta2 ta3 ta4
    have ftb : fitsB d.out.length 48 = true := by simp [fitsB]; omega
    have tb0 := fun look => rowsOf_d look (encD_row3 d.out)
    have tb2 := fl_len (encD_row3 d.out)
    have tb3 := fl_take (encD_row3 d.out)
    have tb4 := chunk_flat (encD_row3 d.out)
    rw [encD_len] at tb0 tb2 tb3 tb4
    have ftc : fitsB d.loc.length 48 = true := by simp [fitsB]; omega
    have tc0 := fun look => rowsOf_d look (encD_row3 d.loc)
    have tc2 := fl_len (encD_row3 d.loc)
    have tc3 := fl_take (encD_row3 d.loc)
    have tc4 := chunk_flat (encD_row3 d.loc)
    rw [encD_len] at tc0 tc2 tc3 tc4
    have ftd : fitsB d.mems.length 32 = true := by simp [fitsB]; omega
    have td0 := fun look => rowsOf_d look (encM_row3 d.mems)
    have td2 := fl_len (encM_row3 d.mems)
    have td3 := fl_take (encM_row3 d.mems)
    have td4 := chunk_flat (encM_row3 d.mems)
    rw [encM_len] at td0 td2 td3 td4
    have fte : fitsB d.ins.length 32 = true := by simp [fitsB]; omega
    have te0 := fun look => rowsOf_d look (encJ_row2 d.ins)
    have te2 := fl_len (encJ_row2 d.ins)
    have te3 := fl_take (encJ_row2 d.ins)
    have te4 := chunk_flat (encJ_row2 d.ins)
    rw [encJ_len] at te0 te2 te3 te4
    repeat (first
 | apply WP.seq
 | (apply WP.reg; (case hR => dsimp only [prepL, prepO, List.map, gS, gZ]; exact iZ); (case hr => (repeat (first
 | (apply RT.op; simp [dI, dL, hix, hd', Cl.cells, fillV, closeParts, cl2, toD_dep, toD_d, toDs, chunk, nble_d, f5, r2, r3, r4, ta0, ta2, ta3, ta4, fta, tb0, tb2, tb3, tb4, ftb, tc0, tc2, tc3, tc4, ftc, td0, td2, td3, td4, ftd, te0, te2, te3, te4, fte, hcy, toDs_fl, cloneV, h1, h2, h3, h4]; exact iZ; (try dsimp only [putEnv]) <;> exact rfl)
 | (apply RT.call; (iterate 2 simp; exact iZ); exact iZ; (iterate 4 simp [dI, dL, hix, hd', Cl.cells, fillV, closeParts, cl2, toD_dep, toD_d, toDs, chunk, nble_d, f5, r2, r3, r4, ta0, ta2, ta3, ta4, fta, tb0, tb2, tb3, tb4, ftb, tc0, tc2, tc3, tc4, ftc, td0, td2, td3, td4, ftd, te0, te2, te3, te4, fte, hcy, toDs_fl, cloneV, h1, h2, h3, h4]; exact iZ); simp [Is]; (try dsimp only [putEnv]) <;> exact rfl; simp; exact iZ; simp; exact iZ)
 | (apply RT.clone; (iterate 2 simp; exact iZ); exact iZ; (iterate 2 simp [dI, dL, hix, hd', Cl.cells, fillV, closeParts, cl2, toD_dep, toD_d, toDs, chunk, nble_d, f5, r2, r3, r4, ta0, ta2, ta3, ta4, fta, tb0, tb2, tb3, tb4, ftb, tc0, tc2, tc3, tc4, ftc, td0, td2, td3, td4, ftd, te0, te2, te3, te4, fte, hcy, toDs_fl, cloneV, h1, h2, h3, h4]; exact iZ); (first | assumption | (simp [fitsB]; omega)); (try dsimp only [putEnv]) <;> exact rfl; simp [dI, dL, hix, hd', Cl.cells, fillV, closeParts, cl2, toD_dep, toD_d, toDs, chunk, nble_d, f5, r2, r3, r4, ta0, ta2, ta3, ta4, fta, tb0, tb2, tb3, tb4, ftb, tc0, tc2, tc3, tc4, ftc, td0, td2, td3, td4, ftd, te0, te2, te3, te4, fte, hcy, toDs_fl, cloneV, h1, h2, h3, h4]; exact iZ; simp; exact iZ)
 | (apply RT.callV; (iterate 2 simp; exact iZ); exact iZ; (iterate 3 simp [dI, dL, hix, hd', Cl.cells, fillV, closeParts, cl2, toD_dep, toD_d, toDs, chunk, nble_d, f5, r2, r3, r4, ta0, ta2, ta3, ta4, fta, tb0, tb2, tb3, tb4, ftb, tc0, tc2, tc3, tc4, ftc, td0, td2, td3, td4, ftd, te0, te2, te3, te4, fte, hcy, toDs_fl, cloneV, h1, h2, h3, h4]; exact iZ); (try dsimp only [putEnv]) <;> exact rfl)
 | (apply RT.wr; simp [dI, dL, hix, hd', Cl.cells, fillV, closeParts, cl2, toD_dep, toD_d, toDs, chunk, nble_d, f5, r2, r3, r4, ta0, ta2, ta3, ta4, fta, tb0, tb2, tb3, tb4, ftb, tc0, tc2, tc3, tc4, ftc, td0, td2, td3, td4, ftd, te0, te2, te3, te4, fte, hcy, toDs_fl, cloneV, h1, h2, h3, h4]; exact iZ; (try dsimp only [putEnv]) <;> exact rfl; simp [dI, dL, hix, hd', Cl.cells, fillV, closeParts, cl2, toD_dep, toD_d, toDs, chunk, nble_d, f5, r2, r3, r4, ta0, ta2, ta3, ta4, fta, tb0, tb2, tb3, tb4, ftb, tc0, tc2, tc3, tc4, ftc, td0, td2, td3, td4, ftd, te0, te2, te3, te4, fte, hcy, toDs_fl, cloneV, h1, h2, h3, h4]; exact iZ; (iterate 2 exact iZ); simp; exact iZ))); exact RT.nil); (case hc => first | (refine checkR_un [(0, 2), (1, 2), (0, 3), (1, 3), (0, 4), (1, 4), (2, 4), (3, 4), (0, 5), (1, 5), (2, 5), (3, 5), (0, 6), (1, 6), (2, 6), (3, 6), (0, 7), (1, 7), (2, 7), (3, 7), (4, 7), (5, 7), (6, 7), (0, 8), (1, 8), (2, 8), (3, 8), (4, 8), (5, 8), (6, 8), (0, 9), (1, 9), (2, 9), (3, 9), (0, 10), (1, 10), (2, 10), (3, 10), (4, 10), (5, 10), (6, 10), (7, 10), (8, 10), (9, 10), (0, 11), (1, 11), (2, 11), (3, 11), (4, 11), (5, 11), (6, 11), (7, 11), (8, 11), (9, 11), (0, 12), (1, 12), (2, 12), (3, 12), (0, 13), (1, 13), (2, 13), (3, 13), (4, 13), (5, 13), (6, 13), (7, 13), (8, 13), (9, 13), (10, 13), (11, 13), (12, 13), (0, 14), (1, 14), (2, 14), (3, 14), (4, 14), (5, 14), (6, 14), (7, 14), (8, 14), (9, 14), (10, 14), (11, 14), (12, 14), (0, 15), (1, 15), (2, 15), (3, 15), (0, 16), (1, 16), (2, 16), (3, 16), (4, 16), (5, 16), (6, 16), (7, 16), (8, 16), (9, 16), (10, 16), (11, 16), (12, 16), (13, 16), (14, 16), (15, 16), (0, 17), (1, 17), (2, 17), (3, 17), (4, 17), (5, 17), (6, 17), (7, 17), (8, 17), (9, 17), (10, 17), (11, 17), (12, 17), (13, 17), (14, 17), (15, 17), (0, 18), (1, 18), (2, 18), (3, 18), (0, 19), (1, 19), (2, 19), (3, 19), (4, 19), (5, 19), (6, 19), (7, 19), (8, 19), (9, 19), (10, 19), (11, 19), (12, 19), (13, 19), (14, 19), (15, 19), (16, 19), (17, 19), (18, 19), (0, 20), (1, 20), (2, 20), (3, 20), (4, 20), (5, 20), (6, 20), (7, 20), (8, 20), (9, 20), (10, 20), (11, 20), (12, 20), (13, 20), (14, 20), (15, 20), (16, 20), (17, 20), (18, 20), (0, 21), (1, 21), (2, 21), (3, 21), (0, 22), (1, 22), (0, 23), (1, 23)] (by kernel_rfl) (by kernel_rfl) rfl ?_; simp [memA, disj, nbeq_dec]; done) | (show _ = _; kernel_rfl)); (case ht => simp [dI, dL, hix, hd', Cl.cells, fillV, closeParts, cl2, toD_dep, toD_d, toDs, chunk, nble_d, f5, r2, r3, r4, ta0, ta2, ta3, ta4, fta, tb0, tb2, tb3, tb4, ftb, tc0, tc2, tc3, tc4, ftc, td0, td2, td3, td4, ftd, te0, te2, te3, te4, fte, hcy, toDs_fl, cloneV, h1, h2, h3, h4]; exact iZ))
 | apply WP.block | apply WP.skip | apply WP.exit | apply WP.ret | refine WP.condT rfl ?_ | refine WP.condF rfl ?_)
    refine loop_next (by simp [hwk]; exact Is.rfl) ?_
    refine ⟨D2 - 1, by omega, k + 1, ?_, _, _, by omega, by simp [h1], by simp; rfl, by simp [h3], by simp, st_eq (by simp [dI, dL, hwk]) rfl⟩
  simp at hb
  have hke : k = o.cl.length := by omega
  rw [hke, List.take_length] at h4
  refine wkcnv (And.intro @dI.eq_1 (And.intro @dL.eq_1 (And.intro @h1 (And.intro @h2 (And.intro @h3 @h4))))) ?_
  have x3 : (hp5.set 1 ⟨1, false, [.osl 3 g 0 j 2 none, .osl 4 g2 0 k 7 none]⟩).get 3 = some ⟨g, false, fl (encE o.en)⟩ := by simp [h3]
  have x4 : (hp5.set 1 ⟨1, false, [.osl 3 g 0 j 2 none, .osl 4 g2 0 k 7 none]⟩).get 4 = some ⟨g2, false, fl (encC o.cl)⟩ := by simp [h4]
  have q3 := close_fl (cap := none) (encE_row2 o.en) x3
  have q4 := close_fl (cap := none) (encC_row o.cl) x4
  rw [encE_len, ← hje] at q3
  rw [encC_len, ← hke] at q4
  refine ⟨.inr rfl, [.agg [.osl 3 g 0 j 2 none, .osl 4 g2 0 k 7 none]], [3, 4], ?_, ?_⟩
  · show resultsV Tryz.prog _ [_] = _
    simp [resultsV, resultV]
  have q3' : close1 (hp5.set 1 ⟨1, false, [.osl 3 g 0 j 2 none, .osl 4 g2 0 k 7 none]⟩).get (.osl 3 g 0 j 2 none) = some (dL (encE o.en), [3]) := q3
  have q4' : close1 (hp5.set 1 ⟨1, false, [.osl 3 g 0 j 2 none, .osl 4 g2 0 k 7 none]⟩).get (.osl 4 g2 0 k 7 none) = some (dL (encC o.cl), [4]) := q4
  show (match closeVs (close1 (hp5.set 1 ⟨1, false, [.osl 3 g 0 j 2 none, .osl 4 g2 0 k 7 none]⟩).get) [.osl 3 g 0 j 2 none, .osl 4 g2 0 k 7 none] with | some (xs, r) => some (V.agg xs, r) | none => none) = _
  simp only [closeVs, q3', q4']
  rfl
end Go.Ac
end

section
set_option maxRecDepth 4000
set_option linter.unusedSimpArgs false
set_option linter.unusedVariables false
namespace Go.Ac
open Go.Proofs
/-! ### Memory taken over -/
def shO (n c : Nat) (o : Ob) : Ob := ⟨o.gen + c, o.ro, shiftVs n c o.cells⟩
theorem shiftH_eq (n c : Nat) (l : List (Nat × Ob)) : shiftH n c l = l.map fun p => (p.1 + n, shO n c p.2) := rfl
theorem Hp.get_sets_mem : ∀ (wr : List (Nat × Ob)) (h : Hp) (j : Nat) (o : Ob), (∀ p, p ∈ wr → p.1 = j → p.2 = o) → (∃ p, p ∈ wr ∧ p.1 = j) → (Hp.sets h wr).get j = some o
  | [], h, j, o, _, hx => by obtain ⟨p, hp, _⟩ := hx; cases hp
  | (k, x) :: r, h, j, o, ho, hx => by
    simp only [Hp.sets]
    by_cases hr : ∃ p, p ∈ r ∧ p.1 = j
    · exact Hp.get_sets_mem r _ j o (fun p hp => ho p (List.mem_cons_of_mem _ hp)) hr
    · rw [Hp.get_sets_ne r _ j fun p hp he => hr ⟨p, hp, he⟩]
      obtain ⟨p, hp, he⟩ := hx
      rcases List.mem_cons.1 hp with rfl | hp
      · simp only at he
        subst he
        rw [Hp.get_set_self, ← ho _ (List.mem_cons_self ..) rfl]
      · exact absurd ⟨p, hp, he⟩ hr
theorem import_new {hp : Hp} {look : Look} {n c m id : Nat} {o : Ob} (h : id < m) (ho : look id = some o) : (hp.sets (shiftH n c (wrOf look (List.range m)))).get (id + n) = some (shO n c o) := by
  refine Hp.get_sets_mem _ _ _ _ (fun p hp hid => ?_) ⟨(id + n, shO n c o), ?_, rfl⟩
  · rw [shiftH_eq, List.mem_map] at hp
    obtain ⟨x, hx, rfl⟩ := hp
    have h2 := (mem_wrOf2.1 hx).2
    have h3 : x.1 = id := by simp only at hid; omega
    rw [h3, ho] at h2
    rw [Option.some.inj h2]
  · rw [shiftH_eq, List.mem_map]
    exact ⟨(id, o), mem_wrOf2.2 ⟨List.mem_range.2 h, ho⟩, rfl⟩
theorem import_old {hp : Hp} {look : Look} {n c m id : Nat} (h : id < n) : (hp.sets (shiftH n c (wrOf look (List.range m)))).get id = hp.get id := by
  refine Hp.get_sets_ne _ _ _ (fun p hp hid => ?_)
  rw [shiftH_eq, List.mem_map] at hp
  obtain ⟨x, hx, rfl⟩ := hp
  simp only at hid; omega
theorem addNew_zero (wl : List Nat) : ∀ l : List (Nat × Ob), addNew 0 wl l = wl
  | [] => rfl
  | (k, o) :: r => by
    have : Nat.blt k 0 = false := by cases k <;> rfl
    simp only [addNew, this]; exact addNew_zero wl r
attribute [local simp] addNew_zero
theorem shiftVs_map {α : Type} (n c : Nat) (e : α → V) (h : ∀ a, shiftV n c (e a) = e a) : ∀ l : List (Tx × α), shiftVs n c (l.map fun p => e p.2) = l.map fun p => e p.2
  | [] => rfl
  | p :: r => by
    simp only [List.map_cons, shiftVs, h]
    rw [shiftVs_map n c e h r]
theorem shift_mpC {α : Type} (n c g : Nat) (e : α → V) (h : ∀ a, shiftV n c (e a) = e a) (l : List (Tx × α)) : shO n c ⟨g, false, [mpC e l]⟩ = ⟨g + c, false, [mpC e l]⟩ := by
  unfold shO
  simp only [mpC, shiftVs, shiftV]
  rw [shiftVs_map n c e h l]
/-- The class object, taken over at place n. -/
theorem KG.import {hp : Hp} {n c1 : Nat} {o : Oc} {ea : List Cl} {x : Cl} {lv lm : List (Tx × Int)} {lp : List (Tx × Bool)} :
    KG (5 + n) (5 + c1) (1 + n) (1 + c1) (2 + n) (2 + c1) (3 + n) (3 + c1) (4 + n) (4 + c1) o ea x lv lp lm [] (hp.sets (shiftH n c1 (wrOf (nHp o.en ea x lv lp lm).get (List.range 6)))) (n + 6) := by
  refine ⟨?_, ?_, ?_, ?_, ?_, by omega, by omega, by omega, by omega, by omega⟩
  · rw [import_new (by omega) (o := kO o.en ea x) rfl]
    simp [shO, kO, shiftVs, shiftV]
  · rw [import_new (by omega) (o := ⟨1, false, [mpC eI lv]⟩) rfl, shift_mpC _ _ _ _ (fun a => rfl)]
  · rw [import_new (by omega) (o := ⟨2, false, [mpC eBo lp]⟩) rfl, shift_mpC _ _ _ _ (fun a => rfl)]
  · rw [import_new (by omega) (o := ⟨3, false, [mpC eI lm]⟩) rfl, shift_mpC _ _ _ _ (fun a => rfl)]
  · rw [import_new (by omega) (o := ⟨4, false, [mpC eC []]⟩) rfl]
    simp [shO, mpC, shiftVs, shiftV]
theorem kf11 (r : Nat) : Ob.keep 11 r = Ob.k11 r := by kernel_rfl
attribute [local simp] kf11 Ob.k11
set_option maxHeartbeats 8000000 in
theorem check_den (o : Oc) (hsz : o.sz ≤ 2097152) (hok : o.ok) : den Tryz.prog Ob.cfg 11 [aG o.cells] = some (dI (checkRef o)) := by
  unfold Oc.sz at hsz
  have k1 := len_szE o.en
  have k2 := len_szC o.cl
  refine den_wp Tryz.func11 rfl (by kernel_rfl) rfl rfl ?_
  unfold checkRef
  by_cases c1 : 24 < o.en.length
  · rw [if_pos c1]
    have c1' : ((24 : Int) < o.en.length) = True := eq_true (by omega)
    have c1'' := eq_true c1
    refine wkcitv (And.intro @aG.eq_1 (And.intro @Oc.cells.eq_1 (And.intro @dI.eq_1 (And.intro @dL.eq_1 (And.intro @c1' @c1''))))) ?_
    show retQ _ _ _ _ _
    exact ⟨.inr rfl, _, _, rfl, rfl⟩
  rw [if_neg c1]
  have c1' : ((24 : Int) < o.en.length) = False := eq_false (by omega)
  have c1'' := eq_false c1
  refine wkcitv (And.intro @aG.eq_1 (And.intro @Oc.cells.eq_1 (And.intro @dI.eq_1 (And.intro @dL.eq_1 (And.intro @c1' @c1''))))) ?_
  apply WP.loop' (I := fun D s => ∃ k : Nat, k + D = o.en.length ∧ (o.en.take k).all (fun u => !enBad u) = true ∧ SE [(1, .ptr 0 0 0), (13, dL (encE o.en)), (14, dI o.en.length), (15, dI k)] [(0, ⟨0, false, o.cells.map .d⟩)] 1 s) (d := o.en.length)
  · exact ⟨0, by simp, by simp, SE.mk (by simp [dI, dL]) (by simp [Oc.cells])⟩
  rintro D _ ⟨k, hk, hno, cc, rfl⟩
  refine wkitv (And.intro @dI.eq_1 (And.intro @dL.eq_1 @Oc.cells.eq_1)) ?_
  show WP _ _ _ _ _ _
  refine WP.cond _ rfl (fun hb => ?_) (fun hb => ?_)
  · simp at hb
    have hb' : k < o.en.length := by omega
    obtain ⟨d, hd, hdm, hix⟩ := at_lt hb'
    have hd' := encE_at hd
    have hwk := w_succ hb' (by omega)
    have hs := all_snoc (p := fun u => !enBad u) hd
    by_cases e1 : d.tags = []
    · rw [if_pos (List.any_eq_true.2 ⟨d, hdm, by simp [enBad, e1]⟩)]
      refine wkcitv (And.intro @dI.eq_1 (And.intro @dL.eq_1 (And.intro @Oc.cells.eq_1 (And.intro @hix (And.intro @hd' (And.intro @En.cells.eq_1 (And.intro @encS_len (And.intro @len0 (And.intro @e1 (And.intro @fillV.eq_1 @fillV.eq_2)))))))))) ?_
      show retQ _ _ _ _ _
      exact ⟨.inr rfl, _, _, rfl, rfl⟩
    by_cases e2 : 16 < d.tags.length
    · have e2' : ((16 : Int) < d.tags.length) = True := eq_true (by omega)
      have e2'' := eq_true e2
      rw [if_pos (List.any_eq_true.2 ⟨d, hdm, by simp [enBad, e2]⟩)]
      refine wkcitv (And.intro @dI.eq_1 (And.intro @dL.eq_1 (And.intro @Oc.cells.eq_1 (And.intro @hix (And.intro @hd' (And.intro @En.cells.eq_1 (And.intro @encS_len (And.intro @len0 (And.intro @int_beq (And.intro @e1 (And.intro @e2' (And.intro @e2'' (And.intro @fillV.eq_1 @fillV.eq_2))))))))))))) ?_
      show retQ _ _ _ _ _
      exact ⟨.inr rfl, _, _, rfl, rfl⟩
    · have e2' : ((16 : Int) < d.tags.length) = False := eq_false (by omega)
      have e2'' := eq_false e2
      have hbd : enBad d = false := by unfold enBad; rw [dFalse e2]; simpa using e1
      rw [hbd] at hs
      refine wkcitv (And.intro @dI.eq_1 (And.intro @dL.eq_1 (And.intro @Oc.cells.eq_1 (And.intro @hix (And.intro @hd' (And.intro @En.cells.eq_1 (And.intro @encS_len (And.intro @len0 (And.intro @int_beq (And.intro @e1 (And.intro @e2' (And.intro @e2'' (And.intro @fillV.eq_1 @fillV.eq_2))))))))))))) ?_
      refine loop_next (by simp [hwk]; exact Is.rfl) ?_
      exact ⟨D - 1, by omega, k + 1, by omega, by rw [hs, hno]; rfl, SE.mk (by simp [dI, dL, hwk]) (by simp [Oc.cells])⟩
  simp at hb
  have hke : k = o.en.length := by omega
  rw [hke, List.take_length] at hno
  rw [if_neg (by rw [any_no (p := enBad) hno]; simp)]
  have hen : ∀ t, knownE o.en t = decide (0 < sizeE o.en t) := known_size fun u hu => by simpa using List.all_eq_true.1 hno u hu
  clear hno hke hb hk
  refine wkcitv (And.intro @dI.eq_1 (And.intro @dL.eq_1 @Oc.cells.eq_1)) ?_
  apply WP.loop' (I := fun D s => ∃ (k c' : Nat) (hp' : Hp), k + D = o.cl.length ∧ allW o k (o.cl.drop k) = allW o 0 o.cl ∧ hp'.get 0 = some ⟨0, false, o.cells.map .d⟩ ∧ s = ⟨[(1, .ptr 0 0 0), (31, dL (encC o.cl)), (32, dI o.cl.length), (33, dI k)], hp', 1, c', 0, []⟩) (d := o.cl.length)
  · exact ⟨0, _, _, by simp, by simp, by simp [Oc.cells], st_eq (by simp [dI, dL]) rfl⟩
  rintro D _ ⟨k, c', hp', hk, hv, hx0, rfl⟩
  simp only [Oc.cells, List.map_cons, List.map_nil] at hx0
  refine wkitv (And.intro @dI.eq_1 @dL.eq_1) ?_
  show WP _ _ _ _ _ _
  refine WP.cond _ rfl (fun hb => ?_) (fun hb => ?_)
  · simp at hb
    have hb' : k < o.cl.length := by omega
    obtain ⟨c, hc, hcm, hix⟩ := at_lt hb'
    have hc' := encC_at hc
    have hwk := w_succ hb' (by omega)
    have hcs := mem_szC hcm
    unfold Cl.sz at hcs
    have l1 := len_szD c.inn
    have l2 := len_szD c.out
    have l3 := len_szD c.loc
    have l4 := len_szM c.mems
    have l5 := len_szJ c.ins
    have hcok := hok c hcm
    have hsl := fun look e b z => slice_rows look e b z (encC_row o.cl) (j := k) (by rw [encC_len]; omega)
    have etk := encC_take o.cl k
    rw [drop_at hc, allW] at hv
    refine wkcitv (And.intro @dI.eq_1 (And.intro @dL.eq_1 (And.intro @Hp.get_set (And.intro @hx0 (And.intro @hix (And.intro @hc' (And.intro @Cl.cells.eq_1 (And.intro @fillV.eq_1 @fillV.eq_2)))))))) ?_
    apply WP.gen3
    intro hp1 c1 wl1 hhp hwl
    have hwl0 : wl1 = [] := hwl
    have hy0 : hp1.get 0 = some ⟨0, false, [V.d (.slice (encE o.en)), V.d (.slice (encC o.cl))]⟩ := by rw [hhp]; simp [Hp.get_set, hx0]
    obtain ⟨g1, hy1⟩ : ∃ g1, g1 = c' := ⟨_, rfl⟩
    have hy1 : hp1.get 1 = some ⟨c', false, [V.d (.str c.nm), V.d (.slice (encD c.inn)), V.d (.slice (encD c.out)), V.d (.slice (encD c.loc)), V.d (.slice (encM c.mems)), V.d (.slice (encJ c.ins)), V.d (.slice (encY c.step))]⟩ := by rw [hhp]; simp [Hp.get_set]
    subst hwl0
    clear hhp hwl
    obtain ⟨q, hI1, hqv, hqn, hqh⟩ := new29 o.en (o.cl.take k) c (by omega)
    have hI2 : closeT noLook q.v = none := by rw [hqv]; rfl
    have hI3 : shiftV 2 c1 q.v = .ptr 7 (5 + c1) 0 := by rw [hqv]; rfl
    obtain ⟨W1, hI4⟩ : ∃ W, shiftH 2 c1 (wrOf q.hp.get (List.range q.n)) = W := ⟨_, rfl⟩
    have hKG : KG 7 (5 + c1) 3 (1 + c1) 4 (2 + c1) 5 (3 + c1) 6 (4 + c1) o (o.cl.take k) c (puts (puts (puts [] (dV c.inn)) (dV c.out)) (dV c.loc)) (puts (puts [] (dP c.out)) (dP c.loc)) (puts [] (mV c.mems)) [] (hp1.sets W1) (2 + q.n) := by
      rw [← hI4, hqh, hqn]; exact KG.import (n := 2) (c1 := c1)
    have hfr0 : (hp1.sets W1).get 0 = hp1.get 0 := by rw [← hI4, import_old (by omega)]
    obtain ⟨q2, hT1, hqv2, hqn2, hT2, hki, hfr, _⟩ := (check30 (cc := c1 + q.c) hen (by rw [List.length_take]; unfold MX; omega) ⟨by omega⟩ hcok (by omega) (hp1.sets W1) (2 + q.n) ⟨by omega, by omega, by omega, by omega⟩ hKG (fun hz => kf_of hcok (by unfold MX; omega) hz)).caller (by intro j hj; simp at hj; omega)
    have hfr1 : ((hp1.sets W1).sets (tWr q2 (2 + q.n))).get 0 = some ⟨0, false, [V.d (.slice (encE o.en)), V.d (.slice (encC o.cl))]⟩ := by rw [hfr 0 (by omega) (by simp), hfr0, hy0]
    rw [classP_eq] at hqv2
    simp only [dL, dI, aG, Cl.cells, List.map_cons, List.map_nil] at hI1 hqv2
    by_cases c2 : classW o k c = 0
    case neg =>
      have c2' := eq_false c2
      rw [if_pos c2] at hv
      rw [← hv]
      refine wkcitv (And.intro @dI.eq_1 (And.intro @dL.eq_1 (And.intro @hy0 (And.intro @hy1 (And.intro @hsl (And.intro @etk (And.intro @hqv2 (And.intro @int_bne @c2')))))))) ?_
      show retQ _ _ _ _ _
      exact ⟨.inr rfl, _, _, rfl, rfl⟩
    rw [if_neg (by simp [c2])] at hv
    rw [c2] at hqv2
    refine wkcitv (And.intro @dI.eq_1 (And.intro @dL.eq_1 (And.intro @hy0 (And.intro @hy1 (And.intro @hsl (And.intro @etk (And.intro @hqv2 @int_bne))))))) ?_
    refine loop_next (by simp [hwk]; exact Is.rfl) ?_
    exact ⟨D - 1, by omega, k + 1, _, _, by omega, hv, by rw [Hp.get_trunc _ _ _ (by omega)]; exact hfr1, st_eq (by simp [dI, dL, hwk]) rfl⟩
  · simp at hb
    have hke : k = o.cl.length := by omega
    rw [hke, List.drop_length, allW] at hv
    rw [← hv]
    refine wkcitv (And.intro @dI.eq_1 @dL.eq_1) ?_
    show retQ _ _ _ _ _
    exact ⟨.inr rfl, _, _, rfl, rfl⟩
end Go.Ac
end

section
set_option maxRecDepth 4000
set_option linter.unusedSimpArgs false
set_option linter.unusedVariables false
namespace Go.Ac
open Go.Proofs
def Pb.sh (n c : Nat) (a : Pb) : Pb := ⟨a.x + n, a.gx + c, a.im + n, a.gm + c, a.ii + n, a.gi + c⟩
mutual
/-- A place, moved. -/
def Pt.sh (n c : Nat) : Pt → Pt
  | .mk a ps => .mk (a.sh n c) (shL n c ps)
def shL (n c : Nat) : List Pt → List Pt
  | [] => []
  | p :: r => p.sh n c :: shL n c r
end
theorem shL_map (n c : Nat) : ∀ l, shL n c l = l.map (Pt.sh n c)
  | [] => by rw [shL]; rfl
  | p :: r => by rw [shL, shL_map n c r]; rfl
theorem Pt.sh_a (n c : Nat) (p : Pt) : (p.sh n c).a = p.a.sh n c := by cases p; rw [Pt.sh]; rfl
mutual
theorem mids_sh (n c : Nat) : ∀ p : Pt, mids (p.sh n c) = (mids p).map (· + n)
  | .mk a ps => by rw [Pt.sh, mids, mids, midsL_sh n c ps]; rfl
theorem midsL_sh (n c : Nat) : ∀ l : List Pt, midsL (shL n c l) = (midsL l).map (· + n)
  | [] => by rw [shL, midsL]; rfl
  | p :: r => by rw [shL, midsL, midsL, mids_sh n c p, midsL_sh n c r, List.map_append]
end
mutual
theorem sids_sh (n c : Nat) : ∀ p : Pt, sids (p.sh n c) = (sids p).map (· + n)
  | .mk a ps => by rw [Pt.sh, sids, sids, sidsL_sh n c ps]; rfl
theorem sidsL_sh (n c : Nat) : ∀ l : List Pt, sidsL (shL n c l) = (sidsL l).map (· + n)
  | [] => by rw [shL, sidsL]; rfl
  | p :: r => by rw [shL, sidsL, sidsL, sids_sh n c p, sidsL_sh n c r, List.map_append]
end
mutual
theorem fit_sh (n c : Nat) : ∀ (t : Trn) (p : Pt), fit t (p.sh n c) ↔ fit t p
  | .mk k ms sb, .mk a ps => by rw [Pt.sh, fit, fit, fitL_sh n c sb ps]
theorem fitL_sh (n c : Nat) : ∀ (l : List Trn) (ps : List Pt), fitL l (shL n c ps) ↔ fitL l ps
  | [], [] => by rw [shL]
  | [], p :: ps => by rw [shL, fitL, fitL]; simp
  | t :: r, [] => by rw [shL, fitL]
  | t :: r, p :: ps => by rw [shL, fitL, fitL, fit_sh n c t p, fitL_sh n c r ps]
end
theorem shO_mI (n c g : Nat) (ms : List (Tx × Int)) : shO n c ⟨g, false, [mpC eI ms]⟩ = ⟨g + c, false, [mpC eI ms]⟩ := shift_mpC _ _ _ _ (fun _ => rfl) _
theorem shO_oO (n c g : Nat) (en : List En) (k : Cl) (im gm ii gi : Nat) : shO n c (oO g en k im gm ii gi) = oO (g + c) en k (im + n) (gm + c) (ii + n) (gi + c) := by
  simp [shO, oO, shiftVs, shiftV]
theorem shVs_eP (n c : Nat) : ∀ l : List (Tx × (Nat × Nat)), shiftVs n c (l.map fun p => eP p.2) = (l.map fun q => (q.1, (q.2.1 + n, q.2.2 + c))).map fun p => eP p.2
  | [] => rfl
  | p :: r => by
    simp only [List.map_cons, shiftVs]
    rw [shVs_eP n c r]; rfl
theorem insL_sh (n c : Nat) (k : Cl) (ps : List Pt) : insL k (shL n c ps) = (insL k ps).map fun q => (q.1, (q.2.1 + n, q.2.2 + c)) := by
  unfold insL
  rw [shL_map, List.map_map]
  generalize k.ins.map Ii.nm = l
  induction l generalizing ps with
  | nil => simp
  | cons x r ih =>
    cases ps with
    | nil => simp
    | cons p ps => simp only [List.map_cons, List.zip_cons_cons, ih]; simp [Pt.sh_a, Pb.sh]
theorem shO_ins (n c g : Nat) (k : Cl) (ps : List Pt) : shO n c ⟨g, false, [mpC eP (insL k ps)]⟩ = ⟨g + c, false, [mpC eP (insL k (shL n c ps))]⟩ := by
  rw [insL_sh]
  unfold shO mpC
  simp only [shiftVs, shiftV]
  rw [shVs_eP]
  simp
mutual
theorem meC_sh (n c : Nat) : ∀ (t : Trn) (p : Pt), meC t (p.sh n c) = (meC t p).map fun q => (q.1 + n, shO n c q.2)
  | .mk k ms sb, .mk a ps => by rw [Pt.sh, meC, meC, meL_sh n c sb ps, List.map_cons, shO_mI]; rfl
theorem meL_sh (n c : Nat) : ∀ (l : List Trn) (ps : List Pt), meL l (shL n c ps) = (meL l ps).map fun q => (q.1 + n, shO n c q.2)
  | [], ps => by rw [meL, meL]; rfl
  | t :: r, [] => by rw [shL, meL]; rfl
  | t :: r, p :: ps => by rw [shL, meL, meL, meC_sh n c t p, meL_sh n c r ps, List.map_append]
end
mutual
theorem stC_sh (en : List En) (n c : Nat) : ∀ (t : Trn) (p : Pt), stC en t (p.sh n c) = (stC en t p).map fun q => (q.1 + n, shO n c q.2)
  | .mk k ms sb, .mk a ps => by rw [Pt.sh, stC, stC, stL_sh en n c sb ps, List.map_cons, List.map_cons, shO_oO, shO_ins]; rfl
theorem stL_sh (en : List En) (n c : Nat) : ∀ (l : List Trn) (ps : List Pt), stL en l (shL n c ps) = (stL en l ps).map fun q => (q.1 + n, shO n c q.2)
  | [], ps => by rw [stL, stL]; rfl
  | t :: r, [] => by rw [shL, stL]; rfl
  | t :: r, p :: ps => by rw [shL, stL, stL, stC_sh en n c t p, stL_sh en n c r ps, List.map_append]
end
theorem nodup_add (n : Nat) (l : List Nat) (h : l.Nodup) : (l.map (· + n)).Nodup := by
  induction l with
  | nil => simp
  | cons x r ih =>
    rw [List.nodup_cons] at h
    rw [List.map_cons, List.nodup_cons]
    refine ⟨fun hm => ?_, ih h.2⟩
    obtain ⟨y, hy, he⟩ := List.mem_map.1 hm
    have : y = x := by omega
    exact h.1 (this ▸ hy)
/-- An instance that a call has made, taken over. -/
theorem Lies.import {en : List En} {t : Trn} {p : Pt} {hq hp : Hp} {m n c : Nat} (h : Lies en t p hq m) : Lies en t (p.sh n c) (hp.sets (shiftH n c (wrOf hq.get (List.range m)))) (m + n) := by
  refine ⟨(fit_sh n c t p).2 h.fit, ?_, fun q hq' => ?_, fun q hq' => ?_⟩
  · unfold Pt.nd
    rw [mids_sh, sids_sh, ← List.map_append]
    exact nodup_add n _ h.nd
  · rw [stC_sh] at hq'
    obtain ⟨x, hx, rfl⟩ := List.mem_map.1 hq'
    obtain ⟨h1, h2⟩ := h.st x hx
    exact ⟨by simp only; omega, import_new h1 h2⟩
  · rw [meC_sh] at hq'
    obtain ⟨x, hx, rfl⟩ := List.mem_map.1 hq'
    obtain ⟨h1, h2⟩ := h.me x hx
    exact ⟨by simp only; omega, import_new h1 h2⟩
theorem sh_ge (n c : Nat) (p : Pt) : ∀ k, k ∈ sids (p.sh n c) ++ mids (p.sh n c) → n ≤ k := by
  rw [mids_sh, sids_sh, ← List.map_append]
  intro k hk
  obtain ⟨x, _, rfl⟩ := List.mem_map.1 hk
  omega
/-- Instances that lie apart, all from a place on. -/
structure LL (en : List En) (l : List Trn) (ps : List Pt) (lo : Nat) (hp : Hp) (n : Nat) : Prop where
  fit : fitL l ps
  nd : (sidsL ps ++ midsL ps).Nodup
  lo : ∀ k, k ∈ sidsL ps ++ midsL ps → lo ≤ k ∧ k < n
  st : ∀ q, q ∈ stL en l ps → hp.get q.1 = some q.2
  me : ∀ q, q ∈ meL l ps → hp.get q.1 = some q.2
theorem LL.nil {en : List En} {lo : Nat} {hp : Hp} {n : Nat} : LL en [] [] lo hp n :=
  ⟨by rw [fitL], by simp [sidsL, midsL], fun k hk => by simp [sidsL, midsL] at hk, fun q hq => by simp [stL] at hq, fun q hq => by simp [meL] at hq⟩
theorem LL.same {en : List En} {l : List Trn} {ps : List Pt} {lo : Nat} {hp hp' : Hp} {n n' : Nat} (h : LL en l ps lo hp n) (hn : n ≤ n') (hg : ∀ k, lo ≤ k → k < n → hp'.get k = hp.get k) : LL en l ps lo hp' n' := by
  refine ⟨h.fit, h.nd, fun k hk => ⟨(h.lo k hk).1, Nat.lt_of_lt_of_le (h.lo k hk).2 hn⟩, fun q hq => ?_, fun q hq => ?_⟩
  · have hk : q.1 ∈ sidsL ps := by rw [← stL_keys en l ps h.fit]; exact List.mem_map.2 ⟨q, hq, rfl⟩
    have := h.lo _ (List.mem_append_left _ hk)
    rw [hg _ this.1 this.2]; exact h.st q hq
  · have hk : q.1 ∈ midsL ps := by rw [← meL_keys l ps h.fit]; exact List.mem_map.2 ⟨q, hq, rfl⟩
    have := h.lo _ (List.mem_append_right _ hk)
    rw [hg _ this.1 this.2]; exact h.me q hq
theorem fitL_snoc : ∀ (l : List Trn) (ps : List Pt) (t : Trn) (p : Pt), fitL l ps → fit t p → fitL (l ++ [t]) (ps ++ [p])
  | [], ps, t, p, h, h2 => by rw [fitL] at h; subst h; simp only [List.nil_append]; rw [fitL, fitL]; exact ⟨h2, rfl⟩
  | x :: r, [], t, p, h, h2 => by rw [fitL] at h; exact h.elim
  | x :: r, q :: ps, t, p, h, h2 => by rw [fitL] at h; rw [List.cons_append, List.cons_append, fitL]; exact ⟨h.1, fitL_snoc r ps t p h.2 h2⟩
theorem sidsL_app : ∀ a b : List Pt, sidsL (a ++ b) = sidsL a ++ sidsL b
  | [], b => by rw [sidsL]; rfl
  | p :: r, b => by rw [List.cons_append, sidsL, sidsL, sidsL_app r b, List.append_assoc]
theorem midsL_app : ∀ a b : List Pt, midsL (a ++ b) = midsL a ++ midsL b
  | [], b => by rw [midsL]; rfl
  | p :: r, b => by rw [List.cons_append, midsL, midsL, midsL_app r b, List.append_assoc]
theorem stL_snoc (en : List En) : ∀ (l : List Trn) (ps : List Pt) (t : Trn) (p : Pt), fitL l ps → stL en (l ++ [t]) (ps ++ [p]) = stL en l ps ++ stC en t p
  | [], ps, t, p, h => by rw [fitL] at h; subst h; simp [stL]
  | x :: r, [], t, p, h => by rw [fitL] at h; exact h.elim
  | x :: r, q :: ps, t, p, h => by rw [fitL] at h; rw [List.cons_append, List.cons_append, stL, stL, stL_snoc en r ps t p h.2, List.append_assoc]
theorem meL_snoc : ∀ (l : List Trn) (ps : List Pt) (t : Trn) (p : Pt), fitL l ps → meL (l ++ [t]) (ps ++ [p]) = meL l ps ++ meC t p
  | [], ps, t, p, h => by rw [fitL] at h; subst h; simp [meL]
  | x :: r, [], t, p, h => by rw [fitL] at h; exact h.elim
  | x :: r, q :: ps, t, p, h => by rw [fitL] at h; rw [List.cons_append, List.cons_append, meL, meL, meL_snoc r ps t p h.2, List.append_assoc]
theorem LL.snoc {en : List En} {l : List Trn} {ps : List Pt} {lo : Nat} {hp hp' : Hp} {n n' : Nat} {t : Trn} {p : Pt} (h : LL en l ps lo hp n) (hlo : lo ≤ n) (hL : Lies en t p hp' n') (hge : ∀ k, k ∈ sids p ++ mids p → n ≤ k) (hn : n ≤ n') (hg : ∀ k, lo ≤ k → k < n → hp'.get k = hp.get k) : LL en (l ++ [t]) (ps ++ [p]) lo hp' n' := by
  have h2 := h.same hn hg
  refine ⟨fitL_snoc _ _ _ _ h.fit hL.fit, ?_, fun k hk => ?_, fun q hq => ?_, fun q hq => ?_⟩
  · rw [sidsL_app, midsL_app]
    have e1 : sidsL [p] = sids p := by simp [sidsL]
    have e2 : midsL [p] = mids p := by simp [midsL]
    rw [e1, e2]
    have a := h.nd
    have b := hL.nd
    unfold Pt.nd at b
    rw [List.nodup_append] at a b
    have lo1 : ∀ k, k ∈ sidsL ps → k < n := fun k hk => (h.lo k (List.mem_append_left _ hk)).2
    have lo2 : ∀ k, k ∈ midsL ps → k < n := fun k hk => (h.lo k (List.mem_append_right _ hk)).2
    have g1 : ∀ k, k ∈ sids p → n ≤ k := fun k hk => hge k (List.mem_append_left _ hk)
    have g2 : ∀ k, k ∈ mids p → n ≤ k := fun k hk => hge k (List.mem_append_right _ hk)
    rw [List.nodup_append, List.nodup_append, List.nodup_append]
    refine ⟨⟨a.1, b.1, fun x hx y hy => ?_⟩, ⟨a.2.1, b.2.1, fun x hx y hy => ?_⟩, fun x hx y hy => ?_⟩
    · have := lo1 x hx; have := g1 y hy; omega
    · have := lo2 x hx; have := g2 y hy; omega
    · rcases List.mem_append.1 hx with hx | hx <;> rcases List.mem_append.1 hy with hy | hy
      · exact a.2.2 x hx y hy
      · have := lo1 x hx; have := g2 y hy; omega
      · have := g1 x hx; have := lo2 y hy; omega
      · exact b.2.2 x hx y hy
  · rw [sidsL_app, midsL_app] at hk
    have e1 : sidsL [p] = sids p := by simp [sidsL]
    have e2 : midsL [p] = mids p := by simp [midsL]
    rw [e1, e2] at hk
    have f1 : ∀ k, k ∈ sids p → k < n' := fun k hk => by
      rw [← stC_keys en t p hL.fit] at hk
      obtain ⟨q, hq, rfl⟩ := List.mem_map.1 hk
      exact (hL.st q hq).1
    have f2 := hL.mids_lt
    simp only [List.mem_append] at hk
    rcases hk with (hk | hk) | (hk | hk)
    · exact ⟨(h2.lo k (List.mem_append_left _ hk)).1, (h2.lo k (List.mem_append_left _ hk)).2⟩
    · have := hge k (List.mem_append_left _ hk); exact ⟨by omega, f1 k hk⟩
    · exact ⟨(h2.lo k (List.mem_append_right _ hk)).1, (h2.lo k (List.mem_append_right _ hk)).2⟩
    · have := hge k (List.mem_append_right _ hk); exact ⟨by omega, f2 k hk⟩
  · rw [stL_snoc en _ _ _ _ h.fit] at hq
    rcases List.mem_append.1 hq with hq | hq
    · exact h2.st q hq
    · exact (hL.st q hq).2
  · rw [meL_snoc _ _ _ _ h.fit] at hq
    rcases List.mem_append.1 hq with hq | hq
    · exact h2.me q hq
    · exact (hL.me q hq).2
/-- An instance over those that it contains. -/
theorem LL.lies {en : List En} {c : Cl} {ms : List (Tx × Int)} {l : List Trn} {a : Pb} {ps : List Pt} {lo : Nat} {hp : Hp} {n : Nat} (h : LL en l ps lo hp n) (hl : l.length = c.ins.length) (h1 : a.x < lo) (h2 : a.im < lo) (h3 : a.ii < lo) (d1 : a.x ≠ a.im) (d2 : a.x ≠ a.ii) (d3 : a.im ≠ a.ii) (hlo : lo ≤ n)
    (hx : hp.get a.x = some (oO a.gx en c a.im a.gm a.ii a.gi)) (hi : hp.get a.ii = some ⟨a.gi, false, [mpC eP (insL c ps)]⟩) (hm : hp.get a.im = some ⟨a.gm, false, [mpC eI ms]⟩) : Lies en (.mk c ms l) (.mk a ps) hp n := by
  have k1 : ∀ k, k ∈ sidsL ps → lo ≤ k := fun k hk => (h.lo k (List.mem_append_left _ hk)).1
  have k2 : ∀ k, k ∈ midsL ps → lo ≤ k := fun k hk => (h.lo k (List.mem_append_right _ hk)).1
  refine ⟨by rw [Go.Ac.fit]; exact ⟨hl, h.fit⟩, ?_, fun q hq => ?_, fun q hq => ?_⟩
  · unfold Pt.nd
    rw [sids, mids]
    have a0 := h.nd
    rw [List.nodup_append] at a0
    rw [List.nodup_append, List.nodup_cons, List.nodup_cons, List.nodup_cons]
    refine ⟨⟨fun hh => ?_, fun hh => ?_, a0.1⟩, ⟨fun hh => ?_, a0.2.1⟩, fun x hx y hy => ?_⟩
    · rcases List.mem_cons.1 hh with hh | hh
      · exact d2 hh
      · have := k1 _ hh; omega
    · have := k1 _ hh; omega
    · have := k2 _ hh; omega
    · rcases List.mem_cons.1 hx with rfl | hx
      · rcases List.mem_cons.1 hy with rfl | hy
        · exact d1
        · have := k2 _ hy; omega
      rcases List.mem_cons.1 hx with rfl | hx
      · rcases List.mem_cons.1 hy with rfl | hy
        · exact fun e => d3 e.symm
        · have := k2 _ hy; omega
      rcases List.mem_cons.1 hy with rfl | hy
      · have := k1 _ hx; omega
      · exact a0.2.2 x hx y hy
  · rw [stC, List.mem_cons, List.mem_cons] at hq
    rcases hq with hq | hq | hq
    · subst hq; exact ⟨by simp only; omega, hx⟩
    · subst hq; exact ⟨by simp only; omega, hi⟩
    · have hk : q.1 ∈ sidsL ps := by rw [← stL_keys en l ps h.fit]; exact List.mem_map.2 ⟨q, hq, rfl⟩
      exact ⟨(h.lo _ (List.mem_append_left _ hk)).2, h.st q hq⟩
  · rw [meC, List.mem_cons] at hq
    rcases hq with hq | hq
    · subst hq; exact ⟨by simp only; omega, hm⟩
    · have hk : q.1 ∈ midsL ps := by rw [← meL_keys l ps h.fit]; exact List.mem_map.2 ⟨q, hq, rfl⟩
      exact ⟨(h.lo _ (List.mem_append_right _ hk)).2, h.me q hq⟩
theorem Lies.same2 {en : List En} {t : Trn} {p : Pt} {hp hp' : Hp} {n n' : Nat} (h : Lies en t p hp n) (hg : ∀ k, k ∈ sids p ++ mids p → hp'.get k = hp.get k) (hn : n ≤ n') : Lies en t p hp' n' := by
  refine ⟨h.fit, h.nd, fun q hq => ⟨Nat.lt_of_lt_of_le (h.st q hq).1 hn, ?_⟩, fun q hq => ⟨Nat.lt_of_lt_of_le (h.me q hq).1 hn, ?_⟩⟩
  · rw [hg _ (List.mem_append_left _ (by rw [← stC_keys en t p h.fit]; exact List.mem_map.2 ⟨q, hq, rfl⟩))]; exact (h.st q hq).2
  · rw [hg _ (List.mem_append_right _ (by rw [← meC_keys t p h.fit]; exact List.mem_map.2 ⟨q, hq, rfl⟩))]; exact (h.me q hq).2
/-- One more instance by its name. -/
theorem insL_snoc {c : Cl} {ps : List Pt} {p : Pt} {d : Ii} (hnd : (c.ins.map Ii.nm).Nodup) (hd : c.ins[ps.length]? = some d) : mput (insL c ps) d.nm (p.a.x, p.a.gx) = insL c (ps ++ [p]) := by
  have hz : insL c (ps ++ [p]) = insL c ps ++ [(d.nm, (p.a.x, p.a.gx))] := by
    unfold insL
    rw [List.map_append]
    have hlt := (List.getElem?_eq_some_iff.1 hd).1
    have e : c.ins.map Ii.nm = (c.ins.map Ii.nm).take ps.length ++ (c.ins.map Ii.nm).drop ps.length := (List.take_append_drop _ _).symm
    have e2 : (c.ins.map Ii.nm).drop ps.length = d.nm :: (c.ins.map Ii.nm).drop (ps.length + 1) := by
      rw [List.drop_eq_getElem_cons (by simpa using hlt)]
      have := (List.getElem?_eq_some_iff.1 hd).2
      rw [List.getElem_map, this]
    have l1 : ((c.ins.map Ii.nm).take ps.length).length = (ps.map fun p => (p.a.x, p.a.gx)).length := by simp; omega
    have e3 : (c.ins.map Ii.nm).zip (ps.map fun p => (p.a.x, p.a.gx)) = ((c.ins.map Ii.nm).take ps.length).zip (ps.map fun p => (p.a.x, p.a.gx)) := by
      conv => lhs; rw [e, ← List.append_nil (ps.map fun p => (p.a.x, p.a.gx)), List.zip_append l1, List.zip_nil_right, List.append_nil]
    rw [e3]
    conv => lhs; rw [e, List.zip_append l1, e2]
    simp
  rw [hz]
  unfold mput
  have hk : (insL c ps).map Prod.fst = (c.ins.map Ii.nm).take ps.length := by
    unfold insL
    have hlt := (List.getElem?_eq_some_iff.1 hd).1
    apply List.ext_getElem
    · simp; omega
    · intro i h1 h2; simp
  cases hf : List.findIdx? (fun q => decide (q.1 = d.nm)) (insL c ps) with
  | none => rfl
  | some i =>
    exfalso
    obtain ⟨hi, hx⟩ := ixm_spec hf
    have hm : d.nm ∈ (c.ins.map Ii.nm).take ps.length := by
      rw [← hk, List.mem_map]; exact ⟨_, List.getElem_mem hi, hx⟩
    obtain ⟨j, hj, hje⟩ := List.getElem_of_mem hm
    simp only [List.length_take, List.length_map] at hj
    have hlt := (List.getElem?_eq_some_iff.1 hd).1
    have hn := List.pairwise_iff_getElem.1 hnd j ps.length (by simp; omega) (by simpa using hlt) (by omega)
    have h5 := (List.getElem?_eq_some_iff.1 hd).2
    simp only [List.getElem_take, List.getElem_map] at hje hn
    rw [h5] at hn
    exact hn hje
/-! ### Classes of instances -/
theorem findC_nm {l : List Cl} {x : Tx} (h : (findC l x).2 = true) : (findC l x).1.nm = x := by
  unfold findC at h ⊢
  cases hf : l.find? (fun d => decide (d.nm = x)) with
  | none => rw [hf] at h; cases h
  | some d => simpa using List.find?_some hf
theorem findC_ix {l : List Cl} {x : Tx} (h : (findC l x).2 = true) : ∃ j : Nat, ixP (fun d : Cl => decide (d.nm = x)) l = j ∧ l[j]? = some (findC l x).1 ∧ ∀ (k : Nat) (d : Cl), l[k]? = some d → d.nm = x → j ≤ k := by
  unfold findC at h ⊢
  cases hf : l.find? (fun d => decide (d.nm = x)) with
  | none => rw [hf] at h; cases h
  | some d =>
    have hf2 := hf
    rw [List.find?_eq_getElem?_findIdx] at hf2
    have hlt := (List.getElem?_eq_some_iff.1 hf2).1
    refine ⟨l.findIdx (fun d => decide (d.nm = x)), ?_, hf2, fun k e hk he => ?_⟩
    · unfold ixP
      rw [List.findIdx?_eq_some_iff_findIdx_eq.2 ⟨hlt, rfl⟩]
    · rcases Nat.lt_or_ge k (List.findIdx (fun d : Cl => decide (d.nm = x)) l) with hk2 | hk2
      · exfalso
        have := List.not_of_lt_findIdx hk2
        obtain ⟨h1, h2⟩ := List.getElem?_eq_some_iff.1 hk
        rw [h2] at this
        simp [he] at this
      · exact hk2
/-- The classes of instances, by their places. -/
theorem ins_ix {o : Oc} (h : checkRef o = 0) {i : Nat} {c : Cl} (hi : o.cl[i]? = some c) : ∀ d, d ∈ c.ins → ∃ j : Nat, j < i ∧ ixP (fun e : Cl => decide (e.nm = d.cl)) o.cl = j ∧ o.cl[j]? = some (findC o.cl d.cl).1 := by
  intro d hd
  obtain ⟨j, hj, hja, hjt⟩ := ins_before h hi d hd
  obtain ⟨j2, h1, h2, h3⟩ := findC_ix hjt
  have := h3 j _ hja (findC_nm hjt)
  exact ⟨j2, by omega, h1, h2⟩
theorem newT_fuel {o : Oc} (h : checkRef o = 0) : ∀ (K k i : Nat) (c : Cl), k ≤ K → o.cl[i]? = some c → i < k → newT o k c = newT o (i + 1) c
  | 0, k, i, c, hk, _, hi => by omega
  | K + 1, 0, i, c, _, _, hi => by omega
  | K + 1, k + 1, i, c, hk, hc, hi => by
    by_cases hik : i = k
    · rw [hik]
    rw [newT, newT]
    congr 1
    apply List.map_congr_left
    intro d hd
    obtain ⟨j, hj, hja, _⟩ := ins_before h hc d hd
    rw [newT_fuel h K k j _ (by omega) hja (by omega), newT_fuel h K i j _ (by omega) hja (by omega)]
end Go.Ac
end
