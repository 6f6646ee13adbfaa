/- From a call by data to the given statement: a node; the table of the powers of ten. -/
import Derived.Test.YtmjkclonkhempaaGreatDoorGeIM
import Derived.WalkKit
import Derived.Lib.Walk
import Derived.Lib.Strings
import Derived.Lib.Bytealg
import Derived.BigCall
import Derived.BigGuard
import Derived.Laws.Strings3
import Derived.ProofKit
import Derived.OpenShut
import Derived.JoinedCond
import Derived.Below
import Derived.Deep.DeepHandedRow
import Derived.Lib.LaidTab
set_option linter.unusedVariables false
set_option linter.unusedSimpArgs false
section
set_option maxRecDepth 8000
namespace Go.Ac
open Go.Proofs
attribute [local simp] Hp.get_set get_trunc_lt
attribute [local simp] kf9 Ob.k9
theorem kf4 (r : Nat) : Ob.keep 4 r = Ob.k4 r := by kernel_rfl
attribute [local simp] kf4 Ob.k4
set_option maxHeartbeats 8000000 in
theorem weigh9 : ∀ (N : Nat) (x : X), x.sz < N → x.sz ≤ 8388608 → ∀ most : Nat, 1 ≤ most → most ≤ 400 → ∃ w : {w : Nat // w ≤ most}, den Tryz.prog Ob.cfg 9 [aG x.cells, dI most] = some (dI (w.1 : Nat))
 | 0, x, hN, hM, most, h1, h2 => by omega
 | N + 1, x, hN, hM, most, h1, h2 => by
  have hs0 := X.sz_eq x
  have hlen := len_szX x.args
  have hXe : (encX x.args).length = x.args.length := encX_len _
  refine den_ex (F := fun w : {w : Nat // w ≤ most} => dI (w.1 : Nat)) Tryz.func9 rfl (by kernel_rfl) rfl (fun _ => rfl) ?_
  rw [aX_eq]
  refine wkc (jn @envOf.eq_1 (jn @envOf.eq_2 (jn @dI.eq_1 (jn @fillV.eq_1 @fillV.eq_2)))) ?_
  apply WP.loop' (I := fun D s => ∃ (j c' k : Nat) (hp' : Hp), j + D = x.args.length ∧ 1 ≤ k ∧ k ≤ most ∧ hp'.get 0 = some ⟨0, false, [.d (.int .i64 x.k), .d (.int .i64 x.o), .d (.int .i64 x.t), .d (.int .i64 x.v), .d (.str x.nm), .d (.slice (encX x.args))]⟩ ∧
   s = ⟨[(1, dI most), (2, .ptr 0 0 0), (5, dI k), (6, dI j)], hp', 1, c', 0, []⟩) (d := x.args.length)
  ·exact ⟨0, _, 1, _, by simp, Nat.le_refl _, h1, rfl, st_eq (by simp [dI]) rfl⟩
  rintro D _ ⟨j, c', k, hp', hj, hk1, hk2, h0, rfl⟩
  by_cases hb : j < x.args.length ∧ k < most
  ·obtain ⟨y, hy, hym, hix⟩ := at_lt hb.1
   have hy' := encX_at hy
   have hw := w_succ hb.1 (by omega)
   have hms := mem_szX hym
   have c1 := eq_true (show (j : Int) < (x.args.length : Int) by omega)
   have c2 := eq_true (show (k : Int) < (most : Int) by omega)
   have c1' := eq_true hb.1
   have c2' := eq_true hb.2
   obtain ⟨mk, hmk⟩ : ∃ mk : Nat, mk = most - k := ⟨_, rfl⟩
   have hwm : IntKind.i64.wrap ((most : Int) - (k : Int)) = (mk : Int) := by rw [w_id] <;> omega
   obtain ⟨⟨w, hwl⟩, hd⟩ := weigh9 N y (by omega) (by omega) mk (by omega) (by omega)
   obtain ⟨kw, hkw⟩ : ∃ kw : Nat, kw = k + w := ⟨_, rfl⟩
   have hwk : IntKind.i64.wrap ((k : Int) + (w : Int)) = (kw : Int) := by rw [w_id] <;> omega
   simp only [aG, X.cells_eq, List.map_cons, List.map_nil, dI] at hd
   refine wkc (jn @dI.eq_1 (jn @dL.eq_1 (jn @hXe (jn @h0 (jn @c1 (jn @c2 (jn @c1' @c2'))))))) ?_
   refine wkc (jn @dI.eq_1 (jn @dL.eq_1 (jn @hXe (jn @X.cells_eq (jn @hix (jn @hy' (jn @h0 (jn @hwm (jn @hd @hwk))))))))) ?_
   refine loop_next (by simp [hw]; exact Is.rfl) ?_
   exact ⟨D - 1, by omega, j + 1, _, kw, _, by omega, by omega, by omega, by simp [h0], st_eq (by simp [dI, hw]) rfl⟩
  ·have hkm := eq_false (show ¬ (most : Int) < (k : Int) by omega)
   have hkm' := eq_false (show ¬ most < k by omega)
   by_cases hb1 : j < x.args.length
   ·have c1 := eq_true (show (j : Int) < (x.args.length : Int) by omega)
    have c1' := eq_true hb1
    have c2 := eq_false (show ¬ (k : Int) < (most : Int) by omega)
    have c2' := eq_false (show ¬ k < most by omega)
    refine wkc (jn @dI.eq_1 (jn @dL.eq_1 (jn @hXe (jn @h0 (jn @c1 (jn @c2 (jn @c1' (jn @c2' (jn @maxV.eq_def (jn @maxI.eq_1 (jn @maxI.eq_2 (jn @maxI.eq_3 (jn @maxI.eq_4 (jn @hkm @hkm')))))))))))))) ?_
    exact ⟨⟨k, hk2⟩, .inr rfl, _, _, rfl, rfl⟩
   ·have c1 := eq_false (show ¬ (j : Int) < (x.args.length : Int) by omega)
    have c1' := eq_false hb1
    refine wkc (jn @dI.eq_1 (jn @dL.eq_1 (jn @hXe (jn @h0 (jn @c1 (jn @c1' (jn @maxV.eq_def (jn @maxI.eq_1 (jn @maxI.eq_2 (jn @maxI.eq_3 (jn @maxI.eq_4 (jn @hkm @hkm')))))))))))) ?_
    exact ⟨⟨k, hk2⟩, .inr rfl, _, _, rfl, rfl⟩
def cnN (n : Nn) : Nat := n.inn.length + n.out.length + n.loc.length + n.eqs.length
set_option maxHeartbeats 8000000 in
theorem weigh4 (n : Nn) (hs : n.sz ≤ 4194304) : ∃ w : {w : Nat // cnN n ≤ w}, den Tryz.prog Ob.cfg 4 [aG n.cells, dI 400] = some (dI (w.1 : Nat)) := by
 have hsz : n.sz = szT n.nm + szD n.inn + szD n.out + szD n.loc + szN n.eqs + 5 := rfl
 have hNl := len_szN n.eqs
 have q1 := len_szD n.inn
 have q2 := len_szD n.out
 have q3 := len_szD n.loc
 have hNe : (encN n.eqs).length = n.eqs.length := encN_len _
 have hL1 : (encD n.inn).length = n.inn.length := encD_len _
 have hL2 : (encD n.out).length = n.out.length := encD_len _
 have hL3 : (encD n.loc).length = n.loc.length := encD_len _
 have w1 : IntKind.i64.wrap ((n.inn.length : Int) + (n.out.length : Int)) = (n.inn.length : Int) + (n.out.length : Int) := by rw [w_id] <;> omega
 have w2 : IntKind.i64.wrap ((n.inn.length : Int) + (n.out.length : Int) + (n.loc.length : Int)) = (n.inn.length : Int) + (n.out.length : Int) + (n.loc.length : Int) := by rw [w_id] <;> omega
 have w3 : IntKind.i64.wrap ((n.inn.length : Int) + (n.out.length : Int) + (n.loc.length : Int) + (n.eqs.length : Int)) = (cnN n : Int) := by rw [show (cnN n : Int) = (n.inn.length : Int) + (n.out.length : Int) + (n.loc.length : Int) + (n.eqs.length : Int) by unfold cnN; omega, w_id] <;> omega
 refine den_ex (F := fun w : {w : Nat // cnN n ≤ w} => dI (w.1 : Nat)) Tryz.func4 rfl (by kernel_rfl) rfl (fun _ => rfl) ?_
 refine wkc (jn @envOf.eq_1 (jn @envOf.eq_2 (jn @aG.eq_1 (jn @Nn.cells.eq_1 (jn @dI.eq_1 (jn @dL.eq_1 (jn @fillV.eq_1 (jn @fillV.eq_2 (jn @hL1 (jn @hL2 (jn @hL3 (jn @hNe (jn @w1 (jn @w2 @w3)))))))))))))) ?_
 apply WP.loop' (I := fun D s => ∃ (j c' k : Nat) (hp' : Hp), j + D = n.loc.length ∧ cnN n ≤ k ∧ k ≤ 400 + 16777216 ∧ hp'.get 0 = some ⟨0, false, oN n⟩ ∧
  s = ⟨[(1, dI 400), (2, .ptr 0 0 0), (5, dI k), (6, dI j)], hp', 1, c', 0, []⟩) (d := n.loc.length)
 ·exact ⟨0, _, cnN n, _, by simp, Nat.le_refl _, by unfold cnN; omega, rfl, st_eq (by simp [dI]) rfl⟩
 rintro D _ ⟨j, c', k, hp', hj, hk1, hk2, h0, rfl⟩
 unfold oN at h0
 by_cases hb : j < n.loc.length ∧ k < 400
 ·obtain ⟨d, hd, hdm, hix⟩ := at_lt hb.1
  have hd' := encD_at hd
  have hw := w_succ hb.1 (by omega)
  have hms := mem_szD hdm
  have hol := len_szO d.ck
  have hdz : d.sz = szT d.nm + szO d.ck + 3 := rfl
  have hOe : (encO d.ck).length = d.ck.length := encO_len _
  have c1' := eq_true hb.1
  have c2' := eq_true hb.2
  have c2 := eq_true (show (k : Int) < 400 by omega)
  obtain ⟨k2, hk2'⟩ : ∃ k2 : Nat, k2 = k + d.ck.length := ⟨_, rfl⟩
  have hwk : IntKind.i64.wrap ((k : Int) + (d.ck.length : Int)) = (k2 : Int) := by rw [w_id] <;> omega
  refine wkc (jn @dI.eq_1 (jn @dL.eq_1 (jn @hL3 (jn @h0 (jn @c1' (jn @c2' @c2)))))) ?_
  refine wkc (jn @dI.eq_1 (jn @dL.eq_1 (jn @hL3 (jn @Dc.cells.eq_1 (jn @hix (jn @hd' (jn @h0 (jn @hwk @hOe)))))))) ?_
  refine loop_next (by simp [hw]; exact Is.rfl) ?_
  exact ⟨D - 1, by omega, j + 1, _, k2, _, by omega, by omega, by omega, by simp [h0, oN], st_eq (by simp [dI, hw]) rfl⟩
 ·have hbf : (j < n.loc.length) = False ∨ ((j < n.loc.length) = True ∧ ((k : Int) < 400) = False) := by
   by_cases h : j < n.loc.length
   ·exact .inr ⟨eq_true h, eq_false (by omega)⟩
   ·exact .inl (eq_false h)
  rcases hbf with c1 | ⟨c1, c2⟩
  refine wkc (jn @dI.eq_1 (jn @dL.eq_1 (jn @hL3 (jn @h0 @c1)))) ?_
  rotate_left
  refine wkc (jn @dI.eq_1 (jn @dL.eq_1 (jn @hL3 (jn @h0 (jn @c1 @c2))))) ?_
  rotate_left
  all_goals
   clear hk2
   apply WP.gen3
   intro hp1 c1' wl1 hhp1 hwl1
   have hw1 : wl1 = [] := hwl1
   subst hw1
   rw [← hhp1] at h0
   clear hhp1 hwl1 c1 hb
   apply WP.loop' (I := fun D s => ∃ (i c' k : Nat) (hp' : Hp), i + D = n.eqs.length ∧ cnN n ≤ k ∧ hp'.get 0 = some ⟨0, false, oN n⟩ ∧
    s = ⟨[(1, dI 400), (2, .ptr 0 0 0), (5, dI k), (7, dI i)], hp', 1, c', 0, []⟩) (d := n.eqs.length)
   ·exact ⟨0, _, k, _, by simp, hk1, h0, st_eq (by simp [dI]) rfl⟩
   clear hk1 h0 hj
   rintro D _ ⟨i, c', k, hp', hi, hk1, h0, rfl⟩
   unfold oN at h0
   by_cases hb : i < n.eqs.length ∧ k < 400
   ·obtain ⟨q, hq, hqm, hix⟩ := at_lt hb.1
    have hq' := encN_at hq
    have hwi := w_succ hb.1 (by omega)
    have hqs := mem_szN hqm
    have hqz : q.sz = szS q.left + q.r.sz + szT q.node + szX q.args + szT q.ev + szO q.ck + 13 := rfl
    have hll := len_szS q.left
    have hol := len_szO q.ck
    have hxl := len_szX q.args
    have hSe : (encS q.left).length = q.left.length := encS_len _
    have hOe : (encO q.ck).length = q.ck.length := encO_len _
    have hXe : (encX q.args).length = q.args.length := encX_len _
    have c1' := eq_true hb.1
    have c2 := eq_true (show (k : Int) < 400 by omega)
    obtain ⟨⟨w, hwl⟩, hd⟩ := weigh9 (q.r.sz + 1) q.r (by omega) (by omega) 400 (by omega) (by omega)
    obtain ⟨k2, hk2⟩ : ∃ k2 : Nat, k2 = k + q.left.length + q.ck.length + q.args.length + w := ⟨_, rfl⟩
    have v1 : IntKind.i64.wrap ((k : Int) + (q.left.length : Int)) = (k : Int) + (q.left.length : Int) := by rw [w_id] <;> omega
    have v2 : IntKind.i64.wrap ((k : Int) + (q.left.length : Int) + (q.ck.length : Int)) = (k : Int) + (q.left.length : Int) + (q.ck.length : Int) := by rw [w_id] <;> omega
    have v3 : IntKind.i64.wrap ((k : Int) + (q.left.length : Int) + (q.ck.length : Int) + (q.args.length : Int)) = (k : Int) + (q.left.length : Int) + (q.ck.length : Int) + (q.args.length : Int) := by rw [w_id] <;> omega
    have v4 : IntKind.i64.wrap ((k : Int) + (q.left.length : Int) + (q.ck.length : Int) + (q.args.length : Int) + (w : Int)) = (k2 : Int) := by rw [w_id] <;> omega
    simp only [aG, X.cells_eq, List.map_cons, List.map_nil, dI] at hd
    rw [show ((400 : Nat) : Int) = 400 from rfl] at hd
    refine wkc (jn @dI.eq_1 (jn @dL.eq_1 (jn @hNe (jn @h0 (jn @c1' @c2))))) ?_
    repeat (first
 | apply WP.seq
 | (apply WP.reg; (case hR => dsimp only [prepL, prepO, List.map, gS, gZ]; exact iZ); (case hr => (repeat (first
 | (apply RT.op; simp [dI, dL, hNe, Nq.cells, hix, hq', h0, fillV, hSe, hOe, hXe, v1, v2, v3, v4, hd]; exact iZ; (try dsimp only [putEnv]) <;> exact rfl)
 | (apply RT.call; (iterate 2 simp; exact iZ); exact iZ; (iterate 4 simp [dI, dL, hNe, Nq.cells, hix, hq', h0, fillV, hSe, hOe, hXe, v1, v2, v3, v4, hd]; exact iZ); simp [Is]; (try dsimp only [putEnv]) <;> exact rfl; simp; exact iZ; simp; exact iZ)
 | (apply RT.wr; simp [dI, dL, hNe, Nq.cells, hix, hq', h0, fillV, hSe, hOe, hXe, v1, v2, v3, v4, hd]; exact iZ; (try dsimp only [putEnv]) <;> exact rfl; simp [dI, dL, hNe, Nq.cells, hix, hq', h0, fillV, hSe, hOe, hXe, v1, v2, v3, v4, hd]; exact iZ; (iterate 2 exact iZ); simp; exact iZ))); exact RT.nil); (case hc => first | (refine checkR_un [(0, 1), (0, 2), (0, 3), (0, 5), (1, 5), (2, 5), (3, 5), (4, 5), (0, 6), (1, 6), (2, 6), (3, 6), (4, 6), (0, 7), (1, 7), (2, 7), (3, 7), (4, 7), (0, 9), (1, 9), (2, 9), (3, 9), (4, 9), (5, 9), (6, 9), (7, 9), (8, 9), (0, 10), (1, 10), (2, 10), (3, 10), (4, 10), (5, 10), (6, 10), (7, 10), (8, 10), (0, 11), (1, 11), (2, 11), (3, 11), (4, 11), (5, 11), (6, 11), (7, 11), (8, 11), (0, 13), (1, 13), (2, 13), (3, 13), (4, 13), (5, 13), (6, 13), (7, 13), (8, 13), (9, 13), (10, 13), (11, 13), (12, 13), (0, 14), (1, 14), (2, 14), (3, 14), (4, 14), (5, 14), (6, 14), (7, 14), (8, 14), (9, 14), (10, 14), (11, 14), (12, 14), (0, 15), (1, 15), (2, 15), (3, 15), (4, 15), (5, 15), (6, 15), (7, 15), (8, 15), (9, 15), (10, 15), (11, 15), (12, 15), (13, 15), (14, 15), (0, 16), (1, 16), (2, 16), (3, 16), (4, 16), (5, 16), (6, 16), (7, 16), (8, 16), (9, 16), (10, 16), (11, 16), (12, 16)] (by kernel_rfl) (by kernel_rfl) rfl ?_; simp [memA, disj, nbeq_dec]; done) | (show _ = _; kernel_rfl)); (case ht => simp [dI, dL, hNe, Nq.cells, hix, hq', h0, fillV, hSe, hOe, hXe, v1, v2, v3, v4, hd]; exact iZ))
 | apply WP.block | apply WP.skip | apply WP.exit | apply WP.ret | refine WP.condT rfl ?_ | refine WP.condF rfl ?_)
    apply WP.gen3
    intro hp2 c2' wl2 hhp hwl
    have hw2 : wl2 = [] := hwl
    subst hw2
    have g0 : hp2.get 0 = some ⟨0, false, oN n⟩ := by rw [hhp]; simp [h0, oN]
    obtain ⟨gq, g1⟩ : ∃ gq, hp2.get 1 = some ⟨gq, false, QC q⟩ ∧ gq = c' := ⟨c', by rw [hhp]; simp [QC], rfl⟩
    rw [← g1.2]
    replace g1 := g1.1
    clear hhp hwl h0
    apply WP.loop' (I := fun D2 s => ∃ (j c' k : Nat) (hp' : Hp), j + D2 = q.args.length ∧ cnN n ≤ k ∧ hp'.get 0 = some ⟨0, false, oN n⟩ ∧ hp'.get 1 = some ⟨gq, false, QC q⟩ ∧
     s = ⟨[(1, dI 400), (2, .ptr 0 0 0), (5, dI k), (7, dI i), (8, .ptr 1 gq 0), (9, dI j)], hp', 2, c', 0, []⟩) (d := q.args.length)
    ·exact ⟨0, _, k2, _, by simp, by omega, g0, g1, st_eq (by simp [dI]) rfl⟩
    clear g0 g1
    rintro D2 _ ⟨j, c', k, hp', hj, hk1, g0, g1, rfl⟩
    unfold QC at g1
    by_cases hb2 : j < q.args.length ∧ k < 400
    ·obtain ⟨x, hx, hxm, hix2⟩ := at_lt hb2.1
     have hx' := encX_at hx
     have hwj := w_succ hb2.1 (by omega)
     have hxs := mem_szX hxm
     have d1' := eq_true hb2.1
     have d2 := eq_true (show (k : Int) < 400 by omega)
     obtain ⟨⟨w, hwl⟩, hd⟩ := weigh9 (x.sz + 1) x (by omega) (by omega) 400 (by omega) (by omega)
     obtain ⟨k2, hk2⟩ : ∃ k2 : Nat, k2 = k + w := ⟨_, rfl⟩
     have v4 : IntKind.i64.wrap ((k : Int) + (w : Int)) = (k2 : Int) := by rw [w_id] <;> omega
     simp only [aG, X.cells_eq, List.map_cons, List.map_nil, dI] at hd
     rw [show ((400 : Nat) : Int) = 400 from rfl] at hd
     refine wkc (jn @dI.eq_1 (jn @dL.eq_1 (jn @hXe (jn @g1 (jn @d1' @d2))))) ?_
     refine wkc (jn @dI.eq_1 (jn @dL.eq_1 (jn @hXe (jn @X.cells_eq (jn @hix2 (jn @hx' (jn @g1 (jn @v4 @hd)))))))) ?_
     refine loop_next (by simp [hwj]; exact Is.rfl) ?_
     exact ⟨D2 - 1, by omega, j + 1, _, k2, _, by omega, by omega, by simp [g0], by simp [g1, QC], st_eq (by simp [dI, hwj]) rfl⟩
    ·have hbf : (j < q.args.length) = False ∨ ((j < q.args.length) = True ∧ ((k : Int) < 400) = False) := by
      by_cases h : j < q.args.length
      ·exact .inr ⟨eq_true h, eq_false (by omega)⟩
      ·exact .inl (eq_false h)
     rcases hbf with d1 | ⟨d1, d2⟩
     ·refine wkc (jn @dI.eq_1 (jn @dL.eq_1 (jn @hXe (jn @g1 @d1)))) ?_
      refine loop_next (by simp [hwi]; exact Is.rfl) ?_
      exact ⟨D - 1, by omega, i + 1, _, k, _, by omega, hk1, by simp [g0], st_eq (by simp [dI, hwi]) rfl⟩
     ·refine wkc (jn @dI.eq_1 (jn @dL.eq_1 (jn @hXe (jn @g1 (jn @d1 @d2))))) ?_
      refine loop_next (by simp [hwi]; exact Is.rfl) ?_
      exact ⟨D - 1, by omega, i + 1, _, k, _, by omega, hk1, by simp [g0], st_eq (by simp [dI, hwi]) rfl⟩
   ·have hbf : (i < n.eqs.length) = False ∨ ((i < n.eqs.length) = True ∧ ((k : Int) < 400) = False) := by
     by_cases h : i < n.eqs.length
     ·exact .inr ⟨eq_true h, eq_false (by omega)⟩
     ·exact .inl (eq_false h)
    rcases hbf with d1 | ⟨d1, d2⟩
    ·refine wkc (jn @dI.eq_1 (jn @dL.eq_1 (jn @hNe (jn @h0 @d1)))) ?_
     exact ⟨⟨k, hk1⟩, .inr rfl, _, _, rfl, rfl⟩
    ·refine wkc (jn @dI.eq_1 (jn @dL.eq_1 (jn @hNe (jn @h0 (jn @d1 @d2))))) ?_
     exact ⟨⟨k, hk1⟩, .inr rfl, _, _, rfl, rfl⟩
theorem lives5 : den Tryz.prog Ob.cfg 5 [] = some (dB true) := den_t 200 (by kernel_rfl)
end Go.Ac
end

section
set_option maxRecDepth 8000
namespace Go.Ac
open Go.Proofs
theorem sumK {α β : Type} {f : α → List β} {g : β → Nat} {K : Nat} : ∀ {l : List α}, (∀ p, p ∈ l → ((f p).map g).sum ≤ K) → ((l.flatMap f).map g).sum ≤ K * l.length
 | [], _ => by simp
 | x :: r, h => by
  have h1 := sumK (l := r) fun p hp => h p (List.mem_cons_of_mem _ hp)
  have h2 := h x List.mem_cons_self
  rw [List.flatMap_cons, List.map_append, List.sum_append, List.length_cons, Nat.mul_succ]; omega
theorem X.one_le (x : X) : 7 ≤ x.sz := by rw [X.sz_eq]; unfold szT; omega
mutual
theorem stX_sz : ∀ x : X, (stX x).sz ≤ x.sz
 | .mk k o t v nm [] => by rw [stX]; exact Nat.le_refl _
 | .mk k o t v nm (a :: r) => by
  rw [stX]
  have h1 := stX_sz a
  have h2 := stXs_sz r
  split
  ·rw [X.sz_eq (.mk k o t v nm (a :: r))]; simp only [X.args, szX]; omega
  ·rw [X.sz_eq, X.sz_eq (.mk k o t v nm (a :: r))]; simp only [X.args, X.nm, szX]; omega
theorem stXs_sz : ∀ l : List X, szX (stXs l) ≤ szX l
 | [] => by rw [stXs]; exact Nat.le_refl _
 | x :: r => by
  rw [stXs]
  have h1 := stX_sz x
  have h2 := stXs_sz r
  simp only [szX]; omega
end
mutual
theorem asgX_sz (nm : Tx) : ∀ x : X, (asgX nm x).sz + 1 ≤ (szT nm + 60) * x.sz
 | .mk k o t v e args => by
  rw [asgX]
  have h3 := X.one_le (.mk k o t v e args)
  split
  ·have h2 := asgXs_sz nm args
   have h8 : (X.mk k o t v e args).sz = szT e + szX args + 6 := X.sz_eq _
   have h9 : (X.mk 0 0 0 0 [] []).sz = 7 := by rw [X.sz_eq]; rfl
   rw [Y.sz_eq, h8, Nat.mul_add, Nat.mul_add]
   simp only [Y.nm, Y.r, Y.outs, Y.args, Y.brs, szX, szS, List.map_nil, List.sum_nil, h9]
   have h4 : 1 * szT e ≤ (szT nm + 60) * szT e := Nat.mul_le_mul_right _ (by omega)
   omega
  ·have h1 := stX_sz (.mk k o t v e args)
   obtain ⟨S, hS⟩ : ∃ S, (X.mk k o t v e args).sz = S := ⟨_, rfl⟩
   rw [hS] at h1 h3 ⊢
   rw [Y.sz_eq]
   simp only [Y.nm, Y.outs, Y.args, Y.brs, szX, szB, szS, List.map_nil, List.sum_nil]
   have h6 : (szT nm + 60) * S = szT nm * S + 60 * S := Nat.add_mul _ _ _
   have h7 : szT nm * 1 ≤ szT nm * S := Nat.mul_le_mul_left _ (by omega)
   show szT nm + (stX (X.mk k o t v e args)).sz + 0 + 0 + 0 + 12 + 1 ≤ _
   omega
theorem asgXs_sz (nm : Tx) : ∀ l : List X, szB (asgXs nm l) ≤ (szT nm + 60) * szX l
 | [] => by rw [asgXs]; simp [szB]
 | x :: r => by
  rw [asgXs]
  have h1 := asgX_sz nm x
  have h2 := asgXs_sz nm r
  simp only [szB, szY, szX]
  rw [Nat.mul_add]; omega
end
theorem brs_sz (L : List Y) (t : Int) : ∀ m : Nat, szB ((List.range m).map fun i : Nat => if (i : Int) = t then L else []) ≤ m + (if t < (m : Int) then szY L else 0)
 | 0 => by simp [szB]
 | m + 1 => by
  have h := brs_sz L t m
  rw [szB_sum] at h ⊢
  rw [List.range_succ, List.map_append, List.map_append, List.sum_append]
  simp only [List.map_cons, List.map_nil, List.sum_cons, List.sum_nil]
  by_cases h1 : (m : Int) = t
  ·rw [if_pos h1]; rw [if_neg (by omega)] at h; rw [if_pos (by omega)]; omega
  ·rw [if_neg h1]
   have h2 : szY [] = 0 := rfl
   by_cases h3 : t < (m : Int)
   ·rw [if_pos h3] at h; rw [if_pos (by omega)]; omega
   ·rw [if_neg h3] at h; rw [if_neg (by omega)]; omega
theorem unY_sz (L : List Y) : ∀ ck : List On, (∀ o ∈ ck, okO o) → szY (unY ck L) ≤ szY L + szO ck * 2097152
 | [], _ => by rw [unY]; omega
 | o :: r, h => by
  have ih := unY_sz L r fun p hp => h p (List.mem_cons_of_mem _ hp)
  have hb := (brN_le (h o List.mem_cons_self)).1
  have h1 := brs_sz (unY r L) o.tag (brN o)
  have h2 : szO (o :: r) = (szT o.nm + 3) + szO r := rfl
  have h3 : z0X.sz = 7 := by rw [z0X, X.sz_eq]; rfl
  have h4 : (if o.tag < (brN o : Int) then szY (unY r L) else 0) ≤ szY (unY r L) := by split <;> omega
  rw [unY_cons, cY]
  simp only [szY, Y.sz, szX, szS, List.map_nil, List.sum_nil, h3]
  rw [h2, Nat.add_mul]
  omega
theorem ltX_sz (c : Tx) : ∀ (N lo : Nat) (s : List Bool), 1 ≤ s.length → (ltX c N lo s).sz ≤ (2 * s.length - 1) * (szT c + 60)
 | 0, lo, s, hs => by
  rw [ltX, X.sz_eq]
  have : 1 * (szT c + 60) ≤ (2 * s.length - 1) * (szT c + 60) := Nat.mul_le_mul_right _ (by omega)
  have : szT ([] : Tx) = 1 := rfl
  simp only [X.nm, X.args, szX]; omega
 | N + 1, lo, s, hs => by
  rw [ltX]
  have h0 : 1 * (szT c + 60) ≤ (2 * s.length - 1) * (szT c + 60) := Nat.mul_le_mul_right _ (by omega)
  have e1 : szT ([] : Tx) = 1 := rfl
  split
  ·rw [xBl, X.sz_eq]; simp only [X.nm, X.args, szX]; omega
  ·rename_i hna
   have hs2 : 2 ≤ s.length := by
    cases s with
    | nil => simp at hna
    | cons x r => cases r with
     | nil => simp [hdB] at hna
     | cons y z => simp
   have h1 := ltX_sz c N lo (s.take (s.length / 2)) (by rw [List.length_take]; omega)
   have h2 := ltX_sz c N (lo + s.length / 2) (s.drop (s.length / 2)) (by rw [List.length_drop]; omega)
   rw [List.length_take, Nat.min_eq_left (by omega)] at h1
   rw [List.length_drop] at h2
   have e2 : (xSt c).sz = szT c + 6 := by rw [xSt, X.sz_eq]; rfl
   have e3 : ∀ v, (xNum v).sz = 7 := fun v => by rw [xNum, X.sz_eq]; rfl
   obtain ⟨A, hA⟩ : ∃ A, ltX c N lo (s.take (s.length / 2)) = A := ⟨_, rfl⟩
   obtain ⟨B, hB⟩ : ∃ B, ltX c N (lo + s.length / 2) (s.drop (s.length / 2)) = B := ⟨_, rfl⟩
   rw [hA] at h1 ⊢
   rw [hB] at h2 ⊢
   obtain ⟨C, hC⟩ : ∃ C, szT c + 60 = C := ⟨_, rfl⟩
   rw [hC] at h1 h2 ⊢
   have h3 : (2 * s.length - 1) * C = (2 * (s.length / 2) - 1) * C + (2 * (s.length - s.length / 2) - 1) * C + C := by
    rw [← Nat.add_mul, show (2 * s.length - 1) = (2 * (s.length / 2) - 1 + (2 * (s.length - s.length / 2) - 1)) + 1 by omega, Nat.add_mul, Nat.one_mul]
   rw [h3, xIf, X.sz_eq]
   simp only [X.nm, X.args, szX]
   rw [xOp, X.sz_eq]
   simp only [X.nm, X.args, szX, e2, e3]
   omega
theorem nmOf_len (T : List Tx) (s : Nat × Nat) (q : Nq) : szT (nmOf T s q) ≤ 6 := by
 unfold nmOf szT
 have h1 := decT_len (nx pM T 404 s.1)
 have h2 := decT_len (nx pI T 404 s.2)
 split
 ·unfold nmT; rw [List.length_append, show pM.length = 2 from rfl]; omega
 ·split
  ·unfold nmT; rw [List.length_append, show pI.length = 2 from rfl]; omega
  ·simp
theorem prL_nm (T : List Tx) : ∀ (l : List Nq) (s : Nat × Nat) (p : Nq × Tx), p ∈ prL T s l → p.1 ∈ l ∧ szT p.2 ≤ 6
 | [], s, p, h => by simp [prL] at h
 | q :: r, s, p, h => by
  rw [prL] at h
  rcases List.mem_cons.1 h with rfl | h
  ·exact ⟨List.mem_cons_self, nmOf_len T s q⟩
  ·obtain ⟨h1, h2⟩ := prL_nm T r _ p h; exact ⟨List.mem_cons_of_mem _ h1, h2⟩
theorem lfQ_sz (q : Nq) : szT (lfQ q) ≤ szS q.left + 1 := by
 unfold lfQ
 cases q.left with
 | nil => exact Nat.le_add_left _ _
 | cons a r => simp only [szS, List.map_cons, List.sum_cons]; omega
theorem stQ_sz {q : Nq} {nm : Tx} (hq : q.sz ≤ 4194304) (hn : szT nm ≤ 6) (hok : okQ q) : szY (stQ q nm) ≤ 35184372088832 := by
 have hs0 : q.sz = szS q.left + q.r.sz + szT q.node + szX q.args + szT q.ev + szO q.ck + 13 := rfl
 have hl := lfQ_sz q
 have z7 : z0X.sz = 7 := by rw [z0X, X.sz_eq]; rfl
 unfold stQ
 split
 ·have h1 := asgX_sz (lfQ q) q.r
  have h2 : (szT (lfQ q) + 60) * q.r.sz ≤ 4194400 * 4194304 := Nat.mul_le_mul (by omega) (by omega)
  simp only [szY]; omega
 ·split
  ·simp only [szY, Y.sz, szS, szX, szB, List.map_nil, List.sum_nil]; omega
  ·split
   ·have h3 := stXs_sz q.args
    unfold evY
    split
    ·simp only [List.nil_append, clY, szY, Y.sz, szB, z7]; omega
    ·simp only [List.cons_append, List.nil_append, clY, rsY, szY, Y.sz, szB, szS, szX, List.map_nil, List.sum_nil, z7]
     have : szS q.left = (q.left.map szT).sum := rfl
     omega
   ·split
    ·rename_i h1 h2 h3 h4
     obtain ⟨a1, a2⟩ := prs_len (hok.1 h4)
     have hlt := ltX_sz nm ((prsT q.node).1.1 ++ (prsT q.node).1.2).length 0 ((prsT q.node).1.1 ++ (prsT q.node).1.2) a1
     rw [List.length_append] at hlt
     have hm : (2 * ((prsT q.node).1.1.length + (prsT q.node).1.2.length) - 1) * (szT nm + 60) ≤ 128 * 66 := Nat.mul_le_mul (by omega) (by omega)
     have e2 : (xSt nm).sz = szT nm + 6 := by rw [xSt, X.sz_eq]; rfl
     have e3 : ∀ v, (xNum v).sz = 7 := fun v => by rw [xNum, X.sz_eq]; rfl
     have e1 : szT ([] : Tx) = 1 := rfl
     unfold wdY stepX
     rw [List.length_append]
     simp only [szY, Y.sz, szB, szS, szX, List.map_nil, List.sum_nil, xIf, xOp, X.sz, e1]
     rw [X.sz_eq (xSt nm)] at e2
     simp only [xSt, xNum, X.sz, szX, e1]
     omega
    ·simp only [szY]; omega
theorem clN_sz (n : Nn) (hs : n.sz ≤ 4194304) (hok : ∀ q ∈ n.eqs, okQ q) (hb : n.eqs.length ≤ 402) : (clN n).sz ≤ MX := by
 have hsz : n.sz = szT n.nm + szD n.inn + szD n.out + szD n.loc + szN n.eqs + 5 := rfl
 have hbr : ∀ l : List Dc, szD (l.map brD) ≤ szD l := fun l => by
  induction l with
  | nil => exact Nat.le_refl _
  | cons d r ih => simp only [szD, List.map_cons, List.sum_cons, Dc.sz, brD, szO, List.map_nil, List.sum_nil] at ih ⊢; omega
 have b1 := hbr n.inn
 have b2 := hbr n.out
 have b3 := hbr n.loc
 have hl : (eqN n).length = n.eqs.length := by unfold eqN; rw [prL_len]
 have hmem : ∀ p, p ∈ eqN n → p.1 ∈ n.eqs ∧ szT p.2 ≤ 6 := fun p hp => prL_nm _ _ _ p hp
 have hqs : ∀ p, p ∈ eqN n → p.1.sz ≤ 4194304 := fun p hp => by have := mem_szN (hmem p hp).1; omega
 have m1 := sumK (l := eqN n) (f := memQ (vrN n)) (g := Mm.sz) (K := 9) fun p hp => by
  have := (hmem p hp).2
  unfold memQ; split
  ·simp only [List.map_cons, List.map_nil, List.sum_cons, List.sum_nil, Mm.sz]; omega
  ·split
   ·simp only [List.map_cons, List.map_nil, List.sum_cons, List.sum_nil, Mm.sz]; omega
   ·simp
 have m2 := sumK (l := eqN n) (f := insQ) (g := Ii.sz) (K := 4194320) fun p hp => by
  have h1 := (hmem p hp).2
  have h2 := hqs p hp
  have hs0 : p.1.sz = szS p.1.left + p.1.r.sz + szT p.1.node + szX p.1.args + szT p.1.ev + szO p.1.ck + 13 := rfl
  unfold insQ; split
  ·simp only [List.map_cons, List.map_nil, List.sum_cons, List.sum_nil, Ii.sz]; omega
  ·simp
 have m3 := sumK (l := eqN n) (f := fstQ) (g := Y.sz) (K := 4194400) fun p hp => by
  have h1 := (hmem p hp).2
  have h2 := hqs p hp
  have h3 := lfQ_sz p.1
  have hs0 : p.1.sz = szS p.1.left + p.1.r.sz + szT p.1.node + szX p.1.args + szT p.1.ev + szO p.1.ck + 13 := rfl
  have e2 : (xSt p.2).sz = szT p.2 + 6 := by rw [xSt, X.sz_eq]; rfl
  unfold fstQ; split
  ·simp only [List.map_cons, List.map_nil, List.sum_cons, List.sum_nil, Y.sz, e2, szS, szX, szB]; omega
  ·simp
 have m4 := sumK (l := eqN n) (f := rstQ) (g := Y.sz) (K := 1125899906842624) fun p hp => by
  have h2 := hqs p hp
  have hs0 : p.1.sz = szS p.1.left + p.1.r.sz + szT p.1.node + szX p.1.args + szT p.1.ev + szO p.1.ck + 13 := rfl
  unfold rstQ; split
  ·have h3 := unY_sz (stQ p.1 p.2) p.1.ck (hok _ (hmem p hp).1).2
   have h4 := stQ_sz (nm := p.2) h2 (hmem p hp).2 (hok _ (hmem p hp).1)
   have h5 : szO p.1.ck * 2097152 ≤ 4194304 * 2097152 := Nat.mul_le_mul_right _ (by omega)
   rw [← szY_sum]; omega
  ·simp
 rw [hl] at m1 m2 m3 m4
 have k1 : 9 * n.eqs.length ≤ 9 * 402 := Nat.mul_le_mul_left _ hb
 have k2 : 4194320 * n.eqs.length ≤ 4194320 * 402 := Nat.mul_le_mul_left _ hb
 have k3 : 4194400 * n.eqs.length ≤ 4194400 * 402 := Nat.mul_le_mul_left _ hb
 have k4 : 1125899906842624 * n.eqs.length ≤ 1125899906842624 * 402 := Nat.mul_le_mul_left _ hb
 have hM : szM ((eqN n).flatMap (memQ (vrN n))) ≤ 9 * 402 := Nat.le_trans m1 k1
 have hJ : szJ ((eqN n).flatMap insQ) ≤ 4194320 * 402 := Nat.le_trans m2 k2
 have hY : szY ((eqN n).flatMap fstQ ++ (eqN n).flatMap rstQ) ≤ 4194400 * 402 + 1125899906842624 * 402 := by
  rw [szY_sum, List.map_append, List.sum_append]; omega
 unfold clN Cl.sz MX
 simp only
 omega
end Go.Ac
end

section
set_option maxRecDepth 8000
namespace Go.Ac
open Go.Proofs
attribute [local simp] Hp.get_set get_trunc_lt
theorem clsA_sz (n : Nn) (r : Bool) (hs : n.sz ≤ 4194304) (hb : n.eqs.length ≤ 402) : (clsA n r).1.sz ≤ MX := by
 have hz : zC1.sz ≤ MX := by unfold zC1 Cl.sz MX; simp [szT, szD, szM, szJ, szY]
 unfold clsA
 split
 ·exact hz
 ·split
  ·exact hz
  ·rename_i h1 h2
   have h3 : n.eqs.any wrQ = false := by simpa using h2
   exact clN_sz n hs (fun q hq => okQ_of (by have := List.any_eq_false.1 h3 q hq; simpa using this)) hb
theorem kf3 (r : Nat) : Ob.keep 3 r = Ob.k3 r := by kernel_rfl
attribute [local simp] kf3 Ob.k3
set_option maxHeartbeats 8000000 in
theorem law3 (n : Nn) (hs : n.sz ≤ 4194304) : den Tryz.prog Ob.cfg 3 [aG n.cells] = some (dB true) := by
 obtain ⟨⟨w, hw⟩, hW⟩ := weigh4 n hs
 have hL := lives5
 simp only [aG, Nn.cells, List.map_cons, List.map_nil, dI, dB] at hW hL
 refine den_wp Tryz.func3 rfl (by kernel_rfl) rfl rfl ?_
 by_cases h4 : 400 ≤ w
 ·have c1 := eq_true (show (w : Int) ≥ 400 by omega)
  have c1' := eq_true h4
  refine wkc (jn @envOf.eq_1 (jn @envOf.eq_2 (jn @aG.eq_1 (jn @Nn.cells.eq_1 (jn @fillV.eq_1 (jn @fillV.eq_2 (jn @hW (jn @hL (jn @c1 @c1'))))))))) ?_
  show retQ _ _ _ _ _
  exact ⟨.inr rfl, _, _, rfl, rfl⟩
 ·have c1 := eq_false (show ¬ (w : Int) ≥ 400 by omega)
  have c1' := eq_false h4
  have hcn : n.eqs.length + (dNm (vrN n)).length ≤ 402 := by
   unfold cnN at hw; unfold dNm vrN; rw [List.length_map, List.length_append, List.length_append]; omega
  have h6 := class6 n hs hcn
  have h7 := class7r n hs hcn
  have hsz := clsA_sz n (rgN n) hs (by omega)
  obtain ⟨a, ha⟩ : ∃ a, clsA n (rgN n) = a := ⟨_, rfl⟩
  rw [ha] at h6 h7 hsz
  obtain ⟨C, e⟩ := a
  simp only at h6 h7 hsz
  have h8 := rq50_den C C hsz hsz
  rw [show eqB C C = true by unfold eqB; simp] at h8
  simp only [aG, Nn.cells, Cl.cells, List.map_cons, List.map_nil, dI, dB] at h6 h7 h8
  refine wkc (jn @envOf.eq_1 (jn @envOf.eq_2 (jn @aG.eq_1 (jn @Nn.cells.eq_1 (jn @fillV.eq_1 (jn @fillV.eq_2 (jn @hW (jn @hL (jn @c1 (jn @c1' (jn @h6 (jn @h7 (jn @h8 @int_beq))))))))))))) ?_
  show retQ _ _ _ _ _
  exact ⟨.inr rfl, _, _, rfl, rfl⟩
end Go.Ac
end

section
set_option maxRecDepth 4000
namespace Go.Ac
open Go.Proofs Go.ChangeShapes Go.WideShapes Go.RowKit
open Go.Proofs.YtmjkclonkhempaaGreatDoor.Rows (uptoBulk uptoBulkAll)
section
variable {H : Type} {enc : TypeId × Value → H} {w : World}
theorem cz23 : Tryz.prog.cellsOf 23 = 1 := by kernel_rfl
theorem cz25 : Tryz.prog.cellsOf 25 = 5 := by kernel_rfl
theorem cz46 : Tryz.prog.cellsOf 46 = 13 := by kernel_rfl
theorem Nq.cells_len (q : Nq) : q.cells.length = 13 := rfl
instance : Inhabited Nq := ⟨⟨0, [], .mk 0 0 0 0 [] [], 0, [], [], [], []⟩⟩
theorem openNq {f : Nat} {cs : List Value} {x : DataW H × List MemPlace} (h : DataW.trod enc Tryz.prog w 0 (fun _ => true) true f 46 cs = some x) : ∃ q : Nq, RDs w q.cells cs ∧ q.sz ≤ 2 * uptoBulk x.1 := by
 obtain ⟨xs, n, rfl, rfl, hl, hxl, hx⟩ := DataW.trod_struct Tryz.underlying46 h
 rw [cz46] at hl
 match cs, hl with
 | [v0, v1, v2, v3, v4, v5, v6, v7, v8, v9, v10, v11, v12], _ =>
 have hxn : xs.length = 8 := hxl
 match xs, hxn with
 | [x0, x1, x2, x3, x4, x5, x6, x7], _ =>
 have h0 := hx 0 _ rfl
 have h1 := hx 1 _ rfl
 have h2 := hx 2 _ rfl
 have h3 := hx 3 _ rfl
 have h4 := hx 4 _ rfl
 have h5 := hx 5 _ rfl
 have h6 := hx 6 _ rfl
 have h7 := hx 7 _ rfl
 simp [cz3, cz9, cz41, cz44, cz42, cz38] at h0 h1 h2 h3 h4 h5 h6 h7
 obtain ⟨n0, e0, rfl, g0⟩ := DataW.trod_int Tryz.underlying3 h0
 obtain ⟨n1, w1, e1, r1, s1⟩ := openS h1
 obtain ⟨n2, r2, s2, g2⟩ := (openX _).1 _ _ h2
 obtain ⟨n3, e3, rfl, g3⟩ := DataW.trod_int Tryz.underlying3 h3
 obtain ⟨n4, e4, rfl, g4⟩ := DataW.trod_string Tryz.underlying9 h4
 obtain ⟨n5, w5, e5, r5, s5, g5⟩ := (openX _).2 _ _ h5
 obtain ⟨n6, e6, rfl, g6⟩ := DataW.trod_string Tryz.underlying9 h6
 obtain ⟨n7, w7, e7, r7, s7, g7⟩ := openO h7
 simp only [List.cons.injEq, and_true] at e0 e1 e3 e4 e5 e6 e7
 subst e0 e1 e3 e4 e5 e6 e7
 refine ⟨⟨n0, n1, n2, n3, n4.data.toList, n5, n6.data.toList, n7⟩, ?_, ?_⟩
 ·rw [X.cells_eq] at r2
  exact RDs.app (v1 := [_]) (.one (.int _ _)) (RDs.app (v1 := [_]) (.one r1) (RDs.app (v1 := [_, _, _, _, _, _]) r2 (RDs.app (v1 := [_]) (.one (.int _ _)) (RDs.app (v1 := [_]) (.one (.str _ _ rfl)) (RDs.app (v1 := [_]) (.one r5) (RDs.app (v1 := [_]) (.one (.str _ _ rfl)) (.one r7)))))))
 ·have b1 := bulk_pos x1.1
  have b5 := bulk_pos x5.1
  have b7 := bulk_pos x7.1
  simp only [Nq.sz, szT, uptoBulk, uptoBulkAll, List.map_cons, List.map_nil]
  omega
theorem openN {f : Nat} {cs : List Value} {x : DataW H × List MemPlace} (h : DataW.trod enc Tryz.prog w 0 (fun _ => true) true f 23 cs = some x) : ∃ (l : List Nq) (v : Value), cs = [v] ∧ RD w noB (.slice (encN l)) v ∧ szN l ≤ 2 * (uptoBulk x.1 - 1) := by
 obtain ⟨l, v, h1, h2, h3, _, _⟩ := open_list Nq.cells Nq.sz (fun _ => True) 2 13 Tryz.underlying23 cz46 (by omega) Nq.cells_len (fun f' hf cs x hx => by obtain ⟨q, a, b⟩ := openNq hx; exact ⟨q, a, b, trivial⟩) h
 exact ⟨l, v, h1, h2, h3⟩
theorem openNn {f : Nat} {cs : List Value} {x : DataW H × List MemPlace} (h : DataW.trod enc Tryz.prog w 0 (fun _ => true) true f 25 cs = some x) : ∃ y : Nn, RDs w y.cells cs ∧ y.sz ≤ 2 * uptoBulk x.1 := by
 obtain ⟨xs, n, rfl, rfl, hl, hxl, hx⟩ := DataW.trod_struct Tryz.underlying25 h
 rw [cz25] at hl
 match cs, hl with
 | [v0, v1, v2, v3, v4], _ =>
 have hxn : xs.length = 5 := hxl
 match xs, hxn with
 | [x0, x1, x2, x3, x4], _ =>
 have h0 := hx 0 _ rfl
 have h1 := hx 1 _ rfl
 have h2 := hx 2 _ rfl
 have h3 := hx 3 _ rfl
 have h4 := hx 4 _ rfl
 simp [cz9, cz22, cz23] at h0 h1 h2 h3 h4
 obtain ⟨n0, e0, rfl, g0⟩ := DataW.trod_string Tryz.underlying9 h0
 obtain ⟨n1, w1, e1, r1, s1, g1⟩ := openD h1
 obtain ⟨n2, w2, e2, r2, s2, g2⟩ := openD h2
 obtain ⟨n3, w3, e3, r3, s3, g3⟩ := openD h3
 obtain ⟨n4, w4, e4, r4, s4⟩ := openN h4
 simp only [List.cons.injEq, and_true] at e0 e1 e2 e3 e4
 subst e0 e1 e2 e3 e4
 refine ⟨⟨n0.data.toList, n1, n2, n3, n4⟩, ?_, ?_⟩
 ·exact RDs.app (v1 := [_]) (.one (.str _ _ rfl)) (RDs.app (v1 := [_]) (.one r1) (RDs.app (v1 := [_]) (.one r2) (RDs.app (v1 := [_]) (.one r3) (.one r4))))
 ·have b1 := bulk_pos x1.1
  have b2 := bulk_pos x2.1
  have b3 := bulk_pos x3.1
  have b4 := bulk_pos x4.1
  simp only [Nn.sz, szT, uptoBulk, uptoBulkAll, List.map_cons, List.map_nil]
  omega
end
end Go.Ac
end

section
set_option maxRecDepth 100000
namespace Go.Ac
open Go.Proofs Go.RowKit Go.Lib
theorem idx_eq : ∀ (l : List UInt8) (b : UInt8), indexByte l b = (match l.findIdx? (fun x => x == b) with | some i => (i : Int) | none => -1)
 | [], b => rfl
 | x :: r, b => by
  have ih := idx_eq r b
  unfold indexByte
  rw [List.findIdx?_cons]
  by_cases h : (x == b) = true
  ·rw [if_pos h, if_pos h]; rfl
  ·rw [if_neg h, if_neg h, ih]
   cases r.findIdx? (fun x => x == b) with
   | none => rfl
   | some i =>
    simp only [Option.map_some]
    have : ((i : Int) == -1) = false := by rw [beq_eq_false_iff_ne]; omega
    rw [this]; simp
set_option maxHeartbeats 1000000 in
theorem byte91 (s : ByteArray) (c : Int) (w : World) : Calls Tryz.prog 91 #[.string s, .int .u8 c] w fun e w' => e = .returned (.int .i64 (indexByte s.data.toList c.toNat.toUInt8)) ∧ w' = w := by
 go_enter Tryz.func91, Tryz.ntmps91
 go_wp2
 rw [run_callFunc_extern Tryz.func98 (by kernel_rfl) (by kernel_rfl) (by kernel_rfl) (e := Extern.BytealgIndexByte.indexByte) (by kernel_rfl), Lib.run_indexByteString]
 simp only [Result.andThen]
 rw [Oper.upon_value]
 go_wp2
 go_ret
 exact ⟨rfl, rfl⟩
theorem index91 : IndexAt Tryz.prog 91 := ⟨⟨_, Tryz.func91, rfl⟩, fun s b w => by
 refine (byte91 s b w).mono fun e w' ⟨h1, h2⟩ => ⟨?_, h2⟩
 rw [h1, idx_eq]; rfl⟩
theorem primOb : ∀ f p, Ob.cfg.prim f = some p → (CloneAt Tryz.prog f p.1 p.2 ∧ 0 < p.2) ∨ (p.2 = 0 ∧ IndexAt Tryz.prog f) := by
 intro f p h
 simp only [prim_Ob] at h
 unfold Ob.prim at h
 split at h
 ·simp at h; subst h
  exact .inl ⟨CloneAt.of (t := 41) (e := 9) Tryz.func74 rfl rfl rfl (by kernel_rfl) (by kernel_rfl) ⟨rfl, rfl, rfl⟩ ⟨rfl, rfl, rfl⟩ ⟨rfl, rfl, rfl⟩ ⟨rfl, rfl, rfl⟩ ⟨rfl, rfl, rfl⟩ ⟨rfl, rfl, rfl⟩ ⟨rfl, rfl, rfl⟩ ⟨rfl, rfl, rfl⟩, by decide⟩
 ·simp at h; subst h
  exact .inr ⟨rfl, index91⟩
 ·cases h
end Go.Ac
end

section
set_option maxRecDepth 4000
namespace Go.Ac
open Go.Proofs Go.ChangeShapes Go.WideShapes Go.RowKit
open Go.Proofs.YtmjkclonkhempaaGreatDoor (Rows.uptoBulk Rows.uptoBulkAll Rows.uptoSmall)
abbrev laidL : List (String × DataW Unit) := Go.Proofs.YtmjkclonkhempaaGreatDoor.Rows.genClassesUptoRow.laid
def powZ : List Int := [1, 10, 100, 1000, 10000, 100000, 1000000, 10000000, 100000000, 1000000000, 10000000000, 100000000000, 1000000000000, 10000000000000, 100000000000000, 1000000000000000, 10000000000000000, 100000000000000000, 1000000000000000000, 10000000000000000000]
theorem pow_tab : powTab = powZ.map fun z => D.int .u64 z := rfl
theorem RDs.ints {w : World} : ∀ zs : List Int, RDs w (zs.map fun z => D.int .u64 z) (zs.map fun z => Value.int .u64 z)
 | [] => ⟨rfl, fun j d v h _ => by simp at h⟩
 | z :: r => RDs.app (d1 := [_]) (v1 := [_]) (.one (.int _ _)) (RDs.ints r)
theorem gTab : Tryz.prog.globalNamed "internal/strconv.uint64pow10" = some 1 := by kernel_rfl
theorem gTabType : (Tryz.prog.globals[1]?).map (·.type) = some 159 := by kernel_rfl
theorem cTab : Tryz.prog.cellsOf 159 = 20 := by kernel_rfl
theorem cTab1 : Tryz.prog.cellsOf 153 = 1 := by kernel_rfl
/-- What the row's list gives. -/
theorem table {W : World} (h : laidMet Tryz.prog laidL W) : ∃ cs : List Value, RDs W powTab cs ∧ ∀ i, W.cell? ⟨1, i, none⟩ = cs[i]? := by
 obtain ⟨ps, ⟨_, _, _, _, _, _, _, _, _, _, ⟨_, _, _, _, _, _, _, _, _, _, ⟨g', t', cs, fuel, p, q, hg', ht', hvar, hd, _, _⟩, _⟩, _⟩, _⟩ := h
 obtain rfl := Option.some.inj (gTab.symm.trans hg')
 obtain rfl := Option.some.inj (gTabType.symm.trans ht')
 have hc := Go.Lib.cells_of_tab (k := .u64) (zs := powZ) Tryz.underlying159 Tryz.underlying153 cTab1 cTab hd
 refine ⟨cs.toList, by rw [hc, pow_tab]; exact RDs.ints powZ, fun i => ?_⟩
 rw [World.var?_cell hg' hvar i]
 simp
theorem noCount : NoCount Tryz.prog := by
 have h : (Tryz.prog.funcs.toList.all fun fn => !(fn.name == "runtime.NumGoroutine")) = true := by kernel_rfl
 intro f fn hf _
 rw [List.all_eq_true] at h
 have := h fn (List.mem_of_getElem? (by rw [Array.getElem?_toList]; exact hf))
 simpa using this
theorem preOK : Pre Tryz.prog Ob.cfg := ⟨noCount, primOK primOb⟩
theorem mixed : Tryz.prog.follows .mixedOrders = true := by kernel_rfl
abbrev m0 (W : World) : M := ⟨fun _ => none, fun _ => none, fun _ g => g < 0, W⟩
theorem RD.m0 {W : World} {d : D} {v : Value} (h : RD W noB d v) : RD (m0 W).w ((m0 W).av noB) d v := h.mono fun b _ hn => ⟨fun hx => by
 rcases hx with hx | ⟨id, o, x, hx, _⟩
 ·exact hx
 ·simp at hx, rfl⟩
theorem glob_ok {W : World} (h : laidMet Tryz.prog laidL W) : ∀ g, RV noB (m0 W) (Gl.gv g) (.pointer (some ⟨g, 0, none⟩)) := fun g => by
 cases g with
 | zero => exact .any _
 | succ g => cases g with
 | zero =>
  obtain ⟨cs, hR, hc⟩ := table h
  refine RV.vref (cells := powTab) (fun j => cs.getD j default) (fun j d hj => ⟨fun hx => ?_, ?_⟩) fun j d hj => ?_
  ·rcases hx with hx | ⟨id, o, x, hx, _⟩
   ·exact hx
   ·simp at hx
  ·have hjl : j < cs.length := by rw [← hR.1]; exact (List.getElem?_eq_some_iff.1 hj).1
   simp only [Nat.zero_add]
   show W.cell? _ = _
   rw [hc j]
   simp [List.getD, hjl]
  ·have hjl : j < cs.length := by rw [← hR.1]; exact (List.getElem?_eq_some_iff.1 hj).1
   have : cs[j]? = some (cs.getD j default) := by simp [List.getD, hjl]
   exact (hR.2 j d _ hj this).m0
 | succ g => exact .any _

/-- A call by data is a call of the model's. -/
theorem den_calls {f : FuncId} {ws : List V} {xs : List Value} {b : Bool} {W : World} (hL : laidMet Tryz.prog laidL W) (hd : den Tryz.prog Ob.cfg f ws = some (.d (.bool b))) (hx : RVs noB (m0 W) ws xs) :
  Calls Tryz.prog f xs.toArray W fun e W' => e = .returned (.bool b) ∧ Grown W W' ∧ ∀ i, i < W.heap.size → W'.heap[i]? = W.heap[i]? := by
 unfold den at hd
 split at hd
 ·rename_i r hr
  split at hd
  ·simp only [Option.some.injEq] at hd
   obtain ⟨K, hK⟩ := lim_some hr
   have hok := (callF_ok Ob.cfg preOK mixed K).ok (hK K (Nat.le_refl _)) (fun id _ => rfl) (S := noB) (m := m0 W) (xs := xs) rfl rfl
    ⟨glob_ok hL, fun id o h => by simp at h, fun id o h => by simp at h, fun id o b base h => by simp at h, fun i j oi oj b x y h => by simp at h, fun b h => h.elim⟩ hx
   refine hok.mono fun e W' ⟨x, m', he, hw, hRel, hEvo, hRV, _, _⟩ => ?_
   rw [hd] at hRV
   have hx2 : x = .bool b := by
    cases hRV with
    | d h => cases h; rfl
   have hheap : ∀ i, i < W.heap.size → W'.heap[i]? = W.heap[i]? := fun i hi => by
    rw [← hw]
    refine (hEvo.keep i hi ?_).2
    rintro (h | ⟨id, o, x, h, _⟩)
    ·exact h
    ·simp at h
   refine ⟨by rw [he, hx2], ⟨⟨by rw [← hw]; exact hEvo.rest.1, by rw [← hw]; exact hEvo.rest.2.1, fun i hi => ?_⟩, fun a => by rw [← hw]; exact hEvo.rest.2.2 a, by rw [← hw]; exact hEvo.size⟩, hheap⟩
   rw [hheap i hi]
   exact (World.keptBut_refl W (fun _ => False)).2.2 i hi
  ·simp at hd
 ·simp at hd

theorem kids : Kids Tryz.prog (· < Tryz.prog.types.size) := kids_rows (by kernel_rfl) (by kernel_rfl)
theorem full : ∀ t e, t < Tryz.prog.types.size → Tryz.prog.underlying t = some (.slice e) → 0 < Tryz.prog.cellsOf e := slices_full_of Tryz.prog (by kernel_rfl)

theorem lt25 : 25 < Tryz.prog.types.size := of_decide_eq_true (by kernel_rfl)
theorem stay {H : Type} {enc : TypeId × Value → H} {W : World} {t : TypeId} {v : Value} {d : DataW H} {ps : List MemPlace} (ht : t < Tryz.prog.types.size) (h : DataW.Trod enc Tryz.prog W 0 (fun _ => true) true t v d ps) :
  ∀ (W' : World) (sp : Nat → Bool), (∀ i, i < W.heap.size → W'.heap[i]? = W.heap[i]?) → (∀ p ∈ ps, sp p.block = true) → DataW.Trod enc Tryz.prog W' 0 sp true t v d ps := fun W' sp hh hs => by
 obtain ⟨fuel, hf⟩ := h
 refine ⟨fuel, DataW.trod_stays kids (fun {t e} ht => full t e ht) (fun hh => by cases hh) ht hf (fun p hp => ?_) hs⟩
 have hlt := DataW.trod_lt fuel t _ _ hf p hp
 cases p with
 | cell b off => simp only [World.sameAt, World.cell?]; rw [hh b hlt]
 | map b => simp only [World.sameAt]; exact hh b hlt

section
variable {H : Type} {enc : TypeId × Value → H} {W : World} {r : Reach} {base : Nat} {v : Value} {d : DataW H} {ps : List MemPlace}
theorem open25 (hv : Value.okWide Tryz.prog W r base 25 v) (h : DataW.Trod enc Tryz.prog W 0 (fun _ => true) true 25 v d ps) : ∃ x : Nn, x.sz ≤ 2 * Rows.uptoBulk d ∧ RV noB (m0 W) (aG x.cells) v := by
 obtain ⟨cs, rfl, hcs⟩ : ∃ cs, v = .agg cs ∧ cs.size = 5 := by
  unfold Value.okWide at hv
  rw [Tryz.underlying25] at hv
  obtain ⟨cs, h1, h2, _⟩ := hv
  exact ⟨cs, h1, by rw [h2, cz25]⟩
 obtain ⟨fuel, hf⟩ := h
 obtain ⟨x, h1, h2⟩ := openNn hf
 refine ⟨x, h2, .agg (by simp [Nn.cells, hcs]) fun j a y hx hy => ?_⟩
 rw [List.getElem?_map, Option.map_eq_some_iff] at hx
 obtain ⟨d, hd, rfl⟩ := hx
 exact .d (h1.2 j d y hd (by simpa [Value.cells] using hy)).m0
end
/-- What a law of this argument comes to. -/
theorem contractN {f : FuncId} {fn : Func} {spec : ChangeSpec} (hp : fn.params = #[25]) (hr : fn.resultTypes = #[4]) (hvars : spec.vars = []) (hspec : ∀ (H : Type) (d0 : DataW H), spec.fn H [d0] = { results := [.lit (.bool true)], args := [d0] })
  (hden : ∀ (x1 : Nn), x1.sz ≤ 2097152 → den Tryz.prog Ob.cfg f [aG x1.cells] = some (.d (.bool true)))
  (H : Type) (enc : TypeId × Value → H) (W : World) (base : Nat) (args : Array Value) (ds gs : List (DataW H)) (before : List MemPlace)
  (hval : ∀ (j : Nat) t v, fn.params[j]? = some t → args[j]? = some v → Value.okWide Tryz.prog W .any base t v)
  (hW : DataW.Whole enc Tryz.prog fn.params.toList spec.vars false W args.toList ds gs before) (hk : Rows.uptoSmall H (ds ++ gs) = true)
  (hL : laidMet Tryz.prog laidL W) :
  Calls Tryz.prog f args W fun e W' => ∃ v, e = .returned v ∧ spec.post enc Tryz.prog fn false true false false W args v W' := by
 have hW' := hW
 obtain ⟨p, q, hA0, hV, rfl, hfz, hnd⟩ := hW
 have hA : DataW.TrodAll enc Tryz.prog W 0 (fun _ => true) true fn.params.toList args.toList ds p := hA0
 rw [hp] at hA hval
 obtain ⟨v0, vs0, d0, ds0, p0, q0, hargs, rfl, rfl, h0, r0⟩ := trodAll_cons hA
 obtain ⟨rfl, rfl, rfl⟩ := trodAll_nil r0
 obtain rfl : args = #[v0] := by cases args; simp_all
 rw [hvars] at hV
 obtain ⟨rfl, rfl⟩ := trodVars_none hV
 have hb : Rows.uptoBulk d0 ≤ 1048576 := by
  have h1 := of_decide_eq_true hk
  simp only [List.append_nil, Rows.uptoBulkAll] at h1
  omega
 obtain ⟨x1, a0, hRV0⟩ := open25 (hval 0 25 v0 rfl rfl) h0
 have hd := hden x1 (by omega)
 refine (den_calls (xs := [v0]) hL hd ⟨rfl, fun j x y hx hy => ?_⟩).mono fun e W' ⟨he, hg, hh⟩ => ?_
 ·match j with
  | 0 => simp at hx hy; subst hx; subst hy; exact hRV0
  | j + 1 => simp at hx
 subst he
 clear hA0
 simp only [List.append_nil] at hW'
 have hfn := hspec H d0
 refine ⟨_, rfl, post_of_same (pa := p0 ++ []) (pv := []) (by simpa using hW') (fun _ _ _ => ?_) (fun sp hs => ?_) (fun _ _ => ?_) (by simp) (hg.frame _) hg.2.1 ?_⟩
 ·rw [hr]
  show DataW.TrodAll enc Tryz.prog W' _ _ _ [4] [.bool true] (spec.fn H [d0]).results []
  rw [hfn]
  exact trodAll_cons_mk (shut_bool Tryz.underlying4 _) trodAll_mk0
 ·rw [hp]
  show DataW.TrodAll enc Tryz.prog W' 0 sp true [25] [v0] (spec.fn H [d0]).args (p0 ++ [])
  rw [hfn]
  exact trodAll_cons_mk (stay lt25 h0 W' sp hh fun p hp => hs p (by simp [hp])) trodAll_mk0
 ·show DataW.TrodVars enc Tryz.prog W' _ spec.vars (spec.fn H [d0]).vars []
  rw [hvars, hfn]
  exact rfl
 ·exact ok_one hr rfl (okWide_bool_mk Tryz.underlying4 _)
end Go.Ac
end
