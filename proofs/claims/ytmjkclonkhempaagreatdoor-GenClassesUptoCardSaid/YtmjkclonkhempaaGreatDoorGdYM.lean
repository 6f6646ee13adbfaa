/- The next free name: plain; the reference's. -/
import Derived.Test.YtmjkclonkhempaaGreatDoorGdUM
set_option linter.unusedVariables false
set_option linter.unusedSimpArgs false
section
set_option maxRecDepth 4000
namespace Go.Ac
open Go.Proofs
attribute [local simp] Hp.get_set get_trunc_lt
theorem RowD.close2 {look : Look} {id g sz m : Nat} {ro : Bool} {cs : List V} {l : List (List D)} {cap : Option Nat} (h : RowD cs l sz) (hl : look id = some ⟨g, ro, cs⟩) (hm : m = l.length) : closeT look (.osl id g 0 m sz cap) = some (dL l, [id]) := by
 rw [hm]; exact h.close hl
/-- The reset of an instance under a variable; the call. -/
def rsY (ev nm : Tx) : Y := .mk 3 ev 1 z0X [] [] [[], [.mk 5 nm 0 z0X [] [] []]]
def clY (q : Nq) (nm : Tx) : Y := .mk 4 nm 0 z0X q.left (stXs q.args) []
def evY (q : Nq) (nm : Tx) : List Y := if q.ev = [] then [] else [rsY q.ev nm]
/-- The statements of an equation, without its clock. -/
def stQ (q : Nq) (nm : Tx) : List Y :=
 if q.k = 1 then [asgX (lfQ q) q.r] else if q.k = 2 then [.mk 2 nm 0 q.r [] [] []] else if q.k = 3 then evY q nm ++ [clY q nm]
 else if q.k = 4 then wdY (prsT q.node).1.1 (prsT q.node).1.2 (lfQ q) nm else []
theorem rsY_cells (ev nm : Tx) : (rsY ev nm).cells = [.int .i64 3, .str ev, .int .i64 1, .int .i64 0, .int .i64 0, .int .i64 0, .int .i64 0, .str [], .slice [], .slice [], .slice [], .slice [[.slice []], [.slice [[.int .i64 5, .str nm, .int .i64 0, .int .i64 0, .int .i64 0, .int .i64 0, .int .i64 0, .str [], .slice [], .slice [], .slice [], .slice []]]]]] := by
 simp [rsY, Y.cells, z0X, X.cells, encX_map, encY_map, encB_map, encS]
theorem clY_cells (q : Nq) (nm : Tx) : (clY q nm).cells = [.int .i64 4, .str nm, .int .i64 0, .int .i64 0, .int .i64 0, .int .i64 0, .int .i64 0, .str [], .slice [], .slice (encS q.left), .slice (encX (stXs q.args)), .slice []] := by
 simp [clY, Y.cells, z0X, X.cells, encX_map, encB_map]
theorem kf22 (r : Nat) : Ob.keep 22 r = Ob.k22 r := by kernel_rfl
attribute [local simp] kf22 Ob.k22
set_option maxHeartbeats 8000000 in
theorem stmts22 (q : Nq) (nm : Tx) (hq : q.sz ≤ 4194304) (hw : q.k = 4 → (prsT q.node).2 = 0) : den Tryz.prog Ob.cfg 22 [aG q.cells, dS nm] = some (dL (encY (stQ q nm))) := by
 refine den_wp Tryz.func22 rfl (by kernel_rfl) rfl rfl ?_
 have hlf := left20 q
 have hs0 : q.sz = szS q.left + q.r.sz + szT q.node + szX q.args + szT q.ev + szO q.ck + 13 := rfl
 unfold stQ
 by_cases k1 : q.k = 1
 ·rw [if_pos k1]
  have hd := assign38 (lfQ q) (q.r.sz + 1) q.r (by omega) (by omega)
  have k1' := eq_true k1
  obtain ⟨y, hy⟩ : ∃ y, asgX (lfQ q) q.r = y := ⟨_, rfl⟩
  rw [hy] at hd ⊢
  simp only [dI, dL, dS, aG, Nq.cells, X.cells_eq, Y.cells_eq, List.map_cons, List.map_nil] at hlf hd
  refine wkc (jn @envOf.eq_1 (jn @envOf.eq_2 (jn @aG.eq_1 (jn @Nq.cells.eq_1 (jn @dS.eq_1 (jn @fillV.eq_1 (jn @fillV.eq_2 (jn @int_beq (jn @k1' (jn @hlf @hd)))))))))) ?_
  have hr : RowD [V.d (.int .i64 y.k), V.d (.str y.nm), V.d (.int .i64 y.t), V.d (.int .i64 y.r.k), V.d (.int .i64 y.r.o), V.d (.int .i64 y.r.t), V.d (.int .i64 y.r.v), V.d (.str y.r.nm), V.d (.slice (encX y.r.args)), V.d (.slice (encS y.outs)), V.d (.slice (encX y.args)), V.d (.slice (encB y.brs))] (encY [y]) 12 := by
   rw [encY_map, List.map_cons, List.map_nil, Y.cells_eq]; exact (RowD.nil 12).snoc (by repeat (first | exact VD.nil | apply VD.d | apply VD.full)) rfl
  exact ⟨.inr rfl, [_], [1], rfl, hr.close (ro := false) rfl⟩
 rw [if_neg k1]
 have k1' := eq_false k1
 by_cases k2 : q.k = 2
 ·rw [if_pos k2]
  have k2' := eq_true k2
  refine wkc (jn @envOf.eq_1 (jn @envOf.eq_2 (jn @aG.eq_1 (jn @Nq.cells.eq_1 (jn @dS.eq_1 (jn @fillV.eq_1 (jn @fillV.eq_2 (jn @int_beq (jn @k1' @k2'))))))))) ?_
  have hr : RowD [V.d (.int .i64 2), V.d (.str nm), V.d (.int .i64 0), V.d (.int .i64 q.r.k), V.d (.int .i64 q.r.o), V.d (.int .i64 q.r.t), V.d (.int .i64 q.r.v), V.d (.str q.r.nm), V.d (.slice (encX q.r.args)), V.full [], V.full [], V.full []] (encY [.mk 2 nm 0 q.r [] [] []]) 12 := by
   rw [encY_map, List.map_cons, List.map_nil, Y.cells, X.cells_eq, encS, encX_map [], encB_map]
   exact (RowD.nil 12).snoc (by repeat (first | exact VD.nil | apply VD.d | apply VD.full)) rfl
  exact ⟨.inr rfl, [_], [1], rfl, hr.close (ro := false) rfl⟩
 rw [if_neg k2]
 have k2' := eq_false k2
 by_cases k3 : q.k = 3
 ·rw [if_pos k3]
  have k3' := eq_true k3
  have hst := strips39 q.args (by omega)
  simp only [dL] at hst
  have hstl := len_szX q.args
  have hll := len_szS q.left
  have Hx0 : ∀ hp : Hp, hp.get 0 = some ⟨0, false, [.d (.int .i64 q.k), .d (.slice (encS q.left)), .d (.int .i64 q.r.k), .d (.int .i64 q.r.o), .d (.int .i64 q.r.t), .d (.int .i64 q.r.v), .d (.str q.r.nm), .d (.slice (encX q.r.args)), .d (.int .i64 q.ini), .d (.str q.node), .d (.slice (encX q.args)), .d (.str q.ev), .d (.slice (encO q.ck))]⟩ → True := fun _ _ => trivial
  have fa := fun look => rows_fl look (encS_row q.left)
  have la := fl_len (encS_row q.left)
  have ra := fl_take (encS_row q.left)
  rw [encS_len, Nat.mul_one] at la ra
  simp only [encS_len] at fa
  have hbl : ∀ n : Nat, Nat.ble n n = true := fun n => by rw [Nat.ble_eq]; exact Nat.le_refl n
  have f1 : fitsB q.left.length 16 = true := by simp [fitsB]; omega
  have e1 := fun (look : Look) (id g : Nat) (cap : Option Nat) (h : look id = some ⟨g, false, fl (encS q.left)⟩) => (show toD look depthD (.osl id g 0 q.left.length 1 cap) = some (.slice (encS q.left), [id]) by have := toD_fl (cap := cap) (encS_row q.left) h; rwa [encS_len] at this)
  obtain ⟨L, hL⟩ : ∃ L, evY q nm = L := ⟨_, rfl⟩
  rw [hL]
  unfold evY at hL
  by_cases h6 : q.ev = []
  rw [if_pos h6] at hL
  have h6' : List.isEmpty q.ev = true := by rw [h6]; rfl
  refine wkc (jn @envOf.eq_1 (jn @envOf.eq_2 (jn @aG.eq_1 (jn @Nq.cells.eq_1 (jn @dS.eq_1 (jn @fillV.eq_1 (jn @fillV.eq_2 (jn @int_beq (jn @k1' (jn @k2' (jn @k3' (jn @h6' @tx_bne)))))))))))) ?_
  apply WP.gen3
  intro hp5 c5 wl5 hhp hwl
  have hw5 : wl5 = [] := hwl
  subst hw5
  have hx0 : hp5.get 0 = some ⟨0, false, [.d (.int .i64 q.k), .d (.slice (encS q.left)), .d (.int .i64 q.r.k), .d (.int .i64 q.r.o), .d (.int .i64 q.r.t), .d (.int .i64 q.r.v), .d (.str q.r.nm), .d (.slice (encX q.r.args)), .d (.int .i64 q.ini), .d (.str q.node), .d (.slice (encX q.args)), .d (.str q.ev), .d (.slice (encO q.ck))]⟩ := by rw [hhp]; rfl
  have hx1 : ∃ g cs, hp5.get 1 = some ⟨g, false, cs⟩ ∧ g = 1 ∧ RowD cs (encY L) 12 ∧ L.length = 0 := ⟨_, _, by rw [hhp]; rfl, rfl, by rw [← hL]; exact RowD.nil 12, by rw [← hL]; rfl⟩
  obtain ⟨g, cs, hx1, hg, hr, hm⟩ := hx1
  refine WP.st_eq2 (s' := ⟨[(1, dS nm), (2, .ptr 0 0 0), (5, .osl 1 g 0 L.length 12 none), (27, dB false)], hp5, 2, c5, 0, []⟩) (by rw [hg, hm]; rfl) ?_
  clear hhp hL
  rotate_left
  rw [if_neg h6] at hL
  have h6' : List.isEmpty q.ev = false := by cases he : q.ev with | nil => exact absurd he h6 | cons _ _ => rfl
  refine wkc (jn @envOf.eq_1 (jn @envOf.eq_2 (jn @aG.eq_1 (jn @Nq.cells.eq_1 (jn @dS.eq_1 (jn @fillV.eq_1 (jn @fillV.eq_2 (jn @int_beq (jn @k1' (jn @k2' (jn @k3' (jn @h6' @tx_bne)))))))))))) ?_
  apply WP.gen3
  intro hp5 c5 wl5 hhp hwl
  have hw5 : wl5 = [] := hwl
  subst hw5
  have hx0 : hp5.get 0 = some ⟨0, false, [.d (.int .i64 q.k), .d (.slice (encS q.left)), .d (.int .i64 q.r.k), .d (.int .i64 q.r.o), .d (.int .i64 q.r.t), .d (.int .i64 q.r.v), .d (.str q.r.nm), .d (.slice (encX q.r.args)), .d (.int .i64 q.ini), .d (.str q.node), .d (.slice (encX q.args)), .d (.str q.ev), .d (.slice (encO q.ck))]⟩ := by rw [hhp]; rfl
  have hx1 : ∃ g cs, hp5.get 1 = some ⟨g, false, cs⟩ ∧ g = 5 ∧ RowD cs (encY L) 12 ∧ L.length = 1 := ⟨_, _, by rw [hhp]; rfl, rfl, by rw [← hL, encY_map, List.map_cons, List.map_nil, rsY_cells]; exact (RowD.nil 12).snoc (by repeat (first | exact VD.nil | apply VD.d | apply VD.full)) rfl, by rw [← hL]; rfl⟩
  obtain ⟨g, cs, hx1, hg, hr, hm⟩ := hx1
  refine WP.st_eq2 (s' := ⟨[(1, dS nm), (2, .ptr 0 0 0), (5, .osl 1 g 0 L.length 12 none)], hp5, 5, c5, 0, []⟩) (by rw [hg, hm]; rfl) ?_
  clear hhp hL
  rotate_left
  all_goals
   have r2 := hr.len
   have r3 := hr.take
   rw [encY_len] at r2 r3
   have f3 : fitsB (L.length + 1) 176 = true := by rw [hm]; rfl
   have f4 : Nat.ble (L.length * 12) (L.length * 12) = true := hbl _
   have hl8 : (encY (L ++ [clY q nm])).length = L.length + 1 := by rw [encY_len, List.length_append]; rfl
   have he8 : encY L ++ [(clY q nm).cells] = encY (L ++ [clY q nm]) := by simp [encY_map]
   by_cases hz : q.left = []
   ·have n0 : encS q.left = [] := by rw [hz]; rfl
    rw [n0] at hx0
    repeat (first
 | apply WP.seq
 | (apply WP.reg; (case hR => dsimp only [prepL, prepO, List.map, gS, gZ]; exact iZ); (case hr => (repeat (first
 | (apply RT.op; simp [dS, dI, dL, dB, closeParts, cl2, fillV, toD_dep, toD_d, toD_full, nble_d, hx0, hx1, hst, r2, r3, f3, f4, List.length_nil, chunk, toDs, List.take_zero, List.drop_nil]; exact iZ; (try dsimp only [putEnv]) <;> exact rfl)
 | (apply RT.call; (iterate 2 simp; exact iZ); exact iZ; (iterate 4 simp [dS, dI, dL, dB, closeParts, cl2, fillV, toD_dep, toD_d, toD_full, nble_d, hx0, hx1, hst, r2, r3, f3, f4, List.length_nil, chunk, toDs, List.take_zero, List.drop_nil]; exact iZ); simp [Is]; (try dsimp only [putEnv]) <;> exact rfl; simp; exact iZ; simp; exact iZ)
 | (apply RT.wr; simp [dS, dI, dL, dB, closeParts, cl2, fillV, toD_dep, toD_d, toD_full, nble_d, hx0, hx1, hst, r2, r3, f3, f4, List.length_nil, chunk, toDs, List.take_zero, List.drop_nil]; exact iZ; (try dsimp only [putEnv]) <;> exact rfl; simp [dS, dI, dL, dB, closeParts, cl2, fillV, toD_dep, toD_d, toD_full, nble_d, hx0, hx1, hst, r2, r3, f3, f4, List.length_nil, chunk, toDs, List.take_zero, List.drop_nil]; exact iZ; (iterate 2 exact iZ); simp; exact iZ))); exact RT.nil); (case hc => first | (refine checkR_un [(0, 1), (0, 2), (1, 2), (0, 3), (1, 3), (2, 3), (0, 4), (1, 4), (2, 4), (0, 5), (1, 5), (0, 6), (1, 6), (2, 6), (3, 6), (4, 6), (5, 6), (0, 7), (1, 7), (2, 7), (3, 7), (4, 7), (5, 7), (0, 8), (1, 8), (0, 9), (0, 10)] (by kernel_rfl) (by kernel_rfl) rfl ?_; simp [memA, disj, nbeq_dec]; done) | (show _ = _; kernel_rfl)); (case ht => simp [dS, dI, dL, dB, closeParts, cl2, fillV, toD_dep, toD_d, toD_full, nble_d, hx0, hx1, hst, r2, r3, f3, f4, List.length_nil, chunk, toDs, List.take_zero, List.drop_nil]; exact iZ))
 | apply WP.block | apply WP.skip | apply WP.exit | apply WP.ret | refine WP.condT rfl ?_ | refine WP.condF rfl ?_)
    have hr8 := hr.snoc (vs := [V.d (.int .i64 4), V.d (.str nm), V.d (.int .i64 0), V.d (.int .i64 0), V.d (.int .i64 0), V.d (.int .i64 0), V.d (.int .i64 0), V.d (.str []), V.full [], V.d (.slice []), V.d (.slice (encX (stXs q.args))), V.full []]) (r := (clY q nm).cells) (by rw [clY_cells, n0]; repeat (first | exact VD.nil | apply VD.d | apply VD.full)) (by rw [clY_cells]; rfl)
    rw [he8] at hr8
    exact ⟨.inr rfl, [_], [1], rfl, hr8.close2 (ro := false) (Hp.get_set_self _ _ _) hl8.symm⟩
   ·have hz' : 0 < q.left.length := List.length_pos_iff.2 hz
    have hz2 := eq_false hz
    have hb0 : Nat.ble q.left.length 0 = false := by cases hq0 : q.left with | nil => exact absurd hq0 hz | cons _ _ => rfl
    repeat (first
 | apply WP.seq
 | (apply WP.reg; (case hR => dsimp only [prepL, prepO, List.map, gS, gZ]; exact iZ); (case hr => (repeat (first
 | (apply RT.op; simp [dS, dI, dL, dB, closeParts, cl2, fillV, toD_dep, toD_d, toD_full, nble_d, hx0, hx1, hst, r2, r3, f3, f4, e1, fa, la, ra, f1, hb0, hz2, hbl]; exact iZ; (try dsimp only [putEnv]) <;> exact rfl)
 | (apply RT.call; (iterate 2 simp; exact iZ); exact iZ; (iterate 4 simp [dS, dI, dL, dB, closeParts, cl2, fillV, toD_dep, toD_d, toD_full, nble_d, hx0, hx1, hst, r2, r3, f3, f4, e1, fa, la, ra, f1, hb0, hz2, hbl]; exact iZ); simp [Is]; (try dsimp only [putEnv]) <;> exact rfl; simp; exact iZ; simp; exact iZ)
 | (apply RT.wr; simp [dS, dI, dL, dB, closeParts, cl2, fillV, toD_dep, toD_d, toD_full, nble_d, hx0, hx1, hst, r2, r3, f3, f4, e1, fa, la, ra, f1, hb0, hz2, hbl]; exact iZ; (try dsimp only [putEnv]) <;> exact rfl; simp [dS, dI, dL, dB, closeParts, cl2, fillV, toD_dep, toD_d, toD_full, nble_d, hx0, hx1, hst, r2, r3, f3, f4, e1, fa, la, ra, f1, hb0, hz2, hbl]; exact iZ; (iterate 2 exact iZ); simp; exact iZ))); exact RT.nil); (case hc => first | (refine checkR_un [(0, 1), (0, 2), (1, 2), (0, 3), (1, 3), (2, 3), (0, 4), (1, 4), (2, 4), (0, 5), (1, 5), (0, 6), (1, 6), (2, 6), (3, 6), (4, 6), (5, 6), (0, 7), (1, 7), (2, 7), (3, 7), (4, 7), (5, 7), (0, 8), (1, 8), (0, 9), (0, 10)] (by kernel_rfl) (by kernel_rfl) rfl ?_; simp [memA, disj, nbeq_dec]; done) | (show _ = _; kernel_rfl)); (case ht => simp [dS, dI, dL, dB, closeParts, cl2, fillV, toD_dep, toD_d, toD_full, nble_d, hx0, hx1, hst, r2, r3, f3, f4, e1, fa, la, ra, f1, hb0, hz2, hbl]; exact iZ))
 | apply WP.block | apply WP.skip | apply WP.exit | apply WP.ret | refine WP.condT rfl ?_ | refine WP.condF rfl ?_)
    have hr8 := hr.snoc (vs := [V.d (.int .i64 4), V.d (.str nm), V.d (.int .i64 0), V.d (.int .i64 0), V.d (.int .i64 0), V.d (.int .i64 0), V.d (.int .i64 0), V.d (.str []), V.full [], V.d (.slice (encS q.left)), V.d (.slice (encX (stXs q.args))), V.full []]) (r := (clY q nm).cells) (by rw [clY_cells]; repeat (first | exact VD.nil | apply VD.d | apply VD.full)) (by rw [clY_cells]; rfl)
    rw [he8] at hr8
    exact ⟨.inr rfl, [_], [1], rfl, hr8.close2 (ro := false) (Hp.get_set_self _ _ _) hl8.symm⟩
 rw [if_neg k3]
 have k3' := eq_false k3
 by_cases k4 : q.k = 4
 ·rw [if_pos k4]
  have k4' := eq_true k4
  have hp := parse34 q.node (by unfold szT at hs0; omega)
  rw [hw k4] at hp
  have hlen : 0 < ((prsT q.node).1.1 ++ (prsT q.node).1.2).length ∧ ((prsT q.node).1.1 ++ (prsT q.node).1.2).length ≤ 8388608 := by
   have h0 := hw k4
   rw [← prsP_eq] at h0 ⊢
   unfold prsP at h0 ⊢
   split at h0
   ·cases h0
   ·split at h0
    ·rename_i h66 hx
     rw [if_neg h66, if_pos hx]
     obtain ⟨_, _, _, _, hck⟩ := hx
     unfold ckW at hck
     split at hck
     ·cases hck
     ·rename_i hne
      split at hck
      ·cases hck
      ·rename_i hle
       have := List.length_pos_iff.2 hne
       simp only [List.length_append]; omega
    ·cases h0
  have hd := word40 q _ _ nm 0 hlen.1 hlen.2 hp
  obtain ⟨u, hu⟩ : ∃ u, wdY (prsT q.node).1.1 (prsT q.node).1.2 (lfQ q) nm = u := ⟨_, rfl⟩
  rw [hu] at hd ⊢
  simp only [dI, dL, dS, aG, Nq.cells, List.map_cons, List.map_nil] at hd
  refine wkc (jn @envOf.eq_1 (jn @envOf.eq_2 (jn @aG.eq_1 (jn @Nq.cells.eq_1 (jn @dS.eq_1 (jn @fillV.eq_1 (jn @fillV.eq_2 (jn @int_beq (jn @k1' (jn @k2' (jn @k3' (jn @k4' @hd)))))))))))) ?_
  show retQ _ _ _ _ _
  exact ⟨.inr rfl, _, _, rfl, rfl⟩
 ·rw [if_neg k4]
  have k4' := eq_false k4
  refine wkc (jn @envOf.eq_1 (jn @envOf.eq_2 (jn @aG.eq_1 (jn @Nq.cells.eq_1 (jn @dS.eq_1 (jn @fillV.eq_1 (jn @fillV.eq_2 (jn @int_beq (jn @k1' (jn @k2' (jn @k3' @k4'))))))))))) ?_
  show retQ _ _ _ _ _
  exact ⟨.inr rfl, _, _, rfl, rfl⟩
end Go.Ac
end

section
namespace Go.Ac
theorem wknktv {L : Prop} (hl : L) {G G' : Prop} (k : G') (h : Wk L G G' := by
 intro hl hk
 repeat (first
 | apply WP.seq
 | (apply WP.reg; (case hR => dsimp only [prepL, prepO, List.map, gS, gZ]; exact iZ); (case hr => (repeat (first
 | (apply RT.op; simp [hl]; exact iZ; (try dsimp only [putEnv]) <;> exact rfl)
 | (apply RT.call; (iterate 2 simp; exact iZ); exact iZ; (iterate 4 simp [hl]; exact iZ); simp [Is]; (try dsimp only [putEnv]) <;> exact rfl; simp; exact iZ; exact iZ)
 | (apply RT.clone; (iterate 2 simp; exact iZ); exact iZ; (iterate 2 simp [hl]; exact iZ); (first | assumption | (simp [fitsB]; omega)); (try dsimp only [putEnv]) <;> exact rfl; simp [hl]; exact iZ; exact iZ)
 | (apply RT.callV; (iterate 2 simp; exact iZ); exact iZ; (iterate 3 simp [hl]; exact iZ); (try dsimp only [putEnv]) <;> exact rfl)
 | (apply RT.callT (hd := hT1) (hk := hT2); (iterate 2 simp; exact iZ); exact iZ; (iterate 2 simp [hl]; exact iZ); (try dsimp only [putEnv]) <;> exact rfl)
 | (apply RT.wr; simp [hl]; exact iZ; (try dsimp only [putEnv]) <;> exact rfl; simp [hl]; exact iZ; (iterate 2 exact iZ); exact iZ))); exact RT.nil); (case hc => (show _ = _; kernel_rfl)); (case ht => simp [hl]; exact iZ))
 | apply WP.block | apply WP.skip | apply WP.exit | apply WP.ret)
 exact hk.out) : G := h hl ⟨k⟩
theorem wkcnktv {L : Prop} (hl : L) {G G' : Prop} (k : G') (h : Wk L G G' := by
 intro hl hk
 repeat (first
 | apply WP.seq
 | (apply WP.reg; (case hR => dsimp only [prepL, prepO, List.map, gS, gZ]; exact iZ); (case hr => (repeat (first
 | (apply RT.op; simp [hl]; exact iZ; (try dsimp only [putEnv]) <;> exact rfl)
 | (apply RT.call; (iterate 2 simp; exact iZ); exact iZ; (iterate 4 simp [hl]; exact iZ); simp [Is]; (try dsimp only [putEnv]) <;> exact rfl; simp; exact iZ; exact iZ)
 | (apply RT.clone; (iterate 2 simp; exact iZ); exact iZ; (iterate 2 simp [hl]; exact iZ); (first | assumption | (simp [fitsB]; omega)); (try dsimp only [putEnv]) <;> exact rfl; simp [hl]; exact iZ; exact iZ)
 | (apply RT.callV; (iterate 2 simp; exact iZ); exact iZ; (iterate 3 simp [hl]; exact iZ); (try dsimp only [putEnv]) <;> exact rfl)
 | (apply RT.callT (hd := hT1) (hk := hT2); (iterate 2 simp; exact iZ); exact iZ; (iterate 2 simp [hl]; exact iZ); (try dsimp only [putEnv]) <;> exact rfl)
 | (apply RT.wr; simp [hl]; exact iZ; (try dsimp only [putEnv]) <;> exact rfl; simp [hl]; exact iZ; (iterate 2 exact iZ); exact iZ))); exact RT.nil); (case hc => (show _ = _; kernel_rfl)); (case ht => simp [hl]; exact iZ))
 | apply WP.block | apply WP.skip | apply WP.exit | apply WP.ret | refine WP.condT rfl ?_ | refine WP.condF rfl ?_)
 exact hk.out) : G := h hl ⟨k⟩
theorem wkcenktv {L : Prop} (hl : L) {G G' : Prop} (k : G') (h : Wk L G G' := by
 intro hl hk
 repeat (first
 | apply WP.seq
 | (apply WP.reg; (case hR => dsimp only [prepL, prepO, List.map, gS, gZ]; exact iZ); (case hr => (repeat (first
 | (apply RT.op; simp [hl, -addNew]; exact iZ; (try dsimp only [putEnv]) <;> exact rfl)
 | (apply RT.call; (iterate 2 simp; exact iZ); exact iZ; (iterate 4 simp [hl, -addNew]; exact iZ); simp [Is]; (try dsimp only [putEnv]) <;> exact rfl; simp; exact iZ; exact iZ)
 | (apply RT.clone; (iterate 2 simp; exact iZ); exact iZ; (iterate 2 simp [hl, -addNew]; exact iZ); (first | assumption | (simp [fitsB]; omega)); (try dsimp only [putEnv]) <;> exact rfl; simp [hl, -addNew]; exact iZ; exact iZ)
 | (apply RT.callV; (iterate 2 simp; exact iZ); exact iZ; (iterate 3 simp [hl, -addNew]; exact iZ); (try dsimp only [putEnv]) <;> exact rfl)
 | (apply RT.callT (hd := hT1) (hk := hT2); (iterate 2 simp; exact iZ); exact iZ; (iterate 2 simp [hl, -addNew]; exact iZ); (try dsimp only [putEnv]) <;> exact rfl)
 | (apply RT.wr; simp [hl, -addNew]; exact iZ; (try dsimp only [putEnv]) <;> exact rfl; simp [hl, -addNew]; exact iZ; (iterate 2 exact iZ); exact iZ))); exact RT.nil); (case hc => (show _ = _; kernel_rfl)); (case ht => simp [hl, -addNew]; exact iZ))
 | apply WP.block | apply WP.skip | apply WP.exit | apply WP.ret | refine WP.condT rfl ?_ | refine WP.condF rfl ?_)
 exact hk.out) : G := h hl ⟨k⟩
end Go.Ac
end

section
set_option maxRecDepth 4000
namespace Go.Ac
open Go.Proofs
attribute [local simp] Hp.get_set Ag_set Ag_refl Ag_trunc get_trunc_lt
theorem nbeq_dec (a b : Nat) : Nat.beq a b = decide (a = b) := by
 by_cases h : a = b
 ·subst h; simp
 ·rw [decide_eq_false h]
  cases hb : Nat.beq a b with
  | false => rfl
  | true => exact absurd (Nat.eq_of_beq_eq_true hb) h
attribute [local simp] kf59 Ob.k59
set_option maxHeartbeats 8000000 in
/-- Statements under a clock of one place that lies in memory. -/
theorem under59o {im gm it gt il gl io go : Nat} {n : Nn} {T : List (Tx × Bool)} {K : List (Tx × Int)} {ro : Bool} {cap : Option Nat} (o : On) (ho : okO o) (L : List Y) (hL : L.length ≤ 8388607) (va : V) (hp : Hp) (m c : Nat) (hK : MK im gm it gt il gl n T K hp m) (hA : LArg hp m va L)
  (hio : hp.get io = some ⟨go, ro, [.d (.str o.nm), .d (.int .i64 o.t), .d (.int .i64 o.tag)]⟩) (lo : io < m) :
  ThrX 59 [.ptr im gm 0, .osl io go 0 1 3 cap, va] hp m c [] (fun v hp' n' => NewC m v [cY o L] (some 1) hp' n') := by
 refine thrX_wp Tryz.func59 rfl (by kernel_rfl) rfl ?_
 have hw0 : IntKind.i64.wrap 0 = 0 := rfl
 have nio := nf lo
 refine wkcenktv (jn @envOf.eq_1 (jn @envOf.eq_2 (jn @fillV.eq_1 (jn @fillV.eq_2 (jn @hw0 (jn @hio @nio)))))) ?_
 apply WP.gen3
 intro hp1 c1 wl1 hhp hwl
 have hxb : hp1.get m = some ⟨c, false, [.ptr im gm 0]⟩ := by rw [hhp]; simp
 have hfr : ∀ j, j < m → hp1.get j = hp.get j := fun j hj => by rw [hhp]; simp [show (m = j) = False from eq_false (by omega)]
 have hwi : WI [] m hp wl1 hp1 := by rw [hhp, hwl]; exact WI.refl.set (.inr (Nat.le_refl m))
 have hK := hK.mono hfr (Nat.le_succ m)
 have hA := hA.mono hfr (Nat.le_succ m)
 have hio := (hfr _ lo).trans hio
 clear hhp hwl hfr
 apply WP.loop' (I := fun D s => ∃ (n' c' : Nat) (wl : List Nat) (hp' : Hp) (vl : V), D ≤ 1 ∧ m + 1 ≤ n' ∧ MK im gm it gt il gl n T K hp' n' ∧ hp'.get m = some ⟨c, false, [.ptr im gm 0]⟩ ∧ hp'.get io = some ⟨go, ro, [.d (.str o.nm), .d (.int .i64 o.t), .d (.int .i64 o.tag)]⟩ ∧ ((D = 1 ∧ LArg hp' n' vl L) ∨ (D = 0 ∧ NewC m vl [cY o L] (some 1) hp' n')) ∧ WI [] m hp wl hp' ∧
  s = ⟨[(1, .osl io go 0 1 3 cap), (2, vl), (7, .fn 80 [.ptr m c 0]), (8, dI ((D : Int) - 1))], hp', n', c', m, wl⟩) (d := 1)
 ·exact ⟨_, _, _, _, va, Nat.le_refl _, Nat.le_refl _, hK, hxb, hio, .inl ⟨rfl, hA⟩, hwi, st_eq (by simp [dI, dL]) rfl⟩
 clear hK hA hxb hwi hio
 rintro D _ ⟨n', c', wl, hp', vl, hD, hn', hK, hxb, hio, hV, hwi, rfl⟩
 rcases hV with ⟨rfl, hA⟩ | ⟨rfl, hV⟩
 ·obtain ⟨q, hT1, hqn, hT2, hki, hfr, hpz, ⟨id2, g2, cs2, hqv, hq2, hqr, hq3, hq4⟩, hsame⟩ := (put80 o ho L (by omega) vl hp' n' c' hK hxb (by omega) hA).caller (by simp)
  have hfr' : ∀ j, j < n' → (hp'.sets (tWr q n')).get j = hp'.get j := fun j hj => hfr j hj (by simp)
  have hN : n' + (q.n - n') = q.n := by omega
  have hnew : NewC m q.v [cY o L] (some 1) (hp'.sets (tWr q n')) q.n := ⟨id2, g2, cs2, hqv, by rw [hsame id2 hq4 (by rw [hq2]; rfl)]; exact hq2, hqr, by omega, hq4⟩
  simp only [aG, On.cells, List.map_cons, List.map_nil] at hT1
  have hd0 : ((1 : Nat) : Int) - 1 = 0 := rfl
  have i0 : idx 0 1 = some 0 := rfl
  have hw2 : IntKind.i64.wrap (-1) = -1 := rfl
  repeat (first
 | apply WP.seq
 | (apply WP.reg; (case hR => dsimp only [prepL, prepO, List.map, gS, gZ]; exact iZ); (case hr => (repeat (first
 | (apply RT.op; simp [-addNew, dI, dL, hd0, i0, hio]; exact iZ; (try dsimp only [putEnv]) <;> exact rfl)
 | (apply RT.call; (iterate 2 simp; exact iZ); exact iZ; (iterate 4 simp [-addNew, dI, dL, hd0, i0, hio]; exact iZ); simp [Is]; (try dsimp only [putEnv]) <;> exact rfl; simp; exact iZ; exact iZ)
 | (apply RT.clone; (iterate 2 simp; exact iZ); exact iZ; (iterate 2 simp [-addNew, dI, dL, hd0, i0, hio]; exact iZ); (first | assumption | (simp [fitsB]; omega)); (try dsimp only [putEnv]) <;> exact rfl; simp [-addNew, dI, dL, hd0, i0, hio]; exact iZ; exact iZ)
 | (apply RT.callV; (iterate 2 simp; exact iZ); exact iZ; (iterate 3 simp [-addNew, dI, dL, hd0, i0, hio]; exact iZ); (try dsimp only [putEnv]) <;> exact rfl)
 | (apply RT.callT (hd := hT1) (hk := hT2); (iterate 2 simp; exact iZ); exact iZ; (iterate 2 simp [-addNew, dI, dL, hd0, i0, hio]; exact iZ); (try dsimp only [putEnv]) <;> exact rfl)
 | (apply RT.wr; simp [-addNew, dI, dL, hd0, i0, hio]; exact iZ; (try dsimp only [putEnv]) <;> exact rfl; simp [-addNew, dI, dL, hd0, i0, hio]; exact iZ; (iterate 2 exact iZ); exact iZ))); exact RT.nil); (case hc => first | (refine checkR_un [(0, 1), (0, 2), (1, 2), (0, 3), (0, 4), (0, 5), (1, 5), (2, 5), (3, 5), (4, 5)] (by kernel_rfl) (by kernel_rfl) rfl ?_; simp [memA, disj, nbeq_dec]; done) | (show _ = _; kernel_rfl)); (case ht => simp [-addNew, dI, dL, hd0, i0, hio]; exact iZ))
 | apply WP.block | apply WP.skip | apply WP.exit | apply WP.ret | refine WP.condT rfl ?_ | refine WP.condF rfl ?_)
  refine loop_next (by simp [-addNew, hw2]; exact Is.rfl) ?_
  exact ⟨0, by omega, _, _, _, _, q.v, by omega, by show m + 1 ≤ n' + (q.n - n'); omega, hK.mono hfr' (by omega), (hfr' m (by omega)).trans hxb, (hfr' io (by omega)).trans hio, .inr ⟨rfl, by rw [hN]; exact hnew⟩, hwi.sets fun z hz => (by
   rcases hki z.1 (List.mem_map.2 ⟨z, hz, rfl⟩) with h | h
   ·exact .inl h
   ·exact .inr (by omega)), st_eq (by simp [dI, dL, hw2]) rfl⟩
 ·refine wkcenktv (jn @dI.eq_1 @dL.eq_1) ?_
  exact ⟨.inr rfl, _, rfl, by show m ≤ n'; omega, hwi, hV⟩
theorem kf57 (r : Nat) : Ob.keep 57 r = Ob.k57 r := by kernel_rfl
attribute [local simp] kf57 Ob.k57
theorem addNew_ge {n : Nat} {wl : List Nat} : ∀ {wr : List (Nat × Ob)}, (∀ p, p ∈ wr → n ≤ p.1) → addNew n wl wr = wl
 | [], _ => by rw [addNew]
 | (k, o) :: r, h => by
  have hk : Nat.blt k n = false := by
   have := h _ List.mem_cons_self
   cases hb : Nat.blt k n with
   | false => rfl
   | true => rw [Nat.blt_eq] at hb; simp only at this; omega
  rw [addNew, hk]
  exact addNew_ge fun p hp => h p (List.mem_cons_of_mem _ hp)
def qC (q : Nq) : List V := [.d (.int .i64 q.k), .d (.slice (encS q.left)), .d (.int .i64 q.r.k), .d (.int .i64 q.r.o), .d (.int .i64 q.r.t), .d (.int .i64 q.r.v), .d (.str q.r.nm), .d (.slice (encX q.r.args)), .d (.int .i64 q.ini), .d (.str q.node), .d (.slice (encX q.args)), .d (.str q.ev), .d (.slice (encO q.ck))]
set_option maxHeartbeats 8000000 in
theorem call57 {im gm it gt il gl : Nat} {n : Nn} {T : List (Tx × Bool)} {K : List (Tx × Int)} (q : Nq) (nm : Tx) (hq : q.sz ≤ 4194304) (hp : Hp) (m c : Nat) (hK : MK im gm it gt il gl n T K hp m) :
  QuietV Tryz.prog Ob.cfg 57 [.ptr im gm 0, aG q.cells, dS nm] hp m c (dL (encY (evY q nm ++ [clY q nm]))) := by
 refine quietC_wp Tryz.func57 rfl (by kernel_rfl) rfl ?_
 have hs0 : q.sz = szS q.left + q.r.sz + szT q.node + szX q.args + szT q.ev + szO q.ck + 13 := rfl
 have hll := len_szS q.left
 have hxl := len_szX q.args
 have fa := fun look => rows_fl look (encS_row q.left)
 have la := fl_len (encS_row q.left)
 have ra := fl_take (encS_row q.left)
 rw [encS_len, Nat.mul_one] at la ra
 simp only [encS_len] at fa
 have hbl : ∀ n : Nat, Nat.ble n n = true := fun n => by rw [Nat.ble_eq]; exact Nat.le_refl n
 have f1 : fitsB q.left.length 16 = true := by simp [fitsB]; omega
 have e1 := fun (look : Look) (id g : Nat) (cap : Option Nat) (h : look id = some ⟨g, false, fl (encS q.left)⟩) => (show toD look depthD (.osl id g 0 q.left.length 1 cap) = some (.slice (encS q.left), [id]) by have := toD_fl (cap := cap) (encS_row q.left) h; rwa [encS_len] at this)
 obtain ⟨L, hL⟩ : ∃ L, evY q nm = L := ⟨_, rfl⟩
 rw [hL]
 unfold evY at hL
 by_cases h6 : q.ev = []
 rw [if_pos h6] at hL
 have h6' : List.isEmpty q.ev = true := by rw [h6]; rfl
 refine wkcnktv (jn @envOf.eq_1 (jn @envOf.eq_2 (jn @aG.eq_1 (jn @Nq.cells.eq_1 (jn @dS.eq_1 (jn @fillV.eq_1 (jn @fillV.eq_2 (jn @h6' @tx_bne)))))))) ?_
 apply WP.gen3
 intro hp5 cc wl5 hhp hwl
 have hw5 : wl5 = [] := by rw [hwl]
 obtain ⟨N, hN5, hNm⟩ : ∃ N, m + 2 = N ∧ m + 2 ≤ N := ⟨_, rfl, Nat.le_refl _⟩
 obtain ⟨iL, gL, cs, hv7, hiL, hmi, hgL, hr, hm⟩ : ∃ (iL gL : Nat) (cs : List V), hp5.get iL = some ⟨gL, false, cs⟩ ∧ iL < N ∧ m < iL ∧ (V.osl (m + 1) (c + 1) 0 0 12 none = V.osl iL gL 0 0 12 none) ∧ RowD cs (encY L) 12 ∧ L.length = 0 := ⟨m + 1, c + 1, [], by rw [hhp]; simp, by omega, by omega, rfl, by rw [← hL]; exact RowD.nil 12, by rw [← hL]; rfl⟩
 have hx0 : hp5.get m = some ⟨c, false, qC q⟩ := by rw [hhp]; simp; rfl
 subst hw5
 refine WP.st_eq2 (s' := ⟨[(0, .ptr im gm 0), (2, dS nm), (4, .ptr m c 0), (7, .osl iL gL 0 0 12 none), (13, dB false)], hp5, N, cc, m, []⟩) (by rw [← hgL, hN5]; rfl) ?_
 clear hhp hgL hN5
 rotate_left
 rw [if_neg h6] at hL
 have h6' : List.isEmpty q.ev = false := by cases he : q.ev with | nil => exact absurd he h6 | cons _ _ => rfl
 refine wkcnktv (jn @envOf.eq_1 (jn @envOf.eq_2 (jn @aG.eq_1 (jn @Nq.cells.eq_1 (jn @dS.eq_1 (jn @fillV.eq_1 (jn @fillV.eq_2 (jn @h6' @tx_bne)))))))) ?_
 apply WP.gen3
 intro hp5 c5 wl5 hhp hwl
 have hw5 : wl5 = [] := by rw [hwl]
 have hx0 : hp5.get m = some ⟨c, false, [.d (.int .i64 q.k), .d (.slice (encS q.left)), .d (.int .i64 q.r.k), .d (.int .i64 q.r.o), .d (.int .i64 q.r.t), .d (.int .i64 q.r.v), .d (.str q.r.nm), .d (.slice (encX q.r.args)), .d (.int .i64 q.ini), .d (.str q.node), .d (.slice (encX q.args)), .d (.str q.ev), .d (.slice (encO q.ck))]⟩ := by rw [hhp]; simp
 obtain ⟨hp6, h6p⟩ : ∃ hp6, (hp5.set (m + 2) ⟨c5, false, [.d (.str q.ev), .d (.int .i64 1), .d (.int .i64 1)]⟩).set (m + 3) ⟨c5 + 1, false, [.d (.int .i64 5), .d (.str nm), .d (.int .i64 0), .d (.int .i64 0), .d (.int .i64 0), .d (.int .i64 0), .d (.int .i64 0), .d (.str []), .full [], .full [], .full [], .full []]⟩ = hp6 := ⟨_, rfl⟩
 have hK6 : MK im gm it gt il gl n T K hp6 (m + 2 + 1 + 1) := hK.mono (fun j hj => by rw [← h6p, hhp]; simp [show (m = j) = False from eq_false (by omega), show (m + 1 = j) = False from eq_false (by omega), show (m + 2 = j) = False from eq_false (by omega), show (m + 3 = j) = False from eq_false (by omega)]) (by omega)
 have hA6 : LArg hp6 (m + 2 + 1 + 1) (.osl (m + 3) (c5 + 1) 0 1 12 (some 1)) [.mk 5 nm 0 z0X [] [] []] := .inr ⟨m + 3, c5 + 1, false, _, some 1, rfl, by rw [← h6p]; simp; rfl, by
  rw [encY_map, List.map_cons, List.map_nil]
  simp only [Y.cells, z0X, X.cells, encX_map, encS, encB_map, List.map_nil]
  exact (RowD.nil 12).snoc (by repeat (first | exact VD.nil | apply VD.d | apply VD.full)) rfl, by omega⟩
 obtain ⟨u, hT1, hqn, hT2, hki, hfr, hpz, ⟨id2, g2, cs2, hqv, hq2, hqr, hq3, hq4⟩, hsame⟩ := (under59o (go := c5) (ro := false) (cap := some 1) ⟨q.ev, 1, 1⟩ ⟨by show (0 : Int) ≤ 1; omega, fun _ => by show (1 : Int) < 2; omega, by show (1 : Int) < 1048576; omega⟩ _ (by simp) _ hp6 (m + 2 + 1 + 1) (c5 + 1 + 1) hK6 hA6 (io := m + 2) (by rw [← h6p]; simp) (by omega)).caller (by simp)
 have hT2' : hT2 = hT2 := rfl
 rw [← h6p] at hT1
 repeat (first
 | apply WP.seq
 | (apply WP.reg; (case hR => dsimp only [prepL, prepO, List.map, gS, gZ]; exact iZ); (case hr => (repeat (first
 | (apply RT.op; simp [dS, dI, fillV, closeParts, cl2, toD_d, toD_full, hx0]; exact iZ; (try dsimp only [putEnv]) <;> exact rfl)
 | (apply RT.call; (iterate 2 simp; exact iZ); exact iZ; (iterate 4 simp [dS, dI, fillV, closeParts, cl2, toD_d, toD_full, hx0]; exact iZ); simp [Is]; (try dsimp only [putEnv]) <;> exact rfl; simp; exact iZ; exact iZ)
 | (apply RT.clone; (iterate 2 simp; exact iZ); exact iZ; (iterate 2 simp [dS, dI, fillV, closeParts, cl2, toD_d, toD_full, hx0]; exact iZ); (first | assumption | (simp [fitsB]; omega)); (try dsimp only [putEnv]) <;> exact rfl; simp [dS, dI, fillV, closeParts, cl2, toD_d, toD_full, hx0]; exact iZ; exact iZ)
 | (apply RT.callV; (iterate 2 simp; exact iZ); exact iZ; (iterate 3 simp [dS, dI, fillV, closeParts, cl2, toD_d, toD_full, hx0]; exact iZ); (try dsimp only [putEnv]) <;> exact rfl)
 | (apply RT.callT (hd := hT1) (hk := hT2); (iterate 2 simp; exact iZ); exact iZ; (iterate 2 simp [dS, dI, fillV, closeParts, cl2, toD_d, toD_full, hx0]; exact iZ); (try dsimp only [putEnv]) <;> exact rfl)
 | (apply RT.wr; simp [dS, dI, fillV, closeParts, cl2, toD_d, toD_full, hx0]; exact iZ; (try dsimp only [putEnv]) <;> exact rfl; simp [dS, dI, fillV, closeParts, cl2, toD_d, toD_full, hx0]; exact iZ; (iterate 2 exact iZ); exact iZ))); exact RT.nil); (case hc => first | (refine checkR_un [(0, 1), (0, 2), (0, 3), (0, 4), (0, 5), (1, 5), (2, 5), (3, 5), (4, 5), (0, 6), (1, 6), (2, 6), (3, 6), (4, 6), (0, 7), (1, 7), (2, 7), (3, 7), (4, 7)] (by kernel_rfl) (by kernel_rfl) rfl ?_; simp [memA, disj, nbeq_dec]; done) | (show _ = _; kernel_rfl)); (case ht => simp [dS, dI, fillV, closeParts, cl2, toD_d, toD_full, hx0]; exact iZ))
 | apply WP.block | apply WP.skip | apply WP.exit | apply WP.ret | refine WP.condT rfl ?_ | refine WP.condF rfl ?_)
 apply WP.gen3
 intro hp7 cc wl7 hhp7 hwl7
 rw [h6p] at hhp7
 have hw7 : wl7 = [] := by
  rw [hwl7, hw5]
  exact addNew_ge fun p hp => by
   rcases hki p.1 (List.mem_map.2 ⟨p, hp, rfl⟩) with h | h
   ·simp at h
   ·omega
 obtain ⟨N, hN5, hNm⟩ : ∃ N, m + 2 + 1 + 1 + (u.n - (m + 2 + 1 + 1)) = N ∧ m + 2 ≤ N := ⟨_, rfl, by omega⟩
 have hqn' : m + 2 + 1 + 1 ≤ u.n := hqn
 obtain ⟨iL, gL, cs, hv7, hiL, hmi, hgL, hr, hm⟩ : ∃ (iL gL : Nat) (cs : List V), hp7.get iL = some ⟨gL, false, cs⟩ ∧ iL < N ∧ m < iL ∧ (u.v = V.osl iL gL 0 1 12 (some 1)) ∧ RowD cs (encY L) 12 ∧ L.length = 1 := ⟨id2, g2, cs2, by rw [hhp7, ← hq2]; exact hsame id2 hq4 (by rw [hq2]; rfl), by omega, by omega, hqv, by rw [← hL]; exact hqr, by rw [← hL]; rfl⟩
 have hx0 : hp7.get m = some ⟨c, false, qC q⟩ := by
  rw [hhp7, hfr m (by omega) (by simp), ← h6p]; simp [hx0]; rfl
 subst hw7
 refine WP.st_eq2 (s' := ⟨[(2, dS nm), (4, .ptr m c 0), (7, .osl iL gL 0 1 12 (some 1))], hp7, N, cc, m, []⟩) (by rw [← hgL, ← hN5]; rfl) ?_
 have hp5 := hp7
 clear hhp7 hgL hN5 hwl7 hsame hfr hki hT1 hT2 hT2' hq2 hqr hqv hwl hhp hK6 hA6 h6p hpz
 rotate_left
 all_goals
  unfold qC at hx0
  obtain ⟨v7, hv7'⟩ : ∃ v, v = V.osl iL gL 0 L.length 12 (if L.length = 0 then none else some 1) := ⟨_, rfl⟩
  have z0 := eq_false (show ¬ N < m by omega)
  have z1 := eq_false (show ¬ N + 1 < m by omega)
  have z2 := eq_false (show ¬ N + 2 < m by omega)
  have z3 := eq_false (show ¬ N + 3 < m by omega)
  have z4 := eq_false (show ¬ N + 4 < m by omega)
  have z5 := eq_false (show ¬ iL < m by omega)
  have y0 := eq_false (show ¬ N = iL by omega)
  have y1 := eq_false (show ¬ N + 1 = iL by omega)
  have y2 := eq_false (show ¬ N + 2 = iL by omega)
  have y3 := eq_false (show ¬ N + 3 = iL by omega)
  have y4 := eq_false (show ¬ N + 4 = iL by omega)
  have x0 := eq_false (show ¬ iL = N by omega)
  have x1 := eq_false (show ¬ iL = N + 1 by omega)
  have x2 := eq_false (show ¬ iL = N + 2 by omega)
  have x3 := eq_false (show ¬ iL = N + 3 by omega)
  have x4 := eq_false (show ¬ iL = N + 4 by omega)
  repeat (first
 | apply WP.seq
 | (apply WP.reg; (case hR => dsimp only [prepL, prepO, List.map, gS, gZ]; exact iZ); (case hr => (repeat (first
 | (apply RT.op; simp [dS, dI, dL, fillV, closeParts, cl2, toD_d, toD_full, hx0, fa, la, ra, f1, e1, z0, z1, z2, encX_len]; exact iZ; (try dsimp only [putEnv]) <;> exact rfl)
 | (apply RT.call; (iterate 2 simp; exact iZ); exact iZ; (iterate 4 simp [dS, dI, dL, fillV, closeParts, cl2, toD_d, toD_full, hx0, fa, la, ra, f1, e1, z0, z1, z2, encX_len]; exact iZ); simp [Is]; (try dsimp only [putEnv]) <;> exact rfl; simp; exact iZ; exact iZ)
 | (apply RT.clone; (iterate 2 simp; exact iZ); exact iZ; (iterate 2 simp [dS, dI, dL, fillV, closeParts, cl2, toD_d, toD_full, hx0, fa, la, ra, f1, e1, z0, z1, z2, encX_len]; exact iZ); (first | assumption | (simp [fitsB]; omega)); (try dsimp only [putEnv]) <;> exact rfl; simp [dS, dI, dL, fillV, closeParts, cl2, toD_d, toD_full, hx0, fa, la, ra, f1, e1, z0, z1, z2, encX_len]; exact iZ; exact iZ)
 | (apply RT.callV; (iterate 2 simp; exact iZ); exact iZ; (iterate 3 simp [dS, dI, dL, fillV, closeParts, cl2, toD_d, toD_full, hx0, fa, la, ra, f1, e1, z0, z1, z2, encX_len]; exact iZ); (try dsimp only [putEnv]) <;> exact rfl)
 | (apply RT.callT (hd := hT1) (hk := hT2); (iterate 2 simp; exact iZ); exact iZ; (iterate 2 simp [dS, dI, dL, fillV, closeParts, cl2, toD_d, toD_full, hx0, fa, la, ra, f1, e1, z0, z1, z2, encX_len]; exact iZ); (try dsimp only [putEnv]) <;> exact rfl)
 | (apply RT.wr; simp [dS, dI, dL, fillV, closeParts, cl2, toD_d, toD_full, hx0, fa, la, ra, f1, e1, z0, z1, z2, encX_len]; exact iZ; (try dsimp only [putEnv]) <;> exact rfl; simp [dS, dI, dL, fillV, closeParts, cl2, toD_d, toD_full, hx0, fa, la, ra, f1, e1, z0, z1, z2, encX_len]; exact iZ; (iterate 2 exact iZ); exact iZ))); exact RT.nil); (case hc => first | (refine checkR_un [(0, 1), (0, 2), (0, 3), (0, 5), (1, 5), (2, 5), (3, 5), (4, 5)] (by kernel_rfl) (by kernel_rfl) rfl ?_; simp [memA, disj, nbeq_dec]; done) | (show _ = _; kernel_rfl)); (case ht => simp [dS, dI, dL, fillV, closeParts, cl2, toD_d, toD_full, hx0, fa, la, ra, f1, e1, z0, z1, z2, encX_len]; exact iZ))
 | apply WP.block | apply WP.skip | apply WP.exit | apply WP.ret | refine WP.condT rfl ?_ | refine WP.condF rfl ?_)
  apply WP.gen3
  intro hp8 c8 wl8 hhp8 hwl8
  have g0 : hp8.get N = some ⟨cc, false, fl (encS q.left)⟩ := by rw [hhp8]; simp
  have g1 : hp8.get (N + 1) = some ⟨cc + 1, false, [.d (.int .i64 4), .d (.str nm), .d (.int .i64 0), .d (.int .i64 0), .d (.int .i64 0), .d (.int .i64 0), .d (.int .i64 0), .d (.str []), .full [], .osl N cc 0 q.left.length 1 none, .osl (N + 2) (cc + 2) 0 0 6 none, .full []]⟩ := by rw [hhp8]; simp
  have g2 : hp8.get (N + 2) = some ⟨cc + 2, false, []⟩ := by rw [hhp8]; simp
  have g3 : hp8.get iL = some ⟨gL, false, cs⟩ := by rw [hhp8]; simp [y0, y1, y2, hv7]
  have g4 : hp8.get m = some ⟨c, false, [.d (.int .i64 q.k), .d (.slice (encS q.left)), .d (.int .i64 q.r.k), .d (.int .i64 q.r.o), .d (.int .i64 q.r.t), .d (.int .i64 q.r.v), .d (.str q.r.nm), .d (.slice (encX q.r.args)), .d (.int .i64 q.ini), .d (.str q.node), .d (.slice (encX q.args)), .d (.str q.ev), .d (.slice (encO q.ck))]⟩ := by
   rw [hhp8]; simp [show (N = m) = False from eq_false (by omega), show (N + 1 = m) = False from eq_false (by omega), show (N + 2 = m) = False from eq_false (by omega), hx0]
  have hw8 : wl8 = [] := hwl8
  subst hw8
  clear hhp8 hwl8
  have hfl : (encX q.args).length = q.args.length := encX_len _
  refine wkcnktv (jn @dS.eq_1 (jn @dI.eq_1 (jn @dL.eq_1 (jn @g4 @hfl)))) ?_
  apply WP.loop' (I := fun D s => ∃ (j ga gs c' : Nat) (hp' : Hp) (cx : List V), j + D = q.args.length ∧ hp'.get N = some ⟨cc, false, fl (encS q.left)⟩ ∧ hp'.get (N + 1) = some ⟨cc + 1, false, [.d (.int .i64 4), .d (.str nm), .d (.int .i64 0), .d (.int .i64 0), .d (.int .i64 0), .d (.int .i64 0), .d (.int .i64 0), .d (.str []), .full [], .osl N cc 0 q.left.length 1 none, .osl (N + 2) ga 0 j 6 none, .full []]⟩ ∧
   hp'.get (N + 2) = some ⟨ga, false, cx⟩ ∧ RowD cx (encX ((q.args.take j).map stX)) 6 ∧ hp'.get iL = some ⟨gL, false, cs⟩ ∧
   s = ⟨[(7, v7), (8, .ptr (N + 1) (cc + 1) 0), (29, dL (encX q.args)), (30, dI q.args.length), (31, dI j)], hp', N + 3, c', m, []⟩) (d := q.args.length)
  ·exact ⟨0, _, 0, _, _, _, by simp, g0, g1, g2, RowD.nil 6, g3, st_eq (by simp [dI, dL, hm, hv7']) rfl⟩
  clear g0 g1 g2 g3 g4
  rintro D _ ⟨j, ga, gs, c', hp', cx, hj, g0, g1, g2, hrx, g3, rfl⟩
  refine wknktv (jn @dI.eq_1 (jn @dL.eq_1 @hfl)) ?_
  show WP _ _ _ _ _ _
  refine WP.cond _ rfl (fun hb => ?_) (fun hb => ?_)
  ·simp at hb
   have hb' : j < q.args.length := by omega
   obtain ⟨x, hx, hxm, hix⟩ := at_lt hb'
   have hx' := encX_at hx
   have hwj := w_succ hb' (by omega)
   have hsn := take_snoc hx
   have hxs := mem_szX hxm
   have hd := strip71 (x.sz + 1) x (by omega) (by omega)
   have f5 := fits72 (show j ≤ 8388608 by omega)
   have r2 := hrx.len
   have r3 := hrx.take
   have hLl : (encX ((q.args.take j).map stX)).length = j := by rw [encX_len, List.length_map, List.length_take]; omega
   rw [hLl] at r2 r3
   obtain ⟨y, hy⟩ : ∃ y, stX x = y := ⟨_, rfl⟩
   rw [hy] at hd
   simp only [aG, X.cells_eq, List.map_cons, List.map_nil] at hd
   repeat (first
 | apply WP.seq
 | (apply WP.reg; (case hR => dsimp only [prepL, prepO, List.map, gS, gZ]; exact iZ); (case hr => (repeat (first
 | (apply RT.op; simp [dI, dL, dS, X.cells_eq, hix, hx', fillV, closeParts, cl2, toD_d, nble_d, f5, r2, r3, g0, g1, g2, hd, z3, z4]; exact iZ; (try dsimp only [putEnv]) <;> exact rfl)
 | (apply RT.call; (iterate 2 simp; exact iZ); exact iZ; (iterate 4 simp [dI, dL, dS, X.cells_eq, hix, hx', fillV, closeParts, cl2, toD_d, nble_d, f5, r2, r3, g0, g1, g2, hd, z3, z4]; exact iZ); simp [Is]; (try dsimp only [putEnv]) <;> exact rfl; simp; exact iZ; exact iZ)
 | (apply RT.clone; (iterate 2 simp; exact iZ); exact iZ; (iterate 2 simp [dI, dL, dS, X.cells_eq, hix, hx', fillV, closeParts, cl2, toD_d, nble_d, f5, r2, r3, g0, g1, g2, hd, z3, z4]; exact iZ); (first | assumption | (simp [fitsB]; omega)); (try dsimp only [putEnv]) <;> exact rfl; simp [dI, dL, dS, X.cells_eq, hix, hx', fillV, closeParts, cl2, toD_d, nble_d, f5, r2, r3, g0, g1, g2, hd, z3, z4]; exact iZ; exact iZ)
 | (apply RT.callV; (iterate 2 simp; exact iZ); exact iZ; (iterate 3 simp [dI, dL, dS, X.cells_eq, hix, hx', fillV, closeParts, cl2, toD_d, nble_d, f5, r2, r3, g0, g1, g2, hd, z3, z4]; exact iZ); (try dsimp only [putEnv]) <;> exact rfl)
 | (apply RT.callT (hd := hT1) (hk := hT2); (iterate 2 simp; exact iZ); exact iZ; (iterate 2 simp [dI, dL, dS, X.cells_eq, hix, hx', fillV, closeParts, cl2, toD_d, nble_d, f5, r2, r3, g0, g1, g2, hd, z3, z4]; exact iZ); (try dsimp only [putEnv]) <;> exact rfl)
 | (apply RT.wr; simp [dI, dL, dS, X.cells_eq, hix, hx', fillV, closeParts, cl2, toD_d, nble_d, f5, r2, r3, g0, g1, g2, hd, z3, z4]; exact iZ; (try dsimp only [putEnv]) <;> exact rfl; simp [dI, dL, dS, X.cells_eq, hix, hx', fillV, closeParts, cl2, toD_d, nble_d, f5, r2, r3, g0, g1, g2, hd, z3, z4]; exact iZ; (iterate 2 exact iZ); exact iZ))); exact RT.nil); (case hc => first | (refine checkR_un [(0, 2), (1, 2), (0, 3), (1, 3), (0, 4), (1, 4)] (by kernel_rfl) (by kernel_rfl) rfl ?_; simp [memA, disj, nbeq_dec]; done) | (show _ = _; kernel_rfl)); (case ht => simp [dI, dL, dS, X.cells_eq, hix, hx', fillV, closeParts, cl2, toD_d, nble_d, f5, r2, r3, g0, g1, g2, hd, z3, z4]; exact iZ))
 | apply WP.block | apply WP.skip | apply WP.exit | apply WP.ret | refine WP.condT rfl ?_ | refine WP.condF rfl ?_)
   refine loop_next (by simp [hwj, z1, z2, z3, z4]; exact Is.rfl) ?_
   have hr2 := hrx.snoc (vs := [V.d (.int .i64 y.k), V.d (.int .i64 y.o), V.d (.int .i64 y.t), V.d (.int .i64 y.v), V.d (.str y.nm), V.d (.slice (encX y.args))]) (r := y.cells) (by rw [X.cells_eq]; repeat (first | exact VD.nil | apply VD.d)) (by rw [X.cells_eq]; rfl)
   rw [encX_snoc, show (q.args.take j).map stX ++ [y] = (q.args.take (j + 1)).map stX by rw [hsn]; simp [hy]] at hr2
   refine ⟨D - 1, by omega, j + 1, c' + 2, 0, _, _, _, by omega, ?_, ?_, ?_, hr2, ?_, st_eq (by simp [dI, dL, hwj]) rfl⟩
   ·simp [g0]
   ·simp
   ·simp
   ·rw [get_trunc_lt (by omega)]; simp [y1, y2, y3, y4, g3]
  ·simp at hb
   have hje : j = q.args.length := by omega
   rw [hje, List.take_length] at hrx
   subst hv7'
   have rL2 := hr.len
   have rL3 := hr.take
   rw [encY_len, hm] at rL2 rL3
   have rx := fun (look : Look) (h : look (N + 2) = some ⟨ga, false, cx⟩) => hrx.toD (cap := none) h
   rw [encX_len, List.length_map, ← hje] at rx
   rw [hm]
   first | rw [if_pos rfl] | rw [if_neg (by decide)]
   have lt4 := eq_true (show iL < N + 4 by omega)
   have f9 : fitsB 2 176 = true := by rfl
   have f8 : fitsB 1 176 = true := by rfl
   refine wkcnktv (jn @dI.eq_1 (jn @dL.eq_1 (jn @dS.eq_1 (jn @f8 (jn @f9 (jn @nble_d (jn @lt4 (jn @y0 (jn @y1 (jn @y2 (jn @y3 (jn @g0 (jn @g1 (jn @g2 (jn @g3 (jn @rx (jn @e1 (jn @rL2 (jn @rL3 (jn @fillV.eq_1 (jn @fillV.eq_2 (jn @closeParts.eq_1 (jn @closeParts.eq_2 (jn @cl2.eq_def (jn @toD_d (jn @toD_full (jn @z3 @z4))))))))))))))))))))))))))) ?_
   have hl8 : (encY (L ++ [clY q nm])).length = L.length + 1 := by rw [encY_len, List.length_append]; rfl
   have he8 : encY L ++ [(clY q nm).cells] = encY (L ++ [clY q nm]) := by simp [encY_map]
   have hr8 := hr.snoc (vs := [V.d (.int .i64 4), V.d (.str nm), V.d (.int .i64 0), V.d (.int .i64 0), V.d (.int .i64 0), V.d (.int .i64 0), V.d (.int .i64 0), V.d (.str []), V.full [], V.d (.slice (encS q.left)), V.d (.slice (encX (q.args.map stX))), V.full []]) (r := (clY q nm).cells) (by rw [clY_cells, stXs_map]; repeat (first | exact VD.nil | apply VD.d | apply VD.full)) (by rw [clY_cells]; rfl)
   rw [he8] at hr8
   rw [hm] at hl8
   have hb1 : (Nat.ble m iL) = true := by rw [Nat.ble_eq]; omega
   have hb2 : (Nat.ble m (N + 4)) = true := by rw [Nat.ble_eq]; omega
   first
    | exact ⟨.inr rfl, by simp [z0, z2, z3, z4, z5, addNew], [_], [N + 4], rfl, hr8.close2 (ro := false) (Hp.get_set_self _ _ _) hl8.symm, by simp [hb2]⟩
    | (have hcs : cs = [] := List.length_eq_zero_iff.1 (by simpa using rL2); rw [hcs] at hr8; exact ⟨.inr rfl, by simp [z0, z2, z3, z4, z5, addNew], [_], [iL], rfl, hr8.close2 (ro := false) (Hp.get_set_self _ _ _) hl8.symm, by simp [hb1]⟩)
end Go.Ac
end

section
set_option maxRecDepth 8000
namespace Go.Ac
open Go.Proofs
attribute [local simp] Hp.get_set get_trunc_lt
/-- A digit; a number below 1000 written out. -/
def chT (d : Nat) : UInt8 := UInt8.ofNat (48 + d)
def decT (k : Nat) : Tx := (if k < 100 then [] else [chT (k / 100)]) ++ ((if k < 10 then [] else [chT (k / 10 % 10)]) ++ [chT (k % 10)])
def beqT : Tx → Tx → Bool
 | [], [] => true
 | a :: r, b :: s => match Nat.beq a.toNat b.toNat with | true => beqT r s | false => false
 | _, _ => false
theorem beqT_eq : ∀ {a b : Tx}, beqT a b = true → a = b
 | [], [], _ => rfl
 | [], _ :: _, h => by cases h
 | _ :: _, [], h => by cases h
 | a :: r, b :: s, h => by
  unfold beqT at h
  cases hb : Nat.beq a.toNat b.toNat with
  | false => rw [hb] at h; cases h
  | true => rw [hb] at h; rw [UInt8.toNat_inj.1 (Nat.eq_of_beq_eq_true hb), beqT_eq h]
/-- A closed call that gives this text. -/
noncomputable def saysT (k : Nat) (f : FuncId) (i : Nat) : Bool := match callT Tryz.prog Ob.cfg k f [.d (.int .i64 i)] [] 0 0 with
 | some r => match r.v with | .d (.str s) => beqT s (decT i) | _ => false
 | none => false
theorem saysT_den {k f i : Nat} (h : saysT k f i = true) : den Tryz.prog Ob.cfg f [dI i] = some (dS (decT i)) := by
 unfold saysT at h
 split at h
 ·rename_i r hr
  split at h
  ·rename_i s hs
   refine den_t k ?_
   show (match callT Tryz.prog Ob.cfg k f [.d (.int .i64 i)] [] 0 0 with | some r => (match closeT noLook r.v with | some _ => some r.v | none => none) | none => none) = _
   rw [hr]
   simp only [hs]
   rw [beqT_eq h]; rfl
  ·cases h
 ·cases h
def allUp (p : Nat → Bool) : Nat → Nat → Bool
 | 0, _ => true
 | n + 1, k => match p k with | true => allUp p n (k + 1) | false => false
theorem allUp_at {p : Nat → Bool} : ∀ {n k i : Nat}, allUp p n k = true → k ≤ i → i < k + n → p i = true
 | 0, k, i, _, h1, h2 => by omega
 | n + 1, k, i, h, h1, h2 => by
  unfold allUp at h
  cases hp : p k with
  | false => rw [hp] at h; cases h
  | true =>
   rw [hp] at h
   by_cases hk : i = k
   ·rw [hk]; exact hp
   ·exact allUp_at h (by omega) (by omega)
end Go.Ac
end

section
set_option maxRecDepth 8000
namespace Go.Ac
open Go.Proofs
theorem itoa_a : allUp (saysT 100 37) 404 0 = true := by kernel_rfl
theorem decimal37 (k : Nat) (h : k < 404) : den Tryz.prog Ob.cfg 37 [dI k] = some (dS (decT k)) := saysT_den (allUp_at itoa_a (Nat.zero_le k) (by omega))
end Go.Ac
end

section
set_option maxRecDepth 8000
namespace Go.Ac
open Go.Proofs
attribute [local simp] Hp.get_set get_trunc_lt
def valT (s : Tx) : Nat := s.foldl (fun a b => a * 10 + (b.toNat - 48)) 0
theorem valT_all : allUp (fun k => Nat.beq (valT (decT k)) k) 404 0 = true := by kernel_rfl
theorem decT_inj {j k : Nat} (hj : j < 404) (hk : k < 404) (h : decT j = decT k) : j = k := by
 have h1 : valT (decT j) = j := Nat.eq_of_beq_eq_true (allUp_at (p := fun k => Nat.beq (valT (decT k)) k) valT_all (Nat.zero_le j) (by omega))
 have h2 : valT (decT k) = k := Nat.eq_of_beq_eq_true (allUp_at (p := fun k => Nat.beq (valT (decT k)) k) valT_all (Nat.zero_le k) (by omega))
 rw [← h1, ← h2, h]
theorem decT_len (k : Nat) : (decT k).length ≤ 3 := by unfold decT; split <;> split <;> simp
def nmT (p : Tx) (k : Nat) : Tx := p ++ decT k
theorem nmT_inj {p : Tx} {j k : Nat} (hj : j < 404) (hk : k < 404) (h : nmT p j = nmT p k) : j = k := decT_inj hj hk (List.append_cancel_left h)
/-- The names that are taken, below a number. -/
def tkL (p : Tx) (T : List Tx) : Nat → List Tx
 | 0 => []
 | m + 1 => if nmT p m ∈ T then nmT p m :: tkL p T m else tkL p T m
theorem tkL_mem {p : Tx} {T : List Tx} : ∀ {m : Nat} {x : Tx}, x ∈ tkL p T m → x ∈ T ∧ ∃ j, j < m ∧ x = nmT p j
 | 0, x, h => by simp [tkL] at h
 | m + 1, x, h => by
  unfold tkL at h
  split at h
  ·rename_i hm
   rcases List.mem_cons.1 h with h | h
   ·exact ⟨h ▸ hm, m, by omega, h⟩
   ·obtain ⟨h1, j, h2, h3⟩ := tkL_mem h; exact ⟨h1, j, by omega, h3⟩
  ·obtain ⟨h1, j, h2, h3⟩ := tkL_mem h; exact ⟨h1, j, by omega, h3⟩
theorem sub_len : ∀ {l t : List Tx}, l.Pairwise (fun a b => a ≠ b) → (∀ x, x ∈ l → x ∈ t) → l.length ≤ t.length
 | [], t, _, _ => Nat.zero_le _
 | x :: l, t, hp, hs => by
  obtain ⟨h1, h2⟩ := List.pairwise_cons.1 hp
  have hx := hs x List.mem_cons_self
  have := sub_len (l := l) (t := t.erase x) h2 fun y hy => (List.mem_erase_of_ne (fun e => h1 y hy e.symm)).2 (hs y (List.mem_cons_of_mem _ hy))
  rw [List.length_erase_of_mem hx] at this
  have := List.length_pos_of_mem hx
  rw [List.length_cons]; omega
theorem tkL_pw {p : Tx} {T : List Tx} : ∀ {m : Nat}, m ≤ 404 → (tkL p T m).Pairwise (fun a b => a ≠ b)
 | 0, _ => by simp [tkL]
 | m + 1, h => by
  unfold tkL
  split
  ·refine List.pairwise_cons.2 ⟨fun y hy e => ?_, tkL_pw (by omega)⟩
   obtain ⟨_, j, h2, h3⟩ := tkL_mem hy
   have := nmT_inj (by omega) (by omega) (e.trans h3)
   omega
  ·exact tkL_pw (by omega)
theorem tkL_le {p : Tx} {T : List Tx} {m : Nat} (h : m ≤ 404) : (tkL p T m).length ≤ T.length := sub_len (tkL_pw h) fun x hx => (tkL_mem hx).1
/-- A number up to which the names can be explained. -/
def Iv (p : Tx) (T : List Tx) (i m : Nat) : Prop := 1 ≤ m ∧ m ≤ 1 + i + (tkL p T m).length
theorem Iv.le {p : Tx} {T : List Tx} {i m : Nat} (h : Iv p T i m) (hb : 1 + i + T.length ≤ 403) (hm : m ≤ 404) : m ≤ 1 + i + T.length := by
 have := tkL_le (p := p) (T := T) hm; have := h.2; omega
theorem Iv.up {p : Tx} {T : List Tx} {i m : Nat} (h : Iv p T i m) (ht : nmT p m ∈ T) : Iv p T i (m + 1) := by
 refine ⟨by omega, ?_⟩
 unfold tkL; rw [if_pos ht, List.length_cons]; have := h.2; omega
theorem Iv.on {p : Tx} {T : List Tx} {i m : Nat} (h : Iv p T i m) (ht : nmT p m ∉ T) : Iv p T (i + 1) (m + 1) := by
 refine ⟨by omega, ?_⟩
 unfold tkL; rw [if_neg ht]; have := h.2; omega
theorem Iv.mono {p : Tx} {T : List Tx} {i i' m : Nat} (h : Iv p T i m) (hi : i ≤ i') : Iv p T i' m := ⟨h.1, by have := h.2; omega⟩
/-- The next number whose name is free. -/
def nx (p : Tx) (T : List Tx) : Nat → Nat → Nat
 | 0, k => k
 | f + 1, k => if nmT p k ∈ T then nx p T f (k + 1) else k
theorem nx_spec {p : Tx} {T : List Tx} {i : Nat} (hb : 1 + i + T.length ≤ 403) : ∀ (f m : Nat), 404 ≤ f + m → m ≤ 404 → Iv p T i m → Iv p T i (nx p T f m) ∧ nmT p (nx p T f m) ∉ T ∧ nx p T f m ≤ 1 + i + T.length
 | 0, m, hf, hm, hi => by have := hi.le hb hm; omega
 | f + 1, m, hf, hm, hi => by
  unfold nx
  have hle := hi.le hb hm
  split
  ·rename_i ht
   exact nx_spec hb f (m + 1) (by omega) (by omega) (hi.up ht)
  ·rename_i ht
   exact ⟨hi, ht, hle⟩
theorem kf36 (r : Nat) : Ob.keep 36 r = Ob.k36 r := by kernel_rfl
attribute [local simp] kf36 Ob.k36
set_option maxHeartbeats 4000000 in
theorem next36 (p : Tx) (hpl : p.length ≤ 8) (T : List Tx) (i m : Nat) (hb : 1 + i + T.length ≤ 403) (hi : Iv p T i m) (hm : m ≤ 404) : den Tryz.prog Ob.cfg 36 [dS p, dI m, dL (encS T)] = some (dI (nx p T 404 m)) := by
 refine den_wp Tryz.func36 rfl (by kernel_rfl) rfl rfl ?_
 obtain ⟨r, hr⟩ : ∃ r, nx p T 404 m = r := ⟨_, rfl⟩
 rw [hr]
 refine wk (jn @envOf.eq_1 (jn @envOf.eq_2 (jn @dS.eq_1 (jn @dI.eq_1 @dL.eq_1)))) ?_
 apply WP.loop' (I := fun D s => ∃ (k f : Nat), D = 405 - k ∧ 404 ≤ f + k ∧ nx p T f k = r ∧ Iv p T i k ∧ k ≤ 404 ∧ SE [(0, dS p), (1, dI k), (2, dL (encS T))] [] 0 s) (d := 405 - m)
 ·exact ⟨m, 404, rfl, by omega, hr, hi, hm, SE.mk (by simp [dI, dS, dL]) rfl⟩
 rintro D _ ⟨k, f, hD, hf, hnx, hik, hk, cc, rfl⟩
 have hle := hik.le hb hk
 have hd := decimal37 k (by omega)
 have hh := has61 T (nmT p k) (by unfold MX; omega)
 unfold nmT at hh
 have htl := decT_len k
 obtain ⟨t, ht⟩ : ∃ t, decT k = t := ⟨_, rfl⟩
 rw [ht] at hd hh htl
 have hfit := eq_true (show p.length + t.length ≤ 9223372036854775807 by omega)
 simp only [dI, dS, dL, dB] at hd hh
 obtain ⟨f', rfl⟩ : ∃ f', f = f' + 1 := ⟨f - 1, by omega⟩
 unfold nx at hnx
 by_cases h : nmT p k ∈ T
 ·rw [if_pos h] at hnx
  have h' : decide (p ++ t ∈ T) = true := decide_eq_true (by rw [← ht]; exact h)
  rw [h'] at hh
  have hw := w_succ (show k < 405 by omega) (by omega)
  refine wkc (jn @dI.eq_1 (jn @dS.eq_1 (jn @dL.eq_1 (jn @hd (jn @hh @hfit))))) ?_
  refine blockQ_nn ?_
  refine loop_next (by simp [hw]; exact Is.rfl) ?_
  exact ⟨404 - k, by omega, k + 1, f', by omega, by omega, hnx, hik.up h, by omega, SE.mk (by simp [dI, dS, dL, hw]) rfl⟩
 ·rw [if_neg h] at hnx
  have h' : decide (p ++ t ∈ T) = false := decide_eq_false (by rw [← ht]; exact h)
  rw [h'] at hh
  refine wkc (jn @dI.eq_1 (jn @dS.eq_1 (jn @dL.eq_1 (jn @hd (jn @hh @hfit))))) ?_
  rw [hnx]
  show retQ _ _ _ _ _
  exact ⟨.inr rfl, _, _, rfl, rfl⟩
end Go.Ac
end
