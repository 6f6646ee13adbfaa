/- Look-ups of the reference. -/
import Derived.Test.YtmjkclonkhempaaGreatDoorGcDM
import Derived.Test.YtmjkclonkhempaaGreatDoorRows
import Derived.Deep.Slices
import Derived.ChangeArms
import Derived.RowKit3
import Derived.ReadAgain
import Derived.ChangeStays
set_option linter.unusedVariables false
set_option linter.unusedSimpArgs false
section
set_option maxRecDepth 4000
namespace Go.Ac
open Go.Proofs
theorem ne_at {α : Type} {a b : List α} {j : Nat} {x y : α} (hx : a[j]? = some x) (hy : b[j]? = some y) (h : x ≠ y) : a ≠ b := fun e => by subst e; rw [hx] at hy; exact h (Option.some.inj hy)

theorem On.ext' {x y : On} (h0 : x.nm = y.nm) (h1 : x.t = y.t) (h2 : x.tag = y.tag) : x = y := by cases x; cases y; simp only at *; subst h0 h1 h2; rfl
theorem Mm.ext' {x y : Mm} (h0 : x.nm = y.nm) (h1 : x.t = y.t) (h2 : x.ini = y.ini) : x = y := by cases x; cases y; simp only at *; subst h0 h1 h2; rfl
theorem Ii.ext' {x y : Ii} (h0 : x.nm = y.nm) (h1 : x.cl = y.cl) : x = y := by cases x; cases y; simp only at *; subst h0 h1; rfl


theorem kf43 (r : Nat) : Ob.keep 43 r = Ob.k43 r := by kernel_rfl
attribute [local simp] kf43 Ob.k43
set_option maxHeartbeats 1000000 in
theorem rq128_den (a b : List Tx) (ha : a.length ≤ MX) (hb0 : b.length ≤ MX) : den Tryz.prog Ob.cfg 43 [dL (encS a), dL (encS b)] = some (dB (eqB a b)) := by
 unfold MX at ha hb0
 refine den_wp Tryz.func43 rfl (by kernel_rfl) rfl rfl ?_
 by_cases hl : a.length = b.length
 case neg =>
  have hl2 : ((a.length : Int) = b.length) = False := eq_false (by omega)
  rw [eqB_false (fun h => hl (by rw [h]))]
  refine wkc (jn @dL.eq_1 (jn @hl (jn @hl2 @int_bne))) ?_
  show retQ _ _ _ _ _
  exact ⟨.inr rfl, _, _, rfl, rfl⟩
 have hl2 : ((a.length : Int) = b.length) = True := eq_true (by omega)
 refine wkc (jn @dL.eq_1 (jn @hl (jn @hl2 @int_bne))) ?_
 apply WP.loop' (I := fun D s => ∃ j : Nat, j + D = a.length ∧ a.take j = b.take j ∧ SE [(0, dL (encS a)), (1, dL (encS b)), (5, dI j)] [] 0 s) (d := a.length)
 ·exact ⟨0, by simp, by simp, SE.mk (by simp [dI, dL, hl]) rfl⟩
 rintro D _ ⟨j, hj, he, cc, rfl⟩
 refine wk (jn @dI.eq_1 (jn @dL.eq_1 @hl)) ?_
 show WP _ _ _ _ _ _
 refine WP.cond _ rfl (fun hb => ?_) (fun hb => ?_)
 ·simp at hb
  have hb' : j < a.length := by omega
  have hb2 : j < b.length := by omega
  obtain ⟨x, hx, hxm, x1⟩ := at_lt hb'
  obtain ⟨y, hy, hym, x2⟩ := at_lt hb2
  have e1 := encS_at hx
  have e2 := encS_at hy
  have hw := w_succ hb' (by omega)
  have s1 := take_snoc hx
  have s2 := take_snoc hy
  by_cases q0 : x = y
  case neg =>
   have q0' := eq_false q0
   rw [eqB_false (ne_at hx hy q0)]
   refine wkc (jn @dI.eq_1 (jn @dL.eq_1 (jn @x1 (jn @x2 (jn @e1 (jn @e2 (jn @int_beq (jn @int_bne (jn @tx_beq (jn @tx_bne (jn @hl @q0'))))))))))) ?_
   show retQ _ _ _ _ _
   exact ⟨.inr rfl, _, _, rfl, rfl⟩
  have q0' := eq_true q0
  have hxy : x = y := q0
  refine wkc (jn @dI.eq_1 (jn @dL.eq_1 (jn @x1 (jn @x2 (jn @e1 (jn @e2 (jn @int_beq (jn @int_bne (jn @tx_beq (jn @tx_bne (jn @hl @q0'))))))))))) ?_
  refine loop_next (by simp [hw]; exact Is.rfl) ?_
  exact ⟨D - 1, by omega, j + 1, by omega, by rw [s1, s2, he, hxy], SE.mk (by simp [dI, dL, hw, hl]) rfl⟩
 ·simp at hb
  have hje : j = a.length := by omega
  rw [hje, eq_of_take hl] at he
  rw [eqB_true he]
  refine wk True.intro ?_
  show retQ _ _ _ _ _
  exact ⟨.inr rfl, _, _, rfl, rfl⟩

theorem kf41 (r : Nat) : Ob.keep 41 r = Ob.k41 r := by kernel_rfl
attribute [local simp] kf41 Ob.k41
set_option maxHeartbeats 1000000 in
theorem rq125_den (a b : List On) (ha : a.length ≤ MX) (hb0 : b.length ≤ MX) : den Tryz.prog Ob.cfg 41 [dL (encO a), dL (encO b)] = some (dB (eqB a b)) := by
 unfold MX at ha hb0
 refine den_wp Tryz.func41 rfl (by kernel_rfl) rfl rfl ?_
 by_cases hl : a.length = b.length
 case neg =>
  have hl2 : ((a.length : Int) = b.length) = False := eq_false (by omega)
  rw [eqB_false (fun h => hl (by rw [h]))]
  refine wkc (jn @dL.eq_1 (jn @hl (jn @hl2 @int_bne))) ?_
  show retQ _ _ _ _ _
  exact ⟨.inr rfl, _, _, rfl, rfl⟩
 have hl2 : ((a.length : Int) = b.length) = True := eq_true (by omega)
 refine wkc (jn @dL.eq_1 (jn @hl (jn @hl2 @int_bne))) ?_
 apply WP.loop' (I := fun D s => ∃ j : Nat, j + D = a.length ∧ a.take j = b.take j ∧ SE [(0, dL (encO a)), (1, dL (encO b)), (5, dI j)] [] 0 s) (d := a.length)
 ·exact ⟨0, by simp, by simp, SE.mk (by simp [dI, dL, hl]) rfl⟩
 rintro D _ ⟨j, hj, he, cc, rfl⟩
 refine wk (jn @dI.eq_1 (jn @dL.eq_1 @hl)) ?_
 show WP _ _ _ _ _ _
 refine WP.cond _ rfl (fun hb => ?_) (fun hb => ?_)
 ·simp at hb
  have hb' : j < a.length := by omega
  have hb2 : j < b.length := by omega
  obtain ⟨x, hx, hxm, x1⟩ := at_lt hb'
  obtain ⟨y, hy, hym, x2⟩ := at_lt hb2
  have e1 := encO_at hx
  have e2 := encO_at hy
  have hw := w_succ hb' (by omega)
  have s1 := take_snoc hx
  have s2 := take_snoc hy
  by_cases q0 : x.nm = y.nm
  case neg =>
   have q0' := eq_false q0
   rw [eqB_false (ne_at hx hy fun h => q0 (by rw [h]))]
   refine wkc (jn @dI.eq_1 (jn @dL.eq_1 (jn @x1 (jn @x2 (jn @e1 (jn @e2 (jn @int_beq (jn @int_bne (jn @tx_beq (jn @tx_bne (jn @hl (jn @On.cells.eq_1 @q0')))))))))))) ?_
   show retQ _ _ _ _ _
   exact ⟨.inr rfl, _, _, rfl, rfl⟩
  have q0' := eq_true q0
  by_cases q1 : x.t = y.t
  case neg =>
   have q1' := eq_false q1
   rw [eqB_false (ne_at hx hy fun h => q1 (by rw [h]))]
   refine wkc (jn @dI.eq_1 (jn @dL.eq_1 (jn @x1 (jn @x2 (jn @e1 (jn @e2 (jn @int_beq (jn @int_bne (jn @tx_beq (jn @tx_bne (jn @hl (jn @On.cells.eq_1 (jn @q0' @q1'))))))))))))) ?_
   show retQ _ _ _ _ _
   exact ⟨.inr rfl, _, _, rfl, rfl⟩
  have q1' := eq_true q1
  by_cases q2 : x.tag = y.tag
  case neg =>
   have q2' := eq_false q2
   rw [eqB_false (ne_at hx hy fun h => q2 (by rw [h]))]
   refine wkc (jn @dI.eq_1 (jn @dL.eq_1 (jn @x1 (jn @x2 (jn @e1 (jn @e2 (jn @int_beq (jn @int_bne (jn @tx_beq (jn @tx_bne (jn @hl (jn @On.cells.eq_1 (jn @q0' (jn @q1' @q2')))))))))))))) ?_
   show retQ _ _ _ _ _
   exact ⟨.inr rfl, _, _, rfl, rfl⟩
  have q2' := eq_true q2
  have hxy : x = y := (On.ext' q0 q1 q2)
  refine wkc (jn @dI.eq_1 (jn @dL.eq_1 (jn @x1 (jn @x2 (jn @e1 (jn @e2 (jn @int_beq (jn @int_bne (jn @tx_beq (jn @tx_bne (jn @hl (jn @On.cells.eq_1 (jn @q0' (jn @q1' @q2')))))))))))))) ?_
  refine loop_next (by simp [hw]; exact Is.rfl) ?_
  exact ⟨D - 1, by omega, j + 1, by omega, by rw [s1, s2, he, hxy], SE.mk (by simp [dI, dL, hw, hl]) rfl⟩
 ·simp at hb
  have hje : j = a.length := by omega
  rw [hje, eq_of_take hl] at he
  rw [eqB_true he]
  refine wk True.intro ?_
  show retQ _ _ _ _ _
  exact ⟨.inr rfl, _, _, rfl, rfl⟩

theorem kf24 (r : Nat) : Ob.keep 24 r = Ob.k24 r := by kernel_rfl
attribute [local simp] kf24 Ob.k24
set_option maxHeartbeats 1000000 in
theorem rq96_den (a b : List Dc) (ha : szD a ≤ MX) (hb0 : szD b ≤ MX) : den Tryz.prog Ob.cfg 24 [dL (encD a), dL (encD b)] = some (dB (eqB a b)) := by
 have l1 := len_szD a
 have l2 := len_szD b
 unfold MX at ha hb0
 refine den_wp Tryz.func24 rfl (by kernel_rfl) rfl rfl ?_
 by_cases hl : a.length = b.length
 case neg =>
  have hl2 : ((a.length : Int) = b.length) = False := eq_false (by omega)
  rw [eqB_false (fun h => hl (by rw [h]))]
  refine wkc (jn @dL.eq_1 (jn @hl (jn @hl2 @int_bne))) ?_
  show retQ _ _ _ _ _
  exact ⟨.inr rfl, _, _, rfl, rfl⟩
 have hl2 : ((a.length : Int) = b.length) = True := eq_true (by omega)
 refine wkc (jn @dL.eq_1 (jn @hl (jn @hl2 @int_bne))) ?_
 apply WP.loop' (I := fun D s => ∃ j : Nat, j + D = a.length ∧ a.take j = b.take j ∧ SE [(0, dL (encD a)), (1, dL (encD b)), (5, dI j)] [] 0 s) (d := a.length)
 ·exact ⟨0, by simp, by simp, SE.mk (by simp [dI, dL, hl]) rfl⟩
 rintro D _ ⟨j, hj, he, cc, rfl⟩
 refine wk (jn @dI.eq_1 (jn @dL.eq_1 @hl)) ?_
 show WP _ _ _ _ _ _
 refine WP.cond _ rfl (fun hb => ?_) (fun hb => ?_)
 ·simp at hb
  have hb' : j < a.length := by omega
  have hb2 : j < b.length := by omega
  obtain ⟨x, hx, hxm, x1⟩ := at_lt hb'
  obtain ⟨y, hy, hym, x2⟩ := at_lt hb2
  have e1 := encD_at hx
  have e2 := encD_at hy
  have hw := w_succ hb' (by omega)
  have s1 := take_snoc hx
  have s2 := take_snoc hy
  have h2 := rq125_den x.ck y.ck (by have := mem_szD hxm; have := len_szO x.ck; unfold Dc.sz at *; unfold MX; omega) (by have := mem_szD hym; have := len_szO y.ck; unfold Dc.sz at *; unfold MX; omega)
  simp only [aG, X.cells_eq, Y.cells_eq, Dc.cells, En.cells, Cl.cells, Mm.cells, Ii.cells, List.map_cons, List.map_nil, dB, dL] at h2
  by_cases q0 : x.nm = y.nm
  case neg =>
   have q0' := eq_false q0
   rw [eqB_false (ne_at hx hy fun h => q0 (by rw [h]))]
   refine wkc (jn @dI.eq_1 (jn @dL.eq_1 (jn @x1 (jn @x2 (jn @e1 (jn @e2 (jn @int_beq (jn @int_bne (jn @tx_beq (jn @tx_bne (jn @hl (jn @Dc.cells.eq_1 @q0')))))))))))) ?_
   show retQ _ _ _ _ _
   exact ⟨.inr rfl, _, _, rfl, rfl⟩
  have q0' := eq_true q0
  by_cases q1 : x.t = y.t
  case neg =>
   have q1' := eq_false q1
   rw [eqB_false (ne_at hx hy fun h => q1 (by rw [h]))]
   refine wkc (jn @dI.eq_1 (jn @dL.eq_1 (jn @x1 (jn @x2 (jn @e1 (jn @e2 (jn @int_beq (jn @int_bne (jn @tx_beq (jn @tx_bne (jn @hl (jn @Dc.cells.eq_1 (jn @q0' @q1'))))))))))))) ?_
   show retQ _ _ _ _ _
   exact ⟨.inr rfl, _, _, rfl, rfl⟩
  have q1' := eq_true q1
  by_cases q2 : x.ck = y.ck
  case neg =>
   rw [eqB_false q2] at h2
   rw [eqB_false (ne_at hx hy fun h => q2 (by rw [h]))]
   refine wkc (jn @dI.eq_1 (jn @dL.eq_1 (jn @x1 (jn @x2 (jn @e1 (jn @e2 (jn @int_beq (jn @int_bne (jn @tx_beq (jn @tx_bne (jn @hl (jn @Dc.cells.eq_1 (jn @q0' (jn @q1' @h2)))))))))))))) ?_
   show retQ _ _ _ _ _
   exact ⟨.inr rfl, _, _, rfl, rfl⟩
  rw [eqB_true q2] at h2
  have hxy : x = y := (Dc.ext' q0 q1 q2)
  refine wkc (jn @dI.eq_1 (jn @dL.eq_1 (jn @x1 (jn @x2 (jn @e1 (jn @e2 (jn @int_beq (jn @int_bne (jn @tx_beq (jn @tx_bne (jn @hl (jn @Dc.cells.eq_1 (jn @q0' (jn @q1' @h2)))))))))))))) ?_
  refine loop_next (by simp [hw]; exact Is.rfl) ?_
  exact ⟨D - 1, by omega, j + 1, by omega, by rw [s1, s2, he, hxy], SE.mk (by simp [dI, dL, hw, hl]) rfl⟩
 ·simp at hb
  have hje : j = a.length := by omega
  rw [hje, eq_of_take hl] at he
  rw [eqB_true he]
  refine wk True.intro ?_
  show retQ _ _ _ _ _
  exact ⟨.inr rfl, _, _, rfl, rfl⟩

theorem kf42 (r : Nat) : Ob.keep 42 r = Ob.k42 r := by kernel_rfl
attribute [local simp] kf42 Ob.k42
set_option maxHeartbeats 2000000 in
theorem rq126_den : ∀ (N : Nat) (x y : X), x.sz < N → x.sz ≤ MX → y.sz ≤ MX → den Tryz.prog Ob.cfg 42 [aG x.cells, aG y.cells] = some (dB (eqB x y)) := by
 intro N
 induction N with
 | zero => intro x y h; omega
 | succ N ih =>
 intro x y hN hx0 hy0
 rw [X.sz_eq] at hN hx0 hy0
 have l1 := len_szX x.args
 have l2 := len_szX y.args
 unfold MX at hx0 hy0
 refine den_wp Tryz.func42 rfl (by kernel_rfl) rfl rfl ?_
 by_cases q0 : x.k = y.k
 case neg =>
  have q0' := eq_false q0
  rw [eqB_false (fun h => q0 (by rw [h]))]
  refine wkc (jn @dI.eq_1 (jn @dL.eq_1 (jn @aG.eq_1 (jn @X.cells_eq (jn @int_beq (jn @int_bne (jn @tx_beq (jn @tx_bne @q0')))))))) ?_
  show retQ _ _ _ _ _
  exact ⟨.inr rfl, _, _, rfl, rfl⟩
 have q0' := eq_true q0
 by_cases q1 : x.o = y.o
 case neg =>
  have q1' := eq_false q1
  rw [eqB_false (fun h => q1 (by rw [h]))]
  refine wkc (jn @dI.eq_1 (jn @dL.eq_1 (jn @aG.eq_1 (jn @X.cells_eq (jn @int_beq (jn @int_bne (jn @tx_beq (jn @tx_bne (jn @q0' @q1'))))))))) ?_
  show retQ _ _ _ _ _
  exact ⟨.inr rfl, _, _, rfl, rfl⟩
 have q1' := eq_true q1
 by_cases q2 : x.t = y.t
 case neg =>
  have q2' := eq_false q2
  rw [eqB_false (fun h => q2 (by rw [h]))]
  refine wkc (jn @dI.eq_1 (jn @dL.eq_1 (jn @aG.eq_1 (jn @X.cells_eq (jn @int_beq (jn @int_bne (jn @tx_beq (jn @tx_bne (jn @q0' (jn @q1' @q2')))))))))) ?_
  show retQ _ _ _ _ _
  exact ⟨.inr rfl, _, _, rfl, rfl⟩
 have q2' := eq_true q2
 by_cases q3 : x.v = y.v
 case neg =>
  have q3' := eq_false q3
  rw [eqB_false (fun h => q3 (by rw [h]))]
  refine wkc (jn @dI.eq_1 (jn @dL.eq_1 (jn @aG.eq_1 (jn @X.cells_eq (jn @int_beq (jn @int_bne (jn @tx_beq (jn @tx_bne (jn @q0' (jn @q1' (jn @q2' @q3'))))))))))) ?_
  show retQ _ _ _ _ _
  exact ⟨.inr rfl, _, _, rfl, rfl⟩
 have q3' := eq_true q3
 by_cases q4 : x.nm = y.nm
 case neg =>
  have q4' := eq_false q4
  rw [eqB_false (fun h => q4 (by rw [h]))]
  refine wkc (jn @dI.eq_1 (jn @dL.eq_1 (jn @aG.eq_1 (jn @X.cells_eq (jn @int_beq (jn @int_bne (jn @tx_beq (jn @tx_bne (jn @q0' (jn @q1' (jn @q2' (jn @q3' @q4')))))))))))) ?_
  show retQ _ _ _ _ _
  exact ⟨.inr rfl, _, _, rfl, rfl⟩
 have q4' := eq_true q4
 by_cases q5 : x.args.length = y.args.length
 case neg =>
  have q5' : ((x.args.length : Int) = y.args.length) = False := eq_false (by omega)
  rw [eqB_false (fun h => q5 (by rw [h]))]
  refine wkc (jn @dI.eq_1 (jn @dL.eq_1 (jn @aG.eq_1 (jn @X.cells_eq (jn @int_beq (jn @int_bne (jn @tx_beq (jn @tx_bne (jn @q0' (jn @q1' (jn @q2' (jn @q3' (jn @q4' (jn @q5 @q5')))))))))))))) ?_
  show retQ _ _ _ _ _
  exact ⟨.inr rfl, _, _, rfl, rfl⟩
 have q5' : ((x.args.length : Int) = y.args.length) = True := eq_true (by omega)
 refine wkc (jn @dI.eq_1 (jn @dL.eq_1 (jn @aG.eq_1 (jn @X.cells_eq (jn @int_beq (jn @int_bne (jn @tx_beq (jn @tx_bne (jn @q0' (jn @q1' (jn @q2' (jn @q3' (jn @q4' (jn @q5 @q5')))))))))))))) ?_
 apply WP.loop' (I := fun D s => ∃ j : Nat, j + D = x.args.length ∧ x.args.take j = y.args.take j ∧ ∃ c, s = ⟨[(2, .ptr 0 0 0), (3, .ptr 1 1 0), (5, dI j)], [(0, ⟨0, false, x.cells.map .d⟩), (1, ⟨1, false, y.cells.map .d⟩)], 2, c, 0, []⟩) (d := x.args.length)
 ·exact ⟨0, by simp, by simp, _, st_eq rfl (by simp [X.cells_eq])⟩
 rintro D _ ⟨j, hj, he, cc, rfl⟩
 refine wk (jn @dI.eq_1 (jn @dL.eq_1 @X.cells_eq)) ?_
 show WP _ _ _ _ _ _
 refine WP.cond _ rfl (fun hb => ?_) (fun hb => ?_)
 ·simp at hb
  have hb' : j < x.args.length := by omega
  have hb2 : j < y.args.length := by omega
  obtain ⟨u, hu, hum, x1⟩ := at_lt hb'
  obtain ⟨w, hv, hvm, x2⟩ := at_lt hb2
  have e1 := encX_at hu
  have e2 := encX_at hv
  have hw := w_succ hb' (by omega)
  have s1 := take_snoc hu
  have s2 := take_snoc hv
  have hd := ih u w (by have := mem_szX hum; omega) (by have := mem_szX hum; unfold MX; omega) (by have := mem_szX hvm; unfold MX; omega)
  simp only [aG, X.cells_eq, Y.cells_eq, Dc.cells, En.cells, Cl.cells, Mm.cells, Ii.cells, List.map_cons, List.map_nil, dB, dL] at hd
  by_cases q : u = w
  ·rw [eqB_true q] at hd
   refine wkc (jn @dI.eq_1 (jn @dL.eq_1 (jn @X.cells_eq (jn @x1 (jn @x2 (jn @e1 (jn @e2 @hd))))))) ?_
   refine loop_next (by simp [hw]; exact Is.rfl) ?_
   exact ⟨D - 1, by omega, j + 1, by omega, by rw [s1, s2, he, q], _, st_eq (by simp [dI]) (by simp [X.cells_eq])⟩
  ·rw [eqB_false q] at hd
   rw [eqB_false (fun h => ne_at hu hv q (by rw [h]))]
   refine wkc (jn @dI.eq_1 (jn @dL.eq_1 (jn @X.cells_eq (jn @x1 (jn @x2 (jn @e1 (jn @e2 @hd))))))) ?_
   show retQ _ _ _ _ _
   exact ⟨.inr rfl, _, _, rfl, rfl⟩
 ·simp at hb
  have hje : j = x.args.length := by omega
  rw [hje, eq_of_take q5] at he
  rw [eqB_true (X.ext q0 q1 q2 q3 q4 he)]
  refine wk True.intro ?_
  show retQ _ _ _ _ _
  exact ⟨.inr rfl, _, _, rfl, rfl⟩

theorem kf25 (r : Nat) : Ob.keep 25 r = Ob.k25 r := by kernel_rfl
attribute [local simp] kf25 Ob.k25
set_option maxHeartbeats 4000000 in
theorem rq100_den : ∀ (N : Nat) (a b : List Y), szY a < N → szY a ≤ MX → szY b ≤ MX → den Tryz.prog Ob.cfg 25 [dL (encY a), dL (encY b)] = some (dB (eqB a b)) := by
 intro N
 induction N with
 | zero => intro x y h; omega
 | succ N ih =>
 intro a b hN ha hb0
 have l1 := len_szY a
 have l2 := len_szY b
 unfold MX at ha hb0
 refine den_wp Tryz.func25 rfl (by kernel_rfl) rfl rfl ?_
 by_cases hl : a.length = b.length
 case neg =>
  have hl2 : ((a.length : Int) = b.length) = False := eq_false (by omega)
  rw [eqB_false (fun h => hl (by rw [h]))]
  refine wkc (jn @dL.eq_1 (jn @hl (jn @hl2 @int_bne))) ?_
  show retQ _ _ _ _ _
  exact ⟨.inr rfl, _, _, rfl, rfl⟩
 have hl2 : ((a.length : Int) = b.length) = True := eq_true (by omega)
 refine wkc (jn @dL.eq_1 (jn @hl (jn @hl2 @int_bne))) ?_
 apply WP.loop' (I := fun D s => ∃ j : Nat, j + D = a.length ∧ a.take j = b.take j ∧ SE [(0, dL (encY a)), (1, dL (encY b)), (5, dI j)] [] 0 s) (d := a.length)
 ·exact ⟨0, by simp, by simp, SE.mk (by simp [dI, dL, hl]) rfl⟩
 rintro D _ ⟨j, hj, he, cc, rfl⟩
 refine wk (jn @dI.eq_1 (jn @dL.eq_1 @hl)) ?_
 show WP _ _ _ _ _ _
 refine WP.cond _ rfl (fun hb => ?_) (fun hb => ?_)
 ·simp at hb
  have hb' : j < a.length := by omega
  have hb2 : j < b.length := by omega
  obtain ⟨x, hx, hxm, x1⟩ := at_lt hb'
  obtain ⟨y, hy, hym, x2⟩ := at_lt hb2
  have e1 := encY_at hx
  have e2 := encY_at hy
  have hw := w_succ hb' (by omega)
  have s1 := take_snoc hx
  have s2 := take_snoc hy
  have m1 := mem_szY hxm
  have m2 := mem_szY hym
  rw [Y.sz_eq] at m1 m2
  have k1 := len_szS x.outs
  have k2 := len_szS y.outs
  have k3 := len_szX x.args
  have k4 := len_szX y.args
  have k5 := len_szB x.brs
  have k6 := len_szB y.brs
  have h3 := rq126_den (x.r.sz + 1) x.r y.r (by omega) (by unfold MX; omega) (by unfold MX; omega)
  have h4 := rq128_den x.outs y.outs (by unfold MX; omega) (by unfold MX; omega)
  have z1 : (X.mk 0 0 0 0 [] x.args).sz ≤ 1152921504606846976 := by rw [X.sz_eq]; simp only [X.nm, X.args, szT, List.length_nil]; omega
  have z2 : (X.mk 0 0 0 0 [] y.args).sz ≤ 1152921504606846976 := by rw [X.sz_eq]; simp only [X.nm, X.args, szT, List.length_nil]; omega
  have h5 := rq126_den ((X.mk 0 0 0 0 [] x.args).sz + 1) (.mk 0 0 0 0 [] x.args) (.mk 0 0 0 0 [] y.args) (by omega) (by unfold MX; omega) (by unfold MX; omega)
  simp only [aG, X.cells_eq, Y.cells_eq, Dc.cells, En.cells, Cl.cells, Mm.cells, Ii.cells, List.map_cons, List.map_nil, dB, dL] at h3 h4 h5
  simp only [X.k, X.o, X.t, X.v, X.nm] at h5
  rw [show (X.mk 0 0 0 0 [] x.args).args = x.args from rfl, show (X.mk 0 0 0 0 [] y.args).args = y.args from rfl] at h5
  by_cases q0 : x.k = y.k
  case neg =>
   have q0' := eq_false q0
   rw [eqB_false (ne_at hx hy fun h => q0 (by rw [h]))]
   refine wkc (jn @dI.eq_1 (jn @dL.eq_1 (jn @Y.cells_eq (jn @x1 (jn @x2 (jn @e1 (jn @e2 (jn @int_beq (jn @int_bne (jn @tx_beq (jn @tx_bne @q0'))))))))))) ?_
   show retQ _ _ _ _ _
   exact ⟨.inr rfl, _, _, rfl, rfl⟩
  have q0' := eq_true q0
  by_cases q1 : x.nm = y.nm
  case neg =>
   have q1' := eq_false q1
   rw [eqB_false (ne_at hx hy fun h => q1 (by rw [h]))]
   refine wkc (jn @dI.eq_1 (jn @dL.eq_1 (jn @Y.cells_eq (jn @x1 (jn @x2 (jn @e1 (jn @e2 (jn @int_beq (jn @int_bne (jn @tx_beq (jn @tx_bne (jn @q0' @q1')))))))))))) ?_
   show retQ _ _ _ _ _
   exact ⟨.inr rfl, _, _, rfl, rfl⟩
  have q1' := eq_true q1
  by_cases q2 : x.t = y.t
  case neg =>
   have q2' := eq_false q2
   rw [eqB_false (ne_at hx hy fun h => q2 (by rw [h]))]
   refine wkc (jn @dI.eq_1 (jn @dL.eq_1 (jn @Y.cells_eq (jn @x1 (jn @x2 (jn @e1 (jn @e2 (jn @int_beq (jn @int_bne (jn @tx_beq (jn @tx_bne (jn @q0' (jn @q1' @q2'))))))))))))) ?_
   show retQ _ _ _ _ _
   exact ⟨.inr rfl, _, _, rfl, rfl⟩
  have q2' := eq_true q2
  by_cases q3 : x.r = y.r
  case neg =>
   rw [eqB_false q3] at h3
   rw [eqB_false (ne_at hx hy fun h => q3 (by rw [h]))]
   refine wkc (jn @dI.eq_1 (jn @dL.eq_1 (jn @Y.cells_eq (jn @x1 (jn @x2 (jn @e1 (jn @e2 (jn @int_beq (jn @int_bne (jn @tx_beq (jn @tx_bne (jn @q0' (jn @q1' (jn @q2' @h3)))))))))))))) ?_
   show retQ _ _ _ _ _
   exact ⟨.inr rfl, _, _, rfl, rfl⟩
  rw [eqB_true q3] at h3
  by_cases q4 : x.outs = y.outs
  case neg =>
   rw [eqB_false q4] at h4
   rw [eqB_false (ne_at hx hy fun h => q4 (by rw [h]))]
   refine wkc (jn @dI.eq_1 (jn @dL.eq_1 (jn @Y.cells_eq (jn @x1 (jn @x2 (jn @e1 (jn @e2 (jn @int_beq (jn @int_bne (jn @tx_beq (jn @tx_bne (jn @q0' (jn @q1' (jn @q2' (jn @h3 @h4))))))))))))))) ?_
   show retQ _ _ _ _ _
   exact ⟨.inr rfl, _, _, rfl, rfl⟩
  rw [eqB_true q4] at h4
  by_cases q5 : x.args = y.args
  case neg =>
   rw [eqB_false (fun h => q5 (by have := congrArg X.args h; exact this))] at h5
   rw [eqB_false (ne_at hx hy fun h => q5 (by rw [h]))]
   refine wkc (jn @dI.eq_1 (jn @dL.eq_1 (jn @Y.cells_eq (jn @x1 (jn @x2 (jn @e1 (jn @e2 (jn @int_beq (jn @int_bne (jn @tx_beq (jn @tx_bne (jn @q0' (jn @q1' (jn @q2' (jn @h3 (jn @h4 @h5)))))))))))))))) ?_
   show retQ _ _ _ _ _
   exact ⟨.inr rfl, _, _, rfl, rfl⟩
  rw [eqB_true (by rw [q5])] at h5
  by_cases q6 : x.brs.length = y.brs.length
  case neg =>
   have q6' : ((x.brs.length : Int) = y.brs.length) = False := eq_false (by omega)
   rw [eqB_false (ne_at hx hy fun h => q6 (by rw [h]))]
   refine wkc (jn @dI.eq_1 (jn @dL.eq_1 (jn @Y.cells_eq (jn @x1 (jn @x2 (jn @e1 (jn @e2 (jn @int_beq (jn @int_bne (jn @tx_beq (jn @tx_bne (jn @q0' (jn @q1' (jn @q2' (jn @h3 (jn @h4 (jn @h5 (jn @q6 @q6')))))))))))))))))) ?_
   show retQ _ _ _ _ _
   exact ⟨.inr rfl, _, _, rfl, rfl⟩
  have q6' : ((x.brs.length : Int) = y.brs.length) = True := eq_true (by omega)
  refine wkc (jn @dI.eq_1 (jn @dL.eq_1 (jn @Y.cells_eq (jn @x1 (jn @x2 (jn @e1 (jn @e2 (jn @int_beq (jn @int_bne (jn @tx_beq (jn @tx_bne (jn @q0' (jn @q1' (jn @q2' (jn @h3 (jn @h4 (jn @h5 (jn @q6 @q6')))))))))))))))))) ?_
  apply WP.loop' (I := fun D s => ∃ i : Nat, i + D = x.brs.length ∧ x.brs.take i = y.brs.take i ∧ ∃ ga gb c, s = ⟨[(0, dL (encY a)), (1, dL (encY b)), (5, dI j), (6, .ptr 0 ga 0), (7, .ptr 1 gb 0), (8, dI i)], [(0, ⟨ga, false, x.cells.map .d⟩), (1, ⟨gb, false, y.cells.map .d⟩)], 2, c, 0, []⟩) (d := x.brs.length)
  ·exact ⟨0, by simp, by simp, _, _, _, st_eq (by simp [dL, dI] <;> exact ⟨rfl, rfl⟩) (by simp [Y.cells_eq])⟩
  rintro D2 _ ⟨i, hi, hei, ga, gb, c, rfl⟩
  refine wk (jn @dI.eq_1 (jn @dL.eq_1 @Y.cells_eq)) ?_
  show WP _ _ _ _ _ _
  refine WP.cond _ rfl (fun hb => ?_) (fun hb => ?_)
  ·simp at hb
   have hc' : i < x.brs.length := by omega
   have hc2 : i < y.brs.length := by omega
   obtain ⟨u, hu, hum, y1⟩ := at_lt hc'
   obtain ⟨w, hv, hvm, y2⟩ := at_lt hc2
   have f1 := encB_at hu
   have f2 := encB_at hv
   have hw2 := w_succ hc' (by omega)
   have t1 := take_snoc hu
   have t2 := take_snoc hv
   have hd := ih u w (by have := mem_szB hum; omega) (by have := mem_szB hum; unfold MX; omega) (by have := mem_szB hvm; unfold MX; omega)
   simp only [dL, dB] at hd
   by_cases q : u = w
   ·rw [eqB_true q] at hd
    refine wkc (jn @dI.eq_1 (jn @dL.eq_1 (jn @Y.cells_eq (jn @y1 (jn @y2 (jn @f1 (jn @f2 @hd))))))) ?_
    refine loop_next (by simp [hw2]; exact Is.rfl) ?_
    exact ⟨D2 - 1, by omega, i + 1, by omega, by rw [t1, t2, hei, q], ga, gb, _, st_eq (by simp [dI, dL]) (by simp [Y.cells_eq])⟩
   ·rw [eqB_false q] at hd
    rw [eqB_false (ne_at hx hy fun h => ne_at hu hv q (by rw [h]))]
    refine wkc (jn @dI.eq_1 (jn @dL.eq_1 (jn @Y.cells_eq (jn @y1 (jn @y2 (jn @f1 (jn @f2 @hd))))))) ?_
    show retQ _ _ _ _ _
    exact ⟨.inr rfl, _, _, rfl, rfl⟩
  ·simp at hb
   have hie : i = x.brs.length := by omega
   rw [hie, eq_of_take q6] at hei
   have hxy : x = y := Y.ext q0 q1 q2 q3 q4 q5 hei
   refine wk (jn @dI.eq_1 @dL.eq_1) ?_
   refine loop_next (by simp [hw]; exact Is.rfl) ?_
   exact ⟨D - 1, by omega, j + 1, by omega, by rw [s1, s2, he, hxy], SE.mk (by simp [dI, dL, hw, hl]) rfl⟩
 ·simp at hb
  have hje : j = a.length := by omega
  rw [hje, eq_of_take hl] at he
  rw [eqB_true he]
  refine wk True.intro ?_
  show retQ _ _ _ _ _
  exact ⟨.inr rfl, _, _, rfl, rfl⟩

theorem kf8 (r : Nat) : Ob.keep 8 r = Ob.k8 r := by kernel_rfl
attribute [local simp] kf8 Ob.k8
set_option maxHeartbeats 4000000 in
theorem rq50_den (x y : Cl) (ha : x.sz ≤ MX) (hb0 : y.sz ≤ MX) : den Tryz.prog Ob.cfg 8 [aG x.cells, aG y.cells] = some (dB (eqB x y)) := by
 unfold Cl.sz MX at ha hb0
 have k1 := len_szM x.mems
 have k2 := len_szM y.mems
 have k3 := len_szJ x.ins
 have k4 := len_szJ y.ins
 have h1 := rq96_den x.inn y.inn (by unfold MX; omega) (by unfold MX; omega)
 have h2 := rq96_den x.out y.out (by unfold MX; omega) (by unfold MX; omega)
 have h3 := rq96_den x.loc y.loc (by unfold MX; omega) (by unfold MX; omega)
 have h6 := rq100_den (szY x.step + 1) x.step y.step (by omega) (by unfold MX; omega) (by unfold MX; omega)
 simp only [aG, X.cells_eq, Y.cells_eq, Dc.cells, En.cells, Cl.cells, Mm.cells, Ii.cells, List.map_cons, List.map_nil, dB, dL] at h1 h2 h3 h6
 refine den_wp Tryz.func8 rfl (by kernel_rfl) rfl rfl ?_
 by_cases q0 : x.nm = y.nm
 case neg =>
  have q0' := eq_false q0
  rw [eqB_false (fun h => q0 (by rw [h]))]
  refine wkc (jn @dI.eq_1 (jn @dL.eq_1 (jn @aG.eq_1 (jn @Cl.cells.eq_1 (jn @int_beq (jn @int_bne (jn @tx_beq (jn @tx_bne @q0')))))))) ?_
  show retQ _ _ _ _ _
  exact ⟨.inr rfl, _, _, rfl, rfl⟩
 have q0' := eq_true q0
 by_cases q1 : x.inn = y.inn
 case neg =>
  rw [eqB_false q1] at h1
  rw [eqB_false (fun h => q1 (by rw [h]))]
  refine wkc (jn @dI.eq_1 (jn @dL.eq_1 (jn @aG.eq_1 (jn @Cl.cells.eq_1 (jn @int_beq (jn @int_bne (jn @tx_beq (jn @tx_bne (jn @q0' @h1))))))))) ?_
  show retQ _ _ _ _ _
  exact ⟨.inr rfl, _, _, rfl, rfl⟩
 rw [eqB_true q1] at h1
 by_cases q2 : x.out = y.out
 case neg =>
  rw [eqB_false q2] at h2
  rw [eqB_false (fun h => q2 (by rw [h]))]
  refine wkc (jn @dI.eq_1 (jn @dL.eq_1 (jn @aG.eq_1 (jn @Cl.cells.eq_1 (jn @int_beq (jn @int_bne (jn @tx_beq (jn @tx_bne (jn @q0' (jn @h1 @h2)))))))))) ?_
  show retQ _ _ _ _ _
  exact ⟨.inr rfl, _, _, rfl, rfl⟩
 rw [eqB_true q2] at h2
 by_cases q3 : x.loc = y.loc
 case neg =>
  rw [eqB_false q3] at h3
  rw [eqB_false (fun h => q3 (by rw [h]))]
  refine wkc (jn @dI.eq_1 (jn @dL.eq_1 (jn @aG.eq_1 (jn @Cl.cells.eq_1 (jn @int_beq (jn @int_bne (jn @tx_beq (jn @tx_bne (jn @q0' (jn @h1 (jn @h2 @h3))))))))))) ?_
  show retQ _ _ _ _ _
  exact ⟨.inr rfl, _, _, rfl, rfl⟩
 rw [eqB_true q3] at h3
 by_cases q4 : x.mems.length = y.mems.length
 case neg =>
  have q4' : ((x.mems.length : Int) = y.mems.length) = False := eq_false (by omega)
  rw [eqB_false (fun h => q4 (by rw [h]))]
  refine wkc (jn @dI.eq_1 (jn @dL.eq_1 (jn @aG.eq_1 (jn @Cl.cells.eq_1 (jn @int_beq (jn @int_bne (jn @tx_beq (jn @tx_bne (jn @q0' (jn @h1 (jn @h2 (jn @h3 (jn @q4 @q4'))))))))))))) ?_
  show retQ _ _ _ _ _
  exact ⟨.inr rfl, _, _, rfl, rfl⟩
 have q4' : ((x.mems.length : Int) = y.mems.length) = True := eq_true (by omega)
 by_cases q5 : x.ins.length = y.ins.length
 case neg =>
  have q5' : ((x.ins.length : Int) = y.ins.length) = False := eq_false (by omega)
  rw [eqB_false (fun h => q5 (by rw [h]))]
  refine wkc (jn @dI.eq_1 (jn @dL.eq_1 (jn @aG.eq_1 (jn @Cl.cells.eq_1 (jn @int_beq (jn @int_bne (jn @tx_beq (jn @tx_bne (jn @q0' (jn @h1 (jn @h2 (jn @h3 (jn @q4 (jn @q4' (jn @q5 @q5'))))))))))))))) ?_
  show retQ _ _ _ _ _
  exact ⟨.inr rfl, _, _, rfl, rfl⟩
 have q5' : ((x.ins.length : Int) = y.ins.length) = True := eq_true (by omega)
 refine wkc (jn @dI.eq_1 (jn @dL.eq_1 (jn @aG.eq_1 (jn @Cl.cells.eq_1 (jn @int_beq (jn @int_bne (jn @tx_beq (jn @tx_bne (jn @q0' (jn @h1 (jn @h2 (jn @h3 (jn @q4 (jn @q4' (jn @q5 @q5'))))))))))))))) ?_
 have p0 := q0
 have p1 := q1
 have p2 := q2
 have p3 := q3
 have p4 := q4
 have p5 := q5
 apply WP.loop' (I := fun D s => ∃ j : Nat, j + D = x.mems.length ∧ x.mems.take j = y.mems.take j ∧ ∃ c, s = ⟨[(2, .ptr 0 0 0), (3, .ptr 1 1 0), (5, dI j)], [(0, ⟨0, false, x.cells.map .d⟩), (1, ⟨1, false, y.cells.map .d⟩)], 2, c, 0, []⟩) (d := x.mems.length)
 ·exact ⟨0, by simp, by simp, _, st_eq (by simp [dI]) (by simp [Cl.cells])⟩
 rintro D _ ⟨j, hj, he, cc, rfl⟩
 refine wk (jn @dI.eq_1 (jn @dL.eq_1 @Cl.cells.eq_1)) ?_
 show WP _ _ _ _ _ _
 refine WP.cond _ rfl (fun hb => ?_) (fun hb => ?_)
 ·simp at hb
  have hb' : j < x.mems.length := by omega
  have hb2 : j < y.mems.length := by omega
  obtain ⟨u, hu, hum, x1⟩ := at_lt hb'
  obtain ⟨w, hv, hvm, x2⟩ := at_lt hb2
  have e1 := encM_at hu
  have e2 := encM_at hv
  have hw := w_succ hb' (by omega)
  have s1 := take_snoc hu
  have s2 := take_snoc hv
  by_cases q0 : u.nm = w.nm
  case neg =>
   have q0' := eq_false q0
   rw [eqB_false (fun hh => absurd (congrArg Cl.mems hh) (ne_at hu hv fun h => q0 (by rw [h])))]
   refine wkc (jn @dI.eq_1 (jn @dL.eq_1 (jn @Cl.cells.eq_1 (jn @Mm.cells.eq_1 (jn @x1 (jn @x2 (jn @e1 (jn @e2 (jn @int_beq (jn @int_bne (jn @tx_beq (jn @tx_bne @q0')))))))))))) ?_
   show retQ _ _ _ _ _
   exact ⟨.inr rfl, _, _, rfl, rfl⟩
  have q0' := eq_true q0
  by_cases q1 : u.t = w.t
  case neg =>
   have q1' := eq_false q1
   rw [eqB_false (fun hh => absurd (congrArg Cl.mems hh) (ne_at hu hv fun h => q1 (by rw [h])))]
   refine wkc (jn @dI.eq_1 (jn @dL.eq_1 (jn @Cl.cells.eq_1 (jn @Mm.cells.eq_1 (jn @x1 (jn @x2 (jn @e1 (jn @e2 (jn @int_beq (jn @int_bne (jn @tx_beq (jn @tx_bne (jn @q0' @q1'))))))))))))) ?_
   show retQ _ _ _ _ _
   exact ⟨.inr rfl, _, _, rfl, rfl⟩
  have q1' := eq_true q1
  by_cases q2 : u.ini = w.ini
  case neg =>
   have q2' := eq_false q2
   rw [eqB_false (fun hh => absurd (congrArg Cl.mems hh) (ne_at hu hv fun h => q2 (by rw [h])))]
   refine wkc (jn @dI.eq_1 (jn @dL.eq_1 (jn @Cl.cells.eq_1 (jn @Mm.cells.eq_1 (jn @x1 (jn @x2 (jn @e1 (jn @e2 (jn @int_beq (jn @int_bne (jn @tx_beq (jn @tx_bne (jn @q0' (jn @q1' @q2')))))))))))))) ?_
   show retQ _ _ _ _ _
   exact ⟨.inr rfl, _, _, rfl, rfl⟩
  have q2' := eq_true q2
  have hxy : u = w := Mm.ext' q0 q1 q2
  refine wkc (jn @dI.eq_1 (jn @dL.eq_1 (jn @Cl.cells.eq_1 (jn @Mm.cells.eq_1 (jn @x1 (jn @x2 (jn @e1 (jn @e2 (jn @int_beq (jn @int_bne (jn @tx_beq (jn @tx_bne (jn @q0' (jn @q1' @q2')))))))))))))) ?_
  refine loop_next (by simp [hw]; exact Is.rfl) ?_
  exact ⟨D - 1, by omega, j + 1, by omega, by rw [s1, s2, he, hxy], _, st_eq (by simp [dI]) (by simp [Cl.cells])⟩
 ·simp at hb
  have hje : j = x.mems.length := by omega
  rw [hje, eq_of_take p4] at he
  have hme := he
  refine wkc (jn @dI.eq_1 (jn @dL.eq_1 @Cl.cells.eq_1)) ?_
  apply WP.loop' (I := fun D s => ∃ j : Nat, j + D = x.ins.length ∧ x.ins.take j = y.ins.take j ∧ ∃ c, s = ⟨[(2, .ptr 0 0 0), (3, .ptr 1 1 0), (6, dI j)], [(0, ⟨0, false, x.cells.map .d⟩), (1, ⟨1, false, y.cells.map .d⟩)], 2, c, 0, []⟩) (d := x.ins.length)
  ·exact ⟨0, by simp, by simp, _, st_eq (by simp [dI]) (by simp [Cl.cells])⟩
  rintro D _ ⟨j, hj, he, cc, rfl⟩
  refine wk (jn @dI.eq_1 (jn @dL.eq_1 @Cl.cells.eq_1)) ?_
  show WP _ _ _ _ _ _
  refine WP.cond _ rfl (fun hb => ?_) (fun hb => ?_)
  ·simp at hb
   have hb' : j < x.ins.length := by omega
   have hb2 : j < y.ins.length := by omega
   obtain ⟨u, hu, hum, x1⟩ := at_lt hb'
   obtain ⟨w, hv, hvm, x2⟩ := at_lt hb2
   have e1 := encJ_at hu
   have e2 := encJ_at hv
   have hw := w_succ hb' (by omega)
   have s1 := take_snoc hu
   have s2 := take_snoc hv
   by_cases q0 : u.nm = w.nm
   case neg =>
    have q0' := eq_false q0
    rw [eqB_false (fun hh => absurd (congrArg Cl.ins hh) (ne_at hu hv fun h => q0 (by rw [h])))]
    refine wkc (jn @dI.eq_1 (jn @dL.eq_1 (jn @Cl.cells.eq_1 (jn @Ii.cells.eq_1 (jn @x1 (jn @x2 (jn @e1 (jn @e2 (jn @int_beq (jn @int_bne (jn @tx_beq (jn @tx_bne @q0')))))))))))) ?_
    show retQ _ _ _ _ _
    exact ⟨.inr rfl, _, _, rfl, rfl⟩
   have q0' := eq_true q0
   by_cases q1 : u.cl = w.cl
   case neg =>
    have q1' := eq_false q1
    rw [eqB_false (fun hh => absurd (congrArg Cl.ins hh) (ne_at hu hv fun h => q1 (by rw [h])))]
    refine wkc (jn @dI.eq_1 (jn @dL.eq_1 (jn @Cl.cells.eq_1 (jn @Ii.cells.eq_1 (jn @x1 (jn @x2 (jn @e1 (jn @e2 (jn @int_beq (jn @int_bne (jn @tx_beq (jn @tx_bne (jn @q0' @q1'))))))))))))) ?_
    show retQ _ _ _ _ _
    exact ⟨.inr rfl, _, _, rfl, rfl⟩
   have q1' := eq_true q1
   have hxy : u = w := Ii.ext' q0 q1
   refine wkc (jn @dI.eq_1 (jn @dL.eq_1 (jn @Cl.cells.eq_1 (jn @Ii.cells.eq_1 (jn @x1 (jn @x2 (jn @e1 (jn @e2 (jn @int_beq (jn @int_bne (jn @tx_beq (jn @tx_bne (jn @q0' @q1'))))))))))))) ?_
   refine loop_next (by simp [hw]; exact Is.rfl) ?_
   exact ⟨D - 1, by omega, j + 1, by omega, by rw [s1, s2, he, hxy], _, st_eq (by simp [dI]) (by simp [Cl.cells])⟩
  ·simp at hb
   have hje : j = x.ins.length := by omega
   rw [hje, eq_of_take p5] at he
   by_cases q6 : x.step = y.step
   ·rw [eqB_true q6] at h6
    rw [eqB_true (Cl.ext' p0 p1 p2 p3 hme he q6)]
    refine wkc (jn @dI.eq_1 (jn @dL.eq_1 (jn @Cl.cells.eq_1 @h6))) ?_
    show retQ _ _ _ _ _
    exact ⟨.inr rfl, _, _, rfl, rfl⟩
   ·rw [eqB_false q6] at h6
    rw [eqB_false (fun h => q6 (by rw [h]))]
    refine wkc (jn @dI.eq_1 (jn @dL.eq_1 (jn @Cl.cells.eq_1 @h6))) ?_
    show retQ _ _ _ _ _
    exact ⟨.inr rfl, _, _, rfl, rfl⟩

structure Wl where
 en : List En


end Go.Ac
end

section
set_option maxRecDepth 4000
namespace Go.Ac
open Go.Proofs
theorem den_ex {α : Type} {F : α → V} {f : FuncId} {fn : Func} {body : Code} {vs : List V} (hf : Tryz.prog.funcs[f]? = some fn) (hb : fn.body = some body) (hok : (Nat.ble vs.length fn.ntmps && codeOK fn.ntmps body) = true) (hthr : Ob.cfg.thr f = false) (hF : ∀ b, (closeT noLook (F b)).isSome = true)
  (h : WP Tryz.prog Ob.cfg f body ⟨envOf 0 vs, [], 0, 0, 0, []⟩ (fun e t => ∃ b, retQ Tryz.prog fn (F b) e t)) : ∃ b, den Tryz.prog Ob.cfg f vs = some (F b) := by
 obtain ⟨e, t, hr, b, hq⟩ := h
 exact ⟨b, den_wp hf hb hok hthr (hF b) ⟨e, t, hr, hq⟩⟩

theorem kf9 (r : Nat) : Ob.keep 9 r = Ob.k9 r := by kernel_rfl
attribute [local simp] kf9 Ob.k9
end Go.Ac
end

section
set_option maxRecDepth 4000
namespace Go.Ac
open Go.Proofs

theorem nble_d (a b : Nat) : Nat.ble a b = decide (a ≤ b) := by
 by_cases h : a ≤ b
 ·rw [Nat.ble_eq_true_of_le h]; simp [h]
 ·cases hb : Nat.ble a b with
  | false => simp [h]
  | true => exact absurd (Nat.le_of_ble_eq_true hb) h
theorem toD_dep (look : Look) (id g off len sz : Nat) (cap : Option Nat) : toD look depthD (.osl id g off len sz cap) = match live look id g with
  | some o => match Nat.ble (off + len * sz) o.cells.length, toDs (toD look 4611686018427387903) ((o.cells.drop off).take (len * sz)) with
   | true, some (ds, r) => some (.slice (chunk sz len ds), id :: r)
   | _, _ => none
  | none => none := Eq.trans rfl rfl
theorem toD_d (look : Look) (f : Nat) (x : D) : toD look f (.d x) = some (x, []) := by cases f <;> rfl
theorem toD_full (look : Look) (f : Nat) (x : List (List D)) : toD look f (.full x) = some (.slice x, []) := by cases f <;> rfl

end Go.Ac
end

section
set_option maxRecDepth 4000
namespace Go.Ac
open Go.Proofs Go.ChangeShapes Go.WideShapes Go.RowKit
open Go.Proofs.YtmjkclonkhempaaGreatDoor.Rows (uptoBulk uptoBulkAll)

abbrev noB : Nat → Prop := fun _ => False

def RDs (w : World) (ds : List D) (cs : List Value) : Prop := ds.length = cs.length ∧ ∀ (j : Nat) d v, ds[j]? = some d → cs[j]? = some v → RD w noB d v

theorem bulk_pos {H : Type} (d : DataW H) : 1 ≤ uptoBulk d := by
 cases d with
 | lit l => cases l <;> simp [uptoBulk]
 | nil => simp [uptoBulk]
 | ptr d => simp [uptoBulk]
 | slice elems spare => simp [uptoBulk]
 | agg parts => simp [uptoBulk]
 | iface t d => simp [uptoBulk]
 | map entries => simp [uptoBulk]
 | held h => simp [uptoBulk]

section
variable {H : Type} {enc : TypeId × Value → H} {w : World}

theorem choose_list {α : Type} [Inhabited α] (p : Nat → α → Prop) (n : Nat) (h : ∀ i, i < n → ∃ x, p i x) : ∃ l : List α, l.length = n ∧ ∀ i x, l[i]? = some x → p i x := by
 have : ∀ i, ∃ x, i < n → p i x := fun i => by
  by_cases hi : i < n
  ·obtain ⟨x, hx⟩ := h i hi; exact ⟨x, fun _ => hx⟩
  ·exact ⟨default, fun h => absurd h hi⟩
 obtain ⟨f, hf⟩ := Classical.axiomOfChoice this
 refine ⟨(List.range n).map f, by simp, fun i x hi => ?_⟩
 rw [List.getElem?_map] at hi
 by_cases hin : i < n
 ·rw [List.getElem?_range hin] at hi
  simp at hi
  subst hi
  exact hf i hin
 ·rw [List.getElem?_eq_none (by simp; omega)] at hi
  simp at hi

theorem sum_le {α : Type} (sz : α → Nat) (K : Nat) : ∀ (l : List α) (es : List (DataW H × List MemPlace)), l.length = es.length → (∀ (i : Nat) x e, l[i]? = some x → es[i]? = some e → sz x ≤ K * uptoBulk e.1) → (l.map sz).sum ≤ K * uptoBulkAll (es.map (·.1))
 | [], es, h, _ => by simp
 | x :: l, [], h, _ => by simp at h
 | x :: l, e :: es, h, hi => by
  have h1 := hi 0 x e rfl rfl
  have h2 := sum_le sz K l es (by simpa using h) (fun i x e hx he => hi (i + 1) x e (by simpa using hx) (by simpa using he))
  simp only [List.map_cons, List.sum_cons, uptoBulkAll, Nat.mul_add]
  omega

theorem open_list {α : Type} [Inhabited α] (en : α → List D) (sz : α → Nat) (Pr : α → Prop) (K n : Nat) {t e fuel : Nat} {cs : List Value} {x : DataW H × List MemPlace} (ht : Tryz.prog.underlying t = some (.slice e)) (hc : Tryz.prog.cellsOf e = n) (hn : 0 < n) (hlen : ∀ y, (en y).length = n)
  (hel : ∀ fuel', fuel' < fuel → ∀ cs x, DataW.trod enc Tryz.prog w 0 (fun _ => true) true fuel' e cs = some x → ∃ y, RDs w (en y) cs ∧ sz y ≤ K * uptoBulk x.1 ∧ Pr y)
  (h : DataW.trod enc Tryz.prog w 0 (fun _ => true) true fuel t cs = some x) : ∃ (l : List α) (v : Value), cs = [v] ∧ RD w noB (.slice (l.map en)) v ∧ (l.map sz).sum ≤ K * (uptoBulk x.1 - 1) ∧ (∀ y, y ∈ l → Pr y) ∧ l.length ≤ uptoBulk x.1 - 1 := by
 rcases DataW.trod_slice ht h with ⟨rfl, rfl⟩ | ⟨a, len, cap, elems, rest, m, rfl, rfl, rfl, hb, hl, hm, hlen2, hel2, _, _⟩
 ·exact ⟨[], _, rfl, .empty none 0 (Nat.zero_le _), by simp, fun y hy => (by cases hy), Nat.zero_le _⟩
 ·rw [hc] at hel2
  have key : ∀ i, i < len → ∃ y : α, ∃ cs e, w.cells? 0 (a.add (i * n)) n = some cs ∧ elems[i]? = some e ∧ RDs w (en y) cs ∧ sz y ≤ K * uptoBulk e.1 ∧ Pr y := fun i hi => by
   have h1 := hel2 i hi
   rw [List.getElem?_eq_getElem (by omega)] at h1
   obtain ⟨cs, h2, h3⟩ := Option.bind_eq_some_iff.1 h1
   obtain ⟨y, h4, h5, h6⟩ := hel m (by omega) _ _ h3
   exact ⟨y, cs, _, h2, List.getElem?_eq_getElem (by omega), h4, h5, h6⟩
  obtain ⟨l, hll, hl2⟩ := choose_list _ len key
  refine ⟨l, _, rfl, ?_, ?_, ?_, ?_⟩
  ·by_cases h0 : len = 0
   ·subst h0
    have : l = [] := List.length_eq_zero_iff.1 hll
    subst this
    exact .empty _ _ hm
   ·have hspot : a.spot = none := by
     obtain ⟨y, cs, e, h1, _⟩ := key 0 (by omega)
     obtain ⟨_, h2, h3⟩ := World.cells?_some h1
     have h4 := h3 0 hn
     rw [List.getElem?_eq_getElem (by omega)] at h4
     simp only [Nat.zero_mul, Addr.add, if_pos] at h4
     unfold World.cell? at h4
     split at h4
     ·split at h4
      ·cases h4
      ·rename_i hs; simpa using hs
     ·cases h4
    obtain ⟨b, off, sp⟩ := a
    simp only at hspot
    subst hspot
    have hadd : ∀ o k, (Addr.mk b o none).add k = ⟨b, o + k, none⟩ := fun o k => by
     unfold Addr.add
     split
     ·rename_i hk; subst hk; rfl
     ·rfl
    have hcell : ∀ (i j : Nat) (r : List D) (d : D), (l.map en)[i]? = some r → r[j]? = some d → ∃ v, w.cell? ⟨b, off + (i * n + j), none⟩ = some v ∧ RD w noB d v := fun i j r d hr hd => by
     rw [List.getElem?_map, Option.map_eq_some_iff] at hr
     obtain ⟨y, hy, rfl⟩ := hr
     obtain ⟨cs, e, h1, _, h3, _, _⟩ := hl2 i y hy
     obtain ⟨_, h4, h5⟩ := World.cells?_some h1
     have hj : j < n := by
      have := (List.getElem?_eq_some_iff.1 hd).1
      rwa [hlen] at this
     have h6 := h5 j hj
     rw [hadd, hadd, List.getElem?_eq_getElem (by omega)] at h6
     rw [Nat.add_assoc] at h6
     have h7 : j < cs.length := by omega
     exact ⟨cs[j], h6, h3.2 j d _ hd (List.getElem?_eq_getElem h7)⟩
    rw [show len = (l.map en).length by simp [hll]]
    have hx : ∀ q : Nat × Nat, ∃ v, ∀ r d, (l.map en)[q.1]? = some r → r[q.2]? = some d → w.cell? ⟨b, off + (q.1 * n + q.2), none⟩ = some v ∧ RD w noB d v := fun q => by
     by_cases hq : ∃ r d, (l.map en)[q.1]? = some r ∧ r[q.2]? = some d
     ·obtain ⟨r, d, h1, h2⟩ := hq
      obtain ⟨v, h3, h4⟩ := hcell _ _ r d h1 h2
      refine ⟨v, fun r' d' h1' h2' => ?_⟩
      rw [h1] at h1'
      obtain rfl := Option.some.inj h1'
      rw [h2] at h2'
      obtain rfl := Option.some.inj h2'
      exact ⟨h3, h4⟩
     ·exact ⟨default, fun r d h1 h2 => absurd ⟨r, d, h1, h2⟩ hq⟩
    obtain ⟨f, hf⟩ := Classical.axiomOfChoice hx
    refine .slice (l.map en) b off cap n (by simp [hll]; exact hl) hm (fun i r hr => ?_) (fun i j => f (i, j)) (fun i j r d hr hd => ⟨fun h => h, (hf (i, j) r d hr hd).1⟩) (fun i j r d hr hd => (hf (i, j) r d hr hd).2)
    rw [List.getElem?_map, Option.map_eq_some_iff] at hr
    obtain ⟨y, _, rfl⟩ := hr
    exact hlen y
  ·have := sum_le sz K l elems (by omega) (fun i x e hx he => by
    obtain ⟨cs, e', h1, h2, h3, h4, _⟩ := hl2 i x hx
    rw [h2] at he
    obtain rfl := Option.some.inj he
    exact h4)
   refine Nat.le_trans this (Nat.mul_le_mul_left K ?_)
   simp only [uptoBulk]
   omega
  ·intro y hy
   obtain ⟨i, hi⟩ := List.mem_iff_getElem?.1 hy
   obtain ⟨_, _, _, _, _, _, h⟩ := hl2 i y hi
   exact h
  ·have h1 : ∀ es : List (DataW H × List MemPlace), es.length ≤ uptoBulkAll (es.map (·.1)) := fun es => by
    induction es with
    | nil => simp [uptoBulkAll]
    | cons a r ih => have := bulk_pos a.1; simp only [List.map_cons, uptoBulkAll, List.length_cons]; omega
   have := h1 elems
   simp only [uptoBulk]
   omega


theorem cz3 : Tryz.prog.cellsOf 3 = 1 := by kernel_rfl
theorem cz9 : Tryz.prog.cellsOf 9 = 1 := by kernel_rfl
theorem cz22 : Tryz.prog.cellsOf 22 = 1 := by kernel_rfl
theorem cz38 : Tryz.prog.cellsOf 38 = 1 := by kernel_rfl
theorem cz40 : Tryz.prog.cellsOf 40 = 3 := by kernel_rfl
theorem cz42 : Tryz.prog.cellsOf 42 = 1 := by kernel_rfl
theorem cz44 : Tryz.prog.cellsOf 44 = 6 := by kernel_rfl
theorem cz41 : Tryz.prog.cellsOf 41 = 1 := by kernel_rfl
theorem cz85 : Tryz.prog.cellsOf 85 = 3 := by kernel_rfl
instance : Inhabited X := ⟨.mk 0 0 0 0 [] []⟩
instance : Inhabited Y := ⟨.mk 0 [] 0 (.mk 0 0 0 0 [] []) [] [] []⟩
instance : Inhabited On := ⟨⟨[], 0, 0⟩⟩
instance : Inhabited Dc := ⟨⟨[], 0, []⟩⟩
instance : Inhabited En := ⟨⟨[], []⟩⟩
instance : Inhabited Mm := ⟨⟨[], 0, 0⟩⟩
instance : Inhabited Ii := ⟨⟨[], []⟩⟩
instance : Inhabited Cl := ⟨⟨[], [], [], [], [], [], []⟩⟩
theorem X.cells_len (x : X) : x.cells.length = 6 := by rw [X.cells_eq]; rfl
theorem Y.cells_len (y : Y) : y.cells.length = 12 := by rw [Y.cells_eq]; rfl
theorem RDs.one {d : D} {v : Value} (h : RD w noB d v) : RDs w [d] [v] := ⟨rfl, fun j d' v' h1 h2 => by
 cases j with
 | zero => simp at h1 h2; subst h1; subst h2; exact h
 | succ j => simp at h1⟩
theorem RDs.app {d1 d2 : List D} {v1 v2 : List Value} (h1 : RDs w d1 v1) (h2 : RDs w d2 v2) : RDs w (d1 ++ d2) (v1 ++ v2) := by
 refine ⟨by simp [h1.1, h2.1], fun j d v hd hv => ?_⟩
 by_cases hj : j < d1.length
 ·rw [List.getElem?_append_left hj] at hd
  rw [List.getElem?_append_left (by rw [← h1.1]; exact hj)] at hv
  exact h1.2 j d v hd hv
 ·rw [List.getElem?_append_right (by omega)] at hd
  rw [List.getElem?_append_right (by rw [← h1.1]; omega), ← h1.1] at hv
  exact h2.2 _ d v hd hv


def I64 (n : Int) : Prop := -9223372036854775808 ≤ n ∧ n ≤ 9223372036854775807
theorem i64_of {n : Int} (h : (Lit.int .i64 n).wf = true) : I64 n := by
 simp [Lit.wf, IntKind.min, IntKind.max, IntKind.signed, IntKind.bits] at h
 unfold I64; omega

/-! Numbers are of sixty-four bits. -/
mutual
def X.ok : X → Prop
 | .mk k o t v _ args => I64 k ∧ I64 o ∧ I64 t ∧ I64 v ∧ okX args
def okX : List X → Prop
 | [] => True
 | x :: r => x.ok ∧ okX r
end
mutual
def Y.ok : Y → Prop
 | .mk k _ t r _ args brs => I64 k ∧ I64 t ∧ r.ok ∧ okX args ∧ okB brs
def okY : List Y → Prop
 | [] => True
 | x :: r => x.ok ∧ okY r
def okB : List (List Y) → Prop
 | [] => True
 | x :: r => okY x ∧ okB r
end
theorem okX_iff : ∀ l : List X, okX l ↔ ∀ x, x ∈ l → x.ok
 | [] => by simp [okX]
 | x :: r => by simp [okX, okX_iff r]
def On.ok (x : On) : Prop := I64 x.t ∧ I64 x.tag
def Dc.ok (x : Dc) : Prop := I64 x.t ∧ ∀ c, c ∈ x.ck → c.ok
def Mm.ok (x : Mm) : Prop := I64 x.t ∧ I64 x.ini
structure Cl.ok (x : Cl) : Prop where
 inn : ∀ d, d ∈ x.inn → d.ok
 out : ∀ d, d ∈ x.out → d.ok
 loc : ∀ d, d ∈ x.loc → d.ok
 mems : ∀ d, d ∈ x.mems → d.ok
 step : okY x.step
def Oc.ok (x : Oc) : Prop := ∀ c, c ∈ x.cl → c.ok

theorem openS {f : Nat} {cs : List Value} {x : DataW H × List MemPlace} (h : DataW.trod enc Tryz.prog w 0 (fun _ => true) true f 41 cs = some x) : ∃ (l : List Tx) (v : Value), cs = [v] ∧ RD w noB (.slice (encS l)) v ∧ szS l ≤ 2 * (uptoBulk x.1 - 1) := by
 obtain ⟨l, v, h1, h2, h3, _, _⟩ := open_list (fun s : Tx => [D.str s]) szT (fun _ => True) 2 1 Tryz.underlying41 cz9 (by omega) (fun _ => rfl) (fun f' hf cs x hx => by
  obtain ⟨s, rfl, rfl, _⟩ := DataW.trod_string Tryz.underlying9 hx
  exact ⟨s.data.toList, .one (.str _ _ rfl), by simp [szT, uptoBulk]; omega, trivial⟩) h
 exact ⟨l, v, h1, h2, h3⟩

theorem openOn {f : Nat} {cs : List Value} {x : DataW H × List MemPlace} (h : DataW.trod enc Tryz.prog w 0 (fun _ => true) true f 85 cs = some x) : ∃ y : On, RDs w y.cells cs ∧ y.sz ≤ 2 * uptoBulk x.1 ∧ y.ok := by
 obtain ⟨xs, n, rfl, rfl, hl, hxl, hx⟩ := DataW.trod_struct Tryz.underlying85 h
 rw [cz85] at hl
 match cs, hl with
 | [v0, v1, v2], _ =>
 have hxn : xs.length = 3 := hxl
 match xs, hxn with
 | [x0, x1, x2], _ =>
 have h0 := hx 0 _ rfl
 have h1 := hx 1 _ rfl
 have h2 := hx 2 _ rfl
 simp [cz3, cz9] at h0 h1 h2
 obtain ⟨n0, e0, rfl, g0⟩ := DataW.trod_string Tryz.underlying9 h0
 obtain ⟨n1, e1, rfl, g1⟩ := DataW.trod_int Tryz.underlying3 h1
 obtain ⟨n2, e2, rfl, g2⟩ := DataW.trod_int Tryz.underlying3 h2
 simp only [List.cons.injEq, and_true] at e0 e1 e2
 subst e0 e1 e2
 refine ⟨⟨n0.data.toList, n1, n2⟩, ?_, ?_, ⟨i64_of g1, i64_of g2⟩⟩
 ·simp only [On.cells]
  exact (RDs.app (v1 := [_]) (.one (.str _ _ rfl)) (RDs.app (v1 := [_]) (.one (.int _ _)) (.one (.int _ _))))
 ·simp only [On.sz, szT, uptoBulk, uptoBulkAll, List.map_cons, List.map_nil]
  omega

theorem openO {f : Nat} {cs : List Value} {x : DataW H × List MemPlace} (h : DataW.trod enc Tryz.prog w 0 (fun _ => true) true f 38 cs = some x) : ∃ (l : List On) (v : Value), cs = [v] ∧ RD w noB (.slice (encO l)) v ∧ szO l ≤ 2 * (uptoBulk x.1 - 1) ∧ ∀ y, y ∈ l → y.ok := by
 obtain ⟨l, v, h1, h2, h3, h4, _⟩ := open_list On.cells On.sz (fun y => y.ok) 2 3 Tryz.underlying38 cz85 (by omega) (fun _ => rfl) (fun f' hf cs x hx => openOn hx) h
 exact ⟨l, v, h1, h2, h3, h4⟩

theorem openDc {f : Nat} {cs : List Value} {x : DataW H × List MemPlace} (h : DataW.trod enc Tryz.prog w 0 (fun _ => true) true f 40 cs = some x) : ∃ y : Dc, RDs w y.cells cs ∧ y.sz ≤ 2 * uptoBulk x.1 ∧ y.ok := by
 obtain ⟨xs, n, rfl, rfl, hl, hxl, hx⟩ := DataW.trod_struct Tryz.underlying40 h
 rw [cz40] at hl
 match cs, hl with
 | [v0, v1, v2], _ =>
 have hxn : xs.length = 3 := hxl
 match xs, hxn with
 | [x0, x1, x2], _ =>
 have h0 := hx 0 _ rfl
 have h1 := hx 1 _ rfl
 have h2 := hx 2 _ rfl
 simp [cz3, cz9, cz38] at h0 h1 h2
 obtain ⟨n0, e0, rfl, g0⟩ := DataW.trod_string Tryz.underlying9 h0
 obtain ⟨n1, e1, rfl, g1⟩ := DataW.trod_int Tryz.underlying3 h1
 obtain ⟨n2, w2, e2, r2, s2, g2⟩ := openO h2
 simp only [List.cons.injEq, and_true] at e0 e1 e2
 subst e0 e1 e2
 refine ⟨⟨n0.data.toList, n1, n2⟩, ?_, ?_, ⟨i64_of g1, g2⟩⟩
 ·simp only [Dc.cells]
  exact (RDs.app (v1 := [_]) (.one (.str _ _ rfl)) (RDs.app (v1 := [_]) (.one (.int _ _)) (.one r2)))
 ·have b2 := bulk_pos x2.1
  simp only [Dc.sz, szT, uptoBulk, uptoBulkAll, List.map_cons, List.map_nil]
  omega

theorem openD {f : Nat} {cs : List Value} {x : DataW H × List MemPlace} (h : DataW.trod enc Tryz.prog w 0 (fun _ => true) true f 22 cs = some x) : ∃ (l : List Dc) (v : Value), cs = [v] ∧ RD w noB (.slice (encD l)) v ∧ szD l ≤ 2 * (uptoBulk x.1 - 1) ∧ ∀ y, y ∈ l → y.ok := by
 obtain ⟨l, v, h1, h2, h3, h4, _⟩ := open_list Dc.cells Dc.sz (fun y => y.ok) 2 3 Tryz.underlying22 cz40 (by omega) (fun _ => rfl) (fun f' hf cs x hx => openDc hx) h
 exact ⟨l, v, h1, h2, h3, h4⟩

/-- Expressions and their lists. -/
def OX (w : World) (enc : TypeId × Value → H) (f : Nat) : Prop :=
 (∀ cs x, DataW.trod enc Tryz.prog w 0 (fun _ => true) true f 44 cs = some x → ∃ y : X, RDs w y.cells cs ∧ y.sz ≤ 2 * uptoBulk x.1 ∧ y.ok) ∧
 (∀ cs x, DataW.trod enc Tryz.prog w 0 (fun _ => true) true f 42 cs = some x → ∃ (l : List X) (v : Value), cs = [v] ∧ RD w noB (.slice (encX l)) v ∧ szX l ≤ 2 * (uptoBulk x.1 - 1) ∧ okX l)
theorem openX : ∀ f, OX w enc f := by
 intro f
 induction f using Nat.strongRecOn with
 | ind f ih =>
  constructor
  ·intro cs x h
   obtain ⟨xs, n, rfl, rfl, hl, hxl, hx⟩ := DataW.trod_struct Tryz.underlying44 h
   rw [cz44] at hl
   match cs, hl with
   | [v0, v1, v2, v3, v4, v5], _ =>
   have hx6 : xs.length = 6 := hxl
   match xs, hx6 with
   | [x0, x1, x2, x3, x4, x5], _ =>
   have h0 := hx 0 _ rfl
   have h1 := hx 1 _ rfl
   have h2 := hx 2 _ rfl
   have h3 := hx 3 _ rfl
   have h4 := hx 4 _ rfl
   have h5 := hx 5 _ rfl
   simp [cz3, cz9, cz42] at h0 h1 h2 h3 h4 h5
   obtain ⟨n0, e0, rfl, g0⟩ := DataW.trod_int Tryz.underlying3 h0
   obtain ⟨n1, e1, rfl, g1⟩ := DataW.trod_int Tryz.underlying3 h1
   obtain ⟨n2, e2, rfl, g2⟩ := DataW.trod_int Tryz.underlying3 h2
   obtain ⟨n3, e3, rfl, g3⟩ := DataW.trod_int Tryz.underlying3 h3
   obtain ⟨s4, e4, rfl, _⟩ := DataW.trod_string Tryz.underlying9 h4
   obtain ⟨l5, w5, e5, hr5, hs5, ho5⟩ := (ih n (by omega)).2 _ _ h5
   simp only [List.cons.injEq, and_true] at e0 e1 e2 e3 e4 e5
   subst e0 e1 e2 e3 e4 e5
   refine ⟨.mk n0 n1 n2 n3 s4.data.toList l5, ?_, ?_, ?_⟩
   ·simp only [X.cells]
    exact RDs.app (.one (.int _ _)) (RDs.app (.one (.int _ _)) (RDs.app (.one (.int _ _)) (RDs.app (.one (.int _ _)) (RDs.app (.one (.str _ _ rfl)) (.one hr5)))))
   ·have hb := bulk_pos x5.1
    simp only [X.sz, szT, uptoBulk, uptoBulkAll, List.map_cons, List.map_nil]
    omega
   ·simp only [X.ok]
    exact ⟨i64_of g0, i64_of g1, i64_of g2, i64_of g3, ho5⟩
  ·intro cs x h
   obtain ⟨l, v, h1, h2, h3, h4, _⟩ := open_list X.cells X.sz X.ok 2 6 Tryz.underlying42 cz44 (by omega) X.cells_len (fun f' hf cs x hx => (ih f' hf).1 cs x hx) h
   exact ⟨l, v, h1, by rw [encX_map]; exact h2, by rw [szX_sum]; exact h3, (okX_iff l).2 h4⟩

end
end Go.Ac
end

section
set_option maxRecDepth 4000
namespace Go.Ac
open Go.Proofs

def inE (en : List En) (t : Int) : Bool := decide (3 ≤ t) && decide (t - 3 < en.length)
def eAt (en : List En) (t : Int) : En := if inE en t then en.getD (t - 3).toNat ⟨[], []⟩ else ⟨[], []⟩
def sizeE (en : List En) (t : Int) : Int := if t = 1 then 2 else if t = 2 then 65536 else (eAt en t).tags.length
end Go.Ac
end

section
set_option maxRecDepth 4000
namespace Go.Ac
open Go.Proofs

theorem all_snoc {α : Type} {p : α → Bool} {l : List α} {j : Nat} {x : α} (h : l[j]? = some x) : (l.take (j + 1)).all p = ((l.take j).all p && p x) := by
 rw [List.take_add_one, h]; simp
/-- Where one is in a class. -/
structure Pr where
 nm : Tx
 br : Nat
def Pr.cells (x : Pr) : List D := [.str x.nm, .int .i64 x.br]
def encP (l : List Pr) : List (List D) := l.map Pr.cells
theorem encP_len (l : List Pr) : (encP l).length = l.length := by simp [encP]
attribute [simp] encP_len
structure Pl where
 o : Oc
 c : Cl
 bf : List Y
 cx : List Pr
def Pl.cells (x : Pl) : List D := [.slice (encE x.o.en), .slice (encC x.o.cl), .str x.c.nm, .slice (encD x.c.inn), .slice (encD x.c.out), .slice (encD x.c.loc), .slice (encM x.c.mems), .slice (encJ x.c.ins), .slice (encY x.c.step), .slice (encY x.bf), .slice (encP x.cx)]
def findD (l : List Dc) (x : Tx) : Int := match l.find? (fun d => decide (d.nm = x)) with | some d => d.t | none => 0
def findM (l : List Mm) (x : Tx) : Int := match l.find? (fun d => decide (d.nm = x)) with | some d => d.t | none => 0
def clZ : Cl := ⟨[], [], [], [], [], [], []⟩
def findC (l : List Cl) (x : Tx) : Cl × Bool := match l.find? (fun d => decide (d.nm = x)) with | some d => (d, true) | none => (clZ, false)
def findI (l : List Ii) (cs : List Cl) (x : Tx) : Cl × Bool := match l.find? (fun d => decide (d.nm = x)) with | some d => findC cs d.cl | none => (clZ, false)






def setT (c : Cl) (x : Tx) : Int := if findD c.out x = 0 then findD c.loc x else findD c.out x
def getT (c : Cl) (x : Tx) : Int := if findD c.inn x = 0 then setT c x else findD c.inn x

end Go.Ac
end
