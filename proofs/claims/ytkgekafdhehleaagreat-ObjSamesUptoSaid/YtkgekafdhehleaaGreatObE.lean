/- Equality of object code: the reference's. -/
import Derived.Test.YtkgekafdhehleaaGreatAcA
import Derived.Test.YtkgekafdhehleaaGreatAcB
import Derived.Test.YtkgekafdhehleaaGreatAcDM
import Derived.Test.YtkgekafdhehleaaGreatAcGM
import Derived.Test.YtkgekafdhehleaaGreatAcJM
import Derived.Test.YtkgekafdhehleaaGreatAcNM
import Derived.Test.YtkgekafdhehleaaGreatAcQM
import Derived.Test.YtkgekafdhehleaaGreatAcUM
import Derived.Test.YtkgekafdhehleaaGreatAcThM
import Derived.Test.YtkgekafdhehleaaGreatObHn
import Derived.Test.YtkgekafdhehleaaGreatObRM
import Derived.Test.YtkgekafdhehleaaGreatObCM
import Derived.Test.YtkgekafdhehleaaGreatObD
import Derived.Calls
import Derived.Orders
import Derived.Laws.World
import Derived.Laws.Sem
import Derived.Laws.Cells
import Derived.Laws.Append
import GoSem.ClaimData
import Derived.Laws.Tables
import Derived.Laws.Slices
import Derived.Laws.Strings
import Derived.Laws.Small
import Derived.KernelRfl
import Derived.Test.YtkgekafdhehleaaGreatChecked
set_option linter.unusedVariables false
set_option linter.unusedSimpArgs false
set_option maxRecDepth 4000
set_option linter.unusedSimpArgs false
set_option linter.unusedVariables false
namespace Go.Ac
open Go.Proofs
theorem ne_at {α : Type} {a b : List α} {j : Nat} {x y : α} (hx : a[j]? = some x) (hy : b[j]? = some y) (h : x ≠ y) : a ≠ b := fun e => by subst e; rw [hx] at hy; exact h (Option.some.inj hy)

theorem On.ext' {x y : On} (h0 : x.nm = y.nm) (h1 : x.t = y.t) (h2 : x.tag = y.tag) : x = y := by cases x; cases y; simp only at *; subst h0 h1 h2; rfl
theorem Mm.ext' {x y : Mm} (h0 : x.nm = y.nm) (h1 : x.t = y.t) (h2 : x.ini = y.ini) : x = y := by cases x; cases y; simp only at *; subst h0 h1 h2; rfl
theorem Ii.ext' {x y : Ii} (h0 : x.nm = y.nm) (h1 : x.cl = y.cl) : x = y := by cases x; cases y; simp only at *; subst h0 h1; rfl

theorem kf95 (r : Nat) : Ob.keep 95 r = Ob.k95 r := by kernel_rfl
attribute [local simp] kf95 Ob.k95
set_option maxHeartbeats 1000000 in
theorem rq95_den (a b : List Tx) (ha : a.length ≤ MX) (hb0 : b.length ≤ MX) : den Tryz.prog Ob.cfg 95 [dL (encS a), dL (encS b)] = some (dB (eqB a b)) := by
  unfold MX at ha hb0
  refine den_wp Tryz.func95 rfl (by kernel_rfl) rfl rfl ?_
  by_cases hl : a.length = b.length
  case neg =>
    have hl2 : ((a.length : Int) = b.length) = False := eq_false (by omega)
    rw [eqB_false (fun h => hl (by rw [h]))]
    refine wkc (And.intro @dL.eq_1 (And.intro @hl (And.intro @hl2 @int_bne))) ?_
    show retQ _ _ _ _ _
    exact ⟨.inr rfl, _, _, rfl, rfl⟩
  have hl2 : ((a.length : Int) = b.length) = True := eq_true (by omega)
  refine wkc (And.intro @dL.eq_1 (And.intro @hl (And.intro @hl2 @int_bne))) ?_
  apply WP.loop' (I := fun D s => ∃ j : Nat, j + D = a.length ∧ a.take j = b.take j ∧ SE [(0, dL (encS a)), (1, dL (encS b)), (5, dI j)] [] 0 s) (d := a.length)
  · exact ⟨0, by simp, by simp, SE.mk (by simp [dI, dL, hl]) rfl⟩
  rintro D _ ⟨j, hj, he, cc, rfl⟩
  refine wk (And.intro @dI.eq_1 (And.intro @dL.eq_1 @hl)) ?_
  show WP _ _ _ _ _ _
  refine WP.cond _ rfl (fun hb => ?_) (fun hb => ?_)
  · simp at hb
    have hb' : j < a.length := by omega
    have hb2 : j < b.length := by omega
    obtain ⟨x, hx, hxm, x1⟩ := at_lt hb'
    obtain ⟨y, hy, hym, x2⟩ := at_lt hb2
    have e1 := encS_at hx
    have e2 := encS_at hy
    have hw := w_succ hb' (by omega)
    have s1 := take_snoc hx
    have s2 := take_snoc hy
    by_cases q0 : x = y
    case neg =>
      have q0' := eq_false q0
      rw [eqB_false (ne_at hx hy q0)]
      refine wkc (And.intro @dI.eq_1 (And.intro @dL.eq_1 (And.intro @x1 (And.intro @x2 (And.intro @e1 (And.intro @e2 (And.intro @int_beq (And.intro @int_bne (And.intro @tx_beq (And.intro @tx_bne (And.intro @hl @q0'))))))))))) ?_
      show retQ _ _ _ _ _
      exact ⟨.inr rfl, _, _, rfl, rfl⟩
    have q0' := eq_true q0
    have hxy : x = y := q0
    refine wkc (And.intro @dI.eq_1 (And.intro @dL.eq_1 (And.intro @x1 (And.intro @x2 (And.intro @e1 (And.intro @e2 (And.intro @int_beq (And.intro @int_bne (And.intro @tx_beq (And.intro @tx_bne (And.intro @hl @q0'))))))))))) ?_
    refine loop_next (by simp [hw]; exact Is.rfl) ?_
    exact ⟨D - 1, by omega, j + 1, by omega, by rw [s1, s2, he, hxy], SE.mk (by simp [dI, dL, hw, hl]) rfl⟩
  · simp at hb
    have hje : j = a.length := by omega
    rw [hje, eq_of_take hl] at he
    rw [eqB_true he]
    refine wk True.intro ?_
    show retQ _ _ _ _ _
    exact ⟨.inr rfl, _, _, rfl, rfl⟩

theorem kf128 (r : Nat) : Ob.keep 128 r = Ob.k128 r := by kernel_rfl
attribute [local simp] kf128 Ob.k128
set_option maxHeartbeats 1000000 in
theorem rq128_den (a b : List Tx) (ha : a.length ≤ MX) (hb0 : b.length ≤ MX) : den Tryz.prog Ob.cfg 128 [dL (encS a), dL (encS b)] = some (dB (eqB a b)) := by
  unfold MX at ha hb0
  refine den_wp Tryz.func128 rfl (by kernel_rfl) rfl rfl ?_
  by_cases hl : a.length = b.length
  case neg =>
    have hl2 : ((a.length : Int) = b.length) = False := eq_false (by omega)
    rw [eqB_false (fun h => hl (by rw [h]))]
    refine wkc (And.intro @dL.eq_1 (And.intro @hl (And.intro @hl2 @int_bne))) ?_
    show retQ _ _ _ _ _
    exact ⟨.inr rfl, _, _, rfl, rfl⟩
  have hl2 : ((a.length : Int) = b.length) = True := eq_true (by omega)
  refine wkc (And.intro @dL.eq_1 (And.intro @hl (And.intro @hl2 @int_bne))) ?_
  apply WP.loop' (I := fun D s => ∃ j : Nat, j + D = a.length ∧ a.take j = b.take j ∧ SE [(0, dL (encS a)), (1, dL (encS b)), (5, dI j)] [] 0 s) (d := a.length)
  · exact ⟨0, by simp, by simp, SE.mk (by simp [dI, dL, hl]) rfl⟩
  rintro D _ ⟨j, hj, he, cc, rfl⟩
  refine wk (And.intro @dI.eq_1 (And.intro @dL.eq_1 @hl)) ?_
  show WP _ _ _ _ _ _
  refine WP.cond _ rfl (fun hb => ?_) (fun hb => ?_)
  · simp at hb
    have hb' : j < a.length := by omega
    have hb2 : j < b.length := by omega
    obtain ⟨x, hx, hxm, x1⟩ := at_lt hb'
    obtain ⟨y, hy, hym, x2⟩ := at_lt hb2
    have e1 := encS_at hx
    have e2 := encS_at hy
    have hw := w_succ hb' (by omega)
    have s1 := take_snoc hx
    have s2 := take_snoc hy
    by_cases q0 : x = y
    case neg =>
      have q0' := eq_false q0
      rw [eqB_false (ne_at hx hy q0)]
      refine wkc (And.intro @dI.eq_1 (And.intro @dL.eq_1 (And.intro @x1 (And.intro @x2 (And.intro @e1 (And.intro @e2 (And.intro @int_beq (And.intro @int_bne (And.intro @tx_beq (And.intro @tx_bne (And.intro @hl @q0'))))))))))) ?_
      show retQ _ _ _ _ _
      exact ⟨.inr rfl, _, _, rfl, rfl⟩
    have q0' := eq_true q0
    have hxy : x = y := q0
    refine wkc (And.intro @dI.eq_1 (And.intro @dL.eq_1 (And.intro @x1 (And.intro @x2 (And.intro @e1 (And.intro @e2 (And.intro @int_beq (And.intro @int_bne (And.intro @tx_beq (And.intro @tx_bne (And.intro @hl @q0'))))))))))) ?_
    refine loop_next (by simp [hw]; exact Is.rfl) ?_
    exact ⟨D - 1, by omega, j + 1, by omega, by rw [s1, s2, he, hxy], SE.mk (by simp [dI, dL, hw, hl]) rfl⟩
  · simp at hb
    have hje : j = a.length := by omega
    rw [hje, eq_of_take hl] at he
    rw [eqB_true he]
    refine wk True.intro ?_
    show retQ _ _ _ _ _
    exact ⟨.inr rfl, _, _, rfl, rfl⟩

theorem kf125 (r : Nat) : Ob.keep 125 r = Ob.k125 r := by kernel_rfl
attribute [local simp] kf125 Ob.k125
set_option maxHeartbeats 1000000 in
theorem rq125_den (a b : List On) (ha : a.length ≤ MX) (hb0 : b.length ≤ MX) : den Tryz.prog Ob.cfg 125 [dL (encO a), dL (encO b)] = some (dB (eqB a b)) := by
  unfold MX at ha hb0
  refine den_wp Tryz.func125 rfl (by kernel_rfl) rfl rfl ?_
  by_cases hl : a.length = b.length
  case neg =>
    have hl2 : ((a.length : Int) = b.length) = False := eq_false (by omega)
    rw [eqB_false (fun h => hl (by rw [h]))]
    refine wkc (And.intro @dL.eq_1 (And.intro @hl (And.intro @hl2 @int_bne))) ?_
    show retQ _ _ _ _ _
    exact ⟨.inr rfl, _, _, rfl, rfl⟩
  have hl2 : ((a.length : Int) = b.length) = True := eq_true (by omega)
  refine wkc (And.intro @dL.eq_1 (And.intro @hl (And.intro @hl2 @int_bne))) ?_
  apply WP.loop' (I := fun D s => ∃ j : Nat, j + D = a.length ∧ a.take j = b.take j ∧ SE [(0, dL (encO a)), (1, dL (encO b)), (5, dI j)] [] 0 s) (d := a.length)
  · exact ⟨0, by simp, by simp, SE.mk (by simp [dI, dL, hl]) rfl⟩
  rintro D _ ⟨j, hj, he, cc, rfl⟩
  refine wk (And.intro @dI.eq_1 (And.intro @dL.eq_1 @hl)) ?_
  show WP _ _ _ _ _ _
  refine WP.cond _ rfl (fun hb => ?_) (fun hb => ?_)
  · simp at hb
    have hb' : j < a.length := by omega
    have hb2 : j < b.length := by omega
    obtain ⟨x, hx, hxm, x1⟩ := at_lt hb'
    obtain ⟨y, hy, hym, x2⟩ := at_lt hb2
    have e1 := encO_at hx
    have e2 := encO_at hy
    have hw := w_succ hb' (by omega)
    have s1 := take_snoc hx
    have s2 := take_snoc hy
    by_cases q0 : x.nm = y.nm
    case neg =>
      have q0' := eq_false q0
      rw [eqB_false (ne_at hx hy fun h => q0 (by rw [h]))]
      refine wkc (And.intro @dI.eq_1 (And.intro @dL.eq_1 (And.intro @x1 (And.intro @x2 (And.intro @e1 (And.intro @e2 (And.intro @int_beq (And.intro @int_bne (And.intro @tx_beq (And.intro @tx_bne (And.intro @hl (And.intro @On.cells.eq_1 @q0')))))))))))) ?_
      show retQ _ _ _ _ _
      exact ⟨.inr rfl, _, _, rfl, rfl⟩
    have q0' := eq_true q0
    by_cases q1 : x.t = y.t
    case neg =>
      have q1' := eq_false q1
      rw [eqB_false (ne_at hx hy fun h => q1 (by rw [h]))]
      refine wkc (And.intro @dI.eq_1 (And.intro @dL.eq_1 (And.intro @x1 (And.intro @x2 (And.intro @e1 (And.intro @e2 (And.intro @int_beq (And.intro @int_bne (And.intro @tx_beq (And.intro @tx_bne (And.intro @hl (And.intro @On.cells.eq_1 (And.intro @q0' @q1'))))))))))))) ?_
      show retQ _ _ _ _ _
      exact ⟨.inr rfl, _, _, rfl, rfl⟩
    have q1' := eq_true q1
    by_cases q2 : x.tag = y.tag
    case neg =>
      have q2' := eq_false q2
      rw [eqB_false (ne_at hx hy fun h => q2 (by rw [h]))]
      refine wkc (And.intro @dI.eq_1 (And.intro @dL.eq_1 (And.intro @x1 (And.intro @x2 (And.intro @e1 (And.intro @e2 (And.intro @int_beq (And.intro @int_bne (And.intro @tx_beq (And.intro @tx_bne (And.intro @hl (And.intro @On.cells.eq_1 (And.intro @q0' (And.intro @q1' @q2')))))))))))))) ?_
      show retQ _ _ _ _ _
      exact ⟨.inr rfl, _, _, rfl, rfl⟩
    have q2' := eq_true q2
    have hxy : x = y := (On.ext' q0 q1 q2)
    refine wkc (And.intro @dI.eq_1 (And.intro @dL.eq_1 (And.intro @x1 (And.intro @x2 (And.intro @e1 (And.intro @e2 (And.intro @int_beq (And.intro @int_bne (And.intro @tx_beq (And.intro @tx_bne (And.intro @hl (And.intro @On.cells.eq_1 (And.intro @q0' (And.intro @q1' @q2')))))))))))))) ?_
    refine loop_next (by simp [hw]; exact Is.rfl) ?_
    exact ⟨D - 1, by omega, j + 1, by omega, by rw [s1, s2, he, hxy], SE.mk (by simp [dI, dL, hw, hl]) rfl⟩
  · simp at hb
    have hje : j = a.length := by omega
    rw [hje, eq_of_take hl] at he
    rw [eqB_true he]
    refine wk True.intro ?_
    show retQ _ _ _ _ _
    exact ⟨.inr rfl, _, _, rfl, rfl⟩

theorem kf96 (r : Nat) : Ob.keep 96 r = Ob.k96 r := by kernel_rfl
attribute [local simp] kf96 Ob.k96
set_option maxHeartbeats 1000000 in
theorem rq96_den (a b : List Dc) (ha : szD a ≤ MX) (hb0 : szD b ≤ MX) : den Tryz.prog Ob.cfg 96 [dL (encD a), dL (encD b)] = some (dB (eqB a b)) := by
  have l1 := len_szD a
  have l2 := len_szD b
  unfold MX at ha hb0
  refine den_wp Tryz.func96 rfl (by kernel_rfl) rfl rfl ?_
  by_cases hl : a.length = b.length
  case neg =>
    have hl2 : ((a.length : Int) = b.length) = False := eq_false (by omega)
    rw [eqB_false (fun h => hl (by rw [h]))]
    refine wkc (And.intro @dL.eq_1 (And.intro @hl (And.intro @hl2 @int_bne))) ?_
    show retQ _ _ _ _ _
    exact ⟨.inr rfl, _, _, rfl, rfl⟩
  have hl2 : ((a.length : Int) = b.length) = True := eq_true (by omega)
  refine wkc (And.intro @dL.eq_1 (And.intro @hl (And.intro @hl2 @int_bne))) ?_
  apply WP.loop' (I := fun D s => ∃ j : Nat, j + D = a.length ∧ a.take j = b.take j ∧ SE [(0, dL (encD a)), (1, dL (encD b)), (5, dI j)] [] 0 s) (d := a.length)
  · exact ⟨0, by simp, by simp, SE.mk (by simp [dI, dL, hl]) rfl⟩
  rintro D _ ⟨j, hj, he, cc, rfl⟩
  refine wk (And.intro @dI.eq_1 (And.intro @dL.eq_1 @hl)) ?_
  show WP _ _ _ _ _ _
  refine WP.cond _ rfl (fun hb => ?_) (fun hb => ?_)
  · simp at hb
    have hb' : j < a.length := by omega
    have hb2 : j < b.length := by omega
    obtain ⟨x, hx, hxm, x1⟩ := at_lt hb'
    obtain ⟨y, hy, hym, x2⟩ := at_lt hb2
    have e1 := encD_at hx
    have e2 := encD_at hy
    have hw := w_succ hb' (by omega)
    have s1 := take_snoc hx
    have s2 := take_snoc hy
    have h2 := rq125_den x.ck y.ck (by have := mem_szD hxm; have := len_szO x.ck; unfold Dc.sz at *; unfold MX; omega) (by have := mem_szD hym; have := len_szO y.ck; unfold Dc.sz at *; unfold MX; omega)
    simp only [aG, X.cells_eq, Y.cells_eq, Dc.cells, En.cells, Cl.cells, Mm.cells, Ii.cells, List.map_cons, List.map_nil, dB, dL] at h2
    by_cases q0 : x.nm = y.nm
    case neg =>
      have q0' := eq_false q0
      rw [eqB_false (ne_at hx hy fun h => q0 (by rw [h]))]
      refine wkc (And.intro @dI.eq_1 (And.intro @dL.eq_1 (And.intro @x1 (And.intro @x2 (And.intro @e1 (And.intro @e2 (And.intro @int_beq (And.intro @int_bne (And.intro @tx_beq (And.intro @tx_bne (And.intro @hl (And.intro @Dc.cells.eq_1 @q0')))))))))))) ?_
      show retQ _ _ _ _ _
      exact ⟨.inr rfl, _, _, rfl, rfl⟩
    have q0' := eq_true q0
    by_cases q1 : x.t = y.t
    case neg =>
      have q1' := eq_false q1
      rw [eqB_false (ne_at hx hy fun h => q1 (by rw [h]))]
      refine wkc (And.intro @dI.eq_1 (And.intro @dL.eq_1 (And.intro @x1 (And.intro @x2 (And.intro @e1 (And.intro @e2 (And.intro @int_beq (And.intro @int_bne (And.intro @tx_beq (And.intro @tx_bne (And.intro @hl (And.intro @Dc.cells.eq_1 (And.intro @q0' @q1'))))))))))))) ?_
      show retQ _ _ _ _ _
      exact ⟨.inr rfl, _, _, rfl, rfl⟩
    have q1' := eq_true q1
    by_cases q2 : x.ck = y.ck
    case neg =>
      rw [eqB_false q2] at h2
      rw [eqB_false (ne_at hx hy fun h => q2 (by rw [h]))]
      refine wkc (And.intro @dI.eq_1 (And.intro @dL.eq_1 (And.intro @x1 (And.intro @x2 (And.intro @e1 (And.intro @e2 (And.intro @int_beq (And.intro @int_bne (And.intro @tx_beq (And.intro @tx_bne (And.intro @hl (And.intro @Dc.cells.eq_1 (And.intro @q0' (And.intro @q1' @h2)))))))))))))) ?_
      show retQ _ _ _ _ _
      exact ⟨.inr rfl, _, _, rfl, rfl⟩
    rw [eqB_true q2] at h2
    have hxy : x = y := (Dc.ext' q0 q1 q2)
    refine wkc (And.intro @dI.eq_1 (And.intro @dL.eq_1 (And.intro @x1 (And.intro @x2 (And.intro @e1 (And.intro @e2 (And.intro @int_beq (And.intro @int_bne (And.intro @tx_beq (And.intro @tx_bne (And.intro @hl (And.intro @Dc.cells.eq_1 (And.intro @q0' (And.intro @q1' @h2)))))))))))))) ?_
    refine loop_next (by simp [hw]; exact Is.rfl) ?_
    exact ⟨D - 1, by omega, j + 1, by omega, by rw [s1, s2, he, hxy], SE.mk (by simp [dI, dL, hw, hl]) rfl⟩
  · simp at hb
    have hje : j = a.length := by omega
    rw [hje, eq_of_take hl] at he
    rw [eqB_true he]
    refine wk True.intro ?_
    show retQ _ _ _ _ _
    exact ⟨.inr rfl, _, _, rfl, rfl⟩

theorem kf126 (r : Nat) : Ob.keep 126 r = Ob.k126 r := by kernel_rfl
attribute [local simp] kf126 Ob.k126
set_option maxHeartbeats 2000000 in
theorem rq126_den : ∀ (N : Nat) (x y : X), x.sz < N → x.sz ≤ MX → y.sz ≤ MX → den Tryz.prog Ob.cfg 126 [aG x.cells, aG y.cells] = some (dB (eqB x y)) := by
  intro N
  induction N with
  | zero => intro x y h; omega
  | succ N ih =>
  intro x y hN hx0 hy0
  rw [X.sz_eq] at hN hx0 hy0
  have l1 := len_szX x.args
  have l2 := len_szX y.args
  unfold MX at hx0 hy0
  refine den_wp Tryz.func126 rfl (by kernel_rfl) rfl rfl ?_
  by_cases q0 : x.k = y.k
  case neg =>
    have q0' := eq_false q0
    rw [eqB_false (fun h => q0 (by rw [h]))]
    refine wkc (And.intro @dI.eq_1 (And.intro @dL.eq_1 (And.intro @aG.eq_1 (And.intro @X.cells_eq (And.intro @int_beq (And.intro @int_bne (And.intro @tx_beq (And.intro @tx_bne @q0')))))))) ?_
    show retQ _ _ _ _ _
    exact ⟨.inr rfl, _, _, rfl, rfl⟩
  have q0' := eq_true q0
  by_cases q1 : x.o = y.o
  case neg =>
    have q1' := eq_false q1
    rw [eqB_false (fun h => q1 (by rw [h]))]
    refine wkc (And.intro @dI.eq_1 (And.intro @dL.eq_1 (And.intro @aG.eq_1 (And.intro @X.cells_eq (And.intro @int_beq (And.intro @int_bne (And.intro @tx_beq (And.intro @tx_bne (And.intro @q0' @q1'))))))))) ?_
    show retQ _ _ _ _ _
    exact ⟨.inr rfl, _, _, rfl, rfl⟩
  have q1' := eq_true q1
  by_cases q2 : x.t = y.t
  case neg =>
    have q2' := eq_false q2
    rw [eqB_false (fun h => q2 (by rw [h]))]
    refine wkc (And.intro @dI.eq_1 (And.intro @dL.eq_1 (And.intro @aG.eq_1 (And.intro @X.cells_eq (And.intro @int_beq (And.intro @int_bne (And.intro @tx_beq (And.intro @tx_bne (And.intro @q0' (And.intro @q1' @q2')))))))))) ?_
    show retQ _ _ _ _ _
    exact ⟨.inr rfl, _, _, rfl, rfl⟩
  have q2' := eq_true q2
  by_cases q3 : x.v = y.v
  case neg =>
    have q3' := eq_false q3
    rw [eqB_false (fun h => q3 (by rw [h]))]
    refine wkc (And.intro @dI.eq_1 (And.intro @dL.eq_1 (And.intro @aG.eq_1 (And.intro @X.cells_eq (And.intro @int_beq (And.intro @int_bne (And.intro @tx_beq (And.intro @tx_bne (And.intro @q0' (And.intro @q1' (And.intro @q2' @q3'))))))))))) ?_
    show retQ _ _ _ _ _
    exact ⟨.inr rfl, _, _, rfl, rfl⟩
  have q3' := eq_true q3
  by_cases q4 : x.nm = y.nm
  case neg =>
    have q4' := eq_false q4
    rw [eqB_false (fun h => q4 (by rw [h]))]
    refine wkc (And.intro @dI.eq_1 (And.intro @dL.eq_1 (And.intro @aG.eq_1 (And.intro @X.cells_eq (And.intro @int_beq (And.intro @int_bne (And.intro @tx_beq (And.intro @tx_bne (And.intro @q0' (And.intro @q1' (And.intro @q2' (And.intro @q3' @q4')))))))))))) ?_
    show retQ _ _ _ _ _
    exact ⟨.inr rfl, _, _, rfl, rfl⟩
  have q4' := eq_true q4
  by_cases q5 : x.args.length = y.args.length
  case neg =>
    have q5' : ((x.args.length : Int) = y.args.length) = False := eq_false (by omega)
    rw [eqB_false (fun h => q5 (by rw [h]))]
    refine wkc (And.intro @dI.eq_1 (And.intro @dL.eq_1 (And.intro @aG.eq_1 (And.intro @X.cells_eq (And.intro @int_beq (And.intro @int_bne (And.intro @tx_beq (And.intro @tx_bne (And.intro @q0' (And.intro @q1' (And.intro @q2' (And.intro @q3' (And.intro @q4' (And.intro @q5 @q5')))))))))))))) ?_
    show retQ _ _ _ _ _
    exact ⟨.inr rfl, _, _, rfl, rfl⟩
  have q5' : ((x.args.length : Int) = y.args.length) = True := eq_true (by omega)
  refine wkc (And.intro @dI.eq_1 (And.intro @dL.eq_1 (And.intro @aG.eq_1 (And.intro @X.cells_eq (And.intro @int_beq (And.intro @int_bne (And.intro @tx_beq (And.intro @tx_bne (And.intro @q0' (And.intro @q1' (And.intro @q2' (And.intro @q3' (And.intro @q4' (And.intro @q5 @q5')))))))))))))) ?_
  apply WP.loop' (I := fun D s => ∃ j : Nat, j + D = x.args.length ∧ x.args.take j = y.args.take j ∧ ∃ c, s = ⟨[(2, .ptr 0 0 0), (3, .ptr 1 1 0), (5, dI j)], [(0, ⟨0, false, x.cells.map .d⟩), (1, ⟨1, false, y.cells.map .d⟩)], 2, c, 0, []⟩) (d := x.args.length)
  · exact ⟨0, by simp, by simp, _, st_eq rfl (by simp [X.cells_eq])⟩
  rintro D _ ⟨j, hj, he, cc, rfl⟩
  refine wk (And.intro @dI.eq_1 (And.intro @dL.eq_1 @X.cells_eq)) ?_
  show WP _ _ _ _ _ _
  refine WP.cond _ rfl (fun hb => ?_) (fun hb => ?_)
  · simp at hb
    have hb' : j < x.args.length := by omega
    have hb2 : j < y.args.length := by omega
    obtain ⟨u, hu, hum, x1⟩ := at_lt hb'
    obtain ⟨w, hv, hvm, x2⟩ := at_lt hb2
    have e1 := encX_at hu
    have e2 := encX_at hv
    have hw := w_succ hb' (by omega)
    have s1 := take_snoc hu
    have s2 := take_snoc hv
    have hd := ih u w (by have := mem_szX hum; omega) (by have := mem_szX hum; unfold MX; omega) (by have := mem_szX hvm; unfold MX; omega)
    simp only [aG, X.cells_eq, Y.cells_eq, Dc.cells, En.cells, Cl.cells, Mm.cells, Ii.cells, List.map_cons, List.map_nil, dB, dL] at hd
    by_cases q : u = w
    · rw [eqB_true q] at hd
      refine wkc (And.intro @dI.eq_1 (And.intro @dL.eq_1 (And.intro @X.cells_eq (And.intro @x1 (And.intro @x2 (And.intro @e1 (And.intro @e2 @hd))))))) ?_
      refine loop_next (by simp [hw]; exact Is.rfl) ?_
      exact ⟨D - 1, by omega, j + 1, by omega, by rw [s1, s2, he, q], _, st_eq (by simp [dI]) (by simp [X.cells_eq])⟩
    · rw [eqB_false q] at hd
      rw [eqB_false (fun h => ne_at hu hv q (by rw [h]))]
      refine wkc (And.intro @dI.eq_1 (And.intro @dL.eq_1 (And.intro @X.cells_eq (And.intro @x1 (And.intro @x2 (And.intro @e1 (And.intro @e2 @hd))))))) ?_
      show retQ _ _ _ _ _
      exact ⟨.inr rfl, _, _, rfl, rfl⟩
  · simp at hb
    have hje : j = x.args.length := by omega
    rw [hje, eq_of_take q5] at he
    rw [eqB_true (X.ext q0 q1 q2 q3 q4 he)]
    refine wk True.intro ?_
    show retQ _ _ _ _ _
    exact ⟨.inr rfl, _, _, rfl, rfl⟩

theorem kf100 (r : Nat) : Ob.keep 100 r = Ob.k100 r := by kernel_rfl
attribute [local simp] kf100 Ob.k100
set_option maxHeartbeats 4000000 in
theorem rq100_den : ∀ (N : Nat) (a b : List Y), szY a < N → szY a ≤ MX → szY b ≤ MX → den Tryz.prog Ob.cfg 100 [dL (encY a), dL (encY b)] = some (dB (eqB a b)) := by
  intro N
  induction N with
  | zero => intro x y h; omega
  | succ N ih =>
  intro a b hN ha hb0
  have l1 := len_szY a
  have l2 := len_szY b
  unfold MX at ha hb0
  refine den_wp Tryz.func100 rfl (by kernel_rfl) rfl rfl ?_
  by_cases hl : a.length = b.length
  case neg =>
    have hl2 : ((a.length : Int) = b.length) = False := eq_false (by omega)
    rw [eqB_false (fun h => hl (by rw [h]))]
    refine wkc (And.intro @dL.eq_1 (And.intro @hl (And.intro @hl2 @int_bne))) ?_
    show retQ _ _ _ _ _
    exact ⟨.inr rfl, _, _, rfl, rfl⟩
  have hl2 : ((a.length : Int) = b.length) = True := eq_true (by omega)
  refine wkc (And.intro @dL.eq_1 (And.intro @hl (And.intro @hl2 @int_bne))) ?_
  apply WP.loop' (I := fun D s => ∃ j : Nat, j + D = a.length ∧ a.take j = b.take j ∧ SE [(0, dL (encY a)), (1, dL (encY b)), (5, dI j)] [] 0 s) (d := a.length)
  · exact ⟨0, by simp, by simp, SE.mk (by simp [dI, dL, hl]) rfl⟩
  rintro D _ ⟨j, hj, he, cc, rfl⟩
  refine wk (And.intro @dI.eq_1 (And.intro @dL.eq_1 @hl)) ?_
  show WP _ _ _ _ _ _
  refine WP.cond _ rfl (fun hb => ?_) (fun hb => ?_)
  · simp at hb
    have hb' : j < a.length := by omega
    have hb2 : j < b.length := by omega
    obtain ⟨x, hx, hxm, x1⟩ := at_lt hb'
    obtain ⟨y, hy, hym, x2⟩ := at_lt hb2
    have e1 := encY_at hx
    have e2 := encY_at hy
    have hw := w_succ hb' (by omega)
    have s1 := take_snoc hx
    have s2 := take_snoc hy
    have m1 := mem_szY hxm
    have m2 := mem_szY hym
    rw [Y.sz_eq] at m1 m2
    have k1 := len_szS x.outs
    have k2 := len_szS y.outs
    have k3 := len_szX x.args
    have k4 := len_szX y.args
    have k5 := len_szB x.brs
    have k6 := len_szB y.brs
    have h3 := rq126_den (x.r.sz + 1) x.r y.r (by omega) (by unfold MX; omega) (by unfold MX; omega)
    have h4 := rq128_den x.outs y.outs (by unfold MX; omega) (by unfold MX; omega)
    have z1 : (X.mk 0 0 0 0 [] x.args).sz ≤ 1152921504606846976 := by rw [X.sz_eq]; simp only [X.nm, X.args, szT, List.length_nil]; omega
    have z2 : (X.mk 0 0 0 0 [] y.args).sz ≤ 1152921504606846976 := by rw [X.sz_eq]; simp only [X.nm, X.args, szT, List.length_nil]; omega
    have h5 := rq126_den ((X.mk 0 0 0 0 [] x.args).sz + 1) (.mk 0 0 0 0 [] x.args) (.mk 0 0 0 0 [] y.args) (by omega) (by unfold MX; omega) (by unfold MX; omega)
    simp only [aG, X.cells_eq, Y.cells_eq, Dc.cells, En.cells, Cl.cells, Mm.cells, Ii.cells, List.map_cons, List.map_nil, dB, dL] at h3 h4 h5
    simp only [X.k, X.o, X.t, X.v, X.nm] at h5
    rw [show (X.mk 0 0 0 0 [] x.args).args = x.args from rfl, show (X.mk 0 0 0 0 [] y.args).args = y.args from rfl] at h5
    by_cases q0 : x.k = y.k
    case neg =>
      have q0' := eq_false q0
      rw [eqB_false (ne_at hx hy fun h => q0 (by rw [h]))]
      refine wkc (And.intro @dI.eq_1 (And.intro @dL.eq_1 (And.intro @Y.cells_eq (And.intro @x1 (And.intro @x2 (And.intro @e1 (And.intro @e2 (And.intro @int_beq (And.intro @int_bne (And.intro @tx_beq (And.intro @tx_bne @q0'))))))))))) ?_
      show retQ _ _ _ _ _
      exact ⟨.inr rfl, _, _, rfl, rfl⟩
    have q0' := eq_true q0
    by_cases q1 : x.nm = y.nm
    case neg =>
      have q1' := eq_false q1
      rw [eqB_false (ne_at hx hy fun h => q1 (by rw [h]))]
      refine wkc (And.intro @dI.eq_1 (And.intro @dL.eq_1 (And.intro @Y.cells_eq (And.intro @x1 (And.intro @x2 (And.intro @e1 (And.intro @e2 (And.intro @int_beq (And.intro @int_bne (And.intro @tx_beq (And.intro @tx_bne (And.intro @q0' @q1')))))))))))) ?_
      show retQ _ _ _ _ _
      exact ⟨.inr rfl, _, _, rfl, rfl⟩
    have q1' := eq_true q1
    by_cases q2 : x.t = y.t
    case neg =>
      have q2' := eq_false q2
      rw [eqB_false (ne_at hx hy fun h => q2 (by rw [h]))]
      refine wkc (And.intro @dI.eq_1 (And.intro @dL.eq_1 (And.intro @Y.cells_eq (And.intro @x1 (And.intro @x2 (And.intro @e1 (And.intro @e2 (And.intro @int_beq (And.intro @int_bne (And.intro @tx_beq (And.intro @tx_bne (And.intro @q0' (And.intro @q1' @q2'))))))))))))) ?_
      show retQ _ _ _ _ _
      exact ⟨.inr rfl, _, _, rfl, rfl⟩
    have q2' := eq_true q2
    by_cases q3 : x.r = y.r
    case neg =>
      rw [eqB_false q3] at h3
      rw [eqB_false (ne_at hx hy fun h => q3 (by rw [h]))]
      refine wkc (And.intro @dI.eq_1 (And.intro @dL.eq_1 (And.intro @Y.cells_eq (And.intro @x1 (And.intro @x2 (And.intro @e1 (And.intro @e2 (And.intro @int_beq (And.intro @int_bne (And.intro @tx_beq (And.intro @tx_bne (And.intro @q0' (And.intro @q1' (And.intro @q2' @h3)))))))))))))) ?_
      show retQ _ _ _ _ _
      exact ⟨.inr rfl, _, _, rfl, rfl⟩
    rw [eqB_true q3] at h3
    by_cases q4 : x.outs = y.outs
    case neg =>
      rw [eqB_false q4] at h4
      rw [eqB_false (ne_at hx hy fun h => q4 (by rw [h]))]
      refine wkc (And.intro @dI.eq_1 (And.intro @dL.eq_1 (And.intro @Y.cells_eq (And.intro @x1 (And.intro @x2 (And.intro @e1 (And.intro @e2 (And.intro @int_beq (And.intro @int_bne (And.intro @tx_beq (And.intro @tx_bne (And.intro @q0' (And.intro @q1' (And.intro @q2' (And.intro @h3 @h4))))))))))))))) ?_
      show retQ _ _ _ _ _
      exact ⟨.inr rfl, _, _, rfl, rfl⟩
    rw [eqB_true q4] at h4
    by_cases q5 : x.args = y.args
    case neg =>
      rw [eqB_false (fun h => q5 (by have := congrArg X.args h; exact this))] at h5
      rw [eqB_false (ne_at hx hy fun h => q5 (by rw [h]))]
      refine wkc (And.intro @dI.eq_1 (And.intro @dL.eq_1 (And.intro @Y.cells_eq (And.intro @x1 (And.intro @x2 (And.intro @e1 (And.intro @e2 (And.intro @int_beq (And.intro @int_bne (And.intro @tx_beq (And.intro @tx_bne (And.intro @q0' (And.intro @q1' (And.intro @q2' (And.intro @h3 (And.intro @h4 @h5)))))))))))))))) ?_
      show retQ _ _ _ _ _
      exact ⟨.inr rfl, _, _, rfl, rfl⟩
    rw [eqB_true (by rw [q5])] at h5
    by_cases q6 : x.brs.length = y.brs.length
    case neg =>
      have q6' : ((x.brs.length : Int) = y.brs.length) = False := eq_false (by omega)
      rw [eqB_false (ne_at hx hy fun h => q6 (by rw [h]))]
      refine wkc (And.intro @dI.eq_1 (And.intro @dL.eq_1 (And.intro @Y.cells_eq (And.intro @x1 (And.intro @x2 (And.intro @e1 (And.intro @e2 (And.intro @int_beq (And.intro @int_bne (And.intro @tx_beq (And.intro @tx_bne (And.intro @q0' (And.intro @q1' (And.intro @q2' (And.intro @h3 (And.intro @h4 (And.intro @h5 (And.intro @q6 @q6')))))))))))))))))) ?_
      show retQ _ _ _ _ _
      exact ⟨.inr rfl, _, _, rfl, rfl⟩
    have q6' : ((x.brs.length : Int) = y.brs.length) = True := eq_true (by omega)
    refine wkc (And.intro @dI.eq_1 (And.intro @dL.eq_1 (And.intro @Y.cells_eq (And.intro @x1 (And.intro @x2 (And.intro @e1 (And.intro @e2 (And.intro @int_beq (And.intro @int_bne (And.intro @tx_beq (And.intro @tx_bne (And.intro @q0' (And.intro @q1' (And.intro @q2' (And.intro @h3 (And.intro @h4 (And.intro @h5 (And.intro @q6 @q6')))))))))))))))))) ?_
    apply WP.loop' (I := fun D s => ∃ i : Nat, i + D = x.brs.length ∧ x.brs.take i = y.brs.take i ∧ ∃ ga gb c, s = ⟨[(0, dL (encY a)), (1, dL (encY b)), (5, dI j), (6, .ptr 0 ga 0), (7, .ptr 1 gb 0), (8, dI i)], [(0, ⟨ga, false, x.cells.map .d⟩), (1, ⟨gb, false, y.cells.map .d⟩)], 2, c, 0, []⟩) (d := x.brs.length)
    · exact ⟨0, by simp, by simp, _, _, _, st_eq (by simp [dL, dI] <;> exact ⟨rfl, rfl⟩) (by simp [Y.cells_eq])⟩
    rintro D2 _ ⟨i, hi, hei, ga, gb, c, rfl⟩
    refine wk (And.intro @dI.eq_1 (And.intro @dL.eq_1 @Y.cells_eq)) ?_
    show WP _ _ _ _ _ _
    refine WP.cond _ rfl (fun hb => ?_) (fun hb => ?_)
    · simp at hb
      have hc' : i < x.brs.length := by omega
      have hc2 : i < y.brs.length := by omega
      obtain ⟨u, hu, hum, y1⟩ := at_lt hc'
      obtain ⟨w, hv, hvm, y2⟩ := at_lt hc2
      have f1 := encB_at hu
      have f2 := encB_at hv
      have hw2 := w_succ hc' (by omega)
      have t1 := take_snoc hu
      have t2 := take_snoc hv
      have hd := ih u w (by have := mem_szB hum; omega) (by have := mem_szB hum; unfold MX; omega) (by have := mem_szB hvm; unfold MX; omega)
      simp only [dL, dB] at hd
      by_cases q : u = w
      · rw [eqB_true q] at hd
        refine wkc (And.intro @dI.eq_1 (And.intro @dL.eq_1 (And.intro @Y.cells_eq (And.intro @y1 (And.intro @y2 (And.intro @f1 (And.intro @f2 @hd))))))) ?_
        refine loop_next (by simp [hw2]; exact Is.rfl) ?_
        exact ⟨D2 - 1, by omega, i + 1, by omega, by rw [t1, t2, hei, q], ga, gb, _, st_eq (by simp [dI, dL]) (by simp [Y.cells_eq])⟩
      · rw [eqB_false q] at hd
        rw [eqB_false (ne_at hx hy fun h => ne_at hu hv q (by rw [h]))]
        refine wkc (And.intro @dI.eq_1 (And.intro @dL.eq_1 (And.intro @Y.cells_eq (And.intro @y1 (And.intro @y2 (And.intro @f1 (And.intro @f2 @hd))))))) ?_
        show retQ _ _ _ _ _
        exact ⟨.inr rfl, _, _, rfl, rfl⟩
    · simp at hb
      have hie : i = x.brs.length := by omega
      rw [hie, eq_of_take q6] at hei
      have hxy : x = y := Y.ext q0 q1 q2 q3 q4 q5 hei
      refine wk (And.intro @dI.eq_1 @dL.eq_1) ?_
      refine loop_next (by simp [hw]; exact Is.rfl) ?_
      exact ⟨D - 1, by omega, j + 1, by omega, by rw [s1, s2, he, hxy], SE.mk (by simp [dI, dL, hw, hl]) rfl⟩
  · simp at hb
    have hje : j = a.length := by omega
    rw [hje, eq_of_take hl] at he
    rw [eqB_true he]
    refine wk True.intro ?_
    show retQ _ _ _ _ _
    exact ⟨.inr rfl, _, _, rfl, rfl⟩

theorem kf50 (r : Nat) : Ob.keep 50 r = Ob.k50 r := by kernel_rfl
attribute [local simp] kf50 Ob.k50
set_option maxHeartbeats 4000000 in
theorem rq50_den (x y : Cl) (ha : x.sz ≤ MX) (hb0 : y.sz ≤ MX) : den Tryz.prog Ob.cfg 50 [aG x.cells, aG y.cells] = some (dB (eqB x y)) := by
  unfold Cl.sz MX at ha hb0
  have k1 := len_szM x.mems
  have k2 := len_szM y.mems
  have k3 := len_szJ x.ins
  have k4 := len_szJ y.ins
  have h1 := rq96_den x.inn y.inn (by unfold MX; omega) (by unfold MX; omega)
  have h2 := rq96_den x.out y.out (by unfold MX; omega) (by unfold MX; omega)
  have h3 := rq96_den x.loc y.loc (by unfold MX; omega) (by unfold MX; omega)
  have h6 := rq100_den (szY x.step + 1) x.step y.step (by omega) (by unfold MX; omega) (by unfold MX; omega)
  simp only [aG, X.cells_eq, Y.cells_eq, Dc.cells, En.cells, Cl.cells, Mm.cells, Ii.cells, List.map_cons, List.map_nil, dB, dL] at h1 h2 h3 h6
  refine den_wp Tryz.func50 rfl (by kernel_rfl) rfl rfl ?_
  by_cases q0 : x.nm = y.nm
  case neg =>
    have q0' := eq_false q0
    rw [eqB_false (fun h => q0 (by rw [h]))]
    refine wkc (And.intro @dI.eq_1 (And.intro @dL.eq_1 (And.intro @aG.eq_1 (And.intro @Cl.cells.eq_1 (And.intro @int_beq (And.intro @int_bne (And.intro @tx_beq (And.intro @tx_bne @q0')))))))) ?_
    show retQ _ _ _ _ _
    exact ⟨.inr rfl, _, _, rfl, rfl⟩
  have q0' := eq_true q0
  by_cases q1 : x.inn = y.inn
  case neg =>
    rw [eqB_false q1] at h1
    rw [eqB_false (fun h => q1 (by rw [h]))]
    refine wkc (And.intro @dI.eq_1 (And.intro @dL.eq_1 (And.intro @aG.eq_1 (And.intro @Cl.cells.eq_1 (And.intro @int_beq (And.intro @int_bne (And.intro @tx_beq (And.intro @tx_bne (And.intro @q0' @h1))))))))) ?_
    show retQ _ _ _ _ _
    exact ⟨.inr rfl, _, _, rfl, rfl⟩
  rw [eqB_true q1] at h1
  by_cases q2 : x.out = y.out
  case neg =>
    rw [eqB_false q2] at h2
    rw [eqB_false (fun h => q2 (by rw [h]))]
    refine wkc (And.intro @dI.eq_1 (And.intro @dL.eq_1 (And.intro @aG.eq_1 (And.intro @Cl.cells.eq_1 (And.intro @int_beq (And.intro @int_bne (And.intro @tx_beq (And.intro @tx_bne (And.intro @q0' (And.intro @h1 @h2)))))))))) ?_
    show retQ _ _ _ _ _
    exact ⟨.inr rfl, _, _, rfl, rfl⟩
  rw [eqB_true q2] at h2
  by_cases q3 : x.loc = y.loc
  case neg =>
    rw [eqB_false q3] at h3
    rw [eqB_false (fun h => q3 (by rw [h]))]
    refine wkc (And.intro @dI.eq_1 (And.intro @dL.eq_1 (And.intro @aG.eq_1 (And.intro @Cl.cells.eq_1 (And.intro @int_beq (And.intro @int_bne (And.intro @tx_beq (And.intro @tx_bne (And.intro @q0' (And.intro @h1 (And.intro @h2 @h3))))))))))) ?_
    show retQ _ _ _ _ _
    exact ⟨.inr rfl, _, _, rfl, rfl⟩
  rw [eqB_true q3] at h3
  by_cases q4 : x.mems.length = y.mems.length
  case neg =>
    have q4' : ((x.mems.length : Int) = y.mems.length) = False := eq_false (by omega)
    rw [eqB_false (fun h => q4 (by rw [h]))]
    refine wkc (And.intro @dI.eq_1 (And.intro @dL.eq_1 (And.intro @aG.eq_1 (And.intro @Cl.cells.eq_1 (And.intro @int_beq (And.intro @int_bne (And.intro @tx_beq (And.intro @tx_bne (And.intro @q0' (And.intro @h1 (And.intro @h2 (And.intro @h3 (And.intro @q4 @q4'))))))))))))) ?_
    show retQ _ _ _ _ _
    exact ⟨.inr rfl, _, _, rfl, rfl⟩
  have q4' : ((x.mems.length : Int) = y.mems.length) = True := eq_true (by omega)
  by_cases q5 : x.ins.length = y.ins.length
  case neg =>
    have q5' : ((x.ins.length : Int) = y.ins.length) = False := eq_false (by omega)
    rw [eqB_false (fun h => q5 (by rw [h]))]
    refine wkc (And.intro @dI.eq_1 (And.intro @dL.eq_1 (And.intro @aG.eq_1 (And.intro @Cl.cells.eq_1 (And.intro @int_beq (And.intro @int_bne (And.intro @tx_beq (And.intro @tx_bne (And.intro @q0' (And.intro @h1 (And.intro @h2 (And.intro @h3 (And.intro @q4 (And.intro @q4' (And.intro @q5 @q5'))))))))))))))) ?_
    show retQ _ _ _ _ _
    exact ⟨.inr rfl, _, _, rfl, rfl⟩
  have q5' : ((x.ins.length : Int) = y.ins.length) = True := eq_true (by omega)
  refine wkc (And.intro @dI.eq_1 (And.intro @dL.eq_1 (And.intro @aG.eq_1 (And.intro @Cl.cells.eq_1 (And.intro @int_beq (And.intro @int_bne (And.intro @tx_beq (And.intro @tx_bne (And.intro @q0' (And.intro @h1 (And.intro @h2 (And.intro @h3 (And.intro @q4 (And.intro @q4' (And.intro @q5 @q5'))))))))))))))) ?_
  have p0 := q0
  have p1 := q1
  have p2 := q2
  have p3 := q3
  have p4 := q4
  have p5 := q5
  apply WP.loop' (I := fun D s => ∃ j : Nat, j + D = x.mems.length ∧ x.mems.take j = y.mems.take j ∧ ∃ c, s = ⟨[(2, .ptr 0 0 0), (3, .ptr 1 1 0), (5, dI j)], [(0, ⟨0, false, x.cells.map .d⟩), (1, ⟨1, false, y.cells.map .d⟩)], 2, c, 0, []⟩) (d := x.mems.length)
  · exact ⟨0, by simp, by simp, _, st_eq (by simp [dI]) (by simp [Cl.cells])⟩
  rintro D _ ⟨j, hj, he, cc, rfl⟩
  refine wk (And.intro @dI.eq_1 (And.intro @dL.eq_1 @Cl.cells.eq_1)) ?_
  show WP _ _ _ _ _ _
  refine WP.cond _ rfl (fun hb => ?_) (fun hb => ?_)
  · simp at hb
    have hb' : j < x.mems.length := by omega
    have hb2 : j < y.mems.length := by omega
    obtain ⟨u, hu, hum, x1⟩ := at_lt hb'
    obtain ⟨w, hv, hvm, x2⟩ := at_lt hb2
    have e1 := encM_at hu
    have e2 := encM_at hv
    have hw := w_succ hb' (by omega)
    have s1 := take_snoc hu
    have s2 := take_snoc hv
    by_cases q0 : u.nm = w.nm
    case neg =>
      have q0' := eq_false q0
      rw [eqB_false (fun hh => absurd (congrArg Cl.mems hh) (ne_at hu hv fun h => q0 (by rw [h])))]
      refine wkc (And.intro @dI.eq_1 (And.intro @dL.eq_1 (And.intro @Cl.cells.eq_1 (And.intro @Mm.cells.eq_1 (And.intro @x1 (And.intro @x2 (And.intro @e1 (And.intro @e2 (And.intro @int_beq (And.intro @int_bne (And.intro @tx_beq (And.intro @tx_bne @q0')))))))))))) ?_
      show retQ _ _ _ _ _
      exact ⟨.inr rfl, _, _, rfl, rfl⟩
    have q0' := eq_true q0
    by_cases q1 : u.t = w.t
    case neg =>
      have q1' := eq_false q1
      rw [eqB_false (fun hh => absurd (congrArg Cl.mems hh) (ne_at hu hv fun h => q1 (by rw [h])))]
      refine wkc (And.intro @dI.eq_1 (And.intro @dL.eq_1 (And.intro @Cl.cells.eq_1 (And.intro @Mm.cells.eq_1 (And.intro @x1 (And.intro @x2 (And.intro @e1 (And.intro @e2 (And.intro @int_beq (And.intro @int_bne (And.intro @tx_beq (And.intro @tx_bne (And.intro @q0' @q1'))))))))))))) ?_
      show retQ _ _ _ _ _
      exact ⟨.inr rfl, _, _, rfl, rfl⟩
    have q1' := eq_true q1
    by_cases q2 : u.ini = w.ini
    case neg =>
      have q2' := eq_false q2
      rw [eqB_false (fun hh => absurd (congrArg Cl.mems hh) (ne_at hu hv fun h => q2 (by rw [h])))]
      refine wkc (And.intro @dI.eq_1 (And.intro @dL.eq_1 (And.intro @Cl.cells.eq_1 (And.intro @Mm.cells.eq_1 (And.intro @x1 (And.intro @x2 (And.intro @e1 (And.intro @e2 (And.intro @int_beq (And.intro @int_bne (And.intro @tx_beq (And.intro @tx_bne (And.intro @q0' (And.intro @q1' @q2')))))))))))))) ?_
      show retQ _ _ _ _ _
      exact ⟨.inr rfl, _, _, rfl, rfl⟩
    have q2' := eq_true q2
    have hxy : u = w := Mm.ext' q0 q1 q2
    refine wkc (And.intro @dI.eq_1 (And.intro @dL.eq_1 (And.intro @Cl.cells.eq_1 (And.intro @Mm.cells.eq_1 (And.intro @x1 (And.intro @x2 (And.intro @e1 (And.intro @e2 (And.intro @int_beq (And.intro @int_bne (And.intro @tx_beq (And.intro @tx_bne (And.intro @q0' (And.intro @q1' @q2')))))))))))))) ?_
    refine loop_next (by simp [hw]; exact Is.rfl) ?_
    exact ⟨D - 1, by omega, j + 1, by omega, by rw [s1, s2, he, hxy], _, st_eq (by simp [dI]) (by simp [Cl.cells])⟩
  · simp at hb
    have hje : j = x.mems.length := by omega
    rw [hje, eq_of_take p4] at he
    have hme := he
    refine wkc (And.intro @dI.eq_1 (And.intro @dL.eq_1 @Cl.cells.eq_1)) ?_
    apply WP.loop' (I := fun D s => ∃ j : Nat, j + D = x.ins.length ∧ x.ins.take j = y.ins.take j ∧ ∃ c, s = ⟨[(2, .ptr 0 0 0), (3, .ptr 1 1 0), (6, dI j)], [(0, ⟨0, false, x.cells.map .d⟩), (1, ⟨1, false, y.cells.map .d⟩)], 2, c, 0, []⟩) (d := x.ins.length)
    · exact ⟨0, by simp, by simp, _, st_eq (by simp [dI]) (by simp [Cl.cells])⟩
    rintro D _ ⟨j, hj, he, cc, rfl⟩
    refine wk (And.intro @dI.eq_1 (And.intro @dL.eq_1 @Cl.cells.eq_1)) ?_
    show WP _ _ _ _ _ _
    refine WP.cond _ rfl (fun hb => ?_) (fun hb => ?_)
    · simp at hb
      have hb' : j < x.ins.length := by omega
      have hb2 : j < y.ins.length := by omega
      obtain ⟨u, hu, hum, x1⟩ := at_lt hb'
      obtain ⟨w, hv, hvm, x2⟩ := at_lt hb2
      have e1 := encJ_at hu
      have e2 := encJ_at hv
      have hw := w_succ hb' (by omega)
      have s1 := take_snoc hu
      have s2 := take_snoc hv
      by_cases q0 : u.nm = w.nm
      case neg =>
        have q0' := eq_false q0
        rw [eqB_false (fun hh => absurd (congrArg Cl.ins hh) (ne_at hu hv fun h => q0 (by rw [h])))]
        refine wkc (And.intro @dI.eq_1 (And.intro @dL.eq_1 (And.intro @Cl.cells.eq_1 (And.intro @Ii.cells.eq_1 (And.intro @x1 (And.intro @x2 (And.intro @e1 (And.intro @e2 (And.intro @int_beq (And.intro @int_bne (And.intro @tx_beq (And.intro @tx_bne @q0')))))))))))) ?_
        show retQ _ _ _ _ _
        exact ⟨.inr rfl, _, _, rfl, rfl⟩
      have q0' := eq_true q0
      by_cases q1 : u.cl = w.cl
      case neg =>
        have q1' := eq_false q1
        rw [eqB_false (fun hh => absurd (congrArg Cl.ins hh) (ne_at hu hv fun h => q1 (by rw [h])))]
        refine wkc (And.intro @dI.eq_1 (And.intro @dL.eq_1 (And.intro @Cl.cells.eq_1 (And.intro @Ii.cells.eq_1 (And.intro @x1 (And.intro @x2 (And.intro @e1 (And.intro @e2 (And.intro @int_beq (And.intro @int_bne (And.intro @tx_beq (And.intro @tx_bne (And.intro @q0' @q1'))))))))))))) ?_
        show retQ _ _ _ _ _
        exact ⟨.inr rfl, _, _, rfl, rfl⟩
      have q1' := eq_true q1
      have hxy : u = w := Ii.ext' q0 q1
      refine wkc (And.intro @dI.eq_1 (And.intro @dL.eq_1 (And.intro @Cl.cells.eq_1 (And.intro @Ii.cells.eq_1 (And.intro @x1 (And.intro @x2 (And.intro @e1 (And.intro @e2 (And.intro @int_beq (And.intro @int_bne (And.intro @tx_beq (And.intro @tx_bne (And.intro @q0' @q1'))))))))))))) ?_
      refine loop_next (by simp [hw]; exact Is.rfl) ?_
      exact ⟨D - 1, by omega, j + 1, by omega, by rw [s1, s2, he, hxy], _, st_eq (by simp [dI]) (by simp [Cl.cells])⟩
    · simp at hb
      have hje : j = x.ins.length := by omega
      rw [hje, eq_of_take p5] at he
      by_cases q6 : x.step = y.step
      · rw [eqB_true q6] at h6
        rw [eqB_true (Cl.ext' p0 p1 p2 p3 hme he q6)]
        refine wkc (And.intro @dI.eq_1 (And.intro @dL.eq_1 (And.intro @Cl.cells.eq_1 @h6))) ?_
        show retQ _ _ _ _ _
        exact ⟨.inr rfl, _, _, rfl, rfl⟩
      · rw [eqB_false q6] at h6
        rw [eqB_false (fun h => q6 (by rw [h]))]
        refine wkc (And.intro @dI.eq_1 (And.intro @dL.eq_1 (And.intro @Cl.cells.eq_1 @h6))) ?_
        show retQ _ _ _ _ _
        exact ⟨.inr rfl, _, _, rfl, rfl⟩

/-- Enumerations as a program without nodes. -/
def pE (l : List En) : V := .agg [.d (.slice (encE l)), .d (.slice [])]
structure Wl where
  en : List En
theorem kf49 (r : Nat) : Ob.keep 49 r = Ob.k49 r := by kernel_rfl
attribute [local simp] kf49 Ob.k49
set_option maxHeartbeats 4000000 in
theorem rq49_den (x y : Wl) (ha : szE x.en ≤ MX) (hb0 : szE y.en ≤ MX) : den Tryz.prog Ob.cfg 49 [pE x.en, pE y.en] = some (dB (eqB x.en y.en)) := by
  unfold MX at ha hb0
  have k1 := len_szE x.en
  have k2 := len_szE y.en
  unfold pE
  refine den_wp Tryz.func49 rfl (by kernel_rfl) rfl rfl ?_
  by_cases hl : x.en.length = y.en.length
  case neg =>
    have hl2 : ((x.en.length : Int) = y.en.length) = False := eq_false (by omega)
    rw [eqB_false (fun h => hl (by rw [h]))]
    refine wkc (And.intro @dL.eq_1 (And.intro @hl (And.intro @hl2 @int_bne))) ?_
    show retQ _ _ _ _ _
    exact ⟨.inr rfl, _, _, rfl, rfl⟩
  have hl2 : ((x.en.length : Int) = y.en.length) = True := eq_true (by omega)
  refine wkc (And.intro @dL.eq_1 (And.intro @hl (And.intro @hl2 @int_bne))) ?_
  apply WP.loop' (I := fun D s => ∃ j : Nat, j + D = x.en.length ∧ x.en.take j = y.en.take j ∧ ∃ c, s = ⟨[(2, .ptr 0 0 0), (3, .ptr 1 1 0), (5, dI j)], [(0, ⟨0, false, [.d (.slice (encE x.en)), .d (.slice [])]⟩), (1, ⟨1, false, [.d (.slice (encE y.en)), .d (.slice [])]⟩)], 2, c, 0, []⟩) (d := x.en.length)
  · exact ⟨0, by simp, by simp, _, st_eq (by simp [dI]) (by simp [hl])⟩
  rintro D _ ⟨j, hj, he, cc, rfl⟩
  refine wk (And.intro @dI.eq_1 (And.intro @dL.eq_1 @hl)) ?_
  show WP _ _ _ _ _ _
  refine WP.cond _ rfl (fun hb => ?_) (fun hb => ?_)
  · simp at hb
    have hb' : j < x.en.length := by omega
    have hb2 : j < y.en.length := by omega
    obtain ⟨u, hu, hum, x1⟩ := at_lt hb'
    obtain ⟨w, hv, hvm, x2⟩ := at_lt hb2
    have e1 := encE_at hu
    have e2 := encE_at hv
    have hw := w_succ hb' (by omega)
    have s1 := take_snoc hu
    have s2 := take_snoc hv
    have h2 := rq95_den u.tags w.tags (by have := mem_szE hum; have := len_szS u.tags; unfold En.sz at *; unfold MX; omega) (by have := mem_szE hvm; have := len_szS w.tags; unfold En.sz at *; unfold MX; omega)
    simp only [aG, X.cells_eq, Y.cells_eq, Dc.cells, En.cells, Cl.cells, Mm.cells, Ii.cells, List.map_cons, List.map_nil, dB, dL] at h2
    by_cases q0 : u.nm = w.nm
    case neg =>
      have q0' := eq_false q0
      rw [eqB_false (ne_at hu hv fun h => q0 (by rw [h]))]
      refine wkc (And.intro @dI.eq_1 (And.intro @dL.eq_1 (And.intro @hl (And.intro @En.cells.eq_1 (And.intro @x1 (And.intro @x2 (And.intro @e1 (And.intro @e2 (And.intro @int_beq (And.intro @int_bne (And.intro @tx_beq (And.intro @tx_bne @q0')))))))))))) ?_
      show retQ _ _ _ _ _
      exact ⟨.inr rfl, _, _, rfl, rfl⟩
    have q0' := eq_true q0
    by_cases q1 : u.tags = w.tags
    case neg =>
      rw [eqB_false q1] at h2
      rw [eqB_false (ne_at hu hv fun h => q1 (by rw [h]))]
      refine wkc (And.intro @dI.eq_1 (And.intro @dL.eq_1 (And.intro @hl (And.intro @En.cells.eq_1 (And.intro @x1 (And.intro @x2 (And.intro @e1 (And.intro @e2 (And.intro @int_beq (And.intro @int_bne (And.intro @tx_beq (And.intro @tx_bne (And.intro @q0' @h2))))))))))))) ?_
      show retQ _ _ _ _ _
      exact ⟨.inr rfl, _, _, rfl, rfl⟩
    rw [eqB_true q1] at h2
    have hxy : u = w := En.ext' q0 q1
    refine wkc (And.intro @dI.eq_1 (And.intro @dL.eq_1 (And.intro @hl (And.intro @En.cells.eq_1 (And.intro @x1 (And.intro @x2 (And.intro @e1 (And.intro @e2 (And.intro @int_beq (And.intro @int_bne (And.intro @tx_beq (And.intro @tx_bne (And.intro @q0' @h2))))))))))))) ?_
    refine loop_next (by simp [hw]; exact Is.rfl) ?_
    exact ⟨D - 1, by omega, j + 1, by omega, by rw [s1, s2, he, hxy], _, st_eq (by simp [dI]) (by simp [hl])⟩
  · simp at hb
    have hje : j = x.en.length := by omega
    rw [hje, eq_of_take hl] at he
    rw [eqB_true he]
    refine wkc (And.intro @dI.eq_1 @dL.eq_1) ?_
    apply WP.loop' (I := fun D s => ∃ c, s = ⟨[(2, .ptr 0 0 0), (3, .ptr 1 1 0), (6, dI 0)], [(0, ⟨0, false, [.d (.slice (encE x.en)), .d (.slice [])]⟩), (1, ⟨1, false, [.d (.slice (encE y.en)), .d (.slice [])]⟩)], 2, c, 0, []⟩) (d := 0)
    · exact ⟨_, st_eq (by simp [dI]) rfl⟩
    rintro D _ ⟨c, rfl⟩
    refine wkc (And.intro @dI.eq_1 @dL.eq_1) ?_
    show retQ _ _ _ _ _
    exact ⟨.inr rfl, _, _, rfl, rfl⟩

theorem kf17 (r : Nat) : Ob.keep 17 r = Ob.k17 r := by kernel_rfl
attribute [local simp] kf17 Ob.k17
set_option maxHeartbeats 4000000 in
theorem rsame17 (x y : Oc) (ha : x.sz ≤ MX) (hb0 : y.sz ≤ MX) : den Tryz.prog Ob.cfg 17 [aG x.cells, aG y.cells] = some (dB (eqB x y)) := by
  unfold Oc.sz MX at ha hb0
  have k1 := len_szC x.cl
  have k2 := len_szC y.cl
  have h1 := rq49_den ⟨x.en⟩ ⟨y.en⟩ (by show szE x.en ≤ MX; unfold MX; omega) (by show szE y.en ≤ MX; unfold MX; omega)
  simp only [pE, dB] at h1
  refine den_wp Tryz.func17 rfl (by kernel_rfl) rfl rfl ?_
  by_cases q0 : x.cl.length = y.cl.length
  case neg =>
    have q0' : ((x.cl.length : Int) = y.cl.length) = False := eq_false (by omega)
    rw [eqB_false (fun h => q0 (by rw [h]))]
    refine wkc (And.intro @dI.eq_1 (And.intro @dL.eq_1 (And.intro @aG.eq_1 (And.intro @Oc.cells.eq_1 (And.intro @int_beq (And.intro @int_bne (And.intro @tx_beq (And.intro @tx_bne (And.intro @q0 @q0'))))))))) ?_
    show retQ _ _ _ _ _
    exact ⟨.inr rfl, _, _, rfl, rfl⟩
  have q0' : ((x.cl.length : Int) = y.cl.length) = True := eq_true (by omega)
  by_cases q1 : x.en = y.en
  case neg =>
    rw [eqB_false q1] at h1
    rw [eqB_false (fun h => q1 (by rw [h]))]
    refine wkc (And.intro @dI.eq_1 (And.intro @dL.eq_1 (And.intro @aG.eq_1 (And.intro @Oc.cells.eq_1 (And.intro @int_beq (And.intro @int_bne (And.intro @tx_beq (And.intro @tx_bne (And.intro @q0 (And.intro @q0' @h1)))))))))) ?_
    show retQ _ _ _ _ _
    exact ⟨.inr rfl, _, _, rfl, rfl⟩
  rw [eqB_true q1] at h1
  refine wkc (And.intro @dI.eq_1 (And.intro @dL.eq_1 (And.intro @aG.eq_1 (And.intro @Oc.cells.eq_1 (And.intro @int_beq (And.intro @int_bne (And.intro @tx_beq (And.intro @tx_bne (And.intro @q0 (And.intro @q0' @h1)))))))))) ?_
  have p0 := q0
  have p1 := q1
  apply WP.loop' (I := fun D s => ∃ j : Nat, j + D = x.cl.length ∧ x.cl.take j = y.cl.take j ∧ ∃ c, s = ⟨[(2, .ptr 0 0 0), (3, .ptr 1 1 0), (5, dI j)], [(0, ⟨0, false, x.cells.map .d⟩), (1, ⟨1, false, y.cells.map .d⟩)], 2, c, 0, []⟩) (d := x.cl.length)
  · exact ⟨0, by simp, by simp, _, st_eq (by simp [dI]) (by simp [Oc.cells])⟩
  rintro D _ ⟨j, hj, he, cc, rfl⟩
  refine wk (And.intro @dI.eq_1 (And.intro @dL.eq_1 @Oc.cells.eq_1)) ?_
  show WP _ _ _ _ _ _
  refine WP.cond _ rfl (fun hb => ?_) (fun hb => ?_)
  · simp at hb
    have hb' : j < x.cl.length := by omega
    have hb2 : j < y.cl.length := by omega
    obtain ⟨u, hu, hum, x1⟩ := at_lt hb'
    obtain ⟨w, hv, hvm, x2⟩ := at_lt hb2
    have e1 := encC_at hu
    have e2 := encC_at hv
    have hw := w_succ hb' (by omega)
    have s1 := take_snoc hu
    have s2 := take_snoc hv
    have hd := rq50_den u w (by have := mem_szC hum; unfold MX; omega) (by have := mem_szC hvm; unfold MX; omega)
    simp only [aG, X.cells_eq, Y.cells_eq, Dc.cells, En.cells, Cl.cells, Mm.cells, Ii.cells, List.map_cons, List.map_nil, dB, dL] at hd
    by_cases q : u = w
    · rw [eqB_true q] at hd
      refine wkc (And.intro @dI.eq_1 (And.intro @dL.eq_1 (And.intro @Oc.cells.eq_1 (And.intro @Cl.cells.eq_1 (And.intro @x1 (And.intro @x2 (And.intro @e1 (And.intro @e2 @hd)))))))) ?_
      refine loop_next (by simp [hw]; exact Is.rfl) ?_
      exact ⟨D - 1, by omega, j + 1, by omega, by rw [s1, s2, he, q], _, st_eq (by simp [dI]) (by simp [Oc.cells])⟩
    · rw [eqB_false q] at hd
      rw [eqB_false (fun h => ne_at hu hv q (by rw [h]))]
      refine wkc (And.intro @dI.eq_1 (And.intro @dL.eq_1 (And.intro @Oc.cells.eq_1 (And.intro @Cl.cells.eq_1 (And.intro @x1 (And.intro @x2 (And.intro @e1 (And.intro @e2 @hd)))))))) ?_
      show retQ _ _ _ _ _
      exact ⟨.inr rfl, _, _, rfl, rfl⟩
  · simp at hb
    have hje : j = x.cl.length := by omega
    rw [hje, eq_of_take p0] at he
    rw [eqB_true (Oc.ext' p1 he)]
    refine wk True.intro ?_
    show retQ _ _ _ _ _
    exact ⟨.inr rfl, _, _, rfl, rfl⟩

end Go.Ac
