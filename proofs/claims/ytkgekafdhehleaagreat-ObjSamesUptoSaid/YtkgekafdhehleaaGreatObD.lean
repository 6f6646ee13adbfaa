/- Equality of object code: the program's. -/
import Derived.Test.YtkgekafdhehleaaGreatAcA
import Derived.Test.YtkgekafdhehleaaGreatAcB
import Derived.Test.YtkgekafdhehleaaGreatAcDM
import Derived.Test.YtkgekafdhehleaaGreatAcGM
import Derived.Test.YtkgekafdhehleaaGreatAcJM
import Derived.Test.YtkgekafdhehleaaGreatAcQM
import Derived.Test.YtkgekafdhehleaaGreatAcUM
import Derived.Test.YtkgekafdhehleaaGreatAcThM
import Derived.Test.YtkgekafdhehleaaGreatObHn
import Derived.Test.YtkgekafdhehleaaGreatObRM
import Derived.Test.YtkgekafdhehleaaGreatObCM
import Derived.Calls
import Derived.Orders
import Derived.Laws.World
import Derived.Laws.Sem
import Derived.Laws.Cells
import Derived.Laws.Append
import GoSem.ClaimData
import Derived.Laws.Tables
import Derived.Laws.Slices
import Derived.Laws.Strings
import Derived.Laws.Small
import Derived.KernelRfl
import Derived.Test.YtkgekafdhehleaaGreatChecked
set_option linter.unusedVariables false
set_option linter.unusedSimpArgs false
set_option maxRecDepth 4000
set_option linter.unusedSimpArgs false
set_option linter.unusedVariables false
namespace Go.Ac
open Go.Proofs
theorem X.ext {x y : X} (h0 : x.k = y.k) (h1 : x.o = y.o) (h2 : x.t = y.t) (h3 : x.v = y.v) (h4 : x.nm = y.nm) (h5 : x.args = y.args) : x = y := by
  cases x; cases y; simp only [X.k, X.o, X.t, X.v, X.nm, X.args] at *; subst h0 h1 h2 h3 h4 h5; rfl
theorem Y.ext {x y : Y} (h0 : x.k = y.k) (h1 : x.nm = y.nm) (h2 : x.t = y.t) (h3 : x.r = y.r) (h4 : x.outs = y.outs) (h5 : x.args = y.args) (h6 : x.brs = y.brs) : x = y := by
  cases x; cases y; simp only [Y.k, Y.nm, Y.t, Y.r, Y.outs, Y.args, Y.brs] at *; subst h0 h1 h2 h3 h4 h5 h6; rfl
theorem Dc.ext' {x y : Dc} (h0 : x.nm = y.nm) (h1 : x.t = y.t) (h2 : x.ck = y.ck) : x = y := by cases x; cases y; simp only at *; subst h0 h1 h2; rfl
theorem En.ext' {x y : En} (h0 : x.nm = y.nm) (h1 : x.tags = y.tags) : x = y := by cases x; cases y; simp only at *; subst h0 h1; rfl
theorem Cl.ext' {x y : Cl} (h0 : x.nm = y.nm) (h1 : x.inn = y.inn) (h2 : x.out = y.out) (h3 : x.loc = y.loc) (h4 : x.mems = y.mems) (h5 : x.ins = y.ins) (h6 : x.step = y.step) : x = y := by cases x; cases y; simp only at *; subst h0 h1 h2 h3 h4 h5 h6; rfl
theorem Oc.ext' {x y : Oc} (h0 : x.en = y.en) (h1 : x.cl = y.cl) : x = y := by cases x; cases y; simp only at *; subst h0 h1; rfl

theorem kf93 (r : Nat) : Ob.keep 93 r = Ob.k93 r := by kernel_rfl
attribute [local simp] kf93 Ob.k93
set_option maxHeartbeats 1000000 in
theorem eqf93_den (a b : List X) (ha : a.length ≤ MX) (hb0 : b.length ≤ MX) (h : ∀ x, x ∈ a → ∀ y, y ∈ b → den Tryz.prog Ob.cfg 92 [aG x.cells, aG y.cells] = some (dB (eqB x y))) :
    den Tryz.prog Ob.cfg 93 [dL (encX a), dL (encX b), .fn 92 []] = some (dB (eqB a b)) := by
  unfold MX at ha hb0
  refine den_wp Tryz.func93 rfl (by kernel_rfl) rfl rfl ?_
  by_cases hl : a.length = b.length
  case neg =>
    have hl2 : ((a.length : Int) = b.length) = False := eq_false (by omega)
    rw [eqB_false (fun h => hl (by rw [h]))]
    refine wkc (And.intro @dL.eq_1 (And.intro @hl (And.intro @hl2 @int_bne))) ?_
    show retQ _ _ _ _ _
    exact ⟨.inr rfl, _, _, rfl, rfl⟩
  have hl2 : ((a.length : Int) = b.length) = True := eq_true (by omega)
  refine wkc (And.intro @dL.eq_1 (And.intro @hl (And.intro @hl2 @int_bne))) ?_
  apply WP.loop' (I := fun D s => ∃ j : Nat, j + D = a.length ∧ a.take j = b.take j ∧ SE [(1, dL (encX b)), (2, .fn 92 []), (15, dL (encX a)), (16, dI a.length), (17, dI j)] [] 0 s) (d := a.length)
  · exact ⟨0, by simp, by simp, SE.mk (by simp [dI, dL, hl]) rfl⟩
  rintro D _ ⟨j, hj, he, cc, rfl⟩
  refine wk (And.intro @dI.eq_1 (And.intro @dL.eq_1 @hl)) ?_
  show WP _ _ _ _ _ _
  refine WP.cond _ rfl (fun hb => ?_) (fun hb => ?_)
  · simp at hb
    have hb' : j < a.length := by omega
    have hb2 : j < b.length := by omega
    obtain ⟨x, hx, hxm, x1⟩ := at_lt hb'
    obtain ⟨y, hy, hym, x2⟩ := at_lt hb2
    have e1 := encX_at hx
    have e2 := encX_at hy
    have hw := w_succ hb' (by omega)
    have s1 := take_snoc hx
    have s2 := take_snoc hy
    have hd := h x hxm y hym
    simp only [aG, X.cells_eq, Y.cells_eq, Dc.cells, En.cells, Cl.cells, List.map_cons, List.map_nil, dB, dL] at hd
    by_cases q0 : x = y
    · rw [eqB_true q0] at hd
      refine wkc (And.intro @dI.eq_1 (And.intro @dL.eq_1 (And.intro @X.cells_eq (And.intro @x1 (And.intro @x2 (And.intro @e1 (And.intro @e2 (And.intro @hd @hl)))))))) ?_
      refine loop_next (by simp [hw]; exact Is.rfl) ?_
      exact ⟨D - 1, by omega, j + 1, by omega, by rw [s1, s2, he, q0], SE.mk (by simp [dI, dL, hw, hl]) rfl⟩
    · rw [eqB_false q0] at hd
      rw [eqB_false (fun h => by subst h; rw [hx] at hy; exact q0 (Option.some.inj hy))]
      refine wkc (And.intro @dI.eq_1 (And.intro @dL.eq_1 (And.intro @X.cells_eq (And.intro @x1 (And.intro @x2 (And.intro @e1 (And.intro @e2 (And.intro @hd @hl)))))))) ?_
      show retQ _ _ _ _ _
      exact ⟨.inr rfl, _, _, rfl, rfl⟩
  · simp at hb
    have hje : j = a.length := by omega
    rw [hje, eq_of_take hl] at he
    rw [eqB_true he]
    refine wk True.intro ?_
    show retQ _ _ _ _ _
    exact ⟨.inr rfl, _, _, rfl, rfl⟩

theorem kf92 (r : Nat) : Ob.keep 92 r = Ob.k92 r := by kernel_rfl
attribute [local simp] kf92 Ob.k92
set_option maxHeartbeats 1000000 in
theorem same92 : ∀ (N : Nat) (x y : X), x.sz < N → x.sz ≤ MX → y.sz ≤ MX → den Tryz.prog Ob.cfg 92 [aG x.cells, aG y.cells] = some (dB (eqB x y)) := by
  intro N
  induction N with
  | zero => intro x y h; omega
  | succ N ih =>
  intro x y hN hx0 hy0
  rw [X.sz_eq] at hN hx0 hy0
  have l1 := len_szX x.args
  have l2 := len_szX y.args
  have h5 := eqf93_den x.args y.args (by omega) (by omega) fun z hz w hw => ih z w (by have := mem_szX hz; omega) (by have := mem_szX hz; omega) (by have := mem_szX hw; omega)
  simp only [aG, X.cells_eq, Y.cells_eq, Dc.cells, En.cells, Cl.cells, List.map_cons, List.map_nil, dB, dL] at h5
  simp only [aG, X.cells_eq, List.map_cons, List.map_nil]
  refine den_wp Tryz.func92 rfl (by kernel_rfl) rfl rfl ?_
  by_cases q0 : x.k = y.k
  case neg =>
    have q0' := eq_false q0
    rw [eqB_false (fun h => q0 (by rw [h]))]
    refine wkc (And.intro @dL.eq_1 (And.intro @X.cells_eq (And.intro @int_beq (And.intro @tx_beq @q0')))) ?_
    show retQ _ _ _ _ _
    exact ⟨.inr rfl, _, _, rfl, rfl⟩
  have q0' := eq_true q0
  by_cases q1 : x.o = y.o
  case neg =>
    have q1' := eq_false q1
    rw [eqB_false (fun h => q1 (by rw [h]))]
    refine wkc (And.intro @dL.eq_1 (And.intro @X.cells_eq (And.intro @int_beq (And.intro @tx_beq (And.intro @q0' @q1'))))) ?_
    show retQ _ _ _ _ _
    exact ⟨.inr rfl, _, _, rfl, rfl⟩
  have q1' := eq_true q1
  by_cases q2 : x.t = y.t
  case neg =>
    have q2' := eq_false q2
    rw [eqB_false (fun h => q2 (by rw [h]))]
    refine wkc (And.intro @dL.eq_1 (And.intro @X.cells_eq (And.intro @int_beq (And.intro @tx_beq (And.intro @q0' (And.intro @q1' @q2')))))) ?_
    show retQ _ _ _ _ _
    exact ⟨.inr rfl, _, _, rfl, rfl⟩
  have q2' := eq_true q2
  by_cases q3 : x.v = y.v
  case neg =>
    have q3' := eq_false q3
    rw [eqB_false (fun h => q3 (by rw [h]))]
    refine wkc (And.intro @dL.eq_1 (And.intro @X.cells_eq (And.intro @int_beq (And.intro @tx_beq (And.intro @q0' (And.intro @q1' (And.intro @q2' @q3'))))))) ?_
    show retQ _ _ _ _ _
    exact ⟨.inr rfl, _, _, rfl, rfl⟩
  have q3' := eq_true q3
  by_cases q4 : x.nm = y.nm
  case neg =>
    have q4' := eq_false q4
    rw [eqB_false (fun h => q4 (by rw [h]))]
    refine wkc (And.intro @dL.eq_1 (And.intro @X.cells_eq (And.intro @int_beq (And.intro @tx_beq (And.intro @q0' (And.intro @q1' (And.intro @q2' (And.intro @q3' @q4')))))))) ?_
    show retQ _ _ _ _ _
    exact ⟨.inr rfl, _, _, rfl, rfl⟩
  have q4' := eq_true q4
  by_cases q5 : x.args = y.args
  case neg =>
    rw [eqB_false q5] at h5
    rw [eqB_false (fun h => q5 (by rw [h]))]
    refine wkc (And.intro @dL.eq_1 (And.intro @X.cells_eq (And.intro @int_beq (And.intro @tx_beq (And.intro @q0' (And.intro @q1' (And.intro @q2' (And.intro @q3' (And.intro @q4' @h5))))))))) ?_
    show retQ _ _ _ _ _
    exact ⟨.inr rfl, _, _, rfl, rfl⟩
  rw [eqB_true q5] at h5
  rw [eqB_true (X.ext q0 q1 q2 q3 q4 q5)]
  refine wkc (And.intro @dL.eq_1 (And.intro @X.cells_eq (And.intro @int_beq (And.intro @tx_beq (And.intro @q0' (And.intro @q1' (And.intro @q2' (And.intro @q3' (And.intro @q4' @h5))))))))) ?_
  show retQ _ _ _ _ _
  exact ⟨.inr rfl, _, _, rfl, rfl⟩

theorem kf94 (r : Nat) : Ob.keep 94 r = Ob.k94 r := by kernel_rfl
attribute [local simp] kf94 Ob.k94
set_option maxHeartbeats 1000000 in
theorem eqf94_den (a b : List (List Y)) (ha : a.length ≤ MX) (hb0 : b.length ≤ MX) (h : ∀ x, x ∈ a → ∀ y, y ∈ b → den Tryz.prog Ob.cfg 48 [dL (encY x), dL (encY y)] = some (dB (eqB x y))) :
    den Tryz.prog Ob.cfg 94 [dL (encB a), dL (encB b), .fn 48 []] = some (dB (eqB a b)) := by
  unfold MX at ha hb0
  refine den_wp Tryz.func94 rfl (by kernel_rfl) rfl rfl ?_
  by_cases hl : a.length = b.length
  case neg =>
    have hl2 : ((a.length : Int) = b.length) = False := eq_false (by omega)
    rw [eqB_false (fun h => hl (by rw [h]))]
    refine wkc (And.intro @dL.eq_1 (And.intro @hl (And.intro @hl2 @int_bne))) ?_
    show retQ _ _ _ _ _
    exact ⟨.inr rfl, _, _, rfl, rfl⟩
  have hl2 : ((a.length : Int) = b.length) = True := eq_true (by omega)
  refine wkc (And.intro @dL.eq_1 (And.intro @hl (And.intro @hl2 @int_bne))) ?_
  apply WP.loop' (I := fun D s => ∃ j : Nat, j + D = a.length ∧ a.take j = b.take j ∧ SE [(1, dL (encB b)), (2, .fn 48 []), (15, dL (encB a)), (16, dI a.length), (17, dI j)] [] 0 s) (d := a.length)
  · exact ⟨0, by simp, by simp, SE.mk (by simp [dI, dL, hl]) rfl⟩
  rintro D _ ⟨j, hj, he, cc, rfl⟩
  refine wk (And.intro @dI.eq_1 (And.intro @dL.eq_1 @hl)) ?_
  show WP _ _ _ _ _ _
  refine WP.cond _ rfl (fun hb => ?_) (fun hb => ?_)
  · simp at hb
    have hb' : j < a.length := by omega
    have hb2 : j < b.length := by omega
    obtain ⟨x, hx, hxm, x1⟩ := at_lt hb'
    obtain ⟨y, hy, hym, x2⟩ := at_lt hb2
    have e1 := encB_at hx
    have e2 := encB_at hy
    have hw := w_succ hb' (by omega)
    have s1 := take_snoc hx
    have s2 := take_snoc hy
    have hd := h x hxm y hym
    simp only [aG, X.cells_eq, Y.cells_eq, Dc.cells, En.cells, Cl.cells, List.map_cons, List.map_nil, dB, dL] at hd
    by_cases q0 : x = y
    · rw [eqB_true q0] at hd
      refine wkc (And.intro @dI.eq_1 (And.intro @dL.eq_1 (And.intro @x1 (And.intro @x2 (And.intro @e1 (And.intro @e2 (And.intro @hd @hl))))))) ?_
      refine loop_next (by simp [hw]; exact Is.rfl) ?_
      exact ⟨D - 1, by omega, j + 1, by omega, by rw [s1, s2, he, q0], SE.mk (by simp [dI, dL, hw, hl]) rfl⟩
    · rw [eqB_false q0] at hd
      rw [eqB_false (fun h => by subst h; rw [hx] at hy; exact q0 (Option.some.inj hy))]
      refine wkc (And.intro @dI.eq_1 (And.intro @dL.eq_1 (And.intro @x1 (And.intro @x2 (And.intro @e1 (And.intro @e2 (And.intro @hd @hl))))))) ?_
      show retQ _ _ _ _ _
      exact ⟨.inr rfl, _, _, rfl, rfl⟩
  · simp at hb
    have hje : j = a.length := by omega
    rw [hje, eq_of_take hl] at he
    rw [eqB_true he]
    refine wk True.intro ?_
    show retQ _ _ _ _ _
    exact ⟨.inr rfl, _, _, rfl, rfl⟩

theorem kf90 (r : Nat) : Ob.keep 90 r = Ob.k90 r := by kernel_rfl
attribute [local simp] kf90 Ob.k90
set_option maxHeartbeats 1000000 in
theorem eqf90_den (a b : List Y) (ha : a.length ≤ MX) (hb0 : b.length ≤ MX) (h : ∀ x, x ∈ a → ∀ y, y ∈ b → den Tryz.prog Ob.cfg 91 [aG x.cells, aG y.cells] = some (dB (eqB x y))) :
    den Tryz.prog Ob.cfg 90 [dL (encY a), dL (encY b), .fn 91 []] = some (dB (eqB a b)) := by
  unfold MX at ha hb0
  refine den_wp Tryz.func90 rfl (by kernel_rfl) rfl rfl ?_
  by_cases hl : a.length = b.length
  case neg =>
    have hl2 : ((a.length : Int) = b.length) = False := eq_false (by omega)
    rw [eqB_false (fun h => hl (by rw [h]))]
    refine wkc (And.intro @dL.eq_1 (And.intro @hl (And.intro @hl2 @int_bne))) ?_
    show retQ _ _ _ _ _
    exact ⟨.inr rfl, _, _, rfl, rfl⟩
  have hl2 : ((a.length : Int) = b.length) = True := eq_true (by omega)
  refine wkc (And.intro @dL.eq_1 (And.intro @hl (And.intro @hl2 @int_bne))) ?_
  apply WP.loop' (I := fun D s => ∃ j : Nat, j + D = a.length ∧ a.take j = b.take j ∧ SE [(1, dL (encY b)), (2, .fn 91 []), (15, dL (encY a)), (16, dI a.length), (17, dI j)] [] 0 s) (d := a.length)
  · exact ⟨0, by simp, by simp, SE.mk (by simp [dI, dL, hl]) rfl⟩
  rintro D _ ⟨j, hj, he, cc, rfl⟩
  refine wk (And.intro @dI.eq_1 (And.intro @dL.eq_1 @hl)) ?_
  show WP _ _ _ _ _ _
  refine WP.cond _ rfl (fun hb => ?_) (fun hb => ?_)
  · simp at hb
    have hb' : j < a.length := by omega
    have hb2 : j < b.length := by omega
    obtain ⟨x, hx, hxm, x1⟩ := at_lt hb'
    obtain ⟨y, hy, hym, x2⟩ := at_lt hb2
    have e1 := encY_at hx
    have e2 := encY_at hy
    have hw := w_succ hb' (by omega)
    have s1 := take_snoc hx
    have s2 := take_snoc hy
    have hd := h x hxm y hym
    simp only [aG, X.cells_eq, Y.cells_eq, Dc.cells, En.cells, Cl.cells, List.map_cons, List.map_nil, dB, dL] at hd
    by_cases q0 : x = y
    · rw [eqB_true q0] at hd
      refine wkc (And.intro @dI.eq_1 (And.intro @dL.eq_1 (And.intro @Y.cells_eq (And.intro @x1 (And.intro @x2 (And.intro @e1 (And.intro @e2 (And.intro @hd @hl)))))))) ?_
      refine loop_next (by simp [hw]; exact Is.rfl) ?_
      exact ⟨D - 1, by omega, j + 1, by omega, by rw [s1, s2, he, q0], SE.mk (by simp [dI, dL, hw, hl]) rfl⟩
    · rw [eqB_false q0] at hd
      rw [eqB_false (fun h => by subst h; rw [hx] at hy; exact q0 (Option.some.inj hy))]
      refine wkc (And.intro @dI.eq_1 (And.intro @dL.eq_1 (And.intro @Y.cells_eq (And.intro @x1 (And.intro @x2 (And.intro @e1 (And.intro @e2 (And.intro @hd @hl)))))))) ?_
      show retQ _ _ _ _ _
      exact ⟨.inr rfl, _, _, rfl, rfl⟩
  · simp at hb
    have hje : j = a.length := by omega
    rw [hje, eq_of_take hl] at he
    rw [eqB_true he]
    refine wk True.intro ?_
    show retQ _ _ _ _ _
    exact ⟨.inr rfl, _, _, rfl, rfl⟩

theorem kf48 (r : Nat) : Ob.keep 48 r = Ob.k48 r := by kernel_rfl
theorem kf91 (r : Nat) : Ob.keep 91 r = Ob.k91 r := by kernel_rfl
attribute [local simp] kf48 Ob.k48 kf91 Ob.k91
set_option maxHeartbeats 2000000 in
theorem same48 : ∀ (N : Nat) (a b : List Y), szY a < N → szY a ≤ MX → szY b ≤ MX → den Tryz.prog Ob.cfg 48 [dL (encY a), dL (encY b)] = some (dB (eqB a b)) := by
  intro N
  induction N with
  | zero => intro x y h; omega
  | succ N ih =>
  intro a b hN hx0 hy0
  have l1 := len_szY a
  have l2 := len_szY b
  have h := eqf90_den a b (by omega) (by omega) fun x hx y hy => by
    have m1 := mem_szY hx
    have m2 := mem_szY hy
    rw [Y.sz_eq] at m1 m2
    have k1 := len_szS x.outs
    have k2 := len_szS y.outs
    have k3 := len_szX x.args
    have k4 := len_szX y.args
    have k5 := len_szB x.brs
    have k6 := len_szB y.brs
    have h3 := same92 (x.r.sz + 1) x.r y.r (by omega) (by omega) (by omega)
    have h4 := eq42_den x.outs y.outs (by omega) (by omega)
    have h5 := eqf93_den x.args y.args (by omega) (by omega) fun z hz w hw => same92 (z.sz + 1) z w (by omega) (by have := mem_szX hz; omega) (by have := mem_szX hw; omega)
    have h6 := eqf94_den x.brs y.brs (by omega) (by omega) fun z hz w hw => ih z w (by have := mem_szB hz; omega) (by have := mem_szB hz; omega) (by have := mem_szB hw; omega)
    simp only [aG, X.cells_eq, Y.cells_eq, Dc.cells, En.cells, Cl.cells, List.map_cons, List.map_nil, dB, dL] at h3 h4 h5 h6
    simp only [aG, Y.cells_eq, List.map_cons, List.map_nil]
    refine den_wp Tryz.func91 rfl (by kernel_rfl) rfl rfl ?_
    by_cases q0 : x.k = y.k
    case neg =>
      have q0' := eq_false q0
      rw [eqB_false (fun h => q0 (by rw [h]))]
      refine wkc (And.intro @dL.eq_1 (And.intro @Y.cells_eq (And.intro @int_beq (And.intro @tx_beq @q0')))) ?_
      show retQ _ _ _ _ _
      exact ⟨.inr rfl, _, _, rfl, rfl⟩
    have q0' := eq_true q0
    by_cases q1 : x.nm = y.nm
    case neg =>
      have q1' := eq_false q1
      rw [eqB_false (fun h => q1 (by rw [h]))]
      refine wkc (And.intro @dL.eq_1 (And.intro @Y.cells_eq (And.intro @int_beq (And.intro @tx_beq (And.intro @q0' @q1'))))) ?_
      show retQ _ _ _ _ _
      exact ⟨.inr rfl, _, _, rfl, rfl⟩
    have q1' := eq_true q1
    by_cases q2 : x.t = y.t
    case neg =>
      have q2' := eq_false q2
      rw [eqB_false (fun h => q2 (by rw [h]))]
      refine wkc (And.intro @dL.eq_1 (And.intro @Y.cells_eq (And.intro @int_beq (And.intro @tx_beq (And.intro @q0' (And.intro @q1' @q2')))))) ?_
      show retQ _ _ _ _ _
      exact ⟨.inr rfl, _, _, rfl, rfl⟩
    have q2' := eq_true q2
    by_cases q3 : x.r = y.r
    case neg =>
      rw [eqB_false q3] at h3
      rw [eqB_false (fun h => q3 (by rw [h]))]
      refine wkc (And.intro @dL.eq_1 (And.intro @Y.cells_eq (And.intro @int_beq (And.intro @tx_beq (And.intro @q0' (And.intro @q1' (And.intro @q2' @h3))))))) ?_
      show retQ _ _ _ _ _
      exact ⟨.inr rfl, _, _, rfl, rfl⟩
    rw [eqB_true q3] at h3
    by_cases q4 : x.outs = y.outs
    case neg =>
      rw [eqB_false q4] at h4
      rw [eqB_false (fun h => q4 (by rw [h]))]
      refine wkc (And.intro @dL.eq_1 (And.intro @Y.cells_eq (And.intro @int_beq (And.intro @tx_beq (And.intro @q0' (And.intro @q1' (And.intro @q2' (And.intro @h3 @h4)))))))) ?_
      show retQ _ _ _ _ _
      exact ⟨.inr rfl, _, _, rfl, rfl⟩
    rw [eqB_true q4] at h4
    by_cases q5 : x.args = y.args
    case neg =>
      rw [eqB_false q5] at h5
      rw [eqB_false (fun h => q5 (by rw [h]))]
      refine wkc (And.intro @dL.eq_1 (And.intro @Y.cells_eq (And.intro @int_beq (And.intro @tx_beq (And.intro @q0' (And.intro @q1' (And.intro @q2' (And.intro @h3 (And.intro @h4 @h5))))))))) ?_
      show retQ _ _ _ _ _
      exact ⟨.inr rfl, _, _, rfl, rfl⟩
    rw [eqB_true q5] at h5
    by_cases q6 : x.brs = y.brs
    case neg =>
      rw [eqB_false q6] at h6
      rw [eqB_false (fun h => q6 (by rw [h]))]
      refine wkc (And.intro @dL.eq_1 (And.intro @Y.cells_eq (And.intro @int_beq (And.intro @tx_beq (And.intro @q0' (And.intro @q1' (And.intro @q2' (And.intro @h3 (And.intro @h4 (And.intro @h5 @h6)))))))))) ?_
      show retQ _ _ _ _ _
      exact ⟨.inr rfl, _, _, rfl, rfl⟩
    rw [eqB_true q6] at h6
    rw [eqB_true (Y.ext q0 q1 q2 q3 q4 q5 q6)]
    refine wkc (And.intro @dL.eq_1 (And.intro @Y.cells_eq (And.intro @int_beq (And.intro @tx_beq (And.intro @q0' (And.intro @q1' (And.intro @q2' (And.intro @h3 (And.intro @h4 (And.intro @h5 @h6)))))))))) ?_
    show retQ _ _ _ _ _
    exact ⟨.inr rfl, _, _, rfl, rfl⟩
  simp only [dL, dB] at h
  refine den_wp Tryz.func48 rfl (by kernel_rfl) rfl rfl ?_
  refine wkc (And.intro @dL.eq_1 @h) ?_
  show retQ _ _ _ _ _
  exact ⟨.inr rfl, _, _, rfl, rfl⟩

theorem kf87 (r : Nat) : Ob.keep 87 r = Ob.k87 r := by kernel_rfl
attribute [local simp] kf87 Ob.k87
set_option maxHeartbeats 1000000 in
theorem eqf87_den (a b : List Dc) (ha : a.length ≤ MX) (hb0 : b.length ≤ MX) (h : ∀ x, x ∈ a → ∀ y, y ∈ b → den Tryz.prog Ob.cfg 88 [aG x.cells, aG y.cells] = some (dB (eqB x y))) :
    den Tryz.prog Ob.cfg 87 [dL (encD a), dL (encD b), .fn 88 []] = some (dB (eqB a b)) := by
  unfold MX at ha hb0
  refine den_wp Tryz.func87 rfl (by kernel_rfl) rfl rfl ?_
  by_cases hl : a.length = b.length
  case neg =>
    have hl2 : ((a.length : Int) = b.length) = False := eq_false (by omega)
    rw [eqB_false (fun h => hl (by rw [h]))]
    refine wkc (And.intro @dL.eq_1 (And.intro @hl (And.intro @hl2 @int_bne))) ?_
    show retQ _ _ _ _ _
    exact ⟨.inr rfl, _, _, rfl, rfl⟩
  have hl2 : ((a.length : Int) = b.length) = True := eq_true (by omega)
  refine wkc (And.intro @dL.eq_1 (And.intro @hl (And.intro @hl2 @int_bne))) ?_
  apply WP.loop' (I := fun D s => ∃ j : Nat, j + D = a.length ∧ a.take j = b.take j ∧ SE [(1, dL (encD b)), (2, .fn 88 []), (15, dL (encD a)), (16, dI a.length), (17, dI j)] [] 0 s) (d := a.length)
  · exact ⟨0, by simp, by simp, SE.mk (by simp [dI, dL, hl]) rfl⟩
  rintro D _ ⟨j, hj, he, cc, rfl⟩
  refine wk (And.intro @dI.eq_1 (And.intro @dL.eq_1 @hl)) ?_
  show WP _ _ _ _ _ _
  refine WP.cond _ rfl (fun hb => ?_) (fun hb => ?_)
  · simp at hb
    have hb' : j < a.length := by omega
    have hb2 : j < b.length := by omega
    obtain ⟨x, hx, hxm, x1⟩ := at_lt hb'
    obtain ⟨y, hy, hym, x2⟩ := at_lt hb2
    have e1 := encD_at hx
    have e2 := encD_at hy
    have hw := w_succ hb' (by omega)
    have s1 := take_snoc hx
    have s2 := take_snoc hy
    have hd := h x hxm y hym
    simp only [aG, X.cells_eq, Y.cells_eq, Dc.cells, En.cells, Cl.cells, List.map_cons, List.map_nil, dB, dL] at hd
    by_cases q0 : x = y
    · rw [eqB_true q0] at hd
      refine wkc (And.intro @dI.eq_1 (And.intro @dL.eq_1 (And.intro @Dc.cells.eq_1 (And.intro @x1 (And.intro @x2 (And.intro @e1 (And.intro @e2 (And.intro @hd @hl)))))))) ?_
      refine loop_next (by simp [hw]; exact Is.rfl) ?_
      exact ⟨D - 1, by omega, j + 1, by omega, by rw [s1, s2, he, q0], SE.mk (by simp [dI, dL, hw, hl]) rfl⟩
    · rw [eqB_false q0] at hd
      rw [eqB_false (fun h => by subst h; rw [hx] at hy; exact q0 (Option.some.inj hy))]
      refine wkc (And.intro @dI.eq_1 (And.intro @dL.eq_1 (And.intro @Dc.cells.eq_1 (And.intro @x1 (And.intro @x2 (And.intro @e1 (And.intro @e2 (And.intro @hd @hl)))))))) ?_
      show retQ _ _ _ _ _
      exact ⟨.inr rfl, _, _, rfl, rfl⟩
  · simp at hb
    have hje : j = a.length := by omega
    rw [hje, eq_of_take hl] at he
    rw [eqB_true he]
    refine wk True.intro ?_
    show retQ _ _ _ _ _
    exact ⟨.inr rfl, _, _, rfl, rfl⟩

theorem kf88 (r : Nat) : Ob.keep 88 r = Ob.k88 r := by kernel_rfl
theorem kf45 (r : Nat) : Ob.keep 45 r = Ob.k45 r := by kernel_rfl
attribute [local simp] kf88 Ob.k88 kf45 Ob.k45
set_option maxHeartbeats 1000000 in
theorem same45 (a b : List Dc) (ha : szD a ≤ MX) (hb : szD b ≤ MX) : den Tryz.prog Ob.cfg 45 [dL (encD a), dL (encD b)] = some (dB (eqB a b)) := by
  have l1 := len_szD a
  have l2 := len_szD b
  have h := eqf87_den a b (by omega) (by omega) fun x hx y hy => by
    have m1 := mem_szD hx
    have m2 := mem_szD hy
    unfold Dc.sz at m1 m2
    have k1 := len_szO x.ck
    have k2 := len_szO y.ck
    have h2 := eq89_den x.ck y.ck (by omega) (by omega)
    simp only [aG, X.cells_eq, Y.cells_eq, Dc.cells, En.cells, Cl.cells, List.map_cons, List.map_nil, dB, dL] at h2
    simp only [aG, Dc.cells, List.map_cons, List.map_nil]
    refine den_wp Tryz.func88 rfl (by kernel_rfl) rfl rfl ?_
    by_cases q0 : x.nm = y.nm
    case neg =>
      have q0' := eq_false q0
      rw [eqB_false (fun h => q0 (by rw [h]))]
      refine wkc (And.intro @dL.eq_1 (And.intro @Dc.cells.eq_1 (And.intro @int_beq (And.intro @tx_beq @q0')))) ?_
      show retQ _ _ _ _ _
      exact ⟨.inr rfl, _, _, rfl, rfl⟩
    have q0' := eq_true q0
    by_cases q1 : x.t = y.t
    case neg =>
      have q1' := eq_false q1
      rw [eqB_false (fun h => q1 (by rw [h]))]
      refine wkc (And.intro @dL.eq_1 (And.intro @Dc.cells.eq_1 (And.intro @int_beq (And.intro @tx_beq (And.intro @q0' @q1'))))) ?_
      show retQ _ _ _ _ _
      exact ⟨.inr rfl, _, _, rfl, rfl⟩
    have q1' := eq_true q1
    by_cases q2 : x.ck = y.ck
    case neg =>
      rw [eqB_false q2] at h2
      rw [eqB_false (fun h => q2 (by rw [h]))]
      refine wkc (And.intro @dL.eq_1 (And.intro @Dc.cells.eq_1 (And.intro @int_beq (And.intro @tx_beq (And.intro @q0' (And.intro @q1' @h2)))))) ?_
      show retQ _ _ _ _ _
      exact ⟨.inr rfl, _, _, rfl, rfl⟩
    rw [eqB_true q2] at h2
    rw [eqB_true (Dc.ext' q0 q1 q2)]
    refine wkc (And.intro @dL.eq_1 (And.intro @Dc.cells.eq_1 (And.intro @int_beq (And.intro @tx_beq (And.intro @q0' (And.intro @q1' @h2)))))) ?_
    show retQ _ _ _ _ _
    exact ⟨.inr rfl, _, _, rfl, rfl⟩
  simp only [dL, dB] at h
  refine den_wp Tryz.func45 rfl (by kernel_rfl) rfl rfl ?_
  refine wkc (And.intro @dL.eq_1 @h) ?_
  show retQ _ _ _ _ _
  exact ⟨.inr rfl, _, _, rfl, rfl⟩

theorem kf40 (r : Nat) : Ob.keep 40 r = Ob.k40 r := by kernel_rfl
attribute [local simp] kf40 Ob.k40
set_option maxHeartbeats 1000000 in
theorem eqf40_den (a b : List En) (ha : a.length ≤ MX) (hb0 : b.length ≤ MX) (h : ∀ x, x ∈ a → ∀ y, y ∈ b → den Tryz.prog Ob.cfg 41 [aG x.cells, aG y.cells] = some (dB (eqB x y))) :
    den Tryz.prog Ob.cfg 40 [dL (encE a), dL (encE b), .fn 41 []] = some (dB (eqB a b)) := by
  unfold MX at ha hb0
  refine den_wp Tryz.func40 rfl (by kernel_rfl) rfl rfl ?_
  by_cases hl : a.length = b.length
  case neg =>
    have hl2 : ((a.length : Int) = b.length) = False := eq_false (by omega)
    rw [eqB_false (fun h => hl (by rw [h]))]
    refine wkc (And.intro @dL.eq_1 (And.intro @hl (And.intro @hl2 @int_bne))) ?_
    show retQ _ _ _ _ _
    exact ⟨.inr rfl, _, _, rfl, rfl⟩
  have hl2 : ((a.length : Int) = b.length) = True := eq_true (by omega)
  refine wkc (And.intro @dL.eq_1 (And.intro @hl (And.intro @hl2 @int_bne))) ?_
  apply WP.loop' (I := fun D s => ∃ j : Nat, j + D = a.length ∧ a.take j = b.take j ∧ SE [(1, dL (encE b)), (2, .fn 41 []), (15, dL (encE a)), (16, dI a.length), (17, dI j)] [] 0 s) (d := a.length)
  · exact ⟨0, by simp, by simp, SE.mk (by simp [dI, dL, hl]) rfl⟩
  rintro D _ ⟨j, hj, he, cc, rfl⟩
  refine wk (And.intro @dI.eq_1 (And.intro @dL.eq_1 @hl)) ?_
  show WP _ _ _ _ _ _
  refine WP.cond _ rfl (fun hb => ?_) (fun hb => ?_)
  · simp at hb
    have hb' : j < a.length := by omega
    have hb2 : j < b.length := by omega
    obtain ⟨x, hx, hxm, x1⟩ := at_lt hb'
    obtain ⟨y, hy, hym, x2⟩ := at_lt hb2
    have e1 := encE_at hx
    have e2 := encE_at hy
    have hw := w_succ hb' (by omega)
    have s1 := take_snoc hx
    have s2 := take_snoc hy
    have hd := h x hxm y hym
    simp only [aG, X.cells_eq, Y.cells_eq, Dc.cells, En.cells, Cl.cells, List.map_cons, List.map_nil, dB, dL] at hd
    by_cases q0 : x = y
    · rw [eqB_true q0] at hd
      refine wkc (And.intro @dI.eq_1 (And.intro @dL.eq_1 (And.intro @En.cells.eq_1 (And.intro @x1 (And.intro @x2 (And.intro @e1 (And.intro @e2 (And.intro @hd @hl)))))))) ?_
      refine loop_next (by simp [hw]; exact Is.rfl) ?_
      exact ⟨D - 1, by omega, j + 1, by omega, by rw [s1, s2, he, q0], SE.mk (by simp [dI, dL, hw, hl]) rfl⟩
    · rw [eqB_false q0] at hd
      rw [eqB_false (fun h => by subst h; rw [hx] at hy; exact q0 (Option.some.inj hy))]
      refine wkc (And.intro @dI.eq_1 (And.intro @dL.eq_1 (And.intro @En.cells.eq_1 (And.intro @x1 (And.intro @x2 (And.intro @e1 (And.intro @e2 (And.intro @hd @hl)))))))) ?_
      show retQ _ _ _ _ _
      exact ⟨.inr rfl, _, _, rfl, rfl⟩
  · simp at hb
    have hje : j = a.length := by omega
    rw [hje, eq_of_take hl] at he
    rw [eqB_true he]
    refine wk True.intro ?_
    show retQ _ _ _ _ _
    exact ⟨.inr rfl, _, _, rfl, rfl⟩

theorem kf43 (r : Nat) : Ob.keep 43 r = Ob.k43 r := by kernel_rfl
attribute [local simp] kf43 Ob.k43
set_option maxHeartbeats 1000000 in
theorem eqf43_den (a b : List Cl) (ha : a.length ≤ MX) (hb0 : b.length ≤ MX) (h : ∀ x, x ∈ a → ∀ y, y ∈ b → den Tryz.prog Ob.cfg 44 [aG x.cells, aG y.cells] = some (dB (eqB x y))) :
    den Tryz.prog Ob.cfg 43 [dL (encC a), dL (encC b), .fn 44 []] = some (dB (eqB a b)) := by
  unfold MX at ha hb0
  refine den_wp Tryz.func43 rfl (by kernel_rfl) rfl rfl ?_
  by_cases hl : a.length = b.length
  case neg =>
    have hl2 : ((a.length : Int) = b.length) = False := eq_false (by omega)
    rw [eqB_false (fun h => hl (by rw [h]))]
    refine wkc (And.intro @dL.eq_1 (And.intro @hl (And.intro @hl2 @int_bne))) ?_
    show retQ _ _ _ _ _
    exact ⟨.inr rfl, _, _, rfl, rfl⟩
  have hl2 : ((a.length : Int) = b.length) = True := eq_true (by omega)
  refine wkc (And.intro @dL.eq_1 (And.intro @hl (And.intro @hl2 @int_bne))) ?_
  apply WP.loop' (I := fun D s => ∃ j : Nat, j + D = a.length ∧ a.take j = b.take j ∧ SE [(1, dL (encC b)), (2, .fn 44 []), (15, dL (encC a)), (16, dI a.length), (17, dI j)] [] 0 s) (d := a.length)
  · exact ⟨0, by simp, by simp, SE.mk (by simp [dI, dL, hl]) rfl⟩
  rintro D _ ⟨j, hj, he, cc, rfl⟩
  refine wk (And.intro @dI.eq_1 (And.intro @dL.eq_1 @hl)) ?_
  show WP _ _ _ _ _ _
  refine WP.cond _ rfl (fun hb => ?_) (fun hb => ?_)
  · simp at hb
    have hb' : j < a.length := by omega
    have hb2 : j < b.length := by omega
    obtain ⟨x, hx, hxm, x1⟩ := at_lt hb'
    obtain ⟨y, hy, hym, x2⟩ := at_lt hb2
    have e1 := encC_at hx
    have e2 := encC_at hy
    have hw := w_succ hb' (by omega)
    have s1 := take_snoc hx
    have s2 := take_snoc hy
    have hd := h x hxm y hym
    simp only [aG, X.cells_eq, Y.cells_eq, Dc.cells, En.cells, Cl.cells, List.map_cons, List.map_nil, dB, dL] at hd
    by_cases q0 : x = y
    · rw [eqB_true q0] at hd
      refine wkc (And.intro @dI.eq_1 (And.intro @dL.eq_1 (And.intro @Cl.cells.eq_1 (And.intro @x1 (And.intro @x2 (And.intro @e1 (And.intro @e2 (And.intro @hd @hl)))))))) ?_
      refine loop_next (by simp [hw]; exact Is.rfl) ?_
      exact ⟨D - 1, by omega, j + 1, by omega, by rw [s1, s2, he, q0], SE.mk (by simp [dI, dL, hw, hl]) rfl⟩
    · rw [eqB_false q0] at hd
      rw [eqB_false (fun h => by subst h; rw [hx] at hy; exact q0 (Option.some.inj hy))]
      refine wkc (And.intro @dI.eq_1 (And.intro @dL.eq_1 (And.intro @Cl.cells.eq_1 (And.intro @x1 (And.intro @x2 (And.intro @e1 (And.intro @e2 (And.intro @hd @hl)))))))) ?_
      show retQ _ _ _ _ _
      exact ⟨.inr rfl, _, _, rfl, rfl⟩
  · simp at hb
    have hje : j = a.length := by omega
    rw [hje, eq_of_take hl] at he
    rw [eqB_true he]
    refine wk True.intro ?_
    show retQ _ _ _ _ _
    exact ⟨.inr rfl, _, _, rfl, rfl⟩

theorem kf41 (r : Nat) : Ob.keep 41 r = Ob.k41 r := by kernel_rfl
theorem kf44 (r : Nat) : Ob.keep 44 r = Ob.k44 r := by kernel_rfl
theorem kf16 (r : Nat) : Ob.keep 16 r = Ob.k16 r := by kernel_rfl
attribute [local simp] kf41 Ob.k41 kf44 Ob.k44 kf16 Ob.k16
set_option maxHeartbeats 2000000 in
theorem same16 (x y : Oc) (ha : x.sz ≤ MX) (hb : y.sz ≤ MX) : den Tryz.prog Ob.cfg 16 [aG x.cells, aG y.cells] = some (dB (eqB x y)) := by
  unfold Oc.sz at ha hb
  have l1 := len_szE x.en
  have l2 := len_szE y.en
  have l3 := len_szC x.cl
  have l4 := len_szC y.cl
  have h0 := eqf40_den x.en y.en (by omega) (by omega) fun x hx y hy => by
    have m1 := mem_szE hx
    have m2 := mem_szE hy
    unfold En.sz at m1 m2
    have k1 := len_szS x.tags
    have k2 := len_szS y.tags
    have h1 := eq42_den x.tags y.tags (by omega) (by omega)
    simp only [aG, X.cells_eq, Y.cells_eq, Dc.cells, En.cells, Cl.cells, List.map_cons, List.map_nil, dB, dL] at h1
    simp only [aG, En.cells, List.map_cons, List.map_nil]
    refine den_wp Tryz.func41 rfl (by kernel_rfl) rfl rfl ?_
    by_cases q0 : x.nm = y.nm
    case neg =>
      have q0' := eq_false q0
      rw [eqB_false (fun h => q0 (by rw [h]))]
      refine wkc (And.intro @dL.eq_1 (And.intro @En.cells.eq_1 (And.intro @int_beq (And.intro @tx_beq @q0')))) ?_
      show retQ _ _ _ _ _
      exact ⟨.inr rfl, _, _, rfl, rfl⟩
    have q0' := eq_true q0
    by_cases q1 : x.tags = y.tags
    case neg =>
      rw [eqB_false q1] at h1
      rw [eqB_false (fun h => q1 (by rw [h]))]
      refine wkc (And.intro @dL.eq_1 (And.intro @En.cells.eq_1 (And.intro @int_beq (And.intro @tx_beq (And.intro @q0' @h1))))) ?_
      show retQ _ _ _ _ _
      exact ⟨.inr rfl, _, _, rfl, rfl⟩
    rw [eqB_true q1] at h1
    rw [eqB_true (En.ext' q0 q1)]
    refine wkc (And.intro @dL.eq_1 (And.intro @En.cells.eq_1 (And.intro @int_beq (And.intro @tx_beq (And.intro @q0' @h1))))) ?_
    show retQ _ _ _ _ _
    exact ⟨.inr rfl, _, _, rfl, rfl⟩
  have h1 := eqf43_den x.cl y.cl (by omega) (by omega) fun x hx y hy => by
    have m1 := mem_szC hx
    have m2 := mem_szC hy
    unfold Cl.sz at m1 m2
    have k1 := len_szM x.mems
    have k2 := len_szM y.mems
    have k3 := len_szJ x.ins
    have k4 := len_szJ y.ins
    have h1 := same45 x.inn y.inn (by omega) (by omega)
    have h2 := same45 x.out y.out (by omega) (by omega)
    have h3 := same45 x.loc y.loc (by omega) (by omega)
    have h4 := eq46_den x.mems y.mems (by omega) (by omega)
    have h5 := eq47_den x.ins y.ins (by omega) (by omega)
    have h6 := same48 (szY x.step + 1) x.step y.step (by omega) (by omega) (by omega)
    simp only [aG, X.cells_eq, Y.cells_eq, Dc.cells, En.cells, Cl.cells, List.map_cons, List.map_nil, dB, dL] at h1 h2 h3 h4 h5 h6
    simp only [aG, Cl.cells, List.map_cons, List.map_nil]
    refine den_wp Tryz.func44 rfl (by kernel_rfl) rfl rfl ?_
    by_cases q0 : x.nm = y.nm
    case neg =>
      have q0' := eq_false q0
      rw [eqB_false (fun h => q0 (by rw [h]))]
      refine wkc (And.intro @dL.eq_1 (And.intro @Cl.cells.eq_1 (And.intro @int_beq (And.intro @tx_beq @q0')))) ?_
      show retQ _ _ _ _ _
      exact ⟨.inr rfl, _, _, rfl, rfl⟩
    have q0' := eq_true q0
    by_cases q1 : x.inn = y.inn
    case neg =>
      rw [eqB_false q1] at h1
      rw [eqB_false (fun h => q1 (by rw [h]))]
      refine wkc (And.intro @dL.eq_1 (And.intro @Cl.cells.eq_1 (And.intro @int_beq (And.intro @tx_beq (And.intro @q0' @h1))))) ?_
      show retQ _ _ _ _ _
      exact ⟨.inr rfl, _, _, rfl, rfl⟩
    rw [eqB_true q1] at h1
    by_cases q2 : x.out = y.out
    case neg =>
      rw [eqB_false q2] at h2
      rw [eqB_false (fun h => q2 (by rw [h]))]
      refine wkc (And.intro @dL.eq_1 (And.intro @Cl.cells.eq_1 (And.intro @int_beq (And.intro @tx_beq (And.intro @q0' (And.intro @h1 @h2)))))) ?_
      show retQ _ _ _ _ _
      exact ⟨.inr rfl, _, _, rfl, rfl⟩
    rw [eqB_true q2] at h2
    by_cases q3 : x.loc = y.loc
    case neg =>
      rw [eqB_false q3] at h3
      rw [eqB_false (fun h => q3 (by rw [h]))]
      refine wkc (And.intro @dL.eq_1 (And.intro @Cl.cells.eq_1 (And.intro @int_beq (And.intro @tx_beq (And.intro @q0' (And.intro @h1 (And.intro @h2 @h3))))))) ?_
      show retQ _ _ _ _ _
      exact ⟨.inr rfl, _, _, rfl, rfl⟩
    rw [eqB_true q3] at h3
    by_cases q4 : x.mems = y.mems
    case neg =>
      rw [eqB_false q4] at h4
      rw [eqB_false (fun h => q4 (by rw [h]))]
      refine wkc (And.intro @dL.eq_1 (And.intro @Cl.cells.eq_1 (And.intro @int_beq (And.intro @tx_beq (And.intro @q0' (And.intro @h1 (And.intro @h2 (And.intro @h3 @h4)))))))) ?_
      show retQ _ _ _ _ _
      exact ⟨.inr rfl, _, _, rfl, rfl⟩
    rw [eqB_true q4] at h4
    by_cases q5 : x.ins = y.ins
    case neg =>
      rw [eqB_false q5] at h5
      rw [eqB_false (fun h => q5 (by rw [h]))]
      refine wkc (And.intro @dL.eq_1 (And.intro @Cl.cells.eq_1 (And.intro @int_beq (And.intro @tx_beq (And.intro @q0' (And.intro @h1 (And.intro @h2 (And.intro @h3 (And.intro @h4 @h5))))))))) ?_
      show retQ _ _ _ _ _
      exact ⟨.inr rfl, _, _, rfl, rfl⟩
    rw [eqB_true q5] at h5
    by_cases q6 : x.step = y.step
    case neg =>
      rw [eqB_false q6] at h6
      rw [eqB_false (fun h => q6 (by rw [h]))]
      refine wkc (And.intro @dL.eq_1 (And.intro @Cl.cells.eq_1 (And.intro @int_beq (And.intro @tx_beq (And.intro @q0' (And.intro @h1 (And.intro @h2 (And.intro @h3 (And.intro @h4 (And.intro @h5 @h6)))))))))) ?_
      show retQ _ _ _ _ _
      exact ⟨.inr rfl, _, _, rfl, rfl⟩
    rw [eqB_true q6] at h6
    rw [eqB_true (Cl.ext' q0 q1 q2 q3 q4 q5 q6)]
    refine wkc (And.intro @dL.eq_1 (And.intro @Cl.cells.eq_1 (And.intro @int_beq (And.intro @tx_beq (And.intro @q0' (And.intro @h1 (And.intro @h2 (And.intro @h3 (And.intro @h4 (And.intro @h5 @h6)))))))))) ?_
    show retQ _ _ _ _ _
    exact ⟨.inr rfl, _, _, rfl, rfl⟩
  simp only [dL, dB] at h0 h1
  simp only [aG, Oc.cells, List.map_cons, List.map_nil]
  refine den_wp Tryz.func16 rfl (by kernel_rfl) rfl rfl ?_
  by_cases q0 : x.en = y.en
  case neg =>
    rw [eqB_false q0] at h0
    rw [eqB_false (fun h => q0 (by rw [h]))]
    refine wkc (And.intro @dL.eq_1 (And.intro @Oc.cells.eq_1 (And.intro @int_beq (And.intro @tx_beq @h0)))) ?_
    show retQ _ _ _ _ _
    exact ⟨.inr rfl, _, _, rfl, rfl⟩
  rw [eqB_true q0] at h0
  by_cases q1 : x.cl = y.cl
  case neg =>
    rw [eqB_false q1] at h1
    rw [eqB_false (fun h => q1 (by rw [h]))]
    refine wkc (And.intro @dL.eq_1 (And.intro @Oc.cells.eq_1 (And.intro @int_beq (And.intro @tx_beq (And.intro @h0 @h1))))) ?_
    show retQ _ _ _ _ _
    exact ⟨.inr rfl, _, _, rfl, rfl⟩
  rw [eqB_true q1] at h1
  rw [eqB_true (Oc.ext' q0 q1)]
  refine wkc (And.intro @dL.eq_1 (And.intro @Oc.cells.eq_1 (And.intro @int_beq (And.intro @tx_beq (And.intro @h0 @h1))))) ?_
  show retQ _ _ _ _ _
  exact ⟨.inr rfl, _, _, rfl, rfl⟩

end Go.Ac
