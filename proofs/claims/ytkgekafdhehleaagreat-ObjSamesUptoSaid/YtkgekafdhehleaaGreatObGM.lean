/- Is object code too large? One answer or the other. -/
import Derived.Test.YtkgekafdhehleaaGreatAcA
import Derived.Test.YtkgekafdhehleaaGreatAcB
import Derived.Test.YtkgekafdhehleaaGreatAcDM
import Derived.Test.YtkgekafdhehleaaGreatAcGM
import Derived.Test.YtkgekafdhehleaaGreatAcJM
import Derived.Test.YtkgekafdhehleaaGreatAcNM
import Derived.Test.YtkgekafdhehleaaGreatAcQM
import Derived.Test.YtkgekafdhehleaaGreatAcUM
import Derived.Test.YtkgekafdhehleaaGreatAcThM
import Derived.Test.YtkgekafdhehleaaGreatAcTx
import Derived.Test.YtkgekafdhehleaaGreatObHn
import Derived.Test.YtkgekafdhehleaaGreatObRM
import Derived.Test.YtkgekafdhehleaaGreatObCM
import Derived.Test.YtkgekafdhehleaaGreatObD
import Derived.Test.YtkgekafdhehleaaGreatObE
import Derived.Calls
import Derived.Orders
import Derived.Laws.World
import Derived.Laws.Sem
import Derived.Laws.Cells
import Derived.Laws.Append
import GoSem.ClaimData
import Derived.Laws.Tables
import Derived.Laws.Slices
import Derived.Laws.Strings
import Derived.Laws.Small
import Derived.KernelRfl
import Derived.Test.YtkgekafdhehleaaGreatChecked
set_option linter.unusedVariables false
set_option linter.unusedSimpArgs false
section
set_option maxRecDepth 4000
set_option linter.unusedSimpArgs false
set_option linter.unusedVariables false
namespace Go.Ac
open Go.Proofs
theorem den_ex {α : Type} {F : α → V} {f : FuncId} {fn : Func} {body : Code} {vs : List V} (hf : Tryz.prog.funcs[f]? = some fn) (hb : fn.body = some body) (hok : (Nat.ble vs.length fn.ntmps && codeOK fn.ntmps body) = true) (hthr : Ob.cfg.thr f = false) (hF : ∀ b, (closeT noLook (F b)).isSome = true)
    (h : WP Tryz.prog Ob.cfg f body ⟨envOf 0 vs, [], 0, 0, 0, []⟩ (fun e t => ∃ b, retQ Tryz.prog fn (F b) e t)) : ∃ b, den Tryz.prog Ob.cfg f vs = some (F b) := by
  obtain ⟨e, t, hr, b, hq⟩ := h
  exact ⟨b, den_wp hf hb hok hthr (hF b) ⟨e, t, hr, hq⟩⟩

theorem kf63 (r : Nat) : Ob.keep 63 r = Ob.k63 r := by kernel_rfl
theorem kf59 (r : Nat) : Ob.keep 59 r = Ob.k59 r := by kernel_rfl
theorem kf27 (r : Nat) : Ob.keep 27 r = Ob.k27 r := by kernel_rfl
theorem kf26 (r : Nat) : Ob.keep 26 r = Ob.k26 r := by kernel_rfl
theorem kf9 (r : Nat) : Ob.keep 9 r = Ob.k9 r := by kernel_rfl
attribute [local simp] kf63 Ob.k63 kf59 Ob.k59 kf27 Ob.k27 kf26 Ob.k26 kf9 Ob.k9
set_option maxHeartbeats 1000000 in
theorem w63 : ∀ (N : Nat) (x : X) (m : Int), x.sz < N → x.sz ≤ MX → ∃ n, den Tryz.prog Ob.cfg 63 [aG x.cells, dI m] = some (dI n) := by
  intro N
  induction N with
  | zero => intro x m h; omega
  | succ N ih =>
  intro x m hN hx0
  rw [X.sz_eq] at hN hx0
  have l1 := len_szX x.args
  unfold MX at hx0
  refine den_ex Tryz.func63 rfl (by kernel_rfl) rfl (fun _ => rfl) ?_
  refine wkc (And.intro @aG.eq_1 (And.intro @X.cells_eq @dI.eq_1)) ?_
  apply WP.loop' (I := fun D s => ∃ (j : Nat) (k : Int), j + D = x.args.length ∧ SE [(1, dI m), (2, .ptr 0 0 0), (5, dI k), (6, dI j)] [(0, ⟨0, false, x.cells.map .d⟩)] 1 s) (d := x.args.length)
  · exact ⟨0, 1, by simp, SE.mk (by simp [dI]) (by simp [X.cells_eq])⟩
  rintro D _ ⟨j, k, hj, cc, rfl⟩
  by_cases hb' : j < x.args.length
  · have c1 : ((j : Int) < x.args.length) = True := eq_true (by omega)
    have c1' : (j < x.args.length) = True := eq_true hb'
    by_cases hk : k < m
    · have c2 := eq_true hk
      obtain ⟨y, hy, hym, hix⟩ := at_lt hb'
      have hy' := encX_at hy
      have hw := w_succ hb' (by omega)
      obtain ⟨r, hr⟩ := ih y (IntKind.i64.wrap (m - k)) (by have := mem_szX hym; omega) (by have := mem_szX hym; unfold MX; omega)
      simp only [aG, X.cells_eq, List.map_cons, List.map_nil, dI] at hr
      refine wkc (And.intro @dI.eq_1 (And.intro @X.cells_eq (And.intro @c1 (And.intro @c1' @c2)))) ?_
      refine wkc (And.intro @dI.eq_1 (And.intro @X.cells_eq (And.intro @hix (And.intro @hy' @hr)))) ?_
      refine loop_next (by simp [hw]; exact Is.rfl) ?_
      exact ⟨D - 1, by omega, j + 1, _, by omega, SE.mk (by simp [dI, hw]; rfl) (by simp [X.cells_eq])⟩
    · have c2 := eq_false hk
      refine wkc (And.intro @dI.eq_1 (And.intro @X.cells_eq (And.intro @c1 (And.intro @c1' (And.intro @c2 (And.intro @maxV.eq_def (And.intro @maxI.eq_1 (And.intro @maxI.eq_2 (And.intro @maxI.eq_3 @maxI.eq_4))))))))) ?_
      exact ⟨_, .inr rfl, _, _, rfl, rfl⟩
  · have c1 : ((j : Int) < x.args.length) = False := eq_false (by omega)
    have c1' : (j < x.args.length) = False := eq_false hb'
    refine wkc (And.intro @dI.eq_1 (And.intro @X.cells_eq (And.intro @c1 (And.intro @c1' (And.intro @maxV.eq_def (And.intro @maxI.eq_1 (And.intro @maxI.eq_2 (And.intro @maxI.eq_3 @maxI.eq_4)))))))) ?_
    exact ⟨_, .inr rfl, _, _, rfl, rfl⟩

set_option maxHeartbeats 1000000 in
theorem w59 (l : List Dc) (m : Int) (hx0 : szD l ≤ MX) : ∃ n, den Tryz.prog Ob.cfg 59 [dL (encD l), dI m] = some (dI n) := by
  have l1 := len_szD l
  unfold MX at hx0
  refine den_ex Tryz.func59 rfl (by kernel_rfl) rfl (fun _ => rfl) ?_
  refine wkc (And.intro @dL.eq_1 @dI.eq_1) ?_
  apply WP.loop' (I := fun D s => ∃ (j : Nat) (k : Int), j + D = l.length ∧ SE [(0, dL (encD l)), (1, dI m), (5, dI k), (6, dI j)] [] 0 s) (d := l.length)
  · exact ⟨0, _, by simp, SE.mk (by simp [dI, dL]; rfl) rfl⟩
  rintro D _ ⟨j, k, hj, cc, rfl⟩
  by_cases hb' : j < l.length
  · have c1 : ((j : Int) < l.length) = True := eq_true (by omega)
    have c1' : (j < l.length) = True := eq_true hb'
    by_cases hk : k < m
    · have c2 := eq_true hk
      obtain ⟨y, hy, hym, hix⟩ := at_lt hb'
      have hy' := encD_at hy
      have hw := w_succ hb' (by omega)
      refine wkc (And.intro @dI.eq_1 (And.intro @dL.eq_1 (And.intro @c1 (And.intro @c1' @c2)))) ?_
      refine wkc (And.intro @dI.eq_1 (And.intro @dL.eq_1 (And.intro @Dc.cells.eq_1 (And.intro @hix @hy')))) ?_
      refine loop_next (by simp [hw]; exact Is.rfl) ?_
      exact ⟨D - 1, by omega, j + 1, _, by omega, SE.mk (by simp [dI, dL, hw]; rfl) rfl⟩
    · have c2 := eq_false hk
      refine wkc (And.intro @dI.eq_1 (And.intro @dL.eq_1 (And.intro @c1 (And.intro @c1' @c2)))) ?_
      exact ⟨_, .inr rfl, _, _, rfl, rfl⟩
  · have c1 : ((j : Int) < l.length) = False := eq_false (by omega)
    have c1' : (j < l.length) = False := eq_false hb'
    refine wkc (And.intro @dI.eq_1 (And.intro @dL.eq_1 (And.intro @c1 @c1'))) ?_
    exact ⟨_, .inr rfl, _, _, rfl, rfl⟩
theorem w60 (m : Int) : den Tryz.prog Ob.cfg 60 [dL [], dI m] = some (dI 0) := den_t 40 (by kernel_rfl)
theorem w61 (m : Int) : den Tryz.prog Ob.cfg 61 [dL [], dI m] = some (dI 0) := den_t 40 (by kernel_rfl)
theorem w62 (m : Int) : den Tryz.prog Ob.cfg 62 [dL [], dI m] = some (dI 0) := den_t 40 (by kernel_rfl)

set_option maxHeartbeats 2000000 in
theorem w27 : ∀ (N : Nat) (l : List Y) (m : Int), szY l < N → szY l ≤ MX → ∃ n, den Tryz.prog Ob.cfg 27 [dL (encY l), dI m] = some (dI n) := by
  intro N
  induction N with
  | zero => intro x m h; omega
  | succ N ih =>
  intro l m hN hx0
  have l1 := len_szY l
  unfold MX at hx0
  refine den_ex Tryz.func27 rfl (by kernel_rfl) rfl (fun _ => rfl) ?_
  refine wkc (And.intro @dL.eq_1 @dI.eq_1) ?_
  apply WP.loop' (I := fun D s => ∃ (j : Nat) (k : Int), j + D = l.length ∧ SE [(0, dL (encY l)), (1, dI m), (5, dI k), (6, dI j)] [] 0 s) (d := l.length)
  · exact ⟨0, _, by simp, SE.mk (by simp [dI, dL]; rfl) rfl⟩
  rintro D _ ⟨j, k, hj, cc, rfl⟩
  by_cases hb' : j < l.length
  case neg =>
    have c1 : ((j : Int) < l.length) = False := eq_false (by omega)
    have c1' : (j < l.length) = False := eq_false hb'
    refine wkc (And.intro @dI.eq_1 (And.intro @dL.eq_1 (And.intro @c1 @c1'))) ?_
    exact ⟨_, .inr rfl, _, _, rfl, rfl⟩
  have c1 : ((j : Int) < l.length) = True := eq_true (by omega)
  have c1' : (j < l.length) = True := eq_true hb'
  by_cases hk : k < m
  case neg =>
    have c2 := eq_false hk
    refine wkc (And.intro @dI.eq_1 (And.intro @dL.eq_1 (And.intro @c1 (And.intro @c1' @c2)))) ?_
    exact ⟨_, .inr rfl, _, _, rfl, rfl⟩
  have c2 := eq_true hk
  obtain ⟨y, hy, hym, hix⟩ := at_lt hb'
  have hy' := encY_at hy
  have hw := w_succ hb' (by omega)
  have m1 := mem_szY hym
  rw [Y.sz_eq] at m1
  have k3 := len_szX y.args
  have k5 := len_szB y.brs
  obtain ⟨r, hr⟩ := w63 (y.r.sz + 1) y.r m (by omega) (by unfold MX; omega)
  simp only [aG, X.cells_eq, List.map_cons, List.map_nil, dI] at hr
  refine wkc (And.intro @dI.eq_1 (And.intro @dL.eq_1 (And.intro @c1 (And.intro @c1' @c2)))) ?_
  refine wkc (And.intro @dI.eq_1 (And.intro @dL.eq_1 (And.intro @Y.cells_eq (And.intro @hix (And.intro @hy' @hr))))) ?_
  apply WP.loop' (I := fun D s => ∃ (i : Nat) (k : Int) (ga c : Nat), i + D = y.args.length ∧ s = ⟨[(0, dL (encY l)), (1, dI m), (5, dI k), (6, dI j), (7, .ptr 0 ga 0), (8, dI i)], [(0, ⟨ga, false, y.cells.map .d⟩)], 1, c, 0, []⟩) (d := y.args.length)
  · exact ⟨0, _, _, _, by simp, st_eq (by simp [dI, dL] <;> exact ⟨rfl, rfl⟩) (by simp [Y.cells_eq])⟩
  rintro D2 _ ⟨i, k2, ga, c, hi, rfl⟩
  by_cases hd' : i < y.args.length ∧ k2 < m
  · obtain ⟨hd1, hd2⟩ := hd'
    have e1 : ((i : Int) < y.args.length) = True := eq_true (by omega)
    have e1' : (i < y.args.length) = True := eq_true hd1
    have e2 := eq_true hd2
    obtain ⟨u, hu, hum, hiu⟩ := at_lt hd1
    have hu' := encX_at hu
    have hw2 := w_succ hd1 (by omega)
    obtain ⟨r2, hr2⟩ := w63 (u.sz + 1) u m (by omega) (by have := mem_szX hum; unfold MX; omega)
    simp only [aG, X.cells_eq, List.map_cons, List.map_nil, dI] at hr2
    refine wkc (And.intro @dI.eq_1 (And.intro @dL.eq_1 (And.intro @Y.cells_eq (And.intro @e1 (And.intro @e1' @e2))))) ?_
    refine wkc (And.intro @dI.eq_1 (And.intro @dL.eq_1 (And.intro @Y.cells_eq (And.intro @hiu (And.intro @hu' (And.intro @X.cells_eq @hr2)))))) ?_
    refine loop_next (by simp [hw2]; exact Is.rfl) ?_
    exact ⟨D2 - 1, by omega, i + 1, _, ga, _, by omega, st_eq (by simp [dI, dL]; rfl) (by simp [Y.cells_eq])⟩
  have hor : (((i : Int) < y.args.length) = True ∧ (i < y.args.length) = True ∧ (k2 < m) = False) ∨ (((i : Int) < y.args.length) = False ∧ (i < y.args.length) = False) := by
    by_cases hd1 : i < y.args.length
    · exact .inl ⟨eq_true (by omega), eq_true hd1, eq_false (fun h => hd' ⟨hd1, h⟩)⟩
    · exact .inr ⟨eq_false (by omega), eq_false hd1⟩
  rcases hor with ⟨e1, e1', e2⟩ | ⟨e1, e1'⟩
  refine wkc (And.intro @dI.eq_1 (And.intro @dL.eq_1 (And.intro @Y.cells_eq (And.intro @e1 (And.intro @e1' @e2))))) ?_
  rotate_left
  refine wkc (And.intro @dI.eq_1 (And.intro @dL.eq_1 (And.intro @Y.cells_eq (And.intro @e1 @e1')))) ?_
  all_goals
    refine WP.loop' (I := fun D s => ∃ (i : Nat) (k : Int) (ga c : Nat), i + D = y.brs.length ∧ s = ⟨[(0, dL (encY l)), (1, dI m), (5, dI k), (6, dI j), (7, .ptr 0 ga 0), (9, dI i)], [(0, ⟨ga, false, y.cells.map .d⟩)], 1, c, 0, []⟩) y.brs.length ?_ ?_
    · exact ⟨0, _, _, _, by simp, st_eq (by simp [dI, dL] <;> exact ⟨rfl, rfl⟩) (by simp [Y.cells_eq])⟩
    rintro D3 _ ⟨p, k3, ga, c, hp, rfl⟩
    by_cases hd1 : p < y.brs.length
    case neg =>
      have f1 : ((p : Int) < y.brs.length) = False := eq_false (by omega)
      have f1' : (p < y.brs.length) = False := eq_false hd1
      refine wkc (And.intro @dI.eq_1 (And.intro @dL.eq_1 (And.intro @Y.cells_eq (And.intro @f1 @f1')))) ?_
      refine loop_next (by simp [hw]; exact Is.rfl) ?_
      exact ⟨D - 1, by omega, j + 1, _, by omega, SE.mk (by simp [dI, dL]; rfl) rfl⟩
    have f1 : ((p : Int) < y.brs.length) = True := eq_true (by omega)
    have f1' : (p < y.brs.length) = True := eq_true hd1
    by_cases hd2 : k3 < m
    case neg =>
      have f2 := eq_false hd2
      refine wkc (And.intro @dI.eq_1 (And.intro @dL.eq_1 (And.intro @Y.cells_eq (And.intro @f1 (And.intro @f1' @f2))))) ?_
      refine loop_next (by simp [hw]; exact Is.rfl) ?_
      exact ⟨D - 1, by omega, j + 1, _, by omega, SE.mk (by simp [dI, dL]; rfl) rfl⟩
    have f2 := eq_true hd2
    obtain ⟨u, hu, hum, hiu⟩ := at_lt hd1
    have hu' := encB_at hu
    have hw3 := w_succ hd1 (by omega)
    obtain ⟨r3, hr3⟩ := ih u (IntKind.i64.wrap (m - k3)) (by have := mem_szB hum; omega) (by have := mem_szB hum; unfold MX; omega)
    simp only [dL, dI] at hr3
    refine wkc (And.intro @dI.eq_1 (And.intro @dL.eq_1 (And.intro @Y.cells_eq (And.intro @f1 (And.intro @f1' @f2))))) ?_
    refine wkc (And.intro @dI.eq_1 (And.intro @dL.eq_1 (And.intro @Y.cells_eq (And.intro @hiu (And.intro @hu' @hr3))))) ?_
    refine loop_next (by simp [hw3]; exact Is.rfl) ?_
    exact ⟨D3 - 1, by omega, p + 1, _, ga, _, by omega, st_eq (by simp [dI, dL]; rfl) (by simp [Y.cells_eq])⟩
end Go.Ac
end

section
set_option maxRecDepth 4000
set_option linter.unusedSimpArgs false
set_option linter.unusedVariables false
namespace Go.Ac
open Go.Proofs

attribute [local simp] kf26 Ob.k26 kf9 Ob.k9
set_option maxHeartbeats 1000000 in
theorem w26a (l : List En) (hx0 : szE l ≤ MX) : ∃ n, den Tryz.prog Ob.cfg 26 [pE l, dI 600] = some (dI n) := by
  have l1 := len_szE l
  unfold MX at hx0
  unfold pE
  refine den_ex Tryz.func26 rfl (by kernel_rfl) rfl (fun _ => rfl) ?_
  refine wkc (And.intro @dL.eq_1 @dI.eq_1) ?_
  apply WP.loop' (I := fun D s => ∃ (j : Nat) (k : Int), j + D = l.length ∧ SE [(1, dI 600), (2, .ptr 0 0 0), (5, dI k), (6, dI j)] [(0, ⟨0, false, [.d (.slice (encE l)), .d (.slice [])]⟩)] 1 s) (d := l.length)
  · exact ⟨0, _, by simp, SE.mk (by simp [dI, dL]; rfl) rfl⟩
  rintro D _ ⟨j, k, hj, cc, rfl⟩
  by_cases hd' : j < l.length ∧ k < 600
  · obtain ⟨hb', hk⟩ := hd'
    have c1 : ((j : Int) < l.length) = True := eq_true (by omega)
    have c1' : (j < l.length) = True := eq_true hb'
    have c2 := eq_true hk
    obtain ⟨y, hy, hym, hix⟩ := at_lt hb'
    have hy' := encE_at hy
    have hw := w_succ hb' (by omega)
    refine wkc (And.intro @dI.eq_1 (And.intro @dL.eq_1 (And.intro @c1 (And.intro @c1' @c2)))) ?_
    refine wkc (And.intro @dI.eq_1 (And.intro @dL.eq_1 (And.intro @En.cells.eq_1 (And.intro @hix @hy')))) ?_
    refine loop_next (by simp [hw]; exact Is.rfl) ?_
    exact ⟨D - 1, by omega, j + 1, _, by omega, SE.mk (by simp [dI, dL]; rfl) rfl⟩
  have hor : (((j : Int) < l.length) = True ∧ (j < l.length) = True ∧ (k < 600) = False) ∨ (((j : Int) < l.length) = False ∧ (j < l.length) = False) := by
    by_cases hd1 : j < l.length
    · exact .inl ⟨eq_true (by omega), eq_true hd1, eq_false (fun h => hd' ⟨hd1, h⟩)⟩
    · exact .inr ⟨eq_false (by omega), eq_false hd1⟩
  rcases hor with ⟨e1, e1', e2⟩ | ⟨e1, e1'⟩
  refine wkc (And.intro @dI.eq_1 (And.intro @dL.eq_1 (And.intro @e1 (And.intro @e1' @e2)))) ?_
  rotate_left
  refine wkc (And.intro @dI.eq_1 (And.intro @dL.eq_1 (And.intro @e1 @e1'))) ?_
  all_goals
    refine WP.loop' (I := fun D s => ∃ (k : Int) (c : Nat), s = ⟨[(1, dI 600), (2, .ptr 0 0 0), (5, dI k), (7, dI 0)], [(0, ⟨0, false, [.d (.slice (encE l)), .d (.slice [])]⟩)], 1, c, 0, []⟩) 0 ?_ ?_
    · exact ⟨_, _, by simp [dI]; exact ⟨rfl, rfl⟩⟩
    rintro D _ ⟨k, c, rfl⟩
    refine wkc (And.intro @dI.eq_1 @dL.eq_1) ?_
    exact ⟨_, .inr rfl, _, _, rfl, rfl⟩

theorem nble_d (a b : Nat) : Nat.ble a b = decide (a ≤ b) := by
  by_cases h : a ≤ b
  · rw [Nat.ble_eq_true_of_le h]; simp [h]
  · cases hb : Nat.ble a b with
    | false => simp [h]
    | true => exact absurd (Nat.le_of_ble_eq_true hb) h
theorem toD_dep (look : Look) (id g off len sz : Nat) (cap : Option Nat) : toD look depthD (.osl id g off len sz cap) = match live look id g with
    | some o => match Nat.ble (off + len * sz) o.cells.length, toDs (toD look 4611686018427387903) ((o.cells.drop off).take (len * sz)) with
      | true, some (ds, r) => some (.slice (chunk sz len ds), id :: r)
      | _, _ => none
    | none => none := Eq.trans rfl rfl
theorem toD_d (look : Look) (f : Nat) (x : D) : toD look f (.d x) = some (x, []) := by cases f <;> rfl
theorem toD_full (look : Look) (f : Nat) (x : List (List D)) : toD look f (.full x) = some (.slice x, []) := by cases f <;> rfl

/-- A class's declarations as a program with one node. -/
def nD (a b c : List Dc) : List D := [.str [], .slice (encD a), .slice (encD b), .slice (encD c), .slice [], .slice [], .slice [], .slice []]
def pN (a b c : List Dc) : V := .agg [.d (.slice []), .d (.slice [nD a b c])]
set_option maxHeartbeats 2000000 in
theorem w26b (a b c : List Dc) (ha : szD a ≤ MX) (hb0 : szD b ≤ MX) (hc0 : szD c ≤ MX) : ∃ n, den Tryz.prog Ob.cfg 26 [pN a b c, dI 600] = some (dI n) := by
  unfold pN nD
  obtain ⟨r1, h1⟩ := w59 a 600 ha
  obtain ⟨r2, h2⟩ := w59 b 600 hb0
  obtain ⟨r3, h3⟩ := w59 c 600 hc0
  have h4 := w60 600
  have h5 := w61 600
  have h6 := w62
  simp only [dL, dI] at h1 h2 h3 h4 h5 h6
  refine den_ex Tryz.func26 rfl (by kernel_rfl) rfl (fun _ => rfl) ?_
  refine wkc (And.intro @dL.eq_1 @dI.eq_1) ?_
  apply WP.loop' (I := fun D s => ∃ cc, s = ⟨[(1, dI 600), (2, .ptr 0 0 0), (5, dI 1), (6, dI 0)], [(0, ⟨0, false, [.d (.slice []), .d (.slice [[.str [], .slice (encD a), .slice (encD b), .slice (encD c), .slice [], .slice [], .slice [], .slice []]])]⟩)], 1, cc, 0, []⟩) (d := 0)
  · exact ⟨_, by simp [dI]; exact ⟨by rfl, rfl⟩⟩
  rintro D _ ⟨cc, rfl⟩
  refine wkc (And.intro @dL.eq_1 @dI.eq_1) ?_
  apply WP.loop' (I := fun D s => ∃ (j : Nat) (k : Int) (cc : Nat), j + D = 1 ∧ (j = 0 → k = 1) ∧ s = ⟨[(1, dI 600), (2, .ptr 0 0 0), (5, dI k), (7, dI j)], [(0, ⟨0, false, [.d (.slice []), .d (.slice [[.str [], .slice (encD a), .slice (encD b), .slice (encD c), .slice [], .slice [], .slice [], .slice []]])]⟩)], 1, cc, 0, []⟩) (d := 1)
  · exact ⟨0, 1, _, by simp, by simp, by simp [dI]; rfl⟩
  rintro D _ ⟨j, k, cc, hj, hk, rfl⟩
  by_cases hj0 : j = 0
  · subst hj0
    obtain rfl := hk rfl
    refine wkc (And.intro @dI.eq_1 (And.intro @h1 (And.intro @h2 (And.intro @h3 (And.intro @h4 @h5))))) ?_
    show WP _ _ _ _ _ _
    refine WP.cond _ rfl (fun hb => ?_) (fun hb => ?_)
    · refine wkc (And.intro @dI.eq_1 @h6) ?_
      refine loop_next (by simp; exact Is.rfl) ?_
      exact ⟨0, by omega, 1, _, _, by omega, by simp, by simp [dI]; exact ⟨⟨rfl, by rfl⟩, rfl⟩⟩
    · refine wkc (@dI.eq_1) ?_
      refine loop_next (by simp; exact Is.rfl) ?_
      exact ⟨0, by omega, 1, _, _, by omega, by simp, by simp [dI]; exact ⟨⟨rfl, by rfl⟩, rfl⟩⟩
  · have : j = 1 := by omega
    subst this
    refine wkc (@dI.eq_1) ?_
    exact ⟨_, .inr rfl, _, _, rfl, rfl⟩

set_option maxHeartbeats 4000000 in
theorem heavy_den (x : Oc) (ha : x.sz ≤ MX) : ∃ b, den Tryz.prog Ob.cfg 9 [aG x.cells] = some (dB b) := by
  unfold Oc.sz MX at ha
  have l1 := len_szC x.cl
  obtain ⟨r0, h0⟩ := w26a x.en (by unfold MX; omega)
  simp only [pE, dI] at h0
  refine den_ex Tryz.func9 rfl (by kernel_rfl) rfl (fun _ => rfl) ?_
  refine wkc (And.intro @aG.eq_1 (And.intro @Oc.cells.eq_1 (And.intro @dI.eq_1 @h0))) ?_
  apply WP.loop' (I := fun D s => ∃ (j : Nat) (k i : Int), j + D = x.cl.length ∧ SE [(1, .ptr 0 0 0), (3, dI k), (4, dI i), (5, dI j)] [(0, ⟨0, false, x.cells.map .d⟩)] 1 s) (d := x.cl.length)
  · exact ⟨0, _, 0, by simp, SE.mk (by simp [dI]; rfl) (by simp [Oc.cells])⟩
  rintro D _ ⟨j, k, i, hj, cc, rfl⟩
  by_cases hd' : j < x.cl.length ∧ k < 600
  · obtain ⟨hb', hk⟩ := hd'
    have c1 : ((j : Int) < x.cl.length) = True := eq_true (by omega)
    have c1' : (j < x.cl.length) = True := eq_true hb'
    have c2 := eq_true hk
    obtain ⟨y, hy, hym, hix⟩ := at_lt hb'
    have hy' := encC_at hy
    have hw := w_succ hb' (by omega)
    have m1 := mem_szC hym
    unfold Cl.sz at m1
    obtain ⟨r1, h1⟩ := w26b y.inn y.out y.loc (by unfold MX; omega) (by unfold MX; omega) (by unfold MX; omega)
    obtain ⟨r2, h2⟩ := w27 (szY y.step + 1) y.step 600 (by omega) (by unfold MX; omega)
    simp only [pN, nD, dL, dI] at h1 h2
    refine wkc (And.intro @dI.eq_1 (And.intro @dL.eq_1 (And.intro @Oc.cells.eq_1 (And.intro @c1 (And.intro @c1' @c2))))) ?_
    refine wkc (And.intro @dI.eq_1 (And.intro @dL.eq_1 (And.intro @Oc.cells.eq_1 (And.intro @Cl.cells.eq_1 (And.intro @hix (And.intro @hy' (And.intro @h1 (And.intro @h2 (And.intro @fillV.eq_1 (And.intro @fillV.eq_2 (And.intro @closeParts.eq_1 (And.intro @closeParts.eq_2 (And.intro @toD_dep (And.intro @toD_d (And.intro @toD_full (And.intro @toDs.eq_1 (And.intro @toDs.eq_2 (And.intro @chunk.eq_1 (And.intro @chunk.eq_2 @nble_d))))))))))))))))))) ?_
    refine loop_next (by simp [hw]; exact Is.rfl) ?_
    exact ⟨D - 1, by omega, j + 1, _, _, by omega, SE.mk (by simp [dI, dL]; exact ⟨rfl, rfl⟩) (by simp [Oc.cells])⟩
  have hor : (((j : Int) < x.cl.length) = True ∧ (j < x.cl.length) = True ∧ (k < 600) = False) ∨ (((j : Int) < x.cl.length) = False ∧ (j < x.cl.length) = False) := by
    by_cases hd1 : j < x.cl.length
    · exact .inl ⟨eq_true (by omega), eq_true hd1, eq_false (fun h => hd' ⟨hd1, h⟩)⟩
    · exact .inr ⟨eq_false (by omega), eq_false hd1⟩
  by_cases hq : k ≥ 600
  · have q := eq_true hq
    have q' : (600 ≤ k) = True := q
    rcases hor with ⟨e1, e1', e2⟩ | ⟨e1, e1'⟩
    · refine wkc (And.intro @dI.eq_1 (And.intro @dL.eq_1 (And.intro @Oc.cells.eq_1 (And.intro @e1 (And.intro @e1' (And.intro @e2 (And.intro @q @q'))))))) ?_
      exact ⟨_, .inr rfl, _, _, rfl, rfl⟩
    · refine wkc (And.intro @dI.eq_1 (And.intro @dL.eq_1 (And.intro @Oc.cells.eq_1 (And.intro @e1 (And.intro @e1' (And.intro @q @q')))))) ?_
      exact ⟨_, .inr rfl, _, _, rfl, rfl⟩
  · have q := eq_false hq
    have q' : (600 ≤ k) = False := q
    rcases hor with ⟨e1, e1', e2⟩ | ⟨e1, e1'⟩
    · exact absurd (by have := of_eq_false e2; omega) hq
    · refine wkc (And.intro @dI.eq_1 (And.intro @dL.eq_1 (And.intro @Oc.cells.eq_1 (And.intro @e1 (And.intro @e1' (And.intro @q @q')))))) ?_
      exact ⟨_, .inr rfl, _, _, rfl, rfl⟩
end Go.Ac
end
