/- Sixteen-bit words; the operators of the language, on either side. -/
import Derived.Test.YtofhhkkncaoneaaDoorAcBM
import Derived.Test.YtofhhkkncaoneaaDoorAcDM
import Derived.Test.YtofhhkkncaoneaaDoorAcGM
import Derived.Test.YtofhhkkncaoneaaDoorAcJM
import Derived.Test.YtofhhkkncaoneaaDoorAcMM
import Derived.Test.YtofhhkkncaoneaaDoorAcSM
import Derived.Test.YtofhhkkncaoneaaDoorAcXM
import Derived.Test.YtofhhkkncaoneaaDoorAcUcM
import Derived.Test.YtofhhkkncaoneaaDoorAcThM
import Derived.Test.YtofhhkkncaoneaaDoorCpBM
import Derived.Calls
import Derived.Orders
import Derived.Laws.World
import Derived.Laws.Sem
import Derived.Laws.Cells
import Derived.Laws.Append
import GoSem.ClaimData
import Derived.Laws.Tables
import Derived.Laws.Slices
import Derived.Laws.Strings
import Derived.Laws.Small
import Derived.KernelRfl
import Derived.Test.YtofhhkkncaoneaaDoorChecked
set_option linter.unusedVariables false
set_option linter.unusedSimpArgs false
set_option maxRecDepth 4000
set_option linter.unusedSimpArgs false
set_option linter.unusedVariables false
namespace Go.Ac
open Go.Proofs

theorem ti107 : mkTI Tryd.prog 107 = some ⟨.int .i16, 1, 2, zOf 107⟩ := by kernel_rfl
attribute [simp] ti107 convV envOf

theorem den_k [Gl] {P : Program} {cfg : Cfg} {f : FuncId} {vs : List V} (K : Nat) {v : V} (h : ∀ k, callF P cfg (k + K) f vs [] 0 0 = some ⟨v, [], 0, ((callF P cfg K f vs [] 0 0).map (·.c)).getD 0, []⟩) (hv : (closeT noLook v).isSome = true) : den P cfg f vs = some v := by
  refine den_of (r := ⟨v, [], 0, ((callF P cfg K f vs [] 0 0).map (·.c)).getD 0, []⟩) ⟨K, fun k hk => ?_⟩ hv
  obtain ⟨j, rfl⟩ : ∃ j, k = j + K := ⟨k - K, by omega⟩
  exact h j

def w16 (n : Int) : Int := IntKind.i16.wrap n
theorem w16_def (n : Int) : w16 n = (n + 32768) % 65536 - 32768 := by
  simp [w16, IntKind.wrap, IntKind.signed, IntKind.bits]
  omega
theorem w16_lo (n : Int) : -32768 ≤ w16 n := by rw [w16_def]; omega
theorem w16_hi (n : Int) : w16 n ≤ 32767 := by rw [w16_def]; omega
theorem i64_w16 (n : Int) : IntKind.i64.wrap (w16 n) = w16 n := by have := w16_lo n; have := w16_hi n; rw [w_id'] <;> omega

/-! ### The program's words -/
theorem wrap_den (n : Int) : den Tryd.prog Cp.cfg 95 [dI n] = some (dI (w16 n)) := by
  rw [← i64_w16]
  exact den_k 40 (fun k => by kernel_rfl) rfl
theorem neg_den (a : Int) : den Tryd.prog Cp.cfg 89 [dI a] = some (dI (w16 (-(w16 a)))) := by
  refine den_wp Tryd.func89 rfl (by kernel_rfl) rfl rfl ?_
  have h := wrap_den a
  simp only [dI] at h
  have h1 := w16_lo a
  have h2 := w16_hi a
  have h3 := wrap_den (-(w16 a))
  simp only [dI] at h3
  have h4 : IntKind.i64.wrap (-(w16 a)) = -(w16 a) := by rw [w_id'] <;> omega
  refine wk (And.intro @dI.eq_1 (And.intro @h (And.intro @h3 @h4))) ?_
  exact ⟨.inr rfl, _, _, rfl, rfl⟩
theorem w16_add (a b : Int) : IntKind.i64.wrap (w16 a + w16 b) = w16 a + w16 b := by
  have := w16_lo a; have := w16_hi a; have := w16_lo b; have := w16_hi b
  rw [w_id'] <;> omega
theorem w16_sub (a b : Int) : IntKind.i64.wrap (w16 a - w16 b) = w16 a - w16 b := by
  have := w16_lo a; have := w16_hi a; have := w16_lo b; have := w16_hi b
  rw [w_id'] <;> omega
theorem mul_bd {x y : Int} (h1 : -32768 ≤ x) (h2 : x ≤ 32768) (h3 : -32768 ≤ y) (h4 : y ≤ 32768) : -1073741824 ≤ x * y ∧ x * y ≤ 1073741824 := by
  have a1 : x * y = (x + 32768) * (y + 32768) - 32768 * x - 32768 * y - 1073741824 := by
    rw [Int.add_mul, Int.mul_add, Int.mul_add]; omega
  have p1 : 0 ≤ (x + 32768) * (y + 32768) := Int.mul_nonneg (by omega) (by omega)
  have p2 : 0 ≤ (32768 - x) * (32768 - y) := Int.mul_nonneg (by omega) (by omega)
  have p3 : 0 ≤ (x + 32768) * (32768 - y) := Int.mul_nonneg (by omega) (by omega)
  have p4 : 0 ≤ (32768 - x) * (y + 32768) := Int.mul_nonneg (by omega) (by omega)
  rw [Int.add_mul, Int.mul_add, Int.mul_add] at p1
  rw [Int.sub_mul, Int.mul_sub, Int.mul_sub] at p2
  rw [Int.add_mul, Int.mul_sub, Int.mul_sub] at p3
  rw [Int.sub_mul, Int.mul_add, Int.mul_add] at p4
  constructor <;> omega
theorem w16_mul (a b : Int) : IntKind.i64.wrap (w16 a * w16 b) = w16 a * w16 b := by
  have h1 := w16_lo a; have h2 := w16_hi a; have h3 := w16_lo b; have h4 := w16_hi b
  have := mul_bd h1 (by omega) h3 (by omega)
  rw [w_id'] <;> omega
theorem add_den (a b : Int) : den Tryd.prog Cp.cfg 90 [dI a, dI b] = some (dI (w16 (w16 a + w16 b))) := by
  refine den_wp Tryd.func90 rfl (by kernel_rfl) rfl rfl ?_
  have h := wrap_den a
  have h' := wrap_den b
  have h3 := wrap_den (w16 a + w16 b)
  simp only [dI] at h h' h3
  have h4 : IntKind.i64.wrap (w16 a + w16 b) = w16 a + w16 b := w16_add a b
  refine wk (And.intro @dI.eq_1 (And.intro @h (And.intro @h' (And.intro @h3 @h4)))) ?_
  exact ⟨.inr rfl, _, _, rfl, rfl⟩
theorem sub_den (a b : Int) : den Tryd.prog Cp.cfg 91 [dI a, dI b] = some (dI (w16 (w16 a - w16 b))) := by
  refine den_wp Tryd.func91 rfl (by kernel_rfl) rfl rfl ?_
  have h := wrap_den a
  have h' := wrap_den b
  have h3 := wrap_den (w16 a - w16 b)
  simp only [dI] at h h' h3
  have h4 : IntKind.i64.wrap (w16 a - w16 b) = w16 a - w16 b := w16_sub a b
  refine wk (And.intro @dI.eq_1 (And.intro @h (And.intro @h' (And.intro @h3 @h4)))) ?_
  exact ⟨.inr rfl, _, _, rfl, rfl⟩
theorem mul_den (a b : Int) : den Tryd.prog Cp.cfg 92 [dI a, dI b] = some (dI (w16 (w16 a * w16 b))) := by
  refine den_wp Tryd.func92 rfl (by kernel_rfl) rfl rfl ?_
  have h := wrap_den a
  have h' := wrap_den b
  have h3 := wrap_den (w16 a * w16 b)
  simp only [dI] at h h' h3
  have h4 : IntKind.i64.wrap (w16 a * w16 b) = w16 a * w16 b := w16_mul a b
  refine wk (And.intro @dI.eq_1 (And.intro @h (And.intro @h' (And.intro @h3 @h4)))) ?_
  exact ⟨.inr rfl, _, _, rfl, rfl⟩


def divI (a b : Int) : Int := if b = 0 then 0 else w16 (a.tdiv b)
def modI (a b : Int) : Int := if b = 0 then a else a.tmod b
theorem tdiv_bd {a b : Int} (h1 : -32768 ≤ a) (h2 : a ≤ 32767) : -32768 ≤ a.tdiv b ∧ a.tdiv b ≤ 32768 := by
  have h : (a.tdiv b).natAbs ≤ a.natAbs := by rw [Int.natAbs_tdiv]; exact Nat.div_le_self _ _
  omega
theorem div_den (a b : Int) : den Tryd.prog Cp.cfg 93 [dI a, dI b] = some (dI (divI (w16 a) (w16 b))) := by
  refine den_wp Tryd.func93 rfl (by kernel_rfl) rfl rfl ?_
  have h := wrap_den a
  have h' := wrap_den b
  have h3 := wrap_den ((w16 a).tdiv (w16 b))
  simp only [dI] at h h' h3
  have hb := tdiv_bd (b := w16 b) (w16_lo a) (w16_hi a)
  have h4 : IntKind.i64.wrap ((w16 a).tdiv (w16 b)) = (w16 a).tdiv (w16 b) := by rw [w_id'] <;> omega
  refine wk (And.intro @dI.eq_1 (And.intro @h (And.intro @h' (And.intro @h3 @h4)))) ?_
  show WP _ _ _ _ _ _
  refine WP.cond _ rfl (fun hb => ?_) (fun hb => ?_)
  · simp at hb
    refine wk True.intro ?_
    exact ⟨.inr rfl, _, _, rfl, by simp only [divI, hb]; rfl⟩
  · simp at hb
    refine wk (And.intro @hb (And.intro @h3 @h4)) ?_
    exact ⟨.inr rfl, _, _, rfl, by simp only [divI, if_neg hb]; rfl⟩
theorem mod_den (a b : Int) : den Tryd.prog Cp.cfg 94 [dI a, dI b] = some (dI (modI (w16 a) (w16 b))) := by
  refine den_wp Tryd.func94 rfl (by kernel_rfl) rfl rfl ?_
  have h := wrap_den a
  have h' := wrap_den b
  simp only [dI] at h h'
  refine wk (And.intro @dI.eq_1 (And.intro @h @h')) ?_
  show WP _ _ _ _ _ _
  refine WP.cond _ rfl (fun hb => ?_) (fun hb => ?_)
  · simp at hb
    refine wk True.intro ?_
    exact ⟨.inr rfl, _, _, rfl, by simp only [modI, hb]; rfl⟩
  · simp at hb
    refine wk (@hb) ?_
    exact ⟨.inr rfl, _, _, rfl, by simp only [modI, if_neg hb]; rfl⟩
theorem in_den (n : Int) : den Tryd.prog Cp.cfg 34 [dI n] = some (dB (decide (-32768 ≤ n) && decide (n ≤ 32767))) := by
  refine den_wp Tryd.func34 rfl (by kernel_rfl) rfl rfl ?_
  by_cases h : -32768 ≤ n
  · have e : (decide (-32768 ≤ n) && decide (n ≤ 32767)) = decide (n ≤ 32767) := by simp [h]
    rw [e]
    refine wk (And.intro @dI.eq_1 @h) ?_
    exact ⟨.inr rfl, _, _, rfl, rfl⟩
  · have e : (decide (-32768 ≤ n) && decide (n ≤ 32767)) = false := by simp [h]
    rw [e]
    refine wk (And.intro @dI.eq_1 @h) ?_
    exact ⟨.inr rfl, _, _, rfl, rfl⟩
theorem truth_den (b : Bool) : den Tryd.prog Cp.cfg 79 [dB b] = some (dI (if b then 1 else 0)) := by
  cases b
  · exact den_k 40 (fun k => by kernel_rfl) rfl
  · exact den_k 40 (fun k => by kernel_rfl) rfl

/-! ### The document's words -/
theorem tmod_bd (n : Int) : -65536 < n.tmod 65536 ∧ n.tmod 65536 < 65536 ∧ 65536 * (n.tdiv 65536) + n.tmod 65536 = n := by
  have h1 := Int.mul_tdiv_add_tmod n 65536
  have h2 : (n.tmod 65536).natAbs = n.natAbs % 65536 := Int.natAbs_tmod n 65536
  have h3 : n.natAbs % 65536 < 65536 := Nat.mod_lt _ (by omega)
  refine ⟨?_, ?_, h1⟩ <;> omega
theorem rwrap_den (n : Int) : den Tryd.prog Cp.cfg 81 [dI n] = some (dI (w16 n)) := by
  refine den_wp Tryd.func81 rfl (by kernel_rfl) rfl rfl ?_
  have hb0 := tmod_bd n
  have h4 : IntKind.i64.wrap (n.tmod 65536 - 65536) = n.tmod 65536 - 65536 := by rw [w_id'] <;> omega
  have h5 : IntKind.i64.wrap (n.tmod 65536 + 65536) = n.tmod 65536 + 65536 := by rw [w_id'] <;> omega
  refine wk (@dI.eq_1) ?_
  show WP _ _ _ _ _ _
  refine WP.cond _ rfl (fun hb => ?_) (fun hb => ?_)
  · simp at hb
    refine wk (@h4) ?_
    have e : w16 n = n.tmod 65536 - 65536 := by clear h4 h5; rw [w16_def]; omega
    rw [e]
    exact ⟨.inr rfl, _, _, rfl, rfl⟩
  · simp at hb
    refine wk True.intro ?_
    show WP _ _ _ _ _ _
    refine WP.cond _ rfl (fun hb => ?_) (fun hb => ?_)
    · simp at hb
      refine wk (@h5) ?_
      have e : w16 n = n.tmod 65536 + 65536 := by clear h4 h5; rw [w16_def]; omega
      rw [e]
      exact ⟨.inr rfl, _, _, rfl, rfl⟩
    · simp at hb
      refine wk True.intro ?_
      have e : w16 n = n.tmod 65536 := by clear h4 h5; rw [w16_def]; omega
      rw [e]
      exact ⟨.inr rfl, _, _, rfl, rfl⟩
theorem rneg_den (a : Int) : den Tryd.prog Cp.cfg 74 [dI a] = some (dI (w16 (-(w16 a)))) := by
  refine den_wp Tryd.func74 rfl (by kernel_rfl) rfl rfl ?_
  have h := rwrap_den a
  simp only [dI] at h
  have h1 := w16_lo a
  have h2 := w16_hi a
  have h3 := rwrap_den (-(w16 a))
  simp only [dI] at h3
  have h4 : IntKind.i64.wrap (-(w16 a)) = -(w16 a) := by rw [w_id'] <;> omega
  refine wk (And.intro @dI.eq_1 (And.intro @h (And.intro @h3 @h4))) ?_
  exact ⟨.inr rfl, _, _, rfl, rfl⟩
theorem radd_den (a b : Int) : den Tryd.prog Cp.cfg 83 [dI a, dI b] = some (dI (w16 (w16 a + w16 b))) := by
  refine den_wp Tryd.func83 rfl (by kernel_rfl) rfl rfl ?_
  have h := rwrap_den a
  have h' := rwrap_den b
  have h3 := rwrap_den (w16 a + w16 b)
  simp only [dI] at h h' h3
  have h4 : IntKind.i64.wrap (w16 a + w16 b) = w16 a + w16 b := w16_add a b
  refine wk (And.intro @dI.eq_1 (And.intro @h (And.intro @h' (And.intro @h3 @h4)))) ?_
  exact ⟨.inr rfl, _, _, rfl, rfl⟩
theorem rsub_den (a b : Int) : den Tryd.prog Cp.cfg 84 [dI a, dI b] = some (dI (w16 (w16 a - w16 b))) := by
  refine den_wp Tryd.func84 rfl (by kernel_rfl) rfl rfl ?_
  have h := rwrap_den a
  have h' := rwrap_den b
  have h3 := rwrap_den (w16 a - w16 b)
  simp only [dI] at h h' h3
  have h4 : IntKind.i64.wrap (w16 a - w16 b) = w16 a - w16 b := w16_sub a b
  refine wk (And.intro @dI.eq_1 (And.intro @h (And.intro @h' (And.intro @h3 @h4)))) ?_
  exact ⟨.inr rfl, _, _, rfl, rfl⟩
theorem rmul_den (a b : Int) : den Tryd.prog Cp.cfg 85 [dI a, dI b] = some (dI (w16 (w16 a * w16 b))) := by
  refine den_wp Tryd.func85 rfl (by kernel_rfl) rfl rfl ?_
  have h := rwrap_den a
  have h' := rwrap_den b
  have h3 := rwrap_den (w16 a * w16 b)
  simp only [dI] at h h' h3
  have h4 : IntKind.i64.wrap (w16 a * w16 b) = w16 a * w16 b := w16_mul a b
  refine wk (And.intro @dI.eq_1 (And.intro @h (And.intro @h' (And.intro @h3 @h4)))) ?_
  exact ⟨.inr rfl, _, _, rfl, rfl⟩
theorem rdiv_den (a b : Int) : den Tryd.prog Cp.cfg 86 [dI a, dI b] = some (dI (divI (w16 a) (w16 b))) := by
  refine den_wp Tryd.func86 rfl (by kernel_rfl) rfl rfl ?_
  have h := rwrap_den a
  have h' := rwrap_den b
  have h3 := rwrap_den ((w16 a).tdiv (w16 b))
  simp only [dI] at h h' h3
  have hb := tdiv_bd (b := w16 b) (w16_lo a) (w16_hi a)
  have h4 : IntKind.i64.wrap ((w16 a).tdiv (w16 b)) = (w16 a).tdiv (w16 b) := by rw [w_id'] <;> omega
  refine wk (And.intro @dI.eq_1 (And.intro @h (And.intro @h' (And.intro @h3 @h4)))) ?_
  show WP _ _ _ _ _ _
  refine WP.cond _ rfl (fun hb => ?_) (fun hb => ?_)
  · simp at hb
    refine wk True.intro ?_
    exact ⟨.inr rfl, _, _, rfl, by simp only [divI, hb]; rfl⟩
  · simp at hb
    refine wk (And.intro @hb (And.intro @h (And.intro @h' (And.intro @h3 @h4)))) ?_
    exact ⟨.inr rfl, _, _, rfl, by simp only [divI, if_neg hb]; rfl⟩
theorem rmod_den (a b : Int) : den Tryd.prog Cp.cfg 87 [dI a, dI b] = some (dI (modI (w16 a) (w16 b))) := by
  refine den_wp Tryd.func87 rfl (by kernel_rfl) rfl rfl ?_
  have h := rwrap_den a
  have h' := rwrap_den b
  simp only [dI] at h h'
  refine wk (And.intro @dI.eq_1 (And.intro @h @h')) ?_
  show WP _ _ _ _ _ _
  refine WP.cond _ rfl (fun hb => ?_) (fun hb => ?_)
  · simp at hb
    refine wk (@h) ?_
    exact ⟨.inr rfl, _, _, rfl, by simp only [modI, hb]; rfl⟩
  · simp at hb
    refine wk (And.intro @hb (And.intro @h @h')) ?_
    exact ⟨.inr rfl, _, _, rfl, by simp only [modI, if_neg hb]; rfl⟩
theorem rone_den (b : Bool) : den Tryd.prog Cp.cfg 82 [dB b] = some (dI (if b then 1 else 0)) := by
  cases b
  · exact den_k 40 (fun k => by kernel_rfl) rfl
  · exact den_k 40 (fun k => by kernel_rfl) rfl
end Go.Ac
