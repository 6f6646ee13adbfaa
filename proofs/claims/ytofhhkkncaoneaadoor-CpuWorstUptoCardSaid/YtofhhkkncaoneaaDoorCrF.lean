/- Worst by data. -/
import Derived.Test.YtofhhkkncaoneaaDoorAcBM
import Derived.Test.YtofhhkkncaoneaaDoorAcDM
import Derived.Test.YtofhhkkncaoneaaDoorAcGM
import Derived.Test.YtofhhkkncaoneaaDoorAcJM
import Derived.Test.YtofhhkkncaoneaaDoorAcMM
import Derived.Test.YtofhhkkncaoneaaDoorAcOM
import Derived.Test.YtofhhkkncaoneaaDoorAcSM
import Derived.Test.YtofhhkkncaoneaaDoorAcXM
import Derived.Test.YtofhhkkncaoneaaDoorAcUcM
import Derived.Test.YtofhhkkncaoneaaDoorAcThM
import Derived.Test.YtofhhkkncaoneaaDoorCpBM
import Derived.Test.YtofhhkkncaoneaaDoorCpD
import Derived.Test.YtofhhkkncaoneaaDoorCrTM
import Derived.Test.YtofhhkkncaoneaaDoorCqFM
import Derived.Test.YtofhhkkncaoneaaDoorCqIM
import Derived.Test.YtofhhkkncaoneaaDoorCqNM
import Derived.Test.YtofhhkkncaoneaaDoorCpWM
import Derived.Test.YtofhhkkncaoneaaDoorCrE
import Derived.Calls
import Derived.Orders
import Derived.Laws.World
import Derived.Laws.Sem
import Derived.Laws.Cells
import Derived.Laws.Append
import GoSem.ClaimData
import Derived.Laws.Tables
import Derived.Laws.Slices
import Derived.Laws.Strings
import Derived.Laws.Small
import Derived.KernelRfl
import Derived.Test.YtofhhkkncaoneaaDoorChecked
import Derived.Lib.RuneCount
set_option linter.unusedVariables false
set_option linter.unusedSimpArgs false
set_option maxRecDepth 4000
set_option linter.unusedSimpArgs false
set_option linter.unusedVariables false
namespace Go.Ac
open Go.Proofs

def wL (rs : List Rt) : Nat → List Int
  | 0 => []
  | j + 1 => wL rs j ++ [lng (wL rs j) (rtAt rs (j : Int))]
theorem wL_len (rs : List Rt) : ∀ j, (wL rs j).length = j
  | 0 => rfl
  | j + 1 => by simp [wL, wL_len rs j]
theorem wL_far (rs : List Rt) : ∀ j, FarL (wL rs j)
  | 0 => fun v hv => by cases hv
  | j + 1 => fun v hv => by
    rcases List.mem_append.1 hv with h | h
    · exact wL_far rs j v h
    · rw [List.mem_singleton] at h; subst h; exact rgv_far (lgN_far (wL_far rs j) _) _
def worstW (im : Im) : Int := rgv (wL im.rs im.rs.length) ((im.rs.length : Int) - 1)
theorem cI_snoc (l : List Int) (v : Int) : cI l ++ [V.d (.int .i64 v)] = cI (l ++ [v]) := by unfold cI; simp [dI]

set_option maxHeartbeats 4000000 in
theorem worst_den (im : Im) (hG : GoodIm im) (hc : den Tryd.prog Cp.cfg 22 [aM im] = some (dI 0)) : den Tryd.prog Cp.cfg 21 [aM im] = some (.tuple [dI (if 1099511627776 < worstW im then 0 else worstW im), dI (if 1099511627776 < worstW im then 3 else 0)]) := by
  have hrl := hG.rl
  have hne := hG.ne
  simp only [aM, Im.cells, List.map_cons, List.map_nil, dI] at hc
  have hre : (encR im.rs).length = im.rs.length := by unfold encR; simp
  refine den_wp Tryd.func21 rfl (by kernel_rfl) rfl rfl ?_
  refine wkc (And.intro @dI.eq_1 (And.intro @aM.eq_1 (And.intro @Im.cells.eq_1 @hc))) ?_
  apply WP.loop' (I := fun D s => ∃ (j g : Nat), j + D = im.rs.length ∧ ∃ c', s = ⟨[(5, .osl 1 g 0 j 1 none), (15, .d (.slice (encR im.rs))), (16, dI im.rs.length), (17, dI j)], [(0, ⟨0, false, [.d (.slice (encI im.enums)), .d (.slice (encR im.rs))]⟩), (1, ⟨g, false, cI (wL im.rs j)⟩)], 2, c', 0, []⟩) (d := im.rs.length)
  · exact ⟨0, 1, by simp, 2, by rfl⟩
  rintro D _ ⟨j, g, hj, c', rfl⟩
  refine wk (@dI.eq_1) ?_
  show WP _ _ _ _ _ _
  refine WP.cond _ rfl (fun hb => ?_) (fun hb => ?_)
  · simp at hb
    have hb' : j < im.rs.length := hb
    obtain ⟨r, hr, hm, hix⟩ := at_lt hb'
    have hr' := encR_at hr
    have hw := w_succ hb' (by omega)
    have hok := hG.ok j r hr
    have hcl := hG.cl r hm
    have hlo := longest_den (rs := im.rs) (k := j) (R := r.regs.toNat) (M := r.ini.length) r (wL im.rs j) (wL_far _ _) (wL_len _ _) hok.code hcl
    have hra : rtAt im.rs (j : Int) = r := rtAt_nat hr
    have hnext : wL im.rs (j + 1) = wL im.rs j ++ [lng (wL im.rs j) r] := by rw [wL, hra]
    have f5 : fitsB (j + 1) 8 = true := by simp [fitsB]; omega
    have hcl2 : (cI (wL im.rs j)).length = j := by rw [cI_len, wL_len]
    have hct : (cI (wL im.rs j)).take j = cI (wL im.rs j) := by rw [List.take_of_length_le (by omega)]
    have hsn := cI_snoc (wL im.rs j) (lng (wL im.rs j) r)
    have hch : chunk 1 j (wL im.rs j |>.map ni) = encI (wL im.rs j) := by
      have := chunkI (wL im.rs j); rw [wL_len] at this; exact this
    rw [← hnext] at hsn
    simp only [aR, Rt.cells, List.map_cons, List.map_nil, dL, dI] at hlo
    refine wkc (And.intro @dI.eq_1 (And.intro @hix (And.intro @hr' (And.intro @Rt.cells.eq_1 (And.intro @hlo (And.intro @rowsI (And.intro @fillV.eq_1 (And.intro @fillV.eq_2 (And.intro @toD_dep (And.intro @toDs.eq_1 (And.intro @toDs.eq_2 (And.intro @toDs_ci (And.intro @hch (And.intro @nble_d (And.intro @closeParts.eq_1 (And.intro @closeParts.eq_2 (And.intro @cl2.eq_def (And.intro @f5 (And.intro @hcl2 (And.intro @hct @hsn)))))))))))))))))))) ?_
    refine loop_next (by simp [hw]; exact Is.rfl) ?_
    exact ⟨D - 1, by omega, j + 1, _, by omega, _, by rfl⟩
  · simp at hb
    have hje : j = im.rs.length := by omega
    subst hje
    have hwn : IntKind.i64.wrap ((im.rs.length : Int) - 1) = ((im.rs.length - 1 : Nat) : Int) := by rw [w_id'] <;> omega
    have hixn := idx_lt (i := im.rs.length - 1) (n := im.rs.length) (by omega)
    have hv := cI_at (rgv_at (l := wL im.rs im.rs.length) (j := im.rs.length - 1) (by rw [wL_len]; omega))
    have hvw : rgv (wL im.rs im.rs.length) ((im.rs.length - 1 : Nat) : Int) = worstW im := by
      rw [worstW, show (im.rs.length : Int) - 1 = ((im.rs.length - 1 : Nat) : Int) by omega]
    rw [hvw] at hv
    have hcl2 : (cI (wL im.rs im.rs.length)).length = im.rs.length := by rw [cI_len, wL_len]
    have hlt : (im.rs.length - 1 < im.rs.length) = True := eq_true (by omega)
    have hlt' : (im.rs.length - 1 + 1 ≤ im.rs.length) = True := eq_true (by omega)
    have hv' : ∀ h : im.rs.length - 1 < (cI (wL im.rs im.rs.length)).length, (cI (wL im.rs im.rs.length))[im.rs.length - 1]'h = V.d (.int .i64 (worstW im)) := fun h => (List.getElem?_eq_some_iff.1 hv).2
    by_cases hf : 1099511627776 < worstW im
    · have hf' := eq_true hf
      rw [if_pos hf, if_pos hf]
      refine wkc (And.intro @dI.eq_1 (And.intro @hwn (And.intro @hixn (And.intro @hv (And.intro @hv' (And.intro @hcl2 (And.intro @hlt (And.intro @hlt' (And.intro @hf' @nble_d))))))))) ?_
      exact ⟨.inr rfl, _, _, rfl, rfl⟩
    · have hf' := eq_false hf
      rw [if_neg hf, if_neg hf]
      refine wkc (And.intro @dI.eq_1 (And.intro @hwn (And.intro @hixn (And.intro @hv (And.intro @hv' (And.intro @hcl2 (And.intro @hlt (And.intro @hlt' (And.intro @hf' @nble_d))))))))) ?_
      exact ⟨.inr rfl, _, _, rfl, rfl⟩
end Go.Ac
