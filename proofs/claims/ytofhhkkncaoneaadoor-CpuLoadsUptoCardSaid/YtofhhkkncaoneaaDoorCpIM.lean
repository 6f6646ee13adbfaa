/- The check's small functions. -/
import Derived.Test.YtofhhkkncaoneaaDoorAcBM
import Derived.Test.YtofhhkkncaoneaaDoorAcDM
import Derived.Test.YtofhhkkncaoneaaDoorAcGM
import Derived.Test.YtofhhkkncaoneaaDoorAcJM
import Derived.Test.YtofhhkkncaoneaaDoorAcSM
import Derived.Test.YtofhhkkncaoneaaDoorAcXM
import Derived.Test.YtofhhkkncaoneaaDoorAcUcM
import Derived.Test.YtofhhkkncaoneaaDoorAcThM
import Derived.Test.YtofhhkkncaoneaaDoorCpBM
import Derived.Test.YtofhhkkncaoneaaDoorCpD
import Derived.Test.YtofhhkkncaoneaaDoorCpE
import Derived.Test.YtofhhkkncaoneaaDoorCpF
import Derived.Test.YtofhhkkncaoneaaDoorCpG
import Derived.Calls
import Derived.Orders
import Derived.Laws.World
import Derived.Laws.Sem
import Derived.Laws.Cells
import Derived.Laws.Append
import GoSem.ClaimData
import Derived.Laws.Tables
import Derived.Laws.Slices
import Derived.Laws.Strings
import Derived.Laws.Small
import Derived.KernelRfl
import Derived.Test.YtofhhkkncaoneaaDoorChecked
set_option linter.unusedVariables false
set_option linter.unusedSimpArgs false
section
set_option maxRecDepth 4000
set_option linter.unusedSimpArgs false
set_option linter.unusedVariables false
namespace Go.Ac
open Go.Proofs

theorem int_beq (a b : Int) : (a == b) = decide (a = b) := by
  by_cases h : a = b <;> simp [h]

set_option maxHeartbeats 4000000 in
theorem rapply_den (op : Int) (hop : IsOp op) (l : List Int) (hl : l.length = ar op) : den Tryd.prog Cp.cfg 57 [dI op, dL l] = some (.tuple [dI (apV op l).1, dI (apV op l).2]) := by
  have hg := roperands_den hop
  have hbo := rboolean_den hop
  have heq := requality_den hop
  have har : ar op = 1 ∨ ar op = 2 := by unfold ar; split <;> simp
  simp only [dI, dB] at hg hbo heq
  refine den_wp Tryd.func57 rfl (by kernel_rfl) rfl rfl ?_
  refine wk (And.intro @dI.eq_1 (And.intro @dL.eq_1 @hg)) ?_
  show WP _ _ _ _ _ _
  refine WP.cond _ rfl (fun hb => ?_) (fun hb => ?_)
  · rcases har with h | h <;> simp [h] at hb
  clear hb
  refine wk (@hg) ?_
  show WP _ _ _ _ _ _
  refine WP.cond _ rfl (fun hb => ?_) (fun hb => ?_)
  · simp [hl] at hb
  clear hb
  refine wk True.intro ?_
  apply WP.loop' (I := fun d s => ∃ i : Nat, i + d = l.length ∧ (l.take i).all (okA (opK op)) = true ∧ SE [(0, dI op), (1, dL l), (6, dI i)] [] 0 s) (d := l.length)
  · exact ⟨0, by simp, by simp, SE.mk (by simp [dI, dL, hl]) rfl⟩
  rintro d _ ⟨i, hi, hno, c, rfl⟩
  refine wk (And.intro @dI.eq_1 @dL.eq_1) ?_
  show WP _ _ _ _ _ _
  refine WP.cond _ rfl (fun hb => ?_) (fun hb => ?_)
  · simp at hb
    have hb' : i < l.length := hb
    obtain ⟨v, hv, hvm, hix⟩ := at_lt hb'
    have hv' := encI_at hv
    have hw := w_succ hb' (by omega)
    have hts := all_take_succ (p := okA (opK op)) hv
    have bad : okA (opK op) v = false → apV op l = (0, 14) := fun h => by
      have : okL op l = false := not_all hvm h
      unfold apV; rw [this]; rfl
    rcases opK_cases op with hk | hk | hk | hk
    · by_cases h0 : v = 0
      · subst h0
        refine wkc (And.intro @hk (And.intro @hbo (And.intro @heq (And.intro @hix (And.intro @hv' @dL.eq_1))))) ?_
        refine loop_next (by simp [hw]; exact Is.rfl) ?_
        exact ⟨d - 1, by omega, i + 1, by omega, by rw [hts, hno, hk]; rfl, SE.mk (by simp [dI, hw, dL, hk]) rfl⟩
      · by_cases h1 : v = 1
        · subst h1
          refine wkc (And.intro @hk (And.intro @hbo (And.intro @heq (And.intro @hix (And.intro @hv' @dL.eq_1))))) ?_
          refine loop_next (by simp [hw]; exact Is.rfl) ?_
          exact ⟨d - 1, by omega, i + 1, by omega, by rw [hts, hno, hk]; rfl, SE.mk (by simp [dI, hw, dL, hk]) rfl⟩
        · refine wkc (And.intro @hk (And.intro @hbo (And.intro @heq (And.intro @hix (And.intro @hv' (And.intro @dL.eq_1 (And.intro @h0 (And.intro @h1 @int_bne)))))))) ?_
          rw [bad (by rw [hk]; simp [okA, h0, h1])]
          show retQ _ _ _ _ _
          exact ⟨.inr rfl, _, _, rfl, rfl⟩
    · by_cases h0 : v < -32768
      · refine wkc (And.intro @hk (And.intro @hbo (And.intro @heq (And.intro @hix (And.intro @hv' (And.intro @dL.eq_1 (And.intro @h0 @int_bne))))))) ?_
        rw [bad (by rw [hk]; simp [okA]; omega)]
        show retQ _ _ _ _ _
        exact ⟨.inr rfl, _, _, rfl, rfl⟩
      · by_cases h1 : v > 32767
        · refine wkc (And.intro @hk (And.intro @hbo (And.intro @heq (And.intro @hix (And.intro @hv' (And.intro @dL.eq_1 (And.intro @h0 (And.intro @h1 @int_bne)))))))) ?_
          rw [bad (by rw [hk]; simp [okA]; omega)]
          show retQ _ _ _ _ _
          exact ⟨.inr rfl, _, _, rfl, rfl⟩
        · refine wkc (And.intro @hk (And.intro @hbo (And.intro @heq (And.intro @hix (And.intro @hv' (And.intro @dL.eq_1 (And.intro @h0 (And.intro @h1 @int_bne)))))))) ?_
          refine loop_next (by simp [hw]; exact Is.rfl) ?_
          exact ⟨d - 1, by omega, i + 1, by omega, by rw [hts, hno, hk]; simp [okA]; omega, SE.mk (by simp [dI, hw, dL, hk]) rfl⟩
    · refine wkc (And.intro @hk (And.intro @hbo (And.intro @heq (And.intro @hix (And.intro @hv' (And.intro @dL.eq_1 @int_bne)))))) ?_
      refine loop_next (by simp [hw]; exact Is.rfl) ?_
      exact ⟨d - 1, by omega, i + 1, by omega, by rw [hts, hno, hk]; rfl, SE.mk (by simp [dI, hw, dL, hk]) rfl⟩
    · by_cases h0 : v < -32768
      · refine wkc (And.intro @hk (And.intro @hbo (And.intro @heq (And.intro @hix (And.intro @hv' (And.intro @dL.eq_1 (And.intro @h0 @int_bne))))))) ?_
        rw [bad (by rw [hk]; simp [okA]; omega)]
        show retQ _ _ _ _ _
        exact ⟨.inr rfl, _, _, rfl, rfl⟩
      · by_cases h1 : v > 32767
        · refine wkc (And.intro @hk (And.intro @hbo (And.intro @heq (And.intro @hix (And.intro @hv' (And.intro @dL.eq_1 (And.intro @h0 (And.intro @h1 @int_bne)))))))) ?_
          rw [bad (by rw [hk]; simp [okA]; omega)]
          show retQ _ _ _ _ _
          exact ⟨.inr rfl, _, _, rfl, rfl⟩
        · refine wkc (And.intro @hk (And.intro @hbo (And.intro @heq (And.intro @hix (And.intro @hv' (And.intro @dL.eq_1 (And.intro @h0 (And.intro @h1 @int_bne)))))))) ?_
          refine loop_next (by simp [hw]; exact Is.rfl) ?_
          exact ⟨d - 1, by omega, i + 1, by omega, by rw [hts, hno, hk]; simp [okA]; omega, SE.mk (by simp [dI, hw, dL, hk]) rfl⟩
  · simp at hb
    have hil : i = l.length := by omega
    have hall : okL op l = true := by unfold okL; rw [← hno, hil, List.take_length]
    obtain ⟨x, hx⟩ : ∃ x, l[0]? = some x := ⟨l[0]'(by omega), by simp⟩
    obtain ⟨y, hy⟩ : ∃ y, l[l.length - 1]? = some y := ⟨l[l.length - 1]'(by omega), by simp⟩
    have hx' := encI_at hx
    have hy' := encI_at hy
    have hres : apV op l = (resI op x y, 0) := by
      unfold apV; rw [hall]; simp [List.getD, hx, hy]
    have hxo : okA (opK op) x = true := List.all_eq_true.1 hall x (List.mem_of_getElem? hx)
    have hyo : okA (opK op) y = true := List.all_eq_true.1 hall y (List.mem_of_getElem? hy)
    rw [hres]
    have i0 : idx 0 (ar op) = some 0 := by have := idx_lt (i := 0) (n := ar op) (by omega); simpa using this
    rw [hl] at hy'
    by_cases h1 : op = 1
    · subst h1
      rcases okA_bool hxo with rfl | rfl
      all_goals
        refine wkc (And.intro @dL.eq_1 (And.intro @hl (And.intro @i0 @hx'))) ?_
        show retQ _ _ _ _ _
        exact ⟨.inr rfl, _, _, rfl, rfl⟩
    by_cases h2 : op = 2
    · subst h2
      have e := rneg_den x
      simp only [dI] at e
      refine wkc (And.intro @dL.eq_1 (And.intro @hl (And.intro @i0 (And.intro @hx' @e)))) ?_
      show retQ _ _ _ _ _
      exact ⟨.inr rfl, _, _, rfl, rfl⟩
    have ha2 : ar op = 2 := by unfold ar; rw [if_neg (by omega)]
    have e := rcompute_den op x y hop h1 h2 hxo hyo
    simp only [dI] at e
    have i1 : idx 1 (ar op) = some 1 := by rw [ha2]; rfl
    have hy2 : (encI l)[1]? = some [.int .i64 y] := by rw [ha2] at hy'; exact hy'
    refine wkc (And.intro @dL.eq_1 (And.intro @hl (And.intro @i0 (And.intro @i1 (And.intro @hx' (And.intro @hy2 (And.intro @h1 (And.intro @h2 (And.intro @e @int_beq))))))))) ?_
    show retQ _ _ _ _ _
    exact ⟨.inr rfl, _, _, rfl, rfl⟩

/-- The machine's operator. -/
def apR (op : Int) (l : List Int) : Int := (apV op l).1
theorem mapply_den (op : Int) (hop : IsOp op) (l : List Int) (hl : l.length = ar op) : den Tryd.prog Cp.cfg 55 [dI op, dL l] = some (dI (apR op l)) := by
  have h := apply_den op hop l hl
  refine den_wp Tryd.func55 rfl (by kernel_rfl) rfl rfl ?_
  simp only [dI, dL] at h
  refine wkc (And.intro @dI.eq_1 (And.intro @dL.eq_1 @h)) ?_
  show retQ _ _ _ _ _
  exact ⟨.inr rfl, _, _, rfl, rfl⟩
theorem apV_err (op : Int) (l : List Int) : (apV op l).2 ≠ 0 → (apV op l).1 = 0 := by
  unfold apV; split <;> simp
theorem rmapply_den (op : Int) (hop : IsOp op) (l : List Int) (hl : l.length = ar op) : den Tryd.prog Cp.cfg 42 [dI op, dL l] = some (dI (apR op l)) := by
  have h := rapply_den op hop l hl
  refine den_wp Tryd.func42 rfl (by kernel_rfl) rfl rfl ?_
  simp only [dI, dL] at h
  by_cases h0 : (apV op l).2 = 0
  · rw [h0] at h
    refine wkc (And.intro @dI.eq_1 (And.intro @dL.eq_1 @h)) ?_
    show retQ _ _ _ _ _
    exact ⟨.inr rfl, _, _, rfl, rfl⟩
  · have h1 := apV_err op l h0
    refine wkc (And.intro @dI.eq_1 (And.intro @dL.eq_1 (And.intro @h (And.intro @h0 @int_bne)))) ?_
    show retQ _ _ _ _ _
    exact ⟨.inr rfl, _, _, rfl, by simp [apR, h1]; rfl⟩
end Go.Ac
end

section
set_option maxRecDepth 4000
set_option linter.unusedSimpArgs false
set_option linter.unusedVariables false
namespace Go.Ac
open Go.Proofs

def outE (n : Int) : Bool := decide (n < 1) || decide (n > 16)
def outW (n : Int) : Bool := decide (n < -32768) || decide (n > 32767)

theorem outE_den (v : Int) : den Tryd.prog Cp.cfg 37 [dI v] = some (dB (outE v)) := by
  refine den_wp Tryd.func37 rfl (by kernel_rfl) rfl rfl ?_
  by_cases h0 : v < 1
  · refine wkc (And.intro @dI.eq_1 @h0) ?_
    show retQ _ _ _ _ _
    exact ⟨.inr rfl, _, _, rfl, by simp [outE, h0]; rfl⟩
  · by_cases h1 : v > 16
    · refine wkc (And.intro @dI.eq_1 (And.intro @h0 @h1)) ?_
      show retQ _ _ _ _ _
      exact ⟨.inr rfl, _, _, rfl, by simp [outE, h1]; rfl⟩
    · refine wkc (And.intro @dI.eq_1 (And.intro @h0 @h1)) ?_
      show retQ _ _ _ _ _
      exact ⟨.inr rfl, _, _, rfl, by simp [outE, h0, h1]; rfl⟩

theorem outW_den (v : Int) : den Tryd.prog Cp.cfg 48 [dI v] = some (dB (outW v)) := by
  refine den_wp Tryd.func48 rfl (by kernel_rfl) rfl rfl ?_
  by_cases h0 : v < -32768
  · refine wkc (And.intro @dI.eq_1 @h0) ?_
    show retQ _ _ _ _ _
    exact ⟨.inr rfl, _, _, rfl, by simp [outW, h0]; rfl⟩
  · by_cases h1 : v > 32767
    · refine wkc (And.intro @dI.eq_1 (And.intro @h0 @h1)) ?_
      show retQ _ _ _ _ _
      exact ⟨.inr rfl, _, _, rfl, by simp [outW, h1]; rfl⟩
    · refine wkc (And.intro @dI.eq_1 (And.intro @h0 @h1)) ?_
      show retQ _ _ _ _ _
      exact ⟨.inr rfl, _, _, rfl, by simp [outW, h0, h1]; rfl⟩

def idxP (p : Int → Bool) (l : List Int) : Int := match l.findIdx? p with | some i => (i : Int) | none => -1
theorem idxP_some {p : Int → Bool} {l : List Int} {i : Nat} {v : Int} (h : (l.take i).all (fun v => !p v) = true) (hi : l[i]? = some v) (hv : p v = true) : idxP p l = i := by
  obtain ⟨hl, he⟩ := List.getElem?_eq_some_iff.1 hi
  have : l.findIdx? p = some i := by
    rw [List.findIdx?_eq_some_iff_getElem]
    refine ⟨hl, by rw [he]; exact hv, fun j hj => ?_⟩
    have hm : l[j] ∈ l.take i := List.mem_take_iff_getElem.2 ⟨j, by omega, rfl⟩
    simpa using List.all_eq_true.1 h _ hm
  unfold idxP; rw [this]
theorem idxP_none {p : Int → Bool} {l : List Int} (h : (l.take l.length).all (fun v => !p v) = true) : idxP p l = -1 := by
  rw [List.take_length] at h
  have h' : ∀ x, x ∈ l → p x = false := fun x hx => by simpa using List.all_eq_true.1 h x hx
  unfold idxP; rw [List.findIdx?_eq_none_iff.2 h']
theorem idxP_any (p : Int → Bool) (l : List Int) : decide (idxP p l ≥ 0) = l.any p := by
  unfold idxP
  cases h : l.findIdx? p with
  | none =>
    have h' := List.findIdx?_eq_none_iff.1 h
    rw [show l.any p = false from by rw [List.any_eq_false]; intro x hx; simp [h' x hx]]
    rfl
  | some i =>
    obtain ⟨hl, hp, _⟩ := List.findIdx?_eq_some_iff_getElem.1 h
    rw [show l.any p = true from List.any_eq_true.2 ⟨_, List.getElem_mem hl, hp⟩]
    simp

set_option maxHeartbeats 1000000 in
theorem index_outE (l : List Int) (hl : l.length ≤ MX) : den Tryd.prog Cp.cfg 43 [dL l, .fn 37 []] = some (dI (idxP outE l)) := by
  have hf := outE_den
  simp only [dI, dB] at hf
  unfold MX at hl
  refine den_wp Tryd.func43 rfl (by kernel_rfl) rfl rfl ?_
  refine wk (@dL.eq_1) ?_
  apply WP.loop' (I := fun d s => ∃ i : Nat, i + d = l.length ∧ (l.take i).all (fun v => !outE v) = true ∧ SE [(0, dL l), (1, .fn 37 []), (7, dI l.length), (8, dI i)] [] 0 s) (d := l.length)
  · exact ⟨0, by simp, by simp, SE.mk (by simp [dI, dL]) rfl⟩
  rintro d _ ⟨i, hi, hno, c, rfl⟩
  refine wk (And.intro @dI.eq_1 @dL.eq_1) ?_
  show WP _ _ _ _ _ _
  refine WP.cond _ rfl (fun hb => ?_) (fun hb => ?_)
  · simp at hb
    have hb' : i < l.length := hb
    obtain ⟨v, hv, hvm, hix⟩ := at_lt hb'
    have hv' := encI_at hv
    have hw := w_succ hb' (by omega)
    have hts := all_take_succ (p := fun v => !outE v) hv
    cases hp : outE v with
    | true =>
      have hfv := hf v
      rw [hp] at hfv
      refine wkc (And.intro @hix (And.intro @hv' (And.intro @dL.eq_1 @hfv))) ?_
      rw [idxP_some hno hv hp]
      show retQ _ _ _ _ _
      exact ⟨.inr rfl, _, _, rfl, rfl⟩
    | false =>
      have hfv := hf v
      rw [hp] at hfv
      refine wkc (And.intro @hix (And.intro @hv' (And.intro @dL.eq_1 @hfv))) ?_
      refine loop_next (by simp [hw]; exact Is.rfl) ?_
      exact ⟨d - 1, by omega, i + 1, by omega, by rw [hts, hno, hp]; rfl, SE.mk (by simp [dI, hw, dL]) rfl⟩
  · simp at hb
    have hil : i = l.length := by omega
    subst hil
    rw [idxP_none hno]
    refine wk True.intro ?_
    show retQ _ _ _ _ _
    exact ⟨.inr rfl, _, _, rfl, rfl⟩
theorem contains_outE (l : List Int) (hl : l.length ≤ MX) : den Tryd.prog Cp.cfg 36 [dL l, .fn 37 []] = some (dB (l.any outE)) := by
  have h := index_outE l hl
  simp only [dI, dL] at h
  rw [← idxP_any]
  refine den_wp Tryd.func36 rfl (by kernel_rfl) rfl rfl ?_
  refine wk (And.intro @dL.eq_1 @h) ?_
  show retQ _ _ _ _ _
  exact ⟨.inr rfl, _, _, rfl, rfl⟩

set_option maxHeartbeats 1000000 in
theorem index_outW (l : List Int) (hl : l.length ≤ MX) : den Tryd.prog Cp.cfg 43 [dL l, .fn 48 []] = some (dI (idxP outW l)) := by
  have hf := outW_den
  simp only [dI, dB] at hf
  unfold MX at hl
  refine den_wp Tryd.func43 rfl (by kernel_rfl) rfl rfl ?_
  refine wk (@dL.eq_1) ?_
  apply WP.loop' (I := fun d s => ∃ i : Nat, i + d = l.length ∧ (l.take i).all (fun v => !outW v) = true ∧ SE [(0, dL l), (1, .fn 48 []), (7, dI l.length), (8, dI i)] [] 0 s) (d := l.length)
  · exact ⟨0, by simp, by simp, SE.mk (by simp [dI, dL]) rfl⟩
  rintro d _ ⟨i, hi, hno, c, rfl⟩
  refine wk (And.intro @dI.eq_1 @dL.eq_1) ?_
  show WP _ _ _ _ _ _
  refine WP.cond _ rfl (fun hb => ?_) (fun hb => ?_)
  · simp at hb
    have hb' : i < l.length := hb
    obtain ⟨v, hv, hvm, hix⟩ := at_lt hb'
    have hv' := encI_at hv
    have hw := w_succ hb' (by omega)
    have hts := all_take_succ (p := fun v => !outW v) hv
    cases hp : outW v with
    | true =>
      have hfv := hf v
      rw [hp] at hfv
      refine wkc (And.intro @hix (And.intro @hv' (And.intro @dL.eq_1 @hfv))) ?_
      rw [idxP_some hno hv hp]
      show retQ _ _ _ _ _
      exact ⟨.inr rfl, _, _, rfl, rfl⟩
    | false =>
      have hfv := hf v
      rw [hp] at hfv
      refine wkc (And.intro @hix (And.intro @hv' (And.intro @dL.eq_1 @hfv))) ?_
      refine loop_next (by simp [hw]; exact Is.rfl) ?_
      exact ⟨d - 1, by omega, i + 1, by omega, by rw [hts, hno, hp]; rfl, SE.mk (by simp [dI, hw, dL]) rfl⟩
  · simp at hb
    have hil : i = l.length := by omega
    subst hil
    rw [idxP_none hno]
    refine wk True.intro ?_
    show retQ _ _ _ _ _
    exact ⟨.inr rfl, _, _, rfl, rfl⟩
theorem contains_outW (l : List Int) (hl : l.length ≤ MX) : den Tryd.prog Cp.cfg 36 [dL l, .fn 48 []] = some (dB (l.any outW)) := by
  have h := index_outW l hl
  simp only [dI, dL] at h
  rw [← idxP_any]
  refine den_wp Tryd.func36 rfl (by kernel_rfl) rfl rfl ?_
  refine wk (And.intro @dL.eq_1 @h) ?_
  show retQ _ _ _ _ _
  exact ⟨.inr rfl, _, _, rfl, rfl⟩
end Go.Ac
end
