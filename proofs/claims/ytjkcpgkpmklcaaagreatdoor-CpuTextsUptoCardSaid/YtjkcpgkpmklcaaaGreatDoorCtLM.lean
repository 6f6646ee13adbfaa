/- The form of an instruction. -/
import Derived.Test.YtjkcpgkpmklcaaaGreatDoorCtDM
import Derived.Lib.RuneCount
set_option linter.unusedVariables false
set_option linter.unusedSimpArgs false
section
set_option maxRecDepth 4000
namespace Go.Ac
open Go.Proofs

/-- An operator's number. -/
def IsOp (op : Int) : Prop := op = 1 ∨ op = 2 ∨ op = 3 ∨ op = 4 ∨ op = 5 ∨ op = 6 ∨ op = 7 ∨ op = 8 ∨ op = 9 ∨ op = 10 ∨ op = 11 ∨ op = 12 ∨ op = 13 ∨ op = 14 ∨ op = 15 ∨ op = 16
theorem isOp_of {op : Int} (h : 1 ≤ op) (h' : op ≤ 16) : IsOp op := by unfold IsOp; omega
/-- Its group: on truth, arithmetic, equality, order. -/
def opK (op : Int) : Int := if op = 1 ∨ op = 3 ∨ op = 4 ∨ op = 5 then 1 else if op = 2 ∨ op = 6 ∨ op = 7 ∨ op = 8 ∨ op = 9 ∨ op = 10 then 2 else if op = 11 ∨ op = 12 then 3 else 4
def ar (op : Int) : Nat := if op = 1 ∨ op = 2 then 1 else 2
theorem opK_cases (op : Int) : opK op = 1 ∨ opK op = 2 ∨ opK op = 3 ∨ opK op = 4 := by unfold opK; split <;> (try split) <;> (try split) <;> simp

theorem group_den {op : Int} (h : IsOp op) : den Tryz.prog Cp.cfg 92 [dI op] = some (.tuple [dI (opK op), dI (ar op)]) := by
 rcases h with rfl | rfl | rfl | rfl | rfl | rfl | rfl | rfl | rfl | rfl | rfl | rfl | rfl | rfl | rfl | rfl <;> exact den_k 100 (fun k => by kernel_rfl) rfl
/-- An arithmetic operator's result. -/
def cmpI (op a b : Int) : Int :=
 if op = 2 then w16 (-(w16 a)) else if op = 6 then w16 (w16 a + w16 b) else if op = 7 then w16 (w16 a - w16 b) else if op = 8 then w16 (w16 a * w16 b) else if op = 9 then divI (w16 a) (w16 b) else modI (w16 a) (w16 b)
/-- Any other operator's. -/
def hldI (op a b : Int) : Bool :=
 if op = 1 then decide (a = 0) else if op = 3 then decide (a = 1) && decide (b = 1) else if op = 4 then decide (a = 1) || decide (b = 1) else if op = 11 then decide (a = b) else if op = 5 ∨ op = 12 then !decide (a = b)
 else if op = 13 then decide (a < b) else if op = 14 then decide (a ≤ b) else if op = 15 then decide (a > b) else decide (a ≥ b)
def resI (op a b : Int) : Int := if opK op = 2 then cmpI op a b else if hldI op a b then 1 else 0

set_option maxHeartbeats 4000000 in
theorem compute_den (op a b : Int) (h : opK op = 2) : den Tryz.prog Cp.cfg 93 [dI op, dI a, dI b] = some (dI (cmpI op a b)) := by
 have h1 := neg_den a
 have h2 := add_den a b
 have h3 := sub_den a b
 have h4 := mul_den a b
 have h5 := div_den a b
 have h6 := mod_den a b
 simp only [dI] at h1 h2 h3 h4 h5 h6
 have hop : op = 2 ∨ op = 6 ∨ op = 7 ∨ op = 8 ∨ op = 9 ∨ op = 10 := by
  unfold opK at h; split at h
  ·cases h
  ·split at h
   ·assumption
   ·split at h <;> cases h
 refine den_wp Tryz.func93 rfl (by kernel_rfl) rfl rfl ?_
 rcases hop with rfl | rfl | rfl | rfl | rfl | rfl
 all_goals
  refine wkc (jn @dI.eq_1 (jn @h1 (jn @h2 (jn @h3 (jn @h4 (jn @h5 @h6)))))) ?_
  show retQ _ _ _ _ _
  exact ⟨.inr rfl, _, _, rfl, rfl⟩

set_option maxHeartbeats 4000000 in
theorem holds_den (op a b : Int) (h : IsOp op) (h' : opK op ≠ 2) : den Tryz.prog Cp.cfg 95 [dI op, dI a, dI b] = some (dB (hldI op a b)) := by
 refine den_wp Tryz.func95 rfl (by kernel_rfl) rfl rfl ?_
 rcases h with rfl | rfl | rfl | rfl | rfl | rfl | rfl | rfl | rfl | rfl | rfl | rfl | rfl | rfl | rfl | rfl <;> first | exact absurd (by decide) h' | skip
 case inr.inr.inl =>
  by_cases ha : a = 1
  ·subst ha
   refine wkc (@dI.eq_1) ?_
   show retQ _ _ _ _ _
   exact ⟨.inr rfl, _, _, rfl, by simp [hldI]; rfl⟩
  ·have ha' : (a == 1) = false := by simp [ha]
   refine wkc (jn @dI.eq_1 @ha') ?_
   show retQ _ _ _ _ _
   exact ⟨.inr rfl, _, _, rfl, by simp [hldI, ha]; rfl⟩
 case inr.inr.inr.inl =>
  by_cases ha : a = 1
  ·subst ha
   refine wkc (@dI.eq_1) ?_
   show retQ _ _ _ _ _
   exact ⟨.inr rfl, _, _, rfl, by simp [hldI]; rfl⟩
  ·have ha' : (a == 1) = false := by simp [ha]
   refine wkc (jn @dI.eq_1 @ha') ?_
   show retQ _ _ _ _ _
   exact ⟨.inr rfl, _, _, rfl, by simp [hldI, ha]; rfl⟩
 all_goals
  refine wkc (@dI.eq_1) ?_
  show retQ _ _ _ _ _
  exact ⟨.inr rfl, _, _, rfl, by simp [hldI]; rfl⟩
end Go.Ac
end

section
set_option maxRecDepth 4000
namespace Go.Ac
open Go.Proofs

/-- May a value be an operand? -/
def okA (k v : Int) : Bool := if k = 1 then decide (v = 0) || decide (v = 1) else if k = 3 then true else decide (-32768 ≤ v) && decide (v ≤ 32767)
def okL (op : Int) (l : List Int) : Bool := l.all (okA (opK op))
def apV (op : Int) (l : List Int) : Int × Int := if okL op l then (resI op (l.getD 0 0) (l.getD (l.length - 1) 0), 0) else (0, 14)

theorem int_bne (a b : Int) : (a != b) = !decide (a = b) := by
 by_cases h : a = b <;> simp [h]
theorem all_take_succ {α : Type} {p : α → Bool} {l : List α} {i : Nat} {x : α} (h : l[i]? = some x) : (l.take (i + 1)).all p = ((l.take i).all p && p x) := by
 have : l.take (i + 1) = l.take i ++ [x] := by
  rw [List.take_add_one, h]; rfl
 rw [this, List.all_append]; simp
theorem not_all {α : Type} {p : α → Bool} {l : List α} {x : α} (hm : x ∈ l) (hx : p x = false) : l.all p = false := by
 rw [List.all_eq_false]; exact ⟨x, hm, by simp [hx]⟩

set_option maxHeartbeats 4000000 in
theorem apply_den (op : Int) (hop : IsOp op) (l : List Int) (hl : l.length = ar op) : den Tryz.prog Cp.cfg 75 [dI op, dL l] = some (.tuple [dI (apV op l).1, dI (apV op l).2]) := by
 have hg := group_den hop
 have har : ar op = 1 ∨ ar op = 2 := by unfold ar; split <;> simp
 have hk0 : ¬ opK op = 0 := by rcases opK_cases op with h | h | h | h <;> omega
 have hin := in_den
 simp only [dI, dB] at hg hin
 refine den_wp Tryz.func75 rfl (by kernel_rfl) rfl rfl ?_
 have hk0' : (opK op == 0) = false := by simp [hk0]
 refine wkc (jn @dI.eq_1 (jn @dL.eq_1 (jn @hg @hk0'))) ?_
 show WP _ _ _ _ _ _
 refine WP.cond _ rfl (fun hb => ?_) (fun hb => ?_)
 ·simp [hl] at hb
 clear hb
 refine wk True.intro ?_
 apply WP.loop' (I := fun d s => ∃ i : Nat, i + d = l.length ∧ (l.take i).all (okA (opK op)) = true ∧ SE [(0, dI op), (1, dL l), (6, dI (opK op)), (7, dI (ar op)), (25, dL l), (26, dI l.length), (27, dI i)] [] 0 s) (d := l.length)
 ·exact ⟨0, by simp, by simp, SE.mk (by simp [dI, dL, hl]) rfl⟩
 rintro d _ ⟨i, hi, hno, c, rfl⟩
 refine wk (jn @dI.eq_1 @dL.eq_1) ?_
 show WP _ _ _ _ _ _
 refine WP.cond _ rfl (fun hb => ?_) (fun hb => ?_)
 ·simp at hb
  have hb' : i < l.length := hb
  obtain ⟨v, hv, hvm, hix⟩ := at_lt hb'
  have hv' := encI_at hv
  have hw := w_succ hb' (by omega)
  have hts := all_take_succ (p := okA (opK op)) hv
  have good : okA (opK op) v = true → (if okL op l then (resI op (l.getD 0 0) (l.getD (l.length - 1) 0), (0:Int)) else (0, 14)) = apV op l := fun _ => rfl
  have bad : okA (opK op) v = false → apV op l = (0, 14) := fun h => by
   have : okL op l = false := not_all hvm h
   unfold apV; rw [this]; rfl
  refine wk (jn @hix (jn @hv' @dL.eq_1)) ?_
  rcases opK_cases op with hk | hk | hk | hk
  ·by_cases h0 : v = 0
   ·subst h0
    refine wkc (@hk) ?_
    refine loop_next (by simp; exact Is.rfl) ?_
    exact ⟨d - 1, by omega, i + 1, by omega, by rw [hts, hno, hk]; rfl, SE.mk (by simp [dI, hw, dL, hk]) rfl⟩
   ·by_cases h1 : v = 1
    ·subst h1
     refine wkc (@hk) ?_
     refine loop_next (by simp; exact Is.rfl) ?_
     exact ⟨d - 1, by omega, i + 1, by omega, by rw [hts, hno, hk]; rfl, SE.mk (by simp [dI, hw, dL, hk]) rfl⟩
    ·refine wkc (jn @hk (jn @h0 (jn @h1 @int_bne))) ?_
     rw [bad (by rw [hk]; simp [okA, h0, h1])]
     show retQ _ _ _ _ _
     exact ⟨.inr rfl, _, _, rfl, rfl⟩
  ·cases hr : (decide (-32768 ≤ v) && decide (v ≤ 32767)) with
   | true =>
    have hin' := hin v
    rw [hr] at hin'
    refine wkc (jn @hk @hin') ?_
    refine loop_next (by simp; exact Is.rfl) ?_
    exact ⟨d - 1, by omega, i + 1, by omega, by rw [hts, hno, hk]; simp [okA]; simpa using hr, SE.mk (by simp [dI, hw, dL, hk]) rfl⟩
   | false =>
    have hin' := hin v
    rw [hr] at hin'
    refine wkc (jn @hk @hin') ?_
    rw [bad (by rw [hk]; simp only [okA]; simpa using hr)]
    show retQ _ _ _ _ _
    exact ⟨.inr rfl, _, _, rfl, rfl⟩
  ·refine wkc (@hk) ?_
   refine loop_next (by simp; exact Is.rfl) ?_
   exact ⟨d - 1, by omega, i + 1, by omega, by rw [hts, hno, hk]; rfl, SE.mk (by simp [dI, hw, dL, hk]) rfl⟩
  ·cases hr : (decide (-32768 ≤ v) && decide (v ≤ 32767)) with
   | true =>
    have hin' := hin v
    rw [hr] at hin'
    refine wkc (jn @hk @hin') ?_
    refine loop_next (by simp; exact Is.rfl) ?_
    exact ⟨d - 1, by omega, i + 1, by omega, by rw [hts, hno, hk]; simp [okA]; simpa using hr, SE.mk (by simp [dI, hw, dL, hk]) rfl⟩
   | false =>
    have hin' := hin v
    rw [hr] at hin'
    refine wkc (jn @hk @hin') ?_
    rw [bad (by rw [hk]; simp only [okA]; simpa using hr)]
    show retQ _ _ _ _ _
    exact ⟨.inr rfl, _, _, rfl, rfl⟩
 ·simp at hb
  have hil : i = l.length := by omega
  have hall : okL op l = true := by unfold okL; rw [← hno, hil, List.take_length]
  obtain ⟨x, hx⟩ : ∃ x, l[0]? = some x := ⟨l[0]'(by omega), by simp⟩
  obtain ⟨y, hy⟩ : ∃ y, l[l.length - 1]? = some y := ⟨l[l.length - 1]'(by omega), by simp⟩
  have hx' := encI_at hx
  have hy' := encI_at hy
  have hres : apV op l = (resI op x y, 0) := by
   unfold apV; rw [hall]; simp [List.getD, hx, hy]
  rw [hres]
  have i0 : idx 0 (ar op) = some 0 := by have := idx_lt (i := 0) (n := ar op) (by omega); simpa using this
  have i1 : idx ((ar op : Int) - 1) (ar op) = some (ar op - 1) := by
   have := idx_lt (i := ar op - 1) (n := ar op) (by omega)
   rwa [show ((ar op - 1 : Nat) : Int) = (ar op : Int) - 1 by omega] at this
  have w1 : IntKind.i64.wrap ((ar op : Int) - 1) = (ar op : Int) - 1 := by rw [w_id'] <;> omega
  rw [hl] at hy'
  refine wk (jn @dL.eq_1 (jn @hl (jn @i0 (jn @i1 (jn @w1 (jn @hx' @hy')))))) ?_
  show WP _ _ _ _ _ _
  refine WP.cond _ rfl (fun hb => ?_) (fun hb => ?_)
  ·have hk : opK op = 2 := by simpa using hb
   have hc := compute_den op x y hk
   simp only [dI] at hc
   refine wkc (@hc) ?_
   show retQ _ _ _ _ _
   exact ⟨.inr rfl, _, _, rfl, by simp only [resI, if_pos hk]; rfl⟩
  ·have hk : ¬ opK op = 2 := by simpa using hb
   have hh := holds_den op x y hop hk
   have ht := truth_den (hldI op x y)
   simp only [dI, dB] at hh ht
   refine wkc (jn @hh @ht) ?_
   show retQ _ _ _ _ _
   exact ⟨.inr rfl, _, _, rfl, by simp only [resI, if_neg hk]; rfl⟩
end Go.Ac
end

section
set_option maxRecDepth 4000
namespace Go.Ac
open Go.Proofs

theorem int_beq (a b : Int) : (a == b) = decide (a = b) := by
 by_cases h : a = b <;> simp [h]

/-- The machine's operator. -/
def apR (op : Int) (l : List Int) : Int := (apV op l).1
theorem mapply_den (op : Int) (hop : IsOp op) (l : List Int) (hl : l.length = ar op) : den Tryz.prog Cp.cfg 58 [dI op, dL l] = some (dI (apR op l)) := by
 have h := apply_den op hop l hl
 refine den_wp Tryz.func58 rfl (by kernel_rfl) rfl rfl ?_
 simp only [dI, dL] at h
 refine wkc (jn @dI.eq_1 (jn @dL.eq_1 @h)) ?_
 show retQ _ _ _ _ _
 exact ⟨.inr rfl, _, _, rfl, rfl⟩
end Go.Ac
end

section
set_option maxRecDepth 4000
namespace Go.Ac
open Go.Proofs

def outE (n : Int) : Bool := decide (n < 1) || decide (n > 16)
def outW (n : Int) : Bool := decide (n < -32768) || decide (n > 32767)

theorem outE_den (v : Int) : den Tryz.prog Cp.cfg 29 [dI v] = some (dB (outE v)) := by
 refine den_wp Tryz.func29 rfl (by kernel_rfl) rfl rfl ?_
 by_cases h0 : v < 1
 ·refine wkc (jn @dI.eq_1 @h0) ?_
  show retQ _ _ _ _ _
  exact ⟨.inr rfl, _, _, rfl, by simp [outE, h0]; rfl⟩
 ·by_cases h1 : v > 16
  ·refine wkc (jn @dI.eq_1 (jn @h0 @h1)) ?_
   show retQ _ _ _ _ _
   exact ⟨.inr rfl, _, _, rfl, by simp [outE, h1]; rfl⟩
  ·refine wkc (jn @dI.eq_1 (jn @h0 @h1)) ?_
   show retQ _ _ _ _ _
   exact ⟨.inr rfl, _, _, rfl, by simp [outE, h0, h1]; rfl⟩

theorem outW_den (v : Int) : den Tryz.prog Cp.cfg 46 [dI v] = some (dB (outW v)) := by
 refine den_wp Tryz.func46 rfl (by kernel_rfl) rfl rfl ?_
 by_cases h0 : v < -32768
 ·refine wkc (jn @dI.eq_1 @h0) ?_
  show retQ _ _ _ _ _
  exact ⟨.inr rfl, _, _, rfl, by simp [outW, h0]; rfl⟩
 ·by_cases h1 : v > 32767
  ·refine wkc (jn @dI.eq_1 (jn @h0 @h1)) ?_
   show retQ _ _ _ _ _
   exact ⟨.inr rfl, _, _, rfl, by simp [outW, h1]; rfl⟩
  ·refine wkc (jn @dI.eq_1 (jn @h0 @h1)) ?_
   show retQ _ _ _ _ _
   exact ⟨.inr rfl, _, _, rfl, by simp [outW, h0, h1]; rfl⟩

def idxP (p : Int → Bool) (l : List Int) : Int := match l.findIdx? p with | some i => (i : Int) | none => -1
theorem idxP_some {p : Int → Bool} {l : List Int} {i : Nat} {v : Int} (h : (l.take i).all (fun v => !p v) = true) (hi : l[i]? = some v) (hv : p v = true) : idxP p l = i := by
 obtain ⟨hl, he⟩ := List.getElem?_eq_some_iff.1 hi
 have : l.findIdx? p = some i := by
  rw [List.findIdx?_eq_some_iff_getElem]
  refine ⟨hl, by rw [he]; exact hv, fun j hj => ?_⟩
  have hm : l[j] ∈ l.take i := List.mem_take_iff_getElem.2 ⟨j, by omega, rfl⟩
  simpa using List.all_eq_true.1 h _ hm
 unfold idxP; rw [this]
theorem idxP_none {p : Int → Bool} {l : List Int} (h : (l.take l.length).all (fun v => !p v) = true) : idxP p l = -1 := by
 rw [List.take_length] at h
 have h' : ∀ x, x ∈ l → p x = false := fun x hx => by simpa using List.all_eq_true.1 h x hx
 unfold idxP; rw [List.findIdx?_eq_none_iff.2 h']
theorem idxP_any (p : Int → Bool) (l : List Int) : decide (idxP p l ≥ 0) = l.any p := by
 unfold idxP
 cases h : l.findIdx? p with
 | none =>
  have h' := List.findIdx?_eq_none_iff.1 h
  rw [show l.any p = false from by rw [List.any_eq_false]; intro x hx; simp [h' x hx]]
  rfl
 | some i =>
  obtain ⟨hl, hp, _⟩ := List.findIdx?_eq_some_iff_getElem.1 h
  rw [show l.any p = true from List.any_eq_true.2 ⟨_, List.getElem_mem hl, hp⟩]
  simp

set_option maxHeartbeats 1000000 in
theorem index_outE (l : List Int) (hl : l.length ≤ MX) : den Tryz.prog Cp.cfg 41 [dL l, .fn 29 []] = some (dI (idxP outE l)) := by
 have hf := outE_den
 simp only [dI, dB] at hf
 unfold MX at hl
 refine den_wp Tryz.func41 rfl (by kernel_rfl) rfl rfl ?_
 refine wk (@dL.eq_1) ?_
 apply WP.loop' (I := fun d s => ∃ i : Nat, i + d = l.length ∧ (l.take i).all (fun v => !outE v) = true ∧ SE [(0, dL l), (1, .fn 29 []), (7, dI l.length), (8, dI i)] [] 0 s) (d := l.length)
 ·exact ⟨0, by simp, by simp, SE.mk (by simp [dI, dL]) rfl⟩
 rintro d _ ⟨i, hi, hno, c, rfl⟩
 refine wk (jn @dI.eq_1 @dL.eq_1) ?_
 show WP _ _ _ _ _ _
 refine WP.cond _ rfl (fun hb => ?_) (fun hb => ?_)
 ·simp at hb
  have hb' : i < l.length := hb
  obtain ⟨v, hv, hvm, hix⟩ := at_lt hb'
  have hv' := encI_at hv
  have hw := w_succ hb' (by omega)
  have hts := all_take_succ (p := fun v => !outE v) hv
  cases hp : outE v with
  | true =>
   have hfv := hf v
   rw [hp] at hfv
   refine wkc (jn @hix (jn @hv' (jn @dL.eq_1 @hfv))) ?_
   rw [idxP_some hno hv hp]
   show retQ _ _ _ _ _
   exact ⟨.inr rfl, _, _, rfl, rfl⟩
  | false =>
   have hfv := hf v
   rw [hp] at hfv
   refine wkc (jn @hix (jn @hv' (jn @dL.eq_1 @hfv))) ?_
   refine loop_next (by simp [hw]; exact Is.rfl) ?_
   exact ⟨d - 1, by omega, i + 1, by omega, by rw [hts, hno, hp]; rfl, SE.mk (by simp [dI, hw, dL]) rfl⟩
 ·simp at hb
  have hil : i = l.length := by omega
  subst hil
  rw [idxP_none hno]
  refine wk True.intro ?_
  show retQ _ _ _ _ _
  exact ⟨.inr rfl, _, _, rfl, rfl⟩
theorem contains_outE (l : List Int) (hl : l.length ≤ MX) : den Tryz.prog Cp.cfg 28 [dL l, .fn 29 []] = some (dB (l.any outE)) := by
 have h := index_outE l hl
 simp only [dI, dL] at h
 rw [← idxP_any]
 refine den_wp Tryz.func28 rfl (by kernel_rfl) rfl rfl ?_
 refine wk (jn @dL.eq_1 @h) ?_
 show retQ _ _ _ _ _
 exact ⟨.inr rfl, _, _, rfl, rfl⟩

set_option maxHeartbeats 1000000 in
theorem index_outW (l : List Int) (hl : l.length ≤ MX) : den Tryz.prog Cp.cfg 41 [dL l, .fn 46 []] = some (dI (idxP outW l)) := by
 have hf := outW_den
 simp only [dI, dB] at hf
 unfold MX at hl
 refine den_wp Tryz.func41 rfl (by kernel_rfl) rfl rfl ?_
 refine wk (@dL.eq_1) ?_
 apply WP.loop' (I := fun d s => ∃ i : Nat, i + d = l.length ∧ (l.take i).all (fun v => !outW v) = true ∧ SE [(0, dL l), (1, .fn 46 []), (7, dI l.length), (8, dI i)] [] 0 s) (d := l.length)
 ·exact ⟨0, by simp, by simp, SE.mk (by simp [dI, dL]) rfl⟩
 rintro d _ ⟨i, hi, hno, c, rfl⟩
 refine wk (jn @dI.eq_1 @dL.eq_1) ?_
 show WP _ _ _ _ _ _
 refine WP.cond _ rfl (fun hb => ?_) (fun hb => ?_)
 ·simp at hb
  have hb' : i < l.length := hb
  obtain ⟨v, hv, hvm, hix⟩ := at_lt hb'
  have hv' := encI_at hv
  have hw := w_succ hb' (by omega)
  have hts := all_take_succ (p := fun v => !outW v) hv
  cases hp : outW v with
  | true =>
   have hfv := hf v
   rw [hp] at hfv
   refine wkc (jn @hix (jn @hv' (jn @dL.eq_1 @hfv))) ?_
   rw [idxP_some hno hv hp]
   show retQ _ _ _ _ _
   exact ⟨.inr rfl, _, _, rfl, rfl⟩
  | false =>
   have hfv := hf v
   rw [hp] at hfv
   refine wkc (jn @hix (jn @hv' (jn @dL.eq_1 @hfv))) ?_
   refine loop_next (by simp [hw]; exact Is.rfl) ?_
   exact ⟨d - 1, by omega, i + 1, by omega, by rw [hts, hno, hp]; rfl, SE.mk (by simp [dI, hw, dL]) rfl⟩
 ·simp at hb
  have hil : i = l.length := by omega
  subst hil
  rw [idxP_none hno]
  refine wk True.intro ?_
  show retQ _ _ _ _ _
  exact ⟨.inr rfl, _, _, rfl, rfl⟩
theorem contains_outW (l : List Int) (hl : l.length ≤ MX) : den Tryz.prog Cp.cfg 28 [dL l, .fn 46 []] = some (dB (l.any outW)) := by
 have h := index_outW l hl
 simp only [dI, dL] at h
 rw [← idxP_any]
 refine den_wp Tryz.func28 rfl (by kernel_rfl) rfl rfl ?_
 refine wk (jn @dL.eq_1 @h) ?_
 show retQ _ _ _ _ _
 exact ⟨.inr rfl, _, _, rfl, rfl⟩
end Go.Ac
end

section
set_option maxRecDepth 4000
namespace Go.Ac
open Go.Proofs

theorem blockQ_n {i : Nat} {Q : Ex → St → Prop} {t : St} (h : Q .normal t) : blockQ i Q .normal t := h
/-- A rune that no name may hold. -/
def badR (c : Int) : Bool := !decide (c = 95) && (decide (c < 48) || decide (c > 57)) && (decide (c < 65) || decide (c > 90)) && (decide (c < 97) || decide (c > 122))

set_option maxHeartbeats 4000000 in
theorem badR_den (c : Int) : den Tryz.prog Cp.cfg 61 [.d (.int .i32 c)] = some (dB (badR c)) := by
 have hI : (c < 48) ∨ (48 ≤ c ∧ c ≤ 57) ∨ (58 ≤ c ∧ c ≤ 64) ∨ (65 ≤ c ∧ c ≤ 90) ∨ (91 ≤ c ∧ c ≤ 94) ∨ (c = 95) ∨ (c = 96) ∨ (97 ≤ c ∧ c ≤ 122) ∨ (c > 122) := by omega
 refine den_wp Tryz.func61 rfl (by kernel_rfl) rfl rfl ?_
 rcases hI with h | h | h | h | h | h | h | h | h
 ·have f0 : (c = 95) = False := by simp; omega
  have f1 : (c < 48) = True := by simp; omega
  have f2 : (c > 57) = False := by simp; omega
  have f3 : (c < 65) = True := by simp; omega
  have f4 : (c > 90) = False := by simp; omega
  have f5 : (c < 97) = True := by simp; omega
  have f6 : (c > 122) = False := by simp; omega
  refine wkc (jn @f0 (jn @f1 (jn @f2 (jn @f3 (jn @f4 (jn @f5 (jn @f6 @int_bne))))))) ?_
  show retQ _ _ _ _ _
  exact ⟨.inr rfl, _, _, rfl, by simp [badR, f0, f1, f2, f3, f4, f5, f6]; rfl⟩
 ·have f0 : (c = 95) = False := by simp; omega
  have f1 : (c < 48) = False := by simp; omega
  have f2 : (c > 57) = False := by simp; omega
  have f3 : (c < 65) = True := by simp; omega
  have f4 : (c > 90) = False := by simp; omega
  have f5 : (c < 97) = True := by simp; omega
  have f6 : (c > 122) = False := by simp; omega
  refine wkc (jn @f0 (jn @f1 (jn @f2 (jn @f3 (jn @f4 (jn @f5 (jn @f6 @int_bne))))))) ?_
  show retQ _ _ _ _ _
  exact ⟨.inr rfl, _, _, rfl, by simp [badR, f0, f1, f2, f3, f4, f5, f6]; rfl⟩
 ·have f0 : (c = 95) = False := by simp; omega
  have f1 : (c < 48) = False := by simp; omega
  have f2 : (c > 57) = True := by simp; omega
  have f3 : (c < 65) = True := by simp; omega
  have f4 : (c > 90) = False := by simp; omega
  have f5 : (c < 97) = True := by simp; omega
  have f6 : (c > 122) = False := by simp; omega
  refine wkc (jn @f0 (jn @f1 (jn @f2 (jn @f3 (jn @f4 (jn @f5 (jn @f6 @int_bne))))))) ?_
  show retQ _ _ _ _ _
  exact ⟨.inr rfl, _, _, rfl, by simp [badR, f0, f1, f2, f3, f4, f5, f6]; rfl⟩
 ·have f0 : (c = 95) = False := by simp; omega
  have f1 : (c < 48) = False := by simp; omega
  have f2 : (c > 57) = True := by simp; omega
  have f3 : (c < 65) = False := by simp; omega
  have f4 : (c > 90) = False := by simp; omega
  have f5 : (c < 97) = True := by simp; omega
  have f6 : (c > 122) = False := by simp; omega
  refine wkc (jn @f0 (jn @f1 (jn @f2 (jn @f3 (jn @f4 (jn @f5 (jn @f6 @int_bne))))))) ?_
  show retQ _ _ _ _ _
  exact ⟨.inr rfl, _, _, rfl, by simp [badR, f0, f1, f2, f3, f4, f5, f6]; rfl⟩
 ·have f0 : (c = 95) = False := by simp; omega
  have f1 : (c < 48) = False := by simp; omega
  have f2 : (c > 57) = True := by simp; omega
  have f3 : (c < 65) = False := by simp; omega
  have f4 : (c > 90) = True := by simp; omega
  have f5 : (c < 97) = True := by simp; omega
  have f6 : (c > 122) = False := by simp; omega
  refine wkc (jn @f0 (jn @f1 (jn @f2 (jn @f3 (jn @f4 (jn @f5 (jn @f6 @int_bne))))))) ?_
  show retQ _ _ _ _ _
  exact ⟨.inr rfl, _, _, rfl, by simp [badR, f0, f1, f2, f3, f4, f5, f6]; rfl⟩
 ·have f0 : (c = 95) = True := by simp; omega
  have f1 : (c < 48) = False := by simp; omega
  have f2 : (c > 57) = True := by simp; omega
  have f3 : (c < 65) = False := by simp; omega
  have f4 : (c > 90) = True := by simp; omega
  have f5 : (c < 97) = True := by simp; omega
  have f6 : (c > 122) = False := by simp; omega
  refine wkc (jn @f0 (jn @f1 (jn @f2 (jn @f3 (jn @f4 (jn @f5 (jn @f6 @int_bne))))))) ?_
  show retQ _ _ _ _ _
  exact ⟨.inr rfl, _, _, rfl, by simp [badR, f0, f1, f2, f3, f4, f5, f6]; rfl⟩
 ·have f0 : (c = 95) = False := by simp; omega
  have f1 : (c < 48) = False := by simp; omega
  have f2 : (c > 57) = True := by simp; omega
  have f3 : (c < 65) = False := by simp; omega
  have f4 : (c > 90) = True := by simp; omega
  have f5 : (c < 97) = True := by simp; omega
  have f6 : (c > 122) = False := by simp; omega
  refine wkc (jn @f0 (jn @f1 (jn @f2 (jn @f3 (jn @f4 (jn @f5 (jn @f6 @int_bne))))))) ?_
  show retQ _ _ _ _ _
  exact ⟨.inr rfl, _, _, rfl, by simp [badR, f0, f1, f2, f3, f4, f5, f6]; rfl⟩
 ·have f0 : (c = 95) = False := by simp; omega
  have f1 : (c < 48) = False := by simp; omega
  have f2 : (c > 57) = True := by simp; omega
  have f3 : (c < 65) = False := by simp; omega
  have f4 : (c > 90) = True := by simp; omega
  have f5 : (c < 97) = False := by simp; omega
  have f6 : (c > 122) = False := by simp; omega
  refine wkc (jn @f0 (jn @f1 (jn @f2 (jn @f3 (jn @f4 (jn @f5 (jn @f6 @int_bne))))))) ?_
  show retQ _ _ _ _ _
  exact ⟨.inr rfl, _, _, rfl, by simp [badR, f0, f1, f2, f3, f4, f5, f6]; rfl⟩
 ·have f0 : (c = 95) = False := by simp; omega
  have f1 : (c < 48) = False := by simp; omega
  have f2 : (c > 57) = True := by simp; omega
  have f3 : (c < 65) = False := by simp; omega
  have f4 : (c > 90) = True := by simp; omega
  have f5 : (c < 97) = False := by simp; omega
  have f6 : (c > 122) = True := by simp; omega
  refine wkc (jn @f0 (jn @f1 (jn @f2 (jn @f3 (jn @f4 (jn @f5 (jn @f6 @int_bne))))))) ?_
  show retQ _ _ _ _ _
  exact ⟨.inr rfl, _, _, rfl, by simp [badR, f0, f1, f2, f3, f4, f5, f6]; rfl⟩

/-- The first bad rune's place, read from `pos` on. -/
def idxS (s : List UInt8) : Nat → Nat → Int
 | 0, _ => -1
 | k + 1, pos => if pos < s.length then (if badR ((Utf8.decode ⟨s.toArray⟩ pos).1 : Int) then (pos : Int) else idxS s k (pos + (Utf8.decode ⟨s.toArray⟩ pos).2)) else -1
theorem idxS_succ (s : List UInt8) (k pos : Nat) : idxS s (k + 1) pos = if pos < s.length then (if badR ((Utf8.decode ⟨s.toArray⟩ pos).1 : Int) then (pos : Int) else idxS s k (pos + (Utf8.decode ⟨s.toArray⟩ pos).2)) else -1 := rfl
theorem idxS_end {s : List UInt8} {pos : Nat} (h : s.length ≤ pos) : ∀ k, idxS s k pos = -1
 | 0 => rfl
 | k + 1 => by unfold idxS; rw [if_neg (by omega)]
theorem decW (s : List UInt8) {pos : Nat} (h : pos < s.length) : 1 ≤ (Utf8.decode ⟨s.toArray⟩ pos).2 := Go.Lib.decode_width_pos _ _ (by simpa [ByteArray.size] using h)
theorem idxS_more (s : List UInt8) : ∀ (k pos : Nat), s.length - pos ≤ k → idxS s (k + 1) pos = idxS s k pos
 | 0, pos, h => by
  unfold idxS; rw [if_neg (by omega)]
 | k + 1, pos, h => by
  by_cases hp : pos < s.length
  ·have hw := decW s hp
   rw [idxS_succ s (k + 1) pos, idxS_succ s k pos, if_pos hp, if_pos hp, idxS_more s k _ (by omega)]
  ·rw [idxS_end (by omega), idxS_end (by omega)]
theorem idxS_up (s : List UInt8) {k : Nat} {pos : Nat} (h : s.length - pos ≤ k) : ∀ j, idxS s (k + j) pos = idxS s k pos
 | 0 => rfl
 | j + 1 => by rw [← Nat.add_assoc, idxS_more s (k + j) pos (by omega), idxS_up s h j]
def badI (s : List UInt8) : Int := idxS s s.length 0
theorem idxS_step (s : List UInt8) {pos : Nat} (h : pos < s.length) : idxS s s.length pos = if badR ((Utf8.decode ⟨s.toArray⟩ pos).1 : Int) then (pos : Int) else idxS s s.length (pos + (Utf8.decode ⟨s.toArray⟩ pos).2) := by
 have hw := decW s h
 rw [← idxS_up s (k := s.length) (pos := pos) (by omega) 1]
 rw [idxS_succ, if_pos h]

set_option maxHeartbeats 1000000 in
theorem indexS_den (s : List UInt8) (hs : s.length ≤ MX) : den Tryz.prog Cp.cfg 96 [dS s, .fn 61 [], dB true] = some (dI (badI s)) := by
 have hf := badR_den
 simp only [dI, dB] at hf
 unfold MX at hs
 refine den_wp Tryz.func96 rfl (by kernel_rfl) rfl rfl ?_
 refine wk (jn @dS.eq_1 @dB.eq_1) ?_
 apply WP.loop' (I := fun d s' => ∃ pos : Nat, d = s.length - pos ∧ idxS s s.length pos = badI s ∧ ∃ e c, (e = [(1, .fn 61 []), (2, dB true), (10, .it 0 0)] ∨ ∃ x y, e = [(1, .fn 61 []), (2, dB true), (7, x), (10, .it 0 0), (19, y)]) ∧ s' = ⟨e, [(0, ⟨0, false, [.itc s pos]⟩)], 1, c, 0, []⟩) (d := s.length)
 ·exact ⟨0, by simp, rfl, _, _, .inl (by simp [dS, dB]), rfl⟩
 rintro d _ ⟨pos, hd, hno, e, c, he, rfl⟩
 by_cases hp : pos < s.length
 ·have hst := idxS_step s hp
  have hw := decW s hp
  obtain ⟨r, w, hrw⟩ : ∃ r w, Utf8.decode ⟨s.toArray⟩ pos = (r, w) := ⟨_, _, rfl⟩
  rw [hrw] at hst hw
  rw [hno] at hst
  simp only at hst hw
  have hfr := hf (r : Int)
  cases hb : badR (r : Int) with
  | true =>
   rw [hb] at hfr hst
   rcases he with rfl | ⟨x, y, rfl⟩
   all_goals
    refine wkc (jn @hp (jn @hrw (jn @nblt_eq (jn @hfr @nextV.eq_def)))) ?_
    rw [hst]
    show retQ _ _ _ _ _
    exact ⟨.inr rfl, _, _, rfl, rfl⟩
  | false =>
   rw [hb] at hfr hst
   rcases he with rfl | ⟨x, y, rfl⟩
   all_goals
    refine wkc (jn @hp (jn @hrw (jn @nblt_eq (jn @hfr @nextV.eq_def)))) ?_
    refine blockQ_n ?_
    refine loop_next (by simp; exact Is.rfl) ?_
    exact ⟨s.length - (pos + w), by omega, pos + w, rfl, hst.symm, _, _, .inr ⟨_, _, rfl⟩, rfl⟩
 ·have he' : badI s = -1 := by rw [← hno, idxS_end (by omega)]
  rw [he']
  rcases he with rfl | ⟨x, y, rfl⟩
  all_goals
   refine wkc (jn @hp (jn @nblt_eq @nextV.eq_def)) ?_
   show retQ _ _ _ _ _
   exact ⟨.inr rfl, _, _, rfl, rfl⟩
theorem indexS2_den (s : List UInt8) (hs : s.length ≤ MX) : den Tryz.prog Cp.cfg 76 [dS s, .fn 61 []] = some (dI (badI s)) := by
 have h := indexS_den s hs
 simp only [dS, dB, dI] at h
 refine den_wp Tryz.func76 rfl (by kernel_rfl) rfl rfl ?_
 refine wk (jn @dS.eq_1 @h) ?_
 show retQ _ _ _ _ _
 exact ⟨.inr rfl, _, _, rfl, rfl⟩
theorem containsS_den (s : List UInt8) (hs : s.length ≤ MX) : den Tryz.prog Cp.cfg 60 [dS s, .fn 61 []] = some (dB (decide (badI s ≥ 0))) := by
 have h := indexS2_den s hs
 simp only [dS, dI] at h
 refine den_wp Tryz.func60 rfl (by kernel_rfl) rfl rfl ?_
 refine wk (jn @dS.eq_1 @h) ?_
 show retQ _ _ _ _ _
 exact ⟨.inr rfl, _, _, rfl, rfl⟩
/-- A name that may be. -/
def nameOK (s : List UInt8) : Bool := !decide (s = []) && decide (s.length ≤ 40) && !decide (badI s ≥ 0)
theorem name_den (s : List UInt8) (hs : s.length ≤ MX) : den Tryz.prog Cp.cfg 42 [dS s] = some (dB (nameOK s)) := by
 have h := containsS_den s hs
 simp only [dS, dB] at h
 refine den_wp Tryz.func42 rfl (by kernel_rfl) rfl rfl ?_
 by_cases h0 : s = []
 ·subst h0
  refine wkc (@dS.eq_1) ?_
  show retQ _ _ _ _ _
  exact ⟨.inr rfl, _, _, rfl, by simp [nameOK]; rfl⟩
 ·have hE : s.isEmpty = false := by cases s with | nil => exact absurd rfl h0 | cons a b => rfl
  by_cases h1 : s.length ≤ 40
  ·have h1' : ((s.length : Int) ≤ 40) = True := by simp; omega
   refine wkc (jn @dS.eq_1 (jn @hE (jn @h1' @h))) ?_
   show retQ _ _ _ _ _
   exact ⟨.inr rfl, _, _, rfl, by simp [nameOK, h0, h1]; rfl⟩
  ·have h1' : ((s.length : Int) ≤ 40) = False := by simp; omega
   refine wkc (jn @dS.eq_1 (jn @hE (jn @h1' @h))) ?_
   show retQ _ _ _ _ _
   exact ⟨.inr rfl, _, _, rfl, by simp [nameOK, h0, h1]; rfl⟩
end Go.Ac
end

section
set_option maxRecDepth 4000
namespace Go.Ac
open Go.Proofs

def IsO (op : Int) : Prop := op = 1 ∨ op = 2 ∨ op = 3 ∨ op = 4 ∨ op = 5 ∨ op = 6 ∨ op = 7 ∨ op = 8 ∨ op = 9 ∨ op = 10
/-- The kinds of an operation's fields; how many operands its operator takes; its name. -/
def ksO (op : Int) : List Int := match op with
 | 1 => [1, 3, 0, 0] | 2 => [1, 1, 0, 0] | 3 => [1, 2, 0, 0] | 4 => [2, 1, 0, 0] | 5 => [1, 1, 5, 0] | 6 => [1, 1, 1, 5] | 7 => [0, 4, 0, 0] | 8 => [1, 4, 0, 0] | 9 => [6, 7, 8, 9] | _ => [6, 7, 0, 0]
def cnO (op : Int) : Int := match op with | 5 => 1 | 6 => 2 | _ => 0
def nmO (op : Int) : List UInt8 := match op with
 | 1 => [108, 111, 97, 100] | 2 => [109, 111, 118, 101] | 3 => [114, 101, 97, 100] | 4 => [119, 114, 105, 116, 101] | 5 => [117, 110, 97, 114, 121] | 6 => [97, 112, 112, 108, 121] | 7 => [106, 117, 109, 112] | 8 => [122, 101, 114, 111] | 9 => [99, 97, 108, 108] | _ => [114, 101, 115, 101, 116]
def rowO (op : Int) : V := .agg (.d (.str (nmO op)) :: ((ksO op).map dI ++ [dI (cnO op)]))
theorem known_den {op : Int} (h : IsO op) : den Tryz.prog Cp.cfg 16 [dI op] = some (.tuple [rowO op, dB true]) := by
 rcases h with rfl | rfl | rfl | rfl | rfl | rfl | rfl | rfl | rfl | rfl <;> exact den_k 100 (fun k => by kernel_rfl) rfl
theorem unknown_den {op : Int} (h : ¬ IsO op) : den Tryz.prog Cp.cfg 16 [dI op] = some (.tuple [.agg [.d (.str []), dI 0, dI 0, dI 0, dI 0, dI 0], dB false]) := by
 refine den_wp Tryz.func16 rfl (by kernel_rfl) rfl rfl ?_
 by_cases h0 : op < 1
 ·refine wkc (jn @dI.eq_1 @h0) ?_
  show retQ _ _ _ _ _
  exact ⟨.inr rfl, _, _, rfl, rfl⟩
 ·have h1 : op > 10 := by unfold IsO at h; omega
  refine wkc (jn @dI.eq_1 (jn @h0 @h1)) ?_
  show retQ _ _ _ _ _
  exact ⟨.inr rfl, _, _, rfl, rfl⟩
theorem fields_den (i : I) : den Tryz.prog Cp.cfg 17 [aI i] = some (.agg [dI i.a, dI i.b, dI i.c, dI i.d]) := by
 refine den_wp Tryz.func17 rfl (by kernel_rfl) rfl rfl ?_
 refine wkc (jn @aI.eq_1 @I.cells.eq_1) ?_
 show retQ _ _ _ _ _
 exact ⟨.inr rfl, _, _, rfl, rfl⟩
/-- How many operands an operator takes; 0: it is none. -/
def opn (op : Int) : Int := if op = 1 ∨ op = 2 then 1 else if 3 ≤ op ∧ op ≤ 16 then 2 else 0
theorem opn_den (op : Int) : den Tryz.prog Cp.cfg 63 [dI op] = some (dI (opn op)) := by
 refine den_wp Tryz.func63 rfl (by kernel_rfl) rfl rfl ?_
 by_cases h0 : op = 1
 ·subst h0
  refine wkc (@dI.eq_1) ?_
  show retQ _ _ _ _ _
  exact ⟨.inr rfl, _, _, rfl, rfl⟩
 ·by_cases h1 : op = 2
  ·subst h1
   refine wkc (@dI.eq_1) ?_
   show retQ _ _ _ _ _
   exact ⟨.inr rfl, _, _, rfl, rfl⟩
  ·by_cases h2 : op ≥ 3
   ·by_cases h3 : op ≤ 16
    ·have h2' : (op ≥ 3) = True := by simp [h2]
     have h2'' : (3 ≤ op) = True := by simp; omega
     have h3' : (op ≤ 16) = True := by simp [h3]
     refine wkc (jn @dI.eq_1 (jn @h0 (jn @h1 (jn @h2' (jn @h2'' (jn @h3' @int_beq)))))) ?_
     show retQ _ _ _ _ _
     exact ⟨.inr rfl, _, _, rfl, by simp [opn, h0, h1, h2'', h3']; rfl⟩
    ·have h2'' : (3 ≤ op) = True := by simp; omega
     have h3' : (op ≤ 16) = False := by simp [h3]
     refine wkc (jn @dI.eq_1 (jn @h0 (jn @h1 (jn @h2'' (jn @h3' @int_beq))))) ?_
     show retQ _ _ _ _ _
     exact ⟨.inr rfl, _, _, rfl, by simp [opn, h0, h1, h2'', h3']; rfl⟩
   ·have h2'' : (3 ≤ op) = False := by simp; omega
    refine wkc (jn @dI.eq_1 (jn @h0 (jn @h1 (jn @h2'' @int_beq)))) ?_
    show retQ _ _ _ _ _
    exact ⟨.inr rfl, _, _, rfl, by simp [opn, h0, h1, h2'']; rfl⟩
def wthn (at_ n most : Int) : Bool := decide (0 ≤ at_) && decide (at_ ≤ most) && decide (n ≤ most - at_)
theorem wthn_den (a n most : Int) (hn : 0 ≤ n) (hm : most ≤ 9223372036854775807) : den Tryz.prog Cp.cfg 64 [dI a, dI n, dI most] = some (dB (wthn a n most)) := by
 refine den_wp Tryz.func64 rfl (by kernel_rfl) rfl rfl ?_
 by_cases h0 : 0 ≤ a
 ·by_cases h1 : a ≤ most
  ·have h0' : (0 ≤ a) = True := by simp [h0]
   have h1' : (a ≤ most) = True := by simp [h1]
   have hw : IntKind.i64.wrap (most - a) = most - a := by rw [w_id'] <;> omega
   refine wkc (jn @dI.eq_1 (jn @h0' (jn @h1' @hw))) ?_
   show retQ _ _ _ _ _
   exact ⟨.inr rfl, _, _, rfl, by simp [wthn, h0, h1]; rfl⟩
  ·have h0' : (0 ≤ a) = True := by simp [h0]
   have h1' : (a ≤ most) = False := by simp [h1]
   refine wkc (jn @dI.eq_1 (jn @h0' @h1')) ?_
   show retQ _ _ _ _ _
   exact ⟨.inr rfl, _, _, rfl, by simp [wthn, h0, h1]; rfl⟩
 ·have h0' : (0 ≤ a) = False := by simp [h0]
  refine wkc (jn @dI.eq_1 @h0') ?_
  show retQ _ _ _ _ _
  exact ⟨.inr rfl, _, _, rfl, by simp [wthn, h0]; rfl⟩
/-- A type that the image knows. -/
def typOK (en : List Int) (t : Int) : Bool := decide (t = 1) || decide (t = 2) || (decide (3 ≤ t) && decide (t - 3 < en.length))
set_option maxHeartbeats 1000000 in
theorem typ_den (im : Im) (t : Int) (ht : t ≤ 9223372036854775807) : den Tryz.prog Cp.cfg 45 [aM im, dI t] = some (dB (typOK im.enums t)) := by
 refine den_wp Tryz.func45 rfl (by kernel_rfl) rfl rfl ?_
 by_cases h1 : t = 1
 ·subst h1
  refine wkc (jn @dI.eq_1 (jn @aM.eq_1 @Im.cells.eq_1)) ?_
  show retQ _ _ _ _ _
  exact ⟨.inr rfl, _, _, rfl, rfl⟩
 by_cases h2 : t = 2
 ·subst h2
  refine wkc (jn @dI.eq_1 (jn @aM.eq_1 @Im.cells.eq_1)) ?_
  show retQ _ _ _ _ _
  exact ⟨.inr rfl, _, _, rfl, rfl⟩
 by_cases h3 : 3 ≤ t
 ·have h3' : (3 ≤ t) = True := by simp [h3]
  have hw : IntKind.i64.wrap (t - 3) = t - 3 := by rw [w_id'] <;> omega
  refine wkc (jn @dI.eq_1 (jn @aM.eq_1 (jn @Im.cells.eq_1 (jn @h1 (jn @h2 (jn @h3' (jn @hw @int_beq))))))) ?_
  show retQ _ _ _ _ _
  exact ⟨.inr rfl, _, _, rfl, by simp [typOK, h1, h2, h3]; rfl⟩
 ·have h3' : (3 ≤ t) = False := by simp [h3]
  refine wkc (jn @dI.eq_1 (jn @aM.eq_1 (jn @Im.cells.eq_1 (jn @h1 (jn @h2 (jn @h3' @int_beq)))))) ?_
  show retQ _ _ _ _ _
  exact ⟨.inr rfl, _, _, rfl, by simp [typOK, h1, h2, h3]; rfl⟩
end Go.Ac
end

section
set_option maxRecDepth 4000
namespace Go.Ac
open Go.Proofs

theorem wl1 : IntKind.i64.wrap 1 = 1 := by rfl
theorem wl2 : IntKind.i64.wrap 2 = 2 := by rfl
theorem wl3 : IntKind.i64.wrap 3 = 3 := by rfl
theorem wl4 : IntKind.i64.wrap 4 = 4 := by rfl
def zeroR : Rt := ⟨[], [], [], 0, [], []⟩
def calledR (rs : List Rt) (k : Int) : Rt := if 0 ≤ k ∧ k < rs.length then rs.getD k.toNat zeroR else zeroR
theorem called_den (im : Im) (k : Int) : den Tryz.prog Cp.cfg 65 [aM im, dI k] = some (aR (calledR im.rs k)) := by
 refine den_wp Tryz.func65 rfl (by kernel_rfl) rfl (by simp [aR, Rt.cells]; rfl) ?_
 by_cases h0 : k < 0
 ·have e : calledR im.rs k = zeroR := by unfold calledR; rw [if_neg (by omega)]
  rw [e]
  have h0' : (k < 0) = True := by simp [h0]
  refine wkc (jn @dI.eq_1 (jn @aM.eq_1 (jn @Im.cells.eq_1 @h0'))) ?_
  show retQ _ _ _ _ _
  exact ⟨.inr rfl, _, _, rfl, rfl⟩
 ·by_cases h1 : k ≥ im.rs.length
  ·have e : calledR im.rs k = zeroR := by unfold calledR; rw [if_neg (by omega)]
   rw [e]
   have h0' : (k < 0) = False := by simp [h0]
   have h1' : ((im.rs.length : Int) ≤ k) = True := by simp; omega
   refine wkc (jn @dI.eq_1 (jn @aM.eq_1 (jn @Im.cells.eq_1 (jn @h0' @h1')))) ?_
   show retQ _ _ _ _ _
   exact ⟨.inr rfl, _, _, rfl, rfl⟩
  ·obtain ⟨j, rfl⟩ : ∃ j : Nat, k = j := ⟨k.toNat, by omega⟩
   obtain ⟨r, hr, hm, hix⟩ := at_lt (l := im.rs) (i := j) (by omega)
   have hr' := encR_at hr
   have e : calledR im.rs j = r := by unfold calledR; rw [if_pos (by omega)]; simp [List.getD, hr]
   rw [e]
   have h0' : ((j : Int) < 0) = False := by simp
   have h1' : ((im.rs.length : Int) ≤ j) = False := by simp; omega
   have h1'' : (im.rs.length ≤ j) = False := by simp; omega
   refine wkc (jn @dI.eq_1 (jn @aM.eq_1 (jn @Im.cells.eq_1 (jn @h0' (jn @h1' (jn @h1'' (jn @hix (jn @hr' @Rt.cells.eq_1)))))))) ?_
   show retQ _ _ _ _ _
   exact ⟨.inr rfl, _, _, rfl, rfl⟩
def fK (cnt at_ lenC : Int) (k x : Int) : Bool := if k = 0 then decide (x = 0) else if k = 5 then decide (opn x = cnt) else if k = 4 then decide (x > at_) && decide (x ≤ lenC) else true
def acc4 (f : Int → Int → Bool) (k0 k1 k2 k3 a b c d : Int) : Nat → Bool
 | 0 => true | 1 => f k0 a | 2 => f k0 a && f k1 b | 3 => f k0 a && f k1 b && f k2 c | _ => f k0 a && f k1 b && f k2 c && f k3 d
def kO (op : Int) (j : Nat) : Int := (ksO op).getD j 0
def formB (at_ lenC : Int) (i : I) : Bool := acc4 (fK (cnO i.op) at_ lenC) (kO i.op 0) (kO i.op 1) (kO i.op 2) (kO i.op 3) i.a i.b i.c i.d 4
theorem rowO_eq {op : Int} (h : IsO op) : rowO op = .agg [.d (.str (nmO op)), dI (kO op 0), dI (kO op 1), dI (kO op 2), dI (kO op 3), dI (cnO op)] := by
 rcases h with rfl | rfl | rfl | rfl | rfl | rfl | rfl | rfl | rfl | rfl <;> rfl
set_option maxHeartbeats 8000000 in
theorem form_den (r : Rt) (at_ : Int) (i : I) (h : IsO i.op) : den Tryz.prog Cp.cfg 47 [aR r, dI at_, aI i] = some (dB (formB at_ r.code.length i)) := by
 have hk := known_den h
 have hf := fields_den i
 have ho := opn_den
 rw [rowO_eq h] at hk
 simp only [dI, dB, aI, I.cells, List.map_cons, List.map_nil] at hk hf ho
 unfold formB
 obtain ⟨op, a, b, c, d⟩ := i
 simp only at h hk hf ⊢
 generalize kO op 0 = k0 at *
 generalize kO op 1 = k1 at *
 generalize kO op 2 = k2 at *
 generalize kO op 3 = k3 at *
 generalize cnO op = cnt at *
 refine den_wp Tryz.func47 rfl (by kernel_rfl) rfl rfl ?_
 refine wkc (jn @dI.eq_1 (jn @aR.eq_1 (jn @aI.eq_1 (jn @I.cells.eq_1 (jn @Rt.cells.eq_1 (jn @hk @hf)))))) ?_
 apply WP.loop' (I := fun D s => ∃ i : Nat, i + D = 4 ∧ SE [(1, dI at_), (3, .ptr 0 0 0), (7, .ptr 2 2 0), (8, dB (acc4 (fK cnt at_ r.code.length) k0 k1 k2 k3 a b c d i)), (20, .agg [dI a, dI b, dI c, dI d]), (21, dI i)] [(0, ⟨0, false, r.cells.map .d⟩), (1, ⟨1, false, [dI op, dI a, dI b, dI c, dI d]⟩), (2, ⟨2, false, [.d (.str (nmO op)), dI k0, dI k1, dI k2, dI k3, dI cnt]⟩)] 3 s) (d := 4)
 ·exact ⟨0, by simp, SE.mk (by simp [dI, dB, acc4]) (by simp [dI, Rt.cells])⟩
 rintro D _ ⟨i, hi, cc, rfl⟩
 have hi' : i = 0 ∨ i = 1 ∨ i = 2 ∨ i = 3 ∨ i = 4 := by omega
 rcases hi' with rfl | rfl | rfl | rfl | rfl

 ·have hs : acc4 (fK cnt at_ r.code.length) k0 k1 k2 k3 a b c d 1 = (acc4 (fK cnt at_ r.code.length) k0 k1 k2 k3 a b c d 0 && fK cnt at_ r.code.length k0 a) := by simp [acc4]
  generalize acc4 (fK cnt at_ r.code.length) k0 k1 k2 k3 a b c d 0 = ok at hs ⊢
  have fin : ∀ b' : Bool, b' = (ok && fK cnt at_ r.code.length k0 a) → b' = acc4 (fK cnt at_ r.code.length) k0 k1 k2 k3 a b c d 1 := fun b' hb' => by rw [hs]; exact hb'
  by_cases q0 : k0 = 0
  ·subst q0
   cases ok
   all_goals
    refine wkc (jn @dI.eq_1 (jn @dB.eq_1 @Rt.cells.eq_1)) ?_
    refine loop_next (by simp; exact Is.rfl) ?_
    exact ⟨3, by omega, 1, by omega, SE.mk (by simp [dI, dB, hs, wl1, wl2, wl3, wl4, fK, int_beq]) (by simp [dI, Rt.cells])⟩
  by_cases q5 : k0 = 5
  ·subst q5
   cases ok
   all_goals
    refine wkc (jn @dI.eq_1 (jn @dB.eq_1 (jn @Rt.cells.eq_1 @ho))) ?_
    refine loop_next (by simp; exact Is.rfl) ?_
    exact ⟨3, by omega, 1, by omega, SE.mk (by simp [dI, dB, hs, wl1, wl2, wl3, wl4, fK, int_beq]) (by simp [dI, Rt.cells])⟩
  by_cases q4 : k0 = 4
  ·subst q4
   by_cases g1 : at_ < a
   ·have g1' : (a > at_) = True := by simp [g1]
    cases ok
    all_goals
     refine wkc (jn @dI.eq_1 (jn @dB.eq_1 (jn @Rt.cells.eq_1 (jn @g1 @g1')))) ?_
     refine loop_next (by simp; exact Is.rfl) ?_
     exact ⟨3, by omega, 1, by omega, SE.mk (by simp [dI, dB, hs, wl1, wl2, wl3, wl4, fK, int_beq, g1]) (by simp [dI, Rt.cells])⟩
   ·have g1' : (a > at_) = False := by simp; omega
    cases ok
    all_goals
     refine wkc (jn @dI.eq_1 (jn @dB.eq_1 (jn @Rt.cells.eq_1 (jn @g1 @g1')))) ?_
     refine loop_next (by simp; exact Is.rfl) ?_
     exact ⟨3, by omega, 1, by omega, SE.mk (by simp [dI, dB, hs, wl1, wl2, wl3, wl4, fK, int_beq, g1]) (by simp [dI, Rt.cells])⟩
  ·refine wkc (jn @dI.eq_1 (jn @dB.eq_1 (jn @Rt.cells.eq_1 (jn @q0 (jn @q4 (jn @q5 @int_beq)))))) ?_
   refine loop_next (by simp; exact Is.rfl) ?_
   exact ⟨3, by omega, 1, by omega, SE.mk (by simp [dI, dB, hs, wl1, wl2, wl3, wl4, fK, q0, q4, q5]) (by simp [dI, Rt.cells])⟩
 ·have hs : acc4 (fK cnt at_ r.code.length) k0 k1 k2 k3 a b c d 2 = (acc4 (fK cnt at_ r.code.length) k0 k1 k2 k3 a b c d 1 && fK cnt at_ r.code.length k1 b) := by simp [acc4]
  generalize acc4 (fK cnt at_ r.code.length) k0 k1 k2 k3 a b c d 1 = ok at hs ⊢
  have fin : ∀ b' : Bool, b' = (ok && fK cnt at_ r.code.length k1 b) → b' = acc4 (fK cnt at_ r.code.length) k0 k1 k2 k3 a b c d 2 := fun b' hb' => by rw [hs]; exact hb'
  by_cases q0 : k1 = 0
  ·subst q0
   cases ok
   all_goals
    refine wkc (jn @dI.eq_1 (jn @dB.eq_1 @Rt.cells.eq_1)) ?_
    refine loop_next (by simp; exact Is.rfl) ?_
    exact ⟨2, by omega, 2, by omega, SE.mk (by simp [dI, dB, hs, wl1, wl2, wl3, wl4, fK, int_beq]) (by simp [dI, Rt.cells])⟩
  by_cases q5 : k1 = 5
  ·subst q5
   cases ok
   all_goals
    refine wkc (jn @dI.eq_1 (jn @dB.eq_1 (jn @Rt.cells.eq_1 @ho))) ?_
    refine loop_next (by simp; exact Is.rfl) ?_
    exact ⟨2, by omega, 2, by omega, SE.mk (by simp [dI, dB, hs, wl1, wl2, wl3, wl4, fK, int_beq]) (by simp [dI, Rt.cells])⟩
  by_cases q4 : k1 = 4
  ·subst q4
   by_cases g1 : at_ < b
   ·have g1' : (b > at_) = True := by simp [g1]
    cases ok
    all_goals
     refine wkc (jn @dI.eq_1 (jn @dB.eq_1 (jn @Rt.cells.eq_1 (jn @g1 @g1')))) ?_
     refine loop_next (by simp; exact Is.rfl) ?_
     exact ⟨2, by omega, 2, by omega, SE.mk (by simp [dI, dB, hs, wl1, wl2, wl3, wl4, fK, int_beq, g1]) (by simp [dI, Rt.cells])⟩
   ·have g1' : (b > at_) = False := by simp; omega
    cases ok
    all_goals
     refine wkc (jn @dI.eq_1 (jn @dB.eq_1 (jn @Rt.cells.eq_1 (jn @g1 @g1')))) ?_
     refine loop_next (by simp; exact Is.rfl) ?_
     exact ⟨2, by omega, 2, by omega, SE.mk (by simp [dI, dB, hs, wl1, wl2, wl3, wl4, fK, int_beq, g1]) (by simp [dI, Rt.cells])⟩
  ·refine wkc (jn @dI.eq_1 (jn @dB.eq_1 (jn @Rt.cells.eq_1 (jn @q0 (jn @q4 (jn @q5 @int_beq)))))) ?_
   refine loop_next (by simp; exact Is.rfl) ?_
   exact ⟨2, by omega, 2, by omega, SE.mk (by simp [dI, dB, hs, wl1, wl2, wl3, wl4, fK, q0, q4, q5]) (by simp [dI, Rt.cells])⟩
 ·have hs : acc4 (fK cnt at_ r.code.length) k0 k1 k2 k3 a b c d 3 = (acc4 (fK cnt at_ r.code.length) k0 k1 k2 k3 a b c d 2 && fK cnt at_ r.code.length k2 c) := by simp [acc4]
  generalize acc4 (fK cnt at_ r.code.length) k0 k1 k2 k3 a b c d 2 = ok at hs ⊢
  have fin : ∀ b' : Bool, b' = (ok && fK cnt at_ r.code.length k2 c) → b' = acc4 (fK cnt at_ r.code.length) k0 k1 k2 k3 a b c d 3 := fun b' hb' => by rw [hs]; exact hb'
  by_cases q0 : k2 = 0
  ·subst q0
   cases ok
   all_goals
    refine wkc (jn @dI.eq_1 (jn @dB.eq_1 @Rt.cells.eq_1)) ?_
    refine loop_next (by simp; exact Is.rfl) ?_
    exact ⟨1, by omega, 3, by omega, SE.mk (by simp [dI, dB, hs, wl1, wl2, wl3, wl4, fK, int_beq]) (by simp [dI, Rt.cells])⟩
  by_cases q5 : k2 = 5
  ·subst q5
   cases ok
   all_goals
    refine wkc (jn @dI.eq_1 (jn @dB.eq_1 (jn @Rt.cells.eq_1 @ho))) ?_
    refine loop_next (by simp; exact Is.rfl) ?_
    exact ⟨1, by omega, 3, by omega, SE.mk (by simp [dI, dB, hs, wl1, wl2, wl3, wl4, fK, int_beq]) (by simp [dI, Rt.cells])⟩
  by_cases q4 : k2 = 4
  ·subst q4
   by_cases g1 : at_ < c
   ·have g1' : (c > at_) = True := by simp [g1]
    cases ok
    all_goals
     refine wkc (jn @dI.eq_1 (jn @dB.eq_1 (jn @Rt.cells.eq_1 (jn @g1 @g1')))) ?_
     refine loop_next (by simp; exact Is.rfl) ?_
     exact ⟨1, by omega, 3, by omega, SE.mk (by simp [dI, dB, hs, wl1, wl2, wl3, wl4, fK, int_beq, g1]) (by simp [dI, Rt.cells])⟩
   ·have g1' : (c > at_) = False := by simp; omega
    cases ok
    all_goals
     refine wkc (jn @dI.eq_1 (jn @dB.eq_1 (jn @Rt.cells.eq_1 (jn @g1 @g1')))) ?_
     refine loop_next (by simp; exact Is.rfl) ?_
     exact ⟨1, by omega, 3, by omega, SE.mk (by simp [dI, dB, hs, wl1, wl2, wl3, wl4, fK, int_beq, g1]) (by simp [dI, Rt.cells])⟩
  ·refine wkc (jn @dI.eq_1 (jn @dB.eq_1 (jn @Rt.cells.eq_1 (jn @q0 (jn @q4 (jn @q5 @int_beq)))))) ?_
   refine loop_next (by simp; exact Is.rfl) ?_
   exact ⟨1, by omega, 3, by omega, SE.mk (by simp [dI, dB, hs, wl1, wl2, wl3, wl4, fK, q0, q4, q5]) (by simp [dI, Rt.cells])⟩
 ·have hs : acc4 (fK cnt at_ r.code.length) k0 k1 k2 k3 a b c d 4 = (acc4 (fK cnt at_ r.code.length) k0 k1 k2 k3 a b c d 3 && fK cnt at_ r.code.length k3 d) := by simp [acc4]
  generalize acc4 (fK cnt at_ r.code.length) k0 k1 k2 k3 a b c d 3 = ok at hs ⊢
  have fin : ∀ b' : Bool, b' = (ok && fK cnt at_ r.code.length k3 d) → b' = acc4 (fK cnt at_ r.code.length) k0 k1 k2 k3 a b c d 4 := fun b' hb' => by rw [hs]; exact hb'
  by_cases q0 : k3 = 0
  ·subst q0
   cases ok
   all_goals
    refine wkc (jn @dI.eq_1 (jn @dB.eq_1 @Rt.cells.eq_1)) ?_
    refine loop_next (by simp; exact Is.rfl) ?_
    exact ⟨0, by omega, 4, by omega, SE.mk (by simp [dI, dB, hs, wl1, wl2, wl3, wl4, fK, int_beq]) (by simp [dI, Rt.cells])⟩
  by_cases q5 : k3 = 5
  ·subst q5
   cases ok
   all_goals
    refine wkc (jn @dI.eq_1 (jn @dB.eq_1 (jn @Rt.cells.eq_1 @ho))) ?_
    refine loop_next (by simp; exact Is.rfl) ?_
    exact ⟨0, by omega, 4, by omega, SE.mk (by simp [dI, dB, hs, wl1, wl2, wl3, wl4, fK, int_beq]) (by simp [dI, Rt.cells])⟩
  by_cases q4 : k3 = 4
  ·subst q4
   by_cases g1 : at_ < d
   ·have g1' : (d > at_) = True := by simp [g1]
    cases ok
    all_goals
     refine wkc (jn @dI.eq_1 (jn @dB.eq_1 (jn @Rt.cells.eq_1 (jn @g1 @g1')))) ?_
     refine loop_next (by simp; exact Is.rfl) ?_
     exact ⟨0, by omega, 4, by omega, SE.mk (by simp [dI, dB, hs, wl1, wl2, wl3, wl4, fK, int_beq, g1]) (by simp [dI, Rt.cells])⟩
   ·have g1' : (d > at_) = False := by simp; omega
    cases ok
    all_goals
     refine wkc (jn @dI.eq_1 (jn @dB.eq_1 (jn @Rt.cells.eq_1 (jn @g1 @g1')))) ?_
     refine loop_next (by simp; exact Is.rfl) ?_
     exact ⟨0, by omega, 4, by omega, SE.mk (by simp [dI, dB, hs, wl1, wl2, wl3, wl4, fK, int_beq, g1]) (by simp [dI, Rt.cells])⟩
  ·refine wkc (jn @dI.eq_1 (jn @dB.eq_1 (jn @Rt.cells.eq_1 (jn @q0 (jn @q4 (jn @q5 @int_beq)))))) ?_
   refine loop_next (by simp; exact Is.rfl) ?_
   exact ⟨0, by omega, 4, by omega, SE.mk (by simp [dI, dB, hs, wl1, wl2, wl3, wl4, fK, q0, q4, q5]) (by simp [dI, Rt.cells])⟩
 ·refine wkc (jn @dI.eq_1 @dB.eq_1) ?_
  show retQ _ _ _ _ _
  exact ⟨.inr rfl, _, _, rfl, rfl⟩
end Go.Ac
end
