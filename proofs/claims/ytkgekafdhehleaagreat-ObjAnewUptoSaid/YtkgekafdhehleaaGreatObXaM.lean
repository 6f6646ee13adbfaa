/- Operators: what they come to (the program's). -/
import Derived.Test.YtkgekafdhehleaaGreatObPe
set_option linter.unusedVariables false
set_option linter.unusedSimpArgs false
section
set_option maxRecDepth 4000
namespace Go.Ac
open Go.Proofs
def grpE (o : Int) : Int := if arE o = 0 then 0 else if booE o then 1 else if ariE o then 2 else if eqlE o then 3 else 4
theorem kf162 (r : Nat) : Ob.keep 162 r = Ob.k162 r := by kernel_rfl
theorem kf193 (r : Nat) : Ob.keep 193 r = Ob.k193 r := by kernel_rfl
attribute [local simp] kf162 Ob.k162 kf193 Ob.k193
set_option maxHeartbeats 4000000 in
theorem group162 (o : Int) : den Tryz.prog Ob.cfg 162 [dI o] = some (.tuple [dI (grpE o), dI (arE o)]) := by
 refine den_wp Tryz.func162 rfl (by kernel_rfl) rfl rfl ?_
 by_cases q1 : o = 1
 ·subst q1
  refine wkc (@dI.eq_1) ?_
  exact ⟨.inr rfl, _, _, rfl, rfl⟩
 have r1 := eq_false q1
 by_cases q2 : o = 2
 ·subst q2
  refine wkc (@dI.eq_1) ?_
  exact ⟨.inr rfl, _, _, rfl, rfl⟩
 have r2 := eq_false q2
 by_cases q3 : o = 3
 ·subst q3
  refine wkc (@dI.eq_1) ?_
  exact ⟨.inr rfl, _, _, rfl, rfl⟩
 have r3 := eq_false q3
 by_cases q4 : o = 4
 ·subst q4
  refine wkc (@dI.eq_1) ?_
  exact ⟨.inr rfl, _, _, rfl, rfl⟩
 have r4 := eq_false q4
 by_cases q5 : o = 5
 ·subst q5
  refine wkc (@dI.eq_1) ?_
  exact ⟨.inr rfl, _, _, rfl, rfl⟩
 have r5 := eq_false q5
 by_cases q6 : o = 6
 ·subst q6
  refine wkc (@dI.eq_1) ?_
  exact ⟨.inr rfl, _, _, rfl, rfl⟩
 have r6 := eq_false q6
 by_cases q7 : o = 7
 ·subst q7
  refine wkc (@dI.eq_1) ?_
  exact ⟨.inr rfl, _, _, rfl, rfl⟩
 have r7 := eq_false q7
 by_cases q8 : o = 8
 ·subst q8
  refine wkc (@dI.eq_1) ?_
  exact ⟨.inr rfl, _, _, rfl, rfl⟩
 have r8 := eq_false q8
 by_cases q9 : o = 9
 ·subst q9
  refine wkc (@dI.eq_1) ?_
  exact ⟨.inr rfl, _, _, rfl, rfl⟩
 have r9 := eq_false q9
 by_cases q10 : o = 10
 ·subst q10
  refine wkc (@dI.eq_1) ?_
  exact ⟨.inr rfl, _, _, rfl, rfl⟩
 have r10 := eq_false q10
 by_cases q11 : o = 11
 ·subst q11
  refine wkc (@dI.eq_1) ?_
  exact ⟨.inr rfl, _, _, rfl, rfl⟩
 have r11 := eq_false q11
 by_cases q12 : o = 12
 ·subst q12
  refine wkc (@dI.eq_1) ?_
  exact ⟨.inr rfl, _, _, rfl, rfl⟩
 have r12 := eq_false q12
 by_cases q13 : o = 13
 ·subst q13
  refine wkc (@dI.eq_1) ?_
  exact ⟨.inr rfl, _, _, rfl, rfl⟩
 have r13 := eq_false q13
 by_cases q14 : o = 14
 ·subst q14
  refine wkc (@dI.eq_1) ?_
  exact ⟨.inr rfl, _, _, rfl, rfl⟩
 have r14 := eq_false q14
 by_cases q15 : o = 15
 ·subst q15
  refine wkc (@dI.eq_1) ?_
  exact ⟨.inr rfl, _, _, rfl, rfl⟩
 have r15 := eq_false q15
 by_cases q16 : o = 16
 ·subst q16
  refine wkc (@dI.eq_1) ?_
  exact ⟨.inr rfl, _, _, rfl, rfl⟩
 have r16 := eq_false q16
 have h0 : arE o = 0 := by unfold arE; rw [if_neg (by omega), if_neg (by omega)]
 have h1 : grpE o = 0 := by unfold grpE; rw [if_pos h0]
 rw [h0, h1]
 refine wkc (jn @dI.eq_1 (jn @int_beq (jn @r1 (jn @r2 (jn @r3 (jn @r4 (jn @r5 (jn @r6 (jn @r7 (jn @r8 (jn @r9 (jn @r10 (jn @r11 (jn @r12 (jn @r13 (jn @r14 (jn @r15 @r16))))))))))))))))) ?_
 exact ⟨.inr rfl, _, _, rfl, rfl⟩

/-- The first operand that is not of the operator's type. -/
def badK (K y0 d : Int) : Bool := if K = 1 then !decide (d = 1) else if K = 3 then (!decide (d = y0) || decide (d < 1)) else !decide (d = 2)
theorem bools_of {o : Int} (h : arE o ≠ 0) : (booE o = true → eqlE o = false ∧ ariE o = false) ∧ (ariE o = true → eqlE o = false ∧ booE o = false) := by
 unfold booE ariE eqlE
 refine ⟨fun h => ?_, fun h => ?_⟩ <;> simp at h ⊢ <;> omega
theorem resE_bad {o y0 : Int} {l : List Int} (hy : l.head? = some y0) (h1 : arE o ≠ 0) (h2 : (l.length : Int) = arE o) : resE o l = if l.any (badK (grpE o) y0) then (0, 10) else if grpE o = 2 then (2, 0) else (1, 0) := by
 obtain ⟨e1, e2⟩ := bools_of h1
 unfold resE wantE grpE
 rw [if_neg h1, if_neg (by omega), if_neg h1]
 cases l with
 | nil => simp at hy
 | cons a r =>
 simp at hy; subst hy
 cases hb : booE o with
 | true =>
  obtain ⟨e3, e4⟩ := e1 hb
  simp [e3, e4, badK]
 | false =>
  cases ha : ariE o with
  | true =>
   obtain ⟨e3, e4⟩ := e2 ha
   have : badK 2 a = fun t => !decide (t = 2) := by funext t; simp [badK]
   simp [e3, this, badK]
  | false =>
   cases hq : eqlE o with
   | false =>
    have : badK 4 a = fun t => !decide (t = 2) := by funext t; simp [badK]
    simp [this, badK]
   | true =>
    simp [badK]
    by_cases hlt : a < 1
    ·simp [hlt]
    ·simp [hlt]
     have : (∃ x, x ∈ r ∧ ¬x = a) = (∃ x, x ∈ r ∧ (¬x = a ∨ x < 1)) := by
      refine propext ⟨fun ⟨x, h1, h2⟩ => ⟨x, h1, .inl h2⟩, fun ⟨x, h1, h2⟩ => ⟨x, h1, ?_⟩⟩
      omega
     simp only [this]
set_option maxHeartbeats 2000000 in
theorem res_1 (o : Int) (l : List Int) (y0 : Int) (hy : l.head? = some y0) (c1 : arE o ≠ 0) (c2 : (l.length : Int) = arE o) (hK : grpE o = 1) : den Tryz.prog Ob.cfg 193 [dI o, dL (encI l)] = some (.tuple [dI (resE o l).1, dI (resE o l).2]) := by
 have a1 := group162 o
 have har := arE_le o
 have hr := resE_bad hy c1 c2
 rw [hK] at a1 hr
 rw [hr]
 simp only [dI] at a1
 have c2' := eq_true c2
 have hp : 0 < l.length := by cases l with
  | nil => simp at hy
  | cons a r => simp
 have hl1 : idx 0 l.length = some 0 := by unfold idx; rw [if_pos ⟨by omega, by omega⟩]; rfl
 have e0 : (encI l)[0]? = some [.int .i64 y0] := encI_at (by rw [← List.head?_eq_getElem?]; exact hy)
 refine den_wp Tryz.func193 rfl (by kernel_rfl) rfl rfl ?_
 refine wkc (jn @dI.eq_1 (jn @dL.eq_1 (jn @a1 (jn @c2' (jn @int_beq (jn @int_bne @encI_len)))))) ?_
 apply WP.loop' (I := fun D s => ∃ j : Nat, j + D = l.length ∧ (l.take j).all (fun d => !badK 1 y0 d) = true ∧ SE [(1, dL (encI l)), (6, dI 1), (23, dL (encI l)), (24, dI l.length), (25, dI j)] [] 0 s) (d := l.length)
 ·exact ⟨0, by simp, by simp, SE.mk (by simp [dI, dL]) rfl⟩
 rintro D _ ⟨j, hj, hno, cc, rfl⟩
 refine wk (jn @dI.eq_1 (jn @dL.eq_1 @encI_len)) ?_
 show WP _ _ _ _ _ _
 refine WP.cond _ rfl (fun hb => ?_) (fun hb => ?_)
 ·simp at hb
  have hb' : j < l.length := by omega
  obtain ⟨d, hd, hdm, hix⟩ := at_lt hb'
  have hd' := encI_at hd
  have hw := w_succ hb' (by omega)
  have hs := all_snoc (p := fun d => !badK 1 y0 d) hd
  by_cases hq : d = 1
  ·have hbd : badK 1 y0 d = false := by subst hq; simp [badK]
   refine wkc (jn @dI.eq_1 (jn @dL.eq_1 (jn @encI_len (jn @hix (jn @hd' (jn @int_bne @hq)))))) ?_
   refine loop_next (by simp [hw]; exact Is.rfl) ?_
   exact ⟨D - 1, by omega, j + 1, by omega, by rw [hs, hno, hbd]; rfl, SE.mk (by simp [dI, dL, hw]) rfl⟩
  ·have hq' := eq_false hq
   have hbd : badK 1 y0 d = true := by simp [badK, hq]
   have ha : l.any (badK 1 y0) = true := List.any_eq_true.2 ⟨d, hdm, hbd⟩
   rw [ha]
   refine wkc (jn @dI.eq_1 (jn @dL.eq_1 (jn @encI_len (jn @hix (jn @hd' (jn @int_bne @hq')))))) ?_
   exact ⟨.inr rfl, _, _, rfl, rfl⟩
 ·simp at hb
  have hje : j = l.length := by omega
  rw [hje, List.take_length] at hno
  have ha : l.any (badK 1 y0) = false := by
   rw [List.any_eq_false]; intro t ht; simpa using List.all_eq_true.1 hno t ht
  rw [ha]
  refine wkc (jn @dI.eq_1 @dL.eq_1) ?_
  exact ⟨.inr rfl, _, _, rfl, rfl⟩
set_option maxHeartbeats 2000000 in
theorem res_2 (o : Int) (l : List Int) (y0 : Int) (hy : l.head? = some y0) (c1 : arE o ≠ 0) (c2 : (l.length : Int) = arE o) (hK : grpE o = 2) : den Tryz.prog Ob.cfg 193 [dI o, dL (encI l)] = some (.tuple [dI (resE o l).1, dI (resE o l).2]) := by
 have a1 := group162 o
 have har := arE_le o
 have hr := resE_bad hy c1 c2
 rw [hK] at a1 hr
 rw [hr]
 simp only [dI] at a1
 have c2' := eq_true c2
 have hp : 0 < l.length := by cases l with
  | nil => simp at hy
  | cons a r => simp
 have hl1 : idx 0 l.length = some 0 := by unfold idx; rw [if_pos ⟨by omega, by omega⟩]; rfl
 have e0 : (encI l)[0]? = some [.int .i64 y0] := encI_at (by rw [← List.head?_eq_getElem?]; exact hy)
 refine den_wp Tryz.func193 rfl (by kernel_rfl) rfl rfl ?_
 refine wkc (jn @dI.eq_1 (jn @dL.eq_1 (jn @a1 (jn @c2' (jn @int_beq (jn @int_bne @encI_len)))))) ?_
 apply WP.loop' (I := fun D s => ∃ j : Nat, j + D = l.length ∧ (l.take j).all (fun d => !badK 2 y0 d) = true ∧ SE [(1, dL (encI l)), (6, dI 2), (23, dL (encI l)), (24, dI l.length), (25, dI j)] [] 0 s) (d := l.length)
 ·exact ⟨0, by simp, by simp, SE.mk (by simp [dI, dL]) rfl⟩
 rintro D _ ⟨j, hj, hno, cc, rfl⟩
 refine wk (jn @dI.eq_1 (jn @dL.eq_1 @encI_len)) ?_
 show WP _ _ _ _ _ _
 refine WP.cond _ rfl (fun hb => ?_) (fun hb => ?_)
 ·simp at hb
  have hb' : j < l.length := by omega
  obtain ⟨d, hd, hdm, hix⟩ := at_lt hb'
  have hd' := encI_at hd
  have hw := w_succ hb' (by omega)
  have hs := all_snoc (p := fun d => !badK 2 y0 d) hd
  by_cases hq : d = 2
  ·have hbd : badK 2 y0 d = false := by subst hq; simp [badK]
   refine wkc (jn @dI.eq_1 (jn @dL.eq_1 (jn @encI_len (jn @hix (jn @hd' (jn @int_bne @hq)))))) ?_
   refine loop_next (by simp [hw]; exact Is.rfl) ?_
   exact ⟨D - 1, by omega, j + 1, by omega, by rw [hs, hno, hbd]; rfl, SE.mk (by simp [dI, dL, hw]) rfl⟩
  ·have hq' := eq_false hq
   have hbd : badK 2 y0 d = true := by simp [badK, hq]
   have ha : l.any (badK 2 y0) = true := List.any_eq_true.2 ⟨d, hdm, hbd⟩
   rw [ha]
   refine wkc (jn @dI.eq_1 (jn @dL.eq_1 (jn @encI_len (jn @hix (jn @hd' (jn @int_bne @hq')))))) ?_
   exact ⟨.inr rfl, _, _, rfl, rfl⟩
 ·simp at hb
  have hje : j = l.length := by omega
  rw [hje, List.take_length] at hno
  have ha : l.any (badK 2 y0) = false := by
   rw [List.any_eq_false]; intro t ht; simpa using List.all_eq_true.1 hno t ht
  rw [ha]
  refine wkc (jn @dI.eq_1 @dL.eq_1) ?_
  exact ⟨.inr rfl, _, _, rfl, rfl⟩
set_option maxHeartbeats 2000000 in
theorem res_3 (o : Int) (l : List Int) (y0 : Int) (hy : l.head? = some y0) (c1 : arE o ≠ 0) (c2 : (l.length : Int) = arE o) (hK : grpE o = 3) : den Tryz.prog Ob.cfg 193 [dI o, dL (encI l)] = some (.tuple [dI (resE o l).1, dI (resE o l).2]) := by
 have a1 := group162 o
 have har := arE_le o
 have hr := resE_bad hy c1 c2
 rw [hK] at a1 hr
 rw [hr]
 simp only [dI] at a1
 have c2' := eq_true c2
 have hp : 0 < l.length := by cases l with
  | nil => simp at hy
  | cons a r => simp
 have hl1 : idx 0 l.length = some 0 := by unfold idx; rw [if_pos ⟨by omega, by omega⟩]; rfl
 have e0 : (encI l)[0]? = some [.int .i64 y0] := encI_at (by rw [← List.head?_eq_getElem?]; exact hy)
 refine den_wp Tryz.func193 rfl (by kernel_rfl) rfl rfl ?_
 refine wkc (jn @dI.eq_1 (jn @dL.eq_1 (jn @a1 (jn @c2' (jn @int_beq (jn @int_bne @encI_len)))))) ?_
 apply WP.loop' (I := fun D s => ∃ j : Nat, j + D = l.length ∧ (l.take j).all (fun d => !badK 3 y0 d) = true ∧ SE [(1, dL (encI l)), (6, dI 3), (23, dL (encI l)), (24, dI l.length), (25, dI j)] [] 0 s) (d := l.length)
 ·exact ⟨0, by simp, by simp, SE.mk (by simp [dI, dL]) rfl⟩
 rintro D _ ⟨j, hj, hno, cc, rfl⟩
 refine wk (jn @dI.eq_1 (jn @dL.eq_1 @encI_len)) ?_
 show WP _ _ _ _ _ _
 refine WP.cond _ rfl (fun hb => ?_) (fun hb => ?_)
 ·simp at hb
  have hb' : j < l.length := by omega
  obtain ⟨d, hd, hdm, hix⟩ := at_lt hb'
  have hd' := encI_at hd
  have hw := w_succ hb' (by omega)
  have hs := all_snoc (p := fun d => !badK 3 y0 d) hd
  by_cases hq : d = y0
  ·have hq' := eq_true hq
   by_cases hlt : d < 1
   ·have hlt' := eq_true hlt
    have hbd : badK 3 y0 d = true := by simp [badK, hlt]
    have ha : l.any (badK 3 y0) = true := List.any_eq_true.2 ⟨d, hdm, hbd⟩
    rw [ha]
    refine wkc (jn @dI.eq_1 (jn @dL.eq_1 (jn @encI_len (jn @hix (jn @hd' (jn @int_bne (jn @hq' (jn @hlt' (jn @e0 @hl1))))))))) ?_
    exact ⟨.inr rfl, _, _, rfl, rfl⟩
   ·have hlt' := eq_false hlt
    have hbd : badK 3 y0 d = false := by subst hq; simp [badK]; omega
    refine wkc (jn @dI.eq_1 (jn @dL.eq_1 (jn @encI_len (jn @hix (jn @hd' (jn @int_bne (jn @hq' (jn @hlt' (jn @e0 @hl1))))))))) ?_
    refine loop_next (by simp [hw]; exact Is.rfl) ?_
    exact ⟨D - 1, by omega, j + 1, by omega, by rw [hs, hno, hbd]; rfl, SE.mk (by simp [dI, dL, hw]) rfl⟩
  ·have hq' := eq_false hq
   have hbd : badK 3 y0 d = true := by simp [badK, hq]
   have ha : l.any (badK 3 y0) = true := List.any_eq_true.2 ⟨d, hdm, hbd⟩
   rw [ha]
   refine wkc (jn @dI.eq_1 (jn @dL.eq_1 (jn @encI_len (jn @hix (jn @hd' (jn @int_bne (jn @hq' (jn @e0 @hl1)))))))) ?_
   exact ⟨.inr rfl, _, _, rfl, rfl⟩
 ·simp at hb
  have hje : j = l.length := by omega
  rw [hje, List.take_length] at hno
  have ha : l.any (badK 3 y0) = false := by
   rw [List.any_eq_false]; intro t ht; simpa using List.all_eq_true.1 hno t ht
  rw [ha]
  refine wkc (jn @dI.eq_1 @dL.eq_1) ?_
  exact ⟨.inr rfl, _, _, rfl, rfl⟩
set_option maxHeartbeats 2000000 in
theorem res_4 (o : Int) (l : List Int) (y0 : Int) (hy : l.head? = some y0) (c1 : arE o ≠ 0) (c2 : (l.length : Int) = arE o) (hK : grpE o = 4) : den Tryz.prog Ob.cfg 193 [dI o, dL (encI l)] = some (.tuple [dI (resE o l).1, dI (resE o l).2]) := by
 have a1 := group162 o
 have har := arE_le o
 have hr := resE_bad hy c1 c2
 rw [hK] at a1 hr
 rw [hr]
 simp only [dI] at a1
 have c2' := eq_true c2
 have hp : 0 < l.length := by cases l with
  | nil => simp at hy
  | cons a r => simp
 have hl1 : idx 0 l.length = some 0 := by unfold idx; rw [if_pos ⟨by omega, by omega⟩]; rfl
 have e0 : (encI l)[0]? = some [.int .i64 y0] := encI_at (by rw [← List.head?_eq_getElem?]; exact hy)
 refine den_wp Tryz.func193 rfl (by kernel_rfl) rfl rfl ?_
 refine wkc (jn @dI.eq_1 (jn @dL.eq_1 (jn @a1 (jn @c2' (jn @int_beq (jn @int_bne @encI_len)))))) ?_
 apply WP.loop' (I := fun D s => ∃ j : Nat, j + D = l.length ∧ (l.take j).all (fun d => !badK 4 y0 d) = true ∧ SE [(1, dL (encI l)), (6, dI 4), (23, dL (encI l)), (24, dI l.length), (25, dI j)] [] 0 s) (d := l.length)
 ·exact ⟨0, by simp, by simp, SE.mk (by simp [dI, dL]) rfl⟩
 rintro D _ ⟨j, hj, hno, cc, rfl⟩
 refine wk (jn @dI.eq_1 (jn @dL.eq_1 @encI_len)) ?_
 show WP _ _ _ _ _ _
 refine WP.cond _ rfl (fun hb => ?_) (fun hb => ?_)
 ·simp at hb
  have hb' : j < l.length := by omega
  obtain ⟨d, hd, hdm, hix⟩ := at_lt hb'
  have hd' := encI_at hd
  have hw := w_succ hb' (by omega)
  have hs := all_snoc (p := fun d => !badK 4 y0 d) hd
  by_cases hq : d = 2
  ·have hbd : badK 4 y0 d = false := by subst hq; simp [badK]
   refine wkc (jn @dI.eq_1 (jn @dL.eq_1 (jn @encI_len (jn @hix (jn @hd' (jn @int_bne @hq)))))) ?_
   refine loop_next (by simp [hw]; exact Is.rfl) ?_
   exact ⟨D - 1, by omega, j + 1, by omega, by rw [hs, hno, hbd]; rfl, SE.mk (by simp [dI, dL, hw]) rfl⟩
  ·have hq' := eq_false hq
   have hbd : badK 4 y0 d = true := by simp [badK, hq]
   have ha : l.any (badK 4 y0) = true := List.any_eq_true.2 ⟨d, hdm, hbd⟩
   rw [ha]
   refine wkc (jn @dI.eq_1 (jn @dL.eq_1 (jn @encI_len (jn @hix (jn @hd' (jn @int_bne @hq')))))) ?_
   exact ⟨.inr rfl, _, _, rfl, rfl⟩
 ·simp at hb
  have hje : j = l.length := by omega
  rw [hje, List.take_length] at hno
  have ha : l.any (badK 4 y0) = false := by
   rw [List.any_eq_false]; intro t ht; simpa using List.all_eq_true.1 hno t ht
  rw [ha]
  refine wkc (jn @dI.eq_1 @dL.eq_1) ?_
  exact ⟨.inr rfl, _, _, rfl, rfl⟩
set_option maxHeartbeats 1000000 in
theorem res193 (o : Int) (l : List Int) : den Tryz.prog Ob.cfg 193 [dI o, dL (encI l)] = some (.tuple [dI (resE o l).1, dI (resE o l).2]) := by
 by_cases c1 : arE o = 0
 ·have a1 := group162 o
  rw [c1, show grpE o = 0 by unfold grpE; rw [if_pos c1]] at a1
  simp only [dI] at a1
  rw [show resE o l = (0, 2) by unfold resE; rw [if_pos c1]]
  refine den_wp Tryz.func193 rfl (by kernel_rfl) rfl rfl ?_
  refine wkc (jn @dI.eq_1 (jn @dL.eq_1 @a1)) ?_
  exact ⟨.inr rfl, _, _, rfl, rfl⟩
 have hg : ∃ K, grpE o = K ∧ (K = 1 ∨ K = 2 ∨ K = 3 ∨ K = 4) := by
  refine ⟨_, rfl, ?_⟩
  unfold grpE; rw [if_neg c1]; split
  ·exact .inl rfl
  ·split
   ·exact .inr (.inl rfl)
   ·split
    ·exact .inr (.inr (.inl rfl))
    ·exact .inr (.inr (.inr rfl))
 obtain ⟨K, hK, hKc⟩ := hg
 by_cases c2 : (l.length : Int) = arE o
 ·have hy : ∃ y0, l.head? = some y0 := by
   cases l with
   | nil => simp at c2; omega
   | cons a r => exact ⟨a, rfl⟩
  obtain ⟨y0, hy⟩ := hy
  rcases hKc with rfl | rfl | rfl | rfl
  ·exact res_1 o l y0 hy c1 c2 hK
  ·exact res_2 o l y0 hy c1 c2 hK
  ·exact res_3 o l y0 hy c1 c2 hK
  ·exact res_4 o l y0 hy c1 c2 hK
 ·have a1 := group162 o
  rw [hK] at a1
  simp only [dI] at a1
  rw [show resE o l = (0, 9) by unfold resE; rw [if_neg c1, if_pos c2]]
  have c2' := eq_false c2
  have k0 : (K = 0) = False := eq_false (by omega)
  refine den_wp Tryz.func193 rfl (by kernel_rfl) rfl rfl ?_
  refine wkc (jn @dI.eq_1 (jn @dL.eq_1 (jn @a1 (jn @c2' (jn @k0 (jn @int_beq (jn @int_bne @encI_len))))))) ?_
  exact ⟨.inr rfl, _, _, rfl, rfl⟩
end Go.Ac
end

section
set_option maxRecDepth 4000
namespace Go.Ac
open Go.Proofs
/-- A number in 16 bits. -/
def wr (n : Int) : Int := (n + 32768) % 65536 - 32768
theorem wr_i16 (n : Int) : IntKind.i16.wrap n = wr n := by simp only [IntKind.wrap, IntKind.bits, IntKind.signed, wr]; simp; omega
theorem wr_in (n : Int) : -32768 ≤ wr n ∧ wr n ≤ 32767 := by unfold wr; omega
theorem wr_i64 (n : Int) : IntKind.i64.wrap (wr n) = wr n := by have := wr_in n; rw [w_id] <;> omega
def divE (a b : Int) : Int := if wr b = 0 then 0 else wr ((wr a).tdiv (wr b))
def modE (a b : Int) : Int := if wr b = 0 then wr a else (wr a).tmod (wr b)
def cmpE (o a b : Int) : Int := if o = 2 then wr (-wr a) else if o = 6 then wr (wr a + wr b) else if o = 7 then wr (wr a - wr b) else if o = 8 then wr (wr a * wr b) else if o = 9 then divE a b else modE a b
def hldE (o a b : Int) : Bool := if o = 1 then decide (a = 0) else if o = 3 then decide (a = 1) && decide (b = 1) else if o = 4 then decide (a = 1) || decide (b = 1) else if o = 11 then decide (a = b) else if o = 5 ∨ o = 12 then !decide (a = b) else if o = 13 then decide (a < b) else if o = 14 then decide (a ≤ b) else if o = 15 then decide (b < a) else decide (b ≤ a)
/-- An operand that is out of range. -/
def ofR (K v : Int) : Bool := if K = 1 then !decide (v = 0) && !decide (v = 1) else if K = 3 then false else !inW v
def trE (b : Bool) : Int := if b then 1 else 0
def appE (o : Int) (l : List Int) : Int × Int :=
 if grpE o = 0 then (0, 2) else if (l.length : Int) ≠ arE o then (0, 9) else if l.any (ofR (grpE o)) then (0, 14)
 else if grpE o = 2 then (cmpE o (l.getD 0 0) (l.getD (l.length - 1) 0), 0) else (trE (hldE o (l.getD 0 0) (l.getD (l.length - 1) 0)), 0)
theorem kf194 (r : Nat) : Ob.keep 194 r = Ob.k194 r := by kernel_rfl
theorem kf177 (r : Nat) : Ob.keep 177 r = Ob.k177 r := by kernel_rfl
theorem kf178 (r : Nat) : Ob.keep 178 r = Ob.k178 r := by kernel_rfl
theorem kf179 (r : Nat) : Ob.keep 179 r = Ob.k179 r := by kernel_rfl
theorem kf180 (r : Nat) : Ob.keep 180 r = Ob.k180 r := by kernel_rfl
theorem kf181 (r : Nat) : Ob.keep 181 r = Ob.k181 r := by kernel_rfl
theorem kf182 (r : Nat) : Ob.keep 182 r = Ob.k182 r := by kernel_rfl
theorem kf163 (r : Nat) : Ob.keep 163 r = Ob.k163 r := by kernel_rfl
theorem kf164 (r : Nat) : Ob.keep 164 r = Ob.k164 r := by kernel_rfl
theorem kf165 (r : Nat) : Ob.keep 165 r = Ob.k165 r := by kernel_rfl
theorem kf148 (r : Nat) : Ob.keep 148 r = Ob.k148 r := by kernel_rfl
attribute [local simp] kf194 Ob.k194 kf177 Ob.k177 kf178 Ob.k178 kf179 Ob.k179 kf180 Ob.k180 kf181 Ob.k181 kf182 Ob.k182 kf163 Ob.k163 kf164 Ob.k164 kf165 Ob.k165 kf148 Ob.k148
theorem wrap194 (n : Int) : den Tryz.prog Ob.cfg 194 [dI n] = some (dI (wr n)) := by
 refine den_wp Tryz.func194 rfl (by kernel_rfl) rfl rfl ?_
 refine wkc (jn @dI.eq_1 (jn @wr_i16 @wr_i64)) ?_
 show retQ _ _ _ _ _
 exact ⟨.inr rfl, _, _, rfl, rfl⟩
theorem neg177 (a : Int) : den Tryz.prog Ob.cfg 177 [dI a] = some (dI (wr (-wr a))) := by
 have h1 := wrap194
 have h2 := wr_in a
 have h3 : IntKind.i64.wrap (-wr a) = -wr a := by rw [w_id] <;> omega
 simp only [dI] at h1
 refine den_wp Tryz.func177 rfl (by kernel_rfl) rfl rfl ?_
 refine wkc (jn @dI.eq_1 (jn @h1 @h3)) ?_
 show retQ _ _ _ _ _
 exact ⟨.inr rfl, _, _, rfl, rfl⟩
theorem add178 (a b : Int) : den Tryz.prog Ob.cfg 178 [dI a, dI b] = some (dI (wr (wr a + wr b))) := by
 have h1 := wrap194
 have h2 := wr_in a
 have h4 := wr_in b
 have h3 : IntKind.i64.wrap (wr a + wr b) = wr a + wr b := by rw [w_id] <;> omega
 simp only [dI] at h1
 refine den_wp Tryz.func178 rfl (by kernel_rfl) rfl rfl ?_
 refine wkc (jn @dI.eq_1 (jn @h1 @h3)) ?_
 show retQ _ _ _ _ _
 exact ⟨.inr rfl, _, _, rfl, rfl⟩
theorem sub179 (a b : Int) : den Tryz.prog Ob.cfg 179 [dI a, dI b] = some (dI (wr (wr a - wr b))) := by
 have h1 := wrap194
 have h2 := wr_in a
 have h4 := wr_in b
 have h3 : IntKind.i64.wrap (wr a - wr b) = wr a - wr b := by rw [w_id] <;> omega
 simp only [dI] at h1
 refine den_wp Tryz.func179 rfl (by kernel_rfl) rfl rfl ?_
 refine wkc (jn @dI.eq_1 (jn @h1 @h3)) ?_
 show retQ _ _ _ _ _
 exact ⟨.inr rfl, _, _, rfl, rfl⟩
theorem mul_in (a b : Int) : -1073741824 ≤ wr a * wr b ∧ wr a * wr b ≤ 1073741824 := by
 have h2 := wr_in a
 have h4 := wr_in b
 generalize wr a = x at *
 generalize wr b = y at *
 have h5 : x.natAbs * y.natAbs ≤ 32768 * 32768 := Nat.mul_le_mul (by omega) (by omega)
 rw [← Int.natAbs_mul] at h5
 generalize x * y = z at *
 omega
theorem mul180 (a b : Int) : den Tryz.prog Ob.cfg 180 [dI a, dI b] = some (dI (wr (wr a * wr b))) := by
 have h1 := wrap194
 have h2 := mul_in a b
 have h3 : IntKind.i64.wrap (wr a * wr b) = wr a * wr b := by rw [w_id] <;> omega
 simp only [dI] at h1
 refine den_wp Tryz.func180 rfl (by kernel_rfl) rfl rfl ?_
 refine wkc (jn @dI.eq_1 (jn @h1 @h3)) ?_
 show retQ _ _ _ _ _
 exact ⟨.inr rfl, _, _, rfl, rfl⟩
theorem tdiv_in (a b : Int) : -32768 ≤ (wr a).tdiv (wr b) ∧ (wr a).tdiv (wr b) ≤ 32768 := by
 have h2 := wr_in a
 have := Int.natAbs_tdiv (wr a) (wr b)
 have h3 : (wr a).natAbs / (wr b).natAbs ≤ (wr a).natAbs := Nat.div_le_self ..
 replace h3 : ((wr a).tdiv (wr b)).natAbs ≤ (wr a).natAbs := by rw [this]; exact h3
 clear this
 generalize (wr a).tdiv (wr b) = z at *
 omega
theorem tmod_in (a b : Int) : -32768 ≤ (wr a).tmod (wr b) ∧ (wr a).tmod (wr b) ≤ 32767 := by
 have h2 := wr_in a
 have h3 : ((wr a).tmod (wr b)).natAbs ≤ (wr a).natAbs := by rw [Int.natAbs_tmod]; exact Nat.mod_le ..
 by_cases h : 0 ≤ wr a
 ·have h4 := Int.tmod_nonneg (wr b) h
  have e1 := Int.natAbs_of_nonneg h4
  have e2 := Int.natAbs_of_nonneg h
  omega
 ·have h4 : 0 ≤ (-wr a).tmod (wr b) := Int.tmod_nonneg (wr b) (by omega)
  rw [Int.neg_tmod] at h4
  have e1 := Int.ofNat_natAbs_of_nonpos (a := (wr a).tmod (wr b)) (by omega)
  have e2 := Int.ofNat_natAbs_of_nonpos (a := wr a) (by omega)
  omega
theorem div181 (a b : Int) : den Tryz.prog Ob.cfg 181 [dI a, dI b] = some (dI (divE a b)) := by
 have h1 := wrap194
 have h2 := tdiv_in a b
 have h3 : IntKind.i64.wrap ((wr a).tdiv (wr b)) = (wr a).tdiv (wr b) := by rw [w_id] <;> omega
 simp only [dI] at h1
 refine den_wp Tryz.func181 rfl (by kernel_rfl) rfl rfl ?_
 unfold divE
 by_cases q : wr b = 0
 ·rw [if_pos q]
  refine wkc (jn @dI.eq_1 (jn @h1 (jn @int_beq @q))) ?_
  show retQ _ _ _ _ _
  exact ⟨.inr rfl, _, _, rfl, rfl⟩
 ·rw [if_neg q]
  have q' := eq_false q
  refine wkc (jn @dI.eq_1 (jn @h1 (jn @int_beq (jn @q' @h3)))) ?_
  show retQ _ _ _ _ _
  exact ⟨.inr rfl, _, _, rfl, rfl⟩
theorem mod182 (a b : Int) : den Tryz.prog Ob.cfg 182 [dI a, dI b] = some (dI (modE a b)) := by
 have h1 := wrap194
 have h2 := tmod_in a b
 have h3 : IntKind.i64.wrap ((wr a).tmod (wr b)) = (wr a).tmod (wr b) := by rw [w_id] <;> omega
 simp only [dI] at h1
 refine den_wp Tryz.func182 rfl (by kernel_rfl) rfl rfl ?_
 unfold modE
 by_cases q : wr b = 0
 ·rw [if_pos q]
  refine wkc (jn @dI.eq_1 (jn @h1 (jn @int_beq @q))) ?_
  show retQ _ _ _ _ _
  exact ⟨.inr rfl, _, _, rfl, rfl⟩
 ·rw [if_neg q]
  have q' := eq_false q
  refine wkc (jn @dI.eq_1 (jn @h1 (jn @int_beq (jn @q' @h3)))) ?_
  show retQ _ _ _ _ _
  exact ⟨.inr rfl, _, _, rfl, rfl⟩
theorem truth164 (b : Bool) : den Tryz.prog Ob.cfg 164 [dB b] = some (dI (trE b)) := by
 refine den_wp Tryz.func164 rfl (by kernel_rfl) rfl rfl ?_
 cases b
 ·rw [show trE false = 0 from rfl]
  refine wkc (jn @dI.eq_1 @dB.eq_1) ?_
  show retQ _ _ _ _ _
  exact ⟨.inr rfl, _, _, rfl, rfl⟩
 ·rw [show trE true = 1 from rfl]
  refine wkc (jn @dI.eq_1 @dB.eq_1) ?_
  show retQ _ _ _ _ _
  exact ⟨.inr rfl, _, _, rfl, rfl⟩
theorem compute163 (o a b : Int) : den Tryz.prog Ob.cfg 163 [dI o, dI a, dI b] = some (dI (cmpE o a b)) := by
 have a1 := neg177
 have a2 := add178
 have a3 := sub179
 have a4 := mul180
 have a5 := div181
 have a6 := mod182
 simp only [dI] at a1 a2 a3 a4 a5 a6
 refine den_wp Tryz.func163 rfl (by kernel_rfl) rfl rfl ?_
 by_cases q2 : o = 2
 ·subst q2; rw [show cmpE 2 a b = wr (-wr a) from rfl]
  refine wkc (jn @dI.eq_1 (jn @int_beq @a1)) ?_
  show retQ _ _ _ _ _
  exact ⟨.inr rfl, _, _, rfl, rfl⟩
 have r2 := eq_false q2
 by_cases q6 : o = 6
 ·subst q6; rw [show cmpE 6 a b = wr (wr a + wr b) from rfl]
  refine wkc (jn @dI.eq_1 (jn @int_beq @a2)) ?_
  show retQ _ _ _ _ _
  exact ⟨.inr rfl, _, _, rfl, rfl⟩
 have r6 := eq_false q6
 by_cases q7 : o = 7
 ·subst q7; rw [show cmpE 7 a b = wr (wr a - wr b) from rfl]
  refine wkc (jn @dI.eq_1 (jn @int_beq @a3)) ?_
  show retQ _ _ _ _ _
  exact ⟨.inr rfl, _, _, rfl, rfl⟩
 have r7 := eq_false q7
 by_cases q8 : o = 8
 ·subst q8; rw [show cmpE 8 a b = wr (wr a * wr b) from rfl]
  refine wkc (jn @dI.eq_1 (jn @int_beq @a4)) ?_
  show retQ _ _ _ _ _
  exact ⟨.inr rfl, _, _, rfl, rfl⟩
 have r8 := eq_false q8
 by_cases q9 : o = 9
 ·subst q9; rw [show cmpE 9 a b = divE a b from rfl]
  refine wkc (jn @dI.eq_1 (jn @int_beq @a5)) ?_
  show retQ _ _ _ _ _
  exact ⟨.inr rfl, _, _, rfl, rfl⟩
 have r9 := eq_false q9
 rw [show cmpE o a b = modE a b by unfold cmpE; rw [if_neg q2, if_neg q6, if_neg q7, if_neg q8, if_neg q9]]
 refine wkc (jn @dI.eq_1 (jn @int_beq (jn @r2 (jn @r6 (jn @r7 (jn @r8 (jn @r9 @a6))))))) ?_
 show retQ _ _ _ _ _
 exact ⟨.inr rfl, _, _, rfl, rfl⟩
theorem holds165 (o a b : Int) : den Tryz.prog Ob.cfg 165 [dI o, dI a, dI b] = some (dB (hldE o a b)) := by
 refine den_wp Tryz.func165 rfl (by kernel_rfl) rfl rfl ?_
 by_cases q1 : o = 1
 ·subst q1; rw [show hldE 1 a b = (decide (a = 0)) from rfl]
  refine wkc (jn @dI.eq_1 (jn @dB.eq_1 (jn @int_beq @int_bne))) ?_
  exact ⟨.inr rfl, _, _, rfl, by rfl⟩
 have r1 := eq_false q1
 by_cases q3 : o = 3
 ·subst q3; rw [show hldE 3 a b = ((decide (a = 1) && decide (b = 1))) from rfl]
  by_cases u : a = 1
  ·subst u
   refine wkc (jn @dI.eq_1 (jn @dB.eq_1 (jn @int_beq @int_bne))) ?_
   show retQ _ _ _ _ _
   exact ⟨.inr rfl, _, _, rfl, rfl⟩
  ·have u' := eq_false u
   rw [show (decide (a = 1) && decide (b = 1)) = false by simp [u]]
   refine wkc (jn @dI.eq_1 (jn @dB.eq_1 (jn @int_beq (jn @int_bne @u')))) ?_
   exact ⟨.inr rfl, _, _, rfl, by rfl⟩
 have r3 := eq_false q3
 by_cases q4 : o = 4
 ·subst q4; rw [show hldE 4 a b = ((decide (a = 1) || decide (b = 1))) from rfl]
  by_cases u : a = 1
  ·subst u
   refine wkc (jn @dI.eq_1 (jn @dB.eq_1 (jn @int_beq @int_bne))) ?_
   show retQ _ _ _ _ _
   exact ⟨.inr rfl, _, _, rfl, rfl⟩
  ·have u' := eq_false u
   rw [show (decide (a = 1) || decide (b = 1)) = decide (b = 1) by simp [u]]
   refine wkc (jn @dI.eq_1 (jn @dB.eq_1 (jn @int_beq (jn @int_bne @u')))) ?_
   exact ⟨.inr rfl, _, _, rfl, by rfl⟩
 have r4 := eq_false q4
 by_cases q11 : o = 11
 ·subst q11; rw [show hldE 11 a b = (decide (a = b)) from rfl]
  refine wkc (jn @dI.eq_1 (jn @dB.eq_1 (jn @int_beq @int_bne))) ?_
  exact ⟨.inr rfl, _, _, rfl, by rfl⟩
 have r11 := eq_false q11
 by_cases q5 : o = 5
 ·subst q5; rw [show hldE 5 a b = (!decide (a = b)) from rfl]
  refine wkc (jn @dI.eq_1 (jn @dB.eq_1 (jn @int_beq @int_bne))) ?_
  exact ⟨.inr rfl, _, _, rfl, by rfl⟩
 have r5 := eq_false q5
 by_cases q12 : o = 12
 ·subst q12; rw [show hldE 12 a b = (!decide (a = b)) from rfl]
  refine wkc (jn @dI.eq_1 (jn @dB.eq_1 (jn @int_beq @int_bne))) ?_
  exact ⟨.inr rfl, _, _, rfl, by rfl⟩
 have r12 := eq_false q12
 by_cases q13 : o = 13
 ·subst q13; rw [show hldE 13 a b = (decide (a < b)) from rfl]
  refine wkc (jn @dI.eq_1 (jn @dB.eq_1 (jn @int_beq @int_bne))) ?_
  exact ⟨.inr rfl, _, _, rfl, by rfl⟩
 have r13 := eq_false q13
 by_cases q14 : o = 14
 ·subst q14; rw [show hldE 14 a b = (decide (a ≤ b)) from rfl]
  refine wkc (jn @dI.eq_1 (jn @dB.eq_1 (jn @int_beq @int_bne))) ?_
  exact ⟨.inr rfl, _, _, rfl, by rfl⟩
 have r14 := eq_false q14
 by_cases q15 : o = 15
 ·subst q15; rw [show hldE 15 a b = (decide (b < a)) from rfl]
  refine wkc (jn @dI.eq_1 (jn @dB.eq_1 (jn @int_beq @int_bne))) ?_
  exact ⟨.inr rfl, _, _, rfl, by rfl⟩
 have r15 := eq_false q15
 rw [show hldE o a b = decide (b ≤ a) by unfold hldE; rw [if_neg q1, if_neg q3, if_neg q4, if_neg q11, if_neg (by omega), if_neg q13, if_neg q14, if_neg q15]]
 refine wkc (jn @dI.eq_1 (jn @dB.eq_1 (jn @int_beq (jn @int_bne (jn @r1 (jn @r3 (jn @r4 (jn @r11 (jn @r5 (jn @r12 (jn @r13 (jn @r14 @r15)))))))))))) ?_
 exact ⟨.inr rfl, _, _, rfl, by rfl⟩
set_option maxHeartbeats 2000000 in
theorem app_1 (o : Int) (l : List Int) (hl : (l.length : Int) = arE o) (hK : grpE o = 1) : den Tryz.prog Ob.cfg 148 [dI o, dL (encI l)] = some (.tuple [dI (appE o l).1, dI (appE o l).2]) := by
 have a1 := group162 o
 have a2 := in38
 have a3 := compute163
 have a4 := holds165
 have a5 := truth164
 have har := arE_le o
 have c0 : arE o ≠ 0 := by intro h; simp [grpE, h] at hK
 have hp : 0 < l.length := by have := arE_nn o; omega
 rw [hK] at a1
 have hap : appE o l = if l.any (ofR 1) then (0, 14) else if (1 : Int) = 2 then (cmpE o (l.getD 0 0) (l.getD (l.length - 1) 0), 0) else (trE (hldE o (l.getD 0 0) (l.getD (l.length - 1) 0)), 0) := by
  unfold appE; rw [hK, if_neg (by omega), if_neg (by omega)]
 rw [hap]
 simp only [dI, dB] at a1 a2 a3 a4 a5
 have c2' := eq_true hl
 have hl1 : idx 0 l.length = some 0 := by unfold idx; rw [if_pos ⟨by omega, by omega⟩]; rfl
 have e0 : (encI l)[0]? = some [.int .i64 (l.getD 0 0)] := encI_at (by rw [List.getD_eq_getElem?_getD, List.getElem?_eq_getElem hp]; rfl)
 have hw1 : IntKind.i64.wrap (arE o - 1) = arE o - 1 := by have := arE_nn o; rw [w_id] <;> omega
 have hl2 : idx (arE o - 1) l.length = some (l.length - 1) := by
  unfold idx
  rw [if_pos ⟨by omega, by omega⟩]
  congr 1; omega
 have e1 : (encI l)[l.length - 1]? = some [.int .i64 (l.getD (l.length - 1) 0)] := encI_at (by rw [List.getD_eq_getElem?_getD, List.getElem?_eq_getElem (by omega)]; rfl)
 refine den_wp Tryz.func148 rfl (by kernel_rfl) rfl rfl ?_
 refine wkc (jn @dI.eq_1 (jn @dL.eq_1 (jn @a1 (jn @c2' (jn @int_beq (jn @int_bne @encI_len)))))) ?_
 apply WP.loop' (I := fun D s => ∃ j : Nat, j + D = l.length ∧ (l.take j).all (fun d => !ofR 1 d) = true ∧ SE [(0, dI o), (1, dL (encI l)), (6, dI 1), (7, dI (arE o)), (25, dL (encI l)), (26, dI l.length), (27, dI j)] [] 0 s) (d := l.length)
 ·exact ⟨0, by simp, by simp, SE.mk (by simp [dI, dL]) rfl⟩
 rintro D _ ⟨j, hj, hno, cc, rfl⟩
 refine wk (jn @dI.eq_1 (jn @dL.eq_1 @encI_len)) ?_
 show WP _ _ _ _ _ _
 refine WP.cond _ rfl (fun hb => ?_) (fun hb => ?_)
 ·simp at hb
  have hb' : j < l.length := by omega
  obtain ⟨d, hd, hdm, hix⟩ := at_lt hb'
  have hd' := encI_at hd
  have hw := w_succ hb' (by omega)
  have hs := all_snoc (p := fun d => !ofR 1 d) hd
  by_cases u0 : d = 0
  ·have hbd : ofR 1 d = false := by simp [ofR, u0]
   refine wkc (jn @dI.eq_1 (jn @dL.eq_1 (jn @encI_len (jn @hix (jn @hd' (jn @int_beq (jn @int_bne (jn @a2 @u0)))))))) ?_
   refine loop_next (by simp [hw]; exact Is.rfl) ?_
   exact ⟨D - 1, by omega, j + 1, by omega, by rw [hs, hno, hbd]; rfl, SE.mk (by simp [dI, dL, hw]) rfl⟩
  have u0' := eq_false u0
  by_cases u1 : d = 1
  ·have hbd : ofR 1 d = false := by simp [ofR, u1]
   refine wkc (jn @dI.eq_1 (jn @dL.eq_1 (jn @encI_len (jn @hix (jn @hd' (jn @int_beq (jn @int_bne (jn @a2 @u1)))))))) ?_
   refine loop_next (by simp [hw]; exact Is.rfl) ?_
   exact ⟨D - 1, by omega, j + 1, by omega, by rw [hs, hno, hbd]; rfl, SE.mk (by simp [dI, dL, hw]) rfl⟩
  have u1' := eq_false u1
  have hbd : ofR 1 d = true := by simp [ofR, u0, u1]
  have ha : l.any (ofR 1) = true := List.any_eq_true.2 ⟨d, hdm, hbd⟩
  rw [ha]
  refine wkc (jn @dI.eq_1 (jn @dL.eq_1 (jn @encI_len (jn @hix (jn @hd' (jn @int_beq (jn @int_bne (jn @a2 (jn @u0' @u1'))))))))) ?_
  show retQ _ _ _ _ _
  exact ⟨.inr rfl, _, _, rfl, rfl⟩
 ·simp at hb
  have hje : j = l.length := by omega
  rw [hje, List.take_length] at hno
  have ha : l.any (ofR 1) = false := by
   rw [List.any_eq_false]; intro t ht; simpa using List.all_eq_true.1 hno t ht
  rw [ha]
  refine wkc (jn @dI.eq_1 (jn @dL.eq_1 (jn @encI_len (jn @hl1 (jn @e0 (jn @hw1 (jn @hl2 (jn @e1 (jn @int_beq (jn @int_bne (jn @a3 (jn @a4 @a5)))))))))))) ?_
  show retQ _ _ _ _ _
  exact ⟨.inr rfl, _, _, rfl, rfl⟩
set_option maxHeartbeats 2000000 in
theorem app_2 (o : Int) (l : List Int) (hl : (l.length : Int) = arE o) (hK : grpE o = 2) : den Tryz.prog Ob.cfg 148 [dI o, dL (encI l)] = some (.tuple [dI (appE o l).1, dI (appE o l).2]) := by
 have a1 := group162 o
 have a2 := in38
 have a3 := compute163
 have a4 := holds165
 have a5 := truth164
 have har := arE_le o
 have c0 : arE o ≠ 0 := by intro h; simp [grpE, h] at hK
 have hp : 0 < l.length := by have := arE_nn o; omega
 rw [hK] at a1
 have hap : appE o l = if l.any (ofR 2) then (0, 14) else if (2 : Int) = 2 then (cmpE o (l.getD 0 0) (l.getD (l.length - 1) 0), 0) else (trE (hldE o (l.getD 0 0) (l.getD (l.length - 1) 0)), 0) := by
  unfold appE; rw [hK, if_neg (by omega), if_neg (by omega)]
 rw [hap]
 simp only [dI, dB] at a1 a2 a3 a4 a5
 have c2' := eq_true hl
 have hl1 : idx 0 l.length = some 0 := by unfold idx; rw [if_pos ⟨by omega, by omega⟩]; rfl
 have e0 : (encI l)[0]? = some [.int .i64 (l.getD 0 0)] := encI_at (by rw [List.getD_eq_getElem?_getD, List.getElem?_eq_getElem hp]; rfl)
 have hw1 : IntKind.i64.wrap (arE o - 1) = arE o - 1 := by have := arE_nn o; rw [w_id] <;> omega
 have hl2 : idx (arE o - 1) l.length = some (l.length - 1) := by
  unfold idx
  rw [if_pos ⟨by omega, by omega⟩]
  congr 1; omega
 have e1 : (encI l)[l.length - 1]? = some [.int .i64 (l.getD (l.length - 1) 0)] := encI_at (by rw [List.getD_eq_getElem?_getD, List.getElem?_eq_getElem (by omega)]; rfl)
 refine den_wp Tryz.func148 rfl (by kernel_rfl) rfl rfl ?_
 refine wkc (jn @dI.eq_1 (jn @dL.eq_1 (jn @a1 (jn @c2' (jn @int_beq (jn @int_bne @encI_len)))))) ?_
 apply WP.loop' (I := fun D s => ∃ j : Nat, j + D = l.length ∧ (l.take j).all (fun d => !ofR 2 d) = true ∧ SE [(0, dI o), (1, dL (encI l)), (6, dI 2), (7, dI (arE o)), (25, dL (encI l)), (26, dI l.length), (27, dI j)] [] 0 s) (d := l.length)
 ·exact ⟨0, by simp, by simp, SE.mk (by simp [dI, dL]) rfl⟩
 rintro D _ ⟨j, hj, hno, cc, rfl⟩
 refine wk (jn @dI.eq_1 (jn @dL.eq_1 @encI_len)) ?_
 show WP _ _ _ _ _ _
 refine WP.cond _ rfl (fun hb => ?_) (fun hb => ?_)
 ·simp at hb
  have hb' : j < l.length := by omega
  obtain ⟨d, hd, hdm, hix⟩ := at_lt hb'
  have hd' := encI_at hd
  have hw := w_succ hb' (by omega)
  have hs := all_snoc (p := fun d => !ofR 2 d) hd
  cases u : inW d
  ·have hbd : ofR 2 d = true := by simp [ofR, u]
   have ha : l.any (ofR 2) = true := List.any_eq_true.2 ⟨d, hdm, hbd⟩
   rw [ha]
   refine wkc (jn @dI.eq_1 (jn @dL.eq_1 (jn @encI_len (jn @hix (jn @hd' (jn @int_beq (jn @int_bne (jn @a2 @u)))))))) ?_
   show retQ _ _ _ _ _
   exact ⟨.inr rfl, _, _, rfl, rfl⟩
  ·have hbd : ofR 2 d = false := by simp [ofR, u]
   refine wkc (jn @dI.eq_1 (jn @dL.eq_1 (jn @encI_len (jn @hix (jn @hd' (jn @int_beq (jn @int_bne (jn @a2 @u)))))))) ?_
   refine loop_next (by simp [hw]; exact Is.rfl) ?_
   exact ⟨D - 1, by omega, j + 1, by omega, by rw [hs, hno, hbd]; rfl, SE.mk (by simp [dI, dL, hw]) rfl⟩
 ·simp at hb
  have hje : j = l.length := by omega
  rw [hje, List.take_length] at hno
  have ha : l.any (ofR 2) = false := by
   rw [List.any_eq_false]; intro t ht; simpa using List.all_eq_true.1 hno t ht
  rw [ha]
  refine wkc (jn @dI.eq_1 (jn @dL.eq_1 (jn @encI_len (jn @hl1 (jn @e0 (jn @hw1 (jn @hl2 (jn @e1 (jn @int_beq (jn @int_bne (jn @a3 (jn @a4 @a5)))))))))))) ?_
  show retQ _ _ _ _ _
  exact ⟨.inr rfl, _, _, rfl, rfl⟩
set_option maxHeartbeats 2000000 in
theorem app_3 (o : Int) (l : List Int) (hl : (l.length : Int) = arE o) (hK : grpE o = 3) : den Tryz.prog Ob.cfg 148 [dI o, dL (encI l)] = some (.tuple [dI (appE o l).1, dI (appE o l).2]) := by
 have a1 := group162 o
 have a2 := in38
 have a3 := compute163
 have a4 := holds165
 have a5 := truth164
 have har := arE_le o
 have c0 : arE o ≠ 0 := by intro h; simp [grpE, h] at hK
 have hp : 0 < l.length := by have := arE_nn o; omega
 rw [hK] at a1
 have hap : appE o l = if l.any (ofR 3) then (0, 14) else if (3 : Int) = 2 then (cmpE o (l.getD 0 0) (l.getD (l.length - 1) 0), 0) else (trE (hldE o (l.getD 0 0) (l.getD (l.length - 1) 0)), 0) := by
  unfold appE; rw [hK, if_neg (by omega), if_neg (by omega)]
 rw [hap]
 simp only [dI, dB] at a1 a2 a3 a4 a5
 have c2' := eq_true hl
 have hl1 : idx 0 l.length = some 0 := by unfold idx; rw [if_pos ⟨by omega, by omega⟩]; rfl
 have e0 : (encI l)[0]? = some [.int .i64 (l.getD 0 0)] := encI_at (by rw [List.getD_eq_getElem?_getD, List.getElem?_eq_getElem hp]; rfl)
 have hw1 : IntKind.i64.wrap (arE o - 1) = arE o - 1 := by have := arE_nn o; rw [w_id] <;> omega
 have hl2 : idx (arE o - 1) l.length = some (l.length - 1) := by
  unfold idx
  rw [if_pos ⟨by omega, by omega⟩]
  congr 1; omega
 have e1 : (encI l)[l.length - 1]? = some [.int .i64 (l.getD (l.length - 1) 0)] := encI_at (by rw [List.getD_eq_getElem?_getD, List.getElem?_eq_getElem (by omega)]; rfl)
 refine den_wp Tryz.func148 rfl (by kernel_rfl) rfl rfl ?_
 refine wkc (jn @dI.eq_1 (jn @dL.eq_1 (jn @a1 (jn @c2' (jn @int_beq (jn @int_bne @encI_len)))))) ?_
 apply WP.loop' (I := fun D s => ∃ j : Nat, j + D = l.length ∧ (l.take j).all (fun d => !ofR 3 d) = true ∧ SE [(0, dI o), (1, dL (encI l)), (6, dI 3), (7, dI (arE o)), (25, dL (encI l)), (26, dI l.length), (27, dI j)] [] 0 s) (d := l.length)
 ·exact ⟨0, by simp, by simp, SE.mk (by simp [dI, dL]) rfl⟩
 rintro D _ ⟨j, hj, hno, cc, rfl⟩
 refine wk (jn @dI.eq_1 (jn @dL.eq_1 @encI_len)) ?_
 show WP _ _ _ _ _ _
 refine WP.cond _ rfl (fun hb => ?_) (fun hb => ?_)
 ·simp at hb
  have hb' : j < l.length := by omega
  obtain ⟨d, hd, hdm, hix⟩ := at_lt hb'
  have hd' := encI_at hd
  have hw := w_succ hb' (by omega)
  have hs := all_snoc (p := fun d => !ofR 3 d) hd
  have hbd : ofR 3 d = false := rfl
  refine wkc (jn @dI.eq_1 (jn @dL.eq_1 (jn @encI_len (jn @hix (jn @hd' (jn @int_beq (jn @int_bne @a2))))))) ?_
  refine loop_next (by simp [hw]; exact Is.rfl) ?_
  exact ⟨D - 1, by omega, j + 1, by omega, by rw [hs, hno, hbd]; rfl, SE.mk (by simp [dI, dL, hw]) rfl⟩
 ·simp at hb
  have hje : j = l.length := by omega
  rw [hje, List.take_length] at hno
  have ha : l.any (ofR 3) = false := by
   rw [List.any_eq_false]; intro t ht; simpa using List.all_eq_true.1 hno t ht
  rw [ha]
  refine wkc (jn @dI.eq_1 (jn @dL.eq_1 (jn @encI_len (jn @hl1 (jn @e0 (jn @hw1 (jn @hl2 (jn @e1 (jn @int_beq (jn @int_bne (jn @a3 (jn @a4 @a5)))))))))))) ?_
  show retQ _ _ _ _ _
  exact ⟨.inr rfl, _, _, rfl, rfl⟩
set_option maxHeartbeats 2000000 in
theorem app_4 (o : Int) (l : List Int) (hl : (l.length : Int) = arE o) (hK : grpE o = 4) : den Tryz.prog Ob.cfg 148 [dI o, dL (encI l)] = some (.tuple [dI (appE o l).1, dI (appE o l).2]) := by
 have a1 := group162 o
 have a2 := in38
 have a3 := compute163
 have a4 := holds165
 have a5 := truth164
 have har := arE_le o
 have c0 : arE o ≠ 0 := by intro h; simp [grpE, h] at hK
 have hp : 0 < l.length := by have := arE_nn o; omega
 rw [hK] at a1
 have hap : appE o l = if l.any (ofR 4) then (0, 14) else if (4 : Int) = 2 then (cmpE o (l.getD 0 0) (l.getD (l.length - 1) 0), 0) else (trE (hldE o (l.getD 0 0) (l.getD (l.length - 1) 0)), 0) := by
  unfold appE; rw [hK, if_neg (by omega), if_neg (by omega)]
 rw [hap]
 simp only [dI, dB] at a1 a2 a3 a4 a5
 have c2' := eq_true hl
 have hl1 : idx 0 l.length = some 0 := by unfold idx; rw [if_pos ⟨by omega, by omega⟩]; rfl
 have e0 : (encI l)[0]? = some [.int .i64 (l.getD 0 0)] := encI_at (by rw [List.getD_eq_getElem?_getD, List.getElem?_eq_getElem hp]; rfl)
 have hw1 : IntKind.i64.wrap (arE o - 1) = arE o - 1 := by have := arE_nn o; rw [w_id] <;> omega
 have hl2 : idx (arE o - 1) l.length = some (l.length - 1) := by
  unfold idx
  rw [if_pos ⟨by omega, by omega⟩]
  congr 1; omega
 have e1 : (encI l)[l.length - 1]? = some [.int .i64 (l.getD (l.length - 1) 0)] := encI_at (by rw [List.getD_eq_getElem?_getD, List.getElem?_eq_getElem (by omega)]; rfl)
 refine den_wp Tryz.func148 rfl (by kernel_rfl) rfl rfl ?_
 refine wkc (jn @dI.eq_1 (jn @dL.eq_1 (jn @a1 (jn @c2' (jn @int_beq (jn @int_bne @encI_len)))))) ?_
 apply WP.loop' (I := fun D s => ∃ j : Nat, j + D = l.length ∧ (l.take j).all (fun d => !ofR 4 d) = true ∧ SE [(0, dI o), (1, dL (encI l)), (6, dI 4), (7, dI (arE o)), (25, dL (encI l)), (26, dI l.length), (27, dI j)] [] 0 s) (d := l.length)
 ·exact ⟨0, by simp, by simp, SE.mk (by simp [dI, dL]) rfl⟩
 rintro D _ ⟨j, hj, hno, cc, rfl⟩
 refine wk (jn @dI.eq_1 (jn @dL.eq_1 @encI_len)) ?_
 show WP _ _ _ _ _ _
 refine WP.cond _ rfl (fun hb => ?_) (fun hb => ?_)
 ·simp at hb
  have hb' : j < l.length := by omega
  obtain ⟨d, hd, hdm, hix⟩ := at_lt hb'
  have hd' := encI_at hd
  have hw := w_succ hb' (by omega)
  have hs := all_snoc (p := fun d => !ofR 4 d) hd
  cases u : inW d
  ·have hbd : ofR 4 d = true := by simp [ofR, u]
   have ha : l.any (ofR 4) = true := List.any_eq_true.2 ⟨d, hdm, hbd⟩
   rw [ha]
   refine wkc (jn @dI.eq_1 (jn @dL.eq_1 (jn @encI_len (jn @hix (jn @hd' (jn @int_beq (jn @int_bne (jn @a2 @u)))))))) ?_
   show retQ _ _ _ _ _
   exact ⟨.inr rfl, _, _, rfl, rfl⟩
  ·have hbd : ofR 4 d = false := by simp [ofR, u]
   refine wkc (jn @dI.eq_1 (jn @dL.eq_1 (jn @encI_len (jn @hix (jn @hd' (jn @int_beq (jn @int_bne (jn @a2 @u)))))))) ?_
   refine loop_next (by simp [hw]; exact Is.rfl) ?_
   exact ⟨D - 1, by omega, j + 1, by omega, by rw [hs, hno, hbd]; rfl, SE.mk (by simp [dI, dL, hw]) rfl⟩
 ·simp at hb
  have hje : j = l.length := by omega
  rw [hje, List.take_length] at hno
  have ha : l.any (ofR 4) = false := by
   rw [List.any_eq_false]; intro t ht; simpa using List.all_eq_true.1 hno t ht
  rw [ha]
  refine wkc (jn @dI.eq_1 (jn @dL.eq_1 (jn @encI_len (jn @hl1 (jn @e0 (jn @hw1 (jn @hl2 (jn @e1 (jn @int_beq (jn @int_bne (jn @a3 (jn @a4 @a5)))))))))))) ?_
  show retQ _ _ _ _ _
  exact ⟨.inr rfl, _, _, rfl, rfl⟩
theorem apply148 (o : Int) (l : List Int) (hM : l.length ≤ MX) : den Tryz.prog Ob.cfg 148 [dI o, dL (encI l)] = some (.tuple [dI (appE o l).1, dI (appE o l).2]) := by
 by_cases hg : arE o = 0
 ·have a1 := group162 o
  have hK : grpE o = 0 := by unfold grpE; rw [if_pos hg]
  have hap : appE o l = (0, 2) := by unfold appE; rw [hK, if_pos rfl]
  rw [hK] at a1
  rw [hap]
  simp only [dI] at a1
  refine den_wp Tryz.func148 rfl (by kernel_rfl) rfl rfl ?_
  refine wkc (jn @dI.eq_1 (jn @dL.eq_1 (jn @a1 @int_beq))) ?_
  show retQ _ _ _ _ _
  exact ⟨.inr rfl, _, _, rfl, rfl⟩
 have hK : grpE o = 1 ∨ grpE o = 2 ∨ grpE o = 3 ∨ grpE o = 4 := by
  unfold grpE; rw [if_neg hg]
  cases booE o <;> cases ariE o <;> cases eqlE o <;> simp
 by_cases hl : (l.length : Int) = arE o
 ·rcases hK with h | h | h | h
  ·exact app_1 o l hl h
  ·exact app_2 o l hl h
  ·exact app_3 o l hl h
  ·exact app_4 o l hl h
 have a1 := group162 o
 have hap : appE o l = (0, 9) := by unfold appE; rw [if_neg (by omega), if_pos hl]
 rw [hap]
 have hl' := eq_false hl
 have hk' := eq_false (show ¬ grpE o = 0 by omega)
 simp only [dI] at a1
 refine den_wp Tryz.func148 rfl (by kernel_rfl) rfl rfl ?_
 refine wkc (jn @dI.eq_1 (jn @dL.eq_1 (jn @a1 (jn @int_beq (jn @int_bne (jn @hk' (jn @hl' @encI_len))))))) ?_
 show retQ _ _ _ _ _
 exact ⟨.inr rfl, _, _, rfl, rfl⟩
end Go.Ac
end
