/- The type of an expression at a place: the reference's. -/
import Derived.Test.YtmjkclonkhempabGreatDoorEmNM
set_option linter.unusedVariables false
set_option linter.unusedSimpArgs false
section
set_option maxRecDepth 4000
namespace Go.Ac
open Go.Proofs
/-- How many arguments a form has. -/
def formN (k o t v : Int) (nm : Tx) : Option Int :=
 if k = 1 then (if nm = [] ∧ o = 0 then some 0 else none)
 else if k = 2 ∨ k = 12 then (if t = 0 ∧ v = 0 ∧ o = 0 then some 0 else none)
 else if k = 3 then (if arE o ≠ 0 ∧ t = 0 ∧ v = 0 ∧ nm = [] then some (arE o) else none)
 else if k = 4 then (if t = 0 ∧ v = 0 ∧ o = 0 ∧ nm = [] then some 3 else none) else none
mutual
def formE : X → Bool
 | .mk k o t v nm args => match formN k o t v nm with
  | none => false
  | some n => decide ((args.length : Int) = n) && formL args
def formL : List X → Bool
 | [] => true
 | x :: r => formE x && formL r
end
theorem formE_eq (x : X) : formE x = match formN x.k x.o x.t x.v x.nm with
  | none => false
  | some n => decide ((x.args.length : Int) = n) && formL x.args := by cases x; rw [formE]; rfl
theorem formL_all : ∀ l : List X, formL l = l.all formE
 | [] => by rw [formL]; rfl
 | x :: r => by rw [formL, formL_all r]; rfl
theorem formE_none {x : X} (h : formN x.k x.o x.t x.v x.nm = none) : formE x = false := by rw [formE_eq, h]
theorem formE_some {x : X} {n : Int} (h : formN x.k x.o x.t x.v x.nm = some n) : formE x = (decide ((x.args.length : Int) = n) && x.args.all formE) := by rw [formE_eq, h, formL_all]
theorem kf101 (r : Nat) : Ob.keep 101 r = Ob.k101 r := by kernel_rfl
attribute [local simp] kf101 Ob.k101
def FormAt (N : Nat) : Prop := ∀ x : X, x.sz < N → x.sz ≤ MX → den Tryz.prog Ob.cfg 101 [aG x.cells] = some (dB (formE x))

set_option maxHeartbeats 2000000 in
theorem form_1 {N : Nat} (ih : FormAt N) (x : X) (hN : x.sz < N + 1) (hM : x.sz ≤ MX) (q : x.k = 1) : den Tryz.prog Ob.cfg 101 [aG x.cells] = some (dB (formE x)) := by
 unfold MX at hM
 have hs0 := X.sz_eq x
 have k1 := len_szX x.args
 refine den_wp Tryz.func101 rfl (by kernel_rfl) rfl rfl ?_
 by_cases c1 : x.nm = []
 case neg =>
  rw [formE_none (by simp [formN, q, c1])]
  have e' := eq_false c1
  refine wkc (jn @aG.eq_1 (jn @X.cells_eq (jn @dL.eq_1 (jn @dB.eq_1 (jn @int_beq (jn @int_bne (jn @tx_beq (jn @tx_bne (jn @encX_len (jn @q @e')))))))))) ?_
  show retQ _ _ _ _ _
  exact ⟨.inr rfl, _, _, rfl, rfl⟩
 by_cases c2 : x.o = 0
 case neg =>
  rw [formE_none (by simp [formN, q, c1, c2])]
  have e' := eq_false c2
  refine wkc (jn @aG.eq_1 (jn @X.cells_eq (jn @dL.eq_1 (jn @dB.eq_1 (jn @int_beq (jn @int_bne (jn @tx_beq (jn @tx_bne (jn @encX_len (jn @q (jn @c1 @e'))))))))))) ?_
  show retQ _ _ _ _ _
  exact ⟨.inr rfl, _, _, rfl, rfl⟩
 have hf := formE_some (x := x) (n := 0) (by simp [formN, q, c1, c2])
 rw [hf]
 by_cases hl : (x.args.length : Int) = 0
 case neg =>
  rw [dFalse hl]
  have e' := eq_false hl
  have e2 := (len0 x.args).symm.trans e'
  refine wkc (jn @aG.eq_1 (jn @X.cells_eq (jn @dL.eq_1 (jn @dB.eq_1 (jn @int_beq (jn @int_bne (jn @tx_beq (jn @tx_bne (jn @encX_len (jn @q (jn @c1 (jn @c2 (jn @len0 (jn @e' @e2)))))))))))))) ?_
  show retQ _ _ _ _ _
  exact ⟨.inr rfl, _, _, rfl, rfl⟩
 rw [dTrue hl]
 have e' := eq_true hl
 have e2 := (len0 x.args).symm.trans e'
 refine wkc (jn @aG.eq_1 (jn @X.cells_eq (jn @dL.eq_1 (jn @dB.eq_1 (jn @int_beq (jn @int_bne (jn @tx_beq (jn @tx_bne (jn @encX_len (jn @q (jn @c1 (jn @c2 (jn @len0 (jn @e' @e2)))))))))))))) ?_
 apply WP.loop' (I := fun D s => ∃ j : Nat, j + D = x.args.length ∧ (x.args.take j).all formE = true ∧ SE [(1, .ptr 0 0 0), (4, dI j)] [(0, ⟨0, false, x.cells.map .d⟩)] 1 s) (d := x.args.length)
 ·exact ⟨0, by simp, by simp, SE.mk (by simp [dI]) (by simp [X.cells_eq, q, c1, c2])⟩
 rintro D _ ⟨j, hj, hno, cc, rfl⟩
 refine wk (jn @dI.eq_1 (jn @dL.eq_1 (jn @X.cells_eq @encX_len))) ?_
 show WP _ _ _ _ _ _
 refine WP.cond _ rfl (fun hb => ?_) (fun hb => ?_)
 ·simp at hb
  have hb' : j < x.args.length := by omega
  obtain ⟨d, hd, hdm, hix⟩ := at_lt hb'
  have hd' := encX_at hd
  have hw := w_succ hb' (by omega)
  have hs := all_snoc (p := formE) hd
  have hr := ih d (by have := mem_szX hdm; omega) (by have := mem_szX hdm; unfold MX; omega)
  simp only [aG, X.cells_eq, List.map_cons, List.map_nil, dB] at hr
  cases hz : formE d with
  | true =>
   rw [hz] at hr hs
   refine wkc (jn @dI.eq_1 (jn @dL.eq_1 (jn @X.cells_eq (jn @encX_len (jn @hix (jn @hd' @hr)))))) ?_
   refine loop_next (by simp [hw]; exact Is.rfl) ?_
   exact ⟨D - 1, by omega, j + 1, by omega, by rw [hs, hno]; rfl, SE.mk (by simp [dI, hw]) (by simp [X.cells_eq])⟩
  | false =>
   rw [hz] at hr
   have ha : x.args.all formE = false := by
    cases hq : x.args.all formE with
    | false => rfl
    | true => have := List.all_eq_true.1 hq d hdm; rw [hz] at this; cases this
   rw [ha]
   refine wkc (jn @dI.eq_1 (jn @dL.eq_1 (jn @X.cells_eq (jn @encX_len (jn @hix (jn @hd' @hr)))))) ?_
   show retQ _ _ _ _ _
   exact ⟨.inr rfl, _, _, rfl, rfl⟩
 ·simp at hb
  have hje : j = x.args.length := by omega
  rw [hje, List.take_length] at hno
  rw [hno]
  refine wkc (jn @dI.eq_1 @dL.eq_1) ?_
  show retQ _ _ _ _ _
  exact ⟨.inr rfl, _, _, rfl, rfl⟩
set_option maxHeartbeats 2000000 in
theorem form_2 {N : Nat} (ih : FormAt N) (x : X) (hN : x.sz < N + 1) (hM : x.sz ≤ MX) (q : x.k = 2) : den Tryz.prog Ob.cfg 101 [aG x.cells] = some (dB (formE x)) := by
 unfold MX at hM
 have hs0 := X.sz_eq x
 have k1 := len_szX x.args
 refine den_wp Tryz.func101 rfl (by kernel_rfl) rfl rfl ?_
 by_cases c1 : x.t = 0
 case neg =>
  rw [formE_none (by simp [formN, q, c1])]
  have e' := eq_false c1
  refine wkc (jn @aG.eq_1 (jn @X.cells_eq (jn @dL.eq_1 (jn @dB.eq_1 (jn @int_beq (jn @int_bne (jn @tx_beq (jn @tx_bne (jn @encX_len (jn @q @e')))))))))) ?_
  show retQ _ _ _ _ _
  exact ⟨.inr rfl, _, _, rfl, rfl⟩
 by_cases c2 : x.v = 0
 case neg =>
  rw [formE_none (by simp [formN, q, c1, c2])]
  have e' := eq_false c2
  refine wkc (jn @aG.eq_1 (jn @X.cells_eq (jn @dL.eq_1 (jn @dB.eq_1 (jn @int_beq (jn @int_bne (jn @tx_beq (jn @tx_bne (jn @encX_len (jn @q (jn @c1 @e'))))))))))) ?_
  show retQ _ _ _ _ _
  exact ⟨.inr rfl, _, _, rfl, rfl⟩
 by_cases c3 : x.o = 0
 case neg =>
  rw [formE_none (by simp [formN, q, c1, c2, c3])]
  have e' := eq_false c3
  refine wkc (jn @aG.eq_1 (jn @X.cells_eq (jn @dL.eq_1 (jn @dB.eq_1 (jn @int_beq (jn @int_bne (jn @tx_beq (jn @tx_bne (jn @encX_len (jn @q (jn @c1 (jn @c2 @e')))))))))))) ?_
  show retQ _ _ _ _ _
  exact ⟨.inr rfl, _, _, rfl, rfl⟩
 have hf := formE_some (x := x) (n := 0) (by simp [formN, q, c1, c2, c3])
 rw [hf]
 by_cases hl : (x.args.length : Int) = 0
 case neg =>
  rw [dFalse hl]
  have e' := eq_false hl
  have e2 := (len0 x.args).symm.trans e'
  refine wkc (jn @aG.eq_1 (jn @X.cells_eq (jn @dL.eq_1 (jn @dB.eq_1 (jn @int_beq (jn @int_bne (jn @tx_beq (jn @tx_bne (jn @encX_len (jn @q (jn @c1 (jn @c2 (jn @c3 (jn @len0 (jn @e' @e2))))))))))))))) ?_
  show retQ _ _ _ _ _
  exact ⟨.inr rfl, _, _, rfl, rfl⟩
 rw [dTrue hl]
 have e' := eq_true hl
 have e2 := (len0 x.args).symm.trans e'
 refine wkc (jn @aG.eq_1 (jn @X.cells_eq (jn @dL.eq_1 (jn @dB.eq_1 (jn @int_beq (jn @int_bne (jn @tx_beq (jn @tx_bne (jn @encX_len (jn @q (jn @c1 (jn @c2 (jn @c3 (jn @len0 (jn @e' @e2))))))))))))))) ?_
 apply WP.loop' (I := fun D s => ∃ j : Nat, j + D = x.args.length ∧ (x.args.take j).all formE = true ∧ SE [(1, .ptr 0 0 0), (4, dI j)] [(0, ⟨0, false, x.cells.map .d⟩)] 1 s) (d := x.args.length)
 ·exact ⟨0, by simp, by simp, SE.mk (by simp [dI]) (by simp [X.cells_eq, q, c1, c2, c3])⟩
 rintro D _ ⟨j, hj, hno, cc, rfl⟩
 refine wk (jn @dI.eq_1 (jn @dL.eq_1 (jn @X.cells_eq @encX_len))) ?_
 show WP _ _ _ _ _ _
 refine WP.cond _ rfl (fun hb => ?_) (fun hb => ?_)
 ·simp at hb
  have hb' : j < x.args.length := by omega
  obtain ⟨d, hd, hdm, hix⟩ := at_lt hb'
  have hd' := encX_at hd
  have hw := w_succ hb' (by omega)
  have hs := all_snoc (p := formE) hd
  have hr := ih d (by have := mem_szX hdm; omega) (by have := mem_szX hdm; unfold MX; omega)
  simp only [aG, X.cells_eq, List.map_cons, List.map_nil, dB] at hr
  cases hz : formE d with
  | true =>
   rw [hz] at hr hs
   refine wkc (jn @dI.eq_1 (jn @dL.eq_1 (jn @X.cells_eq (jn @encX_len (jn @hix (jn @hd' @hr)))))) ?_
   refine loop_next (by simp [hw]; exact Is.rfl) ?_
   exact ⟨D - 1, by omega, j + 1, by omega, by rw [hs, hno]; rfl, SE.mk (by simp [dI, hw]) (by simp [X.cells_eq])⟩
  | false =>
   rw [hz] at hr
   have ha : x.args.all formE = false := by
    cases hq : x.args.all formE with
    | false => rfl
    | true => have := List.all_eq_true.1 hq d hdm; rw [hz] at this; cases this
   rw [ha]
   refine wkc (jn @dI.eq_1 (jn @dL.eq_1 (jn @X.cells_eq (jn @encX_len (jn @hix (jn @hd' @hr)))))) ?_
   show retQ _ _ _ _ _
   exact ⟨.inr rfl, _, _, rfl, rfl⟩
 ·simp at hb
  have hje : j = x.args.length := by omega
  rw [hje, List.take_length] at hno
  rw [hno]
  refine wkc (jn @dI.eq_1 @dL.eq_1) ?_
  show retQ _ _ _ _ _
  exact ⟨.inr rfl, _, _, rfl, rfl⟩
set_option maxHeartbeats 2000000 in
theorem form_12 {N : Nat} (ih : FormAt N) (x : X) (hN : x.sz < N + 1) (hM : x.sz ≤ MX) (q : x.k = 12) : den Tryz.prog Ob.cfg 101 [aG x.cells] = some (dB (formE x)) := by
 unfold MX at hM
 have hs0 := X.sz_eq x
 have k1 := len_szX x.args
 refine den_wp Tryz.func101 rfl (by kernel_rfl) rfl rfl ?_
 by_cases c1 : x.t = 0
 case neg =>
  rw [formE_none (by simp [formN, q, c1])]
  have e' := eq_false c1
  refine wkc (jn @aG.eq_1 (jn @X.cells_eq (jn @dL.eq_1 (jn @dB.eq_1 (jn @int_beq (jn @int_bne (jn @tx_beq (jn @tx_bne (jn @encX_len (jn @q @e')))))))))) ?_
  show retQ _ _ _ _ _
  exact ⟨.inr rfl, _, _, rfl, rfl⟩
 by_cases c2 : x.v = 0
 case neg =>
  rw [formE_none (by simp [formN, q, c1, c2])]
  have e' := eq_false c2
  refine wkc (jn @aG.eq_1 (jn @X.cells_eq (jn @dL.eq_1 (jn @dB.eq_1 (jn @int_beq (jn @int_bne (jn @tx_beq (jn @tx_bne (jn @encX_len (jn @q (jn @c1 @e'))))))))))) ?_
  show retQ _ _ _ _ _
  exact ⟨.inr rfl, _, _, rfl, rfl⟩
 by_cases c3 : x.o = 0
 case neg =>
  rw [formE_none (by simp [formN, q, c1, c2, c3])]
  have e' := eq_false c3
  refine wkc (jn @aG.eq_1 (jn @X.cells_eq (jn @dL.eq_1 (jn @dB.eq_1 (jn @int_beq (jn @int_bne (jn @tx_beq (jn @tx_bne (jn @encX_len (jn @q (jn @c1 (jn @c2 @e')))))))))))) ?_
  show retQ _ _ _ _ _
  exact ⟨.inr rfl, _, _, rfl, rfl⟩
 have hf := formE_some (x := x) (n := 0) (by simp [formN, q, c1, c2, c3])
 rw [hf]
 by_cases hl : (x.args.length : Int) = 0
 case neg =>
  rw [dFalse hl]
  have e' := eq_false hl
  have e2 := (len0 x.args).symm.trans e'
  refine wkc (jn @aG.eq_1 (jn @X.cells_eq (jn @dL.eq_1 (jn @dB.eq_1 (jn @int_beq (jn @int_bne (jn @tx_beq (jn @tx_bne (jn @encX_len (jn @q (jn @c1 (jn @c2 (jn @c3 (jn @len0 (jn @e' @e2))))))))))))))) ?_
  show retQ _ _ _ _ _
  exact ⟨.inr rfl, _, _, rfl, rfl⟩
 rw [dTrue hl]
 have e' := eq_true hl
 have e2 := (len0 x.args).symm.trans e'
 refine wkc (jn @aG.eq_1 (jn @X.cells_eq (jn @dL.eq_1 (jn @dB.eq_1 (jn @int_beq (jn @int_bne (jn @tx_beq (jn @tx_bne (jn @encX_len (jn @q (jn @c1 (jn @c2 (jn @c3 (jn @len0 (jn @e' @e2))))))))))))))) ?_
 apply WP.loop' (I := fun D s => ∃ j : Nat, j + D = x.args.length ∧ (x.args.take j).all formE = true ∧ SE [(1, .ptr 0 0 0), (4, dI j)] [(0, ⟨0, false, x.cells.map .d⟩)] 1 s) (d := x.args.length)
 ·exact ⟨0, by simp, by simp, SE.mk (by simp [dI]) (by simp [X.cells_eq, q, c1, c2, c3])⟩
 rintro D _ ⟨j, hj, hno, cc, rfl⟩
 refine wk (jn @dI.eq_1 (jn @dL.eq_1 (jn @X.cells_eq @encX_len))) ?_
 show WP _ _ _ _ _ _
 refine WP.cond _ rfl (fun hb => ?_) (fun hb => ?_)
 ·simp at hb
  have hb' : j < x.args.length := by omega
  obtain ⟨d, hd, hdm, hix⟩ := at_lt hb'
  have hd' := encX_at hd
  have hw := w_succ hb' (by omega)
  have hs := all_snoc (p := formE) hd
  have hr := ih d (by have := mem_szX hdm; omega) (by have := mem_szX hdm; unfold MX; omega)
  simp only [aG, X.cells_eq, List.map_cons, List.map_nil, dB] at hr
  cases hz : formE d with
  | true =>
   rw [hz] at hr hs
   refine wkc (jn @dI.eq_1 (jn @dL.eq_1 (jn @X.cells_eq (jn @encX_len (jn @hix (jn @hd' @hr)))))) ?_
   refine loop_next (by simp [hw]; exact Is.rfl) ?_
   exact ⟨D - 1, by omega, j + 1, by omega, by rw [hs, hno]; rfl, SE.mk (by simp [dI, hw]) (by simp [X.cells_eq])⟩
  | false =>
   rw [hz] at hr
   have ha : x.args.all formE = false := by
    cases hq : x.args.all formE with
    | false => rfl
    | true => have := List.all_eq_true.1 hq d hdm; rw [hz] at this; cases this
   rw [ha]
   refine wkc (jn @dI.eq_1 (jn @dL.eq_1 (jn @X.cells_eq (jn @encX_len (jn @hix (jn @hd' @hr)))))) ?_
   show retQ _ _ _ _ _
   exact ⟨.inr rfl, _, _, rfl, rfl⟩
 ·simp at hb
  have hje : j = x.args.length := by omega
  rw [hje, List.take_length] at hno
  rw [hno]
  refine wkc (jn @dI.eq_1 @dL.eq_1) ?_
  show retQ _ _ _ _ _
  exact ⟨.inr rfl, _, _, rfl, rfl⟩
set_option maxHeartbeats 2000000 in
theorem form_3 {N : Nat} (ih : FormAt N) (x : X) (hN : x.sz < N + 1) (hM : x.sz ≤ MX) (q : x.k = 3) : den Tryz.prog Ob.cfg 101 [aG x.cells] = some (dB (formE x)) := by
 unfold MX at hM
 have hs0 := X.sz_eq x
 have k1 := len_szX x.args
 have a1 := ar159 x.o
 simp only [dI] at a1
 refine den_wp Tryz.func101 rfl (by kernel_rfl) rfl rfl ?_
 by_cases d1 : arE x.o = 0
 ·rw [formE_none (by simp [formN, q, d1])]
  rw [d1] at a1
  refine wkc (jn @aG.eq_1 (jn @X.cells_eq (jn @dL.eq_1 (jn @dB.eq_1 (jn @int_beq (jn @int_bne (jn @tx_beq (jn @tx_bne (jn @encX_len (jn @q @a1)))))))))) ?_
  show retQ _ _ _ _ _
  exact ⟨.inr rfl, _, _, rfl, rfl⟩
 have c1 := eq_false d1
 by_cases c2 : x.t = 0
 case neg =>
  rw [formE_none (by simp [formN, q, d1, c2])]
  have e' := eq_false c2
  refine wkc (jn @aG.eq_1 (jn @X.cells_eq (jn @dL.eq_1 (jn @dB.eq_1 (jn @int_beq (jn @int_bne (jn @tx_beq (jn @tx_bne (jn @encX_len (jn @q (jn @a1 (jn @c1 @e')))))))))))) ?_
  show retQ _ _ _ _ _
  exact ⟨.inr rfl, _, _, rfl, rfl⟩
 by_cases c3 : x.v = 0
 case neg =>
  rw [formE_none (by simp [formN, q, d1, c2, c3])]
  have e' := eq_false c3
  refine wkc (jn @aG.eq_1 (jn @X.cells_eq (jn @dL.eq_1 (jn @dB.eq_1 (jn @int_beq (jn @int_bne (jn @tx_beq (jn @tx_bne (jn @encX_len (jn @q (jn @a1 (jn @c1 (jn @c2 @e'))))))))))))) ?_
  show retQ _ _ _ _ _
  exact ⟨.inr rfl, _, _, rfl, rfl⟩
 by_cases c4 : x.nm = []
 case neg =>
  rw [formE_none (by simp [formN, q, d1, c2, c3, c4])]
  have e' := eq_false c4
  refine wkc (jn @aG.eq_1 (jn @X.cells_eq (jn @dL.eq_1 (jn @dB.eq_1 (jn @int_beq (jn @int_bne (jn @tx_beq (jn @tx_bne (jn @encX_len (jn @q (jn @a1 (jn @c1 (jn @c2 (jn @c3 @e')))))))))))))) ?_
  show retQ _ _ _ _ _
  exact ⟨.inr rfl, _, _, rfl, rfl⟩
 have hf := formE_some (x := x) (n := arE x.o) (by simp [formN, q, d1, c2, c3, c4])
 rw [hf]
 by_cases hl : (x.args.length : Int) = arE x.o
 case neg =>
  rw [dFalse hl]
  have e' := eq_false hl
  have e2 := e'
  refine wkc (jn @aG.eq_1 (jn @X.cells_eq (jn @dL.eq_1 (jn @dB.eq_1 (jn @int_beq (jn @int_bne (jn @tx_beq (jn @tx_bne (jn @encX_len (jn @q (jn @a1 (jn @c1 (jn @c2 (jn @c3 (jn @c4 (jn @len0 (jn @e' @e2))))))))))))))))) ?_
  show retQ _ _ _ _ _
  exact ⟨.inr rfl, _, _, rfl, rfl⟩
 rw [dTrue hl]
 have e' := eq_true hl
 have e2 := e'
 refine wkc (jn @aG.eq_1 (jn @X.cells_eq (jn @dL.eq_1 (jn @dB.eq_1 (jn @int_beq (jn @int_bne (jn @tx_beq (jn @tx_bne (jn @encX_len (jn @q (jn @a1 (jn @c1 (jn @c2 (jn @c3 (jn @c4 (jn @len0 (jn @e' @e2))))))))))))))))) ?_
 apply WP.loop' (I := fun D s => ∃ j : Nat, j + D = x.args.length ∧ (x.args.take j).all formE = true ∧ SE [(1, .ptr 0 0 0), (4, dI j)] [(0, ⟨0, false, x.cells.map .d⟩)] 1 s) (d := x.args.length)
 ·exact ⟨0, by simp, by simp, SE.mk (by simp [dI]) (by simp [X.cells_eq, q, c2, c3, c4])⟩
 rintro D _ ⟨j, hj, hno, cc, rfl⟩
 refine wk (jn @dI.eq_1 (jn @dL.eq_1 (jn @X.cells_eq @encX_len))) ?_
 show WP _ _ _ _ _ _
 refine WP.cond _ rfl (fun hb => ?_) (fun hb => ?_)
 ·simp at hb
  have hb' : j < x.args.length := by omega
  obtain ⟨d, hd, hdm, hix⟩ := at_lt hb'
  have hd' := encX_at hd
  have hw := w_succ hb' (by omega)
  have hs := all_snoc (p := formE) hd
  have hr := ih d (by have := mem_szX hdm; omega) (by have := mem_szX hdm; unfold MX; omega)
  simp only [aG, X.cells_eq, List.map_cons, List.map_nil, dB] at hr
  cases hz : formE d with
  | true =>
   rw [hz] at hr hs
   refine wkc (jn @dI.eq_1 (jn @dL.eq_1 (jn @X.cells_eq (jn @encX_len (jn @hix (jn @hd' @hr)))))) ?_
   refine loop_next (by simp [hw]; exact Is.rfl) ?_
   exact ⟨D - 1, by omega, j + 1, by omega, by rw [hs, hno]; rfl, SE.mk (by simp [dI, hw]) (by simp [X.cells_eq])⟩
  | false =>
   rw [hz] at hr
   have ha : x.args.all formE = false := by
    cases hq : x.args.all formE with
    | false => rfl
    | true => have := List.all_eq_true.1 hq d hdm; rw [hz] at this; cases this
   rw [ha]
   refine wkc (jn @dI.eq_1 (jn @dL.eq_1 (jn @X.cells_eq (jn @encX_len (jn @hix (jn @hd' @hr)))))) ?_
   show retQ _ _ _ _ _
   exact ⟨.inr rfl, _, _, rfl, rfl⟩
 ·simp at hb
  have hje : j = x.args.length := by omega
  rw [hje, List.take_length] at hno
  rw [hno]
  refine wkc (jn @dI.eq_1 @dL.eq_1) ?_
  show retQ _ _ _ _ _
  exact ⟨.inr rfl, _, _, rfl, rfl⟩
set_option maxHeartbeats 2000000 in
theorem form_4 {N : Nat} (ih : FormAt N) (x : X) (hN : x.sz < N + 1) (hM : x.sz ≤ MX) (q : x.k = 4) : den Tryz.prog Ob.cfg 101 [aG x.cells] = some (dB (formE x)) := by
 unfold MX at hM
 have hs0 := X.sz_eq x
 have k1 := len_szX x.args
 refine den_wp Tryz.func101 rfl (by kernel_rfl) rfl rfl ?_
 by_cases c1 : x.t = 0
 case neg =>
  rw [formE_none (by simp [formN, q, c1])]
  have e' := eq_false c1
  refine wkc (jn @aG.eq_1 (jn @X.cells_eq (jn @dL.eq_1 (jn @dB.eq_1 (jn @int_beq (jn @int_bne (jn @tx_beq (jn @tx_bne (jn @encX_len (jn @q @e')))))))))) ?_
  show retQ _ _ _ _ _
  exact ⟨.inr rfl, _, _, rfl, rfl⟩
 by_cases c2 : x.v = 0
 case neg =>
  rw [formE_none (by simp [formN, q, c1, c2])]
  have e' := eq_false c2
  refine wkc (jn @aG.eq_1 (jn @X.cells_eq (jn @dL.eq_1 (jn @dB.eq_1 (jn @int_beq (jn @int_bne (jn @tx_beq (jn @tx_bne (jn @encX_len (jn @q (jn @c1 @e'))))))))))) ?_
  show retQ _ _ _ _ _
  exact ⟨.inr rfl, _, _, rfl, rfl⟩
 by_cases c3 : x.o = 0
 case neg =>
  rw [formE_none (by simp [formN, q, c1, c2, c3])]
  have e' := eq_false c3
  refine wkc (jn @aG.eq_1 (jn @X.cells_eq (jn @dL.eq_1 (jn @dB.eq_1 (jn @int_beq (jn @int_bne (jn @tx_beq (jn @tx_bne (jn @encX_len (jn @q (jn @c1 (jn @c2 @e')))))))))))) ?_
  show retQ _ _ _ _ _
  exact ⟨.inr rfl, _, _, rfl, rfl⟩
 by_cases c4 : x.nm = []
 case neg =>
  rw [formE_none (by simp [formN, q, c1, c2, c3, c4])]
  have e' := eq_false c4
  refine wkc (jn @aG.eq_1 (jn @X.cells_eq (jn @dL.eq_1 (jn @dB.eq_1 (jn @int_beq (jn @int_bne (jn @tx_beq (jn @tx_bne (jn @encX_len (jn @q (jn @c1 (jn @c2 (jn @c3 @e'))))))))))))) ?_
  show retQ _ _ _ _ _
  exact ⟨.inr rfl, _, _, rfl, rfl⟩
 have hf := formE_some (x := x) (n := 3) (by simp [formN, q, c1, c2, c3, c4])
 rw [hf]
 by_cases hl : (x.args.length : Int) = 3
 case neg =>
  rw [dFalse hl]
  have e' := eq_false hl
  have e2 := e'
  refine wkc (jn @aG.eq_1 (jn @X.cells_eq (jn @dL.eq_1 (jn @dB.eq_1 (jn @int_beq (jn @int_bne (jn @tx_beq (jn @tx_bne (jn @encX_len (jn @q (jn @c1 (jn @c2 (jn @c3 (jn @c4 (jn @len0 (jn @e' @e2)))))))))))))))) ?_
  show retQ _ _ _ _ _
  exact ⟨.inr rfl, _, _, rfl, rfl⟩
 rw [dTrue hl]
 have e' := eq_true hl
 have e2 := e'
 refine wkc (jn @aG.eq_1 (jn @X.cells_eq (jn @dL.eq_1 (jn @dB.eq_1 (jn @int_beq (jn @int_bne (jn @tx_beq (jn @tx_bne (jn @encX_len (jn @q (jn @c1 (jn @c2 (jn @c3 (jn @c4 (jn @len0 (jn @e' @e2)))))))))))))))) ?_
 apply WP.loop' (I := fun D s => ∃ j : Nat, j + D = x.args.length ∧ (x.args.take j).all formE = true ∧ SE [(1, .ptr 0 0 0), (4, dI j)] [(0, ⟨0, false, x.cells.map .d⟩)] 1 s) (d := x.args.length)
 ·exact ⟨0, by simp, by simp, SE.mk (by simp [dI]) (by simp [X.cells_eq, q, c1, c2, c3, c4])⟩
 rintro D _ ⟨j, hj, hno, cc, rfl⟩
 refine wk (jn @dI.eq_1 (jn @dL.eq_1 (jn @X.cells_eq @encX_len))) ?_
 show WP _ _ _ _ _ _
 refine WP.cond _ rfl (fun hb => ?_) (fun hb => ?_)
 ·simp at hb
  have hb' : j < x.args.length := by omega
  obtain ⟨d, hd, hdm, hix⟩ := at_lt hb'
  have hd' := encX_at hd
  have hw := w_succ hb' (by omega)
  have hs := all_snoc (p := formE) hd
  have hr := ih d (by have := mem_szX hdm; omega) (by have := mem_szX hdm; unfold MX; omega)
  simp only [aG, X.cells_eq, List.map_cons, List.map_nil, dB] at hr
  cases hz : formE d with
  | true =>
   rw [hz] at hr hs
   refine wkc (jn @dI.eq_1 (jn @dL.eq_1 (jn @X.cells_eq (jn @encX_len (jn @hix (jn @hd' @hr)))))) ?_
   refine loop_next (by simp [hw]; exact Is.rfl) ?_
   exact ⟨D - 1, by omega, j + 1, by omega, by rw [hs, hno]; rfl, SE.mk (by simp [dI, hw]) (by simp [X.cells_eq])⟩
  | false =>
   rw [hz] at hr
   have ha : x.args.all formE = false := by
    cases hq : x.args.all formE with
    | false => rfl
    | true => have := List.all_eq_true.1 hq d hdm; rw [hz] at this; cases this
   rw [ha]
   refine wkc (jn @dI.eq_1 (jn @dL.eq_1 (jn @X.cells_eq (jn @encX_len (jn @hix (jn @hd' @hr)))))) ?_
   show retQ _ _ _ _ _
   exact ⟨.inr rfl, _, _, rfl, rfl⟩
 ·simp at hb
  have hje : j = x.args.length := by omega
  rw [hje, List.take_length] at hno
  rw [hno]
  refine wkc (jn @dI.eq_1 @dL.eq_1) ?_
  show retQ _ _ _ _ _
  exact ⟨.inr rfl, _, _, rfl, rfl⟩
set_option maxHeartbeats 1000000 in
theorem form143 : ∀ N, FormAt N := by
 intro N
 induction N with
 | zero => intro x h; omega
 | succ N ih =>
 intro x hN hM
 by_cases q1 : x.k = 1
 ·exact form_1 ih x hN hM q1
 by_cases q2 : x.k = 2
 ·exact form_2 ih x hN hM q2
 by_cases q3 : x.k = 12
 ·exact form_12 ih x hN hM q3
 by_cases q4 : x.k = 3
 ·exact form_3 ih x hN hM q4
 by_cases q5 : x.k = 4
 ·exact form_4 ih x hN hM q5
 rw [formE_none (by simp [formN, q1, q2, q3, q4, q5])]
 refine den_wp Tryz.func101 rfl (by kernel_rfl) rfl rfl ?_
 refine wkc (jn @aG.eq_1 (jn @X.cells_eq (jn @dL.eq_1 (jn @dB.eq_1 (jn @int_beq (jn @q1 (jn @q2 (jn @q3 (jn @q4 @q5))))))))) ?_
 show retQ _ _ _ _ _
 exact ⟨.inr rfl, _, _, rfl, rfl⟩
end Go.Ac
end

section
set_option maxRecDepth 4000
namespace Go.Ac
open Go.Proofs
def readyW (w : Pl) (nm : Tx) : Bool := decide (findD w.c.inn nm ≠ 0) || asL nm true w.cx w.bf
def kindO (w : Pl) (k o t v : Int) (nm : Tx) (l : List Int) : Int × Int :=
 if k = 1 then (if hasE w.o.en t v then (t, 0) else (0, 10))
 else if k = 2 then (if getT w.c nm = 0 then (0, 6) else if readyW w nm then (getT w.c nm, 0) else (0, 22))
 else if k = 12 then (if findM w.c.mems nm = 0 then (0, 6) else (findM w.c.mems nm, 0))
 else if k = 3 then resE o l
 else if l.getD 0 0 ≠ 1 ∨ l.getD 1 0 ≠ l.getD 2 0 then (0, 10) else (l.getD 1 0, 0)
mutual
/-- The type of an expression, or its first error. -/
def kindW (w : Pl) : X → Int × Int
 | .mk k o t v nm args => if (kindsW w args).2 ≠ 0 then (0, (kindsW w args).2) else kindO w k o t v nm (kindsW w args).1
def kindsW (w : Pl) : List X → List Int × Int
 | [] => ([], 0)
 | x :: r => if (kindW w x).2 ≠ 0 then ([], (kindW w x).2) else if (kindsW w r).2 ≠ 0 then ([], (kindsW w r).2) else ((kindW w x).1 :: (kindsW w r).1, 0)
end
theorem kindW_eq (w : Pl) (x : X) : kindW w x = if (kindsW w x.args).2 ≠ 0 then (0, (kindsW w x.args).2) else kindO w x.k x.o x.t x.v x.nm (kindsW w x.args).1 := by cases x; rw [kindW]; rfl
def okK (w : Pl) (x : X) : Bool := decide ((kindW w x).2 = 0)
theorem kindsW_bad (w : Pl) : ∀ {l : List X} {j : Nat} {d : X}, (l.take j).all (okK w) = true → l[j]? = some d → (kindW w d).2 ≠ 0 → kindsW w l = ([], (kindW w d).2)
 | [], j, d, _, h, _ => by simp at h
 | x :: r, 0, d, _, h, hb => by simp at h; subst h; rw [kindsW, if_pos hb]
 | x :: r, j + 1, d, hn, h, hb => by
  simp only [List.take_succ_cons, List.all_cons, Bool.and_eq_true] at hn
  have h1 : (kindW w x).2 = 0 := by simpa [okK] using hn.1
  have h2 := kindsW_bad w hn.2 (by simpa using h) hb
  rw [kindsW, if_neg (by simp [h1]), h2, if_pos hb]
theorem kindsW_ok (w : Pl) : ∀ {l : List X}, l.all (okK w) = true → kindsW w l = (l.map (fun x => (kindW w x).1), 0)
 | [], _ => by rw [kindsW]; rfl
 | x :: r, hn => by
  simp only [List.all_cons, Bool.and_eq_true] at hn
  have h1 : (kindW w x).2 = 0 := by simpa [okK] using hn.1
  rw [kindsW, if_neg (by simp [h1]), kindsW_ok w hn.2, if_neg (by simp)]; rfl
/-- A place of which the lists are not too long. -/
structure WOK (w : Pl) : Prop where
 inn : w.c.inn.length ≤ MX
 out : w.c.out.length ≤ MX
 loc : w.c.loc.length ≤ MX
 mems : w.c.mems.length ≤ MX
 ins : w.c.ins.length ≤ MX
 cl : w.o.cl.length ≤ MX
 bf : w.cx.length + szY w.bf ≤ 8388608
theorem X.ok_eq {x : X} (h : x.ok) : I64 x.t ∧ okX x.args := by cases x; rw [X.ok] at h; exact ⟨h.2.2.1, h.2.2.2.2⟩
theorem formE_k {x : X} (h : formE x = true) : x.k = 1 ∨ x.k = 2 ∨ x.k = 12 ∨ x.k = 3 ∨ x.k = 4 := by
 rw [formE_eq] at h
 unfold formN at h
 by_cases q1 : x.k = 1; · exact .inl q1
 by_cases q2 : x.k = 2; · exact .inr (.inl q2)
 by_cases q3 : x.k = 12; · exact .inr (.inr (.inl q3))
 by_cases q4 : x.k = 3; · exact .inr (.inr (.inr (.inl q4)))
 by_cases q5 : x.k = 4; · exact .inr (.inr (.inr (.inr q5)))
 simp [q1, q2, q3, q4, q5] at h
theorem formE_l {x : X} (h : formE x = true) : x.args.all formE = true ∧ (x.k = 4 → x.args.length = 3) ∧ x.args.length ≤ 3 := by
 rw [formE_eq] at h
 split at h
 ·cases h
 rename_i n hn
 rw [Bool.and_eq_true, formL_all] at h
 have hl := of_decide_eq_true h.1
 have hr := arE_le x.o
 refine ⟨h.2, fun hk => ?_, ?_⟩
 ·unfold formN at hn
  rw [hk] at hn
  simp at hn
  obtain ⟨_, hn⟩ := hn
  omega
 ·unfold formN at hn
  split at hn
  ·split at hn <;> simp at hn; omega
  split at hn
  ·split at hn <;> simp at hn; omega
  split at hn
  ·split at hn <;> simp at hn; omega
  split at hn
  ·split at hn <;> simp at hn; omega
  ·cases hn
theorem encI_row (l : List Int) : ∀ r ∈ encI l, r.length = 1 := by unfold encI; intro r hr; obtain ⟨x, _, rfl⟩ := List.mem_map.1 hr; rfl
theorem encI_snoc (l : List Int) (v : Int) : encI l ++ [[.int .i64 v]] = encI (l ++ [v]) := by unfold encI; simp
theorem kf105 (r : Nat) : Ob.keep 105 r = Ob.k105 r := by kernel_rfl
theorem kf102 (r : Nat) : Ob.keep 102 r = Ob.k102 r := by kernel_rfl
attribute [local simp] kf105 Ob.k105 kf102 Ob.k102
set_option maxHeartbeats 1000000 in
theorem ready147 (w : Pl) (x : Tx) (hw : WOK w) : den Tryz.prog Ob.cfg 105 [aG w.cells, dS x] = some (dB (readyW w x)) := by
 have a1 := find161 w.c.inn x hw.inn
 have a2 := some33 x true _ w.bf w.cx (Nat.lt_succ_self _) hw.bf
 simp only [dL, dS, dI, dB] at a1 a2
 refine den_wp Tryz.func105 rfl (by kernel_rfl) rfl rfl ?_
 unfold readyW
 by_cases h : findD w.c.inn x = 0
 ·rw [h] at a1 ⊢
  refine wkc (jn @aG.eq_1 (jn @Pl.cells.eq_1 (jn @dL.eq_1 (jn @dS.eq_1 (jn @a1 @a2))))) ?_
  show retQ _ _ _ _ _
  exact ⟨.inr rfl, _, _, rfl, rfl⟩
 ·rw [dTrue h]
  refine wkc (jn @aG.eq_1 (jn @Pl.cells.eq_1 (jn @dL.eq_1 (jn @dS.eq_1 (jn @a1 (jn @a2 (jn @int_bne @h))))))) ?_
  show retQ _ _ _ _ _
  exact ⟨.inr rfl, _, _, rfl, rfl⟩

set_option maxHeartbeats 4000000 in
theorem kind144 (w : Pl) (hw : WOK w) : ∀ (N : Nat) (x : X), x.sz < N → formE x = true → x.ok → den Tryz.prog Ob.cfg 102 [aG w.cells, aG x.cells] = some (.tuple [dI (kindW w x).1, dI (kindW w x).2]) := by
 intro N
 induction N with
 | zero => intro x h; omega
 | succ N ih =>
 intro x hN hf hok
 obtain ⟨hf1, hf2, hf3⟩ := formE_l hf
 obtain ⟨hx1, hx2⟩ := X.ok_eq hok
 have hs0 := X.sz_eq x
 refine den_wp Tryz.func102 rfl (by kernel_rfl) rfl rfl ?_
 rw [kindW_eq]
 refine wkc (jn @aG.eq_1 (jn @Pl.cells.eq_1 (jn @X.cells_eq @dL.eq_1))) ?_
 apply WP.loop' (I := fun D s => ∃ j g : Nat, j + D = x.args.length ∧ (x.args.take j).all (okK w) = true ∧ ∃ (c' : Nat) (L : List Int), L = (x.args.take j).map (fun y => (kindW w y).1) ∧ s = ⟨[(2, .ptr 0 0 0), (3, .ptr 1 1 0), (6, .osl 2 g 0 j 1 none), (7, dI j)], [(0, ⟨0, false, w.cells.map .d⟩), (1, ⟨1, false, x.cells.map .d⟩), (2, ⟨g, false, fl (encI L)⟩)], 3, c', 0, []⟩) (d := x.args.length)
 ·exact ⟨0, 2, by simp, by simp, 3, [], by simp, by simp [Pl.cells, X.cells_eq]; exact ⟨rfl, rfl⟩⟩
 rintro D _ ⟨j, g, hj, hno, c', L, hL, rfl⟩
 refine wk (jn @dI.eq_1 (jn @dL.eq_1 (jn @Pl.cells.eq_1 (jn @X.cells_eq @encX_len)))) ?_
 show WP _ _ _ _ _ _
 refine WP.cond _ rfl (fun hb => ?_) (fun hb => ?_)
 ·simp at hb
  have hb' : j < x.args.length := by omega
  obtain ⟨d, hd, hdm, hix⟩ := at_lt hb'
  have hd' := encX_at hd
  have hwj := w_succ hb' (by omega)
  have hs := all_snoc (p := okK w) hd
  have hr := ih d (by have := mem_szX hdm; omega) (List.all_eq_true.1 hf1 d hdm) ((okX_iff _).1 hx2 d hdm)
  simp only [aG, Pl.cells, X.cells_eq, List.map_cons, List.map_nil, dI] at hr
  by_cases hz : (kindW w d).2 = 0
  ·rw [hz] at hr
   have hsn := take_snoc hd
   have hLl : L.length = j := by rw [hL]; simp; omega
   have hLs : (x.args.take (j + 1)).map (fun y => (kindW w y).1) = L ++ [(kindW w d).1] := by rw [hsn, hL]; simp
   have r2 := fl_len (encI_row L)
   have r3 := fl_take (encI_row L)
   have r4 := fl_snoc (encI L) [.int .i64 (kindW w d).1]
   have r5 := encI_snoc L (kindW w d).1
   have f5 : fitsB (j + 1) 8 = true := by simp [fitsB]; omega
   rw [r5] at r4
   rw [encI_len, hLl, Nat.mul_one] at r2 r3
   simp only [List.map_cons, List.map_nil] at r4
   refine wkc (jn @dI.eq_1 (jn @dL.eq_1 (jn @Pl.cells.eq_1 (jn @X.cells_eq (jn @encX_len (jn @hix (jn @hd' (jn @hr (jn @fillV.eq_1 (jn @fillV.eq_2 (jn @toD_dep (jn @nble_d (jn @f5 (jn @r2 (jn @r3 @r4))))))))))))))) ?_
   refine loop_next (by simp [hwj]; exact Is.rfl) ?_
   exact ⟨D - 1, by omega, j + 1, _, by omega, by rw [hs, hno]; simp [okK, hz], _, _, hLs.symm, by simp [Pl.cells, X.cells_eq, hwj]; exact ⟨⟨rfl, rfl⟩, rfl, rfl⟩⟩
  ·have hz' := eq_false hz
   rw [kindsW_bad w hno hd hz, if_pos hz]
   refine wkc (jn @dI.eq_1 (jn @dL.eq_1 (jn @Pl.cells.eq_1 (jn @X.cells_eq (jn @encX_len (jn @hix (jn @hd' (jn @hr (jn @hz' @int_bne))))))))) ?_
   exact ⟨.inr rfl, _, _, rfl, rfl⟩
 ·simp at hb
  have hje : j = x.args.length := by omega
  rw [hje, List.take_length] at hno
  have hks := kindsW_ok w hno
  rw [hks, if_neg (by simp)]
  have hx : (x.args.take x.args.length).map (fun y => (kindW w y).1) = x.args.map (fun y => (kindW w y).1) := by rw [List.take_length]
  rw [hje, hx] at hL
  rw [← hL]
  have hLl : L.length = x.args.length := by rw [hL]; simp
  subst hje
  clear hL hx
  rcases formE_k hf with q | q | q | q | q
  ·have hh := has53 w.o.en x.t x.v hx1
   simp only [dL, dI, dB] at hh
   cases hz : hasE w.o.en x.t x.v with
   | true =>
    rw [hz] at hh
    simp only [kindO, q, hz]
    refine wkc (jn @dI.eq_1 (jn @dL.eq_1 (jn @Pl.cells.eq_1 (jn @X.cells_eq (jn @q @hh))))) ?_
    exact ⟨.inr rfl, _, _, rfl, rfl⟩
   | false =>
    rw [hz] at hh
    simp only [kindO, q, hz]
    refine wkc (jn @dI.eq_1 (jn @dL.eq_1 (jn @Pl.cells.eq_1 (jn @X.cells_eq (jn @q @hh))))) ?_
    exact ⟨.inr rfl, _, _, rfl, rfl⟩
  ·have hg := get146 w x.nm hw.out hw.loc hw.inn
   have hr := ready147 w x.nm hw
   simp only [aG, Pl.cells, List.map_cons, List.map_nil, dS, dI, dB] at hg hr
   by_cases hz : getT w.c x.nm = 0
   ·rw [hz] at hg
    simp only [kindO, q, hz]
    refine wkc (jn @dI.eq_1 (jn @dL.eq_1 (jn @Pl.cells.eq_1 (jn @X.cells_eq (jn @q @hg))))) ?_
    exact ⟨.inr rfl, _, _, rfl, rfl⟩
   have hz' := eq_false hz
   cases hy : readyW w x.nm with
   | true =>
    rw [hy] at hr
    simp only [kindO, q, hz', hy]
    refine wkc (jn @dI.eq_1 (jn @dL.eq_1 (jn @Pl.cells.eq_1 (jn @X.cells_eq (jn @q (jn @hg (jn @hr (jn @hz' @int_beq)))))))) ?_
    exact ⟨.inr rfl, _, _, rfl, rfl⟩
   | false =>
    rw [hy] at hr
    simp only [kindO, q, hz', hy]
    refine wkc (jn @dI.eq_1 (jn @dL.eq_1 (jn @Pl.cells.eq_1 (jn @X.cells_eq (jn @q (jn @hg (jn @hr (jn @hz' @int_beq)))))))) ?_
    exact ⟨.inr rfl, _, _, rfl, rfl⟩
  ·have hg := mem117 w x.nm hw.mems
   simp only [aG, Pl.cells, List.map_cons, List.map_nil, dS, dI, dB] at hg
   by_cases hz : findM w.c.mems x.nm = 0
   ·rw [hz] at hg
    simp only [kindO, q, hz]
    refine wkc (jn @dI.eq_1 (jn @dL.eq_1 (jn @Pl.cells.eq_1 (jn @X.cells_eq (jn @q @hg))))) ?_
    exact ⟨.inr rfl, _, _, rfl, rfl⟩
   have hz' := eq_false hz
   simp only [kindO, q, hz']
   refine wkc (jn @dI.eq_1 (jn @dL.eq_1 (jn @Pl.cells.eq_1 (jn @X.cells_eq (jn @q (jn @hg (jn @hz' @int_beq))))))) ?_
   exact ⟨.inr rfl, _, _, rfl, rfl⟩
  ·have hg := res160 x.o L
   have r2 := fl_len (encI_row L)
   have r3 := fl_take (encI_row L)
   have r4 := chunk_flat (encI_row L)
   rw [encI_len, Nat.mul_one] at r2 r3
   rw [encI_len] at r4
   rw [hLl] at r2 r3 r4
   simp only [dL, dI] at hg
   simp only [kindO, q]
   refine wkc (jn @dI.eq_1 (jn @dL.eq_1 (jn @Pl.cells.eq_1 (jn @X.cells_eq (jn @q (jn @hg (jn @closeParts.eq_1 (jn @closeParts.eq_2 (jn @toD_dep (jn @toD_d (jn @toDs_fl (jn @r2 (jn @r3 (jn @r4 @nble_d)))))))))))))) ?_
   exact ⟨.inr rfl, _, _, rfl, rfl⟩
  ·rw [hf2 q] at hLl ⊢
   obtain ⟨a, b, c, rfl⟩ : ∃ a b c, L = [a, b, c] := by
    match L, hLl with
    | [a, b, c], _ => exact ⟨a, b, c, rfl⟩
   have e : fl (encI [a, b, c]) = [.d (.int .i64 a), .d (.int .i64 b), .d (.int .i64 c)] := rfl
   rw [e]
   by_cases c1 : a = 1
   case neg =>
    have c1' := eq_false c1
    simp only [kindO, q]
    rw [show (if ([a, b, c].getD 0 0 ≠ 1 ∨ [a, b, c].getD 1 0 ≠ [a, b, c].getD 2 0) then ((0 : Int), (10 : Int)) else ([a, b, c].getD 1 0, 0)) = (0, 10) by simp [c1]]
    refine wkc (jn @dI.eq_1 (jn @dL.eq_1 (jn @Pl.cells.eq_1 (jn @X.cells_eq (jn @q (jn @c1' (jn @int_bne @idx.eq_def))))))) ?_
    exact ⟨.inr rfl, _, _, rfl, rfl⟩
   by_cases c2 : b = c
   case neg =>
    have c2' := eq_false c2
    simp only [kindO, q]
    rw [show (if ([a, b, c].getD 0 0 ≠ 1 ∨ [a, b, c].getD 1 0 ≠ [a, b, c].getD 2 0) then ((0 : Int), (10 : Int)) else ([a, b, c].getD 1 0, 0)) = (0, 10) by simp [c2]]
    refine wkc (jn @dI.eq_1 (jn @dL.eq_1 (jn @Pl.cells.eq_1 (jn @X.cells_eq (jn @q (jn @c1 (jn @c2' (jn @int_bne @idx.eq_def)))))))) ?_
    exact ⟨.inr rfl, _, _, rfl, rfl⟩
   simp only [kindO, q]
   rw [show (if ([a, b, c].getD 0 0 ≠ 1 ∨ [a, b, c].getD 1 0 ≠ [a, b, c].getD 2 0) then ((0 : Int), (10 : Int)) else ([a, b, c].getD 1 0, 0)) = (b, 0) by simp [c1, c2]]
   subst c1 c2
   refine wkc (jn @dI.eq_1 (jn @dL.eq_1 (jn @Pl.cells.eq_1 (jn @X.cells_eq (jn @q (jn @int_bne @idx.eq_def)))))) ?_
   exact ⟨.inr rfl, _, _, rfl, rfl⟩
end Go.Ac
end
