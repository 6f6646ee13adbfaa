/- Forms of expressions: the reference's. -/
import Derived.Test.YtkgekafdhehleaaGreatAcA
import Derived.Test.YtkgekafdhehleaaGreatAcB
import Derived.Test.YtkgekafdhehleaaGreatAcDM
import Derived.Test.YtkgekafdhehleaaGreatAcGM
import Derived.Test.YtkgekafdhehleaaGreatAcJM
import Derived.Test.YtkgekafdhehleaaGreatAcNM
import Derived.Test.YtkgekafdhehleaaGreatAcQM
import Derived.Test.YtkgekafdhehleaaGreatAcUM
import Derived.Test.YtkgekafdhehleaaGreatAcUcM
import Derived.Test.YtkgekafdhehleaaGreatObHn
import Derived.Test.YtkgekafdhehleaaGreatObCM
import Derived.Test.YtkgekafdhehleaaGreatObD
import Derived.Test.YtkgekafdhehleaaGreatObE
import Derived.Test.YtkgekafdhehleaaGreatObRM
import Derived.Test.YtkgekafdhehleaaGreatObMM
import Derived.Calls
import Derived.Orders
import Derived.Laws.World
import Derived.Laws.Sem
import Derived.Laws.Cells
import Derived.Laws.Append
import GoSem.ClaimData
import Derived.Laws.Tables
import Derived.Laws.Slices
import Derived.Laws.Strings
import Derived.Laws.Small
import Derived.KernelRfl
import Derived.Test.YtkgekafdhehleaaGreatChecked
import Derived.Test.YtkgekafdhehleaaGreatRows
import Derived.Deep.Slices
import Derived.ChangeArms
import Derived.RowKit3
import Derived.ReadAgain
import Derived.ChangeStays
set_option linter.unusedVariables false
set_option linter.unusedSimpArgs false
section
set_option maxRecDepth 4000
set_option linter.unusedSimpArgs false
set_option linter.unusedVariables false
namespace Go.Ac
open Go.Proofs

def zeroE (x : X) : Bool := decide (x.k = 0) && decide (x.o = 0) && decide (x.t = 0) && decide (x.v = 0) && decide (x.nm = []) && decide (x.args = [])
theorem len0 {α : Type} (l : List α) : ((l.length : Int) = 0) = (l = []) := by cases l <;> simp; omega
theorem dFalse {p : Prop} [Decidable p] (h : ¬ p) : decide p = false := decide_eq_false h
theorem dTrue {p : Prop} [Decidable p] (h : p) : decide p = true := decide_eq_true h
theorem kf142 (r : Nat) : Ob.keep 142 r = Ob.k142 r := by kernel_rfl
theorem kf160 (r : Nat) : Ob.keep 160 r = Ob.k160 r := by kernel_rfl
theorem kf167 (r : Nat) : Ob.keep 167 r = Ob.k167 r := by kernel_rfl
theorem kf168 (r : Nat) : Ob.keep 168 r = Ob.k168 r := by kernel_rfl
theorem kf176 (r : Nat) : Ob.keep 176 r = Ob.k176 r := by kernel_rfl
attribute [local simp] kf142 Ob.k142 kf160 Ob.k160 kf167 Ob.k167 kf168 Ob.k168 kf176 Ob.k176
set_option maxHeartbeats 1000000 in
theorem zero142 (x : X) : den Tryz.prog Ob.cfg 142 [aG x.cells] = some (dB (zeroE x)) := by
  refine den_wp Tryz.func142 rfl (by kernel_rfl) rfl rfl ?_
  unfold zeroE
  rw [X.cells_eq]
  by_cases c0 : x.k = 0
  case neg =>
    have c' := eq_false c0
    rw [dFalse c0]
    refine wkc (And.intro @aG.eq_1 (And.intro @int_beq (And.intro @tx_beq (And.intro @len0 @c')))) ?_
    exact ⟨.inr rfl, _, _, rfl, by simp; rfl⟩
  by_cases c1 : x.o = 0
  case neg =>
    have c' := eq_false c1
    rw [dFalse c1]
    refine wkc (And.intro @aG.eq_1 (And.intro @int_beq (And.intro @tx_beq (And.intro @len0 (And.intro @c0 @c'))))) ?_
    exact ⟨.inr rfl, _, _, rfl, by simp; rfl⟩
  by_cases c2 : x.t = 0
  case neg =>
    have c' := eq_false c2
    rw [dFalse c2]
    refine wkc (And.intro @aG.eq_1 (And.intro @int_beq (And.intro @tx_beq (And.intro @len0 (And.intro @c0 (And.intro @c1 @c')))))) ?_
    exact ⟨.inr rfl, _, _, rfl, by simp; rfl⟩
  by_cases c3 : x.v = 0
  case neg =>
    have c' := eq_false c3
    rw [dFalse c3]
    refine wkc (And.intro @aG.eq_1 (And.intro @int_beq (And.intro @tx_beq (And.intro @len0 (And.intro @c0 (And.intro @c1 (And.intro @c2 @c'))))))) ?_
    exact ⟨.inr rfl, _, _, rfl, by simp; rfl⟩
  by_cases c4 : x.nm = []
  case neg =>
    have c' := eq_false c4
    rw [dFalse c4]
    refine wkc (And.intro @aG.eq_1 (And.intro @int_beq (And.intro @tx_beq (And.intro @len0 (And.intro @c0 (And.intro @c1 (And.intro @c2 (And.intro @c3 @c')))))))) ?_
    exact ⟨.inr rfl, _, _, rfl, by simp; rfl⟩
  by_cases c5 : x.args = []
  case neg =>
    have c' := eq_false c5
    rw [dFalse c5]
    refine wkc (And.intro @aG.eq_1 (And.intro @int_beq (And.intro @tx_beq (And.intro @len0 (And.intro @c0 (And.intro @c1 (And.intro @c2 (And.intro @c3 (And.intro @c4 @c'))))))))) ?_
    exact ⟨.inr rfl, _, _, rfl, by simp; rfl⟩
  refine wkc (And.intro @aG.eq_1 (And.intro @int_beq (And.intro @tx_beq (And.intro @len0 (And.intro @c0 (And.intro @c1 (And.intro @c2 (And.intro @c3 (And.intro @c4 @c5))))))))) ?_
  exact ⟨.inr rfl, _, _, rfl, by simp [c0, c1, c2, c3, c4, c5]; rfl⟩

def booE (o : Int) : Bool := decide (o = 1 ∨ o = 3 ∨ o = 4 ∨ o = 5)
theorem boo167 (o : Int) : den Tryz.prog Ob.cfg 167 [dI o] = some (dB (booE o)) := by
  refine den_wp Tryz.func167 rfl (by kernel_rfl) rfl rfl ?_
  unfold booE
  by_cases c0 : o = 1
  · rw [dTrue (by simp [c0])]
    refine wkc (And.intro @dI.eq_1 (And.intro @int_beq @c0)) ?_
    show retQ _ _ _ _ _
    exact ⟨.inr rfl, _, _, rfl, rfl⟩
  by_cases c1 : o = 3
  · rw [dTrue (by simp [c1])]
    refine wkc (And.intro @dI.eq_1 (And.intro @int_beq (And.intro @c0 @c1))) ?_
    show retQ _ _ _ _ _
    exact ⟨.inr rfl, _, _, rfl, rfl⟩
  by_cases c2 : o = 4
  · rw [dTrue (by simp [c2])]
    refine wkc (And.intro @dI.eq_1 (And.intro @int_beq (And.intro @c0 (And.intro @c1 @c2)))) ?_
    show retQ _ _ _ _ _
    exact ⟨.inr rfl, _, _, rfl, rfl⟩
  by_cases c3 : o = 5
  · rw [dTrue (by simp [c3])]
    refine wkc (And.intro @dI.eq_1 (And.intro @int_beq (And.intro @c0 (And.intro @c1 (And.intro @c2 @c3))))) ?_
    show retQ _ _ _ _ _
    exact ⟨.inr rfl, _, _, rfl, rfl⟩
  rw [dFalse (by simp [c0, c1, c2, c3])]
  refine wkc (And.intro @dI.eq_1 (And.intro @int_beq (And.intro @c0 (And.intro @c1 (And.intro @c2 @c3))))) ?_
  show retQ _ _ _ _ _
  exact ⟨.inr rfl, _, _, rfl, rfl⟩
def eqlE (o : Int) : Bool := decide (o = 11 ∨ o = 12)
theorem eql168 (o : Int) : den Tryz.prog Ob.cfg 168 [dI o] = some (dB (eqlE o)) := by
  refine den_wp Tryz.func168 rfl (by kernel_rfl) rfl rfl ?_
  unfold eqlE
  by_cases c0 : o = 11
  · rw [dTrue (by simp [c0])]
    refine wkc (And.intro @dI.eq_1 (And.intro @int_beq @c0)) ?_
    show retQ _ _ _ _ _
    exact ⟨.inr rfl, _, _, rfl, rfl⟩
  by_cases c1 : o = 12
  · rw [dTrue (by simp [c1])]
    refine wkc (And.intro @dI.eq_1 (And.intro @int_beq (And.intro @c0 @c1))) ?_
    show retQ _ _ _ _ _
    exact ⟨.inr rfl, _, _, rfl, rfl⟩
  rw [dFalse (by simp [c0, c1])]
  refine wkc (And.intro @dI.eq_1 (And.intro @int_beq (And.intro @c0 @c1))) ?_
  show retQ _ _ _ _ _
  exact ⟨.inr rfl, _, _, rfl, rfl⟩
def ariE (o : Int) : Bool := decide (o = 2 ∨ (6 ≤ o ∧ o ≤ 10))
theorem ari176 (o : Int) : den Tryz.prog Ob.cfg 176 [dI o] = some (dB (ariE o)) := by
  refine den_wp Tryz.func176 rfl (by kernel_rfl) rfl rfl ?_
  unfold ariE
  by_cases c0 : o = 2
  · rw [dTrue (by simp [c0])]
    refine wkc (And.intro @dI.eq_1 (And.intro @int_beq @c0)) ?_
    show retQ _ _ _ _ _
    exact ⟨.inr rfl, _, _, rfl, rfl⟩
  by_cases c1 : 6 ≤ o
  · have c1' := eq_true c1
    by_cases c2 : o ≤ 10
    · have c2' := eq_true c2
      rw [dTrue (by simp [c1, c2])]
      refine wkc (And.intro @dI.eq_1 (And.intro @int_beq (And.intro @c0 (And.intro @c1' @c2')))) ?_
      show retQ _ _ _ _ _
      exact ⟨.inr rfl, _, _, rfl, rfl⟩
    · have c2' := eq_false c2
      rw [dFalse (by simp [c0, c2])]
      refine wkc (And.intro @dI.eq_1 (And.intro @int_beq (And.intro @c0 (And.intro @c1' @c2')))) ?_
      show retQ _ _ _ _ _
      exact ⟨.inr rfl, _, _, rfl, rfl⟩
  · have c1' := eq_false c1
    rw [dFalse (by simp [c0, c1])]
    refine wkc (And.intro @dI.eq_1 (And.intro @int_beq (And.intro @c0 @c1'))) ?_
    show retQ _ _ _ _ _
    exact ⟨.inr rfl, _, _, rfl, rfl⟩
def wantE (o : Int) (l : List Int) : Int := if eqlE o then l.headD 0 else if booE o then 1 else 2
def resE (o : Int) (l : List Int) : Int × Int := if arE o = 0 then (0, 2) else if (l.length : Int) ≠ arE o then (0, 9) else if wantE o l < 1 then (0, 10) else if l.any (fun t => !decide (t = wantE o l)) then (0, 10) else if ariE o then (2, 0) else (1, 0)
theorem resE_loop {o : Int} {l : List Int} (h1 : arE o ≠ 0) (h2 : (l.length : Int) = arE o) (h3 : ¬ wantE o l < 1) : resE o l = if l.any (fun t => !decide (t = wantE o l)) then (0, 10) else if ariE o then (2, 0) else (1, 0) := by
  unfold resE; rw [if_neg h1, if_neg (by omega), if_neg h3]
theorem arE_le (o : Int) : arE o ≤ 2 := by unfold arE; split; omega; split <;> omega

set_option maxHeartbeats 2000000 in
theorem resc_true_true (o : Int) (l : List Int) (y0 : Int) (hy : l.head? = some y0) (c1 : arE o ≠ 0) (c2 : (l.length : Int) = arE o) (hb : booE o = true) (hq : eqlE o = true) : den Tryz.prog Ob.cfg 160 [dI o, dL (encI l)] = some (.tuple [dI (resE o l).1, dI (resE o l).2]) := by
  have a1 := ar166 o
  have a2 := boo167 o
  have a3 := eql168 o
  have a4 := ari176 o
  rw [hb] at a2
  rw [hq] at a3
  simp only [dI, dB] at a1 a2 a3 a4
  have har := arE_le o
  have c1' := eq_false c1
  have c2' := eq_true c2
  have hp : 0 < l.length := by cases l with
    | nil => simp at hy
    | cons a r => simp
  have hl1 : idx 0 l.length = some 0 := by unfold idx; rw [if_pos ⟨by omega, by omega⟩]; rfl
  have e0 : (encI l)[0]? = some [.int .i64 y0] := encI_at (by rw [← List.head?_eq_getElem?]; exact hy)
  have hu : wantE o l = y0 := by cases l with
    | nil => simp at hy
    | cons a r => simp at hy; subst hy; simp [wantE, hb, hq]
  refine den_wp Tryz.func160 rfl (by kernel_rfl) rfl rfl ?_
  by_cases c3 : y0 < 1
  · have c3' := eq_true c3
    have hr : resE o l = (0, 10) := by unfold resE; rw [if_neg c1, if_neg (by omega), hu, if_pos c3]
    rw [hr]
    refine wkc (And.intro @dI.eq_1 (And.intro @dL.eq_1 (And.intro @a1 (And.intro @a2 (And.intro @a3 (And.intro @c1' (And.intro @c2' (And.intro @int_beq (And.intro @int_bne (And.intro @encI_len (And.intro @e0 (And.intro @hl1 @c3')))))))))))) ?_
    exact ⟨.inr rfl, _, _, rfl, rfl⟩
  have c3' := eq_false c3
  have hr := resE_loop c1 c2 (by rw [hu]; exact c3)
  rw [hu] at hr
  rw [hr]
  refine wkc (And.intro @dI.eq_1 (And.intro @dL.eq_1 (And.intro @a1 (And.intro @a2 (And.intro @a3 (And.intro @c1' (And.intro @c2' (And.intro @int_beq (And.intro @int_bne (And.intro @encI_len (And.intro @e0 (And.intro @hl1 @c3')))))))))))) ?_
  apply WP.loop' (I := fun D s => ∃ j : Nat, j + D = l.length ∧ (l.take j).all (fun t => decide (t = y0)) = true ∧ SE [(0, dI o), (1, dL (encI l)), (6, dI y0), (7, dI j)] [] 0 s) (d := l.length)
  · exact ⟨0, by simp, by simp, SE.mk (by simp [dI, dL]) rfl⟩
  rintro D _ ⟨j, hj, hno, cc, rfl⟩
  refine wk (And.intro @dI.eq_1 (And.intro @dL.eq_1 @encI_len)) ?_
  show WP _ _ _ _ _ _
  refine WP.cond _ rfl (fun hb => ?_) (fun hb => ?_)
  · simp at hb
    have hb' : j < l.length := by omega
    obtain ⟨d, hd, hdm, hix⟩ := at_lt hb'
    have hd' := encI_at hd
    have hw := w_succ hb' (by omega)
    have hs := all_snoc (p := fun t : Int => decide (t = y0)) hd
    by_cases hq : d = y0
    · have hq' := eq_true hq
      refine wkc (And.intro @dI.eq_1 (And.intro @dL.eq_1 (And.intro @encI_len (And.intro @hix (And.intro @hd' (And.intro @int_bne @hq')))))) ?_
      refine loop_next (by simp [hw]; exact Is.rfl) ?_
      exact ⟨D - 1, by omega, j + 1, by omega, by rw [hs, hno, dTrue hq]; rfl, SE.mk (by simp [dI, dL, hw]) rfl⟩
    · have hq' := eq_false hq
      have ha : l.any (fun t => !decide (t = y0)) = true := List.any_eq_true.2 ⟨d, hdm, by simp [hq]⟩
      rw [ha]
      refine wkc (And.intro @dI.eq_1 (And.intro @dL.eq_1 (And.intro @encI_len (And.intro @hix (And.intro @hd' (And.intro @int_bne @hq')))))) ?_
      exact ⟨.inr rfl, _, _, rfl, rfl⟩
  · simp at hb
    have hje : j = l.length := by omega
    rw [hje, List.take_length] at hno
    have ha : l.any (fun t => !decide (t = y0)) = false := by
      rw [List.any_eq_false]; intro t ht; simpa using List.all_eq_true.1 hno t ht
    rw [ha]
    cases hz : ariE o with
    | true =>
      rw [hz] at a4
      refine wkc (And.intro @dI.eq_1 (And.intro @dL.eq_1 @a4)) ?_
      exact ⟨.inr rfl, _, _, rfl, rfl⟩
    | false =>
      rw [hz] at a4
      refine wkc (And.intro @dI.eq_1 (And.intro @dL.eq_1 @a4)) ?_
      exact ⟨.inr rfl, _, _, rfl, rfl⟩

set_option maxHeartbeats 2000000 in
theorem resc_true_false (o : Int) (l : List Int) (y0 : Int) (hy : l.head? = some y0) (c1 : arE o ≠ 0) (c2 : (l.length : Int) = arE o) (hb : booE o = true) (hq : eqlE o = false) : den Tryz.prog Ob.cfg 160 [dI o, dL (encI l)] = some (.tuple [dI (resE o l).1, dI (resE o l).2]) := by
  have a1 := ar166 o
  have a2 := boo167 o
  have a3 := eql168 o
  have a4 := ari176 o
  rw [hb] at a2
  rw [hq] at a3
  simp only [dI, dB] at a1 a2 a3 a4
  have har := arE_le o
  have c1' := eq_false c1
  have c2' := eq_true c2
  have hp : 0 < l.length := by cases l with
    | nil => simp at hy
    | cons a r => simp
  have hl1 : idx 0 l.length = some 0 := by unfold idx; rw [if_pos ⟨by omega, by omega⟩]; rfl
  have e0 : (encI l)[0]? = some [.int .i64 y0] := encI_at (by rw [← List.head?_eq_getElem?]; exact hy)
  have hu : wantE o l = 1 := by cases l with
    | nil => simp at hy
    | cons a r => simp at hy; subst hy; simp [wantE, hb, hq]
  refine den_wp Tryz.func160 rfl (by kernel_rfl) rfl rfl ?_
  have c3 : ¬ ((1 : Int) < 1) := by omega
  have hr := resE_loop c1 c2 (by rw [hu]; exact c3)
  rw [hu] at hr
  rw [hr]
  refine wkc (And.intro @dI.eq_1 (And.intro @dL.eq_1 (And.intro @a1 (And.intro @a2 (And.intro @a3 (And.intro @c1' (And.intro @c2' (And.intro @int_beq (And.intro @int_bne (And.intro @encI_len (And.intro @e0 @hl1))))))))))) ?_
  apply WP.loop' (I := fun D s => ∃ j : Nat, j + D = l.length ∧ (l.take j).all (fun t => decide (t = 1)) = true ∧ SE [(0, dI o), (1, dL (encI l)), (6, dI 1), (7, dI j)] [] 0 s) (d := l.length)
  · exact ⟨0, by simp, by simp, SE.mk (by simp [dI, dL]) rfl⟩
  rintro D _ ⟨j, hj, hno, cc, rfl⟩
  refine wk (And.intro @dI.eq_1 (And.intro @dL.eq_1 @encI_len)) ?_
  show WP _ _ _ _ _ _
  refine WP.cond _ rfl (fun hb => ?_) (fun hb => ?_)
  · simp at hb
    have hb' : j < l.length := by omega
    obtain ⟨d, hd, hdm, hix⟩ := at_lt hb'
    have hd' := encI_at hd
    have hw := w_succ hb' (by omega)
    have hs := all_snoc (p := fun t : Int => decide (t = 1)) hd
    by_cases hq : d = 1
    · have hq' := eq_true hq
      refine wkc (And.intro @dI.eq_1 (And.intro @dL.eq_1 (And.intro @encI_len (And.intro @hix (And.intro @hd' (And.intro @int_bne @hq')))))) ?_
      refine loop_next (by simp [hw]; exact Is.rfl) ?_
      exact ⟨D - 1, by omega, j + 1, by omega, by rw [hs, hno, dTrue hq]; rfl, SE.mk (by simp [dI, dL, hw]) rfl⟩
    · have hq' := eq_false hq
      have ha : l.any (fun t => !decide (t = 1)) = true := List.any_eq_true.2 ⟨d, hdm, by simp [hq]⟩
      rw [ha]
      refine wkc (And.intro @dI.eq_1 (And.intro @dL.eq_1 (And.intro @encI_len (And.intro @hix (And.intro @hd' (And.intro @int_bne @hq')))))) ?_
      exact ⟨.inr rfl, _, _, rfl, rfl⟩
  · simp at hb
    have hje : j = l.length := by omega
    rw [hje, List.take_length] at hno
    have ha : l.any (fun t => !decide (t = 1)) = false := by
      rw [List.any_eq_false]; intro t ht; simpa using List.all_eq_true.1 hno t ht
    rw [ha]
    cases hz : ariE o with
    | true =>
      rw [hz] at a4
      refine wkc (And.intro @dI.eq_1 (And.intro @dL.eq_1 @a4)) ?_
      exact ⟨.inr rfl, _, _, rfl, rfl⟩
    | false =>
      rw [hz] at a4
      refine wkc (And.intro @dI.eq_1 (And.intro @dL.eq_1 @a4)) ?_
      exact ⟨.inr rfl, _, _, rfl, rfl⟩

set_option maxHeartbeats 2000000 in
theorem resc_false_true (o : Int) (l : List Int) (y0 : Int) (hy : l.head? = some y0) (c1 : arE o ≠ 0) (c2 : (l.length : Int) = arE o) (hb : booE o = false) (hq : eqlE o = true) : den Tryz.prog Ob.cfg 160 [dI o, dL (encI l)] = some (.tuple [dI (resE o l).1, dI (resE o l).2]) := by
  have a1 := ar166 o
  have a2 := boo167 o
  have a3 := eql168 o
  have a4 := ari176 o
  rw [hb] at a2
  rw [hq] at a3
  simp only [dI, dB] at a1 a2 a3 a4
  have har := arE_le o
  have c1' := eq_false c1
  have c2' := eq_true c2
  have hp : 0 < l.length := by cases l with
    | nil => simp at hy
    | cons a r => simp
  have hl1 : idx 0 l.length = some 0 := by unfold idx; rw [if_pos ⟨by omega, by omega⟩]; rfl
  have e0 : (encI l)[0]? = some [.int .i64 y0] := encI_at (by rw [← List.head?_eq_getElem?]; exact hy)
  have hu : wantE o l = y0 := by cases l with
    | nil => simp at hy
    | cons a r => simp at hy; subst hy; simp [wantE, hb, hq]
  refine den_wp Tryz.func160 rfl (by kernel_rfl) rfl rfl ?_
  by_cases c3 : y0 < 1
  · have c3' := eq_true c3
    have hr : resE o l = (0, 10) := by unfold resE; rw [if_neg c1, if_neg (by omega), hu, if_pos c3]
    rw [hr]
    refine wkc (And.intro @dI.eq_1 (And.intro @dL.eq_1 (And.intro @a1 (And.intro @a2 (And.intro @a3 (And.intro @c1' (And.intro @c2' (And.intro @int_beq (And.intro @int_bne (And.intro @encI_len (And.intro @e0 (And.intro @hl1 @c3')))))))))))) ?_
    exact ⟨.inr rfl, _, _, rfl, rfl⟩
  have c3' := eq_false c3
  have hr := resE_loop c1 c2 (by rw [hu]; exact c3)
  rw [hu] at hr
  rw [hr]
  refine wkc (And.intro @dI.eq_1 (And.intro @dL.eq_1 (And.intro @a1 (And.intro @a2 (And.intro @a3 (And.intro @c1' (And.intro @c2' (And.intro @int_beq (And.intro @int_bne (And.intro @encI_len (And.intro @e0 (And.intro @hl1 @c3')))))))))))) ?_
  apply WP.loop' (I := fun D s => ∃ j : Nat, j + D = l.length ∧ (l.take j).all (fun t => decide (t = y0)) = true ∧ SE [(0, dI o), (1, dL (encI l)), (6, dI y0), (7, dI j)] [] 0 s) (d := l.length)
  · exact ⟨0, by simp, by simp, SE.mk (by simp [dI, dL]) rfl⟩
  rintro D _ ⟨j, hj, hno, cc, rfl⟩
  refine wk (And.intro @dI.eq_1 (And.intro @dL.eq_1 @encI_len)) ?_
  show WP _ _ _ _ _ _
  refine WP.cond _ rfl (fun hb => ?_) (fun hb => ?_)
  · simp at hb
    have hb' : j < l.length := by omega
    obtain ⟨d, hd, hdm, hix⟩ := at_lt hb'
    have hd' := encI_at hd
    have hw := w_succ hb' (by omega)
    have hs := all_snoc (p := fun t : Int => decide (t = y0)) hd
    by_cases hq : d = y0
    · have hq' := eq_true hq
      refine wkc (And.intro @dI.eq_1 (And.intro @dL.eq_1 (And.intro @encI_len (And.intro @hix (And.intro @hd' (And.intro @int_bne @hq')))))) ?_
      refine loop_next (by simp [hw]; exact Is.rfl) ?_
      exact ⟨D - 1, by omega, j + 1, by omega, by rw [hs, hno, dTrue hq]; rfl, SE.mk (by simp [dI, dL, hw]) rfl⟩
    · have hq' := eq_false hq
      have ha : l.any (fun t => !decide (t = y0)) = true := List.any_eq_true.2 ⟨d, hdm, by simp [hq]⟩
      rw [ha]
      refine wkc (And.intro @dI.eq_1 (And.intro @dL.eq_1 (And.intro @encI_len (And.intro @hix (And.intro @hd' (And.intro @int_bne @hq')))))) ?_
      exact ⟨.inr rfl, _, _, rfl, rfl⟩
  · simp at hb
    have hje : j = l.length := by omega
    rw [hje, List.take_length] at hno
    have ha : l.any (fun t => !decide (t = y0)) = false := by
      rw [List.any_eq_false]; intro t ht; simpa using List.all_eq_true.1 hno t ht
    rw [ha]
    cases hz : ariE o with
    | true =>
      rw [hz] at a4
      refine wkc (And.intro @dI.eq_1 (And.intro @dL.eq_1 @a4)) ?_
      exact ⟨.inr rfl, _, _, rfl, rfl⟩
    | false =>
      rw [hz] at a4
      refine wkc (And.intro @dI.eq_1 (And.intro @dL.eq_1 @a4)) ?_
      exact ⟨.inr rfl, _, _, rfl, rfl⟩

set_option maxHeartbeats 2000000 in
theorem resc_false_false (o : Int) (l : List Int) (y0 : Int) (hy : l.head? = some y0) (c1 : arE o ≠ 0) (c2 : (l.length : Int) = arE o) (hb : booE o = false) (hq : eqlE o = false) : den Tryz.prog Ob.cfg 160 [dI o, dL (encI l)] = some (.tuple [dI (resE o l).1, dI (resE o l).2]) := by
  have a1 := ar166 o
  have a2 := boo167 o
  have a3 := eql168 o
  have a4 := ari176 o
  rw [hb] at a2
  rw [hq] at a3
  simp only [dI, dB] at a1 a2 a3 a4
  have har := arE_le o
  have c1' := eq_false c1
  have c2' := eq_true c2
  have hp : 0 < l.length := by cases l with
    | nil => simp at hy
    | cons a r => simp
  have hl1 : idx 0 l.length = some 0 := by unfold idx; rw [if_pos ⟨by omega, by omega⟩]; rfl
  have e0 : (encI l)[0]? = some [.int .i64 y0] := encI_at (by rw [← List.head?_eq_getElem?]; exact hy)
  have hu : wantE o l = 2 := by cases l with
    | nil => simp at hy
    | cons a r => simp at hy; subst hy; simp [wantE, hb, hq]
  refine den_wp Tryz.func160 rfl (by kernel_rfl) rfl rfl ?_
  have c3 : ¬ ((2 : Int) < 1) := by omega
  have hr := resE_loop c1 c2 (by rw [hu]; exact c3)
  rw [hu] at hr
  rw [hr]
  refine wkc (And.intro @dI.eq_1 (And.intro @dL.eq_1 (And.intro @a1 (And.intro @a2 (And.intro @a3 (And.intro @c1' (And.intro @c2' (And.intro @int_beq (And.intro @int_bne (And.intro @encI_len (And.intro @e0 @hl1))))))))))) ?_
  apply WP.loop' (I := fun D s => ∃ j : Nat, j + D = l.length ∧ (l.take j).all (fun t => decide (t = 2)) = true ∧ SE [(0, dI o), (1, dL (encI l)), (6, dI 2), (7, dI j)] [] 0 s) (d := l.length)
  · exact ⟨0, by simp, by simp, SE.mk (by simp [dI, dL]) rfl⟩
  rintro D _ ⟨j, hj, hno, cc, rfl⟩
  refine wk (And.intro @dI.eq_1 (And.intro @dL.eq_1 @encI_len)) ?_
  show WP _ _ _ _ _ _
  refine WP.cond _ rfl (fun hb => ?_) (fun hb => ?_)
  · simp at hb
    have hb' : j < l.length := by omega
    obtain ⟨d, hd, hdm, hix⟩ := at_lt hb'
    have hd' := encI_at hd
    have hw := w_succ hb' (by omega)
    have hs := all_snoc (p := fun t : Int => decide (t = 2)) hd
    by_cases hq : d = 2
    · have hq' := eq_true hq
      refine wkc (And.intro @dI.eq_1 (And.intro @dL.eq_1 (And.intro @encI_len (And.intro @hix (And.intro @hd' (And.intro @int_bne @hq')))))) ?_
      refine loop_next (by simp [hw]; exact Is.rfl) ?_
      exact ⟨D - 1, by omega, j + 1, by omega, by rw [hs, hno, dTrue hq]; rfl, SE.mk (by simp [dI, dL, hw]) rfl⟩
    · have hq' := eq_false hq
      have ha : l.any (fun t => !decide (t = 2)) = true := List.any_eq_true.2 ⟨d, hdm, by simp [hq]⟩
      rw [ha]
      refine wkc (And.intro @dI.eq_1 (And.intro @dL.eq_1 (And.intro @encI_len (And.intro @hix (And.intro @hd' (And.intro @int_bne @hq')))))) ?_
      exact ⟨.inr rfl, _, _, rfl, rfl⟩
  · simp at hb
    have hje : j = l.length := by omega
    rw [hje, List.take_length] at hno
    have ha : l.any (fun t => !decide (t = 2)) = false := by
      rw [List.any_eq_false]; intro t ht; simpa using List.all_eq_true.1 hno t ht
    rw [ha]
    cases hz : ariE o with
    | true =>
      rw [hz] at a4
      refine wkc (And.intro @dI.eq_1 (And.intro @dL.eq_1 @a4)) ?_
      exact ⟨.inr rfl, _, _, rfl, rfl⟩
    | false =>
      rw [hz] at a4
      refine wkc (And.intro @dI.eq_1 (And.intro @dL.eq_1 @a4)) ?_
      exact ⟨.inr rfl, _, _, rfl, rfl⟩

set_option maxHeartbeats 1000000 in
theorem res160 (o : Int) (l : List Int) : den Tryz.prog Ob.cfg 160 [dI o, dL (encI l)] = some (.tuple [dI (resE o l).1, dI (resE o l).2]) := by
  by_cases c1 : arE o = 0
  · have a1 := ar166 o
    simp only [dI] at a1
    refine den_wp Tryz.func160 rfl (by kernel_rfl) rfl rfl ?_
    have hr : resE o l = (0, 2) := by unfold resE; rw [if_pos c1]
    rw [hr]
    rw [c1] at a1
    refine wkc (And.intro @dI.eq_1 (And.intro @dL.eq_1 @a1)) ?_
    exact ⟨.inr rfl, _, _, rfl, rfl⟩
  by_cases c2 : (l.length : Int) = arE o
  case neg =>
    have a1 := ar166 o
    simp only [dI] at a1
    refine den_wp Tryz.func160 rfl (by kernel_rfl) rfl rfl ?_
    have c1' := eq_false c1
    have hr : resE o l = (0, 9) := by unfold resE; rw [if_neg c1, if_pos c2]
    have c2' := eq_false c2
    rw [hr]
    refine wkc (And.intro @dI.eq_1 (And.intro @dL.eq_1 (And.intro @a1 (And.intro @c1' (And.intro @c2' (And.intro @int_beq (And.intro @int_bne @encI_len))))))) ?_
    exact ⟨.inr rfl, _, _, rfl, rfl⟩
  obtain ⟨y0, hy⟩ : ∃ y0, l.head? = some y0 := by
    cases l with
    | nil => unfold arE at c1 c2; simp at c2; omega
    | cons a r => exact ⟨a, rfl⟩
  cases hb : booE o <;> cases hq : eqlE o
  · exact resc_false_false o l y0 hy c1 c2 hb hq
  · exact resc_false_true o l y0 hy c1 c2 hb hq
  · exact resc_true_false o l y0 hy c1 c2 hb hq
  · exact resc_true_true o l y0 hy c1 c2 hb hq
end Go.Ac
end

section
set_option maxRecDepth 4000
set_option linter.unusedSimpArgs false
set_option linter.unusedVariables false
namespace Go.Ac
open Go.Proofs
/-- How many arguments a form has. -/
def formN (k o t v : Int) (nm : Tx) : Option Int :=
  if k = 1 then (if nm = [] ∧ o = 0 then some 0 else none)
  else if k = 2 ∨ k = 12 then (if t = 0 ∧ v = 0 ∧ o = 0 then some 0 else none)
  else if k = 3 then (if arE o ≠ 0 ∧ t = 0 ∧ v = 0 ∧ nm = [] then some (arE o) else none)
  else if k = 4 then (if t = 0 ∧ v = 0 ∧ o = 0 ∧ nm = [] then some 3 else none) else none
mutual
def formE : X → Bool
  | .mk k o t v nm args => match formN k o t v nm with
    | none => false
    | some n => decide ((args.length : Int) = n) && formL args
def formL : List X → Bool
  | [] => true
  | x :: r => formE x && formL r
end
theorem formE_eq (x : X) : formE x = match formN x.k x.o x.t x.v x.nm with
    | none => false
    | some n => decide ((x.args.length : Int) = n) && formL x.args := by cases x; rw [formE]; rfl
theorem formL_all : ∀ l : List X, formL l = l.all formE
  | [] => by rw [formL]; rfl
  | x :: r => by rw [formL, formL_all r]; rfl
theorem formE_none {x : X} (h : formN x.k x.o x.t x.v x.nm = none) : formE x = false := by rw [formE_eq, h]
theorem formE_some {x : X} {n : Int} (h : formN x.k x.o x.t x.v x.nm = some n) : formE x = (decide ((x.args.length : Int) = n) && x.args.all formE) := by rw [formE_eq, h, formL_all]
theorem kf143 (r : Nat) : Ob.keep 143 r = Ob.k143 r := by kernel_rfl
attribute [local simp] kf143 Ob.k143
def FormAt (N : Nat) : Prop := ∀ x : X, x.sz < N → x.sz ≤ MX → den Tryz.prog Ob.cfg 143 [aG x.cells] = some (dB (formE x))

set_option maxHeartbeats 2000000 in
theorem form_1 {N : Nat} (ih : FormAt N) (x : X) (hN : x.sz < N + 1) (hM : x.sz ≤ MX) (q : x.k = 1) : den Tryz.prog Ob.cfg 143 [aG x.cells] = some (dB (formE x)) := by
  unfold MX at hM
  have hs0 := X.sz_eq x
  have k1 := len_szX x.args
  refine den_wp Tryz.func143 rfl (by kernel_rfl) rfl rfl ?_
  by_cases c1 : x.nm = []
  case neg =>
    rw [formE_none (by simp [formN, q, c1])]
    have e' := eq_false c1
    refine wkc (And.intro @aG.eq_1 (And.intro @X.cells_eq (And.intro @dL.eq_1 (And.intro @dB.eq_1 (And.intro @int_beq (And.intro @int_bne (And.intro @tx_beq (And.intro @tx_bne (And.intro @encX_len (And.intro @q @e')))))))))) ?_
    show retQ _ _ _ _ _
    exact ⟨.inr rfl, _, _, rfl, rfl⟩
  by_cases c2 : x.o = 0
  case neg =>
    rw [formE_none (by simp [formN, q, c1, c2])]
    have e' := eq_false c2
    refine wkc (And.intro @aG.eq_1 (And.intro @X.cells_eq (And.intro @dL.eq_1 (And.intro @dB.eq_1 (And.intro @int_beq (And.intro @int_bne (And.intro @tx_beq (And.intro @tx_bne (And.intro @encX_len (And.intro @q (And.intro @c1 @e'))))))))))) ?_
    show retQ _ _ _ _ _
    exact ⟨.inr rfl, _, _, rfl, rfl⟩
  have hf := formE_some (x := x) (n := 0) (by simp [formN, q, c1, c2])
  rw [hf]
  by_cases hl : (x.args.length : Int) = 0
  case neg =>
    rw [dFalse hl]
    have e' := eq_false hl
    have e2 := (len0 x.args).symm.trans e'
    refine wkc (And.intro @aG.eq_1 (And.intro @X.cells_eq (And.intro @dL.eq_1 (And.intro @dB.eq_1 (And.intro @int_beq (And.intro @int_bne (And.intro @tx_beq (And.intro @tx_bne (And.intro @encX_len (And.intro @q (And.intro @c1 (And.intro @c2 (And.intro @len0 (And.intro @e' @e2)))))))))))))) ?_
    show retQ _ _ _ _ _
    exact ⟨.inr rfl, _, _, rfl, rfl⟩
  rw [dTrue hl]
  have e' := eq_true hl
  have e2 := (len0 x.args).symm.trans e'
  refine wkc (And.intro @aG.eq_1 (And.intro @X.cells_eq (And.intro @dL.eq_1 (And.intro @dB.eq_1 (And.intro @int_beq (And.intro @int_bne (And.intro @tx_beq (And.intro @tx_bne (And.intro @encX_len (And.intro @q (And.intro @c1 (And.intro @c2 (And.intro @len0 (And.intro @e' @e2)))))))))))))) ?_
  apply WP.loop' (I := fun D s => ∃ j : Nat, j + D = x.args.length ∧ (x.args.take j).all formE = true ∧ SE [(1, .ptr 0 0 0), (4, dI j)] [(0, ⟨0, false, x.cells.map .d⟩)] 1 s) (d := x.args.length)
  · exact ⟨0, by simp, by simp, SE.mk (by simp [dI]) (by simp [X.cells_eq, q, c1, c2])⟩
  rintro D _ ⟨j, hj, hno, cc, rfl⟩
  refine wk (And.intro @dI.eq_1 (And.intro @dL.eq_1 (And.intro @X.cells_eq @encX_len))) ?_
  show WP _ _ _ _ _ _
  refine WP.cond _ rfl (fun hb => ?_) (fun hb => ?_)
  · simp at hb
    have hb' : j < x.args.length := by omega
    obtain ⟨d, hd, hdm, hix⟩ := at_lt hb'
    have hd' := encX_at hd
    have hw := w_succ hb' (by omega)
    have hs := all_snoc (p := formE) hd
    have hr := ih d (by have := mem_szX hdm; omega) (by have := mem_szX hdm; unfold MX; omega)
    simp only [aG, X.cells_eq, List.map_cons, List.map_nil, dB] at hr
    cases hz : formE d with
    | true =>
      rw [hz] at hr hs
      refine wkc (And.intro @dI.eq_1 (And.intro @dL.eq_1 (And.intro @X.cells_eq (And.intro @encX_len (And.intro @hix (And.intro @hd' @hr)))))) ?_
      refine loop_next (by simp [hw]; exact Is.rfl) ?_
      exact ⟨D - 1, by omega, j + 1, by omega, by rw [hs, hno]; rfl, SE.mk (by simp [dI, hw]) (by simp [X.cells_eq])⟩
    | false =>
      rw [hz] at hr
      have ha : x.args.all formE = false := by
        cases hq : x.args.all formE with
        | false => rfl
        | true => have := List.all_eq_true.1 hq d hdm; rw [hz] at this; cases this
      rw [ha]
      refine wkc (And.intro @dI.eq_1 (And.intro @dL.eq_1 (And.intro @X.cells_eq (And.intro @encX_len (And.intro @hix (And.intro @hd' @hr)))))) ?_
      show retQ _ _ _ _ _
      exact ⟨.inr rfl, _, _, rfl, rfl⟩
  · simp at hb
    have hje : j = x.args.length := by omega
    rw [hje, List.take_length] at hno
    rw [hno]
    refine wkc (And.intro @dI.eq_1 @dL.eq_1) ?_
    show retQ _ _ _ _ _
    exact ⟨.inr rfl, _, _, rfl, rfl⟩
set_option maxHeartbeats 2000000 in
theorem form_2 {N : Nat} (ih : FormAt N) (x : X) (hN : x.sz < N + 1) (hM : x.sz ≤ MX) (q : x.k = 2) : den Tryz.prog Ob.cfg 143 [aG x.cells] = some (dB (formE x)) := by
  unfold MX at hM
  have hs0 := X.sz_eq x
  have k1 := len_szX x.args
  refine den_wp Tryz.func143 rfl (by kernel_rfl) rfl rfl ?_
  by_cases c1 : x.t = 0
  case neg =>
    rw [formE_none (by simp [formN, q, c1])]
    have e' := eq_false c1
    refine wkc (And.intro @aG.eq_1 (And.intro @X.cells_eq (And.intro @dL.eq_1 (And.intro @dB.eq_1 (And.intro @int_beq (And.intro @int_bne (And.intro @tx_beq (And.intro @tx_bne (And.intro @encX_len (And.intro @q @e')))))))))) ?_
    show retQ _ _ _ _ _
    exact ⟨.inr rfl, _, _, rfl, rfl⟩
  by_cases c2 : x.v = 0
  case neg =>
    rw [formE_none (by simp [formN, q, c1, c2])]
    have e' := eq_false c2
    refine wkc (And.intro @aG.eq_1 (And.intro @X.cells_eq (And.intro @dL.eq_1 (And.intro @dB.eq_1 (And.intro @int_beq (And.intro @int_bne (And.intro @tx_beq (And.intro @tx_bne (And.intro @encX_len (And.intro @q (And.intro @c1 @e'))))))))))) ?_
    show retQ _ _ _ _ _
    exact ⟨.inr rfl, _, _, rfl, rfl⟩
  by_cases c3 : x.o = 0
  case neg =>
    rw [formE_none (by simp [formN, q, c1, c2, c3])]
    have e' := eq_false c3
    refine wkc (And.intro @aG.eq_1 (And.intro @X.cells_eq (And.intro @dL.eq_1 (And.intro @dB.eq_1 (And.intro @int_beq (And.intro @int_bne (And.intro @tx_beq (And.intro @tx_bne (And.intro @encX_len (And.intro @q (And.intro @c1 (And.intro @c2 @e')))))))))))) ?_
    show retQ _ _ _ _ _
    exact ⟨.inr rfl, _, _, rfl, rfl⟩
  have hf := formE_some (x := x) (n := 0) (by simp [formN, q, c1, c2, c3])
  rw [hf]
  by_cases hl : (x.args.length : Int) = 0
  case neg =>
    rw [dFalse hl]
    have e' := eq_false hl
    have e2 := (len0 x.args).symm.trans e'
    refine wkc (And.intro @aG.eq_1 (And.intro @X.cells_eq (And.intro @dL.eq_1 (And.intro @dB.eq_1 (And.intro @int_beq (And.intro @int_bne (And.intro @tx_beq (And.intro @tx_bne (And.intro @encX_len (And.intro @q (And.intro @c1 (And.intro @c2 (And.intro @c3 (And.intro @len0 (And.intro @e' @e2))))))))))))))) ?_
    show retQ _ _ _ _ _
    exact ⟨.inr rfl, _, _, rfl, rfl⟩
  rw [dTrue hl]
  have e' := eq_true hl
  have e2 := (len0 x.args).symm.trans e'
  refine wkc (And.intro @aG.eq_1 (And.intro @X.cells_eq (And.intro @dL.eq_1 (And.intro @dB.eq_1 (And.intro @int_beq (And.intro @int_bne (And.intro @tx_beq (And.intro @tx_bne (And.intro @encX_len (And.intro @q (And.intro @c1 (And.intro @c2 (And.intro @c3 (And.intro @len0 (And.intro @e' @e2))))))))))))))) ?_
  apply WP.loop' (I := fun D s => ∃ j : Nat, j + D = x.args.length ∧ (x.args.take j).all formE = true ∧ SE [(1, .ptr 0 0 0), (4, dI j)] [(0, ⟨0, false, x.cells.map .d⟩)] 1 s) (d := x.args.length)
  · exact ⟨0, by simp, by simp, SE.mk (by simp [dI]) (by simp [X.cells_eq, q, c1, c2, c3])⟩
  rintro D _ ⟨j, hj, hno, cc, rfl⟩
  refine wk (And.intro @dI.eq_1 (And.intro @dL.eq_1 (And.intro @X.cells_eq @encX_len))) ?_
  show WP _ _ _ _ _ _
  refine WP.cond _ rfl (fun hb => ?_) (fun hb => ?_)
  · simp at hb
    have hb' : j < x.args.length := by omega
    obtain ⟨d, hd, hdm, hix⟩ := at_lt hb'
    have hd' := encX_at hd
    have hw := w_succ hb' (by omega)
    have hs := all_snoc (p := formE) hd
    have hr := ih d (by have := mem_szX hdm; omega) (by have := mem_szX hdm; unfold MX; omega)
    simp only [aG, X.cells_eq, List.map_cons, List.map_nil, dB] at hr
    cases hz : formE d with
    | true =>
      rw [hz] at hr hs
      refine wkc (And.intro @dI.eq_1 (And.intro @dL.eq_1 (And.intro @X.cells_eq (And.intro @encX_len (And.intro @hix (And.intro @hd' @hr)))))) ?_
      refine loop_next (by simp [hw]; exact Is.rfl) ?_
      exact ⟨D - 1, by omega, j + 1, by omega, by rw [hs, hno]; rfl, SE.mk (by simp [dI, hw]) (by simp [X.cells_eq])⟩
    | false =>
      rw [hz] at hr
      have ha : x.args.all formE = false := by
        cases hq : x.args.all formE with
        | false => rfl
        | true => have := List.all_eq_true.1 hq d hdm; rw [hz] at this; cases this
      rw [ha]
      refine wkc (And.intro @dI.eq_1 (And.intro @dL.eq_1 (And.intro @X.cells_eq (And.intro @encX_len (And.intro @hix (And.intro @hd' @hr)))))) ?_
      show retQ _ _ _ _ _
      exact ⟨.inr rfl, _, _, rfl, rfl⟩
  · simp at hb
    have hje : j = x.args.length := by omega
    rw [hje, List.take_length] at hno
    rw [hno]
    refine wkc (And.intro @dI.eq_1 @dL.eq_1) ?_
    show retQ _ _ _ _ _
    exact ⟨.inr rfl, _, _, rfl, rfl⟩
set_option maxHeartbeats 2000000 in
theorem form_12 {N : Nat} (ih : FormAt N) (x : X) (hN : x.sz < N + 1) (hM : x.sz ≤ MX) (q : x.k = 12) : den Tryz.prog Ob.cfg 143 [aG x.cells] = some (dB (formE x)) := by
  unfold MX at hM
  have hs0 := X.sz_eq x
  have k1 := len_szX x.args
  refine den_wp Tryz.func143 rfl (by kernel_rfl) rfl rfl ?_
  by_cases c1 : x.t = 0
  case neg =>
    rw [formE_none (by simp [formN, q, c1])]
    have e' := eq_false c1
    refine wkc (And.intro @aG.eq_1 (And.intro @X.cells_eq (And.intro @dL.eq_1 (And.intro @dB.eq_1 (And.intro @int_beq (And.intro @int_bne (And.intro @tx_beq (And.intro @tx_bne (And.intro @encX_len (And.intro @q @e')))))))))) ?_
    show retQ _ _ _ _ _
    exact ⟨.inr rfl, _, _, rfl, rfl⟩
  by_cases c2 : x.v = 0
  case neg =>
    rw [formE_none (by simp [formN, q, c1, c2])]
    have e' := eq_false c2
    refine wkc (And.intro @aG.eq_1 (And.intro @X.cells_eq (And.intro @dL.eq_1 (And.intro @dB.eq_1 (And.intro @int_beq (And.intro @int_bne (And.intro @tx_beq (And.intro @tx_bne (And.intro @encX_len (And.intro @q (And.intro @c1 @e'))))))))))) ?_
    show retQ _ _ _ _ _
    exact ⟨.inr rfl, _, _, rfl, rfl⟩
  by_cases c3 : x.o = 0
  case neg =>
    rw [formE_none (by simp [formN, q, c1, c2, c3])]
    have e' := eq_false c3
    refine wkc (And.intro @aG.eq_1 (And.intro @X.cells_eq (And.intro @dL.eq_1 (And.intro @dB.eq_1 (And.intro @int_beq (And.intro @int_bne (And.intro @tx_beq (And.intro @tx_bne (And.intro @encX_len (And.intro @q (And.intro @c1 (And.intro @c2 @e')))))))))))) ?_
    show retQ _ _ _ _ _
    exact ⟨.inr rfl, _, _, rfl, rfl⟩
  have hf := formE_some (x := x) (n := 0) (by simp [formN, q, c1, c2, c3])
  rw [hf]
  by_cases hl : (x.args.length : Int) = 0
  case neg =>
    rw [dFalse hl]
    have e' := eq_false hl
    have e2 := (len0 x.args).symm.trans e'
    refine wkc (And.intro @aG.eq_1 (And.intro @X.cells_eq (And.intro @dL.eq_1 (And.intro @dB.eq_1 (And.intro @int_beq (And.intro @int_bne (And.intro @tx_beq (And.intro @tx_bne (And.intro @encX_len (And.intro @q (And.intro @c1 (And.intro @c2 (And.intro @c3 (And.intro @len0 (And.intro @e' @e2))))))))))))))) ?_
    show retQ _ _ _ _ _
    exact ⟨.inr rfl, _, _, rfl, rfl⟩
  rw [dTrue hl]
  have e' := eq_true hl
  have e2 := (len0 x.args).symm.trans e'
  refine wkc (And.intro @aG.eq_1 (And.intro @X.cells_eq (And.intro @dL.eq_1 (And.intro @dB.eq_1 (And.intro @int_beq (And.intro @int_bne (And.intro @tx_beq (And.intro @tx_bne (And.intro @encX_len (And.intro @q (And.intro @c1 (And.intro @c2 (And.intro @c3 (And.intro @len0 (And.intro @e' @e2))))))))))))))) ?_
  apply WP.loop' (I := fun D s => ∃ j : Nat, j + D = x.args.length ∧ (x.args.take j).all formE = true ∧ SE [(1, .ptr 0 0 0), (4, dI j)] [(0, ⟨0, false, x.cells.map .d⟩)] 1 s) (d := x.args.length)
  · exact ⟨0, by simp, by simp, SE.mk (by simp [dI]) (by simp [X.cells_eq, q, c1, c2, c3])⟩
  rintro D _ ⟨j, hj, hno, cc, rfl⟩
  refine wk (And.intro @dI.eq_1 (And.intro @dL.eq_1 (And.intro @X.cells_eq @encX_len))) ?_
  show WP _ _ _ _ _ _
  refine WP.cond _ rfl (fun hb => ?_) (fun hb => ?_)
  · simp at hb
    have hb' : j < x.args.length := by omega
    obtain ⟨d, hd, hdm, hix⟩ := at_lt hb'
    have hd' := encX_at hd
    have hw := w_succ hb' (by omega)
    have hs := all_snoc (p := formE) hd
    have hr := ih d (by have := mem_szX hdm; omega) (by have := mem_szX hdm; unfold MX; omega)
    simp only [aG, X.cells_eq, List.map_cons, List.map_nil, dB] at hr
    cases hz : formE d with
    | true =>
      rw [hz] at hr hs
      refine wkc (And.intro @dI.eq_1 (And.intro @dL.eq_1 (And.intro @X.cells_eq (And.intro @encX_len (And.intro @hix (And.intro @hd' @hr)))))) ?_
      refine loop_next (by simp [hw]; exact Is.rfl) ?_
      exact ⟨D - 1, by omega, j + 1, by omega, by rw [hs, hno]; rfl, SE.mk (by simp [dI, hw]) (by simp [X.cells_eq])⟩
    | false =>
      rw [hz] at hr
      have ha : x.args.all formE = false := by
        cases hq : x.args.all formE with
        | false => rfl
        | true => have := List.all_eq_true.1 hq d hdm; rw [hz] at this; cases this
      rw [ha]
      refine wkc (And.intro @dI.eq_1 (And.intro @dL.eq_1 (And.intro @X.cells_eq (And.intro @encX_len (And.intro @hix (And.intro @hd' @hr)))))) ?_
      show retQ _ _ _ _ _
      exact ⟨.inr rfl, _, _, rfl, rfl⟩
  · simp at hb
    have hje : j = x.args.length := by omega
    rw [hje, List.take_length] at hno
    rw [hno]
    refine wkc (And.intro @dI.eq_1 @dL.eq_1) ?_
    show retQ _ _ _ _ _
    exact ⟨.inr rfl, _, _, rfl, rfl⟩
set_option maxHeartbeats 2000000 in
theorem form_3 {N : Nat} (ih : FormAt N) (x : X) (hN : x.sz < N + 1) (hM : x.sz ≤ MX) (q : x.k = 3) : den Tryz.prog Ob.cfg 143 [aG x.cells] = some (dB (formE x)) := by
  unfold MX at hM
  have hs0 := X.sz_eq x
  have k1 := len_szX x.args
  have a1 := ar159 x.o
  simp only [dI] at a1
  refine den_wp Tryz.func143 rfl (by kernel_rfl) rfl rfl ?_
  by_cases d1 : arE x.o = 0
  · rw [formE_none (by simp [formN, q, d1])]
    rw [d1] at a1
    refine wkc (And.intro @aG.eq_1 (And.intro @X.cells_eq (And.intro @dL.eq_1 (And.intro @dB.eq_1 (And.intro @int_beq (And.intro @int_bne (And.intro @tx_beq (And.intro @tx_bne (And.intro @encX_len (And.intro @q @a1)))))))))) ?_
    show retQ _ _ _ _ _
    exact ⟨.inr rfl, _, _, rfl, rfl⟩
  have c1 := eq_false d1
  by_cases c2 : x.t = 0
  case neg =>
    rw [formE_none (by simp [formN, q, d1, c2])]
    have e' := eq_false c2
    refine wkc (And.intro @aG.eq_1 (And.intro @X.cells_eq (And.intro @dL.eq_1 (And.intro @dB.eq_1 (And.intro @int_beq (And.intro @int_bne (And.intro @tx_beq (And.intro @tx_bne (And.intro @encX_len (And.intro @q (And.intro @a1 (And.intro @c1 @e')))))))))))) ?_
    show retQ _ _ _ _ _
    exact ⟨.inr rfl, _, _, rfl, rfl⟩
  by_cases c3 : x.v = 0
  case neg =>
    rw [formE_none (by simp [formN, q, d1, c2, c3])]
    have e' := eq_false c3
    refine wkc (And.intro @aG.eq_1 (And.intro @X.cells_eq (And.intro @dL.eq_1 (And.intro @dB.eq_1 (And.intro @int_beq (And.intro @int_bne (And.intro @tx_beq (And.intro @tx_bne (And.intro @encX_len (And.intro @q (And.intro @a1 (And.intro @c1 (And.intro @c2 @e'))))))))))))) ?_
    show retQ _ _ _ _ _
    exact ⟨.inr rfl, _, _, rfl, rfl⟩
  by_cases c4 : x.nm = []
  case neg =>
    rw [formE_none (by simp [formN, q, d1, c2, c3, c4])]
    have e' := eq_false c4
    refine wkc (And.intro @aG.eq_1 (And.intro @X.cells_eq (And.intro @dL.eq_1 (And.intro @dB.eq_1 (And.intro @int_beq (And.intro @int_bne (And.intro @tx_beq (And.intro @tx_bne (And.intro @encX_len (And.intro @q (And.intro @a1 (And.intro @c1 (And.intro @c2 (And.intro @c3 @e')))))))))))))) ?_
    show retQ _ _ _ _ _
    exact ⟨.inr rfl, _, _, rfl, rfl⟩
  have hf := formE_some (x := x) (n := arE x.o) (by simp [formN, q, d1, c2, c3, c4])
  rw [hf]
  by_cases hl : (x.args.length : Int) = arE x.o
  case neg =>
    rw [dFalse hl]
    have e' := eq_false hl
    have e2 := e'
    refine wkc (And.intro @aG.eq_1 (And.intro @X.cells_eq (And.intro @dL.eq_1 (And.intro @dB.eq_1 (And.intro @int_beq (And.intro @int_bne (And.intro @tx_beq (And.intro @tx_bne (And.intro @encX_len (And.intro @q (And.intro @a1 (And.intro @c1 (And.intro @c2 (And.intro @c3 (And.intro @c4 (And.intro @len0 (And.intro @e' @e2))))))))))))))))) ?_
    show retQ _ _ _ _ _
    exact ⟨.inr rfl, _, _, rfl, rfl⟩
  rw [dTrue hl]
  have e' := eq_true hl
  have e2 := e'
  refine wkc (And.intro @aG.eq_1 (And.intro @X.cells_eq (And.intro @dL.eq_1 (And.intro @dB.eq_1 (And.intro @int_beq (And.intro @int_bne (And.intro @tx_beq (And.intro @tx_bne (And.intro @encX_len (And.intro @q (And.intro @a1 (And.intro @c1 (And.intro @c2 (And.intro @c3 (And.intro @c4 (And.intro @len0 (And.intro @e' @e2))))))))))))))))) ?_
  apply WP.loop' (I := fun D s => ∃ j : Nat, j + D = x.args.length ∧ (x.args.take j).all formE = true ∧ SE [(1, .ptr 0 0 0), (4, dI j)] [(0, ⟨0, false, x.cells.map .d⟩)] 1 s) (d := x.args.length)
  · exact ⟨0, by simp, by simp, SE.mk (by simp [dI]) (by simp [X.cells_eq, q, c2, c3, c4])⟩
  rintro D _ ⟨j, hj, hno, cc, rfl⟩
  refine wk (And.intro @dI.eq_1 (And.intro @dL.eq_1 (And.intro @X.cells_eq @encX_len))) ?_
  show WP _ _ _ _ _ _
  refine WP.cond _ rfl (fun hb => ?_) (fun hb => ?_)
  · simp at hb
    have hb' : j < x.args.length := by omega
    obtain ⟨d, hd, hdm, hix⟩ := at_lt hb'
    have hd' := encX_at hd
    have hw := w_succ hb' (by omega)
    have hs := all_snoc (p := formE) hd
    have hr := ih d (by have := mem_szX hdm; omega) (by have := mem_szX hdm; unfold MX; omega)
    simp only [aG, X.cells_eq, List.map_cons, List.map_nil, dB] at hr
    cases hz : formE d with
    | true =>
      rw [hz] at hr hs
      refine wkc (And.intro @dI.eq_1 (And.intro @dL.eq_1 (And.intro @X.cells_eq (And.intro @encX_len (And.intro @hix (And.intro @hd' @hr)))))) ?_
      refine loop_next (by simp [hw]; exact Is.rfl) ?_
      exact ⟨D - 1, by omega, j + 1, by omega, by rw [hs, hno]; rfl, SE.mk (by simp [dI, hw]) (by simp [X.cells_eq])⟩
    | false =>
      rw [hz] at hr
      have ha : x.args.all formE = false := by
        cases hq : x.args.all formE with
        | false => rfl
        | true => have := List.all_eq_true.1 hq d hdm; rw [hz] at this; cases this
      rw [ha]
      refine wkc (And.intro @dI.eq_1 (And.intro @dL.eq_1 (And.intro @X.cells_eq (And.intro @encX_len (And.intro @hix (And.intro @hd' @hr)))))) ?_
      show retQ _ _ _ _ _
      exact ⟨.inr rfl, _, _, rfl, rfl⟩
  · simp at hb
    have hje : j = x.args.length := by omega
    rw [hje, List.take_length] at hno
    rw [hno]
    refine wkc (And.intro @dI.eq_1 @dL.eq_1) ?_
    show retQ _ _ _ _ _
    exact ⟨.inr rfl, _, _, rfl, rfl⟩
set_option maxHeartbeats 2000000 in
theorem form_4 {N : Nat} (ih : FormAt N) (x : X) (hN : x.sz < N + 1) (hM : x.sz ≤ MX) (q : x.k = 4) : den Tryz.prog Ob.cfg 143 [aG x.cells] = some (dB (formE x)) := by
  unfold MX at hM
  have hs0 := X.sz_eq x
  have k1 := len_szX x.args
  refine den_wp Tryz.func143 rfl (by kernel_rfl) rfl rfl ?_
  by_cases c1 : x.t = 0
  case neg =>
    rw [formE_none (by simp [formN, q, c1])]
    have e' := eq_false c1
    refine wkc (And.intro @aG.eq_1 (And.intro @X.cells_eq (And.intro @dL.eq_1 (And.intro @dB.eq_1 (And.intro @int_beq (And.intro @int_bne (And.intro @tx_beq (And.intro @tx_bne (And.intro @encX_len (And.intro @q @e')))))))))) ?_
    show retQ _ _ _ _ _
    exact ⟨.inr rfl, _, _, rfl, rfl⟩
  by_cases c2 : x.v = 0
  case neg =>
    rw [formE_none (by simp [formN, q, c1, c2])]
    have e' := eq_false c2
    refine wkc (And.intro @aG.eq_1 (And.intro @X.cells_eq (And.intro @dL.eq_1 (And.intro @dB.eq_1 (And.intro @int_beq (And.intro @int_bne (And.intro @tx_beq (And.intro @tx_bne (And.intro @encX_len (And.intro @q (And.intro @c1 @e'))))))))))) ?_
    show retQ _ _ _ _ _
    exact ⟨.inr rfl, _, _, rfl, rfl⟩
  by_cases c3 : x.o = 0
  case neg =>
    rw [formE_none (by simp [formN, q, c1, c2, c3])]
    have e' := eq_false c3
    refine wkc (And.intro @aG.eq_1 (And.intro @X.cells_eq (And.intro @dL.eq_1 (And.intro @dB.eq_1 (And.intro @int_beq (And.intro @int_bne (And.intro @tx_beq (And.intro @tx_bne (And.intro @encX_len (And.intro @q (And.intro @c1 (And.intro @c2 @e')))))))))))) ?_
    show retQ _ _ _ _ _
    exact ⟨.inr rfl, _, _, rfl, rfl⟩
  by_cases c4 : x.nm = []
  case neg =>
    rw [formE_none (by simp [formN, q, c1, c2, c3, c4])]
    have e' := eq_false c4
    refine wkc (And.intro @aG.eq_1 (And.intro @X.cells_eq (And.intro @dL.eq_1 (And.intro @dB.eq_1 (And.intro @int_beq (And.intro @int_bne (And.intro @tx_beq (And.intro @tx_bne (And.intro @encX_len (And.intro @q (And.intro @c1 (And.intro @c2 (And.intro @c3 @e'))))))))))))) ?_
    show retQ _ _ _ _ _
    exact ⟨.inr rfl, _, _, rfl, rfl⟩
  have hf := formE_some (x := x) (n := 3) (by simp [formN, q, c1, c2, c3, c4])
  rw [hf]
  by_cases hl : (x.args.length : Int) = 3
  case neg =>
    rw [dFalse hl]
    have e' := eq_false hl
    have e2 := e'
    refine wkc (And.intro @aG.eq_1 (And.intro @X.cells_eq (And.intro @dL.eq_1 (And.intro @dB.eq_1 (And.intro @int_beq (And.intro @int_bne (And.intro @tx_beq (And.intro @tx_bne (And.intro @encX_len (And.intro @q (And.intro @c1 (And.intro @c2 (And.intro @c3 (And.intro @c4 (And.intro @len0 (And.intro @e' @e2)))))))))))))))) ?_
    show retQ _ _ _ _ _
    exact ⟨.inr rfl, _, _, rfl, rfl⟩
  rw [dTrue hl]
  have e' := eq_true hl
  have e2 := e'
  refine wkc (And.intro @aG.eq_1 (And.intro @X.cells_eq (And.intro @dL.eq_1 (And.intro @dB.eq_1 (And.intro @int_beq (And.intro @int_bne (And.intro @tx_beq (And.intro @tx_bne (And.intro @encX_len (And.intro @q (And.intro @c1 (And.intro @c2 (And.intro @c3 (And.intro @c4 (And.intro @len0 (And.intro @e' @e2)))))))))))))))) ?_
  apply WP.loop' (I := fun D s => ∃ j : Nat, j + D = x.args.length ∧ (x.args.take j).all formE = true ∧ SE [(1, .ptr 0 0 0), (4, dI j)] [(0, ⟨0, false, x.cells.map .d⟩)] 1 s) (d := x.args.length)
  · exact ⟨0, by simp, by simp, SE.mk (by simp [dI]) (by simp [X.cells_eq, q, c1, c2, c3, c4])⟩
  rintro D _ ⟨j, hj, hno, cc, rfl⟩
  refine wk (And.intro @dI.eq_1 (And.intro @dL.eq_1 (And.intro @X.cells_eq @encX_len))) ?_
  show WP _ _ _ _ _ _
  refine WP.cond _ rfl (fun hb => ?_) (fun hb => ?_)
  · simp at hb
    have hb' : j < x.args.length := by omega
    obtain ⟨d, hd, hdm, hix⟩ := at_lt hb'
    have hd' := encX_at hd
    have hw := w_succ hb' (by omega)
    have hs := all_snoc (p := formE) hd
    have hr := ih d (by have := mem_szX hdm; omega) (by have := mem_szX hdm; unfold MX; omega)
    simp only [aG, X.cells_eq, List.map_cons, List.map_nil, dB] at hr
    cases hz : formE d with
    | true =>
      rw [hz] at hr hs
      refine wkc (And.intro @dI.eq_1 (And.intro @dL.eq_1 (And.intro @X.cells_eq (And.intro @encX_len (And.intro @hix (And.intro @hd' @hr)))))) ?_
      refine loop_next (by simp [hw]; exact Is.rfl) ?_
      exact ⟨D - 1, by omega, j + 1, by omega, by rw [hs, hno]; rfl, SE.mk (by simp [dI, hw]) (by simp [X.cells_eq])⟩
    | false =>
      rw [hz] at hr
      have ha : x.args.all formE = false := by
        cases hq : x.args.all formE with
        | false => rfl
        | true => have := List.all_eq_true.1 hq d hdm; rw [hz] at this; cases this
      rw [ha]
      refine wkc (And.intro @dI.eq_1 (And.intro @dL.eq_1 (And.intro @X.cells_eq (And.intro @encX_len (And.intro @hix (And.intro @hd' @hr)))))) ?_
      show retQ _ _ _ _ _
      exact ⟨.inr rfl, _, _, rfl, rfl⟩
  · simp at hb
    have hje : j = x.args.length := by omega
    rw [hje, List.take_length] at hno
    rw [hno]
    refine wkc (And.intro @dI.eq_1 @dL.eq_1) ?_
    show retQ _ _ _ _ _
    exact ⟨.inr rfl, _, _, rfl, rfl⟩
set_option maxHeartbeats 1000000 in
theorem form143 : ∀ N, FormAt N := by
  intro N
  induction N with
  | zero => intro x h; omega
  | succ N ih =>
  intro x hN hM
  by_cases q1 : x.k = 1
  · exact form_1 ih x hN hM q1
  by_cases q2 : x.k = 2
  · exact form_2 ih x hN hM q2
  by_cases q3 : x.k = 12
  · exact form_12 ih x hN hM q3
  by_cases q4 : x.k = 3
  · exact form_3 ih x hN hM q4
  by_cases q5 : x.k = 4
  · exact form_4 ih x hN hM q5
  rw [formE_none (by simp [formN, q1, q2, q3, q4, q5])]
  refine den_wp Tryz.func143 rfl (by kernel_rfl) rfl rfl ?_
  refine wkc (And.intro @aG.eq_1 (And.intro @X.cells_eq (And.intro @dL.eq_1 (And.intro @dB.eq_1 (And.intro @int_beq (And.intro @q1 (And.intro @q2 (And.intro @q3 (And.intro @q4 @q5))))))))) ?_
  show retQ _ _ _ _ _
  exact ⟨.inr rfl, _, _, rfl, rfl⟩
end Go.Ac
end
