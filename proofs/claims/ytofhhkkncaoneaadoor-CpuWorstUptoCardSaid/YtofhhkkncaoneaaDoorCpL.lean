/- The form of an instruction. -/
import Derived.Test.YtofhhkkncaoneaaDoorAcBM
import Derived.Test.YtofhhkkncaoneaaDoorAcDM
import Derived.Test.YtofhhkkncaoneaaDoorAcGM
import Derived.Test.YtofhhkkncaoneaaDoorAcJM
import Derived.Test.YtofhhkkncaoneaaDoorAcMM
import Derived.Test.YtofhhkkncaoneaaDoorAcOM
import Derived.Test.YtofhhkkncaoneaaDoorAcSM
import Derived.Test.YtofhhkkncaoneaaDoorAcXM
import Derived.Test.YtofhhkkncaoneaaDoorAcUcM
import Derived.Test.YtofhhkkncaoneaaDoorAcThM
import Derived.Test.YtofhhkkncaoneaaDoorCpBM
import Derived.Test.YtofhhkkncaoneaaDoorCpD
import Derived.Test.YtofhhkkncaoneaaDoorCpIM
import Derived.Test.YtofhhkkncaoneaaDoorCpK
import Derived.Calls
import Derived.Orders
import Derived.Laws.World
import Derived.Laws.Sem
import Derived.Laws.Cells
import Derived.Laws.Append
import GoSem.ClaimData
import Derived.Laws.Tables
import Derived.Laws.Slices
import Derived.Laws.Strings
import Derived.Laws.Small
import Derived.KernelRfl
import Derived.Test.YtofhhkkncaoneaaDoorChecked
import Derived.Lib.RuneCount
set_option linter.unusedVariables false
set_option linter.unusedSimpArgs false
set_option maxRecDepth 4000
set_option linter.unusedSimpArgs false
set_option linter.unusedVariables false
namespace Go.Ac
open Go.Proofs

theorem wl1 : IntKind.i64.wrap 1 = 1 := by rfl
theorem wl2 : IntKind.i64.wrap 2 = 2 := by rfl
theorem wl3 : IntKind.i64.wrap 3 = 3 := by rfl
theorem wl4 : IntKind.i64.wrap 4 = 4 := by rfl
def zeroR : Rt := ⟨[], [], [], 0, [], []⟩
def calledR (rs : List Rt) (k : Int) : Rt := if 0 ≤ k ∧ k < rs.length then rs.getD k.toNat zeroR else zeroR
theorem called_den (im : Im) (k : Int) : den Tryd.prog Cp.cfg 65 [aM im, dI k] = some (aR (calledR im.rs k)) := by
  refine den_wp Tryd.func65 rfl (by kernel_rfl) rfl (by simp [aR, Rt.cells]; rfl) ?_
  by_cases h0 : k < 0
  · have e : calledR im.rs k = zeroR := by unfold calledR; rw [if_neg (by omega)]
    rw [e]
    have h0' : (k < 0) = True := by simp [h0]
    refine wkc (And.intro @dI.eq_1 (And.intro @aM.eq_1 (And.intro @Im.cells.eq_1 @h0'))) ?_
    show retQ _ _ _ _ _
    exact ⟨.inr rfl, _, _, rfl, rfl⟩
  · by_cases h1 : k ≥ im.rs.length
    · have e : calledR im.rs k = zeroR := by unfold calledR; rw [if_neg (by omega)]
      rw [e]
      have h0' : (k < 0) = False := by simp [h0]
      have h1' : ((im.rs.length : Int) ≤ k) = True := by simp; omega
      refine wkc (And.intro @dI.eq_1 (And.intro @aM.eq_1 (And.intro @Im.cells.eq_1 (And.intro @h0' @h1')))) ?_
      show retQ _ _ _ _ _
      exact ⟨.inr rfl, _, _, rfl, rfl⟩
    · obtain ⟨j, rfl⟩ : ∃ j : Nat, k = j := ⟨k.toNat, by omega⟩
      obtain ⟨r, hr, hm, hix⟩ := at_lt (l := im.rs) (i := j) (by omega)
      have hr' := encR_at hr
      have e : calledR im.rs j = r := by unfold calledR; rw [if_pos (by omega)]; simp [List.getD, hr]
      rw [e]
      have h0' : ((j : Int) < 0) = False := by simp
      have h1' : ((im.rs.length : Int) ≤ j) = False := by simp; omega
      have h1'' : (im.rs.length ≤ j) = False := by simp; omega
      refine wkc (And.intro @dI.eq_1 (And.intro @aM.eq_1 (And.intro @Im.cells.eq_1 (And.intro @h0' (And.intro @h1' (And.intro @h1'' (And.intro @hix (And.intro @hr' @Rt.cells.eq_1)))))))) ?_
      show retQ _ _ _ _ _
      exact ⟨.inr rfl, _, _, rfl, rfl⟩
def fK (cnt at_ lenC : Int) (k x : Int) : Bool := if k = 0 then decide (x = 0) else if k = 5 then decide (opn x = cnt) else if k = 4 then decide (x > at_) && decide (x ≤ lenC) else true
def acc4 (f : Int → Int → Bool) (k0 k1 k2 k3 a b c d : Int) : Nat → Bool
  | 0 => true | 1 => f k0 a | 2 => f k0 a && f k1 b | 3 => f k0 a && f k1 b && f k2 c | _ => f k0 a && f k1 b && f k2 c && f k3 d
def kO (op : Int) (j : Nat) : Int := (ksO op).getD j 0
def formB (at_ lenC : Int) (i : I) : Bool := acc4 (fK (cnO i.op) at_ lenC) (kO i.op 0) (kO i.op 1) (kO i.op 2) (kO i.op 3) i.a i.b i.c i.d 4
theorem rowO_eq {op : Int} (h : IsO op) : rowO op = .agg [.d (.str (nmO op)), dI (kO op 0), dI (kO op 1), dI (kO op 2), dI (kO op 3), dI (cnO op)] := by
  rcases h with rfl | rfl | rfl | rfl | rfl | rfl | rfl | rfl | rfl | rfl <;> rfl
set_option maxHeartbeats 8000000 in
theorem form_den (r : Rt) (at_ : Int) (i : I) (h : IsO i.op) : den Tryd.prog Cp.cfg 49 [aR r, dI at_, aI i] = some (dB (formB at_ r.code.length i)) := by
  have hk := known_den h
  have hf := fields_den i
  have ho := opn_den
  rw [rowO_eq h] at hk
  simp only [dI, dB, aI, I.cells, List.map_cons, List.map_nil] at hk hf ho
  unfold formB
  obtain ⟨op, a, b, c, d⟩ := i
  simp only at h hk hf ⊢
  generalize kO op 0 = k0 at *
  generalize kO op 1 = k1 at *
  generalize kO op 2 = k2 at *
  generalize kO op 3 = k3 at *
  generalize cnO op = cnt at *
  refine den_wp Tryd.func49 rfl (by kernel_rfl) rfl rfl ?_
  refine wkc (And.intro @dI.eq_1 (And.intro @aR.eq_1 (And.intro @aI.eq_1 (And.intro @I.cells.eq_1 (And.intro @Rt.cells.eq_1 (And.intro @hk @hf)))))) ?_
  apply WP.loop' (I := fun D s => ∃ i : Nat, i + D = 4 ∧ SE [(1, dI at_), (3, .ptr 0 0 0), (7, .ptr 2 2 0), (8, dB (acc4 (fK cnt at_ r.code.length) k0 k1 k2 k3 a b c d i)), (20, .agg [dI a, dI b, dI c, dI d]), (21, dI i)] [(0, ⟨0, false, r.cells.map .d⟩), (1, ⟨1, false, [dI op, dI a, dI b, dI c, dI d]⟩), (2, ⟨2, false, [.d (.str (nmO op)), dI k0, dI k1, dI k2, dI k3, dI cnt]⟩)] 3 s) (d := 4)
  · exact ⟨0, by simp, SE.mk (by simp [dI, dB, acc4]) (by simp [dI, Rt.cells])⟩
  rintro D _ ⟨i, hi, cc, rfl⟩
  have hi' : i = 0 ∨ i = 1 ∨ i = 2 ∨ i = 3 ∨ i = 4 := by omega
  rcases hi' with rfl | rfl | rfl | rfl | rfl

  · have hs : acc4 (fK cnt at_ r.code.length) k0 k1 k2 k3 a b c d 1 = (acc4 (fK cnt at_ r.code.length) k0 k1 k2 k3 a b c d 0 && fK cnt at_ r.code.length k0 a) := by simp [acc4]
    generalize acc4 (fK cnt at_ r.code.length) k0 k1 k2 k3 a b c d 0 = ok at hs ⊢
    have fin : ∀ b' : Bool, b' = (ok && fK cnt at_ r.code.length k0 a) → b' = acc4 (fK cnt at_ r.code.length) k0 k1 k2 k3 a b c d 1 := fun b' hb' => by rw [hs]; exact hb'
    by_cases q0 : k0 = 0
    · subst q0
      cases ok
      all_goals
        refine wkc (And.intro @dI.eq_1 (And.intro @dB.eq_1 @Rt.cells.eq_1)) ?_
        refine loop_next (by simp; exact Is.rfl) ?_
        exact ⟨3, by omega, 1, by omega, SE.mk (by simp [dI, dB, hs, wl1, wl2, wl3, wl4, fK, int_beq]) (by simp [dI, Rt.cells])⟩
    by_cases q5 : k0 = 5
    · subst q5
      cases ok
      all_goals
        refine wkc (And.intro @dI.eq_1 (And.intro @dB.eq_1 (And.intro @Rt.cells.eq_1 @ho))) ?_
        refine loop_next (by simp; exact Is.rfl) ?_
        exact ⟨3, by omega, 1, by omega, SE.mk (by simp [dI, dB, hs, wl1, wl2, wl3, wl4, fK, int_beq]) (by simp [dI, Rt.cells])⟩
    by_cases q4 : k0 = 4
    · subst q4
      by_cases g1 : at_ < a
      · have g1' : (a > at_) = True := by simp [g1]
        cases ok
        all_goals
          refine wkc (And.intro @dI.eq_1 (And.intro @dB.eq_1 (And.intro @Rt.cells.eq_1 (And.intro @g1 @g1')))) ?_
          refine loop_next (by simp; exact Is.rfl) ?_
          exact ⟨3, by omega, 1, by omega, SE.mk (by simp [dI, dB, hs, wl1, wl2, wl3, wl4, fK, int_beq, g1]) (by simp [dI, Rt.cells])⟩
      · have g1' : (a > at_) = False := by simp; omega
        cases ok
        all_goals
          refine wkc (And.intro @dI.eq_1 (And.intro @dB.eq_1 (And.intro @Rt.cells.eq_1 (And.intro @g1 @g1')))) ?_
          refine loop_next (by simp; exact Is.rfl) ?_
          exact ⟨3, by omega, 1, by omega, SE.mk (by simp [dI, dB, hs, wl1, wl2, wl3, wl4, fK, int_beq, g1]) (by simp [dI, Rt.cells])⟩
    · refine wkc (And.intro @dI.eq_1 (And.intro @dB.eq_1 (And.intro @Rt.cells.eq_1 (And.intro @q0 (And.intro @q4 (And.intro @q5 @int_beq)))))) ?_
      refine loop_next (by simp; exact Is.rfl) ?_
      exact ⟨3, by omega, 1, by omega, SE.mk (by simp [dI, dB, hs, wl1, wl2, wl3, wl4, fK, q0, q4, q5]) (by simp [dI, Rt.cells])⟩
  · have hs : acc4 (fK cnt at_ r.code.length) k0 k1 k2 k3 a b c d 2 = (acc4 (fK cnt at_ r.code.length) k0 k1 k2 k3 a b c d 1 && fK cnt at_ r.code.length k1 b) := by simp [acc4]
    generalize acc4 (fK cnt at_ r.code.length) k0 k1 k2 k3 a b c d 1 = ok at hs ⊢
    have fin : ∀ b' : Bool, b' = (ok && fK cnt at_ r.code.length k1 b) → b' = acc4 (fK cnt at_ r.code.length) k0 k1 k2 k3 a b c d 2 := fun b' hb' => by rw [hs]; exact hb'
    by_cases q0 : k1 = 0
    · subst q0
      cases ok
      all_goals
        refine wkc (And.intro @dI.eq_1 (And.intro @dB.eq_1 @Rt.cells.eq_1)) ?_
        refine loop_next (by simp; exact Is.rfl) ?_
        exact ⟨2, by omega, 2, by omega, SE.mk (by simp [dI, dB, hs, wl1, wl2, wl3, wl4, fK, int_beq]) (by simp [dI, Rt.cells])⟩
    by_cases q5 : k1 = 5
    · subst q5
      cases ok
      all_goals
        refine wkc (And.intro @dI.eq_1 (And.intro @dB.eq_1 (And.intro @Rt.cells.eq_1 @ho))) ?_
        refine loop_next (by simp; exact Is.rfl) ?_
        exact ⟨2, by omega, 2, by omega, SE.mk (by simp [dI, dB, hs, wl1, wl2, wl3, wl4, fK, int_beq]) (by simp [dI, Rt.cells])⟩
    by_cases q4 : k1 = 4
    · subst q4
      by_cases g1 : at_ < b
      · have g1' : (b > at_) = True := by simp [g1]
        cases ok
        all_goals
          refine wkc (And.intro @dI.eq_1 (And.intro @dB.eq_1 (And.intro @Rt.cells.eq_1 (And.intro @g1 @g1')))) ?_
          refine loop_next (by simp; exact Is.rfl) ?_
          exact ⟨2, by omega, 2, by omega, SE.mk (by simp [dI, dB, hs, wl1, wl2, wl3, wl4, fK, int_beq, g1]) (by simp [dI, Rt.cells])⟩
      · have g1' : (b > at_) = False := by simp; omega
        cases ok
        all_goals
          refine wkc (And.intro @dI.eq_1 (And.intro @dB.eq_1 (And.intro @Rt.cells.eq_1 (And.intro @g1 @g1')))) ?_
          refine loop_next (by simp; exact Is.rfl) ?_
          exact ⟨2, by omega, 2, by omega, SE.mk (by simp [dI, dB, hs, wl1, wl2, wl3, wl4, fK, int_beq, g1]) (by simp [dI, Rt.cells])⟩
    · refine wkc (And.intro @dI.eq_1 (And.intro @dB.eq_1 (And.intro @Rt.cells.eq_1 (And.intro @q0 (And.intro @q4 (And.intro @q5 @int_beq)))))) ?_
      refine loop_next (by simp; exact Is.rfl) ?_
      exact ⟨2, by omega, 2, by omega, SE.mk (by simp [dI, dB, hs, wl1, wl2, wl3, wl4, fK, q0, q4, q5]) (by simp [dI, Rt.cells])⟩
  · have hs : acc4 (fK cnt at_ r.code.length) k0 k1 k2 k3 a b c d 3 = (acc4 (fK cnt at_ r.code.length) k0 k1 k2 k3 a b c d 2 && fK cnt at_ r.code.length k2 c) := by simp [acc4]
    generalize acc4 (fK cnt at_ r.code.length) k0 k1 k2 k3 a b c d 2 = ok at hs ⊢
    have fin : ∀ b' : Bool, b' = (ok && fK cnt at_ r.code.length k2 c) → b' = acc4 (fK cnt at_ r.code.length) k0 k1 k2 k3 a b c d 3 := fun b' hb' => by rw [hs]; exact hb'
    by_cases q0 : k2 = 0
    · subst q0
      cases ok
      all_goals
        refine wkc (And.intro @dI.eq_1 (And.intro @dB.eq_1 @Rt.cells.eq_1)) ?_
        refine loop_next (by simp; exact Is.rfl) ?_
        exact ⟨1, by omega, 3, by omega, SE.mk (by simp [dI, dB, hs, wl1, wl2, wl3, wl4, fK, int_beq]) (by simp [dI, Rt.cells])⟩
    by_cases q5 : k2 = 5
    · subst q5
      cases ok
      all_goals
        refine wkc (And.intro @dI.eq_1 (And.intro @dB.eq_1 (And.intro @Rt.cells.eq_1 @ho))) ?_
        refine loop_next (by simp; exact Is.rfl) ?_
        exact ⟨1, by omega, 3, by omega, SE.mk (by simp [dI, dB, hs, wl1, wl2, wl3, wl4, fK, int_beq]) (by simp [dI, Rt.cells])⟩
    by_cases q4 : k2 = 4
    · subst q4
      by_cases g1 : at_ < c
      · have g1' : (c > at_) = True := by simp [g1]
        cases ok
        all_goals
          refine wkc (And.intro @dI.eq_1 (And.intro @dB.eq_1 (And.intro @Rt.cells.eq_1 (And.intro @g1 @g1')))) ?_
          refine loop_next (by simp; exact Is.rfl) ?_
          exact ⟨1, by omega, 3, by omega, SE.mk (by simp [dI, dB, hs, wl1, wl2, wl3, wl4, fK, int_beq, g1]) (by simp [dI, Rt.cells])⟩
      · have g1' : (c > at_) = False := by simp; omega
        cases ok
        all_goals
          refine wkc (And.intro @dI.eq_1 (And.intro @dB.eq_1 (And.intro @Rt.cells.eq_1 (And.intro @g1 @g1')))) ?_
          refine loop_next (by simp; exact Is.rfl) ?_
          exact ⟨1, by omega, 3, by omega, SE.mk (by simp [dI, dB, hs, wl1, wl2, wl3, wl4, fK, int_beq, g1]) (by simp [dI, Rt.cells])⟩
    · refine wkc (And.intro @dI.eq_1 (And.intro @dB.eq_1 (And.intro @Rt.cells.eq_1 (And.intro @q0 (And.intro @q4 (And.intro @q5 @int_beq)))))) ?_
      refine loop_next (by simp; exact Is.rfl) ?_
      exact ⟨1, by omega, 3, by omega, SE.mk (by simp [dI, dB, hs, wl1, wl2, wl3, wl4, fK, q0, q4, q5]) (by simp [dI, Rt.cells])⟩
  · have hs : acc4 (fK cnt at_ r.code.length) k0 k1 k2 k3 a b c d 4 = (acc4 (fK cnt at_ r.code.length) k0 k1 k2 k3 a b c d 3 && fK cnt at_ r.code.length k3 d) := by simp [acc4]
    generalize acc4 (fK cnt at_ r.code.length) k0 k1 k2 k3 a b c d 3 = ok at hs ⊢
    have fin : ∀ b' : Bool, b' = (ok && fK cnt at_ r.code.length k3 d) → b' = acc4 (fK cnt at_ r.code.length) k0 k1 k2 k3 a b c d 4 := fun b' hb' => by rw [hs]; exact hb'
    by_cases q0 : k3 = 0
    · subst q0
      cases ok
      all_goals
        refine wkc (And.intro @dI.eq_1 (And.intro @dB.eq_1 @Rt.cells.eq_1)) ?_
        refine loop_next (by simp; exact Is.rfl) ?_
        exact ⟨0, by omega, 4, by omega, SE.mk (by simp [dI, dB, hs, wl1, wl2, wl3, wl4, fK, int_beq]) (by simp [dI, Rt.cells])⟩
    by_cases q5 : k3 = 5
    · subst q5
      cases ok
      all_goals
        refine wkc (And.intro @dI.eq_1 (And.intro @dB.eq_1 (And.intro @Rt.cells.eq_1 @ho))) ?_
        refine loop_next (by simp; exact Is.rfl) ?_
        exact ⟨0, by omega, 4, by omega, SE.mk (by simp [dI, dB, hs, wl1, wl2, wl3, wl4, fK, int_beq]) (by simp [dI, Rt.cells])⟩
    by_cases q4 : k3 = 4
    · subst q4
      by_cases g1 : at_ < d
      · have g1' : (d > at_) = True := by simp [g1]
        cases ok
        all_goals
          refine wkc (And.intro @dI.eq_1 (And.intro @dB.eq_1 (And.intro @Rt.cells.eq_1 (And.intro @g1 @g1')))) ?_
          refine loop_next (by simp; exact Is.rfl) ?_
          exact ⟨0, by omega, 4, by omega, SE.mk (by simp [dI, dB, hs, wl1, wl2, wl3, wl4, fK, int_beq, g1]) (by simp [dI, Rt.cells])⟩
      · have g1' : (d > at_) = False := by simp; omega
        cases ok
        all_goals
          refine wkc (And.intro @dI.eq_1 (And.intro @dB.eq_1 (And.intro @Rt.cells.eq_1 (And.intro @g1 @g1')))) ?_
          refine loop_next (by simp; exact Is.rfl) ?_
          exact ⟨0, by omega, 4, by omega, SE.mk (by simp [dI, dB, hs, wl1, wl2, wl3, wl4, fK, int_beq, g1]) (by simp [dI, Rt.cells])⟩
    · refine wkc (And.intro @dI.eq_1 (And.intro @dB.eq_1 (And.intro @Rt.cells.eq_1 (And.intro @q0 (And.intro @q4 (And.intro @q5 @int_beq)))))) ?_
      refine loop_next (by simp; exact Is.rfl) ?_
      exact ⟨0, by omega, 4, by omega, SE.mk (by simp [dI, dB, hs, wl1, wl2, wl3, wl4, fK, q0, q4, q5]) (by simp [dI, Rt.cells])⟩
  · refine wkc (And.intro @dI.eq_1 @dB.eq_1) ?_
    show retQ _ _ _ _ _
    exact ⟨.inr rfl, _, _, rfl, rfl⟩
end Go.Ac
