/- From the call by data to the given statement for the laws of an image, rows and memory. -/
import Derived.Test.YtjkcpgkpmklcaaaGreatDoorCtLM
set_option linter.unusedVariables false
set_option linter.unusedSimpArgs false
section
set_option maxRecDepth 4000
namespace Go.Ac
open Go.Proofs

def rK (k : Int) (r q : Rt) (kind x : Int) : Bool :=
 if kind = 1 then wthn x 1 r.regs else if kind = 2 then wthn x 1 r.ini.length else if kind = 3 then decide (-32768 ≤ x) && decide (x ≤ 32767) else if kind = 6 then decide (0 ≤ x) && decide (x < k)
 else if kind = 7 then wthn x q.ini.length r.ini.length else if kind = 8 then wthn x q.inn.length r.regs else if kind = 9 then wthn x q.out.length r.regs else true
def rangB (rs : List Rt) (k : Int) (r : Rt) (i : I) : Bool := acc4 (rK k r (calledR rs i.a)) (kO i.op 0) (kO i.op 1) (kO i.op 2) (kO i.op 3) i.a i.b i.c i.d 4
set_option maxHeartbeats 8000000 in
theorem ranges_den (im : Im) (k : Nat) (r : Rt) (i : I) (h : IsO i.op) (hr : im.rs[k]? = some r) (hl : im.rs.length ≤ MX) (hil : r.ini.length ≤ MX) (hreg : r.regs ≤ 9223372036854775807) : den Tryz.prog Cp.cfg 48 [aM im, dI k, aI i] = some (dB (rangB im.rs k r i)) := by
 have hk := known_den h
 have hf := fields_den i
 have hc := called_den im
 have hw := wthn_den
 unfold MX at hl hil
 have h1 : ∀ x, den Tryz.prog Cp.cfg 64 [dI x, dI 1, dI r.regs] = some (dB (wthn x 1 r.regs)) := fun x => wthn_den x 1 _ (by omega) hreg
 have h2 : ∀ x, den Tryz.prog Cp.cfg 64 [dI x, dI 1, dI r.ini.length] = some (dB (wthn x 1 r.ini.length)) := fun x => wthn_den x 1 _ (by omega) (by omega)
 have h7 : ∀ x (n : Nat), den Tryz.prog Cp.cfg 64 [dI x, dI n, dI r.ini.length] = some (dB (wthn x n r.ini.length)) := fun x n => wthn_den x n _ (by omega) (by omega)
 have h8 : ∀ x (n : Nat), den Tryz.prog Cp.cfg 64 [dI x, dI n, dI r.regs] = some (dB (wthn x n r.regs)) := fun x n => wthn_den x n _ (by omega) hreg
 rw [rowO_eq h] at hk
 have hkl : k < im.rs.length := by rcases Nat.lt_or_ge k im.rs.length with h | h; exact h; rw [List.getElem?_eq_none h] at hr; cases hr
 have hix := idx_lt hkl
 have hr' := encR_at hr
 simp only [dI, dB, aI, aM, aR, Im.cells, Rt.cells, I.cells, List.map_cons, List.map_nil] at hk hf hc h1 h2 h7 h8
 unfold rangB
 obtain ⟨op, a, b, c, d⟩ := i
 simp only at h hk hf ⊢
 have hca := hc a
 generalize calledR im.rs a = q at *
 generalize kO op 0 = k0 at *
 generalize kO op 1 = k1 at *
 generalize kO op 2 = k2 at *
 generalize kO op 3 = k3 at *
 generalize cnO op = cnt at *
 refine den_wp Tryz.func48 rfl (by kernel_rfl) rfl rfl ?_
 refine wkc (jn @dI.eq_1 (jn @aM.eq_1 (jn @Im.cells.eq_1 (jn @aI.eq_1 (jn @I.cells.eq_1 (jn @Rt.cells.eq_1 (jn @hk (jn @hf (jn @hix @hr'))))))))) ?_
 apply WP.loop' (I := fun D s => ∃ i : Nat, i + D = 4 ∧ SE [(1, dI k), (3, .ptr 0 0 0), (5, .ptr 1 1 0), (7, .ptr 2 2 0), (8, .ptr 3 3 0), (10, dB (acc4 (rK k r q) k0 k1 k2 k3 a b c d i)), (25, .agg [dI a, dI b, dI c, dI d]), (26, dI i)] [(0, ⟨0, false, im.cells.map .d⟩), (1, ⟨1, false, [dI op, dI a, dI b, dI c, dI d]⟩), (2, ⟨2, false, r.cells.map .d⟩), (3, ⟨3, false, [.d (.str (nmO op)), dI k0, dI k1, dI k2, dI k3, dI cnt]⟩)] 4 s) (d := 4)
 ·exact ⟨0, by simp, SE.mk (by simp [dI, dB, acc4]) (by simp [dI, Rt.cells, Im.cells])⟩
 rintro D _ ⟨i, hi, cc, rfl⟩
 have hi' : i = 0 ∨ i = 1 ∨ i = 2 ∨ i = 3 ∨ i = 4 := by omega
 rcases hi' with rfl | rfl | rfl | rfl | rfl

 ·have hs : acc4 (rK k r q) k0 k1 k2 k3 a b c d 1 = (acc4 (rK k r q) k0 k1 k2 k3 a b c d 0 && rK k r q k0 a) := by simp [acc4]
  generalize acc4 (rK k r q) k0 k1 k2 k3 a b c d 0 = ok at hs ⊢
  by_cases q1 : k0 = 1
  ·subst q1
   cases ok
   all_goals
    refine wkc (jn @dI.eq_1 (jn @dB.eq_1 (jn @Rt.cells.eq_1 (jn @Im.cells.eq_1 @h1)))) ?_
    refine loop_next (by simp; exact Is.rfl) ?_
    exact ⟨3, by omega, 1, by omega, SE.mk (by simp [dI, dB, hs, wl1, wl2, wl3, wl4, rK, int_beq]) (by simp [dI, Rt.cells, Im.cells])⟩
  by_cases q2 : k0 = 2
  ·subst q2
   cases ok
   all_goals
    refine wkc (jn @dI.eq_1 (jn @dB.eq_1 (jn @Rt.cells.eq_1 (jn @Im.cells.eq_1 @h2)))) ?_
    refine loop_next (by simp; exact Is.rfl) ?_
    exact ⟨3, by omega, 1, by omega, SE.mk (by simp [dI, dB, hs, wl1, wl2, wl3, wl4, rK, int_beq]) (by simp [dI, Rt.cells, Im.cells])⟩
  by_cases q7 : k0 = 7
  ·subst q7
   cases ok
   all_goals
    refine wkc (jn @dI.eq_1 (jn @dB.eq_1 (jn @Rt.cells.eq_1 (jn @Im.cells.eq_1 (jn @hca @h7))))) ?_
    refine loop_next (by simp; exact Is.rfl) ?_
    exact ⟨3, by omega, 1, by omega, SE.mk (by simp [dI, dB, hs, wl1, wl2, wl3, wl4, rK, int_beq]) (by simp [dI, Rt.cells, Im.cells])⟩
  by_cases q8 : k0 = 8
  ·subst q8
   cases ok
   all_goals
    refine wkc (jn @dI.eq_1 (jn @dB.eq_1 (jn @Rt.cells.eq_1 (jn @Im.cells.eq_1 (jn @hca @h8))))) ?_
    refine loop_next (by simp; exact Is.rfl) ?_
    exact ⟨3, by omega, 1, by omega, SE.mk (by simp [dI, dB, hs, wl1, wl2, wl3, wl4, rK, int_beq]) (by simp [dI, Rt.cells, Im.cells])⟩
  by_cases q9 : k0 = 9
  ·subst q9
   cases ok
   all_goals
    refine wkc (jn @dI.eq_1 (jn @dB.eq_1 (jn @Rt.cells.eq_1 (jn @Im.cells.eq_1 (jn @hca @h8))))) ?_
    refine loop_next (by simp; exact Is.rfl) ?_
    exact ⟨3, by omega, 1, by omega, SE.mk (by simp [dI, dB, hs, wl1, wl2, wl3, wl4, rK, int_beq]) (by simp [dI, Rt.cells, Im.cells])⟩
  by_cases q3 : k0 = 3
  ·subst q3
   by_cases g1 : -32768 ≤ a
   ·have g1' : (-32768 ≤ a) = True := by simp; omega
    cases ok
    all_goals
     refine wkc (jn @dI.eq_1 (jn @dB.eq_1 (jn @Rt.cells.eq_1 (jn @Im.cells.eq_1 @g1')))) ?_
     refine loop_next (by simp; exact Is.rfl) ?_
     exact ⟨3, by omega, 1, by omega, SE.mk (by simp [dI, dB, hs, wl1, wl2, wl3, wl4, rK, int_beq, g1']) (by simp [dI, Rt.cells, Im.cells])⟩
   ·have g1' : (-32768 ≤ a) = False := by simp; omega
    cases ok
    all_goals
     refine wkc (jn @dI.eq_1 (jn @dB.eq_1 (jn @Rt.cells.eq_1 (jn @Im.cells.eq_1 @g1')))) ?_
     refine loop_next (by simp; exact Is.rfl) ?_
     exact ⟨3, by omega, 1, by omega, SE.mk (by simp [dI, dB, hs, wl1, wl2, wl3, wl4, rK, int_beq, g1']) (by simp [dI, Rt.cells, Im.cells])⟩
  by_cases q6 : k0 = 6
  ·subst q6
   by_cases g1 : 0 ≤ a
   ·have g1' : (0 ≤ a) = True := by simp; omega
    cases ok
    all_goals
     refine wkc (jn @dI.eq_1 (jn @dB.eq_1 (jn @Rt.cells.eq_1 (jn @Im.cells.eq_1 @g1')))) ?_
     refine loop_next (by simp; exact Is.rfl) ?_
     exact ⟨3, by omega, 1, by omega, SE.mk (by simp [dI, dB, hs, wl1, wl2, wl3, wl4, rK, int_beq, g1']) (by simp [dI, Rt.cells, Im.cells])⟩
   ·have g1' : (0 ≤ a) = False := by simp; omega
    cases ok
    all_goals
     refine wkc (jn @dI.eq_1 (jn @dB.eq_1 (jn @Rt.cells.eq_1 (jn @Im.cells.eq_1 @g1')))) ?_
     refine loop_next (by simp; exact Is.rfl) ?_
     exact ⟨3, by omega, 1, by omega, SE.mk (by simp [dI, dB, hs, wl1, wl2, wl3, wl4, rK, int_beq, g1']) (by simp [dI, Rt.cells, Im.cells])⟩
  ·refine wkc (jn @dI.eq_1 (jn @dB.eq_1 (jn @Rt.cells.eq_1 (jn @Im.cells.eq_1 (jn @q1 (jn @q2 (jn @q3 (jn @q6 (jn @q7 (jn @q8 (jn @q9 @int_beq))))))))))) ?_
   refine loop_next (by simp; exact Is.rfl) ?_
   exact ⟨3, by omega, 1, by omega, SE.mk (by simp [dI, dB, hs, wl1, wl2, wl3, wl4, rK, int_beq, q1, q2, q3, q6, q7, q8, q9]) (by simp [dI, Rt.cells, Im.cells])⟩
 ·have hs : acc4 (rK k r q) k0 k1 k2 k3 a b c d 2 = (acc4 (rK k r q) k0 k1 k2 k3 a b c d 1 && rK k r q k1 b) := by simp [acc4]
  generalize acc4 (rK k r q) k0 k1 k2 k3 a b c d 1 = ok at hs ⊢
  by_cases q1 : k1 = 1
  ·subst q1
   cases ok
   all_goals
    refine wkc (jn @dI.eq_1 (jn @dB.eq_1 (jn @Rt.cells.eq_1 (jn @Im.cells.eq_1 @h1)))) ?_
    refine loop_next (by simp; exact Is.rfl) ?_
    exact ⟨2, by omega, 2, by omega, SE.mk (by simp [dI, dB, hs, wl1, wl2, wl3, wl4, rK, int_beq]) (by simp [dI, Rt.cells, Im.cells])⟩
  by_cases q2 : k1 = 2
  ·subst q2
   cases ok
   all_goals
    refine wkc (jn @dI.eq_1 (jn @dB.eq_1 (jn @Rt.cells.eq_1 (jn @Im.cells.eq_1 @h2)))) ?_
    refine loop_next (by simp; exact Is.rfl) ?_
    exact ⟨2, by omega, 2, by omega, SE.mk (by simp [dI, dB, hs, wl1, wl2, wl3, wl4, rK, int_beq]) (by simp [dI, Rt.cells, Im.cells])⟩
  by_cases q7 : k1 = 7
  ·subst q7
   cases ok
   all_goals
    refine wkc (jn @dI.eq_1 (jn @dB.eq_1 (jn @Rt.cells.eq_1 (jn @Im.cells.eq_1 (jn @hca @h7))))) ?_
    refine loop_next (by simp; exact Is.rfl) ?_
    exact ⟨2, by omega, 2, by omega, SE.mk (by simp [dI, dB, hs, wl1, wl2, wl3, wl4, rK, int_beq]) (by simp [dI, Rt.cells, Im.cells])⟩
  by_cases q8 : k1 = 8
  ·subst q8
   cases ok
   all_goals
    refine wkc (jn @dI.eq_1 (jn @dB.eq_1 (jn @Rt.cells.eq_1 (jn @Im.cells.eq_1 (jn @hca @h8))))) ?_
    refine loop_next (by simp; exact Is.rfl) ?_
    exact ⟨2, by omega, 2, by omega, SE.mk (by simp [dI, dB, hs, wl1, wl2, wl3, wl4, rK, int_beq]) (by simp [dI, Rt.cells, Im.cells])⟩
  by_cases q9 : k1 = 9
  ·subst q9
   cases ok
   all_goals
    refine wkc (jn @dI.eq_1 (jn @dB.eq_1 (jn @Rt.cells.eq_1 (jn @Im.cells.eq_1 (jn @hca @h8))))) ?_
    refine loop_next (by simp; exact Is.rfl) ?_
    exact ⟨2, by omega, 2, by omega, SE.mk (by simp [dI, dB, hs, wl1, wl2, wl3, wl4, rK, int_beq]) (by simp [dI, Rt.cells, Im.cells])⟩
  by_cases q3 : k1 = 3
  ·subst q3
   by_cases g1 : -32768 ≤ b
   ·have g1' : (-32768 ≤ b) = True := by simp; omega
    cases ok
    all_goals
     refine wkc (jn @dI.eq_1 (jn @dB.eq_1 (jn @Rt.cells.eq_1 (jn @Im.cells.eq_1 @g1')))) ?_
     refine loop_next (by simp; exact Is.rfl) ?_
     exact ⟨2, by omega, 2, by omega, SE.mk (by simp [dI, dB, hs, wl1, wl2, wl3, wl4, rK, int_beq, g1']) (by simp [dI, Rt.cells, Im.cells])⟩
   ·have g1' : (-32768 ≤ b) = False := by simp; omega
    cases ok
    all_goals
     refine wkc (jn @dI.eq_1 (jn @dB.eq_1 (jn @Rt.cells.eq_1 (jn @Im.cells.eq_1 @g1')))) ?_
     refine loop_next (by simp; exact Is.rfl) ?_
     exact ⟨2, by omega, 2, by omega, SE.mk (by simp [dI, dB, hs, wl1, wl2, wl3, wl4, rK, int_beq, g1']) (by simp [dI, Rt.cells, Im.cells])⟩
  by_cases q6 : k1 = 6
  ·subst q6
   by_cases g1 : 0 ≤ b
   ·have g1' : (0 ≤ b) = True := by simp; omega
    cases ok
    all_goals
     refine wkc (jn @dI.eq_1 (jn @dB.eq_1 (jn @Rt.cells.eq_1 (jn @Im.cells.eq_1 @g1')))) ?_
     refine loop_next (by simp; exact Is.rfl) ?_
     exact ⟨2, by omega, 2, by omega, SE.mk (by simp [dI, dB, hs, wl1, wl2, wl3, wl4, rK, int_beq, g1']) (by simp [dI, Rt.cells, Im.cells])⟩
   ·have g1' : (0 ≤ b) = False := by simp; omega
    cases ok
    all_goals
     refine wkc (jn @dI.eq_1 (jn @dB.eq_1 (jn @Rt.cells.eq_1 (jn @Im.cells.eq_1 @g1')))) ?_
     refine loop_next (by simp; exact Is.rfl) ?_
     exact ⟨2, by omega, 2, by omega, SE.mk (by simp [dI, dB, hs, wl1, wl2, wl3, wl4, rK, int_beq, g1']) (by simp [dI, Rt.cells, Im.cells])⟩
  ·refine wkc (jn @dI.eq_1 (jn @dB.eq_1 (jn @Rt.cells.eq_1 (jn @Im.cells.eq_1 (jn @q1 (jn @q2 (jn @q3 (jn @q6 (jn @q7 (jn @q8 (jn @q9 @int_beq))))))))))) ?_
   refine loop_next (by simp; exact Is.rfl) ?_
   exact ⟨2, by omega, 2, by omega, SE.mk (by simp [dI, dB, hs, wl1, wl2, wl3, wl4, rK, int_beq, q1, q2, q3, q6, q7, q8, q9]) (by simp [dI, Rt.cells, Im.cells])⟩
 ·have hs : acc4 (rK k r q) k0 k1 k2 k3 a b c d 3 = (acc4 (rK k r q) k0 k1 k2 k3 a b c d 2 && rK k r q k2 c) := by simp [acc4]
  generalize acc4 (rK k r q) k0 k1 k2 k3 a b c d 2 = ok at hs ⊢
  by_cases q1 : k2 = 1
  ·subst q1
   cases ok
   all_goals
    refine wkc (jn @dI.eq_1 (jn @dB.eq_1 (jn @Rt.cells.eq_1 (jn @Im.cells.eq_1 @h1)))) ?_
    refine loop_next (by simp; exact Is.rfl) ?_
    exact ⟨1, by omega, 3, by omega, SE.mk (by simp [dI, dB, hs, wl1, wl2, wl3, wl4, rK, int_beq]) (by simp [dI, Rt.cells, Im.cells])⟩
  by_cases q2 : k2 = 2
  ·subst q2
   cases ok
   all_goals
    refine wkc (jn @dI.eq_1 (jn @dB.eq_1 (jn @Rt.cells.eq_1 (jn @Im.cells.eq_1 @h2)))) ?_
    refine loop_next (by simp; exact Is.rfl) ?_
    exact ⟨1, by omega, 3, by omega, SE.mk (by simp [dI, dB, hs, wl1, wl2, wl3, wl4, rK, int_beq]) (by simp [dI, Rt.cells, Im.cells])⟩
  by_cases q7 : k2 = 7
  ·subst q7
   cases ok
   all_goals
    refine wkc (jn @dI.eq_1 (jn @dB.eq_1 (jn @Rt.cells.eq_1 (jn @Im.cells.eq_1 (jn @hca @h7))))) ?_
    refine loop_next (by simp; exact Is.rfl) ?_
    exact ⟨1, by omega, 3, by omega, SE.mk (by simp [dI, dB, hs, wl1, wl2, wl3, wl4, rK, int_beq]) (by simp [dI, Rt.cells, Im.cells])⟩
  by_cases q8 : k2 = 8
  ·subst q8
   cases ok
   all_goals
    refine wkc (jn @dI.eq_1 (jn @dB.eq_1 (jn @Rt.cells.eq_1 (jn @Im.cells.eq_1 (jn @hca @h8))))) ?_
    refine loop_next (by simp; exact Is.rfl) ?_
    exact ⟨1, by omega, 3, by omega, SE.mk (by simp [dI, dB, hs, wl1, wl2, wl3, wl4, rK, int_beq]) (by simp [dI, Rt.cells, Im.cells])⟩
  by_cases q9 : k2 = 9
  ·subst q9
   cases ok
   all_goals
    refine wkc (jn @dI.eq_1 (jn @dB.eq_1 (jn @Rt.cells.eq_1 (jn @Im.cells.eq_1 (jn @hca @h8))))) ?_
    refine loop_next (by simp; exact Is.rfl) ?_
    exact ⟨1, by omega, 3, by omega, SE.mk (by simp [dI, dB, hs, wl1, wl2, wl3, wl4, rK, int_beq]) (by simp [dI, Rt.cells, Im.cells])⟩
  by_cases q3 : k2 = 3
  ·subst q3
   by_cases g1 : -32768 ≤ c
   ·have g1' : (-32768 ≤ c) = True := by simp; omega
    cases ok
    all_goals
     refine wkc (jn @dI.eq_1 (jn @dB.eq_1 (jn @Rt.cells.eq_1 (jn @Im.cells.eq_1 @g1')))) ?_
     refine loop_next (by simp; exact Is.rfl) ?_
     exact ⟨1, by omega, 3, by omega, SE.mk (by simp [dI, dB, hs, wl1, wl2, wl3, wl4, rK, int_beq, g1']) (by simp [dI, Rt.cells, Im.cells])⟩
   ·have g1' : (-32768 ≤ c) = False := by simp; omega
    cases ok
    all_goals
     refine wkc (jn @dI.eq_1 (jn @dB.eq_1 (jn @Rt.cells.eq_1 (jn @Im.cells.eq_1 @g1')))) ?_
     refine loop_next (by simp; exact Is.rfl) ?_
     exact ⟨1, by omega, 3, by omega, SE.mk (by simp [dI, dB, hs, wl1, wl2, wl3, wl4, rK, int_beq, g1']) (by simp [dI, Rt.cells, Im.cells])⟩
  by_cases q6 : k2 = 6
  ·subst q6
   by_cases g1 : 0 ≤ c
   ·have g1' : (0 ≤ c) = True := by simp; omega
    cases ok
    all_goals
     refine wkc (jn @dI.eq_1 (jn @dB.eq_1 (jn @Rt.cells.eq_1 (jn @Im.cells.eq_1 @g1')))) ?_
     refine loop_next (by simp; exact Is.rfl) ?_
     exact ⟨1, by omega, 3, by omega, SE.mk (by simp [dI, dB, hs, wl1, wl2, wl3, wl4, rK, int_beq, g1']) (by simp [dI, Rt.cells, Im.cells])⟩
   ·have g1' : (0 ≤ c) = False := by simp; omega
    cases ok
    all_goals
     refine wkc (jn @dI.eq_1 (jn @dB.eq_1 (jn @Rt.cells.eq_1 (jn @Im.cells.eq_1 @g1')))) ?_
     refine loop_next (by simp; exact Is.rfl) ?_
     exact ⟨1, by omega, 3, by omega, SE.mk (by simp [dI, dB, hs, wl1, wl2, wl3, wl4, rK, int_beq, g1']) (by simp [dI, Rt.cells, Im.cells])⟩
  ·refine wkc (jn @dI.eq_1 (jn @dB.eq_1 (jn @Rt.cells.eq_1 (jn @Im.cells.eq_1 (jn @q1 (jn @q2 (jn @q3 (jn @q6 (jn @q7 (jn @q8 (jn @q9 @int_beq))))))))))) ?_
   refine loop_next (by simp; exact Is.rfl) ?_
   exact ⟨1, by omega, 3, by omega, SE.mk (by simp [dI, dB, hs, wl1, wl2, wl3, wl4, rK, int_beq, q1, q2, q3, q6, q7, q8, q9]) (by simp [dI, Rt.cells, Im.cells])⟩
 ·have hs : acc4 (rK k r q) k0 k1 k2 k3 a b c d 4 = (acc4 (rK k r q) k0 k1 k2 k3 a b c d 3 && rK k r q k3 d) := by simp [acc4]
  generalize acc4 (rK k r q) k0 k1 k2 k3 a b c d 3 = ok at hs ⊢
  by_cases q1 : k3 = 1
  ·subst q1
   cases ok
   all_goals
    refine wkc (jn @dI.eq_1 (jn @dB.eq_1 (jn @Rt.cells.eq_1 (jn @Im.cells.eq_1 @h1)))) ?_
    refine loop_next (by simp; exact Is.rfl) ?_
    exact ⟨0, by omega, 4, by omega, SE.mk (by simp [dI, dB, hs, wl1, wl2, wl3, wl4, rK, int_beq]) (by simp [dI, Rt.cells, Im.cells])⟩
  by_cases q2 : k3 = 2
  ·subst q2
   cases ok
   all_goals
    refine wkc (jn @dI.eq_1 (jn @dB.eq_1 (jn @Rt.cells.eq_1 (jn @Im.cells.eq_1 @h2)))) ?_
    refine loop_next (by simp; exact Is.rfl) ?_
    exact ⟨0, by omega, 4, by omega, SE.mk (by simp [dI, dB, hs, wl1, wl2, wl3, wl4, rK, int_beq]) (by simp [dI, Rt.cells, Im.cells])⟩
  by_cases q7 : k3 = 7
  ·subst q7
   cases ok
   all_goals
    refine wkc (jn @dI.eq_1 (jn @dB.eq_1 (jn @Rt.cells.eq_1 (jn @Im.cells.eq_1 (jn @hca @h7))))) ?_
    refine loop_next (by simp; exact Is.rfl) ?_
    exact ⟨0, by omega, 4, by omega, SE.mk (by simp [dI, dB, hs, wl1, wl2, wl3, wl4, rK, int_beq]) (by simp [dI, Rt.cells, Im.cells])⟩
  by_cases q8 : k3 = 8
  ·subst q8
   cases ok
   all_goals
    refine wkc (jn @dI.eq_1 (jn @dB.eq_1 (jn @Rt.cells.eq_1 (jn @Im.cells.eq_1 (jn @hca @h8))))) ?_
    refine loop_next (by simp; exact Is.rfl) ?_
    exact ⟨0, by omega, 4, by omega, SE.mk (by simp [dI, dB, hs, wl1, wl2, wl3, wl4, rK, int_beq]) (by simp [dI, Rt.cells, Im.cells])⟩
  by_cases q9 : k3 = 9
  ·subst q9
   cases ok
   all_goals
    refine wkc (jn @dI.eq_1 (jn @dB.eq_1 (jn @Rt.cells.eq_1 (jn @Im.cells.eq_1 (jn @hca @h8))))) ?_
    refine loop_next (by simp; exact Is.rfl) ?_
    exact ⟨0, by omega, 4, by omega, SE.mk (by simp [dI, dB, hs, wl1, wl2, wl3, wl4, rK, int_beq]) (by simp [dI, Rt.cells, Im.cells])⟩
  by_cases q3 : k3 = 3
  ·subst q3
   by_cases g1 : -32768 ≤ d
   ·have g1' : (-32768 ≤ d) = True := by simp; omega
    cases ok
    all_goals
     refine wkc (jn @dI.eq_1 (jn @dB.eq_1 (jn @Rt.cells.eq_1 (jn @Im.cells.eq_1 @g1')))) ?_
     refine loop_next (by simp; exact Is.rfl) ?_
     exact ⟨0, by omega, 4, by omega, SE.mk (by simp [dI, dB, hs, wl1, wl2, wl3, wl4, rK, int_beq, g1']) (by simp [dI, Rt.cells, Im.cells])⟩
   ·have g1' : (-32768 ≤ d) = False := by simp; omega
    cases ok
    all_goals
     refine wkc (jn @dI.eq_1 (jn @dB.eq_1 (jn @Rt.cells.eq_1 (jn @Im.cells.eq_1 @g1')))) ?_
     refine loop_next (by simp; exact Is.rfl) ?_
     exact ⟨0, by omega, 4, by omega, SE.mk (by simp [dI, dB, hs, wl1, wl2, wl3, wl4, rK, int_beq, g1']) (by simp [dI, Rt.cells, Im.cells])⟩
  by_cases q6 : k3 = 6
  ·subst q6
   by_cases g1 : 0 ≤ d
   ·have g1' : (0 ≤ d) = True := by simp; omega
    cases ok
    all_goals
     refine wkc (jn @dI.eq_1 (jn @dB.eq_1 (jn @Rt.cells.eq_1 (jn @Im.cells.eq_1 @g1')))) ?_
     refine loop_next (by simp; exact Is.rfl) ?_
     exact ⟨0, by omega, 4, by omega, SE.mk (by simp [dI, dB, hs, wl1, wl2, wl3, wl4, rK, int_beq, g1']) (by simp [dI, Rt.cells, Im.cells])⟩
   ·have g1' : (0 ≤ d) = False := by simp; omega
    cases ok
    all_goals
     refine wkc (jn @dI.eq_1 (jn @dB.eq_1 (jn @Rt.cells.eq_1 (jn @Im.cells.eq_1 @g1')))) ?_
     refine loop_next (by simp; exact Is.rfl) ?_
     exact ⟨0, by omega, 4, by omega, SE.mk (by simp [dI, dB, hs, wl1, wl2, wl3, wl4, rK, int_beq, g1']) (by simp [dI, Rt.cells, Im.cells])⟩
  ·refine wkc (jn @dI.eq_1 (jn @dB.eq_1 (jn @Rt.cells.eq_1 (jn @Im.cells.eq_1 (jn @q1 (jn @q2 (jn @q3 (jn @q6 (jn @q7 (jn @q8 (jn @q9 @int_beq))))))))))) ?_
   refine loop_next (by simp; exact Is.rfl) ?_
   exact ⟨0, by omega, 4, by omega, SE.mk (by simp [dI, dB, hs, wl1, wl2, wl3, wl4, rK, int_beq, q1, q2, q3, q6, q7, q8, q9]) (by simp [dI, Rt.cells, Im.cells])⟩
 ·refine wkc (jn @dI.eq_1 @dB.eq_1) ?_
  show retQ _ _ _ _ _
  exact ⟨.inr rfl, _, _, rfl, rfl⟩
end Go.Ac
end

section
set_option maxRecDepth 4000
namespace Go.Ac
open Go.Proofs

/-- Memories that agree below a bound. -/
def Ag (n : Nat) (hp hp' : Hp) : Prop := ∀ id, id < n → hp'.get id = hp.get id
theorem Ag.refl (n : Nat) (hp : Hp) : Ag n hp hp := fun _ _ => rfl
theorem Ag.trunc {n : Nat} {hp hp' : Hp} (h : Ag n hp hp') : Ag n hp (Hp.trunc n hp') := fun id hi => (Hp.get_trunc hp' n id hi).trans (h id hi)
def SQ (e : Env) (hp : Hp) (n n0 : Nat) (s : St) : Prop := ∃ hp' c, Ag n hp hp' ∧ s = ⟨e, hp', n, c, n0, []⟩

theorem badT_quiet (im : Im) (t : Int) (ht : t ≤ 9223372036854775807) (hp : Hp) (n c id g : Nat) (hg : hp.get id = some ⟨g, false, im.cells.map .d⟩) (hn : id < n) : Quiet Tryz.prog Cp.cfg 44 [dI t, .ptr id g 0] hp n c (.bool (!typOK im.enums t)) := by
 have h := typ_den im t ht
 simp only [Im.cells, List.map_cons, List.map_nil, dI, dB, aM] at h hg
 refine quiet_wp Tryz.func44 rfl (by kernel_rfl) rfl ?_
 refine wkq (jn @envOf.eq_1 (jn @envOf.eq_2 (jn @dI.eq_1 (jn @hg @h)))) ?_
 exact ⟨.inr rfl, rfl, _, rfl, rfl⟩

theorem indexT (im : Im) (l : List Int) (hl : l.length ≤ MX) (hi : ∀ t, t ∈ l → t ≤ 9223372036854775807) (hp : Hp) (n c id g : Nat) (hg : hp.get id = some ⟨g, false, im.cells.map .d⟩) (hn : id < n) : Quiet Tryz.prog Cp.cfg 41 [dL l, .fn 44 [.ptr id g 0]] hp n c (.int .i64 (idxP (fun t => !typOK im.enums t) l)) := by
 unfold MX at hl
 refine quiet_wp Tryz.func41 rfl (by kernel_rfl) rfl ?_
 refine wkq (jn @envOf.eq_1 (jn @envOf.eq_2 @dL.eq_1)) ?_
 apply WP.loop' (I := fun d s => ∃ i : Nat, i + d = l.length ∧ (l.take i).all (fun v => !!typOK im.enums v) = true ∧ SQ [(0, dL l), (1, .fn 44 [.ptr id g 0]), (7, dI l.length), (8, dI i)] hp n n s) (d := l.length)
 ·exact ⟨0, by simp, by simp, _, _, Ag.refl n hp, st_eq (by simp [dL, dI]) rfl⟩
 rintro d _ ⟨i, hii, hno, hp', c1, hag, rfl⟩
 refine wkq (jn @dI.eq_1 @dL.eq_1) ?_
 show WP _ _ _ _ _ _
 refine WP.cond _ rfl (fun hb => ?_) (fun hb => ?_)
 ·simp at hb
  have hb' : i < l.length := hb
  obtain ⟨v, hv, hvm, hix⟩ := at_lt hb'
  have hv' := encI_at hv
  have hw := w_succ hb' (by omega)
  have hts := all_take_succ (p := fun v => !!typOK im.enums v) hv
  have h3 := fun c => badT_quiet im v (hi v hvm) hp' n c id g (by rw [hag id hn, hg]) hn
  obtain ⟨h5, h6, h4⟩ := Quiet.fn h3
  simp only [dI] at h4
  refine wkq (jn @hix (jn @hv' (jn @dL.eq_1 @h4))) ?_
  show WP _ _ _ _ _ _
  refine WP.cond _ rfl (fun hb => ?_) (fun hb => ?_)
  ·refine wkq True.intro ?_
   rw [idxP_some hno hv hb]
   exact ⟨.inr rfl, rfl, _, rfl, rfl⟩
  ·refine wkq True.intro ?_
   refine loop_next (by simp [hw]; exact Is.rfl) ?_
   exact ⟨d - 1, by omega, i + 1, by omega, by rw [hts, hno]; simpa using hb, _, _, hag.trunc, st_eq (by simp [dI, dL, hw]) rfl⟩
 ·simp at hb
  have hil : i = l.length := by omega
  subst hil
  refine wkq True.intro ?_
  rw [idxP_none hno]
  exact ⟨.inr rfl, rfl, _, rfl, rfl⟩
theorem containsT (im : Im) (l : List Int) (hl : l.length ≤ MX) (hi : ∀ t, t ∈ l → t ≤ 9223372036854775807) (hp : Hp) (n c id g : Nat) (hg : hp.get id = some ⟨g, false, im.cells.map .d⟩) (hn : id < n) : Quiet Tryz.prog Cp.cfg 28 [dL l, .fn 44 [.ptr id g 0]] hp n c (.bool (l.any (fun t => !typOK im.enums t))) := by
 obtain ⟨h5, h6, h4⟩ := Quiet.fn (fun c => indexT im l hl hi hp n c id g hg hn)
 simp only [dL] at h4
 rw [← idxP_any]
 refine quiet_wp Tryz.func28 rfl (by kernel_rfl) rfl ?_
 refine wkq (jn @envOf.eq_1 (jn @envOf.eq_2 (jn @dL.eq_1 @h4))) ?_
 exact ⟨.inr rfl, rfl, _, rfl, rfl⟩
end Go.Ac
end

section
set_option maxRecDepth 4000
namespace Go.Ac
open Go.Proofs

theorem wo1 : IntKind.i64.wrap 1 = 1 := by rfl
theorem wo2 : IntKind.i64.wrap 2 = 2 := by rfl
def cI (l : List Int) : List V := l.map dI
theorem cI_len (l : List Int) : (cI l).length = l.length := by simp [cI]
theorem cI_app (a b : List Int) : cI (a ++ b) = cI a ++ cI b := by simp [cI]
theorem nble_d (a b : Nat) : Nat.ble a b = decide (a ≤ b) := by
 by_cases h : a ≤ b
 ·rw [Nat.ble_eq_true_of_le h]; simp [h]
 ·cases hb : Nat.ble a b with
  | false => simp [h]
  | true => exact absurd (Nat.le_of_ble_eq_true hb) h
theorem cI_flat : ∀ l : List Int, (encI l).flatten.map V.d = cI l
 | [] => rfl
 | x :: r => by
  have := cI_flat r
  show dI x :: List.map V.d (encI r).flatten = dI x :: cI r
  rw [this]
theorem encI_one (l : List Int) : (encI l).all (fun r => Nat.beq r.length 1) = true := by
 rw [List.all_eq_true]; intro r hr
 unfold encI at hr; obtain ⟨x, _, rfl⟩ := List.mem_map.1 hr; rfl
theorem rowsI (look : Look) (l : List Int) : rowsOf look 1 (.d (.slice (encI l))) = some (l.length, cI l, []) := by
 show (if ((encI l).all fun r => Nat.beq r.length 1) = true then some ((encI l).length, (encI l).flatten.map V.d, ([] : List Nat)) else none) = _
 rw [if_pos (encI_one l), cI_flat, encI_len]
theorem shiftVs_rep (n c : Nat) : ∀ m : Nat, shiftVs n c (List.replicate m (dI 0)) = List.replicate m (dI 0)
 | 0 => rfl
 | m + 1 => by rw [List.replicate_succ, shiftVs, shiftVs_rep n c m]; rfl
theorem chunkI : ∀ l : List Int, chunk 1 l.length (l.map ni) = encI l
 | [] => rfl
 | x :: r => by simp [chunk, encI, chunkI r]
theorem toDs_ci (look : Look) (f : Nat) : ∀ l : List Int, toDs (toD look f) (cI l) = some (l.map ni, [])
 | [] => rfl
 | x :: r => by
  have := toDs_ci look f r
  unfold cI at this ⊢
  simp only [List.map_cons]
  unfold toDs
  rw [this]
  have : toD look f (dI x) = some (ni x, []) := by cases f <;> rfl
  rw [this]; rfl
theorem toD_dep (look : Look) (id g off len sz : Nat) (cap : Option Nat) : toD look depthD (.osl id g off len sz cap) = match live look id g with
  | some o => match Nat.ble (off + len * sz) o.cells.length, toDs (toD look 4611686018427387903) ((o.cells.drop off).take (len * sz)) with
   | true, some (ds, r) => some (.slice (chunk sz len ds), id :: r)
   | _, _ => none
  | none => none := Eq.trans rfl rfl
theorem close_osl1 {look : Look} {id g : Nat} {ro : Bool} {cs : List V} {l : List Int} {cap : Option Nat} (hl : look id = some ⟨g, ro, cs⟩) (hc : cs.take l.length = cI l) (hn : l.length ≤ cs.length) : closeT look (.osl id g 0 l.length 1 cap) = some (dL l, [id]) := by
 show ofD (toD look depthD _) = _
 rw [toD_dep]
 have : live look id g = some ⟨g, ro, cs⟩ := by simp [live, hl]
 rw [this]
 simp only [Nat.zero_add, Nat.mul_one, List.drop_zero, hc, toDs_ci, chunkI, nble_d, hn, decide_true]
 rfl

theorem grow_lim (m : Nat) (h0 : 0 < m) (hm : m ≤ 1000000) : lim Tryz.prog Cp.cfg 62 [.full [], dI m] [] 0 0 = some ⟨.osl 0 0 0 0 1 none, [(0, ⟨0, false, List.replicate m (dI 0)⟩)], 1, 1, []⟩ := by
 have hw : IntKind.i64.wrap (m : Int) = m := by rw [w_id'] <;> omega
 have h1 : ((m : Int) < 0) = False := by simp
 have h2 : ((m : Int) > 0) = True := by simp; omega
 have h2' : (0 < m) = True := by simp; omega
 have wl0 : IntKind.i64.wrap 0 = 0 := by rfl
 have hfit : fitsB m 8 = true := by simp [fitsB]; omega
 have hmx : ((m : Int) ≤ 9223372036854775807) = True := by simp; omega
 have h := lim_wp (P := Tryz.prog) (cfg := Cp.cfg) (vs := [.full [], dI m]) (hp := []) (n := 0) (c := 0) (Q := fun v t => v = .osl 0 0 0 0 1 none ∧ t.hp = [(0, ⟨0, false, List.replicate m (dI 0)⟩)] ∧ t.n = 1 ∧ t.c = 1 ∧ t.wl = []) Tryz.func62 rfl (by kernel_rfl) (by
  refine wkci (jn @envOf.eq_1 (jn @envOf.eq_2 (jn @dI.eq_1 (jn @h1 (jn @h2 (jn @h2' (jn @hw (jn @wl0 (jn @Int.sub_zero (jn @hfit (jn @hmx (jn @h0 (jn @appendNV.eq_def (jn @z3_eq (jn @z0.eq_1 @V.one.eq_def))))))))))))))) ?_
  exact ⟨.inr rfl, _, rfl, .inl rfl, rfl, rfl, rfl, rfl, rfl⟩)
 obtain ⟨v, t, h, h3, h4, h5, h6, h7⟩ := h
 rw [h, h3, h4, h5, h6, h7]

theorem concat_nil : den Tryz.prog Cp.cfg 43 [.d (.slice [[.slice []], [.slice []]])] = some (dL []) := den_k 100 (fun k => by kernel_rfl) rfl

def pre2 (a b : List Int) : Nat → List Int | 0 => [] | 1 => a | _ => a ++ b
set_option maxHeartbeats 2000000 in
theorem concat_den (a b : List Int) (ha : a.length ≤ 400000) (hb : b.length ≤ 400000) : den Tryz.prog Cp.cfg 43 [.d (.slice [[.slice (encI a)], [.slice (encI b)]])] = some (dL (a ++ b)) := by
 by_cases hz : a.length + b.length = 0
 ·have h1 : a = [] := List.eq_nil_of_length_eq_zero (by omega)
  have h2 : b = [] := List.eq_nil_of_length_eq_zero (by omega)
  subst h1; subst h2
  exact concat_nil
 have hI1 := grow_lim (a.length + b.length) (by omega) (by omega)
 have hI2 : closeT noLook (CR.mk (.osl 0 0 0 0 1 none) [(0, ⟨0, false, List.replicate (a.length + b.length) (dI 0)⟩)] 1 1 []).v = none := rfl
 have wa : IntKind.i64.wrap (a.length : Int) = a.length := by rw [w_id'] <;> omega
 have wb : IntKind.i64.wrap ((a.length : Int) + b.length) = (a.length : Int) + b.length := by rw [w_id'] <;> omega
 have na : ((a.length : Int) < 0) = False := by simp
 have nb : ((a.length : Int) + b.length < 0) = False := by simp; omega
 have fa : fitsB a.length 8 = true := by simp [fitsB]; omega
 have fb : fitsB (a.length + b.length) 8 = true := by simp [fitsB]; omega
 refine den_wp Tryz.func43 rfl (by kernel_rfl) rfl rfl ?_
 refine wki True.intro ?_
 apply WP.loop' (I := fun D s => ∃ i : Nat, i + D = 2 ∧ SE [(0, .d (.slice [[.slice (encI a)], [.slice (encI b)]])), (3, dI (pre2 a b i).length), (9, .d (.slice [[.slice (encI a)], [.slice (encI b)]])), (10, dI 2), (11, dI i)] [] 0 s) (d := 2)
 ·exact ⟨0, by simp, SE.mk (by simp [dI, pre2]) rfl⟩
 rintro D _ ⟨i, hi, cc, rfl⟩
 have hi' : i = 0 ∨ i = 1 ∨ i = 2 := by omega
 rcases hi' with rfl | rfl | rfl
 ·refine wkci (jn @dI.eq_1 (jn @pre2.eq_def (jn @wa @na))) ?_
  refine loop_next (by simp; exact Is.rfl) ?_
  exact ⟨1, by omega, 1, by omega, SE.mk (by simp [dI, pre2, wa]; rfl) rfl⟩
 ·refine wkci (jn @dI.eq_1 (jn @pre2.eq_def (jn @wb @nb))) ?_
  refine loop_next (by simp; exact Is.rfl) ?_
  exact ⟨0, by omega, 2, by omega, SE.mk (by simp [dI, pre2, wb]; rfl) rfl⟩
 ·have hI3 : shiftV 0 cc (CR.mk (.osl 0 0 0 0 1 none) [(0, ⟨0, false, List.replicate (a.length + b.length) (dI 0)⟩)] 1 1 []).v = .osl 0 cc 0 0 1 none := by simp [shiftV]
  have hI4 : shiftH 0 cc (wrOf (CR.mk (.osl 0 0 0 0 1 none) [(0, ⟨0, false, List.replicate (a.length + b.length) (dI 0)⟩)] 1 1 []).hp.get (List.range (CR.mk (.osl 0 0 0 0 1 none) [(0, ⟨0, false, List.replicate (a.length + b.length) (dI 0)⟩)] 1 1 []).n)) = [(0, ⟨cc, false, List.replicate (a.length + b.length) (dI 0)⟩)] := by
   simp [shiftH, wrOf, List.range_succ, shiftVs_rep]
  simp only [dI, Int.natCast_add] at hI1
  refine wkci (jn @dI.eq_1 @pre2.eq_def) ?_
  apply WP.loop' (I := fun D s => ∃ i : Nat, i + D = 2 ∧ ∃ g c cs, cs.take (pre2 a b i).length = cI (pre2 a b i) ∧ (pre2 a b i).length ≤ cs.length ∧ s = ⟨[(6, .osl 0 g 0 (pre2 a b i).length 1 none), (25, .d (.slice [[.slice (encI a)], [.slice (encI b)]])), (26, dI 2), (27, dI i)], [(0, ⟨g, false, cs⟩)], 1, c, 0, []⟩) (d := 2)
  ·exact ⟨0, by simp, _, _, _, rfl, Nat.zero_le _, rfl⟩
  rintro D _ ⟨i, hi, g, c, cs, hct, hle, rfl⟩
  have hi' : i = 0 ∨ i = 1 ∨ i = 2 := by omega
  rcases hi' with rfl | rfl | rfl
  ·simp only [pre2, List.length_nil] at hct hle ⊢
   refine wkci (jn @dI.eq_1 (jn @rowsI (jn @nble_d @fa))) ?_
   refine loop_next (by simp; exact Is.rfl) ?_
   exact ⟨1, by omega, 1, by omega, c, _, cI a, List.take_of_length_le (by simp [pre2, cI]), by simp [pre2, cI], st_eq (by simp [pre2, dI, wo1]) (by simp)⟩
  ·simp only [pre2] at hct hle ⊢
   refine wkci (jn @dI.eq_1 (jn @rowsI (jn @nble_d (jn @fb (jn @hct @hle))))) ?_
   refine loop_next (by simp; exact Is.rfl) ?_
   exact ⟨0, by omega, 2, by omega, c, _, cI a ++ cI b, (List.take_of_length_le (by simp [pre2, cI])).trans (cI_app a b).symm, by simp [pre2, cI], st_eq (by simp [pre2, dI, wo2]) (by simp)⟩
  ·refine wkci (@dI.eq_1) ?_
   show retQ _ _ _ _ _
   exact ⟨.inr rfl, _, [0], rfl, close_osl1 (l := a ++ b) (ro := false) (cs := cs) rfl hct hle⟩
end Go.Ac
end

section
set_option maxRecDepth 4000
namespace Go.Ac
open Go.Proofs

set_option maxHeartbeats 1000000 in
theorem form_no (r : Rt) (at_ : Int) (i : I) (h : ¬ IsO i.op) : den Tryz.prog Cp.cfg 47 [aR r, dI at_, aI i] = some (dB false) := by
 have hk := unknown_den h
 simp only [dI, dB, List.map_cons, List.map_nil] at hk
 refine den_wp Tryz.func47 rfl (by kernel_rfl) rfl rfl ?_
 refine wkcq (jn @dI.eq_1 (jn @aR.eq_1 (jn @aI.eq_1 (jn @I.cells.eq_1 (jn @Rt.cells.eq_1 @hk))))) ?_
 show retQ _ _ _ _ _
 exact ⟨.inr rfl, _, _, rfl, rfl⟩
def isO (op : Int) : Bool := decide (1 ≤ op) && decide (op ≤ 10)
theorem isO_iff (op : Int) : isO op = true ↔ IsO op := by
 unfold isO IsO; simp; omega
def stepE (rs : List Rt) (k : Nat) (r : Rt) (at_ : Nat) (i : I) : Int := if isO i.op && formB at_ r.code.length i then (if rangB rs k r i then 0 else 14) else 5
def codeE (f : Nat → I → Int) : Nat → List I → Int
 | _, [] => 0
 | j, i :: l => if f j i = 0 then codeE f (j + 1) l else f j i
def c1 (r : Rt) : Prop := (64 : Int) < (if r.inn.length < r.out.length then (r.out.length : Int) else r.inn.length)
def c2 (r : Rt) : Prop := (16384 : Int) < r.ini.length
def c3 (r : Rt) : Prop := (32768 : Int) < (if (r.code.length : Int) < r.regs then r.regs else r.code.length)
instance (r : Rt) : Decidable (c1 r) := by unfold c1; infer_instance
instance (r : Rt) : Decidable (c2 r) := by unfold c2; infer_instance
instance (r : Rt) : Decidable (c3 r) := by unfold c3; infer_instance
theorem codeE_step {f : Nat → I → Int} {l : List I} {j : Nat} {i : I} (h : l[j]? = some i) : codeE f j (l.drop j) = if f j i = 0 then codeE f (j + 1) (l.drop (j + 1)) else f j i := by
 obtain ⟨hl, he⟩ := List.getElem?_eq_some_iff.1 h
 rw [List.drop_eq_getElem_cons hl, he]; rfl
theorem form_all (r : Rt) (at_ : Int) (i : I) : den Tryz.prog Cp.cfg 47 [aR r, dI at_, aI i] = some (dB (isO i.op && formB at_ r.code.length i)) := by
 cases h : isO i.op with
 | true => exact form_den r at_ i ((isO_iff _).1 h)
 | false => exact form_no r at_ i fun h' => by rw [(isO_iff _).2 h'] at h; cases h
def bigE (r : Rt) : Bool := decide (c1 r) || decide (c2 r) || decide (c3 r)
def oneE (im : Im) (k : Nat) (r : Rt) : Int :=
 if nameOK r.nm = false then 6 else if bigE r then 3 else if (r.inn ++ r.out).any (fun t => !typOK im.enums t) then 10 else if r.regs < (r.inn.length : Int) + r.out.length then 9 else if r.ini.any outW then 14
 else codeE (stepE im.rs k r) 0 r.code
/-- What a routine's words keep to. -/
structure RtOK (r : Rt) : Prop where
 sz : r.sz ≤ MB
 inn : ∀ t, t ∈ r.inn → t ≤ 9223372036854775807
 out : ∀ t, t ∈ r.out → t ≤ 9223372036854775807
 regs : r.regs ≤ 9223372036854775807
set_option maxHeartbeats 4000000 in
theorem one_den (im : Im) (k : Nat) (r : Rt) (hr : im.rs[k]? = some r) (hs : im.sz ≤ MB) (hok : RtOK r) : den Tryz.prog Cp.cfg 30 [aM im, dI k] = some (dI (oneE im k r)) := by
 have hkl : k < im.rs.length := by rcases Nat.lt_or_ge k im.rs.length with h | h; exact h; rw [List.getElem?_eq_none h] at hr; cases hr
 have hix := idx_lt hkl
 have hr' := encR_at hr
 have hsz := hok.sz
 have hrl := im.len_rs
 unfold Rt.sz MB at hsz
 unfold MB at hs
 have hn := name_den r.nm (by unfold MX; omega)
 simp only [dI, dB, dS] at hn
 refine den_wp Tryz.func30 rfl (by kernel_rfl) rfl rfl ?_
 unfold oneE
 cases h0 : nameOK r.nm with
 | false =>
  rw [h0] at hn
  refine wkcq (jn @dI.eq_1 (jn @aM.eq_1 (jn @Im.cells.eq_1 (jn @Rt.cells.eq_1 (jn @hix (jn @hr' @hn)))))) ?_
  show retQ _ _ _ _ _
  exact ⟨.inr rfl, _, _, rfl, rfl⟩
 | true =>
  rw [h0] at hn
  rw [if_neg (by simp)]
  refine wkq (jn @dI.eq_1 (jn @aM.eq_1 (jn @Im.cells.eq_1 (jn @Rt.cells.eq_1 (jn @hix (jn @hr' @hn)))))) ?_
  show WP _ _ _ _ _ _
  refine WP.cond _ rfl (fun hb => ?_) (fun hb => ?_)
  ·simp at hb
  clear hb
  have fin3 : bigE r = true → (if bigE r = true then (3 : Int) else if (r.inn ++ r.out).any (fun t => !typOK im.enums t) = true then 10 else if r.regs < (r.inn.length : Int) + r.out.length then 9 else if r.ini.any outW = true then 14 else codeE (stepE im.rs k r) 0 r.code) = 3 := fun h => by rw [if_pos h]
  by_cases q1 : c1 r
  ·rw [fin3 (by simp [bigE, q1])]
   unfold c1 at q1
   have q1' : ((64 : Int) < (if r.inn.length < r.out.length then (r.out.length : Int) else r.inn.length)) = True := by simp only [q1]
   refine wkcq (jn @maxV.eq_def (jn @maxI.eq_1 (jn @maxI.eq_2 (jn @maxI.eq_3 (jn @maxI.eq_4 @q1'))))) ?_
   show retQ _ _ _ _ _
   exact ⟨.inr rfl, _, _, rfl, rfl⟩
  by_cases q2 : c2 r
  ·rw [fin3 (by simp [bigE, q2])]
   unfold c1 at q1
   unfold c2 at q2
   have q1' : ((64 : Int) < (if r.inn.length < r.out.length then (r.out.length : Int) else r.inn.length)) = False := by simp only [q1]
   have q2' : (16384 < r.ini.length) = True := by simp; omega
   have q2'' : ((16384 : Int) < r.ini.length) = True := by simp; omega
   refine wkcq (jn @maxV.eq_def (jn @maxI.eq_1 (jn @maxI.eq_2 (jn @maxI.eq_3 (jn @maxI.eq_4 (jn @q1' (jn @q2' @q2''))))))) ?_
   show retQ _ _ _ _ _
   exact ⟨.inr rfl, _, _, rfl, rfl⟩
  by_cases q3 : c3 r
  ·rw [fin3 (by simp [bigE, q3])]
   unfold c1 at q1
   unfold c2 at q2
   unfold c3 at q3
   have q1' : ((64 : Int) < (if r.inn.length < r.out.length then (r.out.length : Int) else r.inn.length)) = False := by simp only [q1]
   have q2' : (16384 < r.ini.length) = False := by simp; omega
   have q2'' : ((16384 : Int) < r.ini.length) = False := by simp; omega
   have q3' : ((32768 : Int) < (if (r.code.length : Int) < r.regs then r.regs else r.code.length)) = True := by simp only [q3]
   refine wkcq (jn @maxV.eq_def (jn @maxI.eq_1 (jn @maxI.eq_2 (jn @maxI.eq_3 (jn @maxI.eq_4 (jn @q1' (jn @q2' (jn @q2'' @q3')))))))) ?_
   show retQ _ _ _ _ _
   exact ⟨.inr rfl, _, _, rfl, rfl⟩
  have hbg : ¬ bigE r = true := by simp [bigE, q1, q2, q3]
  rw [if_neg hbg]
  clear fin3
  unfold c1 at q1
  unfold c2 at q2
  unfold c3 at q3
  have q1' : ((64 : Int) < (if r.inn.length < r.out.length then (r.out.length : Int) else r.inn.length)) = False := by simp only [q1]
  have q2' : (16384 < r.ini.length) = False := by simp; omega
  have q2'' : ((16384 : Int) < r.ini.length) = False := by simp; omega
  have q3' : ((32768 : Int) < (if (r.code.length : Int) < r.regs then r.regs else r.code.length)) = False := by simp only [q3]
  have hcat := concat_den r.inn r.out (by omega) (by omega)
  simp only [dL] at hcat
  refine wkcq (jn @maxV.eq_def (jn @maxI.eq_1 (jn @maxI.eq_2 (jn @maxI.eq_3 (jn @maxI.eq_4 (jn @q1' (jn @q2' (jn @q2'' (jn @q3' @hcat))))))))) ?_
  obtain ⟨h5, h6, h4⟩ := Quiet.fn (fun c => containsT im (r.inn ++ r.out) (by unfold MX; simp; omega) (fun t ht => by rcases List.mem_append.1 ht with h | h; exact hok.inn t h; exact hok.out t h) [(0, ⟨0, false, im.cells.map .d⟩), (1, ⟨1, false, r.cells.map .d⟩), (2, ⟨2, true, [.d (.slice (encI r.inn)), .d (.slice (encI r.out))]⟩)] 3 c 0 0 rfl (by omega))
  simp only [dL, Im.cells, Rt.cells, List.map_cons, List.map_nil] at h4
  have hcw := contains_outW r.ini (by unfold MX; omega)
  simp only [dL, dB] at hcw
  cases ht : (r.inn ++ r.out).any (fun t => !typOK im.enums t) with
  | true =>
   rw [ht] at h4
   refine wkcq (jn @hcat (jn @toD_dep (jn @toDs.eq_1 (jn @toDs.eq_2 (jn @nble_d (jn @chunk.eq_1 (jn @chunk.eq_2 @h4))))))) ?_
   show retQ _ _ _ _ _
   exact ⟨.inr rfl, _, _, rfl, rfl⟩
  | false =>
   rw [ht] at h4
   rw [if_neg (by simp)]
   have hws : IntKind.i64.wrap ((r.inn.length : Int) + r.out.length) = (r.inn.length : Int) + r.out.length := by rw [w_id'] <;> omega
   by_cases q4 : r.regs < (r.inn.length : Int) + r.out.length
   ·rw [if_pos q4]
    have q4' : (r.regs < (r.inn.length : Int) + r.out.length) = True := by simp [q4]
    refine wkcq (jn @hcat (jn @toD_dep (jn @toDs.eq_1 (jn @toDs.eq_2 (jn @nble_d (jn @chunk.eq_1 (jn @chunk.eq_2 (jn @h4 (jn @hws @q4'))))))))) ?_
    show retQ _ _ _ _ _
    exact ⟨.inr rfl, _, _, rfl, rfl⟩
   rw [if_neg q4]
   have q4' : (r.regs < (r.inn.length : Int) + r.out.length) = False := by simp only [q4]
   cases hi : r.ini.any outW with
   | true =>
    rw [hi] at hcw
    refine wkcq (jn @hcat (jn @toD_dep (jn @toDs.eq_1 (jn @toDs.eq_2 (jn @nble_d (jn @chunk.eq_1 (jn @chunk.eq_2 (jn @h4 (jn @hws (jn @q4' @hcw)))))))))) ?_
    show retQ _ _ _ _ _
    exact ⟨.inr rfl, _, _, rfl, rfl⟩
   | false =>
    rw [hi] at hcw
    rw [if_neg (by simp)]
    refine wkcq (jn @hcat (jn @toD_dep (jn @toDs.eq_1 (jn @toDs.eq_2 (jn @nble_d (jn @chunk.eq_1 (jn @chunk.eq_2 (jn @h4 (jn @hws (jn @q4' @hcw)))))))))) ?_
    apply WP.loop' (I := fun D s => ∃ j : Nat, j + D = r.code.length ∧ codeE (stepE im.rs k r) 0 r.code = codeE (stepE im.rs k r) j (r.code.drop j) ∧ SE [(1, dI k), (2, .ptr 0 0 0), (5, .ptr 1 1 0), (67, .d (.slice (encC r.code))), (68, dI r.code.length), (69, dI j)] [(0, ⟨0, false, im.cells.map .d⟩), (1, ⟨1, false, r.cells.map .d⟩), (2, ⟨2, true, [.d (.slice (encI r.inn)), .d (.slice (encI r.out))]⟩)] 3 s) (d := r.code.length)
    ·exact ⟨0, by simp, rfl, SE.mk (by simp [dI]) (by simp [Im.cells, Rt.cells])⟩
    rintro D _ ⟨j, hj, hE, cc, rfl⟩
    clear h4 hcw hcat hn
    refine wkq (@dI.eq_1) ?_
    show WP _ _ _ _ _ _
    refine WP.cond _ rfl (fun hb => ?_) (fun hb => ?_)
    ·simp at hb
     have hb' : j < r.code.length := hb
     obtain ⟨i, hi1, him, hix2⟩ := at_lt hb'
     have hi2 := encC_at hi1
     have hw := w_succ hb' (by omega)
     have hst := codeE_step (f := stepE im.rs k r) hi1
     rw [← hE] at hst
     have hF := form_all r j i
     simp only [aR, aI, Rt.cells, I.cells, List.map_cons, List.map_nil, dI, dB] at hF
     cases hf : (isO i.op && formB j r.code.length i) with
     | false =>
      rw [hf] at hF
      have h5' : stepE im.rs k r j i = 5 := by unfold stepE; rw [hf]; rfl
      rw [h5'] at hst
      rw [hst]
      refine wkcq (jn @dI.eq_1 (jn @hix2 (jn @hi2 (jn @I.cells.eq_1 (jn @Rt.cells.eq_1 (jn @Im.cells.eq_1 @hF)))))) ?_
      show retQ _ _ _ _ _
      exact ⟨.inr rfl, _, _, rfl, rfl⟩
     | true =>
      rw [hf] at hF
      have hO : IsO i.op := (isO_iff _).1 (by simp only [Bool.and_eq_true] at hf; exact hf.1)
      have hR := ranges_den im k r i hO hr (by unfold MX; omega) (by unfold MX; omega) hok.regs
      simp only [aM, aI, Im.cells, I.cells, List.map_cons, List.map_nil, dI, dB] at hR
      cases hg : rangB im.rs k r i with
      | false =>
       rw [hg] at hR
       have h5' : stepE im.rs k r j i = 14 := by unfold stepE; rw [hf, hg]; rfl
       rw [h5'] at hst
       rw [hst]
       refine wkcq (jn @dI.eq_1 (jn @hix2 (jn @hi2 (jn @I.cells.eq_1 (jn @Rt.cells.eq_1 (jn @Im.cells.eq_1 (jn @hF @hR))))))) ?_
       show retQ _ _ _ _ _
       exact ⟨.inr rfl, _, _, rfl, rfl⟩
      | true =>
       rw [hg] at hR
       have h5' : stepE im.rs k r j i = 0 := by unfold stepE; rw [hf, hg]; rfl
       rw [h5'] at hst
       refine wkcq (jn @dI.eq_1 (jn @hix2 (jn @hi2 (jn @I.cells.eq_1 (jn @Rt.cells.eq_1 (jn @Im.cells.eq_1 (jn @hF @hR))))))) ?_
       refine loop_next (by simp [hw]; exact Is.rfl) ?_
       exact ⟨D - 1, by omega, j + 1, by omega, by rw [hst]; rfl, SE.mk (by simp [dI, hw]) (by simp [Im.cells, Rt.cells])⟩
    ·simp at hb
     have hE0 : codeE (stepE im.rs k r) 0 r.code = 0 := by rw [hE, List.drop_of_length_le hb]; rfl
     rw [hE0]
     refine wkq True.intro ?_
     show retQ _ _ _ _ _
     exact ⟨.inr rfl, _, _, rfl, rfl⟩
end Go.Ac
end

section
set_option maxRecDepth 4000
namespace Go.Ac
open Go.Proofs Go.ChangeShapes Go.WideShapes Go.RowKit
open Go.Proofs.YtjkcpgkpmklcaaaGreatDoor (Rows.uptoBulk Rows.uptoBulkAll Rows.uptoSmall Rows.laid_synchrony_asm_operations)

theorem noCount : NoCount Tryz.prog := by
 have h : (Tryz.prog.funcs.toList.all fun fn => !(fn.name == "runtime.NumGoroutine")) = true := by kernel_rfl
 intro f fn hf _
 rw [List.all_eq_true] at h
 have := h fn (List.mem_of_getElem? (by rw [Array.getElem?_toList]; exact hf))
 simpa using this
theorem preOK : Pre Tryz.prog Cp.cfg := ⟨noCount, primOK primCt⟩
theorem mixed : Tryz.prog.follows .mixedOrders = true := by kernel_rfl
abbrev m0 (W : World) : M := ⟨fun _ => none, fun _ => none, fun _ g => g < 0, W⟩
theorem RD.m0 {W : World} {d : D} {v : Value} (h : RD W noB d v) : RD (m0 W).w ((m0 W).av noB) d v := h.mono fun b _ hn => ⟨fun hx => by
 rcases hx with hx | ⟨id, o, x, hx, _⟩
 ·exact hx
 ·simp at hx, rfl⟩
theorem glob_of {W : World} {g : Nat} {tab : List D} (h : ∃ cs : List Value, RDs W tab cs ∧ ∀ i, W.cell? ⟨g, i, none⟩ = cs[i]?) : RV noB (m0 W) (.vref tab) (.pointer (some ⟨g, 0, none⟩)) := by
 obtain ⟨cs, hR, hc⟩ := h
 refine RV.vref (cells := tab) (fun j => cs.getD j default) (fun j d hj => ⟨fun hx => ?_, ?_⟩) fun j d hj => ?_
 ·rcases hx with hx | ⟨id, o, x, hx, _⟩
  ·exact hx
  ·simp at hx
 ·have hjl : j < cs.length := by rw [← hR.1]; exact (List.getElem?_eq_some_iff.1 hj).1
  simp only [Nat.zero_add]
  show W.cell? _ = _
  rw [hc j]
  simp [List.getD, hjl]
 ·have hjl : j < cs.length := by rw [← hR.1]; exact (List.getElem?_eq_some_iff.1 hj).1
  have : cs[j]? = some (cs.getD j default) := by simp [List.getD, hjl]
  exact (hR.2 j d _ hj this).m0
theorem glob_ok {W : World} (h : laidMet Tryz.prog laidL W) : ∀ g, RV noB (m0 W) (Gl.gv g) (.pointer (some ⟨g, 0, none⟩)) := fun g => by
 match g with
 | 0 => exact glob_of (table h)
 | 1 => exact .any _
 | 2 => exact glob_of (tableP h)
 | g + 3 => exact .any _

/-- The blocks that were there stay as they were. -/
def GrownO (W w' : World) : Prop := W.keptBut w' (fun _ => False) ∧ (∀ a, a.block < W.heap.size → w'.frozen? a = W.frozen? a) ∧ W.heap.size ≤ w'.heap.size
theorem GrownO.frame {W w' : World} (h : GrownO W w') (may : MemPlace → Prop) : W.keptBut w' may := World.keptBut_mono (fun _ f => f.elim) h.1
theorem post_of_old {H : Type} {enc : TypeId × Value → H} {P : Program} {f : Func} {s : ChangeSpec} {apart fresh handsOn again : Bool} {W W' : World} {args : Array Value} {v : Value} {ds gs : List (DataW H)} {before pa pv : List MemPlace}
  (hW : DataW.Whole enc P f.params.toList s.vars apart W args.toList ds gs before)
  (hres : ∀ (b : Nat) (sp : Nat → Bool) (hd : Bool), DataW.TrodAll enc P W' b sp hd f.resultTypes.toList (v.resultList f.resultTypes.size) (s.fn H (ds ++ gs)).results [])
  (hargs : ∀ sp : Nat → Bool, (∀ p ∈ before, sp p.block = true) → DataW.TrodAll enc P W' 0 sp true f.params.toList args.toList (s.fn H (ds ++ gs)).args pa)
  (hvars : ∀ sp : Nat → Bool, (∀ p ∈ before, sp p.block = true) → DataW.TrodVars enc P W' sp s.vars (s.fn H (ds ++ gs)).vars pv)
  (hps : before = pa ++ pv) (hk : W.keptBut W' (· ∈ before)) (hfz : ∀ a, a.block < W.heap.size → W'.frozen? a = W.frozen? a)
  (hok : ∀ (j : Nat) (t : TypeId) (r : Value), f.resultTypes[j]? = some t → (v.resultList f.resultTypes.size)[j]? = some r → Value.okWide P W' .any 0 t r) :
  s.post enc P f apart fresh handsOn again W args v W' := by
 have hlt : ∀ p ∈ before, p.block < W.heap.size := fun p hp => hW.lt p hp
 have hold : ∀ p ∈ before, (fun b => decide (b < W.heap.size)) p.block = true := fun p hp => by simpa using hlt p hp
 refine ⟨ds, gs, before, [], pa, pv, hW, hres _ _ _, hargs _ hold, hvars _ hold, World.keptBut_mono (fun p hp => ⟨hp, ?_⟩) hk, fun _ => ?_⟩
 ·rw [hps, List.mem_append] at hp
  exact Or.inr hp
 ·obtain ⟨_, _, _, _, _, hz, hn⟩ := hW
  refine ⟨hok, _, _, ([] ++ pa) ++ pv, ⟨[] ++ pa, pv, trodAll_append (hargs _ (fun _ _ => rfl)) (hres _ _ _), hvars _ (fun _ _ => rfl), rfl, ?_, ?_⟩, ?_⟩
  ·intro b off hp
   have hm : MemPlace.cell b off ∈ before := by rw [hps]; simpa using hp
   rw [hfz _ (hlt _ hm)]
   exact hz b off hm
  ·intro ha
   have := hn ha
   rw [hps] at this
   simpa using this
  ·intro p hp _
   rw [hps]
   simpa using hp
/-- A call by data is a call of the model's. -/
theorem den_calls {f : FuncId} {ws : List V} {xs : List Value} {b : Bool} {W : World} (hL : laidMet Tryz.prog laidL W) (hd : den Tryz.prog Cp.cfg f ws = some (.d (.bool b))) (hx : RVs noB (m0 W) ws xs) :
  Calls Tryz.prog f xs.toArray W fun e W' => e = .returned (.bool b) ∧ GrownO W W' ∧ ∀ i, i < W.heap.size → W'.heap[i]? = W.heap[i]? := by
 unfold den at hd
 split at hd
 ·rename_i r hr
  split at hd
  ·simp only [Option.some.injEq] at hd
   obtain ⟨K, hK⟩ := lim_some hr
   have hok := (callF_ok Cp.cfg preOK mixed K).ok (hK K (Nat.le_refl _)) (fun id _ => rfl) (S := noB) (m := m0 W) (xs := xs) rfl rfl
    ⟨glob_ok hL, fun id o h => by simp at h, fun id o h => by simp at h, fun id o b base h => by simp at h, fun i j oi oj b x y h => by simp at h, fun b h => h.elim⟩ hx
   refine hok.mono fun e W' ⟨x, m', he, hw, hRel, hEvo, hRV, _, _⟩ => ?_
   rw [hd] at hRV
   have hx2 : x = .bool b := by
    cases hRV with
    | d h => cases h; rfl
   have hheap : ∀ i, i < W.heap.size → W'.heap[i]? = W.heap[i]? := fun i hi => by
    rw [← hw]
    refine (hEvo.keep i hi ?_).2
    rintro (h | ⟨id, o, x, h, _⟩)
    ·exact h
    ·simp at h
   refine ⟨by rw [he, hx2], ⟨⟨by rw [← hw]; exact hEvo.rest.1, by rw [← hw]; exact hEvo.rest.2.1, fun i hi => ?_⟩, fun a ha => by rw [← hw]; exact hEvo.rest.2.2 a ha, by rw [← hw]; exact hEvo.size⟩, hheap⟩
   rw [hheap i hi]
   exact (World.keptBut_refl W (fun _ => False)).2.2 i hi
  ·simp at hd
 ·simp at hd

theorem kids : Kids Tryz.prog (· < Tryz.prog.types.size) := kids_rows (by kernel_rfl) (by kernel_rfl)
theorem full : ∀ t e, t < Tryz.prog.types.size → Tryz.prog.underlying t = some (.slice e) → 0 < Tryz.prog.cellsOf e := slices_full_of Tryz.prog (by kernel_rfl)
theorem lt25 : 25 < Tryz.prog.types.size := of_decide_eq_true (by kernel_rfl)
theorem lt26 : 26 < Tryz.prog.types.size := of_decide_eq_true (by kernel_rfl)
theorem stay {H : Type} {enc : TypeId × Value → H} {W : World} {t : TypeId} {v : Value} {d : DataW H} {ps : List MemPlace} (ht : t < Tryz.prog.types.size) (h : DataW.Trod enc Tryz.prog W 0 (fun _ => true) true t v d ps) :
  ∀ (W' : World) (sp : Nat → Bool), (∀ i, i < W.heap.size → W'.heap[i]? = W.heap[i]?) → (∀ p ∈ ps, sp p.block = true) → DataW.Trod enc Tryz.prog W' 0 sp true t v d ps := fun W' sp hh hs => by
 obtain ⟨fuel, hf⟩ := h
 refine ⟨fuel, DataW.trod_stays kids (fun {t e} ht => full t e ht) (fun hh => by cases hh) ht hf (fun p hp => ?_) hs⟩
 have hlt := DataW.trod_lt fuel t _ _ hf p hp
 cases p with
 | cell b off => simp only [World.sameAt, World.cell?]; rw [hh b hlt]
 | map b => simp only [World.sameAt]; exact hh b hlt
section
variable {H : Type} {enc : TypeId × Value → H} {W : World} {r : Reach} {base : Nat} {v : Value} {d : DataW H} {ps : List MemPlace}
theorem open26 (hv : Value.okWide Tryz.prog W r base 26 v) (h : DataW.Trod enc Tryz.prog W 0 (fun _ => true) true 26 v d ps) : ∃ l : List (List Int), l.length ≤ Rows.uptoBulk d ∧ (∀ r ∈ l, r.length ≤ Rows.uptoBulk d) ∧ RV noB (m0 W) (.d (.slice (encL l))) v := by
 obtain ⟨a, len, cap, rfl⟩ := okWide_slice Tryz.underlying26 hv
 obtain ⟨fuel, hf⟩ := h
 obtain ⟨l, v', h1, h2, h3, h4⟩ := openRow hf
 have hv' : v' = .slice a len cap := by simpa [Value.cells] using h1.symm
 subst hv'
 exact ⟨l, h3, h4, .d h2.m0⟩
theorem open25 (hv : Value.okWide Tryz.prog W r base 25 v) (h : DataW.Trod enc Tryz.prog W 0 (fun _ => true) true 25 v d ps) : ∃ im : Im, im.sz ≤ Rows.uptoBulk d ∧ (∀ r ∈ im.rs, RtB r) ∧ RV noB (m0 W) (aM im) v := by
 obtain ⟨cs, rfl, hcs⟩ : ∃ cs, v = .agg cs ∧ cs.size = 2 := by
  unfold Value.okWide at hv
  rw [Tryz.underlying25] at hv
  obtain ⟨cs, h1, h2, _⟩ := hv
  exact ⟨cs, h1, by rw [h2, c25]⟩
 obtain ⟨fuel, hf⟩ := h
 obtain ⟨im, h1, h2, h3⟩ := openIm hf
 refine ⟨im, h2, h3, .agg (by simp [Im.cells, hcs]) fun j x y hx hy => ?_⟩
 rw [List.getElem?_map, Option.map_eq_some_iff] at hx
 obtain ⟨d, hd, rfl⟩ := hx
 exact .d (h1.2 j d y hd (by simpa [Value.cells] using hy)).m0
end
theorem rtOK_of {im : Im} (hs : im.sz ≤ MB) (h : ∀ r ∈ im.rs, RtB r) : ∀ r, r ∈ im.rs → RtOK r := fun r hr => by
 have h1 := Im.mem_rs hr
 obtain ⟨a, b, c⟩ := h r hr
 exact ⟨by omega, a, b, c⟩

end Go.Ac
end

section
set_option maxRecDepth 4000
namespace Go.Ac
open Go.Proofs Go.ChangeShapes Go.WideShapes Go.RowKit
open Go.Proofs.YtjkcpgkpmklcaaaGreatDoor (Rows.uptoBulk Rows.uptoBulkAll Rows.uptoSmall Rows.laid_synchrony_asm_operations)

/-- What a law of an image and a list of rows comes to. -/
theorem contract2 {f : FuncId} {fn : Func} {spec : ChangeSpec} (hp : fn.params = #[25, 26]) (hr : fn.resultTypes = #[4]) (hvars : spec.vars = []) (hspec : ∀ (H : Type) (d d' : DataW H), spec.fn H [d, d'] = { results := [.lit (.bool true)], args := [d, d'] })
  (hden : ∀ (im : Im) (rows : List (List Int)), im.sz ≤ MB → (∀ r, r ∈ im.rs → RtOK r) → rows.length ≤ MB → (∀ r ∈ rows, r.length ≤ 4194304) → den Tryz.prog Cp.cfg f [aM im, .d (.slice (encL rows))] = some (.d (.bool true)))
  (H : Type) (enc : TypeId × Value → H) (W : World) (base : Nat) (args : Array Value) (ds gs : List (DataW H)) (before : List MemPlace)
  (hval : ∀ (j : Nat) t v, fn.params[j]? = some t → args[j]? = some v → Value.okWide Tryz.prog W .any base t v)
  (hW : DataW.Whole enc Tryz.prog fn.params.toList spec.vars false W args.toList ds gs before) (hk : Rows.uptoSmall H (ds ++ gs) = true)
  (hL : laidMet Tryz.prog laidL W) :
  Calls Tryz.prog f args W fun e W' => ∃ v, e = .returned v ∧ spec.post enc Tryz.prog fn false true false false W args v W' := by
 have hW' := hW
 obtain ⟨p, q, hA0, hV, rfl, hfz, hnd⟩ := hW
 have hA : DataW.TrodAll enc Tryz.prog W 0 (fun _ => true) true fn.params.toList args.toList ds p := hA0
 rw [hp] at hA hval
 obtain ⟨v0, vs0, d0, ds0, p0, q0, hargs, rfl, rfl, h0, r0⟩ := trodAll_cons hA
 obtain ⟨v1, vs1, d1, ds1, p1, q1, rfl, rfl, rfl, h1, r1⟩ := trodAll_cons r0
 obtain ⟨rfl, rfl, rfl⟩ := trodAll_nil r1
 obtain rfl : args = #[v0, v1] := by cases args; simp_all
 rw [hvars] at hV
 obtain ⟨rfl, rfl⟩ := trodVars_none hV
 have hb : Rows.uptoBulk d0 + Rows.uptoBulk d1 ≤ 1048576 := by
  have h1 := of_decide_eq_true hk
  simp only [List.append_nil, Rows.uptoBulkAll] at h1
  omega
 obtain ⟨im, hsz, hrb, hRV0⟩ := open25 (hval 0 25 v0 rfl rfl) h0
 obtain ⟨rows, hl1, hl1', hRV1⟩ := open26 (hval 1 26 v1 rfl rfl) h1
 have hs : im.sz ≤ MB := by unfold MB; omega
 have hd := hden im rows hs (rtOK_of hs hrb) (by unfold MB; omega) (fun r hr => by have := hl1' r hr; omega)
 refine (den_calls (xs := [v0, v1]) hL hd ⟨rfl, fun j x y hx hy => ?_⟩).mono fun e W' ⟨he, hg, hh⟩ => ?_
 ·match j with
  | 0 => simp at hx hy; subst hx; subst hy; exact hRV0
  | 1 => simp at hx hy; subst hx; subst hy; exact hRV1
  | j + 2 => simp at hx
 subst he
 clear hA0
 simp only [List.append_nil] at hW'
 have hfn := hspec H d0 d1
 refine ⟨_, rfl, post_of_old (pa := p0 ++ (p1 ++ [])) (pv := []) (by simpa using hW') (fun _ _ _ => ?_) (fun sp hs => ?_) (fun _ _ => ?_) (by simp) (hg.frame _) hg.2.1 ?_⟩
 ·rw [hr]
  show DataW.TrodAll enc Tryz.prog W' _ _ _ [4] [.bool true] (spec.fn H [d0, d1]).results []
  rw [hfn]
  exact trodAll_cons_mk (shut_bool Tryz.underlying4 _) trodAll_mk0
 ·rw [hp]
  show DataW.TrodAll enc Tryz.prog W' 0 sp true [25, 26] [v0, v1] (spec.fn H [d0, d1]).args (p0 ++ (p1 ++ []))
  rw [hfn]
  exact trodAll_cons_mk (stay lt25 h0 W' sp hh fun p hp => hs p (by simp [hp])) (trodAll_cons_mk (stay lt26 h1 W' sp hh fun p hp => hs p (by simp [hp])) trodAll_mk0)
 ·show DataW.TrodVars enc Tryz.prog W' _ spec.vars (spec.fn H [d0, d1]).vars []
  rw [hvars, hfn]
  exact rfl
 ·exact ok_one hr rfl (okWide_bool_mk Tryz.underlying4 _)

end Go.Ac
end
