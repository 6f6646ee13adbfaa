/- Names of routines. -/
import Derived.Test.YtofhhkkncaoneaaDoorAcBM
import Derived.Test.YtofhhkkncaoneaaDoorAcDM
import Derived.Test.YtofhhkkncaoneaaDoorAcGM
import Derived.Test.YtofhhkkncaoneaaDoorAcJM
import Derived.Test.YtofhhkkncaoneaaDoorAcOM
import Derived.Test.YtofhhkkncaoneaaDoorAcSM
import Derived.Test.YtofhhkkncaoneaaDoorAcXM
import Derived.Test.YtofhhkkncaoneaaDoorAcUcM
import Derived.Test.YtofhhkkncaoneaaDoorAcThM
import Derived.Test.YtofhhkkncaoneaaDoorCpBM
import Derived.Test.YtofhhkkncaoneaaDoorCpD
import Derived.Test.YtofhhkkncaoneaaDoorCpF
import Derived.Lib.RuneCount
import Derived.Calls
import Derived.Orders
import Derived.Laws.World
import Derived.Laws.Sem
import Derived.Laws.Cells
import Derived.Laws.Append
import GoSem.ClaimData
import Derived.Laws.Tables
import Derived.Laws.Slices
import Derived.Laws.Strings
import Derived.Laws.Small
import Derived.KernelRfl
import Derived.Test.YtofhhkkncaoneaaDoorChecked
set_option linter.unusedVariables false
set_option linter.unusedSimpArgs false
set_option maxRecDepth 4000
set_option linter.unusedSimpArgs false
set_option linter.unusedVariables false
namespace Go.Ac
open Go.Proofs

theorem blockQ_n {i : Nat} {Q : Ex → St → Prop} {t : St} (h : Q .normal t) : blockQ i Q .normal t := h
/-- A rune that no name may hold. -/
def badR (c : Int) : Bool := !decide (c = 95) && (decide (c < 48) || decide (c > 57)) && (decide (c < 65) || decide (c > 90)) && (decide (c < 97) || decide (c > 122))

set_option maxHeartbeats 4000000 in
theorem badR_den (c : Int) : den Tryd.prog Cp.cfg 59 [.d (.int .i32 c)] = some (dB (badR c)) := by
  have hI : (c < 48) ∨ (48 ≤ c ∧ c ≤ 57) ∨ (58 ≤ c ∧ c ≤ 64) ∨ (65 ≤ c ∧ c ≤ 90) ∨ (91 ≤ c ∧ c ≤ 94) ∨ (c = 95) ∨ (c = 96) ∨ (97 ≤ c ∧ c ≤ 122) ∨ (c > 122) := by omega
  refine den_wp Tryd.func59 rfl (by kernel_rfl) rfl rfl ?_
  rcases hI with h | h | h | h | h | h | h | h | h
  · have f0 : (c = 95) = False := by simp; omega
    have f1 : (c < 48) = True := by simp; omega
    have f2 : (c > 57) = False := by simp; omega
    have f3 : (c < 65) = True := by simp; omega
    have f4 : (c > 90) = False := by simp; omega
    have f5 : (c < 97) = True := by simp; omega
    have f6 : (c > 122) = False := by simp; omega
    refine wkc (And.intro @f0 (And.intro @f1 (And.intro @f2 (And.intro @f3 (And.intro @f4 (And.intro @f5 (And.intro @f6 @int_bne))))))) ?_
    show retQ _ _ _ _ _
    exact ⟨.inr rfl, _, _, rfl, by simp [badR, f0, f1, f2, f3, f4, f5, f6]; rfl⟩
  · have f0 : (c = 95) = False := by simp; omega
    have f1 : (c < 48) = False := by simp; omega
    have f2 : (c > 57) = False := by simp; omega
    have f3 : (c < 65) = True := by simp; omega
    have f4 : (c > 90) = False := by simp; omega
    have f5 : (c < 97) = True := by simp; omega
    have f6 : (c > 122) = False := by simp; omega
    refine wkc (And.intro @f0 (And.intro @f1 (And.intro @f2 (And.intro @f3 (And.intro @f4 (And.intro @f5 (And.intro @f6 @int_bne))))))) ?_
    show retQ _ _ _ _ _
    exact ⟨.inr rfl, _, _, rfl, by simp [badR, f0, f1, f2, f3, f4, f5, f6]; rfl⟩
  · have f0 : (c = 95) = False := by simp; omega
    have f1 : (c < 48) = False := by simp; omega
    have f2 : (c > 57) = True := by simp; omega
    have f3 : (c < 65) = True := by simp; omega
    have f4 : (c > 90) = False := by simp; omega
    have f5 : (c < 97) = True := by simp; omega
    have f6 : (c > 122) = False := by simp; omega
    refine wkc (And.intro @f0 (And.intro @f1 (And.intro @f2 (And.intro @f3 (And.intro @f4 (And.intro @f5 (And.intro @f6 @int_bne))))))) ?_
    show retQ _ _ _ _ _
    exact ⟨.inr rfl, _, _, rfl, by simp [badR, f0, f1, f2, f3, f4, f5, f6]; rfl⟩
  · have f0 : (c = 95) = False := by simp; omega
    have f1 : (c < 48) = False := by simp; omega
    have f2 : (c > 57) = True := by simp; omega
    have f3 : (c < 65) = False := by simp; omega
    have f4 : (c > 90) = False := by simp; omega
    have f5 : (c < 97) = True := by simp; omega
    have f6 : (c > 122) = False := by simp; omega
    refine wkc (And.intro @f0 (And.intro @f1 (And.intro @f2 (And.intro @f3 (And.intro @f4 (And.intro @f5 (And.intro @f6 @int_bne))))))) ?_
    show retQ _ _ _ _ _
    exact ⟨.inr rfl, _, _, rfl, by simp [badR, f0, f1, f2, f3, f4, f5, f6]; rfl⟩
  · have f0 : (c = 95) = False := by simp; omega
    have f1 : (c < 48) = False := by simp; omega
    have f2 : (c > 57) = True := by simp; omega
    have f3 : (c < 65) = False := by simp; omega
    have f4 : (c > 90) = True := by simp; omega
    have f5 : (c < 97) = True := by simp; omega
    have f6 : (c > 122) = False := by simp; omega
    refine wkc (And.intro @f0 (And.intro @f1 (And.intro @f2 (And.intro @f3 (And.intro @f4 (And.intro @f5 (And.intro @f6 @int_bne))))))) ?_
    show retQ _ _ _ _ _
    exact ⟨.inr rfl, _, _, rfl, by simp [badR, f0, f1, f2, f3, f4, f5, f6]; rfl⟩
  · have f0 : (c = 95) = True := by simp; omega
    have f1 : (c < 48) = False := by simp; omega
    have f2 : (c > 57) = True := by simp; omega
    have f3 : (c < 65) = False := by simp; omega
    have f4 : (c > 90) = True := by simp; omega
    have f5 : (c < 97) = True := by simp; omega
    have f6 : (c > 122) = False := by simp; omega
    refine wkc (And.intro @f0 (And.intro @f1 (And.intro @f2 (And.intro @f3 (And.intro @f4 (And.intro @f5 (And.intro @f6 @int_bne))))))) ?_
    show retQ _ _ _ _ _
    exact ⟨.inr rfl, _, _, rfl, by simp [badR, f0, f1, f2, f3, f4, f5, f6]; rfl⟩
  · have f0 : (c = 95) = False := by simp; omega
    have f1 : (c < 48) = False := by simp; omega
    have f2 : (c > 57) = True := by simp; omega
    have f3 : (c < 65) = False := by simp; omega
    have f4 : (c > 90) = True := by simp; omega
    have f5 : (c < 97) = True := by simp; omega
    have f6 : (c > 122) = False := by simp; omega
    refine wkc (And.intro @f0 (And.intro @f1 (And.intro @f2 (And.intro @f3 (And.intro @f4 (And.intro @f5 (And.intro @f6 @int_bne))))))) ?_
    show retQ _ _ _ _ _
    exact ⟨.inr rfl, _, _, rfl, by simp [badR, f0, f1, f2, f3, f4, f5, f6]; rfl⟩
  · have f0 : (c = 95) = False := by simp; omega
    have f1 : (c < 48) = False := by simp; omega
    have f2 : (c > 57) = True := by simp; omega
    have f3 : (c < 65) = False := by simp; omega
    have f4 : (c > 90) = True := by simp; omega
    have f5 : (c < 97) = False := by simp; omega
    have f6 : (c > 122) = False := by simp; omega
    refine wkc (And.intro @f0 (And.intro @f1 (And.intro @f2 (And.intro @f3 (And.intro @f4 (And.intro @f5 (And.intro @f6 @int_bne))))))) ?_
    show retQ _ _ _ _ _
    exact ⟨.inr rfl, _, _, rfl, by simp [badR, f0, f1, f2, f3, f4, f5, f6]; rfl⟩
  · have f0 : (c = 95) = False := by simp; omega
    have f1 : (c < 48) = False := by simp; omega
    have f2 : (c > 57) = True := by simp; omega
    have f3 : (c < 65) = False := by simp; omega
    have f4 : (c > 90) = True := by simp; omega
    have f5 : (c < 97) = False := by simp; omega
    have f6 : (c > 122) = True := by simp; omega
    refine wkc (And.intro @f0 (And.intro @f1 (And.intro @f2 (And.intro @f3 (And.intro @f4 (And.intro @f5 (And.intro @f6 @int_bne))))))) ?_
    show retQ _ _ _ _ _
    exact ⟨.inr rfl, _, _, rfl, by simp [badR, f0, f1, f2, f3, f4, f5, f6]; rfl⟩

/-- The first bad rune's place, read from `pos` on. -/
def idxS (s : List UInt8) : Nat → Nat → Int
  | 0, _ => -1
  | k + 1, pos => if pos < s.length then (if badR ((Utf8.decode ⟨s.toArray⟩ pos).1 : Int) then (pos : Int) else idxS s k (pos + (Utf8.decode ⟨s.toArray⟩ pos).2)) else -1
theorem idxS_succ (s : List UInt8) (k pos : Nat) : idxS s (k + 1) pos = if pos < s.length then (if badR ((Utf8.decode ⟨s.toArray⟩ pos).1 : Int) then (pos : Int) else idxS s k (pos + (Utf8.decode ⟨s.toArray⟩ pos).2)) else -1 := rfl
theorem idxS_end {s : List UInt8} {pos : Nat} (h : s.length ≤ pos) : ∀ k, idxS s k pos = -1
  | 0 => rfl
  | k + 1 => by unfold idxS; rw [if_neg (by omega)]
theorem decW (s : List UInt8) {pos : Nat} (h : pos < s.length) : 1 ≤ (Utf8.decode ⟨s.toArray⟩ pos).2 := Go.Lib.decode_width_pos _ _ (by simpa [ByteArray.size] using h)
theorem idxS_more (s : List UInt8) : ∀ (k pos : Nat), s.length - pos ≤ k → idxS s (k + 1) pos = idxS s k pos
  | 0, pos, h => by
    unfold idxS; rw [if_neg (by omega)]
  | k + 1, pos, h => by
    by_cases hp : pos < s.length
    · have hw := decW s hp
      rw [idxS_succ s (k + 1) pos, idxS_succ s k pos, if_pos hp, if_pos hp, idxS_more s k _ (by omega)]
    · rw [idxS_end (by omega), idxS_end (by omega)]
theorem idxS_up (s : List UInt8) {k : Nat} {pos : Nat} (h : s.length - pos ≤ k) : ∀ j, idxS s (k + j) pos = idxS s k pos
  | 0 => rfl
  | j + 1 => by rw [← Nat.add_assoc, idxS_more s (k + j) pos (by omega), idxS_up s h j]
def badI (s : List UInt8) : Int := idxS s s.length 0
theorem idxS_step (s : List UInt8) {pos : Nat} (h : pos < s.length) : idxS s s.length pos = if badR ((Utf8.decode ⟨s.toArray⟩ pos).1 : Int) then (pos : Int) else idxS s s.length (pos + (Utf8.decode ⟨s.toArray⟩ pos).2) := by
  have hw := decW s h
  rw [← idxS_up s (k := s.length) (pos := pos) (by omega) 1]
  rw [idxS_succ, if_pos h]

set_option maxHeartbeats 1000000 in
theorem indexS_den (s : List UInt8) (hs : s.length ≤ MX) : den Tryd.prog Cp.cfg 88 [dS s, .fn 59 [], dB true] = some (dI (badI s)) := by
  have hf := badR_den
  simp only [dI, dB] at hf
  unfold MX at hs
  refine den_wp Tryd.func88 rfl (by kernel_rfl) rfl rfl ?_
  refine wk (And.intro @dS.eq_1 @dB.eq_1) ?_
  apply WP.loop' (I := fun d s' => ∃ pos : Nat, d = s.length - pos ∧ idxS s s.length pos = badI s ∧ ∃ e c, (e = [(1, .fn 59 []), (2, dB true), (10, .it 0 0)] ∨ ∃ x y, e = [(1, .fn 59 []), (2, dB true), (7, x), (10, .it 0 0), (19, y)]) ∧ s' = ⟨e, [(0, ⟨0, false, [.itc s pos]⟩)], 1, c, 0, []⟩) (d := s.length)
  · exact ⟨0, by simp, rfl, _, _, .inl (by simp [dS, dB]), rfl⟩
  rintro d _ ⟨pos, hd, hno, e, c, he, rfl⟩
  by_cases hp : pos < s.length
  · have hst := idxS_step s hp
    have hw := decW s hp
    obtain ⟨r, w, hrw⟩ : ∃ r w, Utf8.decode ⟨s.toArray⟩ pos = (r, w) := ⟨_, _, rfl⟩
    rw [hrw] at hst hw
    rw [hno] at hst
    simp only at hst hw
    have hfr := hf (r : Int)
    cases hb : badR (r : Int) with
    | true =>
      rw [hb] at hfr hst
      rcases he with rfl | ⟨x, y, rfl⟩
      all_goals
        refine wkc (And.intro @hp (And.intro @hrw (And.intro @nblt_eq (And.intro @hfr @nextV.eq_def)))) ?_
        rw [hst]
        show retQ _ _ _ _ _
        exact ⟨.inr rfl, _, _, rfl, rfl⟩
    | false =>
      rw [hb] at hfr hst
      rcases he with rfl | ⟨x, y, rfl⟩
      all_goals
        refine wkc (And.intro @hp (And.intro @hrw (And.intro @nblt_eq (And.intro @hfr @nextV.eq_def)))) ?_
        refine blockQ_n ?_
        refine loop_next (by simp; exact Is.rfl) ?_
        exact ⟨s.length - (pos + w), by omega, pos + w, rfl, hst.symm, _, _, .inr ⟨_, _, rfl⟩, rfl⟩
  · have he' : badI s = -1 := by rw [← hno, idxS_end (by omega)]
    rw [he']
    rcases he with rfl | ⟨x, y, rfl⟩
    all_goals
      refine wkc (And.intro @hp (And.intro @nblt_eq @nextV.eq_def)) ?_
      show retQ _ _ _ _ _
      exact ⟨.inr rfl, _, _, rfl, rfl⟩
theorem indexS2_den (s : List UInt8) (hs : s.length ≤ MX) : den Tryd.prog Cp.cfg 76 [dS s, .fn 59 []] = some (dI (badI s)) := by
  have h := indexS_den s hs
  simp only [dS, dB, dI] at h
  refine den_wp Tryd.func76 rfl (by kernel_rfl) rfl rfl ?_
  refine wk (And.intro @dS.eq_1 @h) ?_
  show retQ _ _ _ _ _
  exact ⟨.inr rfl, _, _, rfl, rfl⟩
theorem containsS_den (s : List UInt8) (hs : s.length ≤ MX) : den Tryd.prog Cp.cfg 58 [dS s, .fn 59 []] = some (dB (decide (badI s ≥ 0))) := by
  have h := indexS2_den s hs
  simp only [dS, dI] at h
  refine den_wp Tryd.func58 rfl (by kernel_rfl) rfl rfl ?_
  refine wk (And.intro @dS.eq_1 @h) ?_
  show retQ _ _ _ _ _
  exact ⟨.inr rfl, _, _, rfl, rfl⟩
/-- A name that may be. -/
def nameOK (s : List UInt8) : Bool := !decide (s = []) && decide (s.length ≤ 40) && !decide (badI s ≥ 0)
theorem name_den (s : List UInt8) (hs : s.length ≤ MX) : den Tryd.prog Cp.cfg 44 [dS s] = some (dB (nameOK s)) := by
  have h := containsS_den s hs
  simp only [dS, dB] at h
  refine den_wp Tryd.func44 rfl (by kernel_rfl) rfl rfl ?_
  by_cases h0 : s = []
  · subst h0
    refine wkc (@dS.eq_1) ?_
    show retQ _ _ _ _ _
    exact ⟨.inr rfl, _, _, rfl, by simp [nameOK]; rfl⟩
  · have hE : s.isEmpty = false := by cases s with | nil => exact absurd rfl h0 | cons a b => rfl
    by_cases h1 : s.length ≤ 40
    · have h1' : ((s.length : Int) ≤ 40) = True := by simp; omega
      refine wkc (And.intro @dS.eq_1 (And.intro @hE (And.intro @h1' @h))) ?_
      show retQ _ _ _ _ _
      exact ⟨.inr rfl, _, _, rfl, by simp [nameOK, h0, h1]; rfl⟩
    · have h1' : ((s.length : Int) ≤ 40) = False := by simp; omega
      refine wkc (And.intro @dS.eq_1 (And.intro @hE (And.intro @h1' @h))) ?_
      show retQ _ _ _ _ _
      exact ⟨.inr rfl, _, _, rfl, by simp [nameOK, h0, h1]; rfl⟩
end Go.Ac
