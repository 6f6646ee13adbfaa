/- No step counts more than the worst. -/
import Derived.Test.YtofhhkkncaoneaaDoorAcBM
import Derived.Test.YtofhhkkncaoneaaDoorAcDM
import Derived.Test.YtofhhkkncaoneaaDoorAcGM
import Derived.Test.YtofhhkkncaoneaaDoorAcJM
import Derived.Test.YtofhhkkncaoneaaDoorAcLM
import Derived.Test.YtofhhkkncaoneaaDoorAcOM
import Derived.Test.YtofhhkkncaoneaaDoorAcSM
import Derived.Test.YtofhhkkncaoneaaDoorAcXM
import Derived.Test.YtofhhkkncaoneaaDoorAcUcM
import Derived.Test.YtofhhkkncaoneaaDoorAcThM
import Derived.Test.YtofhhkkncaoneaaDoorCpBM
import Derived.Test.YtofhhkkncaoneaaDoorCpD
import Derived.Test.YtofhhkkncaoneaaDoorCrTM
import Derived.Test.YtofhhkkncaoneaaDoorCqFM
import Derived.Test.YtofhhkkncaoneaaDoorCqIM
import Derived.Test.YtofhhkkncaoneaaDoorCqNM
import Derived.Test.YtofhhkkncaoneaaDoorCpWM
import Derived.Test.YtofhhkkncaoneaaDoorCrE
import Derived.Test.YtofhhkkncaoneaaDoorCrF
import Derived.Calls
import Derived.Orders
import Derived.Laws.World
import Derived.Laws.Sem
import Derived.Laws.Cells
import Derived.Laws.Append
import GoSem.ClaimData
import Derived.Laws.Tables
import Derived.Laws.Slices
import Derived.Laws.Strings
import Derived.Laws.Small
import Derived.KernelRfl
import Derived.Test.YtofhhkkncaoneaaDoorChecked
import Derived.Lib.RuneCount
set_option linter.unusedVariables false
set_option linter.unusedSimpArgs false
set_option maxRecDepth 4000
set_option linter.unusedSimpArgs false
set_option linter.unusedVariables false
namespace Go.Ac
open Go.Proofs

theorem rgv_nat (l : List Int) (t : Nat) : rgv l (t : Int) = l.getD t 0 := rfl
theorem rgv_set (l : List Int) (k t : Nat) (v : Int) (hk : k < l.length) : rgv (l.set k v) (t : Int) = if k = t then v else rgv l (t : Int) := by
  rw [rgv_nat, rgv_nat, List.getD_eq_getElem?_getD, List.getD_eq_getElem?_getD, List.getElem?_set]
  by_cases h : k = t
  · subst h; simp [hk]
  · simp [h]
theorem lgN_keep {bf : List Int} {code : List I} {d t : Nat} (ht : code.length - d ≤ t) : ∀ e, d + e ≤ code.length → rgv (lgN bf code (d + e)) (t : Int) = rgv (lgN bf code d) (t : Int)
  | 0, _ => rfl
  | e + 1, he => by
    rw [← Nat.add_assoc, lgN, rgv_set _ _ _ _ (by rw [lgN_len]; omega), if_neg (by omega)]
    exact lgN_keep ht e (by omega)
/-- Ways lead forward. -/
def Fwd (k L : Nat) (a : Nat) (i : I) : Prop := (i.op = 7 → ∃ B : Nat, i.b = B ∧ a < B ∧ B ≤ L) ∧ (i.op = 8 → ∃ B : Nat, i.b = B ∧ a < B ∧ B ≤ L) ∧ (i.op = 9 → ∃ A : Nat, i.a = A ∧ A < k)
theorem OkI.fwd {rs : List Rt} {k R M a L : Nat} {i : I} (h : OkI rs k R M a L i) : Fwd k L a i := by
  refine ⟨fun h7 => ?_, fun h8 => ?_, fun h9 => ?_⟩
  · cases h <;> simp at h7; exact ⟨_, rfl, by assumption, by assumption⟩
  · cases h <;> simp at h8; exact ⟨_, rfl, by assumption, by assumption⟩
  · cases h <;> simp at h9; exact ⟨_, rfl, by assumption⟩
theorem nextL_eq {bf n1 n2 : List Int} {k L a : Nat} {i : I} (hf : Fwd k L a i) (h : ∀ t : Nat, a < t → rgv n1 (t : Int) = rgv n2 (t : Int)) : nextL bf n1 a i = nextL bf n2 a i := by
  have e : rgv n1 ((a : Int) + 1) = rgv n2 ((a : Int) + 1) := by
    have := h (a + 1) (by omega)
    rwa [show ((a + 1 : Nat) : Int) = (a : Int) + 1 by omega] at this
  unfold nextL
  rw [e]
  by_cases h7 : i.op = 7
  · obtain ⟨B, hB, h1, h2⟩ := hf.1 h7
    rw [if_pos h7, if_pos h7, hB, h B h1]
  by_cases h8 : i.op = 8
  · obtain ⟨B, hB, h1, h2⟩ := hf.2.1 h8
    rw [if_neg h7, if_neg h7, if_pos h8, if_pos h8, hB, h B h1]
  · rw [if_neg h7, if_neg h7, if_neg h8, if_neg h8]
theorem lgN_fix {bf : List Int} {code : List I} {k : Nat} (hf : ∀ a i, code[a]? = some i → Fwd k code.length a i) {a : Nat} {i : I} (hi : code[a]? = some i) : rgv (lgN bf code code.length) (a : Int) = capL (nextL bf (lgN bf code code.length) a i + 1) := by
  obtain ⟨hl, hie⟩ := List.getElem?_eq_some_iff.1 hi
  obtain ⟨d, hd⟩ : ∃ d, d = code.length - 1 - a := ⟨_, rfl⟩
  have k1 := lgN_keep (bf := bf) (code := code) (d := d + 1) (t := a) (by omega) (code.length - (d + 1)) (by omega)
  rw [show d + 1 + (code.length - (d + 1)) = code.length by omega] at k1
  have hg : code.getD (code.length - 1 - d) iNo = i := by rw [show code.length - 1 - d = a by omega]; simp [List.getD, hi]
  rw [k1, lgN, rgv_set _ _ _ _ (by rw [lgN_len]; omega), if_pos (by omega), hg, show code.length - 1 - d = a by omega]
  have k2 : nextL bf (lgN bf code d) a i = nextL bf (lgN bf code code.length) a i := nextL_eq (hf a i hi) fun t ht => by
    have := lgN_keep (bf := bf) (code := code) (d := d) (t := t) (by omega) (code.length - d) (by omega)
    rw [show d + (code.length - d) = code.length by omega] at this
    exact this.symm
  rw [k2]

theorem loopM_cnt {rs : List Rt} {f : CallM} {r : Rt} {base k R M : Nat} {bf : List Int} (hbf : FarL bf) (hok : ∀ a i, r.code[a]? = some i → OkI rs k R M a r.code.length i)
    (hc : ∀ A : Nat, A < k → rgv bf (A : Int) ≤ 1099511627776 → ∀ b ins mem, ((f A b ins mem).2.2 : Int) ≤ rgv bf (A : Int)) : ∀ (d at_ : Nat) (regs mem : List Int) (cnt : Nat), rgv (lgN bf r.code r.code.length) (at_ : Int) ≤ 1099511627776 →
      ((loopM rs f r base d at_ regs mem cnt).2.2 : Int) ≤ cnt + rgv (lgN bf r.code r.code.length) (at_ : Int)
  | 0, at_, regs, mem, cnt, h => by
    have := rgv_far (lgN_far (code := r.code) hbf r.code.length) (at_ : Int)
    show (cnt : Int) ≤ _
    omega
  | d + 1, at_, regs, mem, cnt, h => by
    have hfar := lgN_far (code := r.code) hbf r.code.length
    have h0 := rgv_far hfar (at_ : Int)
    by_cases ha : at_ < r.code.length
    · have hi : r.code[at_]? = some r.code[at_] := by simp [ha]
      obtain ⟨i, hie⟩ : ∃ i, i = r.code[at_] := ⟨_, rfl⟩
      rw [← hie] at hi
      have hoi := hok at_ i hi
      have hx := lgN_fix (bf := bf) (fun a i hi => (hok a i hi).fwd) hi
      have hn0 := nextL_far hbf hfar at_ i
      rw [loopM_step hi]
      obtain ⟨N, hN⟩ : ∃ N, N = lgN bf r.code r.code.length := ⟨_, rfl⟩
      rw [← hN] at hx hn0 h h0 hfar ⊢
      obtain ⟨x, hxe⟩ : ∃ x, x = nextL bf N at_ i := ⟨_, rfl⟩
      rw [← hxe] at hx hn0
      have hxx : rgv N (at_ : Int) = x + 1 := by
        unfold capL at hx; split at hx <;> omega
      have key : rgv N ((stepM rs f base at_ i regs mem).1 : Int) ≤ 1099511627776 ∧ ((stepM rs f base at_ i regs mem).2.2.2 : Int) + rgv N ((stepM rs f base at_ i regs mem).1 : Int) ≤ x := by
        have hs1 := rgv_far hfar ((at_ : Int) + 1)
        have ec : ((at_ + 1 : Nat) : Int) = (at_ : Int) + 1 := by omega
        cases hoi with
        | jump B h1 h2 =>
          have : x = rgv N (B : Int) := by rw [hxe]; simp [nextL]
          simp [stepM]; omega
        | zero A B hA h1 h2 =>
          have := rgv_far hfar (B : Int)
          have : x = if rgv N (B : Int) > rgv N ((at_ : Int) + 1) then rgv N (B : Int) else rgv N ((at_ : Int) + 1) := by rw [hxe]; simp [nextL]
          by_cases hz : rgv regs (A : Int) = 0
          · simp [stepM, hz]; split at this <;> omega
          · simp [stepM, hz]; split at this <;> omega
        | call A B C D q hq hA hB hC hD =>
          have hb := rgv_far hbf (A : Int)
          have hx1 : x = rgv N ((at_ : Int) + 1) + rgv bf (A : Int) := by rw [hxe]; simp [nextL]
          have := hc A hA (by omega) (base + B) ((regs.drop C).take (rtAt rs A).inn.length) mem
          simp [stepM]; omega
        | _ =>
          have : x = rgv N ((at_ : Int) + 1) := by rw [hxe]; simp [nextL]
          simp [stepM]; omega
      have ih := loopM_cnt (base := base) hbf hok hc d (stepM rs f base at_ i regs mem).1 (stepM rs f base at_ i regs mem).2.1 (stepM rs f base at_ i regs mem).2.2.1 (cnt + 1 + (stepM rs f base at_ i regs mem).2.2.2) (by rw [← hN]; exact key.1)
      rw [← hN] at ih
      omega
    · rw [loopM_end (by omega)]
      show (cnt : Int) ≤ _
      omega

theorem wL_at (rs : List Rt) : ∀ (j A : Nat), A < j → rgv (wL rs j) (A : Int) = lng (wL rs A) (rtAt rs (A : Int))
  | j + 1, A, h => by
    rw [wL, rgv_nat, List.getD_eq_getElem?_getD]
    by_cases hA : A < j
    · rw [List.getElem?_append_left (by rw [wL_len]; exact hA), ← List.getD_eq_getElem?_getD, ← rgv_nat]
      exact wL_at rs j A hA
    · have : A = j := by omega
      subst this
      rw [List.getElem?_append_right (by rw [wL_len]; omega), wL_len]; simp

theorem callM_cnt {rs : List Rt} (h : OkM rs) : ∀ (f k : Nat) (base : Nat) (ins mem : List Int), k < f → k < rs.length → lng (wL rs k) (rtAt rs (k : Int)) ≤ 1099511627776 → ((callM rs f k base ins mem).2.2 : Int) ≤ lng (wL rs k) (rtAt rs (k : Int))
  | f + 1, k, base, ins, mem, hk, hl, hw => by
    have hq : rs[k]? = some rs[k] := by simp [hl]
    obtain ⟨q, hqe⟩ : ∃ q, q = rs[k] := ⟨_, rfl⟩
    rw [← hqe] at hq
    have hr := h k q hq
    have hg : rs.getD k rtZ = q := by simp [List.getD, hq]
    have hra : rtAt rs (k : Int) = q := rtAt_nat hq
    rw [hra] at hw ⊢
    have := loopM_cnt (rs := rs) (f := callM rs f) (r := q) (base := base) (k := k) (bf := wL rs k) (wL_far rs k) hr.code (fun A hA hle b i m => by
      rw [wL_at rs k A hA] at hle ⊢
      exact callM_cnt h f A b i m (by omega) (by omega) hle) q.code.length 0 (ins ++ List.replicate (q.regs.toNat - ins.length) 0) mem 0 (by exact hw)
    simp only [callM, hg]
    have e : (((0 : Nat) : Int)) = 0 := rfl
    rw [e] at this
    unfold lng
    omega

theorem stepR_le {im : Im} (hG : GoodIm im) {mem row : List Int} {cnt : Int} (hw : worstW im ≤ 1099511627776) (hc : cnt ≤ worstW im) : (stepR im mem cnt row).2.2.2 ≤ worstW im := by
  unfold stepR
  split
  · exact hc
  · split
    · exact hc
    · have hne := hG.ne
      have hww : worstW im = lng (wL im.rs (im.rs.length - 1)) (rtAt im.rs ((im.rs.length - 1 : Nat) : Int)) := by
        rw [worstW, show (im.rs.length : Int) - 1 = ((im.rs.length - 1 : Nat) : Int) by omega, wL_at _ _ _ (by omega)]
      have h1 := callM_cnt hG.ok im.rs.length (im.rs.length - 1) 0 row mem (by omega) (by omega) (by rw [← hww]; exact hw)
      rw [← hww] at h1
      show IntKind.i64.wrap _ ≤ _
      rw [w_id'] <;> omega
end Go.Ac
