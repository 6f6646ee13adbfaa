/- The check. -/
import Derived.Test.YtjkcpgkpmklcaaaGreatDoorCwJM
set_option linter.unusedVariables false
set_option linter.unusedSimpArgs false
section
set_option maxRecDepth 8000
namespace Go.Ac
open Go.Proofs
theorem slice_tab {look : Look} {a b : Nat} {z : Option (List V)} : sliceV look ⟨.array 11 54 6 true, a, b, z⟩ (.vref opsTab) none none none = some ⟨.d (.slice opsRows), [], [], 0, 0, false⟩ := rfl
section
variable {hp : Hp} {n c id g k : Nat} {ls : List (List UInt8)}
attribute [local simp] Hp.get_set
theorem z59_eq : zOf 59 = some [V.full []] := by kernel_rfl
theorem Rd.of {hp hp' : Hp} (h : Rd hp id g ls k) (e : hp'.get id = hp.get id) : Rd hp' id g ls k := by unfold Rd at h ⊢; rw [e]; exact h
theorem Rd.some {hp : Hp} (h : Rd hp id g ls k) : (hp.get id).isSome = true := by unfold Rd at h; rw [h]; rfl

set_option maxHeartbeats 8000000 in
theorem instrEnd (hR : Rd hp id g ls k) (hid : id < n) (hk : k + 1 < ls.length) (hls : ls.length ≤ 900000) (hln : ls[k]? = some (wEnd ++ nums [])) (hlen : (wEnd ++ nums []).length ≤ 8388608) :
  Thr 37 [.ptr id g 0] hp n c (.tuple [aI ⟨0, 0, 0, 0, 0⟩, dB false]) [id] (fun hp' => Rd hp' id g ls (k + 1)) := by
 have hne : [] ∉ (wEnd :: (([] : List Int)).map dg) := by
  simp only [List.mem_cons, List.mem_map, not_or, not_exists, not_and]
  exact ⟨fun e => (show wEnd ≠ [] by decide) e.symm, fun x _ => dg_ne x⟩
 have f1 : (n = id) = False := eq_false (by omega)
 have f2 : (n + 1 = id) = False := eq_false (by omega)
 have f3 : (n + 1 = n) = False := eq_false (by omega)
 have f4 : (n = n + 1) = False := eq_false (by omega)
 have f5 : (n < n + 1 + 1) = True := eq_true (by omega)
 refine thr_wp Tryz.func37 rfl (by kernel_rfl) rfl ?_
 refine wkcekt (jn @envOf.eq_1 (jn @envOf.eq_2 (jn @dI.eq_1 @ti45))) ?_
 apply WP.gen
 intro hp1 wl1 h1 h2
 have z1 : hp1.get n = some ⟨c, false, [V.d (.int .i64 0), V.d (.int .i64 0), V.d (.int .i64 0), V.d (.int .i64 0), V.d (.int .i64 0)]⟩ := by rw [h1]; simp
 have hR1 : Rd hp1 id g ls k := hR.of (by rw [h1, Hp.get_set_ne _ _ _ _ (by omega)])
 have w1 : WI [id] n hp wl1 hp1 := by rw [h1, h2]; exact WI.refl.set (k := n) (.inr (Nat.le_refl _))
 clear h1 h2
 obtain ⟨r0, hT1, hv, hn, hT2, hki, hfr, _⟩ := (next33 (n := n + 1) (c := c + 1) hR1 (by omega) hk (by omega) hln (cut_nums (by decide)) hne hlen).caller (by intro j hj; cases hj)
 simp only [dSl] at hv
 obtain ⟨E, hE⟩ : ∃ E, E = encS (wEnd :: (([] : List Int)).map dg) := ⟨_, rfl⟩
 rw [← hE] at hv
 have e1 : ∀ j, j < n + 1 → (hp1.sets (tWr r0 (n + 1))).get j = hp1.get j := fun j hj => hfr j hj (by simp)
 have hE0 : E[0]? = some [.str (wEnd)] := by rw [hE]; rfl
 have hE0g : ∀ h : 0 < E.length, E[0]'h = [.str (wEnd)] := by subst hE; intro h; rfl
 obtain ⟨L, hL⟩ : ∃ L, L = (([] : List Int)).length + 1 := ⟨_, rfl⟩
 have hEl : E.length = L := by rw [hE, encS_len, hL]; simp
 have hEd : E.tail = encS ((([] : List Int)).map dg) := by rw [hE]; rfl
 have hEt : List.take L E = E := List.take_of_length_le (by omega)
 have hEa : (∀ x : List D, x ∈ E → x.length = 1) = True := by
  refine eq_true fun r hr => ?_
  rw [hE] at hr
  unfold encS at hr
  obtain ⟨x, _, rfl⟩ := List.mem_map.1 hr
  rfl
 have hx0 : idx (0 : Int) L = some 0 := idx_lt (i := 0) (by omega)
 have c1 : (1 ≤ L) = True := eq_true (by omega)
 have c0 : (0 < L) = True := eq_true (by omega)
 refine wkcekt (jn @dI.eq_1 (jn @hv (jn @hn (jn @ti59 @z59_eq)))) ?_
 apply WP.gen
 intro hp2 wl2 h1 h2
 have z2 : hp2.get n = hp1.get n := by rw [h1]; simp [Hp.get_set, f4, f3, e1 n (by omega)]
 rw [z1] at z2
 have y2 : hp2.get (n + 1) = some ⟨c + 1 + (r0.c - (c + 1)), false, [V.d (.slice E)]⟩ := by rw [h1]; simp [Hp.get_set]
 have hR2 : Rd hp2 id g ls k := hR1.of (by rw [h1]; simp [Hp.get_set, f2, e1 id (by omega)])
 have w2 : WI [id] n hp wl2 hp2 := by
  rw [h1, h2]
  exact ((w1.sets (wr := tWr r0 (n + 1)) fun p hp => by have := hki p.1 (List.mem_map_of_mem hp); simp at this).set (k := n + 1) (.inr (by omega))).set (k := n + 1) (.inr (by omega))
 clear h1 h2 hT1 hT2 hki hfr hv e1 z1 hR1 w1
 obtain ⟨G, hG⟩ : ∃ G, G = c + 1 + (r0.c - (c + 1)) := ⟨_, rfl⟩
 rw [← hG] at y2 ⊢
 clear hG hn
 have hwe : (wEnd = [101, 110, 100]) = True := eq_true rfl
 refine wkcekt (jn @dI.eq_1 (jn @y2 (jn @hE0 (jn @hE0g (jn @hEl (jn @hx0 (jn @tx_beq (jn @hwe (jn @ti59 @ti9))))))))) ?_
 obtain ⟨r1, hT1, hv, hn, hT2, hki, hfr, hpz, hz, hsame⟩ := (numbers35 (n := n + 2) (c := G + 1) (l := []) (many := 0) hR2 (by omega) (by omega) (by simp) (by simp) (.inr rfl)).caller (by intro j hj; simp at hj; omega)
 simp only [dI, dSl] at hT1
 simp only [dL] at hv
 have z3 := hfr n (by omega) (by simp; omega)
 rw [z2] at z3
 have y3 := hfr (n + 1) (by omega) (by simp; omega)
 rw [y2] at y3
 refine wkcekt (jn @dI.eq_1 (jn @y2 (jn @y3 (jn @z3 (jn @hEl (jn @hEt (jn @hEd (jn @hEa (jn @c1 (jn @sliceV.eq_def (jn @bnd.eq_def (jn @hv (jn @hn (jn @ti59 (jn @ti45 (jn @z52_eq @z0.eq_1)))))))))))))))) ?_
 refine ⟨.inr rfl, [aI ⟨0, 0, 0, 0, 0⟩, dB false], [], by simp [resultsV, resultV, Hp.get_set, aI, I.cells, dB], rfl, rfl, ((w2.sets (wr := tWr r1 (n + 2)) fun p hp => .inl (hki p.1 (List.mem_map_of_mem hp))).set (k := n) (.inr (Nat.le_refl _))), ?_⟩
 show (Hp.trunc n _).get id = _
 rw [Hp.get_trunc _ _ _ hid]
 show (Hp.set _ _ _).get id = _
 rw [Hp.get_set_ne _ _ _ _ (by omega), hsame id (by omega) hz.some]
 exact hz

/-- The kinds of an operation's fields. -/
def kT (o : Nat) : List Int := match o with
 | 1 => [1, 3, 0, 0] | 2 => [1, 1, 0, 0] | 3 => [1, 2, 0, 0] | 4 => [2, 1, 0, 0] | 5 => [1, 1, 5, 0] | 6 => [1, 1, 1, 5] | 7 => [0, 4, 0, 0] | 8 => [1, 4, 0, 0] | 9 => [6, 7, 8, 9] | _ => [6, 7, 0, 0]
theorem each10 {P : Nat → Prop} (h : P 1 ∧ P 2 ∧ P 3 ∧ P 4 ∧ P 5 ∧ P 6 ∧ P 7 ∧ P 8 ∧ P 9 ∧ P 10) : ∀ o, 1 ≤ o → o ≤ 10 → P o := by
 obtain ⟨h1, h2, h3, h4, h5, h6, h7, h8, h9, h10⟩ := h
 intro o a b
 match o, a, b with
 | 1, _, _ => exact h1
 | 2, _, _ => exact h2
 | 3, _, _ => exact h3
 | 4, _, _ => exact h4
 | 5, _, _ => exact h5
 | 6, _, _ => exact h6
 | 7, _, _ => exact h7
 | 8, _, _ => exact h8
 | 9, _, _ => exact h9
 | 10, _, _ => exact h10
theorem kT_tab {o : Nat} (h1 : 1 ≤ o) (h2 : o ≤ 10) : List.take 4 (List.drop (o * 6 + 1) (opsTab.map V.d)) = cI (kT o) :=
 each10 (P := fun o => List.take 4 (List.drop (o * 6 + 1) (opsTab.map V.d)) = cI (kT o)) ⟨rfl, rfl, rfl, rfl, rfl, rfl, rfl, rfl, rfl, rfl⟩ o h1 h2
theorem kT_len (o : Nat) : (kT o).length = 4 := by unfold kT; split <;> rfl
/-- The places of the fields before j that an operation has. -/
def plT (o j : Nat) : List Nat := (List.range j).filter fun k => (kT o)[k]? != some 0
theorem plT_succ {o j : Nat} {x : Int} (h : (kT o)[j]? = some x) : plT o (j + 1) = plT o j ++ (if x = 0 then [] else [j]) := by
 unfold plT
 rw [List.range_succ, List.filter_append]
 congr 1
 by_cases hx : x = 0 <;> simp [hx, h]
theorem plT_mem {o j k : Nat} (h : k ∈ plT o j) : k < j := by unfold plT at h; simp at h; exact h.1
theorem plT_len (o : Nat) (j : Nat) : (plT o j).length ≤ j := by
 unfold plT
 exact Nat.le_trans (List.length_filter_le ..) (by simp)
theorem used_pl (o : Nat) (a b c d : Int) (h1 : 1 ≤ o) (h2 : o ≤ 10) : usedI ⟨o, a, b, c, d⟩ = (plT o 4).map fun k => [a, b, c, d].getD k 0 :=
 each10 (P := fun o => usedI ⟨o, a, b, c, d⟩ = (plT o 4).map fun k => [a, b, c, d].getD k 0) ⟨rfl, rfl, rfl, rfl, rfl, rfl, rfl, rfl, rfl, rfl⟩ o h1 h2
/-- The array after m numbers. -/
def arT (pl : List Nat) (fs : List Int) (m : Nat) : List Int := (List.range 4).map fun q => if q ∈ pl.take m then fs.getD q 0 else 0
theorem arT_len (pl : List Nat) (fs : List Int) (m : Nat) : (arT pl fs m).length = 4 := by simp [arT]
theorem arT_zero (pl : List Nat) (fs : List Int) : arT pl fs 0 = [0, 0, 0, 0] := rfl
theorem arT_succ {pl : List Nat} {fs : List Int} {m p : Nat} (h : pl[m]? = some p) (hp : p < 4) : (arT pl fs m).set p (fs.getD p 0) = arT pl fs (m + 1) := by
 apply List.ext_getElem?
 intro i
 rw [List.getElem?_set]
 unfold arT
 rw [List.take_add_one, h]
 by_cases hi : p = i
 ·subst hi; simp [hp]
 ·have hi' : ¬ i = p := fun e => hi e.symm
  by_cases h4 : i < 4
  ·simp [hi, hi', h4]
  ·simp [hi, List.getElem?_eq_none, h4]
theorem arT_end {o : Nat} {a b c d : Int} (h : ∀ q < 4, (kT o)[q]? = some 0 → [a, b, c, d].getD q 0 = 0) : arT (plT o 4) [a, b, c, d] (plT o 4).length = [a, b, c, d] := by
 have hm : ∀ q < 4, (if q ∈ plT o 4 then [a, b, c, d].getD q 0 else 0) = [a, b, c, d].getD q 0 := fun q hq => by
  by_cases hx : q ∈ plT o 4
  ·rw [if_pos hx]
  ·rw [if_neg hx]
   have : (kT o)[q]? = some 0 := by
    unfold plT at hx
    simp [hq] at hx
    exact hx
   exact (h q hq this).symm
 unfold arT
 rw [List.take_length]
 have h0 := hm 0 (by omega)
 have h1 := hm 1 (by omega)
 have h2 := hm 2 (by omega)
 have h3 := hm 3 (by omega)
 show [if 0 ∈ plT o 4 then [a, b, c, d].getD 0 0 else 0, if 1 ∈ plT o 4 then [a, b, c, d].getD 1 0 else 0, if 2 ∈ plT o 4 then [a, b, c, d].getD 2 0 else 0, if 3 ∈ plT o 4 then [a, b, c, d].getD 3 0 else 0] = _
 rw [h0, h1, h2, h3]; rfl
theorem wordT_32 {o : Nat} (h1 : 1 ≤ o) (h2 : o ≤ 10) : 32 ∉ wordT o := each10 (P := fun o => 32 ∉ wordT o) (by decide) o h1 h2
theorem wordT_end {o : Nat} (h1 : 1 ≤ o) (h2 : o ≤ 10) : wordT o ≠ [101, 110, 100] := each10 (P := fun o => wordT o ≠ [101, 110, 100]) (by decide) o h1 h2

set_option maxHeartbeats 16000000 in
theorem instrOp {o : Nat} {a b c' d : Int} (ho1 : 1 ≤ o) (ho2 : o ≤ 10) (hz0 : ∀ q < 4, (kT o)[q]? = some 0 → [a, b, c', d].getD q 0 = 0) (hnum : ∀ x ∈ usedI ⟨o, a, b, c', d⟩, NumOK x) (hR : Rd hp id g ls k) (hid : id < n) (hk : k + 1 < ls.length) (hls : ls.length ≤ 900000) (hln : ls[k]? = some (wordT o ++ nums (usedI ⟨o, a, b, c', d⟩))) (hlen : (wordT o ++ nums (usedI ⟨o, a, b, c', d⟩)).length ≤ 8388608) :
  Thr 37 [.ptr id g 0] hp n c (.tuple [aI ⟨o, a, b, c', d⟩, dB true]) [id] (fun hp' => Rd hp' id g ls (k + 1)) := by
 obtain ⟨l, hl⟩ : ∃ l, l = usedI ⟨o, a, b, c', d⟩ := ⟨_, rfl⟩
 rw [← hl] at hln hlen hnum
 rw [used_pl o a b c' d ho1 ho2] at hl
 have hll : l.length ≤ 4 := by rw [hl, List.length_map]; exact plT_len _ _
 have hne : [] ∉ (wordT o :: (l).map dg) := by
  simp only [List.mem_cons, List.mem_map, not_or, not_exists, not_and]
  exact ⟨fun e => (wordT_nil ho1 ho2) e.symm, fun x _ => dg_ne x⟩
 have f1 : (n = id) = False := eq_false (by omega)
 have f2 : (n + 1 = id) = False := eq_false (by omega)
 have f3 : (n + 1 = n) = False := eq_false (by omega)
 have f4 : (n = n + 1) = False := eq_false (by omega)
 have f5 : (n < n + 1 + 1) = True := eq_true (by omega)
 refine thr_wp Tryz.func37 rfl (by kernel_rfl) rfl ?_
 refine wkcekt (jn @envOf.eq_1 (jn @envOf.eq_2 (jn @dI.eq_1 @ti45))) ?_
 apply WP.gen
 intro hp1 wl1 h1 h2
 have z1 : hp1.get n = some ⟨c, false, [V.d (.int .i64 0), V.d (.int .i64 0), V.d (.int .i64 0), V.d (.int .i64 0), V.d (.int .i64 0)]⟩ := by rw [h1]; simp
 have hR1 : Rd hp1 id g ls k := hR.of (by rw [h1, Hp.get_set_ne _ _ _ _ (by omega)])
 have w1 : WI [id] n hp wl1 hp1 := by rw [h1, h2]; exact WI.refl.set (k := n) (.inr (Nat.le_refl _))
 clear h1 h2
 obtain ⟨r0, hT1, hv, hn, hT2, hki, hfr, _⟩ := (next33 (n := n + 1) (c := c + 1) hR1 (by omega) hk (by omega) hln (cut_nums (wordT_32 ho1 ho2)) hne hlen).caller (by intro j hj; cases hj)
 simp only [dSl] at hv
 obtain ⟨E, hE⟩ : ∃ E, E = encS (wordT o :: (l).map dg) := ⟨_, rfl⟩
 rw [← hE] at hv
 have e1 : ∀ j, j < n + 1 → (hp1.sets (tWr r0 (n + 1))).get j = hp1.get j := fun j hj => hfr j hj (by simp)
 have hE0 : E[0]? = some [.str (wordT o)] := by rw [hE]; rfl
 have hE0g : ∀ h : 0 < E.length, E[0]'h = [.str (wordT o)] := by subst hE; intro h; rfl
 obtain ⟨L, hL⟩ : ∃ L, L = (l).length + 1 := ⟨_, rfl⟩
 have hEl : E.length = L := by rw [hE, encS_len, hL]; simp
 have hEd : E.tail = encS ((l).map dg) := by rw [hE]; rfl
 have hEt : List.take L E = E := List.take_of_length_le (by omega)
 have hEa : (∀ x : List D, x ∈ E → x.length = 1) = True := by
  refine eq_true fun r hr => ?_
  rw [hE] at hr
  unfold encS at hr
  obtain ⟨x, _, rfl⟩ := List.mem_map.1 hr
  rfl
 have hx0 : idx (0 : Int) L = some 0 := idx_lt (i := 0) (by omega)
 have c1 : (1 ≤ L) = True := eq_true (by omega)
 have c0 : (0 < L) = True := eq_true (by omega)
 refine wkcekt (jn @dI.eq_1 (jn @hv (jn @hn (jn @ti59 @z59_eq)))) ?_
 apply WP.gen
 intro hp2 wl2 h1 h2
 have z2 : hp2.get n = hp1.get n := by rw [h1]; simp [Hp.get_set, f4, f3, e1 n (by omega)]
 rw [z1] at z2
 have y2 : hp2.get (n + 1) = some ⟨c + 1 + (r0.c - (c + 1)), false, [V.d (.slice E)]⟩ := by rw [h1]; simp [Hp.get_set]
 have hR2 : Rd hp2 id g ls k := hR1.of (by rw [h1]; simp [Hp.get_set, f2, e1 id (by omega)])
 have w2 : WI [id] n hp wl2 hp2 := by
  rw [h1, h2]
  exact ((w1.sets (wr := tWr r0 (n + 1)) fun p hp => by have := hki p.1 (List.mem_map_of_mem hp); simp at this).set (k := n + 1) (.inr (by omega))).set (k := n + 1) (.inr (by omega))
 clear h1 h2 hT1 hT2 hki hfr hv e1 z1 hR1 w1
 obtain ⟨G, hG⟩ : ∃ G, G = c + 1 + (r0.c - (c + 1)) := ⟨_, rfl⟩
 rw [← hG] at y2 ⊢
 clear hG hn
 have hwe : (wordT o = [101, 110, 100]) = False := eq_false (wordT_end ho1 ho2)
 obtain ⟨qh, qc, hq⟩ := index56 (n := n + 2) (c := G + 1) (o := o) ho1 ho2 (show hp2.get (n + 1) = some ⟨G, false, [dSl (wordT o :: l.map dg)]⟩ by rw [y2, hE]; rfl) (by omega)
 obtain ⟨r0, hT1, hv, hn, ht0⟩ : ∃ r0, lim Tryz.prog Cp.cfg 56 [.d (.slice opsRows), .fn 57 [.ptr (n + 1) G 0]] hp2 (n + 2) (G + 1) = some r0 ∧ r0.v = V.d (.int .i64 o) ∧ r0.n = n + 2 ∧ tWr r0 (n + 2) = [] := ⟨_, hq, rfl, rfl, by simp [tWr, wrOf]⟩
 have hT2 : ∀ k, k ∈ (tWr r0 (n + 2)).map (·.1) → k < n + 2 + (r0.n - (n + 2)) := by rw [ht0]; intro k hk; cases hk
 have hio : idx (o : Int) 11 = some o := idx_lt (by omega)
 have hon : ((o : Int) < 0) = False := by simp
 have hkT := kT_tab ho1 ho2
 have hkl : (min 4 (opsTab.length - (o * 6 + 1))).beq 4 = true := each10 (P := fun o => (min 4 (opsTab.length - (o * 6 + 1))).beq 4 = true) (by decide) o ho1 ho2
 obtain ⟨K, hK⟩ : ∃ K, K = cI (kT o) := ⟨_, rfl⟩
 rw [← hK] at hkT
 refine wkcekt (jn @dI.eq_1 (jn @y2 (jn @hE0 (jn @hE0g (jn @hEl (jn @hx0 (jn @c0 (jn @tx_beq (jn @hwe (jn @ti59 (jn @ti9 (jn @ti76 (jn @ti101 (jn @ti54 (jn @ti52 (jn @slice_tab (jn @hv (jn @hn (jn @ht0 (jn @hio (jn @hon (jn @hkT @hkl)))))))))))))))))))))) ?_
 apply WP.gen
 intro hp3 wl3 h1 h2
 obtain ⟨G2, hG2⟩ : ∃ G2, G2 = G + 1 + (r0.c - (G + 1)) := ⟨_, rfl⟩
 rw [← hG2] at h1 ⊢
 have z3 : hp3.get n = some ⟨c, false, [V.d (.int .i64 0), V.d (.int .i64 0), V.d (.int .i64 0), V.d (.int .i64 0), V.d (.int .i64 0)]⟩ := by rw [h1, Hp.get_set_ne _ _ _ _ (by omega)]; exact z2
 have y3 : hp3.get (n + 1) = some ⟨G, false, [V.d (.slice E)]⟩ := by rw [h1, Hp.get_set_ne _ _ _ _ (by omega)]; exact y2
 have C3 : hp3.get (n + 2) = some ⟨G2, false, cI ((plT o 0).map fun (k : Nat) => (k : Int))⟩ := by rw [h1, Hp.get_set_self]; rfl
 have hR3 : Rd hp3 id g ls k := hR2.of (by rw [h1, Hp.get_set_ne _ _ _ _ (by omega)])
 have w3 : WI [id] n hp wl3 hp3 := by 
  rw [h1, h2]
  have w2' := w2.sets (wr := []) fun p hp => by cases hp
  exact ⟨w2'.1, fun j hj h => (Hp.get_set_ne _ _ _ _ (by omega)).trans (w2'.2 j hj h)⟩
 clear h1 h2 hG2 hT1 hT2 hv hn ht0 qh qc hq hkT hkl z2 y2 w2 hR2
 obtain ⟨c3, hc3⟩ : ∃ c3, c3 = G2 + 1 := ⟨_, rfl⟩
 rw [← hc3]
 clear hc3
 have g1 : (n + 1 = n + 2) = False := eq_false (by omega)
 have g2 : (n = n + 2) = False := eq_false (by omega)
 have g3 : (n + 2 < n + 3) = True := eq_true (by omega)
 have g4 : (n + 3 = n + 2) = False := eq_false (by omega)
 have g5 : (n + 2 = n + 3) = False := eq_false (by omega)
 have hKl : K.length = 4 := by rw [hK, cI_len, kT_len]
 apply WP.loop' (I := fun D s => ∃ (j gn : Nat) (hp' : Hp) (c4 : Nat) (wl' : List Nat), j + D = 4 ∧ hp'.get (n + 2) = some ⟨gn, false, cI ((plT o j).map fun (k : Nat) => (k : Int))⟩ ∧ hp'.get n = hp3.get n ∧ hp'.get (n + 1) = hp3.get (n + 1) ∧ Rd hp' id g ls k ∧ WI [id] n hp wl' hp' ∧
  s = ⟨[(0, .ptr id g 0), (2, .ptr n c 0), (4, .ptr (n + 1) G 0), (5, dI o), (6, .osl (n + 2) gn 0 (plT o j).length 1 none), (35, .agg K), (36, dI j)], hp', n + 3, c4, n, wl'⟩) (d := 4)
 ·exact ⟨0, G2, hp3, c3, wl3, rfl, C3, rfl, rfl, hR3, w3, by rfl⟩
 ·rintro D _ ⟨j, gn, hp', c4, wl', hj, hC, hz, hy, hR, hwi, rfl⟩
  refine wkekt (@dI.eq_1) ?_
  show WP _ _ _ _ _ _
  refine WP.cond _ rfl (fun hb => ?_) (fun hb => ?_)
  ·simp at hb
   have hb' : j < 4 := by omega
   obtain ⟨x, hx⟩ : ∃ x, (kT o)[j]? = some x := ⟨(kT o)[j]'(by rw [kT_len]; exact hb'), by simp⟩
   have hx2 : K[j]? = some (V.d (.int .i64 x)) := by rw [hK]; exact cI_at hx
   have hix : idx (j : Int) 4 = some j := idx_lt hb'
   have hw := w_succ hb' (by omega)
   have hps := plT_succ hx
   by_cases hx0 : x = 0
   ·have hx0' : (x = 0) = True := eq_true hx0
    refine wkcekt (jn @dI.eq_1 (jn @hix (jn @hx2 (jn @hKl (jn @hx0' (jn @int_bne @ti52)))))) ?_
    refine loop_next (by simp [-addNew, hw]; exact Is.rfl) ?_
    refine ⟨D - 1, by omega, j + 1, gn, _, _, _, by omega, ?_, ?_, ?_, ?_, hwi.trunc (m := n + 3) (by omega), by rw [hps, if_pos hx0, List.append_nil]; rfl⟩
    ·rw [Hp.get_trunc _ _ _ (by omega), hC, hps, if_pos hx0]; simp
    ·rw [Hp.get_trunc _ _ _ (by omega), hz]
    ·rw [Hp.get_trunc _ _ _ (by omega), hy]
    ·exact hR.of (by rw [Hp.get_trunc _ _ _ (by omega)])
   ·have hx0' : (x = 0) = False := eq_false hx0
    obtain ⟨C, hCe⟩ : ∃ C, C = cI ((plT o j).map fun (k : Nat) => (k : Int)) := ⟨_, rfl⟩
    obtain ⟨p, hp'e⟩ : ∃ p, p = (plT o j).length := ⟨_, rfl⟩
    have hpl : p ≤ 4 := by have := plT_len o j; omega
    have hCl : C.length = p := by rw [hCe, cI_len, hp'e]; simp
    have hCt : List.take p C = C := List.take_of_length_le (by omega)
    have hCn : C ++ [V.d (.int .i64 j)] = cI ((plT o (j + 1)).map fun (k : Nat) => (k : Int)) := by rw [hCe, hps, if_neg hx0, List.map_append, cI_app]; rfl
    have hfit : fitsB (p + 1) 8 = true := by simp [fitsB]; omega
    have hpn : (plT o (j + 1)).length = p + 1 := by rw [hps, if_neg hx0, hp'e]; simp
    rw [← hCe] at hC
    rw [← hp'e]
    refine wkcekt (jn @dI.eq_1 (jn @hix (jn @hx2 (jn @hKl (jn @hx0' (jn @int_bne (jn @ti52 (jn @ti22 (jn @hC (jn @hCl (jn @hCt (jn @nble_d (jn @hfit (jn @g1 (jn @g2 (jn @g3 (jn @g4 (jn @g5 (jn @fillV.eq_1 (jn @fillV.eq_2 (jn @Value.oneCell'.eq_def (jn @closeParts.eq_1 (jn @closeParts.eq_2 @cl2.eq_def))))))))))))))))))))))) ?_
    refine loop_next (by simp [-addNew, hw]; exact Is.rfl) ?_
    refine ⟨D - 1, by omega, j + 1, c4 + 1, _, _, _, by omega, ?_, ?_, ?_, ?_, ((hwi.set (k := n + 3) (.inr (by omega))).set (k := n + 2) (.inr (by omega))).trunc (m := n + 3) (by omega), by rw [hpn]; rfl⟩
    ·rw [Hp.get_trunc _ _ _ (by omega), Hp.get_set_self, hCn]
    ·rw [Hp.get_trunc _ _ _ (by omega), Hp.get_set_ne _ _ _ _ (by omega), Hp.get_set_ne _ _ _ _ (by omega), hz]
    ·rw [Hp.get_trunc _ _ _ (by omega), Hp.get_set_ne _ _ _ _ (by omega), Hp.get_set_ne _ _ _ _ (by omega), hy]
    ·exact hR.of (by rw [Hp.get_trunc _ _ _ (by omega), Hp.get_set_ne _ _ _ _ (by omega), Hp.get_set_ne _ _ _ _ (by omega)])
  ·simp at hb
   have hj4 : j = 4 := by omega
   subst hj4
   obtain ⟨p, hpe⟩ : ∃ p, p = (plT o 4).length := ⟨_, rfl⟩
   have hpl : p = l.length := by rw [hl, hpe]; simp
   rw [← hpe]
   obtain ⟨r1, hT1, hv, hn, hT2, hki, hfr, hpz, hz1, hsame⟩ := (numbers35 (n := n + 3) (c := c4) (l := l) (many := p) hR (by omega) (by omega) hnum (by omega) (.inr (by rw [hpl]))).caller (by intro j hj; simp at hj; omega)
   simp only [dI, dSl] at hT1
   simp only [dL] at hv
   have z4 := hfr n (by omega) (by simp; omega)
   have y4 := hfr (n + 1) (by omega) (by simp; omega)
   have C4 := hfr (n + 2) (by omega) (by simp; omega)
   have R4 := hsame id (by omega) hz1.some
   have hy' := hy.trans y3
   have hRd := hz1
   unfold Rd at hRd
   simp only [dI, dSl] at hRd
   obtain ⟨C, hCe⟩ : ∃ C, C = cI ((plT o 4).map fun (k : Nat) => (k : Int)) := ⟨_, rfl⟩
   have hCl : C.length = p := by rw [hCe, cI_len, hpe]; simp
   rw [← hCe] at hC
   rw [hC] at C4
   rw [hz, z3] at z4
   rw [hy'] at y4
   refine wkcekt (jn @dI.eq_1 (jn @hC (jn @hy' (jn @hEl (jn @hEt (jn @hEd (jn @hEa (jn @c1 (jn @sliceV.eq_def (jn @bnd.eq_def (jn @hv (jn @hn (jn @ti59 (jn @ti45 (jn @ti52 (jn @z52_eq (jn @R4 (jn @hRd (jn @int_bne (jn @ti62 (jn @ti29 @C4))))))))))))))))))))) ?_
   apply WP.gen
   intro hp5 wl5 h1 h2
   obtain ⟨G5, hG5⟩ : ∃ G5, G5 = c4 + (r1.c - c4) := ⟨_, rfl⟩
   rw [← hG5] at h1 ⊢
   obtain ⟨pl, hpl2⟩ : ∃ pl, pl = plT o 4 := ⟨_, rfl⟩
   obtain ⟨fs, hfs⟩ : ∃ fs, fs = [a, b, c', d] := ⟨_, rfl⟩
   have hends := arT_end hz0
   rw [← hpl2, ← hfs] at hends
   rw [← hpl2] at hCe hpe
   rw [← hpl2, ← hfs] at hl
   rw [← hpe] at hends
   have hpm : ∀ q ∈ pl, q < 4 := fun q hq => plT_mem (by rw [hpl2] at hq; exact hq)
   have F5 : hp5.get (n + 3) = some ⟨G5, false, cI (arT pl fs 0)⟩ := by rw [h1, Hp.get_set_self, arT_zero]; rfl
   have C5 : hp5.get (n + 2) = some ⟨gn, false, C⟩ := by rw [h1, Hp.get_set_ne _ _ _ _ (by omega)]; exact C4
   have z5 : hp5.get n = some ⟨c, false, [V.d (.int .i64 0), V.d (.int .i64 0), V.d (.int .i64 0), V.d (.int .i64 0), V.d (.int .i64 0)]⟩ := by rw [h1, Hp.get_set_ne _ _ _ _ (by omega)]; exact z4
   have R5 : Rd hp5 id g ls (k + 1) := by unfold Rd at hz1 ⊢; rw [h1, Hp.get_set_ne _ _ _ _ (by omega), R4]; exact hz1
   have w5 : WI [id] n hp wl5 hp5 := by
    rw [h1, h2, ← hG5]
    exact (hwi.sets (wr := tWr r1 (n + 3)) fun p hp => .inl (hki p.1 (List.mem_map_of_mem hp))).set (k := n + 3) (.inr (by omega))
   clear h1 h2 hT1 hT2 hki hfr hpz hz1 hsame hRd hy' R4 y4 z4 C4 hv hn hR hC hwi hz hy z3 y3 C3 hR3 w3
   obtain ⟨c5, hc5⟩ : ∃ c5, c5 = G5 + 1 := ⟨_, rfl⟩
   rw [← hc5]
   clear hc5 hG5
   have k1 : (n = n + 3) = False := eq_false (by omega)
   have k2 : (n + 2 = n + 3) = False := eq_false (by omega)
   have k3 : (n + 3 = n) = False := eq_false (by omega)
   have k4 : (n < n + 4) = True := eq_true (by omega)
   have k5 : (n + 3 < n + 4) = True := eq_true (by omega)
   have k6 : (n + 2 < n + 4) = True := eq_true (by omega)
   have hll2 : l.length = p := hpl.symm
   have hCt : List.take p C = C := List.take_of_length_le (by omega)
   apply WP.loop' (I := fun D s => ∃ (m : Nat) (hp6 : Hp) (c6 : Nat) (wl6 : List Nat), m + D = p ∧ hp6.get (n + 3) = some ⟨G5, false, cI (arT pl fs m)⟩ ∧ hp6.get (n + 2) = some ⟨gn, false, C⟩ ∧ hp6.get n = hp5.get n ∧ Rd hp6 id g ls (k + 1) ∧ WI [id] n hp wl6 hp6 ∧
    s = ⟨[(2, .ptr n c 0), (5, dI o), (9, dL l), (10, .ptr (n + 3) G5 0), (59, .osl (n + 2) gn 0 p 1 none), (60, dI p), (61, dI m)], hp6, n + 4, c6, n, wl6⟩) (d := p)
   ·exact ⟨0, hp5, c5, wl5, by simp, F5, C5, rfl, R5, w5, by rfl⟩
   rintro D _ ⟨m, hp6, c6, wl6, hm, F6, C6, z6, R6, w6, rfl⟩
   refine wkekt (jn @dI.eq_1 @dL.eq_1) ?_
   show WP _ _ _ _ _ _
   refine WP.cond _ rfl (fun hb => ?_) (fun hb => ?_)
   ·simp at hb
    have hb' : m < p := by omega
    obtain ⟨q, hq⟩ : ∃ q, pl[m]? = some q := ⟨pl[m]'(by omega), by simp⟩
    have hq4 := hpm q (List.mem_of_getElem? hq)
    have hCm : C[m]? = some (V.d (.int .i64 q)) := by rw [hCe]; exact cI_at (by simp [hq])
    obtain ⟨v, hv⟩ : ∃ v, v = fs.getD q 0 := ⟨_, rfl⟩
    have hlm : (encI l)[m]? = some [.int .i64 v] := encI_at (by rw [hl, hv]; simp [hq])
    have hix := idx_lt hb'
    have hiq : idx (q : Int) 4 = some q := idx_lt hq4
    have hw := w_succ hb' (by omega)
    obtain ⟨A, hA⟩ : ∃ A, A = cI (arT pl fs m) := ⟨_, rfl⟩
    have hAl : A.length = 4 := by rw [hA, cI_len, arT_len]
    have hAn : List.take q A ++ V.d (.int .i64 v) :: List.drop (q + 1) A = cI (arT pl fs (m + 1)) := by rw [← arT_succ hq hq4, hA, hv]; exact cI_put (by rw [arT_len]; exact hq4) _
    have hq5 : (q + 1).ble 4 = true := Nat.ble_eq_true_of_le (by omega)
    rw [← hA] at F6
    refine wkcekt (jn @dI.eq_1 (jn @dL.eq_1 (jn @hq5 (jn @hAn (jn @hix (jn @hiq (jn @hw (jn @F6 (jn @C6 (jn @hCl (jn @hCt (jn @hAl (jn @hCm (jn @hlm (jn @hll2 (jn @encI_len (jn @k1 (jn @k2 (jn @k3 (jn @k4 (jn @k5 (jn @k6 (jn @ti22 (jn @ti45 @ti52)))))))))))))))))))))))) ?_
    refine loop_next (by simp [-addNew, hw]; exact Is.rfl) ?_
    refine ⟨D - 1, by omega, m + 1, _, _, _, by omega, ?_, ?_, ?_, ?_, (w6.set (k := n + 3) (.inr (by omega))).trunc (m := n + 4) (by omega), by rfl⟩
    ·rw [Hp.get_trunc _ _ _ (by omega), Hp.get_set_self]
    ·rw [Hp.get_trunc _ _ _ (by omega), Hp.get_set_ne _ _ _ _ (by omega)]; exact C6
    ·rw [Hp.get_trunc _ _ _ (by omega), Hp.get_set_ne _ _ _ _ (by omega)]; exact z6
    ·exact R6.of (by rw [Hp.get_trunc _ _ _ (by omega), Hp.get_set_ne _ _ _ _ (by omega)])
   ·simp at hb
    have hmp : m = p := by omega
    subst hmp
    rw [hends, hfs] at F6
    have F7 : hp6.get (n + 3) = some ⟨G5, false, [V.d (.int .i64 a), V.d (.int .i64 b), V.d (.int .i64 c'), V.d (.int .i64 d)]⟩ := F6
    rw [z5] at z6
    refine wkcekt (jn @dI.eq_1 (jn @dL.eq_1 (jn @F7 (jn @z6 (jn @k1 (jn @k2 (jn @k3 (jn @k4 (jn @k5 (jn @k6 (jn @ti22 (jn @ti45 (jn @ti52 @ti59))))))))))))) ?_
    refine ⟨.inr rfl, [aI ⟨o, a, b, c', d⟩, dB true], [], by simp [resultsV, resultV, Hp.get_set, aI, I.cells, dB], rfl, rfl, w6.set (k := n) (.inr (Nat.le_refl _)), ?_⟩
    show (Hp.trunc n _).get id = _
    rw [Hp.get_trunc _ _ _ hid]
    show (Hp.set _ _ _).get id = _
    rw [Hp.get_set_ne _ _ _ _ (by omega)]
    exact R6

end
end Go.Ac
end

section
set_option maxRecDepth 8000
namespace Go.Ac
open Go.Proofs
section
variable {hp : Hp} {n c id g k : Nat} {ls : List (List UInt8)}
attribute [local simp] Hp.get_set
/-- An instruction that is written as its operation's. -/
structure OpF (i : I) : Prop where
 lo : 1 ≤ i.op
 hi : i.op ≤ 10
 z : ∀ q < 4, (kT i.op.toNat)[q]? = some 0 → [i.a, i.b, i.c, i.d].getD q 0 = 0
theorem disj_l (b : List Nat) : disj [] b = true := rfl
theorem disj_r (a : List Nat) : disj a [] = true := by unfold disj; simp
theorem WI.of_get {ids : List Nat} {hp hp' hp'' : Hp} {wl : List Nat} (h : WI ids n hp wl hp') (e : ∀ j, j < n → hp''.get j = hp'.get j) : WI ids n hp wl hp'' := ⟨h.1, fun j hj hn => (e j hj).trans (h.2 j hj hn)⟩
theorem cut_two {w v : List UInt8} (h1 : 32 ∉ w) (h2 : 32 ∉ v) : cutAt 32 (w ++ 32 :: v) = [w, v] := by rw [cutAt_app h1, cutAt_none h2]
theorem rtL_at (r : Rt) : (rtL r)[0]? = some (wRoutine ++ 32 :: r.nm) ∧ (rtL r)[1]? = some (wIn ++ nums r.inn) ∧ (rtL r)[2]? = some (wOut ++ nums r.out) ∧ (rtL r)[3]? = some (wRegs ++ nums [r.regs]) ∧ (rtL r)[4]? = some (wInit ++ nums r.ini) := ⟨rfl, rfl, rfl, rfl, rfl⟩
theorem rtL_code {r : Rt} {j : Nat} {i : I} (h : r.code[j]? = some i) : (rtL r)[5 + j]? = some (lnI i) := by
 unfold rtL
 have hj : j < r.code.length := (List.getElem?_eq_some_iff.1 h).1
 rw [List.append_assoc, List.getElem?_append_right (by simp), List.getElem?_append_left (by simp; omega)]
 simp [h]
theorem rtL_end (r : Rt) : (rtL r)[5 + r.code.length]? = some (wEnd ++ nums []) := by
 unfold rtL
 rw [List.getElem?_append_right (by simp; omega)]
 have : 5 + r.code.length - ([wRoutine ++ 32 :: r.nm, wIn ++ nums r.inn, wOut ++ nums r.out, wRegs ++ nums [r.regs], wInit ++ nums r.ini] ++ r.code.map lnI).length = 0 := by simp; omega
 rw [this]; simp [nums]
/-- The cells of a list of instructions. -/
def cCt (l : List I) : List V := l.flatMap fun i => i.cells.map V.d
theorem cCt_len : ∀ l : List I, (cCt l).length = l.length * 5
 | [] => rfl
 | i :: l => by
  have := cCt_len l
  unfold cCt at this ⊢
  rw [List.flatMap_cons, List.length_append, this, List.length_cons]
  show 5 + _ = _; omega
theorem cCt_snoc (l : List I) (i : I) : cCt l ++ [.d (.int .i64 i.op), .d (.int .i64 i.a), .d (.int .i64 i.b), .d (.int .i64 i.c), .d (.int .i64 i.d)] = cCt (l ++ [i]) := by
 unfold cCt; rw [List.flatMap_append]; rfl
theorem toDs_dT (look : Look) (f : Nat) : ∀ l : List D, toDs (toD look f) (l.map V.d) = some (l, [])
 | [] => rfl
 | x :: r => by
  have := toDs_dT look f r
  rw [List.map_cons]; unfold toDs
  rw [this]
  have : toD look f (V.d x) = some (x, []) := by cases f <;> rfl
  rw [this]; rfl
theorem toDs_cC (look : Look) (f : Nat) (l : List I) : toDs (toD look f) (cCt l) = some (l.flatMap I.cells, []) := by
 have : cCt l = (l.flatMap I.cells).map V.d := by unfold cCt; rw [List.map_flatMap]
 rw [this, toDs_dT]
theorem chunkCt : ∀ l : List I, chunk 5 l.length (l.flatMap I.cells) = encC l
 | [] => rfl
 | i :: l => by
  rw [List.length_cons, chunk, List.flatMap_cons]
  have e1 : List.take 5 (i.cells ++ l.flatMap I.cells) = i.cells := List.take_append_of_le_length (by simp [I.cells]) |>.trans (List.take_of_length_le (by simp [I.cells]))
  have e2 : List.drop 5 (i.cells ++ l.flatMap I.cells) = l.flatMap I.cells := by
   have : 5 = i.cells.length := by simp [I.cells]
   rw [this, List.drop_left]
  rw [e1, e2, chunkCt l]; rfl
theorem close_oslC {look : Look} {id g : Nat} {ro : Bool} {l : List I} {cap : Option Nat} (hl : look id = some ⟨g, ro, cCt l⟩) : close1 look (.osl id g 0 l.length 5 cap) = some (.d (.slice (encC l)), [id]) := by
 show ofD (toD look depthD _) = _
 rw [toD_dep]
 have : live look id g = some ⟨g, ro, cCt l⟩ := by simp [live, hl]
 rw [this]
 have e1 : (cCt l).take (l.length * 5) = cCt l := List.take_of_length_le (by rw [cCt_len]; exact Nat.le_refl _)
 simp only [Nat.zero_add, List.drop_zero, e1, toDs_cC, chunkCt, nble_d, cCt_len, Nat.le_refl, decide_true]
 rfl
theorem close1_d {look : Look} (x : D) : close1 look (.d x) = some (.d x, []) := by
 show ofD (toD look depthD (.d x)) = _
 rw [toD]; rfl
theorem close_R {look : Look} {id g : Nat} {ro : Bool} {r : Rt} {cap : Option Nat} (hl : look id = some ⟨g, ro, cCt r.code⟩) :
  closeT look (.agg [.d (.str r.nm), .d (.slice (encI r.inn)), .d (.slice (encI r.out)), .d (.int .i64 r.regs), .d (.slice (encI r.ini)), .osl id g 0 r.code.length 5 cap]) = some (aR r, [id]) := by
 simp only [closeT, close, closeVs, close1_d, close_oslC hl]; rfl
theorem block_n {i : Nat} {Q : Ex → St → Prop} {t : St} (h : Q .normal t) : blockQ i Q .normal t := h
theorem rtL_length (r : Rt) : (rtL r).length = r.code.length + 6 := by unfold rtL; simp

set_option maxHeartbeats 16000000 in
theorem routine21 {r : Rt} (hr : RtT r) (hop : ∀ i ∈ r.code, OpF i) (hsz : wt r ≤ 500000) (hR : Rd hp id g ls k) (hid : id < n) (hls : ls.length ≤ 900000) (hln : ∀ j x, (rtL r)[j]? = some x → ls[k + j]? = some x) (hk : k + (rtL r).length < ls.length) :
  Thr 21 [.ptr id g 0] hp n c (aR r) [id] (fun hp' => Rd hp' id g ls (k + (rtL r).length)) := by
 obtain ⟨q0, q1, q2, q3, q4⟩ := rtL_at r
 have s0 := hln 0 _ q0
 have s1 := hln 1 _ q1
 have s2 := hln 2 _ q2
 have s3 := hln 3 _ q3
 have s4 := hln 4 _ q4
 simp only [Nat.add_zero] at s0
 have hrl := rtL_length r
 have hwt := hsz
 unfold wt at hwt
 have hrn : (32 : UInt8) ∉ r.nm := fun h => (hr.nm 32 h).2 rfl
 have hne : [] ∉ [wRoutine, r.nm] := by
  simp only [List.mem_cons, List.not_mem_nil, or_false, not_or]
  exact ⟨by decide, fun e => hr.ne e.symm⟩
 have f1 : (n = id) = False := eq_false (by omega)
 have f2 : (id < n + 1) = True := eq_true (by omega)
 refine thr_wp Tryz.func21 rfl (by kernel_rfl) rfl ?_
 refine wkcektu (jn @envOf.eq_1 (jn @envOf.eq_2 (jn @dI.eq_1 (jn @z50_eq @ti43)))) ?_
 apply WP.gen
 intro hp1 wl1 h1 h2
 have z1 : hp1.get n = some ⟨c, false, [V.d (.str []), V.full [], V.full [], V.d (.int .i64 0), V.full [], V.full []]⟩ := by rw [h1]; simp
 have R1 : Rd hp1 id g ls k := hR.of (by rw [h1, Hp.get_set_ne _ _ _ _ (by omega)])
 have w1 : WI [id] n hp wl1 hp1 := by rw [h1, h2]; exact WI.refl.set (k := n) (.inr (Nat.le_refl _))
 clear h1 h2
 obtain ⟨r0, hT1, hv, hn, hT2, hki, hfr, _⟩ := (next33 (n := n + 1) (c := c + 1) R1 (by omega) (by omega) (by omega) s0 (cut_two (by decide) hrn) hne (by simp [wRoutine]; omega)).caller (by intro j hj; cases hj)
 simp only [dSl] at hv
 obtain ⟨E, hE⟩ : ∃ E, E = encS [wRoutine, r.nm] := ⟨_, rfl⟩
 rw [← hE] at hv
 have hE0 : E[0]? = some [.str wRoutine] := by rw [hE]; rfl
 have hE1 : E[1]? = some [.str r.nm] := by rw [hE]; rfl
 have hE0g : ∀ h : 0 < E.length, E[0]'h = [.str wRoutine] := by subst hE; intro h; rfl
 have hE1g : ∀ h : 1 < E.length, E[1]'h = [.str r.nm] := by subst hE; intro h; rfl
 have hEl : E.length = 2 := by rw [hE]; rfl
 have x0 : idx (0 : Int) 2 = some 0 := rfl
 have x1 : idx (1 : Int) 2 = some 1 := rfl
 have hw2 : IntKind.i64.wrap 1 = 1 := by decide
 have hwe : (wRoutine = [114, 111, 117, 116, 105, 110, 101]) = True := eq_true rfl
 refine wkcektu (jn @dI.eq_1 (jn @hv (jn @hn (jn @hE0 (jn @hE0g (jn @hE1 (jn @hEl (jn @x0 (jn @x1 (jn @hw2 (jn @tx_beq (jn @int_bne (jn @hwe (jn @ti59 @ti9)))))))))))))) ?_
 apply WP.gen
 intro hp2 wl2 h1 h2
 have z2 : hp2.get n = hp1.get n := by rw [h1]; exact hfr n (by omega) (by simp)
 rw [z1] at z2
 have R2 : Rd hp2 id g ls k := R1.of (by rw [h1]; exact hfr id (by omega) (by simp))
 have w2 : WI [id] n hp wl2 hp2 := by
  rw [h1, h2]
  exact w1.sets (wr := tWr r0 (n + 1)) fun p hp => by have := hki p.1 (List.mem_map_of_mem hp); simp at this
 clear h1 h2 hT1 hT2 hki hfr hv z1 R1 w1
 obtain ⟨c2, hc2⟩ : ∃ c2, c2 = c + 1 + (r0.c - (c + 1)) := ⟨_, rfl⟩
 rw [← hc2]
 clear hc2 hn
 obtain ⟨r1, hT1, hv, hn, hT2, hki, hfr, hpz, hz, hsame⟩ := (done36 (n := n + 1) (c := c2) R2 (by omega) (by omega)).caller (by intro j hj; simp at hj; omega)
 refine wkcektu (jn @dI.eq_1 (jn @hv @hn)) ?_
 apply WP.gen
 intro hp3 wl3 h1 h2
 have z3 : hp3.get n = hp2.get n := by rw [h1]; exact hfr n (by omega) (by simp; omega)
 rw [z2] at z3
 have R3 : Rd hp3 id g ls (k + 1) := hz.of (by rw [h1]; exact hsame id (by omega) hz.some)
 have w3 : WI [id] n hp wl3 hp3 := by
  rw [h1, h2]
  exact w2.sets (wr := tWr r1 (n + 1)) fun p hp => .inl (hki p.1 (List.mem_map_of_mem hp))
 clear h1 h2 hT1 hT2 hki hfr hv z2 R2 w2 hpz hz hsame
 obtain ⟨c3, hc3⟩ : ∃ c3, c3 = c2 + (r1.c - c2) := ⟨_, rfl⟩
 rw [← hc3]
 clear hc3 hn
 obtain ⟨u0, hT1, hv, hn, hT2, hki, hfr, hpz, hz, hsame⟩ := (list19 (n := n + 1) (c := c3) (many := -1) R3 (by omega) (by omega) (by omega) (show 32 ∉ wIn by decide) (by decide) s1 (by have := nums_len hr.inn; simp [wIn]; omega) hr.inn (by omega) (.inl rfl)).caller (by intro j hj; simp at hj; omega)
 have R4 : Rd (hp3.sets (tWr u0 (n + 1))) id g ls (k + 1 + 1) := hz.of (hsame id (by omega) hz.some)
 obtain ⟨u1, hU1, hv1, hn1, hU2, hki1, hfr1, hpz1, hz1, hsame1⟩ := (list19 (n := n + 1 + (u0.n - (n + 1))) (c := c3 + (u0.c - c3)) (many := -1) R4 (by omega) (by omega) (by omega) (show 32 ∉ wOut by decide) (by decide) s2 (by have := nums_len hr.out; simp [wOut]; omega) hr.out (by omega) (.inl rfl)).caller (by intro j hj; simp at hj; omega)
 simp only [dI, dS, dL, wIn, wOut] at hT1 hv hU1 hv1
 repeat (first
 | apply WP.seq
 | (apply WP.reg; (case hR => dsimp only [prepL, prepO, List.map, gS, gZ]; exact iZ); (case hr => (repeat (first
 | (apply RT.op; simp [dI, -addNew, hE0, hE0g, hE1g, hE1, hEl, x0, x1, hw2, hv, hn, hv1, hn1, ti59, ti9, ti43, ti22, fillV, Value.oneCell', closeParts, cl2, z50_eq]; exact iZ; (try dsimp only [putEnv]) <;> exact rfl)
 | (apply RT.call; (iterate 2 simp; exact iZ); exact iZ; (iterate 4 simp [dI, -addNew, hE0, hE0g, hE1g, hE1, hEl, x0, x1, hw2, hv, hn, hv1, hn1, ti59, ti9, ti43, ti22, fillV, Value.oneCell', closeParts, cl2, z50_eq]; exact iZ); simp [Is]; (try dsimp only [putEnv]) <;> exact rfl; simp; exact iZ; exact iZ)
 | (apply RT.callT (hd := hT1) (hk := hT2); (iterate 2 simp; exact iZ); exact iZ; (iterate 2 simp [dI, -addNew, hE0, hE0g, hE1g, hE1, hEl, x0, x1, hw2, hv, hn, hv1, hn1, ti59, ti9, ti43, ti22, fillV, Value.oneCell', closeParts, cl2, z50_eq]; exact iZ); (try dsimp only [putEnv]) <;> exact rfl)
 | (apply RT.callT (hd := hU1) (hk := hU2); (iterate 2 simp; exact iZ); exact iZ; (iterate 2 simp [dI, -addNew, hE0, hE0g, hE1g, hE1, hEl, x0, x1, hw2, hv, hn, hv1, hn1, ti59, ti9, ti43, ti22, fillV, Value.oneCell', closeParts, cl2, z50_eq]; exact iZ); (try dsimp only [putEnv]) <;> exact rfl)
 | (apply RT.wr; simp [dI, -addNew, hE0, hE0g, hE1g, hE1, hEl, x0, x1, hw2, hv, hn, hv1, hn1, ti59, ti9, ti43, ti22, fillV, Value.oneCell', closeParts, cl2, z50_eq]; exact iZ; (try dsimp only [putEnv]) <;> exact rfl; simp [dI, -addNew, hE0, hE0g, hE1g, hE1, hEl, x0, x1, hw2, hv, hn, hv1, hn1, ti59, ti9, ti43, ti22, fillV, Value.oneCell', closeParts, cl2, z50_eq]; exact iZ; (iterate 2 exact iZ); exact iZ))); exact RT.nil); (case hc => first | (refine checkR_un [(0, 1), (0, 2), (0, 3), (0, 6), (1, 6), (2, 6), (3, 6), (4, 6), (5, 6), (0, 7), (1, 7), (2, 7), (3, 7), (4, 7), (5, 7), (0, 8), (1, 8), (2, 8), (3, 8), (4, 8), (5, 8), (6, 8), (7, 8), (0, 9), (1, 9), (2, 9), (3, 9), (4, 9), (5, 9)] (by kernel_rfl) (by decide +kernel) rfl ?_; simp [memA, disj_l, disj_r]; done) | (show _ = _; kernel_rfl)); (case ht => simp [dI, -addNew, hE0, hE0g, hE1g, hE1, hEl, x0, x1, hw2, hv, hn, hv1, hn1, ti59, ti9, ti43, ti22, fillV, Value.oneCell', closeParts, cl2, z50_eq]; exact iZ))
 | apply WP.block | apply WP.skip | apply WP.exit | apply WP.ret | refine WP.condT rfl ?_ | refine WP.condF rfl ?_)
 apply WP.gen
 intro hp4 wl4 h1 h2
 obtain ⟨G4, hG4⟩ : ∃ G4, G4 = c3 + (u0.c - c3) + (u1.c - (c3 + (u0.c - c3))) := ⟨_, rfl⟩
 rw [← hG4] at h1 h2 ⊢
 have hN : n + 1 + (u0.n - (n + 1)) = n + 1 := by omega
 rw [hN] at hU2 hki1 hfr1 hsame1
 try rw [hN] at h1 h2
 have x4 : hp4.get (n + 1) = some ⟨G4, false, [V.d (.str r.nm), V.d (.slice (encI r.inn)), V.d (.slice (encI r.out)), V.d (.int .i64 0), V.full [], V.osl (n + 2) (G4 + 1) 0 0 5 none]⟩ := by rw [h1, Hp.get_set_self]
 have o4 : hp4.get (n + 2) = some ⟨G4 + 1, false, []⟩ := by rw [h1, Hp.get_set_ne _ _ _ _ (by omega), Hp.get_set_self]
 have e4 : ∀ j, j < n + 1 → hp4.get j = ((hp3.sets (tWr u0 (n + 1))).sets (tWr u1 (n + 1))).get j := fun j hj => by
  rw [h1, Hp.get_set_ne _ _ _ _ (by omega), Hp.get_set_ne _ _ _ _ (by omega), Hp.get_set_ne _ _ _ _ (by omega), Hp.get_set_ne _ _ _ _ (by omega)]
 have z4 : hp4.get n = hp3.get n := by rw [e4 n (by omega), hfr1 n (by omega) (by simp; omega), hfr n (by omega) (by simp; omega)]
 rw [z3] at z4
 have R5 : Rd hp4 id g ls (k + 1 + 1 + 1) := hz1.of (by rw [e4 id (by omega)]; exact hsame1 id (by omega) hz1.some)
 have w4 : WI [id] n hp wl4 hp4 := by
  rw [h1, h2]
  have w5 := (w3.sets (wr := tWr u0 (n + 1)) fun p hp => .inl (hki p.1 (List.mem_map_of_mem hp))).sets (wr := tWr u1 (n + 1)) fun p hp => .inl (hki1 p.1 (List.mem_map_of_mem hp))
  have w6 := ((w5.set (k := n + 1) (o := ⟨G4, false, [V.d (.str []), V.full [], V.full [], V.d (.int .i64 0), V.full [], V.full []]⟩) (.inr (by omega))).set (k := n + 1) (o := ⟨G4, false, [V.d (.str r.nm), V.d (.slice (encI r.inn)), V.d (.slice (encI r.out)), V.d (.int .i64 0), V.full [], V.full []]⟩) (.inr (by omega))).set (k := n + 1) (o := ⟨G4, false, [V.d (.str r.nm), V.d (.slice (encI r.inn)), V.d (.slice (encI r.out)), V.d (.int .i64 0), V.full [], V.full []]⟩) (.inr (by omega))
  refine WI.of_get w6 fun j hj => ?_
  rw [Hp.get_set_ne _ _ _ _ (by omega), Hp.get_set_ne _ _ _ _ (by omega), Hp.get_set_ne _ _ _ _ (by omega), Hp.get_set_ne _ _ _ _ (by omega), Hp.get_set_ne _ _ _ _ (by omega), Hp.get_set_ne _ _ _ _ (by omega), Hp.get_set_ne _ _ _ _ (by omega)]
 clear h1 h2 hT1 hT2 hki hfr hv hU1 hU2 hki1 hfr1 hv1 z3 R3 w3 R4 hpz hz hsame hpz1 hz1 hsame1 e4 hn hn1 hN hG4
 obtain ⟨c4, hc4⟩ : ∃ c4, c4 = G4 + 1 + 1 := ⟨_, rfl⟩
 rw [← hc4]
 clear hc4
 obtain ⟨v0, hT1, hv, hn, hT2, hki, hfr, hpz, hz, hsame⟩ := (list19 (n := n + 3) (c := c4) (many := 1) R5 (by omega) (by omega) (by omega) (show 32 ∉ wRegs by decide) (by decide) s3 (by have := nums_len (l := [r.regs]) (by simpa using hr.regs); simp [wRegs] at this ⊢; omega) (by simpa using hr.regs) (by simp) (.inr rfl)).caller (by intro j hj; simp at hj; omega)
 simp only [dI, dS, dL, wRegs] at hT1 hv
 have el : encI [r.regs] = [[.int .i64 r.regs]] := rfl
 refine wkcektu (jn @dI.eq_1 (jn @hv (jn @hn (jn @el @ti22)))) ?_
 apply WP.gen
 intro hp5 wl5 h1 h2
 have x5 := (hfr (n + 1) (by omega) (by simp; omega)).trans x4
 have o5 := (hfr (n + 2) (by omega) (by simp; omega)).trans o4
 have z5 := (hfr n (by omega) (by simp; omega)).trans z4
 have R6 : Rd hp5 id g ls (k + 4) := hz.of (by rw [h1]; exact hsame id (by omega) hz.some)
 rw [← h1] at x5 o5 z5
 have w5 : WI [id] n hp wl5 hp5 := by rw [h1, h2]; exact w4.sets (wr := tWr v0 (n + 3)) fun p hp => .inl (hki p.1 (List.mem_map_of_mem hp))
 clear h1 h2 hT1 hT2 hki hfr hv hpz hz hsame x4 o4 z4 R5 w4 hn
 obtain ⟨c5, hc5⟩ : ∃ c5, c5 = c4 + (v0.c - c4) := ⟨_, rfl⟩
 rw [← hc5]
 clear hc5
 have g1 : (n + 1 < n + 3) = True := eq_true (by omega)
 have g2 : (n + 2 < n + 3) = True := eq_true (by omega)
 have g3 : (n + 2 = n + 1) = False := eq_false (by omega)
 have g4 : (n + 1 = n + 2) = False := eq_false (by omega)
 have g5 : (n < n + 3) = True := eq_true (by omega)
 have g6 : (id < n + 3) = True := eq_true (by omega)
 have i0 : idx (0 : Int) 1 = some 0 := rfl
 have hw1 : IntKind.i64.wrap 1 = 1 := by decide
 obtain ⟨O, hO⟩ : ∃ O, O = V.osl (n + 2) (G4 + 1) 0 0 5 none := ⟨_, rfl⟩
 rw [← hO] at x5
 apply WP.loop' (I := fun D s => ∃ (j : Nat) (hp6 : Hp) (c6 : Nat) (wl6 : List Nat), j + D = 1 ∧ hp6.get (n + 1) = some ⟨G4, false, [V.d (.str r.nm), V.d (.slice (encI r.inn)), V.d (.slice (encI r.out)), V.d (.int .i64 (if j = 0 then 0 else r.regs)), V.full [], O]⟩ ∧ hp6.get (n + 2) = some ⟨G4 + 1, false, []⟩ ∧ hp6.get n = hp5.get n ∧ Rd hp6 id g ls (k + 4) ∧ WI [id] n hp wl6 hp6 ∧
  s = ⟨[(0, .ptr id g 0), (2, .ptr n c 0), (4, .ptr (n + 1) G4 0), (36, .d (.slice [[.int .i64 r.regs]])), (37, dI 1), (38, dI j)], hp6, n + 3, c6, n, wl6⟩) (d := 1)
 ·exact ⟨0, hp5, c5, wl5, rfl, x5, o5, rfl, R6, w5, by rfl⟩
 rintro D _ ⟨j, hp6, c6, wl6, hj, x6, o6, z6, R7, w6, rfl⟩
 have hj01 : (j = 0 ∧ D = 1) ∨ (j = 1 ∧ D = 0) := by omega
 rcases hj01 with ⟨rfl, rfl⟩ | ⟨rfl, rfl⟩
 ·rw [if_pos rfl] at x6
  have hO1 : ∀ look, cl1 look false O = some (O, []) := fun look => by rw [hO]; rfl
  refine wkcektu (jn @dI.eq_1 (jn @i0 (jn @hw1 (jn @x6 (jn @hO1 (jn @ti22 (jn @ti43 (jn @ti3 (jn @closeParts.eq_1 (jn @closeParts.eq_2 (jn @cl2.eq_def @g1))))))))))) ?_
  refine loop_next (by simp [-addNew, hw1]; exact Is.rfl) ?_
  refine ⟨0, by omega, 1, _, _, _, rfl, ?_, ?_, ?_, ?_, (w6.set (k := n + 1) (.inr (by omega))).trunc (m := n + 3) (by omega), by rfl⟩
  ·rw [Hp.get_trunc _ _ _ (by omega), Hp.get_set_self, if_neg (by decide)]
  ·rw [Hp.get_trunc _ _ _ (by omega), Hp.get_set_ne _ _ _ _ (by omega)]; exact o6
  ·rw [Hp.get_trunc _ _ _ (by omega), Hp.get_set_ne _ _ _ _ (by omega)]; exact z6
  ·exact R7.of (by rw [Hp.get_trunc _ _ _ (by omega), Hp.get_set_ne _ _ _ _ (by omega)])
 ·rw [if_neg (by decide)] at x6
  rw [z5] at z6
  clear x5 o5 z5 R6 w5
  obtain ⟨v1, hT1, hv, hn, hT2, hki, hfr, hpz, hz, hsame⟩ := (list19 (n := n + 3) (c := c6) (many := -1) R7 (by omega) (by omega) (by omega) (show 32 ∉ wInit by decide) (by decide) s4 (by have := nums_len hr.ini; simp [wInit]; omega) hr.ini (by omega) (.inl rfl)).caller (by intro j hj; simp at hj; omega)
  simp only [dI, dS, dL, wInit] at hT1 hv
  have x7 := (hfr (n + 1) (by omega) (by simp; omega)).trans x6
  have o7 := (hfr (n + 2) (by omega) (by simp; omega)).trans o6
  have z7 := (hfr n (by omega) (by simp; omega)).trans z6
  have R8 : Rd (hp6.sets (tWr v1 (n + 3))) id g ls (k + 5) := hz.of (hsame id (by omega) hz.some)
  refine wkcektu (jn @dI.eq_1 (jn @hv (jn @hn (jn @ti22 (jn @ti43 (jn @x7 (jn @g1 (jn @closeParts.eq_1 (jn @closeParts.eq_2 @cl2.eq_def))))))))) ?_
  apply WP.gen
  intro hp8 wl8 h1 h2
  have x8 := (show hp8.get (n + 1) = some ⟨G4, false, [V.d (.str r.nm), V.d (.slice (encI r.inn)), V.d (.slice (encI r.out)), V.d (.int .i64 r.regs), V.d (.slice (encI r.ini)), O]⟩ by rw [h1, Hp.get_set_self])
  have o8 : hp8.get (n + 2) = some ⟨G4 + 1, false, []⟩ := by rw [h1, Hp.get_set_ne _ _ _ _ (by omega)]; exact o7
  have z8 : hp8.get n = some ⟨c, false, [V.d (.str []), V.full [], V.full [], V.d (.int .i64 0), V.full [], V.full []]⟩ := by rw [h1, Hp.get_set_ne _ _ _ _ (by omega)]; exact z7
  have R9 : Rd hp8 id g ls (k + 5) := R8.of (by rw [h1, Hp.get_set_ne _ _ _ _ (by omega)])
  have w8 : WI [id] n hp wl8 hp8 := by
   rw [h1, h2]
   exact (w6.sets (wr := tWr v1 (n + 3)) fun p hp => .inl (hki p.1 (List.mem_map_of_mem hp))).set (k := n + 1) (.inr (by omega))
  clear h1 h2 hT1 hT2 hki hfr hv hpz hz hsame x7 o7 z7 R8 x6 o6 z6 R7 w6 hn
  obtain ⟨c8, hc8⟩ : ∃ c8, c8 = c6 + (v1.c - c6) := ⟨_, rfl⟩
  rw [← hc8]
  clear hc8
  rw [hO] at x8
  obtain ⟨f, hf⟩ : ∃ f : List D, f = [.str r.nm, .slice (encI r.inn), .slice (encI r.out), .int .i64 r.regs, .slice (encI r.ini)] := ⟨_, rfl⟩
  apply WP.loop' (I := fun D s => ∃ (j gO : Nat) (hp6 : Hp) (c6 : Nat) (wl6 : List Nat), j + D = r.code.length ∧ hp6.get (n + 1) = some ⟨G4, false, [V.d (.str r.nm), V.d (.slice (encI r.inn)), V.d (.slice (encI r.out)), V.d (.int .i64 r.regs), V.d (.slice (encI r.ini)), V.osl (n + 2) gO 0 j 5 none]⟩ ∧ hp6.get (n + 2) = some ⟨gO, false, cCt (r.code.take j)⟩ ∧ hp6.get n = hp8.get n ∧ Rd hp6 id g ls (k + 5 + j) ∧ WI [id] n hp wl6 hp6 ∧
   s = ⟨[(0, .ptr id g 0), (2, .ptr n c 0), (4, .ptr (n + 1) G4 0)], hp6, n + 3, c6, n, wl6⟩) (d := r.code.length)
  ·exact ⟨0, G4 + 1, hp8, c8, wl8, by simp, x8, o8, rfl, R9, w8, by rfl⟩
  rintro D _ ⟨j, gO, hp6, c6, wl6, hj, x6, o6, z6, R7, w6, rfl⟩
  rw [z8] at z6
  clear x8 o8 R9 w8
  by_cases hjl : j < r.code.length
  ·obtain ⟨i, hi⟩ : ∃ i, r.code[j]? = some i := ⟨r.code[j], by simp⟩
   have hF := hop i (List.mem_of_getElem? hi)
   have hU := hr.code i (List.mem_of_getElem? hi)
   obtain ⟨o, ho⟩ : ∃ o : Nat, i.op = o := ⟨i.op.toNat, by have := hF.lo; omega⟩
   have hF1 := hF.lo
   have hF2 := hF.hi
   have hF3 := hF.z
   rw [ho] at hF1 hF2 hF3
   rw [show ((o : Int)).toNat = o by simp] at hF3
   have hie : i = ⟨o, i.a, i.b, i.c, i.d⟩ := by rw [← ho]
   have hlj := hln (5 + j) _ (rtL_code hi)
   rw [show k + (5 + j) = k + 5 + j by omega] at hlj
   have hlw : lnI i = wordT o ++ nums (usedI i) := by
    unfold lnI wordT
    rw [ho, if_neg (by omega)]
   rw [hlw] at hlj
   rw [hie] at hU hlj
   have hll : (wordT o ++ nums (usedI ⟨o, i.a, i.b, i.c, i.d⟩)).length ≤ 8388608 := by
    have h1 := nums_len hU
    have h2 := usedI_len ⟨o, i.a, i.b, i.c, i.d⟩
    have h3 : (wordT o).length ≤ 5 := by unfold wordT; rw [if_neg (by omega)]; exact wordI_len _
    simp; omega
   obtain ⟨v2, hT1, hv, hn, hT2, hki, hfr, hpz, hz, hsame⟩ := (instrOp (n := n + 3) (c := c6) (by omega) (by omega) hF3 hU R7 (by omega) (by omega) hls hlj hll).caller (by intro j hj; simp at hj; omega)
   simp only [aI, I.cells, List.map_cons, List.map_nil, dB] at hv
   have x7 := (hfr (n + 1) (by omega) (by simp; omega)).trans x6
   have o7 := (hfr (n + 2) (by omega) (by simp; omega)).trans o6
   have z7 := (hfr n (by omega) (by simp; omega)).trans z6
   have R8 : Rd (hp6.sets (tWr v2 (n + 3))) id g ls (k + 5 + j + 1) := hz.of (hsame id (by omega) hz.some)
   obtain ⟨C, hC⟩ : ∃ C, C = cCt (r.code.take j) := ⟨_, rfl⟩
   rw [← hC] at o7
   have hCl : C.length = j * 5 := by rw [hC, cCt_len]; simp; omega
   have hCt : List.take (j * 5) C = C := List.take_of_length_le (by omega)
   have hfit : fitsB (j + 1) 40 = true := by simp [fitsB]; omega
   have k1 : (n + 1 < n + 4) = True := eq_true (by omega)
   have k2 : (n + 2 < n + 4) = True := eq_true (by omega)
   have k3 : (n + 3 = n + 1) = False := eq_false (by omega)
   have k4 : (n + 3 = n + 2) = False := eq_false (by omega)
   have k5 : (n + 3 < n + 4) = True := eq_true (by omega)
   refine wkcektu (jn @dI.eq_1 (jn @hv (jn @hn (jn @ti22 (jn @ti43 (jn @ti45 (jn @ti41 (jn @ti4 (jn @x7 (jn @o7 (jn @g1 (jn @k1 (jn @k2 (jn @k3 (jn @k4 (jn @k5 (jn @g3 (jn @g4 (jn @closeParts.eq_1 (jn @closeParts.eq_2 (jn @cl2.eq_def (jn @fillV.eq_1 (jn @fillV.eq_2 (jn @Value.oneCell'.eq_def (jn @hCl (jn @hCt (jn @nble_d (jn @hfit @z52_eq)))))))))))))))))))))))))))) ?_
   have hCn : C ++ [V.d (.int .i64 o), V.d (.int .i64 i.a), V.d (.int .i64 i.b), V.d (.int .i64 i.c), V.d (.int .i64 i.d)] = cCt (r.code.take (j + 1)) := by
    rw [hC, List.take_add_one, hi, ← ho, cCt_snoc]; rfl
   rw [hCn]
   refine block_n ?_
   refine loop_next (by simp [-addNew]; exact Is.rfl) ?_
   refine ⟨D - 1, by omega, j + 1, c6 + (v2.c - c6) + 1 + 1, _, _, _, by omega, ?_, ?_, ?_, ?_, ((((((w6.sets (wr := tWr v2 (n + 3)) fun p hp => .inl (hki p.1 (List.mem_map_of_mem hp))).set (k := n + 3) (.inr (by omega))).set (k := n + 3) (.inr (by omega))).set (k := n + 4) (.inr (by omega))).set (k := n + 2) (.inr (by omega))).set (k := n + 1) (.inr (by omega))).trunc (m := n + 3) (by omega), by rfl⟩
   ·rw [Hp.get_trunc _ _ _ (by omega), Hp.get_set_self]
   ·rw [Hp.get_trunc _ _ _ (by omega), Hp.get_set_ne _ _ _ _ (by omega), Hp.get_set_self]
   ·rw [Hp.get_trunc _ _ _ (by omega), Hp.get_set_ne _ _ _ _ (by omega), Hp.get_set_ne _ _ _ _ (by omega), Hp.get_set_ne _ _ _ _ (by omega), Hp.get_set_ne _ _ _ _ (by omega), Hp.get_set_ne _ _ _ _ (by omega), z7, z8]
   ·exact R8.of (by rw [Hp.get_trunc _ _ _ (by omega), Hp.get_set_ne _ _ _ _ (by omega), Hp.get_set_ne _ _ _ _ (by omega), Hp.get_set_ne _ _ _ _ (by omega), Hp.get_set_ne _ _ _ _ (by omega), Hp.get_set_ne _ _ _ _ (by omega)])
  ·have hjL : j = r.code.length := by omega
   subst hjL
   have hlj := hln _ _ (rtL_end r)
   rw [show k + (5 + r.code.length) = k + 5 + r.code.length by omega] at hlj
   obtain ⟨v2, hT1, hv, hn, hT2, hki, hfr, hpz, hz, hsame⟩ := (instrEnd (n := n + 3) (c := c6) R7 (by omega) (by omega) hls hlj (by simp [wEnd, nums])).caller (by intro j hj; simp at hj; omega)
   simp only [aI, I.cells, List.map_cons, List.map_nil, dB] at hv
   have x7 := (hfr (n + 1) (by omega) (by simp; omega)).trans x6
   have o7 := (hfr (n + 2) (by omega) (by simp; omega)).trans o6
   have z7 := (hfr n (by omega) (by simp; omega)).trans z6
   have R8 : Rd (hp6.sets (tWr v2 (n + 3))) id g ls (k + 5 + r.code.length + 1) := hz.of (hsame id (by omega) hz.some)
   refine wkcektu (jn @dI.eq_1 (jn @hv (jn @hn (jn @ti22 (jn @ti43 (jn @ti45 (jn @ti41 (jn @ti4 (jn @x7 (jn @o7 (jn @z7 (jn @g1 (jn @g3 (jn @g4 (jn @closeParts.eq_1 (jn @closeParts.eq_2 (jn @cl2.eq_def @z52_eq))))))))))))))))) ?_
   rw [List.take_length] at o7
   refine ⟨.inr rfl, [.agg [.d (.str r.nm), .d (.slice (encI r.inn)), .d (.slice (encI r.out)), .d (.int .i64 r.regs), .d (.slice (encI r.ini)), .osl (n + 2) gO 0 r.code.length 5 none]], [n + 2], by simp [resultsV, resultV, Hp.get_set], close_R (ro := false) ?_, by simp, (((w6.sets (wr := tWr v2 (n + 3)) fun p hp => .inl (hki p.1 (List.mem_map_of_mem hp))).set (k := n + 3) (.inr (by omega))).set (k := n + 3) (.inr (by omega))).set (k := n) (.inr (by omega)), ?_⟩
   ·show (Hp.set _ _ _).get (n + 2) = _
    rw [Hp.get_set_ne _ _ _ _ (by omega), Hp.get_set_ne _ _ _ _ (by omega), Hp.get_set_ne _ _ _ _ (by omega), o7]
   ·rw [hrl]
    show (Hp.trunc n _).get id = _
    rw [Hp.get_trunc _ _ _ hid]
    show (Hp.set _ _ _).get id = _
    rw [Hp.get_set_ne _ _ _ _ (by omega), Hp.get_set_ne _ _ _ _ (by omega), Hp.get_set_ne _ _ _ _ (by omega)]
    rw [show k + (r.code.length + 6) = k + 5 + r.code.length + 1 by omega]
    exact R8
end
end Go.Ac
end

section
set_option maxRecDepth 4000
namespace Go.Ac
open Go.Proofs

def rsE (im : Im) : Nat → List Rt → Int
 | _, [] => 0
 | k, r :: l => if oneE im k r = 0 then rsE im (k + 1) l else oneE im k r
theorem rsE_step {im : Im} {l : List Rt} {j : Nat} {r : Rt} (h : l[j]? = some r) : rsE im j (l.drop j) = if oneE im j r = 0 then rsE im (j + 1) (l.drop (j + 1)) else oneE im j r := by
 obtain ⟨hl, he⟩ := List.getElem?_eq_some_iff.1 h
 rw [List.drop_eq_getElem_cons hl, he]; rfl
def chkE (im : Im) : Int :=
 if im.enums.length > 24 then 3 else if im.rs.length > 96 then 3 else if im.enums.any outE then 14 else if im.rs.length = 0 then 5 else rsE im 0 im.rs
set_option maxHeartbeats 1000000 in
theorem check_den (im : Im) (hs : im.sz ≤ MB) (hok : ∀ r, r ∈ im.rs → RtOK r) : den Tryz.prog Cp.cfg 14 [aM im] = some (dI (chkE im)) := by
 have hrl := im.len_rs
 have hel : im.enums.length ≤ im.sz := by unfold Im.sz; omega
 unfold MB at hs
 have hce := contains_outE im.enums (by unfold MX; omega)
 simp only [dL, dB] at hce
 refine den_wp Tryz.func14 rfl (by kernel_rfl) rfl rfl ?_
 unfold chkE
 by_cases q1 : im.enums.length > 24
 ·rw [if_pos q1]
  have q1' : (24 < im.enums.length) = True := by simp; omega
  have q1'' : ((24 : Int) < im.enums.length) = True := by simp; omega
  refine wkc (jn @dI.eq_1 (jn @aM.eq_1 (jn @Im.cells.eq_1 (jn @q1' @q1'')))) ?_
  show retQ _ _ _ _ _
  exact ⟨.inr rfl, _, _, rfl, rfl⟩
 rw [if_neg q1]
 have q1' : (24 < im.enums.length) = False := by simp; omega
 have q1'' : ((24 : Int) < im.enums.length) = False := by simp; omega
 by_cases q2 : im.rs.length > 96
 ·rw [if_pos q2]
  have q2' : (96 < im.rs.length) = True := by simp; omega
  have q2'' : ((96 : Int) < im.rs.length) = True := by simp; omega
  refine wkc (jn @dI.eq_1 (jn @aM.eq_1 (jn @Im.cells.eq_1 (jn @q1' (jn @q1'' (jn @q2' @q2'')))))) ?_
  show retQ _ _ _ _ _
  exact ⟨.inr rfl, _, _, rfl, rfl⟩
 rw [if_neg q2]
 have q2' : (96 < im.rs.length) = False := by simp; omega
 have q2'' : ((96 : Int) < im.rs.length) = False := by simp; omega
 cases q3 : im.enums.any outE with
 | true =>
  rw [q3] at hce
  refine wkc (jn @dI.eq_1 (jn @aM.eq_1 (jn @Im.cells.eq_1 (jn @q1' (jn @q1'' (jn @q2' (jn @q2'' @hce))))))) ?_
  show retQ _ _ _ _ _
  exact ⟨.inr rfl, _, _, rfl, rfl⟩
 | false =>
  rw [q3] at hce
  rw [if_neg (by simp)]
  by_cases q4 : im.rs.length = 0
  ·rw [if_pos q4]
   have q4' : im.rs = [] := List.eq_nil_of_length_eq_zero q4
   refine wkc (jn @dI.eq_1 (jn @aM.eq_1 (jn @Im.cells.eq_1 (jn @q1' (jn @q1'' (jn @q2' (jn @q2'' (jn @hce (jn @q4 @q4'))))))))) ?_
   show retQ _ _ _ _ _
   exact ⟨.inr rfl, _, _, rfl, rfl⟩
  rw [if_neg q4]
  have q4' : ¬ im.rs = [] := fun h => q4 (by rw [h]; rfl)
  have q4'' : ((im.rs.length : Int) = 0) = False := by simp; omega
  refine wkc (jn @dI.eq_1 (jn @aM.eq_1 (jn @Im.cells.eq_1 (jn @q1' (jn @q1'' (jn @q2' (jn @q2'' (jn @hce (jn @q4 (jn @q4' (jn @q4'' @int_beq))))))))))) ?_
  apply WP.loop' (I := fun D s => ∃ j : Nat, j + D = im.rs.length ∧ rsE im 0 im.rs = rsE im j (im.rs.drop j) ∧ SE [(1, .ptr 0 0 0), (24, dI im.rs.length), (25, dI j)] [(0, ⟨0, false, im.cells.map .d⟩)] 1 s) (d := im.rs.length)
  ·exact ⟨0, by simp, rfl, SE.mk (by simp [dI]) (by simp [Im.cells])⟩
  rintro D _ ⟨j, hj, hE, cc, rfl⟩
  refine wk (@dI.eq_1) ?_
  show WP _ _ _ _ _ _
  refine WP.cond _ rfl (fun hb => ?_) (fun hb => ?_)
  ·simp at hb
   have hb' : j < im.rs.length := hb
   obtain ⟨r, hr, hm, hix⟩ := at_lt hb'
   have hw := w_succ hb' (by omega)
   have hst := rsE_step (im := im) hr
   rw [← hE] at hst
   have h1 := one_den im j r hr (by unfold MB; omega) (hok r hm)
   simp only [aM, Im.cells, List.map_cons, List.map_nil, dI] at h1
   by_cases h0 : oneE im j r = 0
   ·rw [h0] at h1
    rw [if_pos h0] at hst
    refine wkc (jn @dI.eq_1 (jn @Im.cells.eq_1 @h1)) ?_
    refine loop_next (by simp [hw]; exact Is.rfl) ?_
    exact ⟨D - 1, by omega, j + 1, by omega, hst, SE.mk (by simp [dI, hw]) (by simp [Im.cells])⟩
   ·rw [if_neg h0] at hst
    rw [hst]
    refine wkc (jn @dI.eq_1 (jn @Im.cells.eq_1 (jn @h1 (jn @h0 @int_bne)))) ?_
    show retQ _ _ _ _ _
    exact ⟨.inr rfl, _, _, rfl, rfl⟩
  ·simp at hb
   have hE0 : rsE im 0 im.rs = 0 := by rw [hE, List.drop_of_length_le hb]; rfl
   rw [hE0]
   refine wk True.intro ?_
   show retQ _ _ _ _ _
   exact ⟨.inr rfl, _, _, rfl, rfl⟩
end Go.Ac
end
