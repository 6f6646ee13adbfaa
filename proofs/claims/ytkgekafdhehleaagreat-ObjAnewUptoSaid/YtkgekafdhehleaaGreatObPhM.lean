/- The program's class: an object with maps. -/
import Derived.Test.YtkgekafdhehleaaGreatObXaM
set_option linter.unusedVariables false
set_option linter.unusedSimpArgs false
section
set_option maxRecDepth 4000
namespace Go.Ac
open Go.Proofs
theorem kf195 (r : Nat) : Ob.keep 195 r = Ob.k195 r := by kernel_rfl
theorem kf191 (r : Nat) : Ob.keep 191 r = Ob.k191 r := by kernel_rfl
theorem kf192 (r : Nat) : Ob.keep 192 r = Ob.k192 r := by kernel_rfl
theorem kf173 (r : Nat) : Ob.keep 173 r = Ob.k173 r := by kernel_rfl
attribute [local simp] kf195 Ob.k195 kf191 Ob.k191 kf192 Ob.k192 kf173 Ob.k173
theorem index195 {p : X → Bool} (l : List X) (hl : l.length ≤ MX) (hq : ∀ v, v ∈ l → den Tryz.prog Ob.cfg 192 [aG v.cells] = some (dB (p v))) : den Tryz.prog Ob.cfg 195 [dL (encX l), .fn 192 []] = some (dI (ixP p l)) := by
 unfold MX at hl
 refine den_wp Tryz.func195 rfl (by kernel_rfl) rfl rfl ?_
 refine wk (jn @dL.eq_1 @encX_len) ?_
 apply WP.loop' (I := fun D s => ∃ j : Nat, j + D = l.length ∧ (l.take j).all (fun v => !p v) = true ∧ SE [(0, dL (encX l)), (1, .fn 192 []), (7, dI l.length), (8, dI j)] [] 0 s) (d := l.length)
 ·exact ⟨0, by simp, by simp, SE.mk (by simp [dI, dL]) rfl⟩
 rintro D _ ⟨j, hj, hno, cc, rfl⟩
 refine wk (jn @dI.eq_1 @dL.eq_1) ?_
 show WP _ _ _ _ _ _
 refine WP.cond _ rfl (fun hb => ?_) (fun hb => ?_)
 ·simp at hb
  have hb' : j < l.length := by omega
  obtain ⟨d, hd, hdm, hix⟩ := at_lt hb'
  have hd' := encX_at hd
  have hw := w_succ hb' (by omega)
  have hs := all_snoc (p := fun v => !p v) hd
  have h4 := hq d hdm
  simp only [aG, X.cells_eq, List.map_cons, List.map_nil, dB] at h4
  cases hpd : p d with
  | true =>
   rw [hpd] at h4
   rw [ixP_some hno hd hpd]
   refine wkc (jn @dI.eq_1 (jn @dL.eq_1 (jn @hix (jn @hd' (jn @X.cells_eq @h4))))) ?_
   show retQ _ _ _ _ _
   exact ⟨.inr rfl, _, _, rfl, rfl⟩
  | false =>
   rw [hpd] at h4
   refine wkc (jn @dI.eq_1 (jn @dL.eq_1 (jn @hix (jn @hd' (jn @X.cells_eq @h4))))) ?_
   refine loop_next (by simp [hw]; exact Is.rfl) ?_
   exact ⟨D - 1, by omega, j + 1, by omega, by rw [hs, hno, hpd]; rfl, SE.mk (by simp [dI, dL, hw]) rfl⟩
 ·simp at hb
  have hje : j = l.length := by omega
  rw [hje, List.take_length] at hno
  rw [ixP_none hno]
  refine wkc (jn @dI.eq_1 @dL.eq_1) ?_
  show retQ _ _ _ _ _
  exact ⟨.inr rfl, _, _, rfl, rfl⟩
theorem contains191 {p : X → Bool} (l : List X) (hl : l.length ≤ MX) (hq : ∀ v, v ∈ l → den Tryz.prog Ob.cfg 192 [aG v.cells] = some (dB (p v))) : den Tryz.prog Ob.cfg 191 [dL (encX l), .fn 192 []] = some (dB (l.any p)) := by
 have h := index195 l hl hq
 simp only [dL, dI] at h
 rw [← ixP_any]
 refine den_wp Tryz.func191 rfl (by kernel_rfl) rfl rfl ?_
 refine wk (jn @dL.eq_1 @h) ?_
 show retQ _ _ _ _ _
 exact ⟨.inr rfl, _, _, rfl, rfl⟩
/-- What object173 says. -/
def PFormAt (N : Nat) : Prop := ∀ x : X, x.sz < N → x.sz ≤ MX → den Tryz.prog Ob.cfg 173 [aG x.cells] = some (dB (formE x))
theorem not192 {N : Nat} (ih : PFormAt N) (x : X) (h : x.sz < N) (h' : x.sz ≤ MX) : den Tryz.prog Ob.cfg 192 [aG x.cells] = some (dB (!formE x)) := by
 have h := ih x h h'
 simp only [aG, X.cells_eq, List.map_cons, List.map_nil, dB] at h
 refine den_wp Tryz.func192 rfl (by kernel_rfl) rfl rfl ?_
 refine wk (jn @aG.eq_1 (jn @X.cells_eq @h)) ?_
 show retQ _ _ _ _ _
 exact ⟨.inr rfl, _, _, rfl, rfl⟩
theorem all_not {α : Type} (p : α → Bool) (l : List α) : (!(l.any fun v => !p v)) = l.all p := by induction l <;> simp_all

set_option maxHeartbeats 8000000 in
theorem object_1 {N : Nat} (ih : PFormAt N) (x : X) (hN : x.sz < N + 1) (hM : x.sz ≤ MX) (fke1 : x.k = 1) : den Tryz.prog Ob.cfg 173 [aG x.cells] = some (dB (formE x)) := by
 have hsz := X.sz_eq x
 have hlen := len_szX x.args
 have hc := contains191 (p := fun v => !formE v) x.args (by omega) fun v hv => not192 ih v (by have := mem_szX hv; omega) (by have := mem_szX hv; omega)
 simp only [dL, dB] at hc
 refine den_wp Tryz.func173 rfl (by kernel_rfl) rfl rfl ?_
 by_cases foe0 : x.o = 0
 ·have foe0_ := eq_true foe0
  by_cases fte0 : x.t = 0
  ·have fte0_ := eq_true fte0
   by_cases fve0 : x.v = 0
   ·have fve0_ := eq_true fve0
    by_cases fne0 : x.nm = []
    ·have fne0_ := eq_true fne0
     by_cases fae0 : x.args = []
     ·have fae0_ := eq_true fae0
      rw [show formE x = true by rw [formE_eq, formL_all]; unfold formN arE; simp [fke1, foe0, fte0, fve0, fne0, fae0]]
      refine wkc (jn @aG.eq_1 (jn @X.cells_eq (jn @int_beq (jn @int_bne (jn @tx_beq (jn @len0 (jn @encX_len (jn @fke1 (jn @foe0 (jn @fte0 (jn @fve0 (jn @fne0_ @fae0_)))))))))))) ?_
      show retQ _ _ _ _ _
      exact ⟨.inr rfl, _, _, rfl, rfl⟩
     ·have fae0_ := eq_false fae0
      rw [show formE x = false by rw [formE_eq, formL_all]; unfold formN arE; simp [fke1, foe0, fte0, fve0, fne0, fae0]]
      refine wkc (jn @aG.eq_1 (jn @X.cells_eq (jn @int_beq (jn @int_bne (jn @tx_beq (jn @len0 (jn @encX_len (jn @fke1 (jn @foe0 (jn @fte0 (jn @fve0 (jn @fne0_ @fae0_)))))))))))) ?_
      show retQ _ _ _ _ _
      exact ⟨.inr rfl, _, _, rfl, rfl⟩
    ·have fne0_ := eq_false fne0
     rw [show formE x = false by rw [formE_eq, formL_all]; unfold formN arE; simp [fke1, foe0, fte0, fve0, fne0]]
     refine wkc (jn @aG.eq_1 (jn @X.cells_eq (jn @int_beq (jn @int_bne (jn @tx_beq (jn @len0 (jn @encX_len (jn @fke1 (jn @foe0 (jn @fte0 (jn @fve0 @fne0_))))))))))) ?_
     show retQ _ _ _ _ _
     exact ⟨.inr rfl, _, _, rfl, rfl⟩
   ·have fve0_ := eq_false fve0
    by_cases fne0 : x.nm = []
    ·have fne0_ := eq_true fne0
     by_cases fae0 : x.args = []
     ·have fae0_ := eq_true fae0
      rw [show formE x = true by rw [formE_eq, formL_all]; unfold formN arE; simp [fke1, foe0, fte0, fve0, fne0, fae0]]
      refine wkc (jn @aG.eq_1 (jn @X.cells_eq (jn @int_beq (jn @int_bne (jn @tx_beq (jn @len0 (jn @encX_len (jn @fke1 (jn @foe0 (jn @fte0 (jn @fve0_ (jn @fne0_ @fae0_)))))))))))) ?_
      show retQ _ _ _ _ _
      exact ⟨.inr rfl, _, _, rfl, rfl⟩
     ·have fae0_ := eq_false fae0
      rw [show formE x = false by rw [formE_eq, formL_all]; unfold formN arE; simp [fke1, foe0, fte0, fve0, fne0, fae0]]
      refine wkc (jn @aG.eq_1 (jn @X.cells_eq (jn @int_beq (jn @int_bne (jn @tx_beq (jn @len0 (jn @encX_len (jn @fke1 (jn @foe0 (jn @fte0 (jn @fve0_ (jn @fne0_ @fae0_)))))))))))) ?_
      show retQ _ _ _ _ _
      exact ⟨.inr rfl, _, _, rfl, rfl⟩
    ·have fne0_ := eq_false fne0
     rw [show formE x = false by rw [formE_eq, formL_all]; unfold formN arE; simp [fke1, foe0, fte0, fve0, fne0]]
     refine wkc (jn @aG.eq_1 (jn @X.cells_eq (jn @int_beq (jn @int_bne (jn @tx_beq (jn @len0 (jn @encX_len (jn @fke1 (jn @foe0 (jn @fte0 (jn @fve0_ @fne0_))))))))))) ?_
     show retQ _ _ _ _ _
     exact ⟨.inr rfl, _, _, rfl, rfl⟩
  ·have fte0_ := eq_false fte0
   by_cases fne0 : x.nm = []
   ·have fne0_ := eq_true fne0
    by_cases fae0 : x.args = []
    ·have fae0_ := eq_true fae0
     rw [show formE x = true by rw [formE_eq, formL_all]; unfold formN arE; simp [fke1, foe0, fte0, fne0, fae0]]
     refine wkc (jn @aG.eq_1 (jn @X.cells_eq (jn @int_beq (jn @int_bne (jn @tx_beq (jn @len0 (jn @encX_len (jn @fke1 (jn @foe0 (jn @fte0_ (jn @fne0_ @fae0_))))))))))) ?_
     show retQ _ _ _ _ _
     exact ⟨.inr rfl, _, _, rfl, rfl⟩
    ·have fae0_ := eq_false fae0
     rw [show formE x = false by rw [formE_eq, formL_all]; unfold formN arE; simp [fke1, foe0, fte0, fne0, fae0]]
     refine wkc (jn @aG.eq_1 (jn @X.cells_eq (jn @int_beq (jn @int_bne (jn @tx_beq (jn @len0 (jn @encX_len (jn @fke1 (jn @foe0 (jn @fte0_ (jn @fne0_ @fae0_))))))))))) ?_
     show retQ _ _ _ _ _
     exact ⟨.inr rfl, _, _, rfl, rfl⟩
   ·have fne0_ := eq_false fne0
    rw [show formE x = false by rw [formE_eq, formL_all]; unfold formN arE; simp [fke1, foe0, fte0, fne0]]
    refine wkc (jn @aG.eq_1 (jn @X.cells_eq (jn @int_beq (jn @int_bne (jn @tx_beq (jn @len0 (jn @encX_len (jn @fke1 (jn @foe0 (jn @fte0_ @fne0_)))))))))) ?_
    show retQ _ _ _ _ _
    exact ⟨.inr rfl, _, _, rfl, rfl⟩
 ·have foe0_ := eq_false foe0
  rw [show formE x = false by rw [formE_eq, formL_all]; unfold formN arE; simp [fke1, foe0]]
  refine wkc (jn @aG.eq_1 (jn @X.cells_eq (jn @int_beq (jn @int_bne (jn @tx_beq (jn @len0 (jn @encX_len (jn @fke1 @foe0_)))))))) ?_
  show retQ _ _ _ _ _
  exact ⟨.inr rfl, _, _, rfl, rfl⟩

set_option maxHeartbeats 8000000 in
theorem object_2 {N : Nat} (ih : PFormAt N) (x : X) (hN : x.sz < N + 1) (hM : x.sz ≤ MX) (fke2 : x.k = 2) : den Tryz.prog Ob.cfg 173 [aG x.cells] = some (dB (formE x)) := by
 have hsz := X.sz_eq x
 have hlen := len_szX x.args
 have hc := contains191 (p := fun v => !formE v) x.args (by omega) fun v hv => not192 ih v (by have := mem_szX hv; omega) (by have := mem_szX hv; omega)
 simp only [dL, dB] at hc
 refine den_wp Tryz.func173 rfl (by kernel_rfl) rfl rfl ?_
 by_cases foe0 : x.o = 0
 ·have foe0_ := eq_true foe0
  by_cases fte0 : x.t = 0
  ·have fte0_ := eq_true fte0
   by_cases fve0 : x.v = 0
   ·have fve0_ := eq_true fve0
    by_cases fne0 : x.nm = []
    ·have fne0_ := eq_true fne0
     by_cases fae0 : x.args = []
     ·have fae0_ := eq_true fae0
      rw [show formE x = true by rw [formE_eq, formL_all]; unfold formN arE; simp [fke2, foe0, fte0, fve0, fne0, fae0]]
      refine wkc (jn @aG.eq_1 (jn @X.cells_eq (jn @int_beq (jn @int_bne (jn @tx_beq (jn @len0 (jn @encX_len (jn @fke2 (jn @foe0 (jn @fte0 (jn @fve0 (jn @fne0_ @fae0_)))))))))))) ?_
      show retQ _ _ _ _ _
      exact ⟨.inr rfl, _, _, rfl, rfl⟩
     ·have fae0_ := eq_false fae0
      rw [show formE x = false by rw [formE_eq, formL_all]; unfold formN arE; simp [fke2, foe0, fte0, fve0, fne0, fae0]]
      refine wkc (jn @aG.eq_1 (jn @X.cells_eq (jn @int_beq (jn @int_bne (jn @tx_beq (jn @len0 (jn @encX_len (jn @fke2 (jn @foe0 (jn @fte0 (jn @fve0 (jn @fne0_ @fae0_)))))))))))) ?_
      show retQ _ _ _ _ _
      exact ⟨.inr rfl, _, _, rfl, rfl⟩
    ·have fne0_ := eq_false fne0
     by_cases fae0 : x.args = []
     ·have fae0_ := eq_true fae0
      rw [show formE x = true by rw [formE_eq, formL_all]; unfold formN arE; simp [fke2, foe0, fte0, fve0, fne0, fae0]]
      refine wkc (jn @aG.eq_1 (jn @X.cells_eq (jn @int_beq (jn @int_bne (jn @tx_beq (jn @len0 (jn @encX_len (jn @fke2 (jn @foe0 (jn @fte0 (jn @fve0 (jn @fne0_ @fae0_)))))))))))) ?_
      show retQ _ _ _ _ _
      exact ⟨.inr rfl, _, _, rfl, rfl⟩
     ·have fae0_ := eq_false fae0
      rw [show formE x = false by rw [formE_eq, formL_all]; unfold formN arE; simp [fke2, foe0, fte0, fve0, fne0, fae0]]
      refine wkc (jn @aG.eq_1 (jn @X.cells_eq (jn @int_beq (jn @int_bne (jn @tx_beq (jn @len0 (jn @encX_len (jn @fke2 (jn @foe0 (jn @fte0 (jn @fve0 (jn @fne0_ @fae0_)))))))))))) ?_
      show retQ _ _ _ _ _
      exact ⟨.inr rfl, _, _, rfl, rfl⟩
   ·have fve0_ := eq_false fve0
    rw [show formE x = false by rw [formE_eq, formL_all]; unfold formN arE; simp [fke2, foe0, fte0, fve0]]
    refine wkc (jn @aG.eq_1 (jn @X.cells_eq (jn @int_beq (jn @int_bne (jn @tx_beq (jn @len0 (jn @encX_len (jn @fke2 (jn @foe0 (jn @fte0 @fve0_)))))))))) ?_
    show retQ _ _ _ _ _
    exact ⟨.inr rfl, _, _, rfl, rfl⟩
  ·have fte0_ := eq_false fte0
   rw [show formE x = false by rw [formE_eq, formL_all]; unfold formN arE; simp [fke2, foe0, fte0]]
   refine wkc (jn @aG.eq_1 (jn @X.cells_eq (jn @int_beq (jn @int_bne (jn @tx_beq (jn @len0 (jn @encX_len (jn @fke2 (jn @foe0 @fte0_))))))))) ?_
   show retQ _ _ _ _ _
   exact ⟨.inr rfl, _, _, rfl, rfl⟩
 ·have foe0_ := eq_false foe0
  rw [show formE x = false by rw [formE_eq, formL_all]; unfold formN arE; simp [fke2, foe0]]
  refine wkc (jn @aG.eq_1 (jn @X.cells_eq (jn @int_beq (jn @int_bne (jn @tx_beq (jn @len0 (jn @encX_len (jn @fke2 @foe0_)))))))) ?_
  show retQ _ _ _ _ _
  exact ⟨.inr rfl, _, _, rfl, rfl⟩

set_option maxHeartbeats 8000000 in
theorem object_12 {N : Nat} (ih : PFormAt N) (x : X) (hN : x.sz < N + 1) (hM : x.sz ≤ MX) (fke12 : x.k = 12) : den Tryz.prog Ob.cfg 173 [aG x.cells] = some (dB (formE x)) := by
 have hsz := X.sz_eq x
 have hlen := len_szX x.args
 have hc := contains191 (p := fun v => !formE v) x.args (by omega) fun v hv => not192 ih v (by have := mem_szX hv; omega) (by have := mem_szX hv; omega)
 simp only [dL, dB] at hc
 refine den_wp Tryz.func173 rfl (by kernel_rfl) rfl rfl ?_
 by_cases foe0 : x.o = 0
 ·have foe0_ := eq_true foe0
  by_cases fte0 : x.t = 0
  ·have fte0_ := eq_true fte0
   by_cases fve0 : x.v = 0
   ·have fve0_ := eq_true fve0
    by_cases fne0 : x.nm = []
    ·have fne0_ := eq_true fne0
     by_cases fae0 : x.args = []
     ·have fae0_ := eq_true fae0
      rw [show formE x = true by rw [formE_eq, formL_all]; unfold formN arE; simp [fke12, foe0, fte0, fve0, fne0, fae0]]
      refine wkc (jn @aG.eq_1 (jn @X.cells_eq (jn @int_beq (jn @int_bne (jn @tx_beq (jn @len0 (jn @encX_len (jn @fke12 (jn @foe0 (jn @fte0 (jn @fve0 (jn @fne0_ @fae0_)))))))))))) ?_
      show retQ _ _ _ _ _
      exact ⟨.inr rfl, _, _, rfl, rfl⟩
     ·have fae0_ := eq_false fae0
      rw [show formE x = false by rw [formE_eq, formL_all]; unfold formN arE; simp [fke12, foe0, fte0, fve0, fne0, fae0]]
      refine wkc (jn @aG.eq_1 (jn @X.cells_eq (jn @int_beq (jn @int_bne (jn @tx_beq (jn @len0 (jn @encX_len (jn @fke12 (jn @foe0 (jn @fte0 (jn @fve0 (jn @fne0_ @fae0_)))))))))))) ?_
      show retQ _ _ _ _ _
      exact ⟨.inr rfl, _, _, rfl, rfl⟩
    ·have fne0_ := eq_false fne0
     by_cases fae0 : x.args = []
     ·have fae0_ := eq_true fae0
      rw [show formE x = true by rw [formE_eq, formL_all]; unfold formN arE; simp [fke12, foe0, fte0, fve0, fne0, fae0]]
      refine wkc (jn @aG.eq_1 (jn @X.cells_eq (jn @int_beq (jn @int_bne (jn @tx_beq (jn @len0 (jn @encX_len (jn @fke12 (jn @foe0 (jn @fte0 (jn @fve0 (jn @fne0_ @fae0_)))))))))))) ?_
      show retQ _ _ _ _ _
      exact ⟨.inr rfl, _, _, rfl, rfl⟩
     ·have fae0_ := eq_false fae0
      rw [show formE x = false by rw [formE_eq, formL_all]; unfold formN arE; simp [fke12, foe0, fte0, fve0, fne0, fae0]]
      refine wkc (jn @aG.eq_1 (jn @X.cells_eq (jn @int_beq (jn @int_bne (jn @tx_beq (jn @len0 (jn @encX_len (jn @fke12 (jn @foe0 (jn @fte0 (jn @fve0 (jn @fne0_ @fae0_)))))))))))) ?_
      show retQ _ _ _ _ _
      exact ⟨.inr rfl, _, _, rfl, rfl⟩
   ·have fve0_ := eq_false fve0
    rw [show formE x = false by rw [formE_eq, formL_all]; unfold formN arE; simp [fke12, foe0, fte0, fve0]]
    refine wkc (jn @aG.eq_1 (jn @X.cells_eq (jn @int_beq (jn @int_bne (jn @tx_beq (jn @len0 (jn @encX_len (jn @fke12 (jn @foe0 (jn @fte0 @fve0_)))))))))) ?_
    show retQ _ _ _ _ _
    exact ⟨.inr rfl, _, _, rfl, rfl⟩
  ·have fte0_ := eq_false fte0
   rw [show formE x = false by rw [formE_eq, formL_all]; unfold formN arE; simp [fke12, foe0, fte0]]
   refine wkc (jn @aG.eq_1 (jn @X.cells_eq (jn @int_beq (jn @int_bne (jn @tx_beq (jn @len0 (jn @encX_len (jn @fke12 (jn @foe0 @fte0_))))))))) ?_
   show retQ _ _ _ _ _
   exact ⟨.inr rfl, _, _, rfl, rfl⟩
 ·have foe0_ := eq_false foe0
  rw [show formE x = false by rw [formE_eq, formL_all]; unfold formN arE; simp [fke12, foe0]]
  refine wkc (jn @aG.eq_1 (jn @X.cells_eq (jn @int_beq (jn @int_bne (jn @tx_beq (jn @len0 (jn @encX_len (jn @fke12 @foe0_)))))))) ?_
  show retQ _ _ _ _ _
  exact ⟨.inr rfl, _, _, rfl, rfl⟩

set_option maxHeartbeats 8000000 in
theorem object_3 {N : Nat} (ih : PFormAt N) (x : X) (hN : x.sz < N + 1) (hM : x.sz ≤ MX) (fke3 : x.k = 3) : den Tryz.prog Ob.cfg 173 [aG x.cells] = some (dB (formE x)) := by
 have hsz := X.sz_eq x
 have hlen := len_szX x.args
 have hc := contains191 (p := fun v => !formE v) x.args (by omega) fun v hv => not192 ih v (by have := mem_szX hv; omega) (by have := mem_szX hv; omega)
 simp only [dL, dB] at hc
 refine den_wp Tryz.func173 rfl (by kernel_rfl) rfl rfl ?_
 by_cases foe0 : x.o = 0
 ·have foe0_ := eq_true foe0
  by_cases fte0 : x.t = 0
  ·have fte0_ := eq_true fte0
   by_cases fve0 : x.v = 0
   ·have fve0_ := eq_true fve0
    by_cases fne0 : x.nm = []
    ·have fne0_ := eq_true fne0
     rw [show formE x = false by rw [formE_eq, formL_all]; unfold formN; simp [fke3, foe0, fte0, fve0, fne0, arE]]
     refine wkc (jn @aG.eq_1 (jn @X.cells_eq (jn @int_beq (jn @int_bne (jn @tx_beq (jn @len0 (jn @encX_len (jn @fke3 (jn @foe0 (jn @fte0 (jn @fve0 @fne0_))))))))))) ?_
     show retQ _ _ _ _ _
     exact ⟨.inr rfl, _, _, rfl, rfl⟩
    ·have fne0_ := eq_false fne0
     rw [show formE x = false by rw [formE_eq, formL_all]; unfold formN; simp [fke3, foe0, fte0, fve0, fne0, arE]]
     refine wkc (jn @aG.eq_1 (jn @X.cells_eq (jn @int_beq (jn @int_bne (jn @tx_beq (jn @len0 (jn @encX_len (jn @fke3 (jn @foe0 (jn @fte0 (jn @fve0 @fne0_))))))))))) ?_
     show retQ _ _ _ _ _
     exact ⟨.inr rfl, _, _, rfl, rfl⟩
   ·have fve0_ := eq_false fve0
    rw [show formE x = false by rw [formE_eq, formL_all]; unfold formN; simp [fke3, foe0, fte0, fve0, arE]]
    refine wkc (jn @aG.eq_1 (jn @X.cells_eq (jn @int_beq (jn @int_bne (jn @tx_beq (jn @len0 (jn @encX_len (jn @fke3 (jn @foe0 (jn @fte0 @fve0_)))))))))) ?_
    show retQ _ _ _ _ _
    exact ⟨.inr rfl, _, _, rfl, rfl⟩
  ·have fte0_ := eq_false fte0
   rw [show formE x = false by rw [formE_eq, formL_all]; unfold formN; simp [fke3, foe0, fte0, arE]]
   refine wkc (jn @aG.eq_1 (jn @X.cells_eq (jn @int_beq (jn @int_bne (jn @tx_beq (jn @len0 (jn @encX_len (jn @fke3 (jn @foe0 @fte0_))))))))) ?_
   show retQ _ _ _ _ _
   exact ⟨.inr rfl, _, _, rfl, rfl⟩
 ·have foe0_ := eq_false foe0
  by_cases foe1 : x.o = 1
  ·have foe1_ := eq_true foe1
   by_cases fae1 : (x.args.length : Int) = 1
   ·have fae1_ := eq_true fae1
    by_cases fte0 : x.t = 0
    ·have fte0_ := eq_true fte0
     by_cases fve0 : x.v = 0
     ·have fve0_ := eq_true fve0
      by_cases fne0 : x.nm = []
      ·have fne0_ := eq_true fne0
       rw [show formE x = !(x.args.any fun v => !formE v) by rw [all_not, formE_eq, formL_all]; unfold formN; simp [fke3, foe0, foe1, fae1, fte0, fve0, fne0, arE]]
       refine wkc (jn @aG.eq_1 (jn @X.cells_eq (jn @int_beq (jn @int_bne (jn @tx_beq (jn @len0 (jn @hc (jn @encX_len (jn @fke3 (jn @foe0_ (jn @foe1 (jn @fae1_ (jn @fte0 (jn @fve0 @fne0_)))))))))))))) ?_
       show retQ _ _ _ _ _
       exact ⟨.inr rfl, _, _, rfl, rfl⟩
      ·have fne0_ := eq_false fne0
       rw [show formE x = false by rw [formE_eq, formL_all]; unfold formN; simp [fke3, foe0, foe1, fae1, fte0, fve0, fne0, arE]]
       refine wkc (jn @aG.eq_1 (jn @X.cells_eq (jn @int_beq (jn @int_bne (jn @tx_beq (jn @len0 (jn @encX_len (jn @fke3 (jn @foe0_ (jn @foe1 (jn @fae1_ (jn @fte0 (jn @fve0 @fne0_))))))))))))) ?_
       show retQ _ _ _ _ _
       exact ⟨.inr rfl, _, _, rfl, rfl⟩
     ·have fve0_ := eq_false fve0
      rw [show formE x = false by rw [formE_eq, formL_all]; unfold formN; simp [fke3, foe0, foe1, fae1, fte0, fve0, arE]]
      refine wkc (jn @aG.eq_1 (jn @X.cells_eq (jn @int_beq (jn @int_bne (jn @tx_beq (jn @len0 (jn @encX_len (jn @fke3 (jn @foe0_ (jn @foe1 (jn @fae1_ (jn @fte0 @fve0_)))))))))))) ?_
      show retQ _ _ _ _ _
      exact ⟨.inr rfl, _, _, rfl, rfl⟩
    ·have fte0_ := eq_false fte0
     rw [show formE x = false by rw [formE_eq, formL_all]; unfold formN; simp [fke3, foe0, foe1, fae1, fte0, arE]]
     refine wkc (jn @aG.eq_1 (jn @X.cells_eq (jn @int_beq (jn @int_bne (jn @tx_beq (jn @len0 (jn @encX_len (jn @fke3 (jn @foe0_ (jn @foe1 (jn @fae1_ @fte0_))))))))))) ?_
     show retQ _ _ _ _ _
     exact ⟨.inr rfl, _, _, rfl, rfl⟩
   ·have fae1_ := eq_false fae1
    rw [show formE x = false by rw [formE_eq, formL_all]; unfold formN; simp [fke3, foe0, foe1, fae1, arE]; by_cases hq : x.t = 0 ∧ x.v = 0 ∧ x.nm = [] <;> simp [hq, fae1]]
    refine wkc (jn @aG.eq_1 (jn @X.cells_eq (jn @int_beq (jn @int_bne (jn @tx_beq (jn @len0 (jn @encX_len (jn @fke3 (jn @foe0_ (jn @foe1 @fae1_)))))))))) ?_
    show retQ _ _ _ _ _
    exact ⟨.inr rfl, _, _, rfl, rfl⟩
  ·have foe1_ := eq_false foe1
   by_cases foe2 : x.o = 2
   ·have foe2_ := eq_true foe2
    by_cases fae1 : (x.args.length : Int) = 1
    ·have fae1_ := eq_true fae1
     by_cases fte0 : x.t = 0
     ·have fte0_ := eq_true fte0
      by_cases fve0 : x.v = 0
      ·have fve0_ := eq_true fve0
       by_cases fne0 : x.nm = []
       ·have fne0_ := eq_true fne0
        rw [show formE x = !(x.args.any fun v => !formE v) by rw [all_not, formE_eq, formL_all]; unfold formN; simp [fke3, foe0, foe1, foe2, fae1, fte0, fve0, fne0, arE]]
        refine wkc (jn @aG.eq_1 (jn @X.cells_eq (jn @int_beq (jn @int_bne (jn @tx_beq (jn @len0 (jn @hc (jn @encX_len (jn @fke3 (jn @foe0_ (jn @foe1_ (jn @foe2 (jn @fae1_ (jn @fte0 (jn @fve0 @fne0_))))))))))))))) ?_
        show retQ _ _ _ _ _
        exact ⟨.inr rfl, _, _, rfl, rfl⟩
       ·have fne0_ := eq_false fne0
        rw [show formE x = false by rw [formE_eq, formL_all]; unfold formN; simp [fke3, foe0, foe1, foe2, fae1, fte0, fve0, fne0, arE]]
        refine wkc (jn @aG.eq_1 (jn @X.cells_eq (jn @int_beq (jn @int_bne (jn @tx_beq (jn @len0 (jn @encX_len (jn @fke3 (jn @foe0_ (jn @foe1_ (jn @foe2 (jn @fae1_ (jn @fte0 (jn @fve0 @fne0_)))))))))))))) ?_
        show retQ _ _ _ _ _
        exact ⟨.inr rfl, _, _, rfl, rfl⟩
      ·have fve0_ := eq_false fve0
       rw [show formE x = false by rw [formE_eq, formL_all]; unfold formN; simp [fke3, foe0, foe1, foe2, fae1, fte0, fve0, arE]]
       refine wkc (jn @aG.eq_1 (jn @X.cells_eq (jn @int_beq (jn @int_bne (jn @tx_beq (jn @len0 (jn @encX_len (jn @fke3 (jn @foe0_ (jn @foe1_ (jn @foe2 (jn @fae1_ (jn @fte0 @fve0_))))))))))))) ?_
       show retQ _ _ _ _ _
       exact ⟨.inr rfl, _, _, rfl, rfl⟩
     ·have fte0_ := eq_false fte0
      rw [show formE x = false by rw [formE_eq, formL_all]; unfold formN; simp [fke3, foe0, foe1, foe2, fae1, fte0, arE]]
      refine wkc (jn @aG.eq_1 (jn @X.cells_eq (jn @int_beq (jn @int_bne (jn @tx_beq (jn @len0 (jn @encX_len (jn @fke3 (jn @foe0_ (jn @foe1_ (jn @foe2 (jn @fae1_ @fte0_)))))))))))) ?_
      show retQ _ _ _ _ _
      exact ⟨.inr rfl, _, _, rfl, rfl⟩
    ·have fae1_ := eq_false fae1
     rw [show formE x = false by rw [formE_eq, formL_all]; unfold formN; simp [fke3, foe0, foe1, foe2, fae1, arE]; by_cases hq : x.t = 0 ∧ x.v = 0 ∧ x.nm = [] <;> simp [hq, fae1]]
     refine wkc (jn @aG.eq_1 (jn @X.cells_eq (jn @int_beq (jn @int_bne (jn @tx_beq (jn @len0 (jn @encX_len (jn @fke3 (jn @foe0_ (jn @foe1_ (jn @foe2 @fae1_))))))))))) ?_
     show retQ _ _ _ _ _
     exact ⟨.inr rfl, _, _, rfl, rfl⟩
   ·have foe2_ := eq_false foe2
    by_cases fol1 : x.o < 1
    ·have fol1_ := eq_true fol1
     have har : arE x.o = 0 := by unfold arE; rw [if_neg (by omega), if_neg (by omega)]
     rw [show formE x = false by rw [formE_eq, formL_all]; unfold formN; simp [fke3, foe0, foe1, foe2, fol1, har]]
     refine wkc (jn @aG.eq_1 (jn @X.cells_eq (jn @int_beq (jn @int_bne (jn @tx_beq (jn @len0 (jn @encX_len (jn @fke3 (jn @foe0_ (jn @foe1_ (jn @foe2_ @fol1_))))))))))) ?_
     show retQ _ _ _ _ _
     exact ⟨.inr rfl, _, _, rfl, rfl⟩
    ·have fol1_ := eq_false fol1
     by_cases fog16 : 16 < x.o
     ·have fog16_ := eq_true fog16
      have har : arE x.o = 0 := by unfold arE; rw [if_neg (by omega), if_neg (by omega)]
      rw [show formE x = false by rw [formE_eq, formL_all]; unfold formN; simp [fke3, foe0, foe1, foe2, fol1, fog16, har]]
      refine wkc (jn @aG.eq_1 (jn @X.cells_eq (jn @int_beq (jn @int_bne (jn @tx_beq (jn @len0 (jn @encX_len (jn @fke3 (jn @foe0_ (jn @foe1_ (jn @foe2_ (jn @fol1_ @fog16_)))))))))))) ?_
      show retQ _ _ _ _ _
      exact ⟨.inr rfl, _, _, rfl, rfl⟩
     ·have fog16_ := eq_false fog16
      by_cases fae2 : (x.args.length : Int) = 2
      ·have fae2_ := eq_true fae2
       by_cases fte0 : x.t = 0
       ·have fte0_ := eq_true fte0
        by_cases fve0 : x.v = 0
        ·have fve0_ := eq_true fve0
         by_cases fne0 : x.nm = []
         ·have fne0_ := eq_true fne0
          have har : arE x.o = 2 := by unfold arE; rw [if_neg (by omega), if_pos (by omega)]
          rw [show formE x = !(x.args.any fun v => !formE v) by rw [all_not, formE_eq, formL_all]; unfold formN; simp [fke3, foe0, foe1, foe2, fol1, fog16, fae2, fte0, fve0, fne0, har]]
          refine wkc (jn @aG.eq_1 (jn @X.cells_eq (jn @int_beq (jn @int_bne (jn @tx_beq (jn @len0 (jn @hc (jn @encX_len (jn @fke3 (jn @foe0_ (jn @foe1_ (jn @foe2_ (jn @fol1_ (jn @fog16_ (jn @fae2_ (jn @fte0 (jn @fve0 @fne0_))))))))))))))))) ?_
          show retQ _ _ _ _ _
          exact ⟨.inr rfl, _, _, rfl, rfl⟩
         ·have fne0_ := eq_false fne0
          have har : arE x.o = 2 := by unfold arE; rw [if_neg (by omega), if_pos (by omega)]
          rw [show formE x = false by rw [formE_eq, formL_all]; unfold formN; simp [fke3, foe0, foe1, foe2, fol1, fog16, fae2, fte0, fve0, fne0, har]]
          refine wkc (jn @aG.eq_1 (jn @X.cells_eq (jn @int_beq (jn @int_bne (jn @tx_beq (jn @len0 (jn @encX_len (jn @fke3 (jn @foe0_ (jn @foe1_ (jn @foe2_ (jn @fol1_ (jn @fog16_ (jn @fae2_ (jn @fte0 (jn @fve0 @fne0_)))))))))))))))) ?_
          show retQ _ _ _ _ _
          exact ⟨.inr rfl, _, _, rfl, rfl⟩
        ·have fve0_ := eq_false fve0
         have har : arE x.o = 2 := by unfold arE; rw [if_neg (by omega), if_pos (by omega)]
         rw [show formE x = false by rw [formE_eq, formL_all]; unfold formN; simp [fke3, foe0, foe1, foe2, fol1, fog16, fae2, fte0, fve0, har]]
         refine wkc (jn @aG.eq_1 (jn @X.cells_eq (jn @int_beq (jn @int_bne (jn @tx_beq (jn @len0 (jn @encX_len (jn @fke3 (jn @foe0_ (jn @foe1_ (jn @foe2_ (jn @fol1_ (jn @fog16_ (jn @fae2_ (jn @fte0 @fve0_))))))))))))))) ?_
         show retQ _ _ _ _ _
         exact ⟨.inr rfl, _, _, rfl, rfl⟩
       ·have fte0_ := eq_false fte0
        have har : arE x.o = 2 := by unfold arE; rw [if_neg (by omega), if_pos (by omega)]
        rw [show formE x = false by rw [formE_eq, formL_all]; unfold formN; simp [fke3, foe0, foe1, foe2, fol1, fog16, fae2, fte0, har]]
        refine wkc (jn @aG.eq_1 (jn @X.cells_eq (jn @int_beq (jn @int_bne (jn @tx_beq (jn @len0 (jn @encX_len (jn @fke3 (jn @foe0_ (jn @foe1_ (jn @foe2_ (jn @fol1_ (jn @fog16_ (jn @fae2_ @fte0_)))))))))))))) ?_
        show retQ _ _ _ _ _
        exact ⟨.inr rfl, _, _, rfl, rfl⟩
      ·have fae2_ := eq_false fae2
       have har : arE x.o = 2 := by unfold arE; rw [if_neg (by omega), if_pos (by omega)]
       rw [show formE x = false by rw [formE_eq, formL_all]; unfold formN; simp [fke3, foe0, foe1, foe2, fol1, fog16, fae2, har]; by_cases hq : x.t = 0 ∧ x.v = 0 ∧ x.nm = [] <;> simp [hq, fae2]]
       refine wkc (jn @aG.eq_1 (jn @X.cells_eq (jn @int_beq (jn @int_bne (jn @tx_beq (jn @len0 (jn @encX_len (jn @fke3 (jn @foe0_ (jn @foe1_ (jn @foe2_ (jn @fol1_ (jn @fog16_ @fae2_))))))))))))) ?_
       show retQ _ _ _ _ _
       exact ⟨.inr rfl, _, _, rfl, rfl⟩

set_option maxHeartbeats 8000000 in
theorem object_4 {N : Nat} (ih : PFormAt N) (x : X) (hN : x.sz < N + 1) (hM : x.sz ≤ MX) (fke4 : x.k = 4) : den Tryz.prog Ob.cfg 173 [aG x.cells] = some (dB (formE x)) := by
 have hsz := X.sz_eq x
 have hlen := len_szX x.args
 have hc := contains191 (p := fun v => !formE v) x.args (by omega) fun v hv => not192 ih v (by have := mem_szX hv; omega) (by have := mem_szX hv; omega)
 simp only [dL, dB] at hc
 refine den_wp Tryz.func173 rfl (by kernel_rfl) rfl rfl ?_
 by_cases foe0 : x.o = 0
 ·have foe0_ := eq_true foe0
  by_cases fte0 : x.t = 0
  ·have fte0_ := eq_true fte0
   by_cases fve0 : x.v = 0
   ·have fve0_ := eq_true fve0
    by_cases fne0 : x.nm = []
    ·have fne0_ := eq_true fne0
     by_cases fae3 : (x.args.length : Int) = 3
     ·have fae3_ := eq_true fae3
      rw [show formE x = !(x.args.any fun v => !formE v) by rw [all_not, formE_eq, formL_all]; unfold formN arE; simp [fke4, foe0, fte0, fve0, fne0, fae3]]
      refine wkc (jn @aG.eq_1 (jn @X.cells_eq (jn @int_beq (jn @int_bne (jn @tx_beq (jn @len0 (jn @hc (jn @encX_len (jn @fke4 (jn @foe0 (jn @fte0 (jn @fve0 (jn @fne0_ @fae3_))))))))))))) ?_
      show retQ _ _ _ _ _
      exact ⟨.inr rfl, _, _, rfl, rfl⟩
     ·have fae3_ := eq_false fae3
      rw [show formE x = false by rw [formE_eq, formL_all]; unfold formN arE; simp [fke4, foe0, fte0, fve0, fne0, fae3]]
      refine wkc (jn @aG.eq_1 (jn @X.cells_eq (jn @int_beq (jn @int_bne (jn @tx_beq (jn @len0 (jn @encX_len (jn @fke4 (jn @foe0 (jn @fte0 (jn @fve0 (jn @fne0_ @fae3_)))))))))))) ?_
      show retQ _ _ _ _ _
      exact ⟨.inr rfl, _, _, rfl, rfl⟩
    ·have fne0_ := eq_false fne0
     rw [show formE x = false by rw [formE_eq, formL_all]; unfold formN arE; simp [fke4, foe0, fte0, fve0, fne0]]
     refine wkc (jn @aG.eq_1 (jn @X.cells_eq (jn @int_beq (jn @int_bne (jn @tx_beq (jn @len0 (jn @encX_len (jn @fke4 (jn @foe0 (jn @fte0 (jn @fve0 @fne0_))))))))))) ?_
     show retQ _ _ _ _ _
     exact ⟨.inr rfl, _, _, rfl, rfl⟩
   ·have fve0_ := eq_false fve0
    rw [show formE x = false by rw [formE_eq, formL_all]; unfold formN arE; simp [fke4, foe0, fte0, fve0]]
    refine wkc (jn @aG.eq_1 (jn @X.cells_eq (jn @int_beq (jn @int_bne (jn @tx_beq (jn @len0 (jn @encX_len (jn @fke4 (jn @foe0 (jn @fte0 @fve0_)))))))))) ?_
    show retQ _ _ _ _ _
    exact ⟨.inr rfl, _, _, rfl, rfl⟩
  ·have fte0_ := eq_false fte0
   rw [show formE x = false by rw [formE_eq, formL_all]; unfold formN arE; simp [fke4, foe0, fte0]]
   refine wkc (jn @aG.eq_1 (jn @X.cells_eq (jn @int_beq (jn @int_bne (jn @tx_beq (jn @len0 (jn @encX_len (jn @fke4 (jn @foe0 @fte0_))))))))) ?_
   show retQ _ _ _ _ _
   exact ⟨.inr rfl, _, _, rfl, rfl⟩
 ·have foe0_ := eq_false foe0
  rw [show formE x = false by rw [formE_eq, formL_all]; unfold formN arE; simp [fke4, foe0]]
  refine wkc (jn @aG.eq_1 (jn @X.cells_eq (jn @int_beq (jn @int_bne (jn @tx_beq (jn @len0 (jn @encX_len (jn @fke4 @foe0_)))))))) ?_
  show retQ _ _ _ _ _
  exact ⟨.inr rfl, _, _, rfl, rfl⟩

set_option maxHeartbeats 8000000 in
theorem object_0 (x : X) (fke1 : ¬ x.k = 1) (fke2 : ¬ x.k = 2) (fke12 : ¬ x.k = 12) (fke3 : ¬ x.k = 3) (fke4 : ¬ x.k = 4) : den Tryz.prog Ob.cfg 173 [aG x.cells] = some (dB (formE x)) := by
 have fke1_ := eq_false fke1
 have fke2_ := eq_false fke2
 have fke12_ := eq_false fke12
 have fke3_ := eq_false fke3
 have fke4_ := eq_false fke4
 refine den_wp Tryz.func173 rfl (by kernel_rfl) rfl rfl ?_
 by_cases foe0 : x.o = 0
 ·have foe0_ := eq_true foe0
  by_cases fte0 : x.t = 0
  ·have fte0_ := eq_true fte0
   by_cases fve0 : x.v = 0
   ·have fve0_ := eq_true fve0
    by_cases fne0 : x.nm = []
    ·have fne0_ := eq_true fne0
     have hfn : formN x.k x.o x.t x.v x.nm = none := by unfold formN; simp [fke1, fke2, fke12, fke3, fke4]
     rw [formE_none hfn]
     refine wkc (jn @aG.eq_1 (jn @X.cells_eq (jn @int_beq (jn @int_bne (jn @tx_beq (jn @len0 (jn @encX_len (jn @fke1_ (jn @fke2_ (jn @fke12_ (jn @fke3_ (jn @fke4_ (jn @foe0 (jn @fte0 (jn @fve0 @fne0_))))))))))))))) ?_
     show retQ _ _ _ _ _
     exact ⟨.inr rfl, _, _, rfl, rfl⟩
    ·have fne0_ := eq_false fne0
     have hfn : formN x.k x.o x.t x.v x.nm = none := by unfold formN; simp [fke1, fke2, fke12, fke3, fke4]
     rw [formE_none hfn]
     refine wkc (jn @aG.eq_1 (jn @X.cells_eq (jn @int_beq (jn @int_bne (jn @tx_beq (jn @len0 (jn @encX_len (jn @fke1_ (jn @fke2_ (jn @fke12_ (jn @fke3_ (jn @fke4_ (jn @foe0 (jn @fte0 (jn @fve0 @fne0_))))))))))))))) ?_
     show retQ _ _ _ _ _
     exact ⟨.inr rfl, _, _, rfl, rfl⟩
   ·have fve0_ := eq_false fve0
    have hfn : formN x.k x.o x.t x.v x.nm = none := by unfold formN; simp [fke1, fke2, fke12, fke3, fke4]
    rw [formE_none hfn]
    refine wkc (jn @aG.eq_1 (jn @X.cells_eq (jn @int_beq (jn @int_bne (jn @tx_beq (jn @len0 (jn @encX_len (jn @fke1_ (jn @fke2_ (jn @fke12_ (jn @fke3_ (jn @fke4_ (jn @foe0 (jn @fte0 @fve0_)))))))))))))) ?_
    show retQ _ _ _ _ _
    exact ⟨.inr rfl, _, _, rfl, rfl⟩
  ·have fte0_ := eq_false fte0
   have hfn : formN x.k x.o x.t x.v x.nm = none := by unfold formN; simp [fke1, fke2, fke12, fke3, fke4]
   rw [formE_none hfn]
   refine wkc (jn @aG.eq_1 (jn @X.cells_eq (jn @int_beq (jn @int_bne (jn @tx_beq (jn @len0 (jn @encX_len (jn @fke1_ (jn @fke2_ (jn @fke12_ (jn @fke3_ (jn @fke4_ (jn @foe0 @fte0_))))))))))))) ?_
   show retQ _ _ _ _ _
   exact ⟨.inr rfl, _, _, rfl, rfl⟩
 ·have foe0_ := eq_false foe0
  have hfn : formN x.k x.o x.t x.v x.nm = none := by unfold formN; simp [fke1, fke2, fke12, fke3, fke4]
  rw [formE_none hfn]
  refine wkc (jn @aG.eq_1 (jn @X.cells_eq (jn @int_beq (jn @int_bne (jn @tx_beq (jn @len0 (jn @encX_len (jn @fke1_ (jn @fke2_ (jn @fke12_ (jn @fke3_ (jn @fke4_ @foe0_)))))))))))) ?_
  show retQ _ _ _ _ _
  exact ⟨.inr rfl, _, _, rfl, rfl⟩

theorem object173 : ∀ N, PFormAt N := by
 intro N
 induction N with
 | zero => intro x h; omega
 | succ N ih =>
 intro x hN hM
 by_cases k1 : x.k = 1
 ·exact object_1 ih x hN hM k1
 by_cases k2 : x.k = 2
 ·exact object_2 ih x hN hM k2
 by_cases k12 : x.k = 12
 ·exact object_12 ih x hN hM k12
 by_cases k3 : x.k = 3
 ·exact object_3 ih x hN hM k3
 by_cases k4 : x.k = 4
 ·exact object_4 ih x hN hM k4
 exact object_0 x k1 k2 k12 k3 k4
end Go.Ac
end

section
set_option maxRecDepth 4000
namespace Go.Ac
open Go.Proofs
/-! ### Names that follow one another -/
theorem of_1_1 (n : Nat) : n + 1 + 1 = n + 2 := rfl
theorem of_1_2 (n : Nat) : n + 1 + 2 = n + 3 := rfl
theorem of_1_3 (n : Nat) : n + 1 + 3 = n + 4 := rfl
theorem of_2_1 (n : Nat) : n + 2 + 1 = n + 3 := rfl
theorem of_2_2 (n : Nat) : n + 2 + 2 = n + 4 := rfl
theorem of_2_3 (n : Nat) : n + 2 + 3 = n + 5 := rfl
theorem of_3_1 (n : Nat) : n + 3 + 1 = n + 4 := rfl
theorem of_3_2 (n : Nat) : n + 3 + 2 = n + 5 := rfl
theorem of_3_3 (n : Nat) : n + 3 + 3 = n + 6 := rfl
theorem of_4_1 (n : Nat) : n + 4 + 1 = n + 5 := rfl
theorem of_4_2 (n : Nat) : n + 4 + 2 = n + 6 := rfl
theorem of_4_3 (n : Nat) : n + 4 + 3 = n + 7 := rfl
theorem of_5_1 (n : Nat) : n + 5 + 1 = n + 6 := rfl
theorem of_5_2 (n : Nat) : n + 5 + 2 = n + 7 := rfl
theorem of_5_3 (n : Nat) : n + 5 + 3 = n + 8 := rfl
theorem of_6_1 (n : Nat) : n + 6 + 1 = n + 7 := rfl
theorem of_6_2 (n : Nat) : n + 6 + 2 = n + 8 := rfl
theorem of_6_3 (n : Nat) : n + 6 + 3 = n + 9 := rfl
theorem of_7_1 (n : Nat) : n + 7 + 1 = n + 8 := rfl
theorem of_7_2 (n : Nat) : n + 7 + 2 = n + 9 := rfl
theorem of_7_3 (n : Nat) : n + 7 + 3 = n + 10 := rfl
theorem of_8_1 (n : Nat) : n + 8 + 1 = n + 9 := rfl
theorem of_8_2 (n : Nat) : n + 8 + 2 = n + 10 := rfl
theorem of_8_3 (n : Nat) : n + 8 + 3 = n + 11 := rfl
theorem of_9_1 (n : Nat) : n + 9 + 1 = n + 10 := rfl
theorem of_9_2 (n : Nat) : n + 9 + 2 = n + 11 := rfl
theorem of_9_3 (n : Nat) : n + 9 + 3 = n + 12 := rfl
theorem of_lt1 (n : Nat) : (n + 1 < n) = False := eq_false (by omega)
theorem of_lt2 (n : Nat) : (n + 2 < n) = False := eq_false (by omega)
theorem of_lt3 (n : Nat) : (n + 3 < n) = False := eq_false (by omega)
theorem of_lt4 (n : Nat) : (n + 4 < n) = False := eq_false (by omega)
theorem of_lt5 (n : Nat) : (n + 5 < n) = False := eq_false (by omega)
theorem of_lt6 (n : Nat) : (n + 6 < n) = False := eq_false (by omega)
theorem of_lt7 (n : Nat) : (n + 7 < n) = False := eq_false (by omega)
theorem of_lt8 (n : Nat) : (n + 8 < n) = False := eq_false (by omega)
theorem of_lt9 (n : Nat) : (n + 9 < n) = False := eq_false (by omega)
attribute [simp] of_1_1 of_1_2 of_1_3 of_2_1 of_2_2 of_2_3 of_3_1 of_3_2 of_3_3 of_4_1 of_4_2 of_4_3 of_5_1 of_5_2 of_5_3 of_6_1 of_6_2 of_6_3 of_7_1 of_7_2 of_7_3 of_8_1 of_8_2 of_8_3 of_9_1 of_9_2 of_9_3 of_lt1 of_lt2 of_lt3 of_lt4 of_lt5 of_lt6 of_lt7 of_lt8 of_lt9
/-! ### Maps -/
/-- The value under a name. -/
def mget {α : Type} (l : List (Tx × α)) (x : Tx) : Option α := (l.find? (fun p => decide (p.1 = x))).map (·.2)
/-- A map, as the machine keeps it. -/
def mpC {α : Type} (e : α → V) (l : List (Tx × α)) : V := .mpc (l.map fun p => .str p.1) (l.map fun p => e p.2) (List.range l.length) l.length
theorem findV_mp {α : Type} (x : Tx) : ∀ (l : List (Tx × α)) (j : Nat), findV (.str x) (l.map fun p => D.str p.1) j = some ((l.findIdx? (fun p => decide (p.1 = x))).map (j + ·))
 | [], j => rfl
 | p :: r, j => by
  have ih := findV_mp x r (j + 1)
  simp only [List.map_cons, findV, keyEq, List.findIdx?_cons]
  by_cases h : p.1 = x
  ·have : (x == p.1) = true := by simp [h]
   rw [this, if_pos (by simp [h])]; rfl
  ·have : (x == p.1) = false := by simp; exact fun e => h e.symm
   rw [this, if_neg (by simp [h])]
   simp only [ih, Option.map_map]
   congr 2
   funext i; simp; omega
theorem mget_idx {α : Type} (x : Tx) : ∀ (l : List (Tx × α)), (match l.findIdx? (fun p => decide (p.1 = x)) with | some i => (l[i]?).map (·.2) | none => none) = mget l x
 | [] => rfl
 | p :: r => by
  have ih := mget_idx x r
  unfold mget at *
  simp only [List.findIdx?_cons, List.find?_cons]
  by_cases h : p.1 = x
  ·simp [h]
  ·simp only [h, decide_false, if_false, Bool.false_eq_true]
   rw [← ih]
   cases List.findIdx? (fun p => decide (p.1 = x)) r with
   | none => rfl
   | some i => simp
theorem lookup_mp {α : Type} (e : α → V) (l : List (Tx × α)) {id g : Nat} {ro ok : Bool} {z : V} {sz by_ : Nat} {zr : Option (List V)} {look : Look} {x : Tx} (h : look id = some ⟨g, ro, [mpC e l]⟩) :
  lookupV look ⟨.str, sz, by_, zr⟩ (some z) (.mp id g) (.d (.str x)) ok = some ⟨lookRes ok (match mget l x with | some v => e v | none => z) (mget l x).isSome, [], [id], 0, 0, false⟩ := by
 unfold lookupV
 have hl : live look id g = some ⟨g, ro, [mpC e l]⟩ := by unfold live; rw [h]; simp
 simp only [keyOK, hl, mpC, findV_mp]
 rw [← mget_idx]
 cases hf : List.findIdx? (fun p => decide (p.1 = x)) l with
 | none => rfl
 | some i =>
  have hi : i < l.length := (List.findIdx?_eq_some_iff_getElem.1 hf).1
  simp only [Option.map_some, Nat.zero_add, List.getElem?_map, List.getElem?_eq_getElem hi, Option.map_some]
  rfl
theorem zt3 : zeroT Tryz.prog 3 = some (.d (.int .i64 0)) := by kernel_rfl
theorem zt4 : zeroT Tryz.prog 4 = some (.d (.bool false)) := by kernel_rfl
theorem zt36 : zeroT Tryz.prog 36 = some (.agg [.d (.str []), .full [], .full [], .full [], .full [], .full [], .full []]) := by kernel_rfl

/-! ### Calls for all memories that agree with one -/
theorem lim_fn {P : Program} {cfg : Cfg} {f : FuncId} {vs : List V} {v : V} {C : Hp → Nat → Prop} (h : ∀ hp n c, C hp n → QuietV P cfg f vs hp n c v) :
  ∃ (F : Hp → Nat → Nat → Hp) (G : Hp → Nat → Nat → Nat), ∀ hp n c, C hp n → lim P cfg f vs hp n c = some ⟨v, F hp n c, n, G hp n c, []⟩ := by
 classical
 refine ⟨fun hp n c => if hc : C hp n then Classical.choose (h hp n c hc) else [], fun hp n c => if hc : C hp n then Classical.choose (Classical.choose_spec (h hp n c hc)) else 0, fun hp n c hc => ?_⟩
 simp only [dif_pos hc]
 exact Classical.choose_spec (Classical.choose_spec (h hp n c hc))
theorem Ag_set {n k : Nat} {hp hp' : Hp} {o : Ob} (h : n ≤ k) : Ag n hp (hp'.set k o) = Ag n hp hp' := by
 refine propext ⟨fun a id hi => ?_, fun a id hi => ?_⟩
 ·have := a id hi; rwa [Hp.get_set_ne _ _ _ _ (by omega)] at this
 ·rw [Hp.get_set_ne _ _ _ _ (by omega)]; exact a id hi
theorem Ag_trunc {n k : Nat} {hp hp' : Hp} (h : n ≤ k) : Ag n hp (Hp.trunc k hp') = Ag n hp hp' := by
 refine propext ⟨fun a id hi => ?_, fun a id hi => ?_⟩
 ·have := a id hi; rwa [Hp.get_trunc _ _ _ (by omega)] at this
 ·rw [Hp.get_trunc _ _ _ (by omega)]; exact a id hi
theorem get_trunc_lt {k id : Nat} {hp : Hp} (h : id < k) : (Hp.trunc k hp).get id = hp.get id := Hp.get_trunc _ _ _ h
theorem Ag_refl (n : Nat) (hp : Hp) : Ag n hp hp = True := eq_true (Ag.refl n hp)
theorem Hp.get_set (h : Hp) (k t : Nat) (o : Ob) : (Hp.set h k o).get t = if k = t then some o else h.get t := by
 split
 ·rename_i hk; subst hk; exact Hp.get_set_self ..
 ·rename_i hk; exact Hp.get_set_ne _ _ _ _ hk
/-- New names are none of the old. -/
theorem nf {n id : Nat} (h : id < n) : (n = id) = False ∧ (n + 1 = id) = False ∧ (n + 2 = id) = False ∧ (n + 3 = id) = False ∧ (n + 4 = id) = False ∧ (n + 5 = id) = False ∧ (n + 6 = id) = False ∧ (n + 7 = id) = False := by
 refine ⟨?_, ?_, ?_, ?_, ?_, ?_, ?_, ?_⟩ <;> exact eq_false (by omega)
/-- A memory in which a class object lies. -/
structure KAt (ic gc iv gv ip gp im gm ii gi : Nat) (o : Oc) (ea : List Cl) (c : Cl) (hp : Hp) (n : Nat) : Prop where
 co : hp.get ic = some ⟨gc, false, [V.d (.slice (encE o.en)), V.d (.slice (encC ea)), V.d (.str c.nm), V.d (.slice (encD c.inn)), V.d (.slice (encD c.out)), V.d (.slice (encD c.loc)), V.d (.slice (encM c.mems)), V.d (.slice (encJ c.ins)), V.d (.slice (encY c.step)), .mp iv gv, .mp ip gp, .mp im gm, .mp ii gi]⟩
 vars : ∃ l, hp.get iv = some ⟨gv, false, [mpC (fun t : Int => V.d (.int .i64 t)) l]⟩ ∧ ∀ x, mget l x = if getT c x = 0 then none else some (getT c x)
 ports : ∃ l, hp.get ip = some ⟨gp, false, [mpC (fun b : Bool => V.d (.bool b)) l]⟩ ∧ ∀ x, mget l x = if setT c x = 0 then none else some true
 mems : ∃ l, hp.get im = some ⟨gm, false, [mpC (fun t : Int => V.d (.int .i64 t)) l]⟩ ∧ ∀ x, mget l x = if findM c.mems x = 0 then none else some (findM c.mems x)
 ins : ∃ l, hp.get ii = some ⟨gi, false, [mpC (fun k : Cl => aG k.cells) l]⟩ ∧ ∀ x, mget l x = if (findI c.ins o.cl x).2 = true then some (findI c.ins o.cl x).1 else none
 lc : ic < n
 lv : iv < n
 lp : ip < n
 lm : im < n
 li : ii < n
theorem KAt.ag {ic gc iv gv ip gp im gm ii gi : Nat} {o : Oc} {ea : List Cl} {c : Cl} {hp hp' : Hp} {n n' : Nat} (h : KAt ic gc iv gv ip gp im gm ii gi o ea c hp n) (ha : Ag n hp hp') (hn : n ≤ n') : KAt ic gc iv gv ip gp im gm ii gi o ea c hp' n' := by
 obtain ⟨h1, h2, h3, h4, h5, l1, l2, l3, l4, l5⟩ := h
 rw [← ha _ l1] at h1
 rw [← ha _ l2] at h2
 rw [← ha _ l3] at h3
 rw [← ha _ l4] at h4
 rw [← ha _ l5] at h5
 exact ⟨h1, h2, h3, h4, h5, by omega, by omega, by omega, by omega, by omega⟩
/-- A call that is quiet wherever the class object lies. -/
def QK (ic gc iv gv ip gp im gm ii gi : Nat) (o : Oc) (ea : List Cl) (c : Cl) (f : FuncId) (vs : List V) (v : V) : Prop := ∀ hp n cc, KAt ic gc iv gv ip gp im gm ii gi o ea c hp n → QuietV Tryz.prog Ob.cfg f vs hp n cc v
section
variable {ic gc iv gv ip gp im gm ii gi : Nat} {o : Oc} {ea : List Cl} {c : Cl} {hp : Hp} {n : Nat}
theorem QK.fn {f : FuncId} {vs : List V} {v : V} (h : QK ic gc iv gv ip gp im gm ii gi o ea c f vs v) (hK : KAt ic gc iv gv ip gp im gm ii gi o ea c hp n) :
  ∃ (F : Hp → Nat → Nat → Hp) (G : Hp → Nat → Nat → Nat), ∀ hp' n' cc, Ag n hp hp' → n ≤ n' → lim Tryz.prog Ob.cfg f vs hp' n' cc = some ⟨v, F hp' n' cc, n', G hp' n' cc, []⟩ := by
 obtain ⟨F, G, h1⟩ := lim_fn (C := fun hp' n' => Ag n hp hp' ∧ n ≤ n') (P := Tryz.prog) (cfg := Ob.cfg) (f := f) (vs := vs) (v := v) (fun hp' n' cc ha => h hp' n' cc (hK.ag ha.1 ha.2))
 exact ⟨F, G, fun hp' n' cc a b => h1 hp' n' cc ⟨a, b⟩⟩
theorem KAt.look_vars (hK : KAt ic gc iv gv ip gp im gm ii gi o ea c hp n) {look : Look} {sz by_ : Nat} {zr : Option (List V)} {x : Tx} (h : look iv = hp.get iv) :
  lookupV look ⟨.str, sz, by_, zr⟩ (some (.d (.int .i64 0))) (.mp iv gv) (.d (.str x)) true = some ⟨.tuple [.d (.int .i64 (getT c x)), .d (.bool (decide (getT c x ≠ 0)))], [], [iv], 0, 0, false⟩ := by
 obtain ⟨l, h1, h2⟩ := hK.vars
 rw [lookup_mp _ l (h.trans h1), h2]
 by_cases q : getT c x = 0
 ·simp [q, lookRes]
 ·simp [q, lookRes]
theorem KAt.look_vars1 (hK : KAt ic gc iv gv ip gp im gm ii gi o ea c hp n) {look : Look} {sz by_ : Nat} {zr : Option (List V)} {x : Tx} (h : look iv = hp.get iv) :
  lookupV look ⟨.str, sz, by_, zr⟩ (some (.d (.int .i64 0))) (.mp iv gv) (.d (.str x)) false = some ⟨.d (.int .i64 (getT c x)), [], [iv], 0, 0, false⟩ := by
 obtain ⟨l, h1, h2⟩ := hK.vars
 rw [lookup_mp _ l (h.trans h1), h2]
 by_cases q : getT c x = 0
 ·simp [q, lookRes]
 ·simp [q, lookRes]
theorem KAt.look_ports (hK : KAt ic gc iv gv ip gp im gm ii gi o ea c hp n) {look : Look} {sz by_ : Nat} {zr : Option (List V)} {x : Tx} (h : look ip = hp.get ip) :
  lookupV look ⟨.str, sz, by_, zr⟩ (some (.d (.bool false))) (.mp ip gp) (.d (.str x)) false = some ⟨.d (.bool (decide (setT c x ≠ 0))), [], [ip], 0, 0, false⟩ := by
 obtain ⟨l, h1, h2⟩ := hK.ports
 rw [lookup_mp _ l (h.trans h1), h2]
 by_cases q : setT c x = 0
 ·simp [q, lookRes]
 ·simp [q, lookRes]
theorem KAt.look_mems (hK : KAt ic gc iv gv ip gp im gm ii gi o ea c hp n) {look : Look} {sz by_ : Nat} {zr : Option (List V)} {x : Tx} (h : look im = hp.get im) :
  lookupV look ⟨.str, sz, by_, zr⟩ (some (.d (.int .i64 0))) (.mp im gm) (.d (.str x)) true = some ⟨.tuple [.d (.int .i64 (findM c.mems x)), .d (.bool (decide (findM c.mems x ≠ 0)))], [], [im], 0, 0, false⟩ := by
 obtain ⟨l, h1, h2⟩ := hK.mems
 rw [lookup_mp _ l (h.trans h1), h2]
 by_cases q : findM c.mems x = 0
 ·simp [q, lookRes]
 ·simp [q, lookRes]
/-- The cells of a class that is found; else zeros. -/
def foundC (k : Cl × Bool) : V := match k with | (d, true) => aG d.cells | (_, false) => .agg [.d (.str []), .full [], .full [], .full [], .full [], .full [], .full []]
theorem KAt.look_ins (hK : KAt ic gc iv gv ip gp im gm ii gi o ea c hp n) {look : Look} {sz by_ : Nat} {zr : Option (List V)} {x : Tx} (h : look ii = hp.get ii) :
  lookupV look ⟨.str, sz, by_, zr⟩ (some (.agg [.d (.str []), .full [], .full [], .full [], .full [], .full [], .full []])) (.mp ii gi) (.d (.str x)) true = some ⟨.tuple [foundC (findI c.ins o.cl x), .d (.bool (findI c.ins o.cl x).2)], [], [ii], 0, 0, false⟩ := by
 obtain ⟨l, h1, h2⟩ := hK.ins
 rw [lookup_mp _ l (h.trans h1), h2]
 cases q : findI c.ins o.cl x with
 | mk d b => cases b <;> simp [q, lookRes, foundC]
/-- What the walks want of the types of a class. -/
structure KW (o : Oc) (c : Cl) : Prop where
 inn : ∀ x, c.inn.any (fun d => decide (d.nm = x)) = decide (findD c.inn x ≠ 0)
 set : ∀ x, setT c x ≠ 0 → getT c x = setT c x
 i64 : ∀ x, I64 (getT c x)
 linn : c.inn.length ≤ MX
end

theorem kf190 (r : Nat) : Ob.keep 190 r = Ob.k190 r := by kernel_rfl
theorem kf171 (r : Nat) : Ob.keep 171 r = Ob.k171 r := by kernel_rfl
attribute [local simp] kf190 Ob.k190 kf171 Ob.k171
theorem index190 {i1 g1 : Nat} {p : Dc → Bool} (l : List (Dc)) (hl : l.length ≤ MX) (hp : Hp) (n : Nat) (hq : ∀ v, v ∈ l → ∀ hp' c, Ag n hp hp' → Quiet Tryz.prog Ob.cfg 172 [aG v.cells, .ptr i1 g1 0] hp' n c (.bool (p v))) (c : Nat) :
  Quiet Tryz.prog Ob.cfg 190 [dL (encD l), .fn 172 [.ptr i1 g1 0]] hp n c (.int .i64 (ixP p l)) := by
 unfold MX at hl
 refine quiet_wp Tryz.func190 rfl (by kernel_rfl) rfl ?_
 refine wkv (jn @envOf.eq_1 (jn @envOf.eq_2 (jn @dL.eq_1 @encD_len))) ?_
 apply WP.loop' (I := fun d s => ∃ i : Nat, i + d = l.length ∧ (l.take i).all (fun v => !p v) = true ∧ SQ [(0, dL (encD l)), (1, .fn 172 [.ptr i1 g1 0]), (7, dI l.length), (8, dI i)] hp n n s) (d := l.length)
 ·exact ⟨0, by simp, by simp, _, _, Ag.refl n hp, st_eq (by simp [dL, dI]) rfl⟩
 rintro d _ ⟨i, hii, hno, hp', c1, hag, rfl⟩
 refine wkv (jn @dI.eq_1 @dL.eq_1) ?_
 show WP _ _ _ _ _ _
 refine WP.cond _ rfl (fun hb => ?_) (fun hb => ?_)
 ·simp at hb
  have hb' : i < l.length := hb
  obtain ⟨v, hv, hvm, hix⟩ := at_lt hb'
  have hv' := encD_at hv
  have hw := w_succ hb' (by omega)
  have hts := all_snoc (p := fun v => !p v) hv
  obtain ⟨h5, h6, h4⟩ := Quiet.fn (fun c => hq v hvm hp' c hag)
  simp only [aG, dL, dI, Dc.cells, List.map_cons, List.map_nil] at h4
  refine wkv (jn @hix (jn @hv' (jn @dL.eq_1 (jn @dI.eq_1 (jn @Dc.cells.eq_1 @h4))))) ?_
  show WP _ _ _ _ _ _
  refine WP.cond _ rfl (fun hb => ?_) (fun hb => ?_)
  ·refine wkv True.intro ?_
   rw [ixP_some hno hv hb]
   exact ⟨.inr rfl, rfl, _, rfl, rfl⟩
  ·refine wkv True.intro ?_
   refine loop_next (by simp [hw]; exact Is.rfl) ?_
   exact ⟨d - 1, by omega, i + 1, by omega, by rw [hts, hno]; simpa using hb, _, _, hag.trunc, st_eq (by simp [dI, dL, hw]) rfl⟩
 ·simp at hb
  have hil : i = l.length := by omega
  subst hil
  rw [List.take_length] at hno
  refine wkv True.intro ?_
  rw [ixP_none hno]
  exact ⟨.inr rfl, rfl, _, rfl, rfl⟩
theorem contains171 {i1 g1 : Nat} {p : Dc → Bool} (l : List (Dc)) (hl : l.length ≤ MX) (hp : Hp) (n : Nat) (hq : ∀ v, v ∈ l → ∀ hp' c, Ag n hp hp' → Quiet Tryz.prog Ob.cfg 172 [aG v.cells, .ptr i1 g1 0] hp' n c (.bool (p v))) (c : Nat) :
  Quiet Tryz.prog Ob.cfg 171 [dL (encD l), .fn 172 [.ptr i1 g1 0]] hp n c (.bool (l.any p)) := by
 obtain ⟨h5, h6, h4⟩ := Quiet.fn (fun c => index190 (p := p) l hl hp n hq c)
 simp only [dL] at h4
 rw [← ixP_any]
 refine quiet_wp Tryz.func171 rfl (by kernel_rfl) rfl ?_
 refine wkv (jn @envOf.eq_1 (jn @envOf.eq_2 (jn @dL.eq_1 @h4))) ?_
 exact ⟨.inr rfl, rfl, _, rfl, rfl⟩

theorem kf172 (r : Nat) : Ob.keep 172 r = Ob.k172 r := by kernel_rfl
theorem kf151 (r : Nat) : Ob.keep 151 r = Ob.k151 r := by kernel_rfl
attribute [local simp] kf172 Ob.k172 kf151 Ob.k151
theorem ready172 {nm : Tx} {i1 g1 : Nat} (d : Dc) (hp : Hp) (n c : Nat) (h1 : hp.get i1 = some ⟨g1, false, [dS nm]⟩) (l1 : i1 < n) : Quiet Tryz.prog Ob.cfg 172 [aG d.cells, .ptr i1 g1 0] hp n c (.bool (decide (d.nm = nm))) := by
 have ne := nf l1
 simp only [dS] at h1
 refine quiet_wp Tryz.func172 rfl (by kernel_rfl) rfl ?_
 refine wkv (jn @envOf.eq_1 (jn @envOf.eq_2 (jn @aG.eq_1 (jn @Dc.cells.eq_1 (jn @Hp.get_set (jn @ne (jn @h1 @tx_beq))))))) ?_
 exact ⟨.inr rfl, rfl, _, rfl, rfl⟩
section
variable {ic gc iv gv ip gp im gm ii gi : Nat} {o : Oc} {ea : List Cl} {c : Cl}
set_option maxHeartbeats 1000000 in
theorem ready151 (hW : KW o c) (nm : Tx) (cx : List Pr) (bl : List (List Y)) (hl : bl.length ≤ MX) (hnb : nbB bl = true) (hb : cx.length + szY bl.flatten ≤ 8388608) :
  QK ic gc iv gv ip gp im gm ii gi o ea c 151 [.ptr ic gc 0, dS nm, pP cx bl] (dI (if readyW ⟨o, c, bl.flatten, cx⟩ nm then 0 else 22)) := by
 intro hp n cc hK
 have hco := hK.co
 have nc := nf hK.lc
 have ha := assigned71 nm false cx bl hl hnb hb
 obtain ⟨F, G, hF⟩ := lim_fn (C := fun hp' n' => hp'.get n = some ⟨cc, false, [dS nm]⟩ ∧ n < n') (P := Tryz.prog) (cfg := Ob.cfg) (f := 171) (vs := [dL (encD c.inn), .fn 172 [.ptr n cc 0]]) (v := .d (.bool (c.inn.any fun d => decide (d.nm = nm))))
  (fun hp' n' c' hC => contains171 (p := fun d => decide (d.nm = nm)) c.inn hW.linn hp' n' (fun v hv hp'' c'' hag => ready172 v hp'' n' c'' ((hag n hC.2).trans hC.1) hC.2) c')
 have hF' := fun hp' n' c' a b => hF hp' n' c' ⟨a, b⟩
 simp only [dL, dS, dB, pP, hW.inn] at ha hF'
 refine quietV_wp Tryz.func151 rfl (by kernel_rfl) rfl (fun _ => rfl) ?_
 unfold readyW
 by_cases q : findD c.inn nm = 0
 ·rw [show decide (findD c.inn nm ≠ 0) = false by simp [q], Bool.false_or]
  simp only [q, ne_eq, not_true_eq_false, decide_false] at hF'
  cases hs : asL nm true cx bl.flatten with
  | true =>
   rw [show asL nm (!false) cx bl.flatten = true from hs] at ha
   refine wkcv (jn @envOf.eq_1 (jn @envOf.eq_2 (jn @dL.eq_1 (jn @dS.eq_1 (jn @pP.eq_1 (jn @Hp.get_set (jn @nc (jn @hco (jn @hF' @ha))))))))) ?_
   exact ⟨.inr rfl, rfl, _, rfl, rfl⟩
  | false =>
   rw [show asL nm (!false) cx bl.flatten = false from hs] at ha
   refine wkcv (jn @envOf.eq_1 (jn @envOf.eq_2 (jn @dL.eq_1 (jn @dS.eq_1 (jn @pP.eq_1 (jn @Hp.get_set (jn @nc (jn @hco (jn @hF' @ha))))))))) ?_
   exact ⟨.inr rfl, rfl, _, rfl, rfl⟩
 ·rw [show decide (findD c.inn nm ≠ 0) = true by simp [q], Bool.true_or]
  simp only [q, ne_eq, not_false_eq_true, decide_true] at hF'
  refine wkcv (jn @envOf.eq_1 (jn @envOf.eq_2 (jn @dL.eq_1 (jn @dS.eq_1 (jn @pP.eq_1 (jn @Hp.get_set (jn @nc (jn @hco (jn @hF' @ha))))))))) ?_
  exact ⟨.inr rfl, rfl, _, rfl, rfl⟩
end
end Go.Ac
end
