/- The results of operators: the program's. -/
import Derived.Test.YtkimfnammkljoaaGreatDoorHdPeM
set_option linter.unusedVariables false
set_option linter.unusedSimpArgs false
section
set_option maxRecDepth 4000
set_option linter.unusedSectionVars false
namespace Go.Ac
open Go.Proofs
variable [GwR]
theorem kf149 (r : Nat) : Ob.keep 149 r = Ob.k149 r := by kernel_rfl
theorem kf92 (r : Nat) : Ob.keep 92 r = Ob.k92 r := by kernel_rfl
theorem kf418 (r : Nat) : Ob.keep 418 r = Ob.k418 r := by kernel_rfl
attribute [local simp] kf149 Ob.k149 kf92 Ob.k92 kf418 Ob.k418
theorem index195 {p : X → Bool} (l : List X) (hl : l.length ≤ MX) (hq : ∀ v, v ∈ l → den Tryz.prog Ob.cfg 447 [aG v.cells] = some (dB (p v))) : den Tryz.prog Ob.cfg 149 [dL (encX l), .fn 447 []] = some (dI (ixP p l)) := by
 unfold MX at hl
 refine den_wp Tryz.func149 rfl (by kernel_rfl) rfl rfl ?_
 refine wk (jn @dL.eq_1 @encX_len) ?_
 apply WP.loop' (I := fun D s => ∃ j : Nat, j + D = l.length ∧ (l.take j).all (fun v => !p v) = true ∧ SE [(0, dL (encX l)), (1, .fn 447 []), (7, dI l.length), (8, dI j)] [] 0 s) (d := l.length)
 ·exact ⟨0, by simp, by simp, SE.mk (by simp [dI, dL]) rfl⟩
 rintro D _ ⟨j, hj, hno, cc, rfl⟩
 refine wk (jn @dI.eq_1 @dL.eq_1) ?_
 show WP _ _ _ _ _ _
 refine WP.cond _ rfl (fun hb => ?_) (fun hb => ?_)
 ·simp at hb
  have hb' : j < l.length := by omega
  obtain ⟨d, hd, hdm, hix⟩ := at_lt hb'
  have hd' := encX_at hd
  have hw := w_succ hb' (by omega)
  have hs := all_snoc (p := fun v => !p v) hd
  have h4 := hq d hdm
  simp only [aG, X.cells_eq, List.map_cons, List.map_nil, dB] at h4
  cases hpd : p d with
  | true =>
   rw [hpd] at h4
   rw [ixP_some hno hd hpd]
   refine wkc (jn @dI.eq_1 (jn @dL.eq_1 (jn @hix (jn @hd' (jn @X.cells_eq @h4))))) ?_
   show retQ _ _ _ _ _
   exact ⟨.inr rfl, _, _, rfl, rfl⟩
  | false =>
   rw [hpd] at h4
   refine wkc (jn @dI.eq_1 (jn @dL.eq_1 (jn @hix (jn @hd' (jn @X.cells_eq @h4))))) ?_
   refine loop_next (by simp [hw]; exact Is.rfl) ?_
   exact ⟨D - 1, by omega, j + 1, by omega, by rw [hs, hno, hpd]; rfl, SE.mk (by simp [dI, dL, hw]) rfl⟩
 ·simp at hb
  have hje : j = l.length := by omega
  rw [hje, List.take_length] at hno
  rw [ixP_none hno]
  refine wkc (jn @dI.eq_1 @dL.eq_1) ?_
  show retQ _ _ _ _ _
  exact ⟨.inr rfl, _, _, rfl, rfl⟩
theorem contains191 {p : X → Bool} (l : List X) (hl : l.length ≤ MX) (hq : ∀ v, v ∈ l → den Tryz.prog Ob.cfg 447 [aG v.cells] = some (dB (p v))) : den Tryz.prog Ob.cfg 92 [dL (encX l), .fn 447 []] = some (dB (l.any p)) := by
 have h := index195 l hl hq
 simp only [dL, dI] at h
 rw [← ixP_any]
 refine den_wp Tryz.func92 rfl (by kernel_rfl) rfl rfl ?_
 refine wk (jn @dL.eq_1 @h) ?_
 show retQ _ _ _ _ _
 exact ⟨.inr rfl, _, _, rfl, rfl⟩
/-- What object173 says. -/
def PFormAt (N : Nat) : Prop := ∀ x : X, x.sz < N → x.sz ≤ MX → den Tryz.prog Ob.cfg 418 [aG x.cells] = some (dB (formE x))
theorem not192 {N : Nat} (ih : PFormAt N) (x : X) (h : x.sz < N) (h' : x.sz ≤ MX) : den Tryz.prog Ob.cfg 447 [aG x.cells] = some (dB (!formE x)) := by
 have h := ih x h h'
 simp only [aG, X.cells_eq, List.map_cons, List.map_nil, dB] at h
 refine den_wp Tryz.func447 rfl (by kernel_rfl) rfl rfl ?_
 refine wk (jn @aG.eq_1 (jn @X.cells_eq @h)) ?_
 show retQ _ _ _ _ _
 exact ⟨.inr rfl, _, _, rfl, rfl⟩
theorem all_not {α : Type} (p : α → Bool) (l : List α) : (!(l.any fun v => !p v)) = l.all p := by induction l <;> simp_all

set_option maxHeartbeats 8000000 in
theorem object_1 {N : Nat} (ih : PFormAt N) (x : X) (hN : x.sz < N + 1) (hM : x.sz ≤ MX) (fke1 : x.k = 1) : den Tryz.prog Ob.cfg 418 [aG x.cells] = some (dB (formE x)) := by
 have hsz := X.sz_eq x
 have hlen := len_szX x.args
 have hc := contains191 (p := fun v => !formE v) x.args (by omega) fun v hv => not192 ih v (by have := mem_szX hv; omega) (by have := mem_szX hv; omega)
 simp only [dL, dB] at hc
 refine den_wp Tryz.func418 rfl (by kernel_rfl) rfl rfl ?_
 by_cases foe0 : x.o = 0
 ·have foe0_ := eq_true foe0
  by_cases fte0 : x.t = 0
  ·have fte0_ := eq_true fte0
   by_cases fve0 : x.v = 0
   ·have fve0_ := eq_true fve0
    by_cases fne0 : x.nm = []
    ·have fne0_ := eq_true fne0
     by_cases fae0 : x.args = []
     ·have fae0_ := eq_true fae0
      rw [show formE x = true by rw [formE_eq, formL_all]; unfold formN arE; simp [fke1, foe0, fte0, fve0, fne0, fae0]]
      refine wkc (jn @aG.eq_1 (jn @X.cells_eq (jn @int_beq (jn @int_bne (jn @tx_beq (jn @len0 (jn @encX_len (jn @fke1 (jn @foe0 (jn @fte0 (jn @fve0 (jn @fne0_ @fae0_)))))))))))) ?_
      show retQ _ _ _ _ _
      exact ⟨.inr rfl, _, _, rfl, rfl⟩
     ·have fae0_ := eq_false fae0
      rw [show formE x = false by rw [formE_eq, formL_all]; unfold formN arE; simp [fke1, foe0, fte0, fve0, fne0, fae0]]
      refine wkc (jn @aG.eq_1 (jn @X.cells_eq (jn @int_beq (jn @int_bne (jn @tx_beq (jn @len0 (jn @encX_len (jn @fke1 (jn @foe0 (jn @fte0 (jn @fve0 (jn @fne0_ @fae0_)))))))))))) ?_
      show retQ _ _ _ _ _
      exact ⟨.inr rfl, _, _, rfl, rfl⟩
    ·have fne0_ := eq_false fne0
     rw [show formE x = false by rw [formE_eq, formL_all]; unfold formN arE; simp [fke1, foe0, fte0, fve0, fne0]]
     refine wkc (jn @aG.eq_1 (jn @X.cells_eq (jn @int_beq (jn @int_bne (jn @tx_beq (jn @len0 (jn @encX_len (jn @fke1 (jn @foe0 (jn @fte0 (jn @fve0 @fne0_))))))))))) ?_
     show retQ _ _ _ _ _
     exact ⟨.inr rfl, _, _, rfl, rfl⟩
   ·have fve0_ := eq_false fve0
    by_cases fne0 : x.nm = []
    ·have fne0_ := eq_true fne0
     by_cases fae0 : x.args = []
     ·have fae0_ := eq_true fae0
      rw [show formE x = true by rw [formE_eq, formL_all]; unfold formN arE; simp [fke1, foe0, fte0, fve0, fne0, fae0]]
      refine wkc (jn @aG.eq_1 (jn @X.cells_eq (jn @int_beq (jn @int_bne (jn @tx_beq (jn @len0 (jn @encX_len (jn @fke1 (jn @foe0 (jn @fte0 (jn @fve0_ (jn @fne0_ @fae0_)))))))))))) ?_
      show retQ _ _ _ _ _
      exact ⟨.inr rfl, _, _, rfl, rfl⟩
     ·have fae0_ := eq_false fae0
      rw [show formE x = false by rw [formE_eq, formL_all]; unfold formN arE; simp [fke1, foe0, fte0, fve0, fne0, fae0]]
      refine wkc (jn @aG.eq_1 (jn @X.cells_eq (jn @int_beq (jn @int_bne (jn @tx_beq (jn @len0 (jn @encX_len (jn @fke1 (jn @foe0 (jn @fte0 (jn @fve0_ (jn @fne0_ @fae0_)))))))))))) ?_
      show retQ _ _ _ _ _
      exact ⟨.inr rfl, _, _, rfl, rfl⟩
    ·have fne0_ := eq_false fne0
     rw [show formE x = false by rw [formE_eq, formL_all]; unfold formN arE; simp [fke1, foe0, fte0, fve0, fne0]]
     refine wkc (jn @aG.eq_1 (jn @X.cells_eq (jn @int_beq (jn @int_bne (jn @tx_beq (jn @len0 (jn @encX_len (jn @fke1 (jn @foe0 (jn @fte0 (jn @fve0_ @fne0_))))))))))) ?_
     show retQ _ _ _ _ _
     exact ⟨.inr rfl, _, _, rfl, rfl⟩
  ·have fte0_ := eq_false fte0
   by_cases fne0 : x.nm = []
   ·have fne0_ := eq_true fne0
    by_cases fae0 : x.args = []
    ·have fae0_ := eq_true fae0
     rw [show formE x = true by rw [formE_eq, formL_all]; unfold formN arE; simp [fke1, foe0, fte0, fne0, fae0]]
     refine wkc (jn @aG.eq_1 (jn @X.cells_eq (jn @int_beq (jn @int_bne (jn @tx_beq (jn @len0 (jn @encX_len (jn @fke1 (jn @foe0 (jn @fte0_ (jn @fne0_ @fae0_))))))))))) ?_
     show retQ _ _ _ _ _
     exact ⟨.inr rfl, _, _, rfl, rfl⟩
    ·have fae0_ := eq_false fae0
     rw [show formE x = false by rw [formE_eq, formL_all]; unfold formN arE; simp [fke1, foe0, fte0, fne0, fae0]]
     refine wkc (jn @aG.eq_1 (jn @X.cells_eq (jn @int_beq (jn @int_bne (jn @tx_beq (jn @len0 (jn @encX_len (jn @fke1 (jn @foe0 (jn @fte0_ (jn @fne0_ @fae0_))))))))))) ?_
     show retQ _ _ _ _ _
     exact ⟨.inr rfl, _, _, rfl, rfl⟩
   ·have fne0_ := eq_false fne0
    rw [show formE x = false by rw [formE_eq, formL_all]; unfold formN arE; simp [fke1, foe0, fte0, fne0]]
    refine wkc (jn @aG.eq_1 (jn @X.cells_eq (jn @int_beq (jn @int_bne (jn @tx_beq (jn @len0 (jn @encX_len (jn @fke1 (jn @foe0 (jn @fte0_ @fne0_)))))))))) ?_
    show retQ _ _ _ _ _
    exact ⟨.inr rfl, _, _, rfl, rfl⟩
 ·have foe0_ := eq_false foe0
  rw [show formE x = false by rw [formE_eq, formL_all]; unfold formN arE; simp [fke1, foe0]]
  refine wkc (jn @aG.eq_1 (jn @X.cells_eq (jn @int_beq (jn @int_bne (jn @tx_beq (jn @len0 (jn @encX_len (jn @fke1 @foe0_)))))))) ?_
  show retQ _ _ _ _ _
  exact ⟨.inr rfl, _, _, rfl, rfl⟩

set_option maxHeartbeats 8000000 in
theorem object_2 {N : Nat} (ih : PFormAt N) (x : X) (hN : x.sz < N + 1) (hM : x.sz ≤ MX) (fke2 : x.k = 2) : den Tryz.prog Ob.cfg 418 [aG x.cells] = some (dB (formE x)) := by
 have hsz := X.sz_eq x
 have hlen := len_szX x.args
 have hc := contains191 (p := fun v => !formE v) x.args (by omega) fun v hv => not192 ih v (by have := mem_szX hv; omega) (by have := mem_szX hv; omega)
 simp only [dL, dB] at hc
 refine den_wp Tryz.func418 rfl (by kernel_rfl) rfl rfl ?_
 by_cases foe0 : x.o = 0
 ·have foe0_ := eq_true foe0
  by_cases fte0 : x.t = 0
  ·have fte0_ := eq_true fte0
   by_cases fve0 : x.v = 0
   ·have fve0_ := eq_true fve0
    by_cases fne0 : x.nm = []
    ·have fne0_ := eq_true fne0
     by_cases fae0 : x.args = []
     ·have fae0_ := eq_true fae0
      rw [show formE x = true by rw [formE_eq, formL_all]; unfold formN arE; simp [fke2, foe0, fte0, fve0, fne0, fae0]]
      refine wkc (jn @aG.eq_1 (jn @X.cells_eq (jn @int_beq (jn @int_bne (jn @tx_beq (jn @len0 (jn @encX_len (jn @fke2 (jn @foe0 (jn @fte0 (jn @fve0 (jn @fne0_ @fae0_)))))))))))) ?_
      show retQ _ _ _ _ _
      exact ⟨.inr rfl, _, _, rfl, rfl⟩
     ·have fae0_ := eq_false fae0
      rw [show formE x = false by rw [formE_eq, formL_all]; unfold formN arE; simp [fke2, foe0, fte0, fve0, fne0, fae0]]
      refine wkc (jn @aG.eq_1 (jn @X.cells_eq (jn @int_beq (jn @int_bne (jn @tx_beq (jn @len0 (jn @encX_len (jn @fke2 (jn @foe0 (jn @fte0 (jn @fve0 (jn @fne0_ @fae0_)))))))))))) ?_
      show retQ _ _ _ _ _
      exact ⟨.inr rfl, _, _, rfl, rfl⟩
    ·have fne0_ := eq_false fne0
     by_cases fae0 : x.args = []
     ·have fae0_ := eq_true fae0
      rw [show formE x = true by rw [formE_eq, formL_all]; unfold formN arE; simp [fke2, foe0, fte0, fve0, fne0, fae0]]
      refine wkc (jn @aG.eq_1 (jn @X.cells_eq (jn @int_beq (jn @int_bne (jn @tx_beq (jn @len0 (jn @encX_len (jn @fke2 (jn @foe0 (jn @fte0 (jn @fve0 (jn @fne0_ @fae0_)))))))))))) ?_
      show retQ _ _ _ _ _
      exact ⟨.inr rfl, _, _, rfl, rfl⟩
     ·have fae0_ := eq_false fae0
      rw [show formE x = false by rw [formE_eq, formL_all]; unfold formN arE; simp [fke2, foe0, fte0, fve0, fne0, fae0]]
      refine wkc (jn @aG.eq_1 (jn @X.cells_eq (jn @int_beq (jn @int_bne (jn @tx_beq (jn @len0 (jn @encX_len (jn @fke2 (jn @foe0 (jn @fte0 (jn @fve0 (jn @fne0_ @fae0_)))))))))))) ?_
      show retQ _ _ _ _ _
      exact ⟨.inr rfl, _, _, rfl, rfl⟩
   ·have fve0_ := eq_false fve0
    rw [show formE x = false by rw [formE_eq, formL_all]; unfold formN arE; simp [fke2, foe0, fte0, fve0]]
    refine wkc (jn @aG.eq_1 (jn @X.cells_eq (jn @int_beq (jn @int_bne (jn @tx_beq (jn @len0 (jn @encX_len (jn @fke2 (jn @foe0 (jn @fte0 @fve0_)))))))))) ?_
    show retQ _ _ _ _ _
    exact ⟨.inr rfl, _, _, rfl, rfl⟩
  ·have fte0_ := eq_false fte0
   rw [show formE x = false by rw [formE_eq, formL_all]; unfold formN arE; simp [fke2, foe0, fte0]]
   refine wkc (jn @aG.eq_1 (jn @X.cells_eq (jn @int_beq (jn @int_bne (jn @tx_beq (jn @len0 (jn @encX_len (jn @fke2 (jn @foe0 @fte0_))))))))) ?_
   show retQ _ _ _ _ _
   exact ⟨.inr rfl, _, _, rfl, rfl⟩
 ·have foe0_ := eq_false foe0
  rw [show formE x = false by rw [formE_eq, formL_all]; unfold formN arE; simp [fke2, foe0]]
  refine wkc (jn @aG.eq_1 (jn @X.cells_eq (jn @int_beq (jn @int_bne (jn @tx_beq (jn @len0 (jn @encX_len (jn @fke2 @foe0_)))))))) ?_
  show retQ _ _ _ _ _
  exact ⟨.inr rfl, _, _, rfl, rfl⟩

set_option maxHeartbeats 8000000 in
theorem object_12 {N : Nat} (ih : PFormAt N) (x : X) (hN : x.sz < N + 1) (hM : x.sz ≤ MX) (fke12 : x.k = 12) : den Tryz.prog Ob.cfg 418 [aG x.cells] = some (dB (formE x)) := by
 have hsz := X.sz_eq x
 have hlen := len_szX x.args
 have hc := contains191 (p := fun v => !formE v) x.args (by omega) fun v hv => not192 ih v (by have := mem_szX hv; omega) (by have := mem_szX hv; omega)
 simp only [dL, dB] at hc
 refine den_wp Tryz.func418 rfl (by kernel_rfl) rfl rfl ?_
 by_cases foe0 : x.o = 0
 ·have foe0_ := eq_true foe0
  by_cases fte0 : x.t = 0
  ·have fte0_ := eq_true fte0
   by_cases fve0 : x.v = 0
   ·have fve0_ := eq_true fve0
    by_cases fne0 : x.nm = []
    ·have fne0_ := eq_true fne0
     by_cases fae0 : x.args = []
     ·have fae0_ := eq_true fae0
      rw [show formE x = true by rw [formE_eq, formL_all]; unfold formN arE; simp [fke12, foe0, fte0, fve0, fne0, fae0]]
      refine wkc (jn @aG.eq_1 (jn @X.cells_eq (jn @int_beq (jn @int_bne (jn @tx_beq (jn @len0 (jn @encX_len (jn @fke12 (jn @foe0 (jn @fte0 (jn @fve0 (jn @fne0_ @fae0_)))))))))))) ?_
      show retQ _ _ _ _ _
      exact ⟨.inr rfl, _, _, rfl, rfl⟩
     ·have fae0_ := eq_false fae0
      rw [show formE x = false by rw [formE_eq, formL_all]; unfold formN arE; simp [fke12, foe0, fte0, fve0, fne0, fae0]]
      refine wkc (jn @aG.eq_1 (jn @X.cells_eq (jn @int_beq (jn @int_bne (jn @tx_beq (jn @len0 (jn @encX_len (jn @fke12 (jn @foe0 (jn @fte0 (jn @fve0 (jn @fne0_ @fae0_)))))))))))) ?_
      show retQ _ _ _ _ _
      exact ⟨.inr rfl, _, _, rfl, rfl⟩
    ·have fne0_ := eq_false fne0
     by_cases fae0 : x.args = []
     ·have fae0_ := eq_true fae0
      rw [show formE x = true by rw [formE_eq, formL_all]; unfold formN arE; simp [fke12, foe0, fte0, fve0, fne0, fae0]]
      refine wkc (jn @aG.eq_1 (jn @X.cells_eq (jn @int_beq (jn @int_bne (jn @tx_beq (jn @len0 (jn @encX_len (jn @fke12 (jn @foe0 (jn @fte0 (jn @fve0 (jn @fne0_ @fae0_)))))))))))) ?_
      show retQ _ _ _ _ _
      exact ⟨.inr rfl, _, _, rfl, rfl⟩
     ·have fae0_ := eq_false fae0
      rw [show formE x = false by rw [formE_eq, formL_all]; unfold formN arE; simp [fke12, foe0, fte0, fve0, fne0, fae0]]
      refine wkc (jn @aG.eq_1 (jn @X.cells_eq (jn @int_beq (jn @int_bne (jn @tx_beq (jn @len0 (jn @encX_len (jn @fke12 (jn @foe0 (jn @fte0 (jn @fve0 (jn @fne0_ @fae0_)))))))))))) ?_
      show retQ _ _ _ _ _
      exact ⟨.inr rfl, _, _, rfl, rfl⟩
   ·have fve0_ := eq_false fve0
    rw [show formE x = false by rw [formE_eq, formL_all]; unfold formN arE; simp [fke12, foe0, fte0, fve0]]
    refine wkc (jn @aG.eq_1 (jn @X.cells_eq (jn @int_beq (jn @int_bne (jn @tx_beq (jn @len0 (jn @encX_len (jn @fke12 (jn @foe0 (jn @fte0 @fve0_)))))))))) ?_
    show retQ _ _ _ _ _
    exact ⟨.inr rfl, _, _, rfl, rfl⟩
  ·have fte0_ := eq_false fte0
   rw [show formE x = false by rw [formE_eq, formL_all]; unfold formN arE; simp [fke12, foe0, fte0]]
   refine wkc (jn @aG.eq_1 (jn @X.cells_eq (jn @int_beq (jn @int_bne (jn @tx_beq (jn @len0 (jn @encX_len (jn @fke12 (jn @foe0 @fte0_))))))))) ?_
   show retQ _ _ _ _ _
   exact ⟨.inr rfl, _, _, rfl, rfl⟩
 ·have foe0_ := eq_false foe0
  rw [show formE x = false by rw [formE_eq, formL_all]; unfold formN arE; simp [fke12, foe0]]
  refine wkc (jn @aG.eq_1 (jn @X.cells_eq (jn @int_beq (jn @int_bne (jn @tx_beq (jn @len0 (jn @encX_len (jn @fke12 @foe0_)))))))) ?_
  show retQ _ _ _ _ _
  exact ⟨.inr rfl, _, _, rfl, rfl⟩

set_option maxHeartbeats 8000000 in
theorem object_3 {N : Nat} (ih : PFormAt N) (x : X) (hN : x.sz < N + 1) (hM : x.sz ≤ MX) (fke3 : x.k = 3) : den Tryz.prog Ob.cfg 418 [aG x.cells] = some (dB (formE x)) := by
 have hsz := X.sz_eq x
 have hlen := len_szX x.args
 have hc := contains191 (p := fun v => !formE v) x.args (by omega) fun v hv => not192 ih v (by have := mem_szX hv; omega) (by have := mem_szX hv; omega)
 simp only [dL, dB] at hc
 refine den_wp Tryz.func418 rfl (by kernel_rfl) rfl rfl ?_
 by_cases foe0 : x.o = 0
 ·have foe0_ := eq_true foe0
  by_cases fte0 : x.t = 0
  ·have fte0_ := eq_true fte0
   by_cases fve0 : x.v = 0
   ·have fve0_ := eq_true fve0
    by_cases fne0 : x.nm = []
    ·have fne0_ := eq_true fne0
     rw [show formE x = false by rw [formE_eq, formL_all]; unfold formN; simp [fke3, foe0, fte0, fve0, fne0, arE]]
     refine wkc (jn @aG.eq_1 (jn @X.cells_eq (jn @int_beq (jn @int_bne (jn @tx_beq (jn @len0 (jn @encX_len (jn @fke3 (jn @foe0 (jn @fte0 (jn @fve0 @fne0_))))))))))) ?_
     show retQ _ _ _ _ _
     exact ⟨.inr rfl, _, _, rfl, rfl⟩
    ·have fne0_ := eq_false fne0
     rw [show formE x = false by rw [formE_eq, formL_all]; unfold formN; simp [fke3, foe0, fte0, fve0, fne0, arE]]
     refine wkc (jn @aG.eq_1 (jn @X.cells_eq (jn @int_beq (jn @int_bne (jn @tx_beq (jn @len0 (jn @encX_len (jn @fke3 (jn @foe0 (jn @fte0 (jn @fve0 @fne0_))))))))))) ?_
     show retQ _ _ _ _ _
     exact ⟨.inr rfl, _, _, rfl, rfl⟩
   ·have fve0_ := eq_false fve0
    rw [show formE x = false by rw [formE_eq, formL_all]; unfold formN; simp [fke3, foe0, fte0, fve0, arE]]
    refine wkc (jn @aG.eq_1 (jn @X.cells_eq (jn @int_beq (jn @int_bne (jn @tx_beq (jn @len0 (jn @encX_len (jn @fke3 (jn @foe0 (jn @fte0 @fve0_)))))))))) ?_
    show retQ _ _ _ _ _
    exact ⟨.inr rfl, _, _, rfl, rfl⟩
  ·have fte0_ := eq_false fte0
   rw [show formE x = false by rw [formE_eq, formL_all]; unfold formN; simp [fke3, foe0, fte0, arE]]
   refine wkc (jn @aG.eq_1 (jn @X.cells_eq (jn @int_beq (jn @int_bne (jn @tx_beq (jn @len0 (jn @encX_len (jn @fke3 (jn @foe0 @fte0_))))))))) ?_
   show retQ _ _ _ _ _
   exact ⟨.inr rfl, _, _, rfl, rfl⟩
 ·have foe0_ := eq_false foe0
  by_cases foe1 : x.o = 1
  ·have foe1_ := eq_true foe1
   by_cases fae1 : (x.args.length : Int) = 1
   ·have fae1_ := eq_true fae1
    by_cases fte0 : x.t = 0
    ·have fte0_ := eq_true fte0
     by_cases fve0 : x.v = 0
     ·have fve0_ := eq_true fve0
      by_cases fne0 : x.nm = []
      ·have fne0_ := eq_true fne0
       rw [show formE x = !(x.args.any fun v => !formE v) by rw [all_not, formE_eq, formL_all]; unfold formN; simp [fke3, foe0, foe1, fae1, fte0, fve0, fne0, arE]]
       refine wkc (jn @aG.eq_1 (jn @X.cells_eq (jn @int_beq (jn @int_bne (jn @tx_beq (jn @len0 (jn @hc (jn @encX_len (jn @fke3 (jn @foe0_ (jn @foe1 (jn @fae1_ (jn @fte0 (jn @fve0 @fne0_)))))))))))))) ?_
       show retQ _ _ _ _ _
       exact ⟨.inr rfl, _, _, rfl, rfl⟩
      ·have fne0_ := eq_false fne0
       rw [show formE x = false by rw [formE_eq, formL_all]; unfold formN; simp [fke3, foe0, foe1, fae1, fte0, fve0, fne0, arE]]
       refine wkc (jn @aG.eq_1 (jn @X.cells_eq (jn @int_beq (jn @int_bne (jn @tx_beq (jn @len0 (jn @encX_len (jn @fke3 (jn @foe0_ (jn @foe1 (jn @fae1_ (jn @fte0 (jn @fve0 @fne0_))))))))))))) ?_
       show retQ _ _ _ _ _
       exact ⟨.inr rfl, _, _, rfl, rfl⟩
     ·have fve0_ := eq_false fve0
      rw [show formE x = false by rw [formE_eq, formL_all]; unfold formN; simp [fke3, foe0, foe1, fae1, fte0, fve0, arE]]
      refine wkc (jn @aG.eq_1 (jn @X.cells_eq (jn @int_beq (jn @int_bne (jn @tx_beq (jn @len0 (jn @encX_len (jn @fke3 (jn @foe0_ (jn @foe1 (jn @fae1_ (jn @fte0 @fve0_)))))))))))) ?_
      show retQ _ _ _ _ _
      exact ⟨.inr rfl, _, _, rfl, rfl⟩
    ·have fte0_ := eq_false fte0
     rw [show formE x = false by rw [formE_eq, formL_all]; unfold formN; simp [fke3, foe0, foe1, fae1, fte0, arE]]
     refine wkc (jn @aG.eq_1 (jn @X.cells_eq (jn @int_beq (jn @int_bne (jn @tx_beq (jn @len0 (jn @encX_len (jn @fke3 (jn @foe0_ (jn @foe1 (jn @fae1_ @fte0_))))))))))) ?_
     show retQ _ _ _ _ _
     exact ⟨.inr rfl, _, _, rfl, rfl⟩
   ·have fae1_ := eq_false fae1
    rw [show formE x = false by rw [formE_eq, formL_all]; unfold formN; simp [fke3, foe0, foe1, fae1, arE]; by_cases hq : x.t = 0 ∧ x.v = 0 ∧ x.nm = [] <;> simp [hq, fae1]]
    refine wkc (jn @aG.eq_1 (jn @X.cells_eq (jn @int_beq (jn @int_bne (jn @tx_beq (jn @len0 (jn @encX_len (jn @fke3 (jn @foe0_ (jn @foe1 @fae1_)))))))))) ?_
    show retQ _ _ _ _ _
    exact ⟨.inr rfl, _, _, rfl, rfl⟩
  ·have foe1_ := eq_false foe1
   by_cases foe2 : x.o = 2
   ·have foe2_ := eq_true foe2
    by_cases fae1 : (x.args.length : Int) = 1
    ·have fae1_ := eq_true fae1
     by_cases fte0 : x.t = 0
     ·have fte0_ := eq_true fte0
      by_cases fve0 : x.v = 0
      ·have fve0_ := eq_true fve0
       by_cases fne0 : x.nm = []
       ·have fne0_ := eq_true fne0
        rw [show formE x = !(x.args.any fun v => !formE v) by rw [all_not, formE_eq, formL_all]; unfold formN; simp [fke3, foe0, foe1, foe2, fae1, fte0, fve0, fne0, arE]]
        refine wkc (jn @aG.eq_1 (jn @X.cells_eq (jn @int_beq (jn @int_bne (jn @tx_beq (jn @len0 (jn @hc (jn @encX_len (jn @fke3 (jn @foe0_ (jn @foe1_ (jn @foe2 (jn @fae1_ (jn @fte0 (jn @fve0 @fne0_))))))))))))))) ?_
        show retQ _ _ _ _ _
        exact ⟨.inr rfl, _, _, rfl, rfl⟩
       ·have fne0_ := eq_false fne0
        rw [show formE x = false by rw [formE_eq, formL_all]; unfold formN; simp [fke3, foe0, foe1, foe2, fae1, fte0, fve0, fne0, arE]]
        refine wkc (jn @aG.eq_1 (jn @X.cells_eq (jn @int_beq (jn @int_bne (jn @tx_beq (jn @len0 (jn @encX_len (jn @fke3 (jn @foe0_ (jn @foe1_ (jn @foe2 (jn @fae1_ (jn @fte0 (jn @fve0 @fne0_)))))))))))))) ?_
        show retQ _ _ _ _ _
        exact ⟨.inr rfl, _, _, rfl, rfl⟩
      ·have fve0_ := eq_false fve0
       rw [show formE x = false by rw [formE_eq, formL_all]; unfold formN; simp [fke3, foe0, foe1, foe2, fae1, fte0, fve0, arE]]
       refine wkc (jn @aG.eq_1 (jn @X.cells_eq (jn @int_beq (jn @int_bne (jn @tx_beq (jn @len0 (jn @encX_len (jn @fke3 (jn @foe0_ (jn @foe1_ (jn @foe2 (jn @fae1_ (jn @fte0 @fve0_))))))))))))) ?_
       show retQ _ _ _ _ _
       exact ⟨.inr rfl, _, _, rfl, rfl⟩
     ·have fte0_ := eq_false fte0
      rw [show formE x = false by rw [formE_eq, formL_all]; unfold formN; simp [fke3, foe0, foe1, foe2, fae1, fte0, arE]]
      refine wkc (jn @aG.eq_1 (jn @X.cells_eq (jn @int_beq (jn @int_bne (jn @tx_beq (jn @len0 (jn @encX_len (jn @fke3 (jn @foe0_ (jn @foe1_ (jn @foe2 (jn @fae1_ @fte0_)))))))))))) ?_
      show retQ _ _ _ _ _
      exact ⟨.inr rfl, _, _, rfl, rfl⟩
    ·have fae1_ := eq_false fae1
     rw [show formE x = false by rw [formE_eq, formL_all]; unfold formN; simp [fke3, foe0, foe1, foe2, fae1, arE]; by_cases hq : x.t = 0 ∧ x.v = 0 ∧ x.nm = [] <;> simp [hq, fae1]]
     refine wkc (jn @aG.eq_1 (jn @X.cells_eq (jn @int_beq (jn @int_bne (jn @tx_beq (jn @len0 (jn @encX_len (jn @fke3 (jn @foe0_ (jn @foe1_ (jn @foe2 @fae1_))))))))))) ?_
     show retQ _ _ _ _ _
     exact ⟨.inr rfl, _, _, rfl, rfl⟩
   ·have foe2_ := eq_false foe2
    by_cases fol1 : x.o < 1
    ·have fol1_ := eq_true fol1
     have har : arE x.o = 0 := by unfold arE; rw [if_neg (by omega), if_neg (by omega)]
     rw [show formE x = false by rw [formE_eq, formL_all]; unfold formN; simp [fke3, foe0, foe1, foe2, fol1, har]]
     refine wkc (jn @aG.eq_1 (jn @X.cells_eq (jn @int_beq (jn @int_bne (jn @tx_beq (jn @len0 (jn @encX_len (jn @fke3 (jn @foe0_ (jn @foe1_ (jn @foe2_ @fol1_))))))))))) ?_
     show retQ _ _ _ _ _
     exact ⟨.inr rfl, _, _, rfl, rfl⟩
    ·have fol1_ := eq_false fol1
     by_cases fog16 : 16 < x.o
     ·have fog16_ := eq_true fog16
      have har : arE x.o = 0 := by unfold arE; rw [if_neg (by omega), if_neg (by omega)]
      rw [show formE x = false by rw [formE_eq, formL_all]; unfold formN; simp [fke3, foe0, foe1, foe2, fol1, fog16, har]]
      refine wkc (jn @aG.eq_1 (jn @X.cells_eq (jn @int_beq (jn @int_bne (jn @tx_beq (jn @len0 (jn @encX_len (jn @fke3 (jn @foe0_ (jn @foe1_ (jn @foe2_ (jn @fol1_ @fog16_)))))))))))) ?_
      show retQ _ _ _ _ _
      exact ⟨.inr rfl, _, _, rfl, rfl⟩
     ·have fog16_ := eq_false fog16
      by_cases fae2 : (x.args.length : Int) = 2
      ·have fae2_ := eq_true fae2
       by_cases fte0 : x.t = 0
       ·have fte0_ := eq_true fte0
        by_cases fve0 : x.v = 0
        ·have fve0_ := eq_true fve0
         by_cases fne0 : x.nm = []
         ·have fne0_ := eq_true fne0
          have har : arE x.o = 2 := by unfold arE; rw [if_neg (by omega), if_pos (by omega)]
          rw [show formE x = !(x.args.any fun v => !formE v) by rw [all_not, formE_eq, formL_all]; unfold formN; simp [fke3, foe0, foe1, foe2, fol1, fog16, fae2, fte0, fve0, fne0, har]]
          refine wkc (jn @aG.eq_1 (jn @X.cells_eq (jn @int_beq (jn @int_bne (jn @tx_beq (jn @len0 (jn @hc (jn @encX_len (jn @fke3 (jn @foe0_ (jn @foe1_ (jn @foe2_ (jn @fol1_ (jn @fog16_ (jn @fae2_ (jn @fte0 (jn @fve0 @fne0_))))))))))))))))) ?_
          show retQ _ _ _ _ _
          exact ⟨.inr rfl, _, _, rfl, rfl⟩
         ·have fne0_ := eq_false fne0
          have har : arE x.o = 2 := by unfold arE; rw [if_neg (by omega), if_pos (by omega)]
          rw [show formE x = false by rw [formE_eq, formL_all]; unfold formN; simp [fke3, foe0, foe1, foe2, fol1, fog16, fae2, fte0, fve0, fne0, har]]
          refine wkc (jn @aG.eq_1 (jn @X.cells_eq (jn @int_beq (jn @int_bne (jn @tx_beq (jn @len0 (jn @encX_len (jn @fke3 (jn @foe0_ (jn @foe1_ (jn @foe2_ (jn @fol1_ (jn @fog16_ (jn @fae2_ (jn @fte0 (jn @fve0 @fne0_)))))))))))))))) ?_
          show retQ _ _ _ _ _
          exact ⟨.inr rfl, _, _, rfl, rfl⟩
        ·have fve0_ := eq_false fve0
         have har : arE x.o = 2 := by unfold arE; rw [if_neg (by omega), if_pos (by omega)]
         rw [show formE x = false by rw [formE_eq, formL_all]; unfold formN; simp [fke3, foe0, foe1, foe2, fol1, fog16, fae2, fte0, fve0, har]]
         refine wkc (jn @aG.eq_1 (jn @X.cells_eq (jn @int_beq (jn @int_bne (jn @tx_beq (jn @len0 (jn @encX_len (jn @fke3 (jn @foe0_ (jn @foe1_ (jn @foe2_ (jn @fol1_ (jn @fog16_ (jn @fae2_ (jn @fte0 @fve0_))))))))))))))) ?_
         show retQ _ _ _ _ _
         exact ⟨.inr rfl, _, _, rfl, rfl⟩
       ·have fte0_ := eq_false fte0
        have har : arE x.o = 2 := by unfold arE; rw [if_neg (by omega), if_pos (by omega)]
        rw [show formE x = false by rw [formE_eq, formL_all]; unfold formN; simp [fke3, foe0, foe1, foe2, fol1, fog16, fae2, fte0, har]]
        refine wkc (jn @aG.eq_1 (jn @X.cells_eq (jn @int_beq (jn @int_bne (jn @tx_beq (jn @len0 (jn @encX_len (jn @fke3 (jn @foe0_ (jn @foe1_ (jn @foe2_ (jn @fol1_ (jn @fog16_ (jn @fae2_ @fte0_)))))))))))))) ?_
        show retQ _ _ _ _ _
        exact ⟨.inr rfl, _, _, rfl, rfl⟩
      ·have fae2_ := eq_false fae2
       have har : arE x.o = 2 := by unfold arE; rw [if_neg (by omega), if_pos (by omega)]
       rw [show formE x = false by rw [formE_eq, formL_all]; unfold formN; simp [fke3, foe0, foe1, foe2, fol1, fog16, fae2, har]; by_cases hq : x.t = 0 ∧ x.v = 0 ∧ x.nm = [] <;> simp [hq, fae2]]
       refine wkc (jn @aG.eq_1 (jn @X.cells_eq (jn @int_beq (jn @int_bne (jn @tx_beq (jn @len0 (jn @encX_len (jn @fke3 (jn @foe0_ (jn @foe1_ (jn @foe2_ (jn @fol1_ (jn @fog16_ @fae2_))))))))))))) ?_
       show retQ _ _ _ _ _
       exact ⟨.inr rfl, _, _, rfl, rfl⟩

set_option maxHeartbeats 8000000 in
theorem object_4 {N : Nat} (ih : PFormAt N) (x : X) (hN : x.sz < N + 1) (hM : x.sz ≤ MX) (fke4 : x.k = 4) : den Tryz.prog Ob.cfg 418 [aG x.cells] = some (dB (formE x)) := by
 have hsz := X.sz_eq x
 have hlen := len_szX x.args
 have hc := contains191 (p := fun v => !formE v) x.args (by omega) fun v hv => not192 ih v (by have := mem_szX hv; omega) (by have := mem_szX hv; omega)
 simp only [dL, dB] at hc
 refine den_wp Tryz.func418 rfl (by kernel_rfl) rfl rfl ?_
 by_cases foe0 : x.o = 0
 ·have foe0_ := eq_true foe0
  by_cases fte0 : x.t = 0
  ·have fte0_ := eq_true fte0
   by_cases fve0 : x.v = 0
   ·have fve0_ := eq_true fve0
    by_cases fne0 : x.nm = []
    ·have fne0_ := eq_true fne0
     by_cases fae3 : (x.args.length : Int) = 3
     ·have fae3_ := eq_true fae3
      rw [show formE x = !(x.args.any fun v => !formE v) by rw [all_not, formE_eq, formL_all]; unfold formN arE; simp [fke4, foe0, fte0, fve0, fne0, fae3]]
      refine wkc (jn @aG.eq_1 (jn @X.cells_eq (jn @int_beq (jn @int_bne (jn @tx_beq (jn @len0 (jn @hc (jn @encX_len (jn @fke4 (jn @foe0 (jn @fte0 (jn @fve0 (jn @fne0_ @fae3_))))))))))))) ?_
      show retQ _ _ _ _ _
      exact ⟨.inr rfl, _, _, rfl, rfl⟩
     ·have fae3_ := eq_false fae3
      rw [show formE x = false by rw [formE_eq, formL_all]; unfold formN arE; simp [fke4, foe0, fte0, fve0, fne0, fae3]]
      refine wkc (jn @aG.eq_1 (jn @X.cells_eq (jn @int_beq (jn @int_bne (jn @tx_beq (jn @len0 (jn @encX_len (jn @fke4 (jn @foe0 (jn @fte0 (jn @fve0 (jn @fne0_ @fae3_)))))))))))) ?_
      show retQ _ _ _ _ _
      exact ⟨.inr rfl, _, _, rfl, rfl⟩
    ·have fne0_ := eq_false fne0
     rw [show formE x = false by rw [formE_eq, formL_all]; unfold formN arE; simp [fke4, foe0, fte0, fve0, fne0]]
     refine wkc (jn @aG.eq_1 (jn @X.cells_eq (jn @int_beq (jn @int_bne (jn @tx_beq (jn @len0 (jn @encX_len (jn @fke4 (jn @foe0 (jn @fte0 (jn @fve0 @fne0_))))))))))) ?_
     show retQ _ _ _ _ _
     exact ⟨.inr rfl, _, _, rfl, rfl⟩
   ·have fve0_ := eq_false fve0
    rw [show formE x = false by rw [formE_eq, formL_all]; unfold formN arE; simp [fke4, foe0, fte0, fve0]]
    refine wkc (jn @aG.eq_1 (jn @X.cells_eq (jn @int_beq (jn @int_bne (jn @tx_beq (jn @len0 (jn @encX_len (jn @fke4 (jn @foe0 (jn @fte0 @fve0_)))))))))) ?_
    show retQ _ _ _ _ _
    exact ⟨.inr rfl, _, _, rfl, rfl⟩
  ·have fte0_ := eq_false fte0
   rw [show formE x = false by rw [formE_eq, formL_all]; unfold formN arE; simp [fke4, foe0, fte0]]
   refine wkc (jn @aG.eq_1 (jn @X.cells_eq (jn @int_beq (jn @int_bne (jn @tx_beq (jn @len0 (jn @encX_len (jn @fke4 (jn @foe0 @fte0_))))))))) ?_
   show retQ _ _ _ _ _
   exact ⟨.inr rfl, _, _, rfl, rfl⟩
 ·have foe0_ := eq_false foe0
  rw [show formE x = false by rw [formE_eq, formL_all]; unfold formN arE; simp [fke4, foe0]]
  refine wkc (jn @aG.eq_1 (jn @X.cells_eq (jn @int_beq (jn @int_bne (jn @tx_beq (jn @len0 (jn @encX_len (jn @fke4 @foe0_)))))))) ?_
  show retQ _ _ _ _ _
  exact ⟨.inr rfl, _, _, rfl, rfl⟩

set_option maxHeartbeats 8000000 in
theorem object_0 (x : X) (fke1 : ¬ x.k = 1) (fke2 : ¬ x.k = 2) (fke12 : ¬ x.k = 12) (fke3 : ¬ x.k = 3) (fke4 : ¬ x.k = 4) : den Tryz.prog Ob.cfg 418 [aG x.cells] = some (dB (formE x)) := by
 have fke1_ := eq_false fke1
 have fke2_ := eq_false fke2
 have fke12_ := eq_false fke12
 have fke3_ := eq_false fke3
 have fke4_ := eq_false fke4
 refine den_wp Tryz.func418 rfl (by kernel_rfl) rfl rfl ?_
 by_cases foe0 : x.o = 0
 ·have foe0_ := eq_true foe0
  by_cases fte0 : x.t = 0
  ·have fte0_ := eq_true fte0
   by_cases fve0 : x.v = 0
   ·have fve0_ := eq_true fve0
    by_cases fne0 : x.nm = []
    ·have fne0_ := eq_true fne0
     have hfn : formN x.k x.o x.t x.v x.nm = none := by unfold formN; simp [fke1, fke2, fke12, fke3, fke4]
     rw [formE_none hfn]
     refine wkc (jn @aG.eq_1 (jn @X.cells_eq (jn @int_beq (jn @int_bne (jn @tx_beq (jn @len0 (jn @encX_len (jn @fke1_ (jn @fke2_ (jn @fke12_ (jn @fke3_ (jn @fke4_ (jn @foe0 (jn @fte0 (jn @fve0 @fne0_))))))))))))))) ?_
     show retQ _ _ _ _ _
     exact ⟨.inr rfl, _, _, rfl, rfl⟩
    ·have fne0_ := eq_false fne0
     have hfn : formN x.k x.o x.t x.v x.nm = none := by unfold formN; simp [fke1, fke2, fke12, fke3, fke4]
     rw [formE_none hfn]
     refine wkc (jn @aG.eq_1 (jn @X.cells_eq (jn @int_beq (jn @int_bne (jn @tx_beq (jn @len0 (jn @encX_len (jn @fke1_ (jn @fke2_ (jn @fke12_ (jn @fke3_ (jn @fke4_ (jn @foe0 (jn @fte0 (jn @fve0 @fne0_))))))))))))))) ?_
     show retQ _ _ _ _ _
     exact ⟨.inr rfl, _, _, rfl, rfl⟩
   ·have fve0_ := eq_false fve0
    have hfn : formN x.k x.o x.t x.v x.nm = none := by unfold formN; simp [fke1, fke2, fke12, fke3, fke4]
    rw [formE_none hfn]
    refine wkc (jn @aG.eq_1 (jn @X.cells_eq (jn @int_beq (jn @int_bne (jn @tx_beq (jn @len0 (jn @encX_len (jn @fke1_ (jn @fke2_ (jn @fke12_ (jn @fke3_ (jn @fke4_ (jn @foe0 (jn @fte0 @fve0_)))))))))))))) ?_
    show retQ _ _ _ _ _
    exact ⟨.inr rfl, _, _, rfl, rfl⟩
  ·have fte0_ := eq_false fte0
   have hfn : formN x.k x.o x.t x.v x.nm = none := by unfold formN; simp [fke1, fke2, fke12, fke3, fke4]
   rw [formE_none hfn]
   refine wkc (jn @aG.eq_1 (jn @X.cells_eq (jn @int_beq (jn @int_bne (jn @tx_beq (jn @len0 (jn @encX_len (jn @fke1_ (jn @fke2_ (jn @fke12_ (jn @fke3_ (jn @fke4_ (jn @foe0 @fte0_))))))))))))) ?_
   show retQ _ _ _ _ _
   exact ⟨.inr rfl, _, _, rfl, rfl⟩
 ·have foe0_ := eq_false foe0
  have hfn : formN x.k x.o x.t x.v x.nm = none := by unfold formN; simp [fke1, fke2, fke12, fke3, fke4]
  rw [formE_none hfn]
  refine wkc (jn @aG.eq_1 (jn @X.cells_eq (jn @int_beq (jn @int_bne (jn @tx_beq (jn @len0 (jn @encX_len (jn @fke1_ (jn @fke2_ (jn @fke12_ (jn @fke3_ (jn @fke4_ @foe0_)))))))))))) ?_
  show retQ _ _ _ _ _
  exact ⟨.inr rfl, _, _, rfl, rfl⟩

theorem object173 : ∀ N, PFormAt N := by
 intro N
 induction N with
 | zero => intro x h; omega
 | succ N ih =>
 intro x hN hM
 by_cases k1 : x.k = 1
 ·exact object_1 ih x hN hM k1
 by_cases k2 : x.k = 2
 ·exact object_2 ih x hN hM k2
 by_cases k12 : x.k = 12
 ·exact object_12 ih x hN hM k12
 by_cases k3 : x.k = 3
 ·exact object_3 ih x hN hM k3
 by_cases k4 : x.k = 4
 ·exact object_4 ih x hN hM k4
 exact object_0 x k1 k2 k12 k3 k4
end Go.Ac
end

section
set_option maxRecDepth 4000
set_option linter.unusedSectionVars false
namespace Go.Ac
open Go.Proofs
variable [GwR]
def grpE (o : Int) : Int := if arE o = 0 then 0 else if booE o then 1 else if ariE o then 2 else if eqlE o then 3 else 4
theorem kf287 (r : Nat) : Ob.keep 287 r = Ob.k287 r := by kernel_rfl
theorem kf225 (r : Nat) : Ob.keep 225 r = Ob.k225 r := by kernel_rfl
attribute [local simp] kf287 Ob.k287 kf225 Ob.k225
set_option maxHeartbeats 4000000 in
theorem group162 (o : Int) : den Tryz.prog Ob.cfg 287 [dI o] = some (.tuple [dI (grpE o), dI (arE o)]) := by
 refine den_wp Tryz.func287 rfl (by kernel_rfl) rfl rfl ?_
 by_cases q1 : o = 1
 ·subst q1
  refine wkc (@dI.eq_1) ?_
  exact ⟨.inr rfl, _, _, rfl, rfl⟩
 have r1 := eq_false q1
 by_cases q2 : o = 2
 ·subst q2
  refine wkc (@dI.eq_1) ?_
  exact ⟨.inr rfl, _, _, rfl, rfl⟩
 have r2 := eq_false q2
 by_cases q3 : o = 3
 ·subst q3
  refine wkc (@dI.eq_1) ?_
  exact ⟨.inr rfl, _, _, rfl, rfl⟩
 have r3 := eq_false q3
 by_cases q4 : o = 4
 ·subst q4
  refine wkc (@dI.eq_1) ?_
  exact ⟨.inr rfl, _, _, rfl, rfl⟩
 have r4 := eq_false q4
 by_cases q5 : o = 5
 ·subst q5
  refine wkc (@dI.eq_1) ?_
  exact ⟨.inr rfl, _, _, rfl, rfl⟩
 have r5 := eq_false q5
 by_cases q6 : o = 6
 ·subst q6
  refine wkc (@dI.eq_1) ?_
  exact ⟨.inr rfl, _, _, rfl, rfl⟩
 have r6 := eq_false q6
 by_cases q7 : o = 7
 ·subst q7
  refine wkc (@dI.eq_1) ?_
  exact ⟨.inr rfl, _, _, rfl, rfl⟩
 have r7 := eq_false q7
 by_cases q8 : o = 8
 ·subst q8
  refine wkc (@dI.eq_1) ?_
  exact ⟨.inr rfl, _, _, rfl, rfl⟩
 have r8 := eq_false q8
 by_cases q9 : o = 9
 ·subst q9
  refine wkc (@dI.eq_1) ?_
  exact ⟨.inr rfl, _, _, rfl, rfl⟩
 have r9 := eq_false q9
 by_cases q10 : o = 10
 ·subst q10
  refine wkc (@dI.eq_1) ?_
  exact ⟨.inr rfl, _, _, rfl, rfl⟩
 have r10 := eq_false q10
 by_cases q11 : o = 11
 ·subst q11
  refine wkc (@dI.eq_1) ?_
  exact ⟨.inr rfl, _, _, rfl, rfl⟩
 have r11 := eq_false q11
 by_cases q12 : o = 12
 ·subst q12
  refine wkc (@dI.eq_1) ?_
  exact ⟨.inr rfl, _, _, rfl, rfl⟩
 have r12 := eq_false q12
 by_cases q13 : o = 13
 ·subst q13
  refine wkc (@dI.eq_1) ?_
  exact ⟨.inr rfl, _, _, rfl, rfl⟩
 have r13 := eq_false q13
 by_cases q14 : o = 14
 ·subst q14
  refine wkc (@dI.eq_1) ?_
  exact ⟨.inr rfl, _, _, rfl, rfl⟩
 have r14 := eq_false q14
 by_cases q15 : o = 15
 ·subst q15
  refine wkc (@dI.eq_1) ?_
  exact ⟨.inr rfl, _, _, rfl, rfl⟩
 have r15 := eq_false q15
 by_cases q16 : o = 16
 ·subst q16
  refine wkc (@dI.eq_1) ?_
  exact ⟨.inr rfl, _, _, rfl, rfl⟩
 have r16 := eq_false q16
 have h0 : arE o = 0 := by unfold arE; rw [if_neg (by omega), if_neg (by omega)]
 have h1 : grpE o = 0 := by unfold grpE; rw [if_pos h0]
 rw [h0, h1]
 refine wkc (jn @dI.eq_1 (jn @int_beq (jn @r1 (jn @r2 (jn @r3 (jn @r4 (jn @r5 (jn @r6 (jn @r7 (jn @r8 (jn @r9 (jn @r10 (jn @r11 (jn @r12 (jn @r13 (jn @r14 (jn @r15 @r16))))))))))))))))) ?_
 exact ⟨.inr rfl, _, _, rfl, rfl⟩

/-- The first operand that is not of the operator's type. -/
def badK (K y0 d : Int) : Bool := if K = 1 then !decide (d = 1) else if K = 3 then (!decide (d = y0) || decide (d < 1)) else !decide (d = 2)
theorem bools_of {o : Int} (h : arE o ≠ 0) : (booE o = true → eqlE o = false ∧ ariE o = false) ∧ (ariE o = true → eqlE o = false ∧ booE o = false) := by
 unfold booE ariE eqlE
 refine ⟨fun h => ?_, fun h => ?_⟩ <;> simp at h ⊢ <;> omega
theorem resE_bad {o y0 : Int} {l : List Int} (hy : l.head? = some y0) (h1 : arE o ≠ 0) (h2 : (l.length : Int) = arE o) : resE o l = if l.any (badK (grpE o) y0) then (0, 10) else if grpE o = 2 then (2, 0) else (1, 0) := by
 obtain ⟨e1, e2⟩ := bools_of h1
 unfold resE wantE grpE
 rw [if_neg h1, if_neg (by omega), if_neg h1]
 cases l with
 | nil => simp at hy
 | cons a r =>
 simp at hy; subst hy
 cases hb : booE o with
 | true =>
  obtain ⟨e3, e4⟩ := e1 hb
  simp [e3, e4, badK]
 | false =>
  cases ha : ariE o with
  | true =>
   obtain ⟨e3, e4⟩ := e2 ha
   have : badK 2 a = fun t => !decide (t = 2) := by funext t; simp [badK]
   simp [e3, this, badK]
  | false =>
   cases hq : eqlE o with
   | false =>
    have : badK 4 a = fun t => !decide (t = 2) := by funext t; simp [badK]
    simp [this, badK]
   | true =>
    simp [badK]
    by_cases hlt : a < 1
    ·simp [hlt]
    ·simp [hlt]
     have : (∃ x, x ∈ r ∧ ¬x = a) = (∃ x, x ∈ r ∧ (¬x = a ∨ x < 1)) := by
      refine propext ⟨fun ⟨x, h1, h2⟩ => ⟨x, h1, .inl h2⟩, fun ⟨x, h1, h2⟩ => ⟨x, h1, ?_⟩⟩
      omega
     simp only [this]
set_option maxHeartbeats 2000000 in
theorem res_1 (o : Int) (l : List Int) (y0 : Int) (hy : l.head? = some y0) (c1 : arE o ≠ 0) (c2 : (l.length : Int) = arE o) (hK : grpE o = 1) : den Tryz.prog Ob.cfg 225 [dI o, dL (encI l)] = some (.tuple [dI (resE o l).1, dI (resE o l).2]) := by
 have a1 := group162 o
 have har := arE_le o
 have hr := resE_bad hy c1 c2
 rw [hK] at a1 hr
 rw [hr]
 simp only [dI] at a1
 have c2' := eq_true c2
 have hp : 0 < l.length := by cases l with
  | nil => simp at hy
  | cons a r => simp
 have hl1 : idx 0 l.length = some 0 := by unfold idx; rw [if_pos ⟨by omega, by omega⟩]; rfl
 have e0 : (encI l)[0]? = some [.int .i64 y0] := encI_at (by rw [← List.head?_eq_getElem?]; exact hy)
 refine den_wp Tryz.func225 rfl (by kernel_rfl) rfl rfl ?_
 refine wkc (jn @dI.eq_1 (jn @dL.eq_1 (jn @a1 (jn @c2' (jn @int_beq (jn @int_bne @encI_len)))))) ?_
 apply WP.loop' (I := fun D s => ∃ j : Nat, j + D = l.length ∧ (l.take j).all (fun d => !badK 1 y0 d) = true ∧ SE [(1, dL (encI l)), (6, dI 1), (23, dL (encI l)), (24, dI l.length), (25, dI j)] [] 0 s) (d := l.length)
 ·exact ⟨0, by simp, by simp, SE.mk (by simp [dI, dL]) rfl⟩
 rintro D _ ⟨j, hj, hno, cc, rfl⟩
 refine wk (jn @dI.eq_1 (jn @dL.eq_1 @encI_len)) ?_
 show WP _ _ _ _ _ _
 refine WP.cond _ rfl (fun hb => ?_) (fun hb => ?_)
 ·simp at hb
  have hb' : j < l.length := by omega
  obtain ⟨d, hd, hdm, hix⟩ := at_lt hb'
  have hd' := encI_at hd
  have hw := w_succ hb' (by omega)
  have hs := all_snoc (p := fun d => !badK 1 y0 d) hd
  by_cases hq : d = 1
  ·have hbd : badK 1 y0 d = false := by subst hq; simp [badK]
   refine wkc (jn @dI.eq_1 (jn @dL.eq_1 (jn @encI_len (jn @hix (jn @hd' (jn @int_bne @hq)))))) ?_
   refine loop_next (by simp [hw]; exact Is.rfl) ?_
   exact ⟨D - 1, by omega, j + 1, by omega, by rw [hs, hno, hbd]; rfl, SE.mk (by simp [dI, dL, hw]) rfl⟩
  ·have hq' := eq_false hq
   have hbd : badK 1 y0 d = true := by simp [badK, hq]
   have ha : l.any (badK 1 y0) = true := List.any_eq_true.2 ⟨d, hdm, hbd⟩
   rw [ha]
   refine wkc (jn @dI.eq_1 (jn @dL.eq_1 (jn @encI_len (jn @hix (jn @hd' (jn @int_bne @hq')))))) ?_
   exact ⟨.inr rfl, _, _, rfl, rfl⟩
 ·simp at hb
  have hje : j = l.length := by omega
  rw [hje, List.take_length] at hno
  have ha : l.any (badK 1 y0) = false := by
   rw [List.any_eq_false]; intro t ht; simpa using List.all_eq_true.1 hno t ht
  rw [ha]
  refine wkc (jn @dI.eq_1 @dL.eq_1) ?_
  exact ⟨.inr rfl, _, _, rfl, rfl⟩
set_option maxHeartbeats 2000000 in
theorem res_2 (o : Int) (l : List Int) (y0 : Int) (hy : l.head? = some y0) (c1 : arE o ≠ 0) (c2 : (l.length : Int) = arE o) (hK : grpE o = 2) : den Tryz.prog Ob.cfg 225 [dI o, dL (encI l)] = some (.tuple [dI (resE o l).1, dI (resE o l).2]) := by
 have a1 := group162 o
 have har := arE_le o
 have hr := resE_bad hy c1 c2
 rw [hK] at a1 hr
 rw [hr]
 simp only [dI] at a1
 have c2' := eq_true c2
 have hp : 0 < l.length := by cases l with
  | nil => simp at hy
  | cons a r => simp
 have hl1 : idx 0 l.length = some 0 := by unfold idx; rw [if_pos ⟨by omega, by omega⟩]; rfl
 have e0 : (encI l)[0]? = some [.int .i64 y0] := encI_at (by rw [← List.head?_eq_getElem?]; exact hy)
 refine den_wp Tryz.func225 rfl (by kernel_rfl) rfl rfl ?_
 refine wkc (jn @dI.eq_1 (jn @dL.eq_1 (jn @a1 (jn @c2' (jn @int_beq (jn @int_bne @encI_len)))))) ?_
 apply WP.loop' (I := fun D s => ∃ j : Nat, j + D = l.length ∧ (l.take j).all (fun d => !badK 2 y0 d) = true ∧ SE [(1, dL (encI l)), (6, dI 2), (23, dL (encI l)), (24, dI l.length), (25, dI j)] [] 0 s) (d := l.length)
 ·exact ⟨0, by simp, by simp, SE.mk (by simp [dI, dL]) rfl⟩
 rintro D _ ⟨j, hj, hno, cc, rfl⟩
 refine wk (jn @dI.eq_1 (jn @dL.eq_1 @encI_len)) ?_
 show WP _ _ _ _ _ _
 refine WP.cond _ rfl (fun hb => ?_) (fun hb => ?_)
 ·simp at hb
  have hb' : j < l.length := by omega
  obtain ⟨d, hd, hdm, hix⟩ := at_lt hb'
  have hd' := encI_at hd
  have hw := w_succ hb' (by omega)
  have hs := all_snoc (p := fun d => !badK 2 y0 d) hd
  by_cases hq : d = 2
  ·have hbd : badK 2 y0 d = false := by subst hq; simp [badK]
   refine wkc (jn @dI.eq_1 (jn @dL.eq_1 (jn @encI_len (jn @hix (jn @hd' (jn @int_bne @hq)))))) ?_
   refine loop_next (by simp [hw]; exact Is.rfl) ?_
   exact ⟨D - 1, by omega, j + 1, by omega, by rw [hs, hno, hbd]; rfl, SE.mk (by simp [dI, dL, hw]) rfl⟩
  ·have hq' := eq_false hq
   have hbd : badK 2 y0 d = true := by simp [badK, hq]
   have ha : l.any (badK 2 y0) = true := List.any_eq_true.2 ⟨d, hdm, hbd⟩
   rw [ha]
   refine wkc (jn @dI.eq_1 (jn @dL.eq_1 (jn @encI_len (jn @hix (jn @hd' (jn @int_bne @hq')))))) ?_
   exact ⟨.inr rfl, _, _, rfl, rfl⟩
 ·simp at hb
  have hje : j = l.length := by omega
  rw [hje, List.take_length] at hno
  have ha : l.any (badK 2 y0) = false := by
   rw [List.any_eq_false]; intro t ht; simpa using List.all_eq_true.1 hno t ht
  rw [ha]
  refine wkc (jn @dI.eq_1 @dL.eq_1) ?_
  exact ⟨.inr rfl, _, _, rfl, rfl⟩
set_option maxHeartbeats 2000000 in
theorem res_3 (o : Int) (l : List Int) (y0 : Int) (hy : l.head? = some y0) (c1 : arE o ≠ 0) (c2 : (l.length : Int) = arE o) (hK : grpE o = 3) : den Tryz.prog Ob.cfg 225 [dI o, dL (encI l)] = some (.tuple [dI (resE o l).1, dI (resE o l).2]) := by
 have a1 := group162 o
 have har := arE_le o
 have hr := resE_bad hy c1 c2
 rw [hK] at a1 hr
 rw [hr]
 simp only [dI] at a1
 have c2' := eq_true c2
 have hp : 0 < l.length := by cases l with
  | nil => simp at hy
  | cons a r => simp
 have hl1 : idx 0 l.length = some 0 := by unfold idx; rw [if_pos ⟨by omega, by omega⟩]; rfl
 have e0 : (encI l)[0]? = some [.int .i64 y0] := encI_at (by rw [← List.head?_eq_getElem?]; exact hy)
 refine den_wp Tryz.func225 rfl (by kernel_rfl) rfl rfl ?_
 refine wkc (jn @dI.eq_1 (jn @dL.eq_1 (jn @a1 (jn @c2' (jn @int_beq (jn @int_bne @encI_len)))))) ?_
 apply WP.loop' (I := fun D s => ∃ j : Nat, j + D = l.length ∧ (l.take j).all (fun d => !badK 3 y0 d) = true ∧ SE [(1, dL (encI l)), (6, dI 3), (23, dL (encI l)), (24, dI l.length), (25, dI j)] [] 0 s) (d := l.length)
 ·exact ⟨0, by simp, by simp, SE.mk (by simp [dI, dL]) rfl⟩
 rintro D _ ⟨j, hj, hno, cc, rfl⟩
 refine wk (jn @dI.eq_1 (jn @dL.eq_1 @encI_len)) ?_
 show WP _ _ _ _ _ _
 refine WP.cond _ rfl (fun hb => ?_) (fun hb => ?_)
 ·simp at hb
  have hb' : j < l.length := by omega
  obtain ⟨d, hd, hdm, hix⟩ := at_lt hb'
  have hd' := encI_at hd
  have hw := w_succ hb' (by omega)
  have hs := all_snoc (p := fun d => !badK 3 y0 d) hd
  by_cases hq : d = y0
  ·have hq' := eq_true hq
   by_cases hlt : d < 1
   ·have hlt' := eq_true hlt
    have hbd : badK 3 y0 d = true := by simp [badK, hlt]
    have ha : l.any (badK 3 y0) = true := List.any_eq_true.2 ⟨d, hdm, hbd⟩
    rw [ha]
    refine wkc (jn @dI.eq_1 (jn @dL.eq_1 (jn @encI_len (jn @hix (jn @hd' (jn @int_bne (jn @hq' (jn @hlt' (jn @e0 @hl1))))))))) ?_
    exact ⟨.inr rfl, _, _, rfl, rfl⟩
   ·have hlt' := eq_false hlt
    have hbd : badK 3 y0 d = false := by subst hq; simp [badK]; omega
    refine wkc (jn @dI.eq_1 (jn @dL.eq_1 (jn @encI_len (jn @hix (jn @hd' (jn @int_bne (jn @hq' (jn @hlt' (jn @e0 @hl1))))))))) ?_
    refine loop_next (by simp [hw]; exact Is.rfl) ?_
    exact ⟨D - 1, by omega, j + 1, by omega, by rw [hs, hno, hbd]; rfl, SE.mk (by simp [dI, dL, hw]) rfl⟩
  ·have hq' := eq_false hq
   have hbd : badK 3 y0 d = true := by simp [badK, hq]
   have ha : l.any (badK 3 y0) = true := List.any_eq_true.2 ⟨d, hdm, hbd⟩
   rw [ha]
   refine wkc (jn @dI.eq_1 (jn @dL.eq_1 (jn @encI_len (jn @hix (jn @hd' (jn @int_bne (jn @hq' (jn @e0 @hl1)))))))) ?_
   exact ⟨.inr rfl, _, _, rfl, rfl⟩
 ·simp at hb
  have hje : j = l.length := by omega
  rw [hje, List.take_length] at hno
  have ha : l.any (badK 3 y0) = false := by
   rw [List.any_eq_false]; intro t ht; simpa using List.all_eq_true.1 hno t ht
  rw [ha]
  refine wkc (jn @dI.eq_1 @dL.eq_1) ?_
  exact ⟨.inr rfl, _, _, rfl, rfl⟩
set_option maxHeartbeats 2000000 in
theorem res_4 (o : Int) (l : List Int) (y0 : Int) (hy : l.head? = some y0) (c1 : arE o ≠ 0) (c2 : (l.length : Int) = arE o) (hK : grpE o = 4) : den Tryz.prog Ob.cfg 225 [dI o, dL (encI l)] = some (.tuple [dI (resE o l).1, dI (resE o l).2]) := by
 have a1 := group162 o
 have har := arE_le o
 have hr := resE_bad hy c1 c2
 rw [hK] at a1 hr
 rw [hr]
 simp only [dI] at a1
 have c2' := eq_true c2
 have hp : 0 < l.length := by cases l with
  | nil => simp at hy
  | cons a r => simp
 have hl1 : idx 0 l.length = some 0 := by unfold idx; rw [if_pos ⟨by omega, by omega⟩]; rfl
 have e0 : (encI l)[0]? = some [.int .i64 y0] := encI_at (by rw [← List.head?_eq_getElem?]; exact hy)
 refine den_wp Tryz.func225 rfl (by kernel_rfl) rfl rfl ?_
 refine wkc (jn @dI.eq_1 (jn @dL.eq_1 (jn @a1 (jn @c2' (jn @int_beq (jn @int_bne @encI_len)))))) ?_
 apply WP.loop' (I := fun D s => ∃ j : Nat, j + D = l.length ∧ (l.take j).all (fun d => !badK 4 y0 d) = true ∧ SE [(1, dL (encI l)), (6, dI 4), (23, dL (encI l)), (24, dI l.length), (25, dI j)] [] 0 s) (d := l.length)
 ·exact ⟨0, by simp, by simp, SE.mk (by simp [dI, dL]) rfl⟩
 rintro D _ ⟨j, hj, hno, cc, rfl⟩
 refine wk (jn @dI.eq_1 (jn @dL.eq_1 @encI_len)) ?_
 show WP _ _ _ _ _ _
 refine WP.cond _ rfl (fun hb => ?_) (fun hb => ?_)
 ·simp at hb
  have hb' : j < l.length := by omega
  obtain ⟨d, hd, hdm, hix⟩ := at_lt hb'
  have hd' := encI_at hd
  have hw := w_succ hb' (by omega)
  have hs := all_snoc (p := fun d => !badK 4 y0 d) hd
  by_cases hq : d = 2
  ·have hbd : badK 4 y0 d = false := by subst hq; simp [badK]
   refine wkc (jn @dI.eq_1 (jn @dL.eq_1 (jn @encI_len (jn @hix (jn @hd' (jn @int_bne @hq)))))) ?_
   refine loop_next (by simp [hw]; exact Is.rfl) ?_
   exact ⟨D - 1, by omega, j + 1, by omega, by rw [hs, hno, hbd]; rfl, SE.mk (by simp [dI, dL, hw]) rfl⟩
  ·have hq' := eq_false hq
   have hbd : badK 4 y0 d = true := by simp [badK, hq]
   have ha : l.any (badK 4 y0) = true := List.any_eq_true.2 ⟨d, hdm, hbd⟩
   rw [ha]
   refine wkc (jn @dI.eq_1 (jn @dL.eq_1 (jn @encI_len (jn @hix (jn @hd' (jn @int_bne @hq')))))) ?_
   exact ⟨.inr rfl, _, _, rfl, rfl⟩
 ·simp at hb
  have hje : j = l.length := by omega
  rw [hje, List.take_length] at hno
  have ha : l.any (badK 4 y0) = false := by
   rw [List.any_eq_false]; intro t ht; simpa using List.all_eq_true.1 hno t ht
  rw [ha]
  refine wkc (jn @dI.eq_1 @dL.eq_1) ?_
  exact ⟨.inr rfl, _, _, rfl, rfl⟩
set_option maxHeartbeats 1000000 in
theorem res193 (o : Int) (l : List Int) : den Tryz.prog Ob.cfg 225 [dI o, dL (encI l)] = some (.tuple [dI (resE o l).1, dI (resE o l).2]) := by
 by_cases c1 : arE o = 0
 ·have a1 := group162 o
  rw [c1, show grpE o = 0 by unfold grpE; rw [if_pos c1]] at a1
  simp only [dI] at a1
  rw [show resE o l = (0, 2) by unfold resE; rw [if_pos c1]]
  refine den_wp Tryz.func225 rfl (by kernel_rfl) rfl rfl ?_
  refine wkc (jn @dI.eq_1 (jn @dL.eq_1 @a1)) ?_
  exact ⟨.inr rfl, _, _, rfl, rfl⟩
 have hg : ∃ K, grpE o = K ∧ (K = 1 ∨ K = 2 ∨ K = 3 ∨ K = 4) := by
  refine ⟨_, rfl, ?_⟩
  unfold grpE; rw [if_neg c1]; split
  ·exact .inl rfl
  ·split
   ·exact .inr (.inl rfl)
   ·split
    ·exact .inr (.inr (.inl rfl))
    ·exact .inr (.inr (.inr rfl))
 obtain ⟨K, hK, hKc⟩ := hg
 by_cases c2 : (l.length : Int) = arE o
 ·have hy : ∃ y0, l.head? = some y0 := by
   cases l with
   | nil => simp at c2; omega
   | cons a r => exact ⟨a, rfl⟩
  obtain ⟨y0, hy⟩ := hy
  rcases hKc with rfl | rfl | rfl | rfl
  ·exact res_1 o l y0 hy c1 c2 hK
  ·exact res_2 o l y0 hy c1 c2 hK
  ·exact res_3 o l y0 hy c1 c2 hK
  ·exact res_4 o l y0 hy c1 c2 hK
 ·have a1 := group162 o
  rw [hK] at a1
  simp only [dI] at a1
  rw [show resE o l = (0, 9) by unfold resE; rw [if_neg c1, if_pos c2]]
  have c2' := eq_false c2
  have k0 : (K = 0) = False := eq_false (by omega)
  refine den_wp Tryz.func225 rfl (by kernel_rfl) rfl rfl ?_
  refine wkc (jn @dI.eq_1 (jn @dL.eq_1 (jn @a1 (jn @c2' (jn @k0 (jn @int_beq (jn @int_bne @encI_len))))))) ?_
  exact ⟨.inr rfl, _, _, rfl, rfl⟩
end Go.Ac
end
