/- The interpreter's run of a word's node: the rows of all instants. No conditions. -/
import Derived.Test.YtkimfnammkljoaaGreatDoorGwU7
import Derived.Test.YtkimfnammkljoaaGreatDoorGwAcM
set_option linter.unusedVariables false
set_option linter.unusedSimpArgs false
set_option maxRecDepth 8000
set_option linter.unusedSectionVars false
namespace Go.Ac.Gw
open Go Go.Ac Go.Proofs
variable [GwR]
theorem t10_ok : TabOK Tryz.prog cfg2 (tabL [E10]) := tabL_ok ⟨e10, trivial⟩
theorem ti54 : mkTI Tryz.prog 54 = some ⟨.slice 67 1 24, 1, 24, zOf 54⟩ := by kernel_rfl
theorem ti67 : mkTI Tryz.prog 67 = some ⟨.slice 69 2 16, 1, 24, zOf 67⟩ := by kernel_rfl
theorem zz67 : zOf 67 = some [.full []] := by kernel_rfl
theorem k14 : cfg2.keep 7 14 = some [32, 31, 30, 11, 10] := rfl
theorem k15 : cfg2.keep 7 15 = some [32, 31, 30, 11, 10] := rfl
theorem k16 : cfg2.keep 7 16 = none := rfl
theorem f14 : cfg2.fz 7 14 = (true, false) := rfl
theorem f15 : cfg2.fz 7 15 = (false, false) := rfl
theorem f16 : cfg2.fz 7 16 = (false, false) := rfl
theorem o7w : cfg2.own 7 = false := rfl
theorem m14 : cfg2.mat 7 14 = [] := rfl
theorem m15 : cfg2.mat 7 15 = [] := rfl
theorem m16 : cfg2.mat 7 16 = [] := rfl
attribute [local simp] Hp.get_set get_trunc_lt ti54 ti67 zz67 k14 k15 k16 f14 f15 f16 o7w m14 m15 m16
def S7b (N : Nat) (rows : List (List D)) (t g : Nat) (L : List V) (b : Bool) : St := ⟨[(32, .d (i t)), (31, .d (i N)), (30, .d (.slice rows)), (11, .mv 22 (.ptr 6 6 0)), (10, .osl 17 g 0 t 1 none), (33, .d (.bool b))], H7 t g L, 18, 18 + 4123 * t, 0, []⟩
theorem fl_want (t : Nat) : fl (wantD (t + 1)) = fl (wantD t) ++ [.d (.slice (wantC t))] := by
 unfold wantD fl
 rw [wantR_succ]
 simp
theorem q7_of {t N g : Nat} {rows : List (List D)} {L : List V} {x : Option (Ex × St)} (h : q7 t x = (true, [.d (i N), .d (.slice rows), .osl 17 g 0 t 1 none], [(17, ⟨g, false, L⟩)])) :
  ∃ hp, x = some (.normal, ⟨ev7 N rows t g, hp, 43, 4139 + 4123 * t, 0, []⟩) ∧ Hp.trunc 18 hp = H7 (t + 1) g L ∧ hp.get 42 = some (row7 t) := by
 unfold q7 at h
 split at h
 ·rename_i k0 a k1 b k2 r k3 m k4 o k5 w k6 y hp n c n0 wl
  simp only [Prod.mk.injEq, Bool.and_eq_true, List.cons.injEq, and_true] at h
  obtain ⟨⟨⟨⟨⟨⟨⟨⟨h1, h2⟩, h3⟩, h4⟩, h5⟩, h6⟩, h7⟩, h8⟩, ⟨h9, h10, h11⟩, h12⟩ := h
  have h1 := beqNs_ok h1
  simp only [List.cons.injEq, and_true] at h1
  obtain ⟨rfl, rfl, rfl, rfl, rfl, rfl, rfl⟩ := h1
  have h2 := beqVs_ok _ _ h2
  simp only [List.cons.injEq, and_true] at h2
  obtain ⟨rfl, rfl, rfl, rfl⟩ := h2
  have h3 := beqHp_ok h3
  have h5 := Nat.eq_of_beq_eq_true h5
  have h6 := Nat.eq_of_beq_eq_true h6
  have h7 := Nat.eq_of_beq_eq_true h7
  have h8 := List.isEmpty_iff.1 h8
  subst h5; subst h6; subst h7; subst h8; subst h9; subst h10; subst h11
  refine ⟨hp, rfl, ?_, ?_⟩
  ·have e := List.take_append_drop 17 (Hp.trunc 18 hp)
   rw [h12, h3] at e
   rw [← e]; rfl
  ·split at h4
   ·rename_i ob hob
    rw [hob, beqO_ok h4]
   ·cases h4
 ·cases h
theorem H7_set (t g g' : Nat) (L L' : List V) : (H7 t g L).set 17 ⟨g', false, L'⟩ = H7 t g' L' := by
 unfold H7
 simp [Hp.set]
set_option maxHeartbeats 4000000 in
theorem run7 (rows : List (List D)) (hN : rows.length < 130) (hr : List.replicate rows.length [D.slice []] = rows) :
  den Tryz.prog cfg2 7 [.agg [.d l0, .d d8], .d (s [102]), .d (.slice rows)] = some (.tuple [.d (.slice (wantD rows.length)), .d (i 0)]) := by
 refine den_wp Tryz.func7 rfl (by kernel_rfl) rfl rfl ?_
 refine WP.seq (WP.run noT_ok 2000 (by kernel_rfl) ?_)
 refine WP.seq (WP.run t10_ok 2000 (by kernel_rfl) ?_)
 refine WP.seq (WP.run noT_ok 2000 (by kernel_rfl) ?_)
 refine WP.seq (WP.seq (WP.run noT_ok 2000 (by kernel_rfl) ?_))
 refine WP.cond (decide ((rows.length : Int) > 4096)) (by kernel_rfl) (fun hb => ?_) (fun hb => ?_)
 ·exfalso
  have := of_decide_eq_true hb
  omega
 refine WP.skip ?_
 refine WP.seq (WP.run noT_ok 2000 (by kernel_rfl) ?_)
 refine WP.seq (WP.run noT_ok 2000 (by kernel_rfl) ?_)
 refine WP.seq (WP.seq (WP.run noT_ok 2000 (by kernel_rfl) ?_))
 refine WP.block ?_
 refine WP.loop' (I := fun d1 st => ∃ (t g : Nat), t + d1 = rows.length ∧ st = S7 rows.length rows t g (fl (wantD t))) (d := rows.length) ⟨0, 17, by omega, by kernel_rfl⟩ ?_
 rintro d0 _ ⟨t, g, hD, rfl⟩
 refine WP.seq (WP.run noT_ok 2000 (by kernel_rfl) ?_)
 generalize hs : stQ _ _ = σ
 have hs : σ = S7b rows.length rows t g (fl (wantD t)) (decide ((t : Int) < (rows.length : Int))) := hs.symm.trans (by kernel_rfl)
 subst hs
 refine WP.seq (WP.cond (decide ((t : Int) < (rows.length : Int))) rfl (fun hb => ?_) (fun hb => ?_))
 ·rw [hb]
  have htN : t < rows.length := by have := of_decide_eq_true hb; omega
  refine WP.skip ?_
  refine WP.seq (WP.block ?_)
  have hR := u7_130 t (by omega) rows.length g (List.replicate (rows.length - (t + 1)) [D.slice []]) (fl (wantD t))
  rw [← rep_take _ (show t + 1 ≤ rows.length by omega), hr] at hR
  obtain ⟨hp, hx, htr, h42⟩ := q7_of hR
  refine WP.run3 noT_ok 1998 ?_ ?_
  ·show isN (execQ noT _ cfg2 2000 7 pre7 (S7c rows.length rows t g (fl (wantD t)))) = true
   rw [hx]; rfl
  show WP _ _ _ _ (stQ _ (execQ noT _ cfg2 2000 7 pre7 (S7c rows.length rows t g (fl (wantD t))))) _
  rw [hx]
  show WP _ _ _ _ ⟨ev7 rows.length rows t g, hp, 43, 4139 + 4123 * t, 0, []⟩ _
  have h17 : hp.get 17 = some ⟨g, false, fl (wantD t)⟩ := by rw [← Hp.get_trunc hp 18 17 (by omega), htr]; rfl
  unfold row7 at h42
  unfold ev7
  have r2 := fl_len (wantR_row t)
  have r3 := fl_take (wantR_row t)
  rw [wantD_len, Nat.mul_one] at r2 r3
  have f1 : fitsB (t + 1) 24 = true := by simp [fitsB]; omega
  have hi : ∀ n : Nat, i n = .int .i64 (n : Int) := fun _ => rfl
  simp only [hi] at h42 ⊢
  have hcl : toD hp.get depthD (.osl 42 (4138 + 4123 * t) 0 1 2 none) = some (.slice [[.int .i64 1, .sym (1000 + t)]], [42]) := by
   rw [toD_dep]
   simp [live, h42, toDs, toD_d, chunk]
  have hbl : Nat.ble t t = true := by simp
  refine wkc (jn @h17 (jn @h42 (jn @r2 (jn @r3 (jn @f1 (jn @fillV.eq_1 (jn @fillV.eq_2 (jn @closeParts.eq_1 (jn @closeParts.eq_2 (jn @cl2.eq_def (jn @hcl @hbl))))))))))) ?_
  have hw : IntKind.i64.wrap ((t : Int) + 1) = ((t + 1 : Nat) : Int) := w_succ htN (by omega)
  refine loop_next (t' := S7 rows.length rows (t + 1) (4139 + 4123 * t + 1) (fl (wantD (t + 1)))) ?_ ⟨d0 - 1, by omega, t + 1, _, by omega, rfl⟩
  show cut cfg2 7 _ _ = _
  unfold cut
  simp only [o7w, Bool.false_eq_true, if_false]
  show (⟨_, Hp.trunc 18 (((hp.set 42 _).set 43 _).set 17 _), 18, _, _, _⟩ : St) = _
  rw [trunc_set_lt (by omega), trunc_set_ge (by omega), trunc_set_ge (by omega), htr, H7_set, hw, show 4139 + 4123 * t + 2 = 18 + 4123 * (t + 1) by omega, fl_want]
  rfl
 ·rw [hb]
  have htN : t = rows.length := by have := of_decide_eq_false hb; omega
  subst htN
  refine WP.exit ?_
  show WP _ _ _ _ _ _
  unfold S7b
  refine wkc (@hN) ?_
  refine ⟨.inr rfl, [.osl 17 g 0 rows.length 1 none, .d (i 0)], [17], rfl, ?_⟩
  have h1 := close_fl (look := (H7 rows.length g (fl (wantD rows.length))).get) (id := 17) (g := g) (ro := false) (cap := none) (wantR_row rows.length) rfl
  rw [wantD_len] at h1
  exact close_tup2 h1
end Go.Ac.Gw
