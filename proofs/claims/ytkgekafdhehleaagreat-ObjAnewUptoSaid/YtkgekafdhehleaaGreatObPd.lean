/- Places of the program. -/
import Derived.Test.YtkgekafdhehleaaGreatObPcM
set_option linter.unusedVariables false
set_option linter.unusedSimpArgs false
set_option maxRecDepth 4000
namespace Go.Ac
open Go.Proofs
/-- A place: the branches that one is in, the lists before. -/
def pP (cx : List Pr) (bl : List (List Y)) : V := .agg [.d (.slice (encP cx)), .d (.slice (encB bl))]
theorem kf112 (r : Nat) : Ob.keep 112 r = Ob.k112 r := by kernel_rfl
theorem kf71 (r : Nat) : Ob.keep 71 r = Ob.k71 r := by kernel_rfl
theorem kf110 (r : Nat) : Ob.keep 110 r = Ob.k110 r := by kernel_rfl
attribute [local simp] kf112 Ob.k112 kf71 Ob.k71 kf110 Ob.k110
theorem asL_flat (x : Tx) (all : Bool) (cx : List Pr) : ∀ bl : List (List Y), bl.any (asL x all cx) = asL x all cx bl.flatten
 | [] => by rw [List.flatten_nil, asL]; rfl
 | b :: r => by rw [List.any_cons, asL_flat x all cx r, List.flatten_cons]; simp only [asL_any, List.any_append]
theorem call112 {nm : Tx} {cx : List Pr} {can b : Bool} {l : List Y} {bf : D} (h : den Tryz.prog Ob.cfg 113 [dL (encY l), dS nm, dL (encP cx), dB can] = some (dB b)) {i1 g1 i2 g2 i3 g3 : Nat} (hp : Hp) (n c : Nat)
  (h1 : hp.get i1 = some ⟨g1, false, [dS nm]⟩) (h2 : hp.get i2 = some ⟨g2, false, [dL (encP cx), .d bf]⟩) (h3 : hp.get i3 = some ⟨g3, false, [dB can]⟩) (l1 : i1 < n) (l2 : i2 < n) (l3 : i3 < n) :
  Quiet Tryz.prog Ob.cfg 112 [dL (encY l), .ptr i1 g1 0, .ptr i2 g2 0, .ptr i3 g3 0] hp n c (.bool b) := by
 simp only [dL, dS, dB] at h h1 h2 h3
 refine quiet_wp Tryz.func112 rfl (by kernel_rfl) rfl ?_
 refine wkqn (jn @envOf.eq_1 (jn @envOf.eq_2 (jn @dL.eq_1 (jn @dS.eq_1 (jn @dB.eq_1 (jn @h1 (jn @h2 (jn @h3 @h)))))))) ?_
 exact ⟨.inr rfl, rfl, _, rfl, rfl⟩
theorem assigned71 (nm : Tx) (can : Bool) (cx : List Pr) (bl : List (List Y)) (hl : bl.length ≤ MX) (hnb : nbB bl = true) (hb : cx.length + szY bl.flatten ≤ 8388608) : den Tryz.prog Ob.cfg 71 [pP cx bl, dS nm, dB can] = some (dB (asL nm (!can) cx bl.flatten)) := by
 have hsz : ∀ l, l ∈ bl → szY l ≤ szY bl.flatten := by
  intro l hl
  induction bl with
  | nil => simp at hl
  | cons b r ih =>
   rw [List.flatten_cons, szY_app]
   rcases List.mem_cons.1 hl with rfl | h
   ·omega
   ·have := ih (by rw [List.length_cons] at *; unfold MX at *; omega) (by rw [nbB, Bool.and_eq_true] at hnb; exact hnb.2) (by rw [List.flatten_cons, szY_app] at hb; omega) h; omega
 rw [nbB_all] at hnb
 have hQ := fun c => contains111 (i1 := 1) (g1 := 1) (i2 := 0) (g2 := 0) (i3 := 2) (g3 := 2) (p := asL nm (!can) cx) bl hl [(0, ⟨0, false, [dL (encP cx), dL (encB bl)]⟩), (1, ⟨1, false, [dS nm]⟩), (2, ⟨2, false, [dB can]⟩)] 3
  (fun l hl hp' c hag => call112 (bf := .slice (encB bl)) (somep nm can _ l cx (Nat.lt_succ_self _) (List.all_eq_true.1 hnb l hl) (by have := hsz l hl; omega)) hp' 3 c ((hag 1 (by omega)).trans rfl) ((hag 0 (by omega)).trans rfl) ((hag 2 (by omega)).trans rfl) (by omega) (by omega) (by omega)) c
 obtain ⟨h5, h6, h4⟩ := Quiet.fn hQ
 simp only [dL, dS, dB] at h4
 rw [← asL_flat]
 refine den_wp Tryz.func71 rfl (by kernel_rfl) rfl rfl ?_
 refine wkqn (jn @pP.eq_1 (jn @dL.eq_1 (jn @dS.eq_1 (jn @dB.eq_1 @h4)))) ?_
 show retQ _ _ _ _ _
 exact ⟨.inr rfl, _, _, rfl, rfl⟩
theorem encB_row (l : List (List Y)) : ∀ r ∈ encB l, r.length = 1 := by rw [encB_map]; intro r hr; obtain ⟨x, _, rfl⟩ := List.mem_map.1 hr; rfl
theorem encB_snoc (l : List (List Y)) (y : List Y) : encB l ++ [[.slice (encY y)]] = encB (l ++ [y]) := by simp [encB_map]
theorem encY_take (l : List Y) (j : Nat) : (encY l).take j = encY (l.take j) := by rw [encY_map, encY_map, List.map_take]
set_option maxHeartbeats 1000000 in
theorem at110 (cx : List Pr) (bl : List (List Y)) (l : List Y) (i : Nat) (hi : i ≤ l.length) (hb : bl.length ≤ 8388608) (hl : l.length ≤ 8388608) : den Tryz.prog Ob.cfg 110 [pP cx bl, dL (encY l), dI i] = some (pP cx (bl ++ [l.take i])) := by
 have hsl := fun look e b z => slice_rows look e b z (encY_row l) (j := i) (by rw [encY_len]; omega)
 have etk := encY_take l i
 have r1 := fun look => rows_fl look (encB_row bl)
 have r2 := fl_len (encB_row bl)
 have r3 := fl_take (encB_row bl)
 have r4 := fl_snoc (encB bl) [.slice (encY (l.take i))]
 have r5 := encB_snoc bl (l.take i)
 have r6 := fl_len (encB_row (bl ++ [l.take i]))
 have r7 := fl_take (encB_row (bl ++ [l.take i]))
 have r8 := chunk_flat (encB_row (bl ++ [l.take i]))
 have f1 : fitsB bl.length 24 = true := by simp [fitsB]; omega
 have f2 : fitsB (bl.length + 1) 24 = true := by simp [fitsB]; omega
 rw [r5] at r4
 rw [encB_len] at r2 r3
 simp only [encB_len] at r1
 simp only [encB_len, List.length_append, List.length_cons, List.length_nil, Nat.zero_add, Nat.mul_one] at r2 r3 r6 r7 r8
 simp only [List.map_cons, List.map_nil] at r4
 refine den_wp Tryz.func110 rfl (by kernel_rfl) rfl rfl ?_
 refine wkqn (jn @pP.eq_1 (jn @dL.eq_1 (jn @dI.eq_1 (jn @hsl (jn @etk (jn @r1 (jn @r2 (jn @r3 (jn @r4 (jn @r6 (jn @r7 (jn @r8 (jn @f1 (jn @f2 (jn @fillV.eq_1 (jn @fillV.eq_2 (jn @closeParts.eq_1 (jn @closeParts.eq_2 (jn @toD_dep (jn @toD_d (jn @toDs_fl @nble_d))))))))))))))))))))) ?_
 refine ⟨.inr rfl, _, [2], rfl, ?_⟩
 show closeT _ (.agg [V.d (D.slice (encP cx)), V.osl 2 4 0 (bl.length + 1) 1 none]) = _
 simp [closeT, pP, toD_d, toD_dep, r6, r7, r8, toDs_fl, nble_d]
end Go.Ac
