/- Statements under a clock: the program's. -/
import Derived.Test.YtmjkclonkhempaaGreatDoorGdGM
set_option linter.unusedVariables false
set_option linter.unusedSimpArgs false
section
set_option maxRecDepth 4000
namespace Go.Ac
open Go.Proofs
attribute [local simp] Hp.get_set get_trunc_lt
mutual
/-- The statement that assigns an expression. -/
def asgX (nm : Tx) : X → Y
 | .mk k o t v n args => if k = 9 then .mk 3 n t (.mk 0 0 0 0 [] []) [] [] (asgXs nm args) else .mk 1 nm 0 (stX (.mk k o t v n args)) [] [] []
def asgXs (nm : Tx) : List X → List (List Y)
 | [] => []
 | x :: r => [asgX nm x] :: asgXs nm r
end
theorem asgXs_map (nm : Tx) : ∀ l : List X, asgXs nm l = l.map fun x => [asgX nm x]
 | [] => by rw [asgXs]; rfl
 | x :: r => by rw [asgXs, asgXs_map nm r]; rfl
theorem kf38 (r : Nat) : Ob.keep 38 r = Ob.k38 r := by kernel_rfl
attribute [local simp] kf38 Ob.k38
set_option maxHeartbeats 16000000 in
theorem assign38 (nm : Tx) : ∀ (N : Nat) (x : X), x.sz < N → x.sz ≤ 4194304 → den Tryz.prog Ob.cfg 38 [dS nm, aG x.cells] = some (aG (asgX nm x).cells)
 | 0, x, hN, hM => by omega
 | N + 1, x, hN, hM => by
  have hs0 := X.sz_eq x
  have hlen := len_szX x.args
  refine den_wp Tryz.func38 rfl (by kernel_rfl) rfl (by rw [Y.cells_eq]; rfl) ?_
  by_cases ck : x.k = 9
  ·have e : asgX nm x = .mk 3 x.nm x.t (.mk 0 0 0 0 [] []) [] [] (asgXs nm x.args) := by
    cases x; simp only [X.k] at ck; subst ck; rw [asgX]; simp [X.nm, X.t, X.args]
   rw [e]
   have e2 : aG (Y.mk 3 x.nm x.t (.mk 0 0 0 0 [] []) [] [] (asgXs nm x.args)).cells = .agg [.d (.int .i64 3), .d (.str x.nm), .d (.int .i64 x.t), .d (.int .i64 0), .d (.int .i64 0), .d (.int .i64 0), .d (.int .i64 0), .d (.str []), .d (.slice []), .d (.slice []), .d (.slice []), .d (.slice (encB (asgXs nm x.args)))] := by simp [aG, Y.cells, X.cells, encX_map, encS]
   rw [e2]
   have hk := eq_true ck
   refine wkc (jn @envOf.eq_1 (jn @envOf.eq_2 (jn @aG.eq_1 (jn @X.cells_eq (jn @int_bne (jn @hk (jn @fillV.eq_1 (jn @fillV.eq_2 (jn @encX_len @dS.eq_1))))))))) ?_
   apply WP.loop' (I := fun D s => ∃ (j g c' : Nat) (hp' : Hp), j + D = x.args.length ∧ hp'.get 3 = some ⟨g, false, fl (encB (asgXs nm (x.args.take j)))⟩ ∧ hp'.get 0 = some ⟨0, false, [.d (.int .i64 x.k), .d (.int .i64 x.o), .d (.int .i64 x.t), .d (.int .i64 x.v), .d (.str x.nm), .d (.slice (encX x.args))]⟩ ∧ hp'.get 1 = some ⟨1, false, [.d (.int .i64 0), .d (.str []), .d (.int .i64 0), .d (.int .i64 0), .d (.int .i64 0), .d (.int .i64 0), .d (.int .i64 0), .d (.str []), .full [], .full [], .full [], .full []]⟩ ∧ hp'.get 2 = some ⟨2, false, [.d (.int .i64 3), .d (.str x.nm), .d (.int .i64 x.t), .d (.int .i64 0), .d (.int .i64 0), .d (.int .i64 0), .d (.int .i64 0), .d (.str []), .full [], .full [], .full [], .osl 3 g 0 j 1 none]⟩ ∧
    s = ⟨[(0, dS nm), (3, .ptr 0 0 0), (4, .ptr 1 1 0), (5, .ptr 2 2 0), (6, dI j)], hp', 4, c', 0, []⟩) (d := x.args.length)
   ·exact ⟨0, 3, _, _, by simp, by simp [fl, asgXs, encB_map], by simp, by simp, by simp, st_eq (by simp [dI, dL, dS]) rfl⟩
   rintro D _ ⟨j, g, c', hp', hj, hx, h0, h1, h2, rfl⟩
   refine wk (jn @dI.eq_1 (jn @dL.eq_1 (jn @dS.eq_1 (jn @h0 @encX_len)))) ?_
   have hLl : (encB (asgXs nm (x.args.take j))).length = j := by rw [encB_len, asgXs_map, List.length_map, List.length_take]; omega
   show WP _ _ _ _ _ _
   refine WP.cond _ rfl (fun hb => ?_) (fun hb => ?_)
   ·simp at hb
    have hb' : j < x.args.length := by omega
    obtain ⟨d, hd, hdm, hix⟩ := at_lt hb'
    have hd' := encX_at hd
    have hwj := w_succ hb' (by omega)
    have hms := mem_szX hdm
    have hc := assign38 nm N d (by omega) (by omega)
    obtain ⟨z, hz⟩ : ∃ z, z = asgX nm d := ⟨_, rfl⟩
    rw [← hz] at hc
    simp only [aG, X.cells_eq, Y.cells_eq, List.map_cons, List.map_nil, dS] at hc
    have hsn : asgXs nm (x.args.take (j + 1)) = asgXs nm (x.args.take j) ++ [[z]] := by rw [asgXs_map, asgXs_map, take_snoc hd, hz]; simp
    have r2 := fl_len (encB_row (asgXs nm (x.args.take j)))
    have r3 := fl_take (encB_row (asgXs nm (x.args.take j)))
    have r4 := fl_snoc (encB (asgXs nm (x.args.take j))) [.slice (encY [z])]
    have f5 : fitsB (j + 1) 24 = true := by simp [fitsB]; omega
    have hY : encY [z] = [[.int .i64 z.k, .str z.nm, .int .i64 z.t, .int .i64 z.r.k, .int .i64 z.r.o, .int .i64 z.r.t, .int .i64 z.r.v, .str z.r.nm, .slice (encX z.r.args), .slice (encS z.outs), .slice (encX z.args), .slice (encB z.brs)]] := by rw [encY_map]; simp [Y.cells_eq]
    rw [encB_snoc, ← hsn, hY] at r4
    rw [hLl, Nat.mul_one] at r2 r3
    simp only [List.map_cons, List.map_nil] at r4
    refine wkc (jn @dI.eq_1 (jn @dL.eq_1 (jn @dS.eq_1 (jn @X.cells_eq (jn @hix (jn @hd' (jn @hc (jn @fillV.eq_1 (jn @fillV.eq_2 (jn @closeParts.eq_1 (jn @closeParts.eq_2 (jn @cl2.eq_def (jn @toD_dep (jn @toD_d (jn @toDs.eq_1 (jn @toDs.eq_2 (jn @chunk.eq_1 (jn @chunk.eq_2 (jn @nble_d (jn @f5 (jn @r2 (jn @r3 (jn @r4 (jn @hx (jn @h0 (jn @h1 @h2)))))))))))))))))))))))))) ?_
    refine loop_next (by simp [hwj]; exact Is.rfl) ?_
    exact ⟨D - 1, by omega, j + 1, _, _, _, by omega, by simp; rfl, by simp [h0], by simp [h1], by simp, st_eq (by simp [dI, dL, dS, hwj]) rfl⟩
   ·simp at hb
    have hje : j = x.args.length := by omega
    rw [hje, List.take_length] at hx hLl
    have hcl := fun a => toD_fl (cap := none) (id := 3) (g := g) (ro := false) (look := ((hp'.set 1 a)).get) (encB_row (asgXs nm x.args)) (by simp; exact hx)
    rw [hLl, ← hje] at hcl
    refine wkc (jn @dI.eq_1 (jn @dL.eq_1 (jn @hx (jn @h0 (jn @h1 (jn @h2 (jn @fillV.eq_1 @fillV.eq_2))))))) ?_
    refine ⟨.inr rfl, [.agg [.d (.int .i64 3), .d (.str x.nm), .d (.int .i64 x.t), .d (.int .i64 0), .d (.int .i64 0), .d (.int .i64 0), .d (.int .i64 0), .d (.str []), .full [], .full [], .full [], .osl 3 g 0 j 1 none]], [3], ?_, ?_⟩
    ·show resultsV Tryz.prog _ [_] = _
     simp [resultsV, resultV]
    ·show closeT _ (.agg _) = _
     simp only [closeT, close, closeVs, close1, toD_d, toD_full, ofD, hcl]; simp
  ·have e : asgX nm x = .mk 1 nm 0 (stX x) [] [] [] := by
    cases x; simp only [X.k] at ck; rw [asgX, if_neg ck]
   have hk := eq_false ck
   have hc := strip64 (x.sz + 1) x (by omega) (by omega)
   obtain ⟨z, hz⟩ : ∃ z, z = stX x := ⟨_, rfl⟩
   rw [e, ← hz]
   rw [← hz] at hc
   have e2 : aG (Y.mk 1 nm 0 z [] [] []).cells = .agg [.d (.int .i64 1), .d (.str nm), .d (.int .i64 0), .d (.int .i64 z.k), .d (.int .i64 z.o), .d (.int .i64 z.t), .d (.int .i64 z.v), .d (.str z.nm), .d (.slice (encX z.args)), .d (.slice []), .d (.slice []), .d (.slice [])] := by simp [aG, Y.cells, X.cells_eq, encX_map, encS, encB_map]
   rw [e2]
   simp only [aG, X.cells_eq, List.map_cons, List.map_nil] at hc
   refine wkc (jn @envOf.eq_1 (jn @envOf.eq_2 (jn @aG.eq_1 (jn @X.cells_eq (jn @int_bne (jn @hk (jn @fillV.eq_1 (jn @fillV.eq_2 (jn @hc @dS.eq_1))))))))) ?_
   show retQ _ _ _ _ _
   exact ⟨.inr rfl, _, _, rfl, rfl⟩
theorem kf51 (r : Nat) : Ob.keep 51 r = Ob.k51 r := by kernel_rfl
attribute [local simp] kf51 Ob.k51
set_option maxHeartbeats 16000000 in
theorem assign51 (nm : Tx) : ∀ (N : Nat) (x : X), x.sz < N → x.sz ≤ 4194304 → den Tryz.prog Ob.cfg 51 [dS nm, aG x.cells] = some (aG (asgX nm x).cells)
 | 0, x, hN, hM => by omega
 | N + 1, x, hN, hM => by
  have hs0 := X.sz_eq x
  have hlen := len_szX x.args
  refine den_wp Tryz.func51 rfl (by kernel_rfl) rfl (by rw [Y.cells_eq]; rfl) ?_
  by_cases ck : x.k = 9
  ·have e : asgX nm x = .mk 3 x.nm x.t (.mk 0 0 0 0 [] []) [] [] (asgXs nm x.args) := by
    cases x; simp only [X.k] at ck; subst ck; rw [asgX]; simp [X.nm, X.t, X.args]
   rw [e]
   have e2 : aG (Y.mk 3 x.nm x.t (.mk 0 0 0 0 [] []) [] [] (asgXs nm x.args)).cells = .agg [.d (.int .i64 3), .d (.str x.nm), .d (.int .i64 x.t), .d (.int .i64 0), .d (.int .i64 0), .d (.int .i64 0), .d (.int .i64 0), .d (.str []), .d (.slice []), .d (.slice []), .d (.slice []), .d (.slice (encB (asgXs nm x.args)))] := by simp [aG, Y.cells, X.cells, encX_map, encS]
   rw [e2]
   have hk := eq_true ck
   refine wkc (jn @envOf.eq_1 (jn @envOf.eq_2 (jn @aG.eq_1 (jn @X.cells_eq (jn @int_bne (jn @hk (jn @fillV.eq_1 (jn @fillV.eq_2 (jn @encX_len @dS.eq_1))))))))) ?_
   apply WP.loop' (I := fun D s => ∃ (j g c' : Nat) (hp' : Hp), j + D = x.args.length ∧ hp'.get 3 = some ⟨g, false, fl (encB (asgXs nm (x.args.take j)))⟩ ∧ hp'.get 0 = some ⟨0, false, [.d (.int .i64 x.k), .d (.int .i64 x.o), .d (.int .i64 x.t), .d (.int .i64 x.v), .d (.str x.nm), .d (.slice (encX x.args))]⟩ ∧ hp'.get 1 = some ⟨1, false, [.d (.int .i64 0), .d (.str []), .d (.int .i64 0), .d (.int .i64 0), .d (.int .i64 0), .d (.int .i64 0), .d (.int .i64 0), .d (.str []), .full [], .full [], .full [], .full []]⟩ ∧ hp'.get 2 = some ⟨2, false, [.d (.int .i64 3), .d (.str x.nm), .d (.int .i64 x.t), .d (.int .i64 0), .d (.int .i64 0), .d (.int .i64 0), .d (.int .i64 0), .d (.str []), .full [], .full [], .full [], .osl 3 g 0 j 1 none]⟩ ∧
    s = ⟨[(0, dS nm), (4, .ptr 1 1 0), (5, .ptr 2 2 0), (21, dL (encX x.args)), (22, dI x.args.length), (23, dI j)], hp', 4, c', 0, []⟩) (d := x.args.length)
   ·exact ⟨0, 3, _, _, by simp, by simp [fl, asgXs, encB_map], by simp, by simp, by simp, st_eq (by simp [dI, dL, dS]) rfl⟩
   rintro D _ ⟨j, g, c', hp', hj, hx, h0, h1, h2, rfl⟩
   refine wk (jn @dI.eq_1 (jn @dL.eq_1 (jn @dS.eq_1 (jn @h0 @encX_len)))) ?_
   have hLl : (encB (asgXs nm (x.args.take j))).length = j := by rw [encB_len, asgXs_map, List.length_map, List.length_take]; omega
   show WP _ _ _ _ _ _
   refine WP.cond _ rfl (fun hb => ?_) (fun hb => ?_)
   ·simp at hb
    have hb' : j < x.args.length := by omega
    obtain ⟨d, hd, hdm, hix⟩ := at_lt hb'
    have hd' := encX_at hd
    have hwj := w_succ hb' (by omega)
    have hms := mem_szX hdm
    have hc := assign51 nm N d (by omega) (by omega)
    obtain ⟨z, hz⟩ : ∃ z, z = asgX nm d := ⟨_, rfl⟩
    rw [← hz] at hc
    simp only [aG, X.cells_eq, Y.cells_eq, List.map_cons, List.map_nil, dS] at hc
    have hsn : asgXs nm (x.args.take (j + 1)) = asgXs nm (x.args.take j) ++ [[z]] := by rw [asgXs_map, asgXs_map, take_snoc hd, hz]; simp
    have r2 := fl_len (encB_row (asgXs nm (x.args.take j)))
    have r3 := fl_take (encB_row (asgXs nm (x.args.take j)))
    have r4 := fl_snoc (encB (asgXs nm (x.args.take j))) [.slice (encY [z])]
    have f5 : fitsB (j + 1) 24 = true := by simp [fitsB]; omega
    have hY : encY [z] = [[.int .i64 z.k, .str z.nm, .int .i64 z.t, .int .i64 z.r.k, .int .i64 z.r.o, .int .i64 z.r.t, .int .i64 z.r.v, .str z.r.nm, .slice (encX z.r.args), .slice (encS z.outs), .slice (encX z.args), .slice (encB z.brs)]] := by rw [encY_map]; simp [Y.cells_eq]
    rw [encB_snoc, ← hsn, hY] at r4
    rw [hLl, Nat.mul_one] at r2 r3
    simp only [List.map_cons, List.map_nil] at r4
    refine wkc (jn @dI.eq_1 (jn @dL.eq_1 (jn @dS.eq_1 (jn @X.cells_eq (jn @hix (jn @hd' (jn @hc (jn @fillV.eq_1 (jn @fillV.eq_2 (jn @closeParts.eq_1 (jn @closeParts.eq_2 (jn @cl2.eq_def (jn @toD_dep (jn @toD_d (jn @toDs.eq_1 (jn @toDs.eq_2 (jn @chunk.eq_1 (jn @chunk.eq_2 (jn @nble_d (jn @f5 (jn @r2 (jn @r3 (jn @r4 (jn @hx (jn @h0 (jn @h1 @h2)))))))))))))))))))))))))) ?_
    refine loop_next (by simp [hwj]; exact Is.rfl) ?_
    exact ⟨D - 1, by omega, j + 1, _, _, _, by omega, by simp; rfl, by simp [h0], by simp [h1], by simp, st_eq (by simp [dI, dL, dS, hwj]) rfl⟩
   ·simp at hb
    have hje : j = x.args.length := by omega
    rw [hje, List.take_length] at hx hLl
    have hcl := fun a => toD_fl (cap := none) (id := 3) (g := g) (ro := false) (look := ((hp'.set 1 a)).get) (encB_row (asgXs nm x.args)) (by simp; exact hx)
    rw [hLl, ← hje] at hcl
    refine wkc (jn @dI.eq_1 (jn @dL.eq_1 (jn @hx (jn @h0 (jn @h1 (jn @h2 (jn @fillV.eq_1 @fillV.eq_2))))))) ?_
    refine ⟨.inr rfl, [.agg [.d (.int .i64 3), .d (.str x.nm), .d (.int .i64 x.t), .d (.int .i64 0), .d (.int .i64 0), .d (.int .i64 0), .d (.int .i64 0), .d (.str []), .full [], .full [], .full [], .osl 3 g 0 j 1 none]], [3], ?_, ?_⟩
    ·show resultsV Tryz.prog _ [_] = _
     simp [resultsV, resultV]
    ·show closeT _ (.agg _) = _
     simp only [closeT, close, closeVs, close1, toD_d, toD_full, ofD, hcl]; simp
  ·have e : asgX nm x = .mk 1 nm 0 (stX x) [] [] [] := by
    cases x; simp only [X.k] at ck; rw [asgX, if_neg ck]
   have hk := eq_false ck
   have hc := strip71 (x.sz + 1) x (by omega) (by omega)
   obtain ⟨z, hz⟩ : ∃ z, z = stX x := ⟨_, rfl⟩
   rw [e, ← hz]
   rw [← hz] at hc
   have e2 : aG (Y.mk 1 nm 0 z [] [] []).cells = .agg [.d (.int .i64 1), .d (.str nm), .d (.int .i64 0), .d (.int .i64 z.k), .d (.int .i64 z.o), .d (.int .i64 z.t), .d (.int .i64 z.v), .d (.str z.nm), .d (.slice (encX z.args)), .d (.slice []), .d (.slice []), .d (.slice [])] := by simp [aG, Y.cells, X.cells_eq, encX_map, encS, encB_map]
   rw [e2]
   simp only [aG, X.cells_eq, List.map_cons, List.map_nil] at hc
   refine wkc (jn @envOf.eq_1 (jn @envOf.eq_2 (jn @aG.eq_1 (jn @X.cells_eq (jn @int_bne (jn @hk (jn @fillV.eq_1 (jn @fillV.eq_2 (jn @hc @dS.eq_1))))))))) ?_
   show retQ _ _ _ _ _
   exact ⟨.inr rfl, _, _, rfl, rfl⟩
end Go.Ac
end

section
set_option maxRecDepth 4000
namespace Go.Ac
open Go.Proofs
attribute [local simp] Hp.get_set get_trunc_lt
theorem kf35 (r : Nat) : Ob.keep 35 r = Ob.k35 r := by kernel_rfl
attribute [local simp] kf35 Ob.k35
theorem fl_app (a b : List (List D)) : fl a ++ fl b = fl (a ++ b) := by unfold fl; simp
theorem encD_app (a b : List Dc) : encD a ++ encD b = encD (a ++ b) := by unfold encD; simp
theorem fl_nil : fl [] = [] := rfl
def vN (a b c : List Dc) : V := .agg [.d (.str []), .d (.slice (encD a)), .d (.slice (encD b)), .d (.slice (encD c)), .d (.slice []), .d (.slice []), .d (.slice []), .d (.slice [])]
set_option maxHeartbeats 8000000 in
theorem vars35 (a b c : List Dc) (h : a.length + b.length + c.length ≤ 8388608) : den Tryz.prog Ob.cfg 35 [vN a b c] = some (dL (encD (a ++ b ++ c))) := by
 have fa := fun look => rows_fl look (encD_row a)
 have fb := fun look => rows_fl look (encD_row b)
 have fc := fun look => rows_fl look (encD_row c)
 have la := fl_len (encD_row a)
 have lb := fl_len (encD_row b)
 have lc := fl_len (encD_row c)
 rw [encD_len] at la lb lc
 simp only [encD_len] at fa fb fc
 refine den_wp Tryz.func35 rfl (by kernel_rfl) rfl rfl ?_
 unfold vN
 have hbl : ∀ n : Nat, Nat.ble n n = true := fun n => by rw [Nat.ble_eq]; exact Nat.le_refl n
 have n0 : encD [] = [] := rfl
 by_cases h0 : a = []
 ·subst h0
  by_cases h0 : b = []
  ·subst h0
   by_cases h0 : c = []
   ·subst h0
    refine wkc (jn @envOf.eq_1 @envOf.eq_2) ?_
    repeat (first
 | apply WP.seq
 | (apply WP.reg; (case hR => dsimp only [prepL, prepO, List.map, gS, gZ]; exact iZ); (case hr => (repeat (first
 | (apply RT.op; simp [dL, closeParts, fillV, hbl, n0, fl_nil, fb, fc, lb, lc]; exact iZ; (try dsimp only [putEnv]) <;> exact rfl)
 | (apply RT.call; (iterate 2 simp; exact iZ); exact iZ; (iterate 4 simp [dL, closeParts, fillV, hbl, n0, fl_nil, fb, fc, lb, lc]; exact iZ); simp [Is]; (try dsimp only [putEnv]) <;> exact rfl; simp; exact iZ; simp; exact iZ)
 | (apply RT.wr; simp [dL, closeParts, fillV, hbl, n0, fl_nil, fb, fc, lb, lc]; exact iZ; (try dsimp only [putEnv]) <;> exact rfl; simp [dL, closeParts, fillV, hbl, n0, fl_nil, fb, fc, lb, lc]; exact iZ; (iterate 2 exact iZ); simp; exact iZ))); exact RT.nil); (case hc => first | (refine checkR_un [(0, 1), (0, 2), (0, 4), (1, 4), (2, 4), (3, 4), (0, 5), (1, 5), (2, 5), (3, 5), (0, 7), (1, 7), (2, 7), (3, 7), (4, 7), (5, 7), (6, 7), (0, 8), (1, 8), (2, 8), (3, 8), (4, 8), (5, 8), (6, 8)] (by kernel_rfl) (by kernel_rfl) rfl ?_; simp [memA, disj, nbeq_dec]; done) | (show _ = _; kernel_rfl)); (case ht => simp [dL, closeParts, fillV, hbl, n0, fl_nil, fb, fc, lb, lc]; exact iZ))
 | apply WP.block | apply WP.skip | apply WP.exit | apply WP.ret | refine WP.condT rfl ?_ | refine WP.condF rfl ?_)
    refine ⟨.inr rfl, _, [1], rfl, ?_⟩
    rfl
   ·rw [List.nil_append, List.nil_append]
    have hb0 : Nat.ble c.length 0 = false := by cases c with | nil => exact absurd rfl h0 | cons _ _ => rfl
    have f1 : fitsB c.length 48 = true := by have := List.length_pos_iff.2 h0; simp [fitsB]; omega
    have r1 := fl_take (encD_row c)
    rw [encD_len] at r1
    refine wkc (jn @envOf.eq_1 @envOf.eq_2) ?_
    repeat (first
 | apply WP.seq
 | (apply WP.reg; (case hR => dsimp only [prepL, prepO, List.map, gS, gZ]; exact iZ); (case hr => (repeat (first
 | (apply RT.op; simp [dL, closeParts, fillV, hbl, n0, fl_nil, fb, fc, lb, lc, hb0, f1, r1]; exact iZ; (try dsimp only [putEnv]) <;> exact rfl)
 | (apply RT.call; (iterate 2 simp; exact iZ); exact iZ; (iterate 4 simp [dL, closeParts, fillV, hbl, n0, fl_nil, fb, fc, lb, lc, hb0, f1, r1]; exact iZ); simp [Is]; (try dsimp only [putEnv]) <;> exact rfl; simp; exact iZ; simp; exact iZ)
 | (apply RT.wr; simp [dL, closeParts, fillV, hbl, n0, fl_nil, fb, fc, lb, lc, hb0, f1, r1]; exact iZ; (try dsimp only [putEnv]) <;> exact rfl; simp [dL, closeParts, fillV, hbl, n0, fl_nil, fb, fc, lb, lc, hb0, f1, r1]; exact iZ; (iterate 2 exact iZ); simp; exact iZ))); exact RT.nil); (case hc => first | (refine checkR_un [(0, 1), (0, 2), (0, 4), (1, 4), (2, 4), (3, 4), (0, 5), (1, 5), (2, 5), (3, 5), (0, 7), (1, 7), (2, 7), (3, 7), (4, 7), (5, 7), (6, 7), (0, 8), (1, 8), (2, 8), (3, 8), (4, 8), (5, 8), (6, 8)] (by kernel_rfl) (by kernel_rfl) rfl ?_; simp [memA, disj, nbeq_dec]; done) | (show _ = _; kernel_rfl)); (case ht => simp [dL, closeParts, fillV, hbl, n0, fl_nil, fb, fc, lb, lc, hb0, f1, r1]; exact iZ))
 | apply WP.block | apply WP.skip | apply WP.exit | apply WP.ret | refine WP.condT rfl ?_ | refine WP.condF rfl ?_)
    have hcl := fun (look : Look) (g : Nat) (id : Nat) (h : look id = some ⟨g, false, fl (encD (c))⟩) => close_fl (cap := none) (encD_row (c)) h
    simp only [encD_len, List.length_append] at hcl
    refine ⟨.inr rfl, _, _, rfl, hcl _ _ _ ?_⟩
    simp
  ·rw [List.nil_append]
   have hb0 : Nat.ble b.length 0 = false := by cases b with | nil => exact absurd rfl h0 | cons _ _ => rfl
   have f1 : fitsB b.length 48 = true := by have := List.length_pos_iff.2 h0; simp [fitsB]; omega
   have r1 := fl_take (encD_row b)
   rw [encD_len] at r1
   have f2 : fitsB (b.length + c.length) 48 = true := by have := List.length_pos_iff.2 h0; simp [fitsB]; omega
   have r2 := fl_take (encD_row (b ++ c))
   have l2 := fl_len (encD_row (b ++ c))
   rw [encD_len] at r2 l2
   rw [List.length_append] at r2 l2
   have k1 := fl_app (encD b) (encD c)
   rw [encD_app] at k1
   refine wkc (jn @envOf.eq_1 @envOf.eq_2) ?_
   repeat (first
 | apply WP.seq
 | (apply WP.reg; (case hR => dsimp only [prepL, prepO, List.map, gS, gZ]; exact iZ); (case hr => (repeat (first
 | (apply RT.op; simp [dL, closeParts, fillV, hbl, n0, fl_nil, fb, fc, lb, lc, hb0, f1, r1, f2, r2, l2, k1]; exact iZ; (try dsimp only [putEnv]) <;> exact rfl)
 | (apply RT.call; (iterate 2 simp; exact iZ); exact iZ; (iterate 4 simp [dL, closeParts, fillV, hbl, n0, fl_nil, fb, fc, lb, lc, hb0, f1, r1, f2, r2, l2, k1]; exact iZ); simp [Is]; (try dsimp only [putEnv]) <;> exact rfl; simp; exact iZ; simp; exact iZ)
 | (apply RT.wr; simp [dL, closeParts, fillV, hbl, n0, fl_nil, fb, fc, lb, lc, hb0, f1, r1, f2, r2, l2, k1]; exact iZ; (try dsimp only [putEnv]) <;> exact rfl; simp [dL, closeParts, fillV, hbl, n0, fl_nil, fb, fc, lb, lc, hb0, f1, r1, f2, r2, l2, k1]; exact iZ; (iterate 2 exact iZ); simp; exact iZ))); exact RT.nil); (case hc => first | (refine checkR_un [(0, 1), (0, 2), (0, 4), (1, 4), (2, 4), (3, 4), (0, 5), (1, 5), (2, 5), (3, 5), (0, 7), (1, 7), (2, 7), (3, 7), (4, 7), (5, 7), (6, 7), (0, 8), (1, 8), (2, 8), (3, 8), (4, 8), (5, 8), (6, 8)] (by kernel_rfl) (by kernel_rfl) rfl ?_; simp [memA, disj, nbeq_dec]; done) | (show _ = _; kernel_rfl)); (case ht => simp [dL, closeParts, fillV, hbl, n0, fl_nil, fb, fc, lb, lc, hb0, f1, r1, f2, r2, l2, k1]; exact iZ))
 | apply WP.block | apply WP.skip | apply WP.exit | apply WP.ret | refine WP.condT rfl ?_ | refine WP.condF rfl ?_)
   have hcl := fun (look : Look) (g : Nat) (id : Nat) (h : look id = some ⟨g, false, fl (encD (b ++ c))⟩) => close_fl (cap := none) (encD_row (b ++ c)) h
   simp only [encD_len, List.length_append] at hcl
   refine ⟨.inr rfl, _, _, rfl, hcl _ _ _ ?_⟩
   simp
 ·skip
  have hb0 : Nat.ble a.length 0 = false := by cases a with | nil => exact absurd rfl h0 | cons _ _ => rfl
  have f1 : fitsB a.length 48 = true := by have := List.length_pos_iff.2 h0; simp [fitsB]; omega
  have r1 := fl_take (encD_row a)
  rw [encD_len] at r1
  have f2 : fitsB (a.length + b.length) 48 = true := by have := List.length_pos_iff.2 h0; simp [fitsB]; omega
  have r2 := fl_take (encD_row (a ++ b))
  have l2 := fl_len (encD_row (a ++ b))
  rw [encD_len] at r2 l2
  rw [List.length_append] at r2 l2
  have k1 := fl_app (encD a) (encD b)
  rw [encD_app] at k1
  have f3 : fitsB (a.length + b.length + c.length) 48 = true := by have := List.length_pos_iff.2 h0; simp [fitsB]; omega
  have k2 := fl_app (encD (a ++ b)) (encD c)
  rw [encD_app] at k2
  refine wkc (jn @envOf.eq_1 @envOf.eq_2) ?_
  repeat (first
 | apply WP.seq
 | (apply WP.reg; (case hR => dsimp only [prepL, prepO, List.map, gS, gZ]; exact iZ); (case hr => (repeat (first
 | (apply RT.op; simp [dL, closeParts, fillV, hbl, n0, fl_nil, fb, fc, lb, lc, fa, la, hb0, f1, r1, f2, r2, l2, k1, f3, k2]; exact iZ; (try dsimp only [putEnv]) <;> exact rfl)
 | (apply RT.call; (iterate 2 simp; exact iZ); exact iZ; (iterate 4 simp [dL, closeParts, fillV, hbl, n0, fl_nil, fb, fc, lb, lc, fa, la, hb0, f1, r1, f2, r2, l2, k1, f3, k2]; exact iZ); simp [Is]; (try dsimp only [putEnv]) <;> exact rfl; simp; exact iZ; simp; exact iZ)
 | (apply RT.wr; simp [dL, closeParts, fillV, hbl, n0, fl_nil, fb, fc, lb, lc, fa, la, hb0, f1, r1, f2, r2, l2, k1, f3, k2]; exact iZ; (try dsimp only [putEnv]) <;> exact rfl; simp [dL, closeParts, fillV, hbl, n0, fl_nil, fb, fc, lb, lc, fa, la, hb0, f1, r1, f2, r2, l2, k1, f3, k2]; exact iZ; (iterate 2 exact iZ); simp; exact iZ))); exact RT.nil); (case hc => first | (refine checkR_un [(0, 1), (0, 2), (0, 4), (1, 4), (2, 4), (3, 4), (0, 5), (1, 5), (2, 5), (3, 5), (0, 7), (1, 7), (2, 7), (3, 7), (4, 7), (5, 7), (6, 7), (0, 8), (1, 8), (2, 8), (3, 8), (4, 8), (5, 8), (6, 8)] (by kernel_rfl) (by kernel_rfl) rfl ?_; simp [memA, disj, nbeq_dec]; done) | (show _ = _; kernel_rfl)); (case ht => simp [dL, closeParts, fillV, hbl, n0, fl_nil, fb, fc, lb, lc, fa, la, hb0, f1, r1, f2, r2, l2, k1, f3, k2]; exact iZ))
 | apply WP.block | apply WP.skip | apply WP.exit | apply WP.ret | refine WP.condT rfl ?_ | refine WP.condF rfl ?_)
  have hcl := fun (look : Look) (g : Nat) (id : Nat) (h : look id = some ⟨g, false, fl (encD (a ++ b ++ c))⟩) => close_fl (cap := none) (encD_row (a ++ b ++ c)) h
  simp only [encD_len, List.length_append] at hcl
  refine ⟨.inr rfl, _, _, rfl, hcl _ _ _ ?_⟩
  simp
/-- The type of the first variable with a name. -/
def tyL (l : List Dc) (nm : Tx) : Int := match l.find? (fun d => decide (d.nm = nm)) with | some d => d.t | none => 0
theorem tyL_some {l : List Dc} {nm : Tx} {i : Nat} {d : Dc} (hno : (l.take i).all (fun d => !decide (d.nm = nm)) = true) (hd : l[i]? = some d) (h : d.nm = nm) : tyL l nm = d.t := by
 unfold tyL
 rw [show l = l.take i ++ d :: l.drop (i + 1) from (by
  obtain ⟨h1, h2⟩ := List.getElem?_eq_some_iff.1 hd
  rw [← h2, ← List.drop_eq_getElem_cons h1, List.take_append_drop]), List.find?_append]
 have : (l.take i).find? (fun d => decide (d.nm = nm)) = none := by
  rw [List.find?_eq_none]
  intro x hx
  have := List.all_eq_true.1 hno x hx
  simpa using this
 rw [this]
 simp [h]
theorem tyL_none {l : List Dc} {nm : Tx} (hno : l.all (fun d => !decide (d.nm = nm)) = true) : tyL l nm = 0 := by
 unfold tyL
 have : l.find? (fun d => decide (d.nm = nm)) = none := by
  rw [List.find?_eq_none]
  intro x hx
  have := List.all_eq_true.1 hno x hx
  simpa using this
 rw [this]
theorem kf19 (r : Nat) : Ob.keep 19 r = Ob.k19 r := by kernel_rfl
attribute [local simp] kf19 Ob.k19
set_option maxHeartbeats 4000000 in
theorem typeOf19 (n : Nn) (nm : Tx) (h : n.inn.length + n.out.length + n.loc.length ≤ 8388608) : den Tryz.prog Ob.cfg 19 [aG n.cells, dS nm] = some (dI (tyL (n.inn ++ n.out ++ n.loc) nm)) := by
 have hv := vars35 n.inn n.out n.loc h
 obtain ⟨l, hl⟩ : ∃ l, n.inn ++ n.out ++ n.loc = l := ⟨_, rfl⟩
 have hlen : l.length ≤ 8388608 := by rw [← hl]; simp; omega
 rw [hl] at hv ⊢
 simp only [vN, dL] at hv
 refine den_wp Tryz.func19 rfl (by kernel_rfl) rfl rfl ?_
 refine wkc (jn @envOf.eq_1 (jn @envOf.eq_2 (jn @aG.eq_1 (jn @Nn.cells.eq_1 (jn @dS.eq_1 (jn @hv (jn @fillV.eq_1 @fillV.eq_2))))))) ?_
 apply WP.loop' (I := fun D s => ∃ (i c' : Nat) (hp' : Hp), i + D = l.length ∧ (l.take i).all (fun d => !decide (d.nm = nm)) = true ∧ s = ⟨[(1, dS nm), (5, dL (encD l)), (6, dI i)], hp', 1, c', 0, []⟩) (d := l.length)
 ·exact ⟨0, _, _, by simp, by simp, st_eq (by simp [dL, dI, dS]) rfl⟩
 rintro D _ ⟨i, c', hp', hi, hno, rfl⟩
 refine wk (jn @dI.eq_1 (jn @dL.eq_1 (jn @dS.eq_1 @encD_len))) ?_
 show WP _ _ _ _ _ _
 refine WP.cond _ rfl (fun hb => ?_) (fun hb => ?_)
 ·simp at hb
  have hb' : i < l.length := by omega
  obtain ⟨y, hy, hym, hix⟩ := at_lt hb'
  have hy' := encD_at hy
  have hw := w_succ hb' (by omega)
  have hs := all_snoc (p := fun d : Dc => !decide (d.nm = nm)) hy
  by_cases hq : y.nm = nm
  ·have hq' := eq_true hq
   rw [tyL_some hno hy hq]
   refine wkc (jn @dI.eq_1 (jn @dL.eq_1 (jn @dS.eq_1 (jn @hix (jn @hy' (jn @Dc.cells.eq_1 (jn @tx_beq @hq'))))))) ?_
   show retQ _ _ _ _ _
   exact ⟨.inr rfl, _, _, rfl, rfl⟩
  ·have hq' := eq_false hq
   refine wkc (jn @dI.eq_1 (jn @dL.eq_1 (jn @dS.eq_1 (jn @hix (jn @hy' (jn @Dc.cells.eq_1 (jn @tx_beq @hq'))))))) ?_
   refine loop_next (by simp [hw]; exact Is.rfl) ?_
   exact ⟨D - 1, by omega, i + 1, _, _, by omega, by rw [hs, hno, decide_eq_false hq]; rfl, st_eq (by simp [dI, dL, dS, hw]) rfl⟩
 ·simp at hb
  have hie : i = l.length := by omega
  rw [hie, List.take_length] at hno
  rw [tyL_none hno]
  refine wkc (jn @dI.eq_1 (jn @dL.eq_1 @dS.eq_1)) ?_
  show retQ _ _ _ _ _
  exact ⟨.inr rfl, _, _, rfl, rfl⟩
end Go.Ac
end

section
set_option maxRecDepth 4000
namespace Go.Ac
open Go.Proofs
attribute [local simp] Hp.get_set get_trunc_lt
def z0X : X := .mk 0 0 0 0 [] []
/-- How many branches a case by a clock has. -/
def brN (o : On) : Nat := if o.t = 1 then 2 else (o.tag + 1).toNat
def unY : List On → List Y → List Y
 | [], l => l
 | o :: r, l => [.mk 3 o.nm o.t z0X [] [] ((List.range (brN o)).map fun i : Nat => if (i : Int) = o.tag then unY r l else [])]
def okO (o : On) : Prop := 0 ≤ o.tag ∧ (o.t = 1 → o.tag < 2) ∧ o.tag < 1048576
theorem brN_le {o : On} (h : okO o) : brN o ≤ 1048576 ∧ o.tag < brN o := by
 obtain ⟨h1, h2, h3⟩ := h
 unfold brN; split
 ·rename_i h; have := h2 h; omega
 ·omega
theorem slice_tl (look : Look) (e b : Nat) (z : Option (List V)) {sz : Nat} {x : List D} {rows : List (List D)} (hr : ∀ r ∈ x :: rows, r.length = sz) :
  sliceV look ⟨.slice e sz b, 1, 24, z⟩ (.d (.slice (x :: rows))) (some (.d (.int .i64 1))) none none = ret (.d (.slice rows)) := by
 have ha : (x :: rows).all (fun r => Nat.beq r.length sz) = true := by rw [List.all_eq_true]; intro r hm; rw [hr r hm]; exact nbeq_self sz
 have e1 : bnd (some (V.d (.int .i64 1))) 0 = some 1 := rfl
 have e2 : bnd none (x :: rows).length = some (x :: rows).length := rfl
 unfold sliceV
 simp only [e1, e2, ha]
 rw [if_pos ⟨by simp, Nat.le_refl _, trivial⟩, List.take_length]
 rfl
theorem encO_row (l : List On) : ∀ r ∈ encO l, r.length = 3 := by unfold encO; intro r hr; obtain ⟨x, _, rfl⟩ := List.mem_map.1 hr; rfl
theorem kf23 (r : Nat) : Ob.keep 23 r = Ob.k23 r := by kernel_rfl
attribute [local simp] kf23 Ob.k23
set_option maxHeartbeats 16000000 in
theorem under23 (l : List Y) : ∀ ck : List On, (∀ o ∈ ck, okO o) → ck.length ≤ 8388608 → den Tryz.prog Ob.cfg 23 [dL (encO ck), dL (encY l)] = some (dL (encY (unY ck l)))
 | [], h, hlc => by
  refine den_wp Tryz.func23 rfl (by kernel_rfl) rfl rfl ?_
  have h0 : encO ([] : List On) = [] := rfl
  refine wkc (jn @envOf.eq_1 (jn @envOf.eq_2 (jn @dL.eq_1 (jn @h0 @int_beq)))) ?_
  show retQ _ _ _ _ _
  exact ⟨.inr rfl, _, _, rfl, rfl⟩
 | o :: r, h, hlc => by
  have ih := under23 l r (fun x hx => h x (List.mem_cons_of_mem _ hx)) (by simp at hlc; omega)
  obtain ⟨hb1, hb2⟩ := brN_le (h o (List.mem_cons_self ..))
  have ho := h o (List.mem_cons_self ..)
  refine den_wp Tryz.func23 rfl (by kernel_rfl) rfl rfl ?_
  have h0 : encO (o :: r) = o.cells :: encO r := rfl
  have hi : idx 0 (r.length + 1) = some 0 := by unfold idx; simp
  have hne : ((r.length : Int) + 1 = 0) = False := eq_false (by omega)
  have htag : IntKind.i64.wrap (o.tag + 1) = o.tag + 1 := by rw [w_id] <;> (have := ho.1; have := ho.2.2; omega)
  simp only [dL] at ih
  obtain ⟨F, hF⟩ : ∃ F : Nat → List Y, F = fun i : Nat => if (i : Int) = o.tag then unY r l else [] := ⟨_, rfl⟩
  have eU : unY (o :: r) l = [.mk 3 o.nm o.t z0X [] [] ((List.range (brN o)).map F)] := by rw [unY, hF]
  rw [eU]
  by_cases c1 : o.t = 1
  have c1' := eq_true c1
  have hbn : (2 : Int) = (brN o : Int) := by unfold brN; rw [if_pos c1]; rfl
  refine wkc (jn @envOf.eq_1 (jn @envOf.eq_2 (jn @dL.eq_1 (jn @h0 (jn @int_beq (jn @hi (jn @hne (jn @On.cells.eq_1 (jn @fillV.eq_1 (jn @fillV.eq_2 (jn @htag @c1'))))))))))) ?_
  rw [hbn]
  rotate_left
  have c1' := eq_false c1
  have hbn : o.tag + 1 = (brN o : Int) := by unfold brN; rw [if_neg c1]; have := ho.1; omega
  refine wkc (jn @envOf.eq_1 (jn @envOf.eq_2 (jn @dL.eq_1 (jn @h0 (jn @int_beq (jn @hi (jn @hne (jn @On.cells.eq_1 (jn @fillV.eq_1 (jn @fillV.eq_2 (jn @htag @c1'))))))))))) ?_
  rw [hbn]
  rotate_left
  all_goals
   clear hbn hne hi htag c1' c1
   apply WP.loop' (I := fun D s => ∃ (j g c' : Nat) (hp' : Hp) (cs : List V), j + D = brN o ∧ hp'.get 2 = some ⟨g, false, cs⟩ ∧ RowD cs (encB ((List.range j).map F)) 1 ∧ hp'.get 0 = some ⟨0, false, [.d (.str o.nm), .d (.int .i64 o.t), .d (.int .i64 o.tag)]⟩ ∧ hp'.get 1 = some ⟨1, false, [.d (.int .i64 3), .d (.str o.nm), .d (.int .i64 o.t), .d (.int .i64 0), .d (.int .i64 0), .d (.int .i64 0), .d (.int .i64 0), .d (.str []), .full [], .full [], .full [], .osl 2 g 0 j 1 none]⟩ ∧
    s = ⟨[(0, dL (encO (o :: r))), (1, dL (encY l)), (5, .ptr 0 0 0), (6, dI (brN o)), (7, .ptr 1 1 0), (8, dI j)], hp', 3, c', 0, []⟩) (d := brN o)
   ·exact ⟨0, 2, _, _, [], by simp, by simp, by simpa [encB_map] using RowD.nil 1, by simp, by simp, st_eq (by simp [dI, dL, h0, On.cells]) rfl⟩
   rintro D _ ⟨j, g, c', hp', cs, hj, hx, hr, h1, h2, rfl⟩
   refine wk (jn @dI.eq_1 @dL.eq_1) ?_
   have hLl : (encB ((List.range j).map F)).length = j := by rw [encB_len]; simp
   show WP _ _ _ _ _ _
   refine WP.cond _ rfl (fun hb => ?_) (fun hb => ?_)
   ·simp at hb
    have hwj := w_succ (i := j) (m := brN o) (by omega) (by omega)
    have hsn : (List.range (j + 1)).map F = (List.range j).map F ++ [F j] := by rw [List.range_succ]; simp
    have r2 := hr.len
    have r3 := hr.take
    rw [hLl, Nat.mul_one] at r2 r3
    have f5 : fitsB (j + 1) 24 = true := by simp [fitsB]; omega
    have hsl := fun look e b z => slice_tl look e b z (x := o.cells) (rows := encO r) (encO_row (o :: r))
    by_cases cj : (j : Int) = o.tag
    ·have cj' := eq_true cj
     have hFj : F j = unY r l := by rw [hF]; simp [cj]
     have hr2 := hr.snoc (vs := [V.d (.slice (encY (unY r l)))]) (r := [.slice (encY (F j))]) (by rw [hFj]; exact VD.d VD.nil) rfl
     rw [show encB ((List.range j).map F) ++ [[.slice (encY (F j))]] = encB ((List.range (j + 1)).map F) by rw [hsn, encB_map, encB_map]; simp] at hr2
     refine wkc (jn @dI.eq_1 (jn @dL.eq_1 (jn @h0 (jn @h1 (jn @h2 (jn @hx (jn @int_beq (jn @cj' (jn @hsl (jn @ih (jn @fillV.eq_1 (jn @fillV.eq_2 (jn @closeParts.eq_1 (jn @closeParts.eq_2 (jn @cl2.eq_def (jn @toD_dep (jn @toD_d (jn @toDs.eq_1 (jn @toDs.eq_2 (jn @chunk.eq_1 (jn @chunk.eq_2 (jn @nble_d (jn @f5 (jn @r2 @r3)))))))))))))))))))))))) ?_
     refine loop_next (by simp [hwj]; exact Is.rfl) ?_
     exact ⟨D - 1, by omega, j + 1, _, _, _, _, by omega, by simp; rfl, hr2, by simp [h1], by simp, st_eq (by simp [dI, dL, hwj, h0]) rfl⟩
    ·have cj' := eq_false cj
     have hFj : F j = [] := by rw [hF]; simp [cj]
     have hr2 := hr.snoc (vs := [V.full []]) (r := [.slice (encY (F j))]) (by rw [hFj]; exact VD.full VD.nil) rfl
     rw [show encB ((List.range j).map F) ++ [[.slice (encY (F j))]] = encB ((List.range (j + 1)).map F) by rw [hsn, encB_map, encB_map]; simp] at hr2
     refine wkc (jn @dI.eq_1 (jn @dL.eq_1 (jn @h0 (jn @h1 (jn @h2 (jn @hx (jn @int_beq (jn @cj' (jn @fillV.eq_1 (jn @fillV.eq_2 (jn @closeParts.eq_1 (jn @closeParts.eq_2 (jn @cl2.eq_def (jn @toD_dep (jn @toD_d (jn @toDs.eq_1 (jn @toDs.eq_2 (jn @chunk.eq_1 (jn @chunk.eq_2 (jn @nble_d (jn @f5 (jn @r2 @r3)))))))))))))))))))))) ?_
     refine loop_next (by simp [hwj]; exact Is.rfl) ?_
     exact ⟨D - 1, by omega, j + 1, _, _, _, _, by omega, by simp; rfl, hr2, by simp [h1], by simp, st_eq (by simp [dI, dL, hwj, h0]) rfl⟩
   ·simp at hb
    have hje : j = brN o := by omega
    rw [hje] at hr hLl
    have hcl := fun look (h : look 2 = some ⟨g, false, cs⟩) => hr.toD (look := look) (cap := none) h
    rw [hLl, ← hje] at hcl
    have e5 : encY [Y.mk 3 o.nm o.t z0X [] [] ((List.range (brN o)).map F)] = [[.int .i64 3, .str o.nm, .int .i64 o.t, .int .i64 0, .int .i64 0, .int .i64 0, .int .i64 0, .str [], .slice [], .slice [], .slice [], .slice (encB ((List.range (brN o)).map F))]] := by simp [encY_map, Y.cells, X.cells, z0X, encX_map, encS]
    rw [e5, ← hje]
    refine wkc (jn @dI.eq_1 (jn @dL.eq_1 (jn @h1 (jn @h2 (jn @hx (jn @fillV.eq_1 (jn @fillV.eq_2 (jn @closeParts.eq_1 (jn @closeParts.eq_2 (jn @cl2.eq_def (jn @toD_d (jn @toD_full @hcl)))))))))))) ?_
    refine ⟨.inr rfl, _, [3], rfl, RowD.close (l := [_]) (sz := 12) (cs := [V.d (.int .i64 3), V.d (.str o.nm), V.d (.int .i64 o.t), V.d (.int .i64 0), V.d (.int .i64 0), V.d (.int .i64 0), V.d (.int .i64 0), V.d (.str []), V.full [], V.full [], V.full [], V.d (.slice (encB ((List.range j).map F)))]) ⟨?_, ?_⟩ (by simp; rfl)⟩
    ·repeat constructor
    ·intro x hx; rw [List.mem_singleton.1 hx]; rfl
end Go.Ac
end

section
set_option maxRecDepth 4000
namespace Go.Ac
open Go.Proofs
attribute [local simp] Hp.get_set Ag_set Ag_refl Ag_trunc get_trunc_lt
/-- The maker of a class lies in memory. -/
structure MK (im gm it gt il gl : Nat) (n : Nn) (T : List (Tx × Bool)) (K : List (Tx × Int)) (hp : Hp) (m : Nat) : Prop where
 ob : hp.get im = some ⟨gm, false, [.d (.str n.nm), .d (.slice (encD n.inn)), .d (.slice (encD n.out)), .d (.slice (encD n.loc)), .d (.slice (encN n.eqs)), .fn 14 [], .mp it gt, .mp il gl]⟩
 tk : hp.get it = some ⟨gt, false, [mpC eBo T]⟩
 la : hp.get il = some ⟨gl, false, [mpC eI K]⟩
 lm : im < m
 lt : it < m
 ll : il < m
theorem tyL_at {pre l suf : List Dc} {nm : Tx} {i : Nat} {d : Dc} (hp : pre.all (fun d => !decide (d.nm = nm)) = true) (hno : (l.take i).all (fun d => !decide (d.nm = nm)) = true) (hd : l[i]? = some d) (h : d.nm = nm) : tyL (pre ++ l ++ suf) nm = d.t := by
 have hi := (List.getElem?_eq_some_iff.1 hd).1
 refine tyL_some (i := pre.length + i) ?_ ?_ h
 ·rw [List.append_assoc, List.take_append, List.all_append, List.take_of_length_le (by omega), hp, Nat.add_sub_cancel_left, List.take_append_of_le_length (by omega), hno]; rfl
 ·rw [List.append_assoc, List.getElem?_append_right (by omega), Nat.add_sub_cancel_left, List.getElem?_append_left hi]; exact hd
theorem kf54 (r : Nat) : Ob.keep 54 r = Ob.k54 r := by kernel_rfl
attribute [local simp] kf54 Ob.k54
set_option maxHeartbeats 8000000 in
theorem typeOf54 {im gm it gt il gl : Nat} {n : Nn} {T : List (Tx × Bool)} {K : List (Tx × Int)} (nm : Tx) (h : n.inn.length + n.out.length + n.loc.length ≤ 8388608) (hp : Hp) (m c : Nat) (hK : MK im gm it gt il gl n T K hp m) : QuietV Tryz.prog Ob.cfg 54 [.ptr im gm 0, dS nm] hp m c (dI (tyL (n.inn ++ n.out ++ n.loc) nm)) := by
 have ho := hK.ob
 have ni := nf hK.lm
 refine quietV_wp Tryz.func54 rfl (by kernel_rfl) rfl (fun _ => rfl) ?_
 have hmi : (im = m) = False := eq_false (by have := hK.lm; omega)
 repeat (first
 | apply WP.seq
 | (apply WP.reg; (case hR => dsimp only [prepL, prepO, List.map, gS, gZ]; exact iZ); (case hr => (repeat (first
 | (apply RT.op; simp [envOf, dS, ho, ni, fillV, closeParts, cl2, toD_dep, toD_d]; exact iZ; (try dsimp only [putEnv]) <;> exact rfl)
 | (apply RT.call; (iterate 2 simp; exact iZ); exact iZ; (iterate 4 simp [envOf, dS, ho, ni, fillV, closeParts, cl2, toD_dep, toD_d]; exact iZ); simp [Is]; (try dsimp only [putEnv]) <;> exact rfl; simp; exact iZ; exact iZ)
 | (apply RT.callV; (iterate 2 simp; exact iZ); exact iZ; (iterate 3 simp [envOf, dS, ho, ni, fillV, closeParts, cl2, toD_dep, toD_d]; exact iZ); (try dsimp only [putEnv]) <;> exact rfl)
 | (apply RT.wr; simp [envOf, dS, ho, ni, fillV, closeParts, cl2, toD_dep, toD_d]; exact iZ; (try dsimp only [putEnv]) <;> exact rfl; simp [envOf, dS, ho, ni, fillV, closeParts, cl2, toD_dep, toD_d]; exact iZ; (iterate 2 exact iZ); exact iZ))); exact RT.nil); (case hc => first | (refine checkR_un [(0, 5), (1, 5), (2, 5), (3, 5), (4, 5), (0, 6), (1, 6), (2, 6), (3, 6), (4, 6), (0, 7), (1, 7), (2, 7), (3, 7), (4, 7), (0, 8), (1, 8), (2, 8), (3, 8), (4, 8), (0, 9), (1, 9), (2, 9), (3, 9), (4, 9), (0, 10), (1, 10), (2, 10), (3, 10), (4, 10), (5, 10), (6, 10), (7, 10), (8, 10), (9, 10), (0, 11), (1, 11), (2, 11), (3, 11), (4, 11), (5, 11), (6, 11), (7, 11), (8, 11), (9, 11), (0, 12), (1, 12), (2, 12), (3, 12), (4, 12), (5, 12), (6, 12), (7, 12), (8, 12), (9, 12), (0, 13), (1, 13), (2, 13), (3, 13), (4, 13), (5, 13), (6, 13), (7, 13), (8, 13), (9, 13), (0, 14), (1, 14), (2, 14), (3, 14), (4, 14), (5, 14), (6, 14), (7, 14), (8, 14), (9, 14), (0, 17), (1, 17), (2, 17), (3, 17), (4, 17), (5, 17), (6, 17), (7, 17), (8, 17), (9, 17), (10, 17), (11, 17), (12, 17), (13, 17), (14, 17), (15, 17), (16, 17)] (by kernel_rfl) (by kernel_rfl) rfl ?_; simp [memA, disj, nbeq_dec, ni, hmi]; done) | (show _ = _; kernel_rfl)); (case ht => simp [envOf, dS, ho, ni, fillV, closeParts, cl2, toD_dep, toD_d]; exact iZ))
 | apply WP.block | apply WP.skip | apply WP.exit | apply WP.ret | refine WP.condT rfl ?_ | refine WP.condF rfl ?_)
 apply WP.loop' (I := fun D s => ∃ (j c' : Nat) (hp' : Hp), j + D = 3 ∧ ((([n.inn, n.out, n.loc].take j).flatten).all fun d => !decide (d.nm = nm)) = true ∧ hp'.get m = some ⟨c, false, [.d (.slice (encD n.inn)), .d (.slice (encD n.out)), .d (.slice (encD n.loc))]⟩ ∧
  s = ⟨[(1, dS nm), (24, .osl m c 0 3 1 (some 3)), (25, dI 3), (26, dI j)], hp', m + 1, c', m, []⟩) (d := 3)
 ·exact ⟨0, _, _, by simp, by simp, by simp, st_eq (by simp [dI, dS]) rfl⟩
 rintro D _ ⟨j, c', hp', hj, hpre, hx, rfl⟩
 have i0 : idx 0 3 = some 0 := rfl
 have i1 : idx 1 3 = some 1 := rfl
 have i2 : idx 2 3 = some 2 := rfl
 obtain rfl | rfl | rfl | rfl : j = 0 ∨ j = 1 ∨ j = 2 ∨ j = 3 := by omega
 refine wkckv (jn @dI.eq_1 (jn @dL.eq_1 (jn @dS.eq_1 (jn @hx (jn @i0 @encD_len))))) ?_
 obtain ⟨pre, l, suf, J, e1, e2, e3, e4, hl, eJ, hJ⟩ : ∃ (pre l suf : List Dc) (J : Nat), n.inn = l ∧ ([n.inn, n.out, n.loc].take 0).flatten = pre ∧ n.inn ++ n.out ++ n.loc = pre ++ l ++ suf ∧ ([n.inn, n.out, n.loc].take (J + 1)).flatten = pre ++ l ∧ l.length ≤ 8388608 ∧ (0 : Int) = (J : Int) ∧ J + 1 + (D - 1) = 3 := ⟨[], n.inn, n.out ++ n.loc, 0, rfl, by simp, by simp, by simp, by omega, rfl, by omega⟩
 rw [e3]
 refine WP.st_eq2 (s' := ⟨[(1, dS nm), (24, .osl m c 0 3 1 (some 3)), (25, dI 3), (26, dI J), (30, dL (encD l)), (31, dI l.length), (32, dI 0)], hp', m + 1, c', m, []⟩) (by rw [← e1, ← eJ]; rfl) ?_
 rw [e2] at hpre
 rotate_left
 refine wkckv (jn @dI.eq_1 (jn @dL.eq_1 (jn @dS.eq_1 (jn @hx (jn @i1 @encD_len))))) ?_
 obtain ⟨pre, l, suf, J, e1, e2, e3, e4, hl, eJ, hJ⟩ : ∃ (pre l suf : List Dc) (J : Nat), n.out = l ∧ ([n.inn, n.out, n.loc].take 1).flatten = pre ∧ n.inn ++ n.out ++ n.loc = pre ++ l ++ suf ∧ ([n.inn, n.out, n.loc].take (J + 1)).flatten = pre ++ l ∧ l.length ≤ 8388608 ∧ (1 : Int) = (J : Int) ∧ J + 1 + (D - 1) = 3 := ⟨n.inn, n.out, n.loc, 1, rfl, by simp, by simp, by simp, by omega, rfl, by omega⟩
 rw [e3]
 refine WP.st_eq2 (s' := ⟨[(1, dS nm), (24, .osl m c 0 3 1 (some 3)), (25, dI 3), (26, dI J), (30, dL (encD l)), (31, dI l.length), (32, dI 0)], hp', m + 1, c', m, []⟩) (by rw [← e1, ← eJ]; rfl) ?_
 rw [e2] at hpre
 rotate_left
 refine wkckv (jn @dI.eq_1 (jn @dL.eq_1 (jn @dS.eq_1 (jn @hx (jn @i2 @encD_len))))) ?_
 obtain ⟨pre, l, suf, J, e1, e2, e3, e4, hl, eJ, hJ⟩ : ∃ (pre l suf : List Dc) (J : Nat), n.loc = l ∧ ([n.inn, n.out, n.loc].take 2).flatten = pre ∧ n.inn ++ n.out ++ n.loc = pre ++ l ++ suf ∧ ([n.inn, n.out, n.loc].take (J + 1)).flatten = pre ++ l ∧ l.length ≤ 8388608 ∧ (2 : Int) = (J : Int) ∧ J + 1 + (D - 1) = 3 := ⟨n.inn ++ n.out, n.loc, [], 2, rfl, by simp, by simp, by simp, by omega, rfl, by omega⟩
 rw [e3]
 refine WP.st_eq2 (s' := ⟨[(1, dS nm), (24, .osl m c 0 3 1 (some 3)), (25, dI 3), (26, dI J), (30, dL (encD l)), (31, dI l.length), (32, dI 0)], hp', m + 1, c', m, []⟩) (by rw [← e1, ← eJ]; rfl) ?_
 rw [e2] at hpre
 rotate_left
 ·have e : ([n.inn, n.out, n.loc].take 3).flatten = n.inn ++ n.out ++ n.loc := by simp
  rw [e] at hpre
  rw [tyL_none hpre]
  refine wkckv (jn @dI.eq_1 @dS.eq_1) ?_
  exact ⟨.inr rfl, rfl, _, rfl, rfl⟩
 all_goals
  clear ho hK h
  apply WP.loop' (I := fun D s => ∃ (i c' : Nat) (hp' : Hp), i + D = l.length ∧ (l.take i).all (fun d => !decide (d.nm = nm)) = true ∧ hp'.get m = some ⟨c, false, [.d (.slice (encD n.inn)), .d (.slice (encD n.out)), .d (.slice (encD n.loc))]⟩ ∧ s = ⟨[(1, dS nm), (24, .osl m c 0 3 1 (some 3)), (25, dI 3), (26, dI J), (30, dL (encD l)), (31, dI l.length), (32, dI i)], hp', m + 1, c', m, []⟩) (d := l.length)
  ·exact ⟨0, _, _, by simp, by simp, hx, st_eq (by simp [dL, dI, dS]) rfl⟩
  clear hx
  rintro D2 _ ⟨i, c', hp', hi, hno, hx, rfl⟩
  refine wkkv (jn @dI.eq_1 (jn @dL.eq_1 (jn @dS.eq_1 @encD_len))) ?_
  show WP _ _ _ _ _ _
  refine WP.cond _ rfl (fun hb => ?_) (fun hb => ?_)
  ·simp at hb
   have hb' : i < l.length := by omega
   obtain ⟨y, hy, hym, hix⟩ := at_lt hb'
   have hy' := encD_at hy
   have hw := w_succ hb' (by omega)
   have hs := all_snoc (p := fun d : Dc => !decide (d.nm = nm)) hy
   by_cases hq : y.nm = nm
   ·have hq' := eq_true hq
    rw [tyL_at hpre hno hy hq]
    refine wkckv (jn @dI.eq_1 (jn @dL.eq_1 (jn @dS.eq_1 (jn @hix (jn @hy' (jn @Dc.cells.eq_1 (jn @fillV.eq_1 (jn @fillV.eq_2 (jn @tx_beq @hq'))))))))) ?_
    exact ⟨.inr rfl, rfl, _, rfl, rfl⟩
   ·have hq' := eq_false hq
    refine wkckv (jn @dI.eq_1 (jn @dL.eq_1 (jn @dS.eq_1 (jn @hix (jn @hy' (jn @Dc.cells.eq_1 (jn @fillV.eq_1 (jn @fillV.eq_2 (jn @tx_beq @hq'))))))))) ?_
    refine loop_next (by simp [hw]; exact Is.rfl) ?_
    exact ⟨D2 - 1, by omega, i + 1, _, _, by omega, by rw [hs, hno, decide_eq_false hq]; rfl, by simp [hx], st_eq (by simp [dI, dL, dS, hw]) rfl⟩
  ·simp at hb
   have hie : i = l.length := by omega
   rw [hie, List.take_length] at hno
   have hwJ := w_succ (i := J) (m := 3) (by omega) (by omega)
   refine wkckv (jn @dI.eq_1 (jn @dL.eq_1 @dS.eq_1)) ?_
   refine loop_next (by simp [hwJ]; exact Is.rfl) ?_
   exact ⟨D - 1, by omega, J + 1, _, _, by omega, by rw [e4, List.all_append, hpre, hno]; rfl, by simp [hx], st_eq (by simp [dI, dS, hwJ]) rfl⟩
end Go.Ac
end

section
set_option maxRecDepth 4000
namespace Go.Ac
open Go.Proofs
attribute [local simp] Hp.get_set Ag_set Ag_refl Ag_trunc get_trunc_lt
theorem kf14 (r : Nat) : Ob.keep 14 r = Ob.k14 r := by kernel_rfl
attribute [local simp] kf14 Ob.k14
theorem size14 (t tag : Int) (h1 : 0 ≤ tag) (h2 : tag < 1048576) : den Tryz.prog Ob.cfg 14 [dI t, dI tag] = some (dI (if t = 1 then 2 else tag + 1)) := by
 have htag : IntKind.i64.wrap (tag + 1) = tag + 1 := by rw [w_id] <;> omega
 refine den_wp Tryz.func14 rfl (by kernel_rfl) rfl rfl ?_
 by_cases c : t = 1
 ·have c' := eq_true c
  rw [if_pos c]
  refine wkckv (jn @envOf.eq_1 (jn @envOf.eq_2 (jn @dI.eq_1 (jn @int_beq @c')))) ?_
  show retQ _ _ _ _ _
  exact ⟨.inr rfl, _, _, rfl, rfl⟩
 ·have c' := eq_false c
  rw [if_neg c]
  refine wkckv (jn @envOf.eq_1 (jn @envOf.eq_2 (jn @dI.eq_1 (jn @int_beq (jn @c' @htag))))) ?_
  show retQ _ _ _ _ _
  exact ⟨.inr rfl, _, _, rfl, rfl⟩
/-- Statements that are handed over: as data, or as they lie. -/
def LArg (hp : Hp) (n : Nat) (va : V) (L : List Y) : Prop := va = dL (encY L) ∨ ∃ (id g : Nat) (ro : Bool) (cs : List V) (cap : Option Nat), va = .osl id g 0 L.length 12 cap ∧ hp.get id = some ⟨g, ro, cs⟩ ∧ RowD cs (encY L) 12 ∧ id < n
def zC : List V := [.d (.int .i64 0), .d (.str []), .d (.int .i64 0), .d (.int .i64 0), .d (.int .i64 0), .d (.int .i64 0), .d (.int .i64 0), .d (.str []), .full [], .full [], .full [], .full []]
theorem toD_succ (look : Look) (f id g off len sz : Nat) (cap : Option Nat) : toD look (f + 1) (.osl id g off len sz cap) = match live look id g with
  | some o => match Nat.ble (off + len * sz) o.cells.length, toDs (toD look f) ((o.cells.drop off).take (len * sz)) with
   | true, some (ds, r) => some (.slice (chunk sz len ds), id :: r)
   | _, _ => none
  | none => none := rfl
theorem toDs_app (F : V → Option (D × List Nat)) : ∀ (a b : List V), toDs F (a ++ b) = match toDs F a, toDs F b with | some (x, r), some (y, s) => some (x ++ y, r ++ s) | _, _ => none
 | [], b => by
  simp only [List.nil_append, toDs]
  cases toDs F b with
  | none => rfl
  | some p => rfl
 | v :: a, b => by
  have ih := toDs_app F a b
  simp only [List.cons_append, toDs, ih]
  cases F v with
  | none => rfl
  | some p =>
   cases toDs F a with
   | none => rfl
   | some q =>
    cases toDs F b with
    | none => rfl
    | some s => simp
theorem toDs_rep (look : Look) (f : Nat) : ∀ k : Nat, toDs (toD look f) (List.replicate k (V.full [])) = some (List.replicate k (.slice []), [])
 | 0 => rfl
 | k + 1 => by simp only [List.replicate_succ, toDs, toD_full, toDs_rep look f k]; rfl
/-- A list of branches, all empty but one. -/
theorem close_br {look : Look} {id g id2 g2 k r : Nat} {cap cap2 : Option Nat} {ro ro2 : Bool} {cs : List V} {L : List Y} (hr : RowD cs (encY L) 12)
  (h1 : look id = some ⟨g, ro, List.replicate k (V.full []) ++ V.osl id2 g2 0 L.length 12 cap2 :: List.replicate r (V.full [])⟩) (h2 : look id2 = some ⟨g2, ro2, cs⟩) :
  closeT look (.osl id g 0 (k + 1 + r) 1 cap) = some (dL (List.replicate k [D.slice []] ++ [D.slice (encY L)] :: List.replicate r [D.slice []]), [id, id2]) := by
 obtain ⟨C, hC⟩ : ∃ C, C = List.replicate k (V.full []) ++ V.osl id2 g2 0 L.length 12 cap2 :: List.replicate r (V.full []) := ⟨_, rfl⟩
 rw [← hC] at h1
 have hl : C.length = k + 1 + r := by rw [hC]; simp; omega
 have hin : toD look 4611686018427387903 (.osl id2 g2 0 L.length 12 cap2) = some (.slice (encY L), [id2]) := by
  rw [show (4611686018427387903 : Nat) = 4611686018427387902 + 1 from rfl, toD_succ]
  have : live look id2 g2 = some ⟨g2, ro2, cs⟩ := by simp [live, h2]
  rw [this]
  have r2 := hr.len
  have r3 := hr.take
  have r4 := hr.vd.toDs look 4611686018427387902
  have r5 := chunk_flat (encY_row L)
  rw [encY_len] at r2 r3 r5
  have hb : Nat.ble (L.length * 12) (L.length * 12) = true := by rw [Nat.ble_eq]; exact Nat.le_refl _
  simp only [Nat.zero_add, List.drop_zero, r2, r3, r4, hb, r5]
 have hds : toDs (toD look 4611686018427387903) C = some (List.replicate k (.slice []) ++ .slice (encY L) :: List.replicate r (.slice []), [id2]) := by
  rw [hC, toDs_app, toDs_rep]
  simp only [toDs, hin, toDs_rep]
  simp
 show ofD (toD look depthD _) = _
 rw [toD_dep]
 have hlv : live look id g = some ⟨g, ro, C⟩ := by simp [live, h1]
 rw [hlv]
 have hb : Nat.ble (k + 1 + r) (k + 1 + r) = true := by rw [Nat.ble_eq]; exact Nat.le_refl _
 have htk : C.take (k + 1 + r) = C := by rw [← hl, List.take_length]
 have hch : chunk 1 (k + 1 + r) (List.replicate k (D.slice []) ++ D.slice (encY L) :: List.replicate r (D.slice [])) = List.replicate k [D.slice []] ++ [D.slice (encY L)] :: List.replicate r [D.slice []] := by
  have h := chunk_flat (sz := 1) (l := List.replicate k [D.slice []] ++ [D.slice (encY L)] :: List.replicate r [D.slice []]) (fun x hx => by
   rcases List.mem_append.1 hx with hx | hx
   ·rw [List.eq_of_mem_replicate hx]; rfl
   ·rcases List.mem_cons.1 hx with hx | hx
    ·rw [hx]; rfl
    ·rw [List.eq_of_mem_replicate hx]; rfl)
  have e1 : (List.replicate k [D.slice []] ++ [D.slice (encY L)] :: List.replicate r [D.slice []]).length = k + 1 + r := by simp; omega
  have e2 : (List.replicate k [D.slice []] ++ [D.slice (encY L)] :: List.replicate r [D.slice []]).flatten = List.replicate k (D.slice []) ++ D.slice (encY L) :: List.replicate r (.slice []) := by simp
  rw [e1, e2] at h
  exact h
 simp only [Nat.zero_add, List.drop_zero, Nat.mul_one, hl, hb, htk, hds, hch]
 rfl
theorem br_list {α : Type} (k r : Nat) (L : List α) : (List.range (k + 1 + r)).map (fun i : Nat => if (i : Int) = (k : Int) then L else []) = List.replicate k [] ++ L :: List.replicate r [] := by
 refine List.ext_getElem (by simp; omega) fun i h1 h2 => ?_
 simp only [List.getElem_map, List.getElem_range]
 by_cases c : i < k
 ·rw [if_neg (by omega), List.getElem_append_left (by simpa using c)]; simp
 ·rw [List.getElem_append_right (by simp; omega)]
  simp only [List.length_replicate]
  by_cases d : i = k
  ·subst d; simp
  ·rw [if_neg (by omega)]
   obtain ⟨j, hj⟩ : ∃ j, i - k = j + 1 := ⟨i - k - 1, by omega⟩
   simp only [hj, List.getElem_cons_succ, List.getElem_replicate]
theorem encY_nil : encY [] = [] := by rw [encY_map]; rfl
theorem kf81 (r : Nat) : Ob.keep 81 r = Ob.k81 r := by kernel_rfl
attribute [local simp] kf81 Ob.k81
set_option maxHeartbeats 8000000 in
theorem branches81 {im gm it gt il gl : Nat} {n : Nn} {T : List (Tx × Bool)} {K : List (Tx × Int)} (o : On) (ho : okO o) (L : List Y) (hL : L.length ≤ 8388608) (va : V) (hp : Hp) (m c : Nat) (hK : MK im gm it gt il gl n T K hp m) (hA : LArg hp m va L) :
  QuietV Tryz.prog Ob.cfg 81 [.ptr im gm 0, dI o.t, dI o.tag, va] hp m c (dL (encB ((List.range (brN o)).map fun i : Nat => if (i : Int) = o.tag then L else []))) := by
 have hob := hK.ob
 have ni := nf hK.lm
 have hs := size14 o.t o.tag ho.1 ho.2.2
 have hbn : (if o.t = 1 then 2 else o.tag + 1) = (brN o : Int) := by unfold brN; split <;> (have := ho.1; omega)
 rw [hbn] at hs
 obtain ⟨hb1, hb2⟩ := brN_le ho
 simp only [dI] at hs
 have hf : fitsB (brN o) 24 = true := by simp [fitsB]; omega
 refine quietC_wp Tryz.func81 rfl (by kernel_rfl) rfl ?_
 obtain ⟨k, hk⟩ : ∃ k : Nat, (k : Int) = o.tag := ⟨o.tag.toNat, by have := ho.1; omega⟩
 have hmx := eq_true (show (brN o : Int) ≤ 9223372036854775807 by omega)
 have hkn : k < brN o := by omega
 have hlt := eq_true (show (k : Int) < (brN o : Int) by omega)
 have hix : idx (k : Int) (brN o) = some k := by unfold idx; rw [if_pos ⟨by omega, by omega⟩]; simp
 have hfL : fitsB L.length 176 = true := by simp [fitsB]; omega
 have hmL := eq_true (show (L.length : Int) ≤ 9223372036854775807 by omega)
 rw [← hk] at hs ⊢
 have hble : Nat.ble (k + 1) (brN o) = true := by rw [Nat.ble_eq]; omega
 have hmin : min k (brN o) = k := by omega
 have hle : ∀ x : Nat, Nat.ble x x = true := fun x => by rw [Nat.ble_eq]; exact Nat.le_refl x
 rcases hA with rfl | ⟨id, g, ro, cs, cap, rfl, h1, h2, h3⟩
 refine wkckv (jn @envOf.eq_1 (jn @envOf.eq_2 (jn @dI.eq_1 (jn @dL.eq_1 (jn @hob (jn @ni (jn @hs (jn @makeV.eq_def (jn @hf (jn @hmx (jn @hlt @encY_len))))))))))) ?_
 apply WP.gen3
 intro hp1 c1 wl1 hhp hwl
 refine wkckv (jn @dI.eq_1 (jn @dL.eq_1 (jn @hix (jn @hfL (jn @hmL (jn @makeV.eq_def (jn @fillV.eq_1 (jn @fillV.eq_2 (jn @encY_len (jn @hhp (jn @hble @hmin))))))))))) ?_
 obtain ⟨Z, hZ⟩ : ∃ Z, Z = (List.replicate L.length zC).flatten := ⟨_, rfl⟩
 have hZl : Z.length = L.length * 12 := by rw [hZ]; simp [zC]
 unfold zC at hZ
 rw [← hZ]
 apply WP.gen3
 intro hp2 c2 wl2 hhp2 hwl2
 obtain ⟨va, hva, xs, idl, hry, hrx⟩ : ∃ va, va = V.d (.slice (encY L)) ∧ ∃ xs idl, rowsOf hp2.get 12 va = some (L.length, xs, idl) ∧ RowD xs (encY L) 12 := ⟨_, rfl, fl (encY L), [], by have := rows_fl hp2.get (encY_row L); rw [encY_len] at this; exact this, VD.map _, encY_row L⟩
 rw [← hva]
 rotate_left
 refine wkckv (jn @envOf.eq_1 (jn @envOf.eq_2 (jn @dI.eq_1 (jn @dL.eq_1 (jn @hob (jn @ni (jn @hs (jn @makeV.eq_def (jn @hf (jn @hmx (jn @hlt @encY_len))))))))))) ?_
 apply WP.gen3
 intro hp1 c1 wl1 hhp hwl
 have hmid : (m = id) = False := eq_false (by omega)
 have hidm : (id = m) = False := eq_false (by omega)
 refine wkckv (jn @dI.eq_1 (jn @dL.eq_1 (jn @hix (jn @hfL (jn @hmL (jn @makeV.eq_def (jn @fillV.eq_1 (jn @fillV.eq_2 (jn @encY_len (jn @hhp (jn @hble (jn @hmin (jn @h1 (jn @hmid @hidm)))))))))))))) ?_
 obtain ⟨Z, hZ⟩ : ∃ Z, Z = (List.replicate L.length zC).flatten := ⟨_, rfl⟩
 have hZl : Z.length = L.length * 12 := by rw [hZ]; simp [zC]
 unfold zC at hZ
 rw [← hZ]
 apply WP.gen3
 intro hp2 c2 wl2 hhp2 hwl2
 have hx9 : hp2.get id = some ⟨g, ro, cs⟩ := by rw [hhp2]; simp [show (m = id) = False from eq_false (by omega), show (m + 1 = id) = False from eq_false (by omega), h1]
 obtain ⟨va, hva, xs, idl, hry, hrx⟩ : ∃ va, va = V.osl id g 0 L.length 12 cap ∧ ∃ xs idl, rowsOf hp2.get 12 va = some (L.length, xs, idl) ∧ RowD xs (encY L) 12 := ⟨_, rfl, cs, [id], by
  have r2 := h2.len
  have r3 := h2.take
  rw [encY_len] at r2 r3
  simp [rowsOf, live, hx9, r2, r3, hle], h2⟩
 rw [← hva]
 rotate_left
 all_goals
  have hx0 : hp2.get m = some ⟨c, false, List.replicate k (V.full []) ++ V.osl (m + 1) c1 0 L.length 12 (some L.length) :: List.replicate (brN o - (k + 1)) (V.full [])⟩ := by rw [hhp2]; simp
  have hx1 : hp2.get (m + 1) = some ⟨c1, false, Z⟩ := by rw [hhp2]; simp
  have hdr : ∀ (x : V) (r : List V), (List.replicate k (V.full []) ++ x :: r).drop k = x :: r := fun x r => by rw [List.drop_left' (by simp)]
  have hZd : Z.drop (L.length * 12) = [] := by rw [← hZl, List.drop_length]
  have hft := hrx.take
  rw [encY_len] at hft
  have hkl : Nat.ble (k + 1) (k + (brN o - (k + 1) + 1)) = true := by rw [Nat.ble_eq]; omega
  have hlk : ∀ (x : V) (r : List V), (List.replicate k (V.full []) ++ x :: r)[k]? = some x := fun x r => by rw [List.getElem?_append_right (by simp)]; simp
  refine wkckv (jn @dI.eq_1 (jn @dL.eq_1 (jn @hix (jn @hx0 (jn @hx1 (jn @hdr (jn @hry (jn @hZd (jn @hft (jn @hZl (jn @hle (jn @copyV.eq_def (jn @hkl @hlk))))))))))))) ?_
  refine ⟨.inr rfl, ?_, _, [m, m + 1], rfl, ?_, ?_⟩
  ·show wl2 = []
   rw [hwl2, hwl]
  ·have hcl := close_br (look := (hp2.set (m + 1) ⟨c1, false, xs⟩).get) (id := m) (g := c) (id2 := m + 1) (g2 := c1) (k := k) (r := brN o - (k + 1)) (cap := some (brN o)) (cap2 := some L.length) (L := L) (ro := false) (ro2 := false) hrx (by simp [hx0]) (by simp)
   rw [show k + 1 + (brN o - (k + 1)) = brN o by omega] at hcl
   rw [show brN o = k + 1 + (brN o - (k + 1)) by omega, br_list, encB_map]
   rw [show k + 1 + (brN o - (k + 1)) = brN o by omega]
   refine hcl.trans ?_
   simp [encY_nil]
  ·simp
end Go.Ac
end
