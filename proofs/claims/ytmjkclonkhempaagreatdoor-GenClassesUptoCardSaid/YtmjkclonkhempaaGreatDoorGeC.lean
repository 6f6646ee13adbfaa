/- The class of a node: the program's names. -/
import Derived.Test.YtmjkclonkhempaaGreatDoorGdPM
set_option linter.unusedVariables false
set_option linter.unusedSimpArgs false
set_option maxRecDepth 8000
namespace Go.Ac
open Go.Proofs
attribute [local simp] Hp.get_set Ag_set Ag_refl Ag_trunc get_trunc_lt
/-- The class that is being made. -/
def clO (n : Nn) (g7 a g8 b : Nat) : List V := [.d (.str n.nm), .d (.slice (encD (n.inn.map brD))), .d (.slice (encD (n.out.map brD))), .d (.slice (encD (n.loc.map brD))), .osl 7 g7 0 a 3 none, .osl 8 g8 0 b 2 none, .full []]
def zCl : List V := [.d (.str []), .full [], .full [], .full [], .full [], .full [], .full []]
def mkO (n : Nn) (gt gl : Nat) : List V := [.d (.str n.nm), .d (.slice (encD n.inn)), .d (.slice (encD n.out)), .d (.slice (encD n.loc)), .d (.slice (encN n.eqs)), .fn 14 [], .mp 2 gt, .mp 3 gl]
/-- The memory while the names are gathered. -/
structure C0 (gm gt gl c : Nat) (n : Nn) (T : List (Tx × Bool)) (hp : Hp) : Prop where
 o2 : hp.get 2 = some ⟨gt, false, [mpC eBo T]⟩
 o3 : hp.get 3 = some ⟨gl, false, [mpC eI []]⟩
 o4 : hp.get 4 = some ⟨gm, false, mkO n gt gl⟩
 o5 : hp.get 5 = some ⟨c, false, zCl⟩
 o6 : hp.get 6 = some ⟨c + 1, false, clO n (c + 2) 0 (c + 3) 0⟩
 o7 : hp.get 7 = some ⟨c + 2, false, []⟩
 o8 : hp.get 8 = some ⟨c + 3, false, []⟩
 o9 : hp.get 9 = some ⟨c + 4, false, [.d (.slice (encD n.inn)), .d (.slice (encD n.out)), .d (.slice (encD n.loc))]⟩
theorem WI.lit {wl : List Nat} {hp hp' hp0 : Hp} {wl' : List Nat} (h : WI [2, 3] 5 hp0 wl hp) (hw : wl' = wl) (hf : ∀ j, j < 5 → hp'.get j = hp.get j) : WI [2, 3] 5 hp0 wl' hp' :=
 ⟨hw ▸ h.1, fun j hj hn => (hf j hj).trans (h.2 j hj (hw ▸ hn))⟩
theorem kf31 (r : Nat) : Ob.keep 31 r = Ob.k31 r := by kernel_rfl
attribute [local simp] kf31 Ob.k31
/-- The memory while the statements are gathered. -/
structure C1 (gm gt gl c : Nat) (n : Nn) (T : List (Tx × Bool)) (K : List (Tx × Int)) (g7 : Nat) (M : List Mm) (g8 : Nat) (I : List Ii) (g10 : Nat) (F : List Y) (g11 : Nat) (R : List Y) (hp : Hp) : Prop where
 o2 : hp.get 2 = some ⟨gt, false, [mpC eBo T]⟩
 o3 : hp.get 3 = some ⟨gl, false, [mpC eI K]⟩
 o4 : hp.get 4 = some ⟨gm, false, mkO n gt gl⟩
 o5 : hp.get 5 = some ⟨c, false, zCl⟩
 o6 : hp.get 6 = some ⟨c + 1, false, clO n g7 M.length g8 I.length⟩
 o7 : ∃ cs, hp.get 7 = some ⟨g7, false, cs⟩ ∧ RowD cs (encM M) 3
 o8 : ∃ cs, hp.get 8 = some ⟨g8, false, cs⟩ ∧ RowD cs (encJ I) 2
 o10 : ∃ cs, hp.get 10 = some ⟨g10, false, cs⟩ ∧ RowD cs (encY F) 12
 o11 : ∃ cs, hp.get 11 = some ⟨g11, false, cs⟩ ∧ RowD cs (encY R) 12
theorem C1.toMK {gm gt gl c g7 g8 g10 g11 : Nat} {n : Nn} {T : List (Tx × Bool)} {K : List (Tx × Int)} {M : List Mm} {I : List Ii} {F R : List Y} {hp : Hp} (h : C1 gm gt gl c n T K g7 M g8 I g10 F g11 R hp) {m : Nat} (hm : 5 ≤ m) : MK 4 gm 2 gt 3 gl n T K hp m :=
 ⟨h.o4, h.o2, h.o3, by omega, by omega, by omega⟩
theorem C1.same {gm gt gl c g7 g8 g10 g11 : Nat} {n : Nn} {T : List (Tx × Bool)} {K : List (Tx × Int)} {M : List Mm} {I : List Ii} {F R : List Y} {hp hp' : Hp} (h : C1 gm gt gl c n T K g7 M g8 I g10 F g11 R hp) (hf : ∀ j, j < 12 → hp'.get j = hp.get j) : C1 gm gt gl c n T K g7 M g8 I g10 F g11 R hp' := by
 obtain ⟨a2, a3, a4, a5, a6, ⟨c7, a7, b7⟩, ⟨c8, a8, b8⟩, ⟨c10, a10, b10⟩, ⟨c11, a11, b11⟩⟩ := h
 exact ⟨(hf 2 (by omega)).trans a2, (hf 3 (by omega)).trans a3, (hf 4 (by omega)).trans a4, (hf 5 (by omega)).trans a5, (hf 6 (by omega)).trans a6, ⟨c7, (hf 7 (by omega)).trans a7, b7⟩, ⟨c8, (hf 8 (by omega)).trans a8, b8⟩, ⟨c10, (hf 10 (by omega)).trans a10, b10⟩, ⟨c11, (hf 11 (by omega)).trans a11, b11⟩⟩
/-- What is known of the counters. -/
def Cnt (K : List (Tx × Int)) (s : Nat × Nat) : Prop := (mget K [109]).getD 0 = (s.1 : Int) - 1 ∧ (mget K [105]).getD 0 = (s.2 : Int) - 1
theorem rows_larg {hp : Hp} {n : Nat} {va : V} {L : List Y} (h : LArg hp n va L) : ∃ xs idl, rowsOf hp.get 12 va = some (L.length, xs, idl) ∧ RowD xs (encY L) 12 ∧ idl.all (fun i => Nat.blt i n) = true := by
 rcases h with rfl | ⟨id, g, ro, cs, cap, rfl, h1, h2, h3⟩
 ·have := rows_fl hp.get (encY_row L); rw [encY_len] at this
  exact ⟨_, _, this, ⟨VD.map _, encY_row L⟩, rfl⟩
 ·have r2 := h2.len
  have r3 := h2.take
  rw [encY_len] at r2 r3
  exact ⟨cs, [id], by simp [rowsOf, live, h1, r2, r3, nble_d], h2, by simp [Nat.blt_eq, h3]⟩
theorem stQ_pos {q : Nq} {nm : Tx} (h : q.k = 1 ∨ q.k = 2 ∨ q.k = 3 ∨ q.k = 4) : 0 < (stQ q nm).length ∧ (stQ q nm).length ≤ 2 := by
 unfold stQ
 rcases h with h | h | h | h
 ·rw [if_pos h]; simp
 ·rw [if_neg (by omega), if_pos h]; simp
 ·rw [if_neg (by omega), if_neg (by omega), if_pos h]; unfold evY; split <;> simp
 ·rw [if_neg (by omega), if_neg (by omega), if_neg (by omega), if_pos h]; simp [wdY]
theorem unY_pos {L : List Y} (h : 0 < L.length) (ck : List On) : 0 < (unY ck L).length := by
 cases ck with
 | nil => rw [unY]; exact h
 | cons o r => rw [unY_cons]; simp
theorem fm_len {α β : Type} {f : α → List β} {k : Nat} (h : ∀ x, (f x).length ≤ k) : ∀ l : List α, (l.flatMap f).length ≤ k * l.length
 | [] => by simp
 | x :: r => by rw [List.flatMap_cons, List.length_append, List.length_cons]; have := fm_len h r; have := h x; rw [Nat.mul_succ]; omega
theorem memQ_len (W : List Dc) (p : Nq × Tx) : (memQ W p).length ≤ 1 := by unfold memQ; (repeat' split) <;> simp
theorem insQ_len (p : Nq × Tx) : (insQ p).length ≤ 1 := by unfold insQ; split <;> simp
theorem fstQ_len (p : Nq × Tx) : (fstQ p).length ≤ 1 := by unfold fstQ; split <;> simp
theorem rstQ_len (p : Nq × Tx) : (rstQ p).length ≤ 3 := by
 unfold rstQ; split
 ·rename_i h; have := unY_len (stQ p.1 p.2) p.1.ck; have := (stQ_pos (nm := p.2) h).2; omega
 ·simp
theorem prL_len (T : List Tx) (l : List Nq) (s : Nat × Nat) : (prL T s l).length = l.length := by have := congrArg List.length (prL_fst T l s); rwa [List.length_map] at this
theorem fits32 {j : Nat} (h : j ≤ 8388608) : fitsB (j + 1) 32 = true := by simp [fitsB]; omega
theorem fits176 {j : Nat} (h : j ≤ 8388608) : fitsB (j + 1) 176 = true := by simp [fitsB]; omega
theorem fits176m {j m : Nat} (h : j + m ≤ 8388608) : fitsB (j + m) 176 = true := by simp [fitsB]; omega
/-- The call for a name, in the memory of a class that is made. -/
theorem name_c1 {gm gt gl c g7 g8 g10 g11 : Nat} {n : Nn} {T : List (Tx × Bool)} {K : List (Tx × Int)} {M : List Mm} {I : List Ii} {F R : List Y} {hp hp0 : Hp} {wl : List Nat} (b : Tx) (hbl : b.length ≤ 4) (W : List Tx) (hT : ∀ x, (mget T x).getD false = decide (x ∈ W)) (i k0 : Nat) (hbd : 1 + i + W.length ≤ 403) (hi : Iv (b ++ [95]) W i k0) (hk0 : k0 ≤ 404) (hg : (mget K b).getD 0 = (k0 : Int) - 1)
  (h : C1 gm gt gl c n T K g7 M g8 I g10 F g11 R hp) (hwi : WI [2, 3] 5 hp0 wl hp) (cc : Nat) :
  ∃ u, lim Tryz.prog Ob.cfg 53 [.ptr 4 gm 0, dS b] hp 13 cc = some u ∧ (∀ k, k ∈ (tWr u 13).map (·.1) → k < 13 + (u.n - 13)) ∧ u.n = 13 ∧ u.v = dS (nmT (b ++ [95]) (nx (b ++ [95]) W 404 k0)) ∧
   (∃ K', C1 gm gt gl c n T K' g7 M g8 I g10 F g11 R (hp.sets (tWr u 13)) ∧ ∀ y, (mget K' y).getD 0 = if y = b then ((nx (b ++ [95]) W 404 k0 : Nat) : Int) else (mget K y).getD 0) ∧
   (hp.sets (tWr u 13)).get 12 = hp.get 12 ∧ WI [2, 3] 5 hp0 (addNew 5 wl (tWr u 13)) (hp.sets (tWr u 13)) := by
 obtain ⟨u, a1, a2, a3, a4, a5, hp', ⟨b1, b2, K', b3, b4⟩, b5⟩ := (name53 b hbl W hT i k0 hbd hi hk0 hg hp 13 cc (h.toMK (by omega)) ⟨by omega, by omega⟩).caller (by simp)
 have hfr : ∀ j, j < 13 → j ≠ 3 → (hp.sets (tWr u 13)).get j = hp.get j := fun j hj hn => a5 j hj (by simpa using hn)
 have h3 : (hp.sets (tWr u 13)).get 3 = some ⟨gl, false, [mpC eI K']⟩ := by rw [b5 3 (by omega) (by rw [b3.la]; rfl)]; exact b3.la
 refine ⟨u, a1, a3, b2, b1, ⟨K', ?_, b4⟩, hfr 12 (by omega) (by omega), hwi.sets fun p hp => ?_⟩
 ·obtain ⟨c2, c3, c4, c5, c6, ⟨c7, a7, d7⟩, ⟨c8, a8, d8⟩, ⟨c10, a10, d10⟩, ⟨c11, a11, d11⟩⟩ := h
  exact ⟨(hfr 2 (by omega) (by omega)).trans c2, h3, (hfr 4 (by omega) (by omega)).trans c4, (hfr 5 (by omega) (by omega)).trans c5, (hfr 6 (by omega) (by omega)).trans c6, ⟨c7, (hfr 7 (by omega) (by omega)).trans a7, d7⟩, ⟨c8, (hfr 8 (by omega) (by omega)).trans a8, d8⟩, ⟨c10, (hfr 10 (by omega) (by omega)).trans a10, d10⟩, ⟨c11, (hfr 11 (by omega) (by omega)).trans a11, d11⟩⟩
 ·rcases a4 p.1 (List.mem_map.2 ⟨p, hp, rfl⟩) with h | h
  ·exact .inl (by simp at h; simp [h])
  ·exact .inr (by omega)
def QC (q : Nq) : List V := [.d (.int .i64 q.k), .d (.slice (encS q.left)), .d (.int .i64 q.r.k), .d (.int .i64 q.r.o), .d (.int .i64 q.r.t), .d (.int .i64 q.r.v), .d (.str q.r.nm), .d (.slice (encX q.r.args)), .d (.int .i64 q.ini), .d (.str q.node), .d (.slice (encX q.args)), .d (.str q.ev), .d (.slice (encO q.ck))]
theorem prs_len {s : Tx} (h0 : (prsT s).2 = 0) : 0 < ((prsT s).1.1 ++ (prsT s).1.2).length ∧ (prsT s).1.1.length + (prsT s).1.2.length ≤ 64 := by
 rw [← prsP_eq] at h0 ⊢
 unfold prsP at h0 ⊢
 split at h0
 ·cases h0
 ·split at h0
  ·rename_i h66 hx
   rw [if_neg h66, if_pos hx]
   obtain ⟨_, _, _, _, hck⟩ := hx
   unfold ckW at hck
   split at hck
   ·cases hck
   ·rename_i hne
    split at hck
    ·cases hck
    ·rename_i hle
     have := List.length_pos_iff.2 hne
     simp only [List.length_append]; omega
  ·cases h0
theorem WI.set3 {ids : List Nat} {n k1 k2 k3 : Nat} {hp0 hp : Hp} {wl : List Nat} {o1 o2 o3 : Ob} (h : WI ids n hp0 wl hp) (h1 : k1 ∈ ids ∨ n ≤ k1) (h2 : k2 ∈ ids ∨ n ≤ k2) (h3 : k3 ∈ ids ∨ n ≤ k3) : WI ids n hp0 (addNew n (addNew n (addNew n wl [(k1, o1)]) [(k2, o2)]) [(k3, o3)]) (((hp.set k1 o1).set k2 o2).set k3 o3) := ((h.set h1).set h2).set h3
theorem close_cls {look : Look} {a b c d x7 x8 x10 : D} {i7 g7 n7 s7 i8 g8 n8 s8 i10 g10 n10 s10 : Nat} {q7 q8 q10 : Option Nat} {r7 r8 r10 : List Nat}
  (h7 : toD look depthD (.osl i7 g7 0 n7 s7 q7) = some (x7, r7)) (h8 : toD look depthD (.osl i8 g8 0 n8 s8 q8) = some (x8, r8)) (h10 : toD look depthD (.osl i10 g10 0 n10 s10 q10) = some (x10, r10)) :
  closeT look (.agg [.d a, .d b, .d c, .d d, .osl i7 g7 0 n7 s7 q7, .osl i8 g8 0 n8 s8 q8, .osl i10 g10 0 n10 s10 q10]) = some (.agg [.d a, .d b, .d c, .d d, .d x7, .d x8, .d x10], r7 ++ (r8 ++ r10)) := by
 simp only [closeT, close, closeVs, close1, toD_d, ofD, h7, h8, h10]
 simp
theorem RowD.toD2 {look : Look} {id g sz m : Nat} {ro : Bool} {cs : List V} {l : List (List D)} {cap : Option Nat} (h : RowD cs l sz) (hl : look id = some ⟨g, ro, cs⟩) (hm : m = l.length) : Ac.toD look depthD (.osl id g 0 m sz cap) = some (.slice l, [id]) := by
 rw [hm]; exact h.toD hl
set_option maxHeartbeats 40000000 in
theorem class31 {gm gt gl : Nat} (n : Nn) (hs : n.sz ≤ 4194304) (hok : ∀ q ∈ n.eqs, okQ q) (hb : n.eqs.length + (dNm (vrN n)).length ≤ 402) (hp : Hp) (c : Nat) (hK : MK 4 gm 2 gt 3 gl n [] [] hp 5) :
  ThrX 31 [.ptr 4 gm 0] hp 5 c [2, 3] (fun v hp' n' => v = aG (clN n).cells ∧ n' = 5 ∧ True) := by
 refine thrD_wp Tryz.func31 rfl (by kernel_rfl) rfl ?_
 have ho := hK.ob
 have hsz : n.sz = szT n.nm + szD n.inn + szD n.out + szD n.loc + szN n.eqs + 5 := rfl
 have p1 := plain50 n.inn (by have := len_szD n.inn; omega)
 have p2 := plain50 n.out (by have := len_szD n.out; omega)
 have p3 := plain50 n.loc (by have := len_szD n.loc; omega)
 simp only [dL] at p1 p2 p3
 repeat (first
 | apply WP.seq
 | (apply WP.reg; (case hR => dsimp only [prepL, prepO, List.map, gS, gZ]; exact iZ); (case hr => (repeat (first
 | (apply RT.op; simp [-addNew, envOf, ho, p1, p2, p3, fillV, closeParts, cl2, toD_dep, toD_d]; exact iZ; (try dsimp only [putEnv]) <;> exact rfl)
 | (apply RT.call; (iterate 2 simp; exact iZ); exact iZ; (iterate 4 simp [-addNew, envOf, ho, p1, p2, p3, fillV, closeParts, cl2, toD_dep, toD_d]; exact iZ); simp [Is]; (try dsimp only [putEnv]) <;> exact rfl; simp; exact iZ; exact iZ)
 | (apply RT.callV; (iterate 2 simp; exact iZ); exact iZ; (iterate 3 simp [-addNew, envOf, ho, p1, p2, p3, fillV, closeParts, cl2, toD_dep, toD_d]; exact iZ); (try dsimp only [putEnv]) <;> exact rfl)
 | (apply RT.callT (hd := hT1) (hk := hT2); (iterate 2 simp; exact iZ); exact iZ; (iterate 2 simp [-addNew, envOf, ho, p1, p2, p3, fillV, closeParts, cl2, toD_dep, toD_d]; exact iZ); (try dsimp only [putEnv]) <;> exact rfl)
 | (apply RT.wr; simp [-addNew, envOf, ho, p1, p2, p3, fillV, closeParts, cl2, toD_dep, toD_d]; exact iZ; (try dsimp only [putEnv]) <;> exact rfl; simp [-addNew, envOf, ho, p1, p2, p3, fillV, closeParts, cl2, toD_dep, toD_d]; exact iZ; (iterate 2 exact iZ); exact iZ))); exact RT.nil); (case hc => first | (refine checkR_un [(0, 5), (1, 5), (2, 5), (3, 5), (4, 5), (0, 6), (1, 6), (2, 6), (3, 6), (4, 6), (0, 7), (1, 7), (2, 7), (3, 7), (4, 7), (0, 8), (1, 8), (2, 8), (3, 8), (4, 8), (0, 9), (1, 9), (2, 9), (3, 9), (4, 9), (0, 10), (1, 10), (2, 10), (3, 10), (4, 10), (0, 11), (1, 11), (2, 11), (3, 11), (4, 11), (5, 11), (6, 11), (7, 11), (8, 11), (9, 11), (10, 11), (0, 12), (1, 12), (2, 12), (3, 12), (4, 12), (5, 12), (6, 12), (7, 12), (8, 12), (9, 12), (10, 12), (0, 13), (1, 13), (2, 13), (3, 13), (4, 13), (5, 13), (6, 13), (7, 13), (8, 13), (9, 13), (10, 13), (0, 14), (1, 14), (2, 14), (3, 14), (4, 14), (5, 14), (6, 14), (7, 14), (8, 14), (9, 14), (10, 14), (0, 15), (1, 15), (2, 15), (3, 15), (4, 15), (5, 15), (6, 15), (7, 15), (8, 15), (9, 15), (10, 15), (0, 16), (1, 16), (2, 16), (3, 16), (4, 16), (0, 17), (1, 17), (2, 17), (3, 17), (4, 17), (5, 17), (6, 17), (7, 17), (8, 17), (9, 17), (10, 17), (11, 17), (12, 17), (13, 17), (14, 17), (15, 17), (16, 17), (0, 18), (1, 18), (2, 18), (3, 18), (4, 18), (5, 18), (6, 18), (7, 18), (8, 18), (9, 18), (10, 18), (11, 18), (12, 18), (13, 18), (14, 18), (15, 18), (16, 18), (0, 19), (1, 19), (2, 19), (3, 19), (4, 19), (5, 19), (6, 19), (7, 19), (8, 19), (9, 19), (10, 19), (11, 19), (12, 19), (13, 19), (14, 19), (15, 19), (16, 19), (0, 20), (1, 20), (2, 20), (3, 20), (4, 20), (5, 20), (6, 20), (7, 20), (8, 20), (9, 20), (10, 20), (11, 20), (12, 20), (13, 20), (14, 20), (15, 20), (16, 20), (0, 21), (1, 21), (2, 21), (3, 21), (4, 21), (5, 21), (6, 21), (7, 21), (8, 21), (9, 21), (10, 21), (11, 21), (12, 21), (13, 21), (14, 21), (15, 21), (16, 21), (0, 22), (1, 22), (2, 22), (3, 22), (4, 22), (0, 24), (1, 24), (2, 24), (3, 24), (4, 24), (5, 24), (6, 24), (7, 24), (8, 24), (9, 24), (10, 24), (11, 24), (12, 24), (13, 24), (14, 24), (15, 24), (16, 24), (17, 24), (18, 24), (19, 24), (20, 24), (21, 24), (22, 24), (23, 24)] (by kernel_rfl) (by kernel_rfl) rfl ?_; simp [memA, disj, nbeq_dec]; done) | (refine checkR_un [(0, 5), (1, 5), (2, 5), (3, 5), (4, 5), (0, 6), (1, 6), (2, 6), (3, 6), (4, 6), (0, 7), (1, 7), (2, 7), (3, 7), (4, 7), (0, 8), (1, 8), (2, 8), (3, 8), (4, 8), (0, 9), (1, 9), (2, 9), (3, 9), (4, 9), (0, 10), (1, 10), (2, 10), (3, 10), (4, 10), (5, 10), (6, 10), (7, 10), (8, 10), (9, 10), (0, 11), (1, 11), (2, 11), (3, 11), (4, 11), (5, 11), (6, 11), (7, 11), (8, 11), (9, 11), (0, 12), (1, 12), (2, 12), (3, 12), (4, 12), (5, 12), (6, 12), (7, 12), (8, 12), (9, 12), (0, 13), (1, 13), (2, 13), (3, 13), (4, 13), (5, 13), (6, 13), (7, 13), (8, 13), (9, 13), (0, 14), (1, 14), (2, 14), (3, 14), (4, 14), (5, 14), (6, 14), (7, 14), (8, 14), (9, 14), (0, 17), (1, 17), (2, 17), (3, 17), (4, 17), (5, 17), (6, 17), (7, 17), (8, 17), (9, 17), (10, 17), (11, 17), (12, 17), (13, 17), (14, 17), (15, 17), (16, 17)] (by kernel_rfl) (by kernel_rfl) rfl ?_; simp [memA, disj, nbeq_dec]; done) | (show _ = _; kernel_rfl)); (case ht => simp [-addNew, envOf, ho, p1, p2, p3, fillV, closeParts, cl2, toD_dep, toD_d]; exact iZ))
 | apply WP.block | apply WP.skip | apply WP.exit | apply WP.ret | refine WP.condT rfl ?_ | refine WP.condF rfl ?_)
 apply WP.gen3
 intro hp1 c1 wl1 hhp hwl
 simp only [addNew_cons (show ¬ 5 < 5 by omega), addNew_cons (show ¬ 6 < 5 by omega), addNew_cons (show ¬ 7 < 5 by omega), addNew_cons (show ¬ 8 < 5 by omega), addNew_cons (show ¬ 9 < 5 by omega), addNew_nil] at hwl
 have hC : C0 gm gt gl c n [] hp1 := ⟨by rw [hhp]; simp [hK.tk], by rw [hhp]; simp [hK.la], by rw [hhp]; simp [hK.ob, mkO], by rw [hhp]; simp [zCl], by rw [hhp]; simp [clO], by rw [hhp]; simp, by rw [hhp]; simp, by rw [hhp]; simp⟩
 have hwi : WI [2, 3] 5 hp wl1 hp1 := WI.refl.lit hwl fun j hj => by
  rw [hhp]; obtain rfl | rfl | rfl | rfl | rfl : j = 0 ∨ j = 1 ∨ j = 2 ∨ j = 3 ∨ j = 4 := by omega
  all_goals simp
 clear hhp hwl hK ho p1 p2 p3
 apply WP.loop' (I := fun D s => ∃ (j c' : Nat) (hp' : Hp) (wl : List Nat) (T : List (Tx × Bool)), j + D = 3 ∧ C0 gm gt gl c n T hp' ∧ WI [2, 3] 5 hp wl hp' ∧ (∀ y, (mget T y).getD false = decide (y ∈ dNm ([n.inn, n.out, n.loc].take j).flatten)) ∧
  s = ⟨[(0, .ptr 4 gm 0), (2, .ptr 5 c 0), (3, .ptr 6 (c + 1) 0), (57, .osl 9 (c + 4) 0 3 1 (some 3)), (58, dI 3), (59, dI j)], hp', 10, c', 5, wl⟩) (d := 3)
 ·exact ⟨0, _, _, _, [], by simp, hC, hwi, fun y => by simp [mget, dNm], st_eq (by simp [dI]) rfl⟩
 clear hC hwi
 rintro D _ ⟨j, c', hp', wl, T, hj, hC, hwi, hT, rfl⟩
 have i0 : idx 0 3 = some 0 := rfl
 have i1 : idx 1 3 = some 1 := rfl
 have i2 : idx 2 3 = some 2 := rfl
 have h9 := hC.o9
 obtain rfl | rfl | rfl | rfl : j = 0 ∨ j = 1 ∨ j = 2 ∨ j = 3 := by omega
 refine wkcektv (jn @dI.eq_1 (jn @dL.eq_1 (jn @h9 (jn @i0 @encD_len)))) ?_
 obtain ⟨pre, l, J, e1, e2, e4, hl, eJ, hJ⟩ : ∃ (pre l : List Dc) (J : Nat), n.inn = l ∧ ([n.inn, n.out, n.loc].take 0).flatten = pre ∧ ([n.inn, n.out, n.loc].take (J + 1)).flatten = pre ++ l ∧ l.length ≤ 8388608 ∧ (0 : Int) = (J : Int) ∧ J + 1 + (D - 1) = 3 := ⟨[], n.inn, 0, rfl, by simp, by simp, by have := len_szD n.inn; omega, rfl, by omega⟩
 refine WP.st_eq2 (s' := ⟨[(0, .ptr 4 gm 0), (2, .ptr 5 c 0), (3, .ptr 6 (c + 1) 0), (57, .osl 9 (c + 4) 0 3 1 (some 3)), (58, dI 3), (59, dI J), (63, dL (encD l)), (64, dI l.length), (65, dI 0)], hp', 10, c', 5, wl⟩) (by rw [← e1, ← eJ]; simp [addNew_nil, dI, dL]) ?_
 rw [e2] at hT
 rotate_left
 refine wkcektv (jn @dI.eq_1 (jn @dL.eq_1 (jn @h9 (jn @i1 @encD_len)))) ?_
 obtain ⟨pre, l, J, e1, e2, e4, hl, eJ, hJ⟩ : ∃ (pre l : List Dc) (J : Nat), n.out = l ∧ ([n.inn, n.out, n.loc].take 1).flatten = pre ∧ ([n.inn, n.out, n.loc].take (J + 1)).flatten = pre ++ l ∧ l.length ≤ 8388608 ∧ (1 : Int) = (J : Int) ∧ J + 1 + (D - 1) = 3 := ⟨n.inn, n.out, 1, rfl, by simp, by simp, by have := len_szD n.out; omega, rfl, by omega⟩
 refine WP.st_eq2 (s' := ⟨[(0, .ptr 4 gm 0), (2, .ptr 5 c 0), (3, .ptr 6 (c + 1) 0), (57, .osl 9 (c + 4) 0 3 1 (some 3)), (58, dI 3), (59, dI J), (63, dL (encD l)), (64, dI l.length), (65, dI 0)], hp', 10, c', 5, wl⟩) (by rw [← e1, ← eJ]; simp [addNew_nil, dI, dL]) ?_
 rw [e2] at hT
 rotate_left
 refine wkcektv (jn @dI.eq_1 (jn @dL.eq_1 (jn @h9 (jn @i2 @encD_len)))) ?_
 obtain ⟨pre, l, J, e1, e2, e4, hl, eJ, hJ⟩ : ∃ (pre l : List Dc) (J : Nat), n.loc = l ∧ ([n.inn, n.out, n.loc].take 2).flatten = pre ∧ ([n.inn, n.out, n.loc].take (J + 1)).flatten = pre ++ l ∧ l.length ≤ 8388608 ∧ (2 : Int) = (J : Int) ∧ J + 1 + (D - 1) = 3 := ⟨n.inn ++ n.out, n.loc, 2, rfl, by simp, by simp, by have := len_szD n.loc; omega, rfl, by omega⟩
 refine WP.st_eq2 (s' := ⟨[(0, .ptr 4 gm 0), (2, .ptr 5 c 0), (3, .ptr 6 (c + 1) 0), (57, .osl 9 (c + 4) 0 3 1 (some 3)), (58, dI 3), (59, dI J), (63, dL (encD l)), (64, dI l.length), (65, dI 0)], hp', 10, c', 5, wl⟩) (by rw [← e1, ← eJ]; simp [addNew_nil, dI, dL]) ?_
 rw [e2] at hT
 rotate_left
 ·have e : ([n.inn, n.out, n.loc].take 3).flatten = vrN n := by simp [vrN]
  rw [e] at hT
  have h4 := hC.o4
  unfold mkO at h4
  have hNe : (encN n.eqs).length = n.eqs.length := encN_len _
  refine wkcektv (jn @dI.eq_1 (jn @dL.eq_1 (jn @h4 @hNe))) ?_
  apply WP.gen3
  intro hp2 c2 wl2 hhp2 hwl2
  obtain ⟨W, hW⟩ : ∃ W, dNm (vrN n) = W := ⟨_, rfl⟩
  rw [hW] at hT hb
  have hCa : ∃ g10 g11, C1 gm gt gl c n T [] (c + 2) [] (c + 3) [] g10 [] g11 [] hp2 ∧ g10 = c' ∧ g11 = c' + 1 := ⟨c', c' + 1, ⟨by rw [hhp2]; simp [hC.o2], by rw [hhp2]; simp [hC.o3], by rw [hhp2]; simp [hC.o4], by rw [hhp2]; simp [hC.o5], by rw [hhp2]; simp [hC.o6], ⟨[], by rw [hhp2]; simp [hC.o7], RowD.nil 3⟩, ⟨[], by rw [hhp2]; simp [hC.o8], RowD.nil 2⟩, ⟨[], by rw [hhp2]; simp, RowD.nil 12⟩, ⟨[], by rw [hhp2]; simp, RowD.nil 12⟩⟩, rfl, rfl⟩
  have hwia : WI [2, 3] 5 hp wl2 hp2 := hwi.lit hwl2 fun j hj => by
   rw [hhp2]; obtain rfl | rfl | rfl | rfl | rfl : j = 0 ∨ j = 1 ∨ j = 2 ∨ j = 3 ∨ j = 4 := by omega
   all_goals simp
  obtain ⟨P, hP⟩ : ∃ P : Nat → List (Nq × Tx), ∀ j, P j = prL W (1, 1) (n.eqs.take j) := ⟨_, fun _ => rfl⟩
  clear hhp2 hC hwi h9 h4
  apply WP.loop' (I := fun D s => ∃ (j c' : Nat) (hp' : Hp) (wl : List Nat) (K : List (Tx × Int)) (g7 g8 g10 g11 : Nat), j + D = n.eqs.length ∧ C1 gm gt gl c n T K g7 ((P j).flatMap (memQ (vrN n))) g8 ((P j).flatMap insQ) g10 ((P j).flatMap fstQ) g11 ((P j).flatMap rstQ) hp' ∧ WI [2, 3] 5 hp wl hp' ∧ Cnt K (mcs W (n.eqs.take j)) ∧
   s = ⟨[(0, .ptr 4 gm 0), (2, .ptr 5 c 0), (3, .ptr 6 (c + 1) 0), (8, .osl 10 g10 0 ((P j).flatMap fstQ).length 12 none), (9, .osl 11 g11 0 ((P j).flatMap rstQ).length 12 none), (81, dL (encN n.eqs)), (82, dI n.eqs.length), (83, dI j)], hp', 12, c', 5, wl⟩) (d := n.eqs.length)
  ·obtain ⟨g10, g11, hCa, hg10, hg11⟩ := hCa
   refine ⟨0, _, _, _, [], c + 2, c + 3, g10, g11, by simp, ?_, hwia, ⟨rfl, rfl⟩, st_eq (by rw [hP, hg10, hg11]; simp [dI, dL, prL]) rfl⟩
   rw [hP]; exact hCa
  clear hCa hwia
  rintro D _ ⟨j, c', hp', wl, K, g7, g8, g10, g11, hj, hC, hwi, hcn, rfl⟩
  obtain ⟨M, hM⟩ : ∃ M, (P j).flatMap (memQ (vrN n)) = M := ⟨_, rfl⟩
  obtain ⟨I, hI⟩ : ∃ I, (P j).flatMap insQ = I := ⟨_, rfl⟩
  obtain ⟨F, hF⟩ : ∃ F, (P j).flatMap fstQ = F := ⟨_, rfl⟩
  obtain ⟨R, hR⟩ : ∃ R, (P j).flatMap rstQ = R := ⟨_, rfl⟩
  rw [hM, hI, hF, hR] at hC
  rw [hF, hR]
  refine wkektv (jn @dI.eq_1 (jn @dL.eq_1 @hNe)) ?_
  show WP _ _ _ _ _ _
  refine WP.cond _ rfl (fun hb => ?_) (fun hb => ?_)
  ·simp at hb
   have hb' : j < n.eqs.length := by omega
   obtain ⟨q, hq, hqm, hix⟩ := at_lt hb'
   have hq' := encN_at hq
   have hwj := w_succ hb' (by omega)
   have hsn := take_snoc hq
   have hqs := mem_szN hqm
   have hqz : q.sz = szS q.left + q.r.sz + szT q.node + szX q.args + szT q.ev + szO q.ck + 13 := rfl
   have hqo := hok q hqm
   obtain ⟨s, hs5⟩ : ∃ s, mcs W (n.eqs.take j) = s := ⟨_, rfl⟩
   obtain ⟨nm, hnm⟩ : ∃ nm, nmOf W s q = nm := ⟨_, rfl⟩
   have hmc : mcs W (n.eqs.take (j + 1)) = stOf W s q := by rw [hsn, mcs_snoc, hs5]
   have hPn : P (j + 1) = P j ++ [(q, nm)] := by rw [hP, hP, hsn, prL_snoc, ← hnm, ← hs5]; rfl
   have hM1 : (P (j + 1)).flatMap (memQ (vrN n)) = M ++ memQ (vrN n) (q, nm) := by rw [hPn, fm_snoc, hM]
   have hI1 : (P (j + 1)).flatMap insQ = I ++ insQ (q, nm) := by rw [hPn, fm_snoc, hI]
   have hF1 : (P (j + 1)).flatMap fstQ = F ++ fstQ (q, nm) := by rw [hPn, fm_snoc, hF]
   have hR1 : (P (j + 1)).flatMap rstQ = R ++ rstQ (q, nm) := by rw [hPn, fm_snoc, hR]
   rw [hs5] at hcn
   have h4 := hC.o4
   unfold mkO at h4
   have hlf := left52 q
   obtain ⟨lf, hlf0⟩ : ∃ lf, lfQ q = lf := ⟨_, rfl⟩
   rw [hlf0] at hlf
   simp only [dI, dL, dS, aG, Nq.cells, List.map_cons, List.map_nil] at hlf
   have hPl : (P j).length ≤ 402 := by rw [hP, prL_len, List.length_take]; omega
   have hMl : M.length ≤ 402 := by have := fm_len (memQ_len (vrN n)) (P j); rw [hM] at this; omega
   have hIl : I.length ≤ 402 := by have := fm_len insQ_len (P j); rw [hI] at this; omega
   have hFl : F.length ≤ 402 := by have := fm_len fstQ_len (P j); rw [hF] at this; omega
   have hRl : R.length ≤ 1206 := by have := fm_len rstQ_len (P j); rw [hR] at this; omega
   have hiv := mcs_ok (T := W) (l := n.eqs) (i := j) (by omega) (by omega)
   rw [hs5] at hiv
   by_cases k1 : q.k = 1
   have k1' := eq_true k1
   have hd := assign51 lf (q.r.sz + 1) q.r (by omega) (by omega)
   obtain ⟨y, hy⟩ : ∃ y, asgX lf q.r = y := ⟨_, rfl⟩
   rw [hy] at hd
   simp only [dI, dL, dS, aG, X.cells_eq, Y.cells_eq, List.map_cons, List.map_nil] at hd
   repeat (first
 | apply WP.seq
 | (apply WP.reg; (case hR => dsimp only [prepL, prepO, List.map, gS, gZ]; exact iZ); (case hr => (repeat (first
 | (apply RT.op; simp [-addNew, dI, dL, Nq.cells, hix, hq', fillV, closeParts, cl2, toD_d, toD_full, int_beq, k1', hlf, hd]; exact iZ; (try dsimp only [putEnv]) <;> exact rfl)
 | (apply RT.call; (iterate 2 simp; exact iZ); exact iZ; (iterate 4 simp [-addNew, dI, dL, Nq.cells, hix, hq', fillV, closeParts, cl2, toD_d, toD_full, int_beq, k1', hlf, hd]; exact iZ); simp [Is]; (try dsimp only [putEnv]) <;> exact rfl; simp; exact iZ; exact iZ)
 | (apply RT.callV; (iterate 2 simp; exact iZ); exact iZ; (iterate 3 simp [-addNew, dI, dL, Nq.cells, hix, hq', fillV, closeParts, cl2, toD_d, toD_full, int_beq, k1', hlf, hd]; exact iZ); (try dsimp only [putEnv]) <;> exact rfl)
 | (apply RT.callT (hd := hT1) (hk := hT2); (iterate 2 simp; exact iZ); exact iZ; (iterate 2 simp [-addNew, dI, dL, Nq.cells, hix, hq', fillV, closeParts, cl2, toD_d, toD_full, int_beq, k1', hlf, hd]; exact iZ); (try dsimp only [putEnv]) <;> exact rfl)
 | (apply RT.wr; simp [-addNew, dI, dL, Nq.cells, hix, hq', fillV, closeParts, cl2, toD_d, toD_full, int_beq, k1', hlf, hd]; exact iZ; (try dsimp only [putEnv]) <;> exact rfl; simp [-addNew, dI, dL, Nq.cells, hix, hq', fillV, closeParts, cl2, toD_d, toD_full, int_beq, k1', hlf, hd]; exact iZ; (iterate 2 exact iZ); exact iZ))); exact RT.nil); (case hc => first | (refine checkR_un [(0, 2), (1, 2), (0, 3), (1, 3)] (by kernel_rfl) (by kernel_rfl) rfl ?_; simp [memA, disj, nbeq_dec]; done) | (show _ = _; kernel_rfl)); (case ht => simp [-addNew, dI, dL, Nq.cells, hix, hq', fillV, closeParts, cl2, toD_d, toD_full, int_beq, k1', hlf, hd]; exact iZ))
 | apply WP.block | apply WP.skip | apply WP.exit | apply WP.ret | refine WP.condT rfl ?_ | refine WP.condF rfl ?_)
   refine blockQ_nn ?_
   show WP _ _ _ _ _ _
   apply WP.gen3
   intro hpA cA wlA hhpA hwlA
   simp only [addNew_cons (show ¬ 12 < 5 by omega), addNew_cons (show ¬ 13 < 5 by omega), addNew_nil] at hwlA
   obtain ⟨va, NA, gq, K1, gA7, gA8, gA10, hva, hNA, hcA, h12, hC1, hA⟩ : ∃ (va : V) (NA gq : Nat) (K1 : List (Tx × Int)) (gA7 gA8 gA10 : Nat), va = .osl 13 (c' + 1) 0 1 12 (some 1) ∧ (NA = 14 ∧ gq = c' ∧ gA10 = g10) ∧ Cnt K1 (stOf W s q) ∧ hpA.get 12 = some ⟨gq, false, QC q⟩ ∧ C1 gm gt gl c n T K1 gA7 ((P (j + 1)).flatMap (memQ (vrN n))) gA8 ((P (j + 1)).flatMap insQ) gA10 ((P (j + 1)).flatMap fstQ) g11 R hpA ∧ LArg hpA NA va (stQ q nm) := by
    refine ⟨_, 14, c', K, g7, g8, g10, rfl, ⟨rfl, rfl, rfl⟩, ?_, by rw [hhpA]; simp [QC], ?_, .inr ⟨13, c' + 1, false, [V.d (.int .i64 y.k), V.d (.str y.nm), V.d (.int .i64 y.t), V.d (.int .i64 y.r.k), V.d (.int .i64 y.r.o), V.d (.int .i64 y.r.t), V.d (.int .i64 y.r.v), V.d (.str y.r.nm), V.d (.slice (encX y.r.args)), V.d (.slice (encS y.outs)), V.d (.slice (encX y.args)), V.d (.slice (encB y.brs))], some 1, ?_, by rw [hhpA]; simp, ?_, by omega⟩⟩
    ·unfold stOf; rw [if_neg (by omega), if_neg (by omega)]; exact hcn
    ·rw [hM1, hI1, hF1]; unfold memQ insQ fstQ; simp only [k1]; simp only [show ¬ ((1 : Int) = 2) by omega, show ¬ ((1 : Int) = 3) by omega, show ¬ ((1 : Int) = 4) by omega, if_false, List.append_nil]
     exact hC.same fun i hi => by rw [hhpA]; simp [show (12 = i) = False from eq_false (by omega), show (13 = i) = False from eq_false (by omega)]
    ·unfold stQ; rw [if_pos k1]; rfl
    ·unfold stQ; rw [if_pos k1, hlf0, hy, encY_map, List.map_cons, List.map_nil, Y.cells_eq]; exact (RowD.nil 12).snoc (by repeat (first | exact VD.nil | apply VD.d | apply VD.full)) rfl
   have hwiA : WI [2, 3] 5 hp wlA hpA := hwi.lit hwlA fun i hi => by
    rw [hhpA]; simp [show (12 = i) = False from eq_false (by omega), show (13 = i) = False from eq_false (by omega)]
   have hk4 : q.k = 1 ∨ q.k = 2 ∨ q.k = 3 ∨ q.k = 4 := .inl k1
   refine WP.st_eq2 (s' := ⟨[(0, .ptr 4 gm 0), (2, .ptr 5 c 0), (3, .ptr 6 (c + 1) 0), (8, .osl 10 gA10 0 ((P (j + 1)).flatMap fstQ).length 12 none), (9, .osl 11 g11 0 R.length 12 none), (11, .ptr 12 gq 0), (12, va), (81, dL (encN n.eqs)), (82, dI n.eqs.length), (83, dI j)], hpA, NA, cA, 5, wlA⟩) (by rw [hva, hNA.1, hNA.2.1, hNA.2.2, hF1]; simp [fstQ, k1, dL, dI]) ?_
   have hN13 : 13 ≤ NA := by omega
   clear hva hNA hhpA hwlA hwi hC h4 hlf hd hy
   rotate_left
   have k1' := eq_false k1
   by_cases k2 : q.k = 2
   have k2' := eq_true k2
   refine wkcektv (jn @dI.eq_1 (jn @dL.eq_1 (jn @Nq.cells.eq_1 (jn @hix (jn @hq' (jn @fillV.eq_1 (jn @fillV.eq_2 (jn @int_beq (jn @k1' @k2'))))))))) ?_
   apply WP.gen3
   intro hp3 c3 wl3 hhp3 hwl3
   simp only [addNew_cons (show ¬ 12 < 5 by omega), addNew_nil] at hwl3
   have hC3 : C1 gm gt gl c n T K g7 M g8 I g10 F g11 R hp3 := hC.same fun i hi => by rw [hhp3]; simp [show (12 = i) = False from eq_false (by omega)]
   have h12 : hp3.get 12 = some ⟨c', false, QC q⟩ := by rw [hhp3]; simp [QC]
   have hwi3 : WI [2, 3] 5 hp wl3 hp3 := hwi.lit hwl3 fun i hi => by rw [hhp3]; simp [show (12 = i) = False from eq_false (by omega)]
   obtain ⟨u, hT1, hT2, hun, huv, ⟨K', hC4, hK'⟩, hx12, hwi4⟩ := name_c1 [109] (by decide) W hT j s.1 (by omega) hiv.m hiv.lm hcn.1 hC3 hwi3 c3
   have hnm2 : nmT ([109] ++ [95]) (nx ([109] ++ [95]) W 404 s.1) = nm := by rw [← hnm]; unfold nmOf; rw [if_pos (.inl k2)]; rfl
   rw [hnm2] at huv
   simp only [dS] at hT1
   clear hhp3 hwl3 hwi hC
   refine wkcektv (jn @dI.eq_1 @dL.eq_1) ?_
   apply WP.gen3
   intro hp4 c4 wl4 hhp4 hwl4
   rw [← hhp4] at hC4 hx12 hwi4
   try simp only [addNew_nil] at hwl4
   rw [← hwl4] at hwi4
   rw [h12] at hx12
   refine WP.st_eq2 (s' := ⟨[(0, .ptr 4 gm 0), (2, .ptr 5 c 0), (3, .ptr 6 (c + 1) 0), (8, .osl 10 g10 0 F.length 12 none), (9, .osl 11 g11 0 R.length 12 none), (11, .ptr 12 c' 0), (13, .d (.str nm)), (81, dL (encN n.eqs)), (82, dI n.eqs.length), (83, dI j)], hp4, 13, c4, 5, wl4⟩) (by rw [huv, hun]; rfl) ?_
   clear hT1 hT2 hC3 hwi3 h12 hhp4 hwl4 huv hun
   obtain ⟨h', cf, hqt⟩ := QuietV.fn fun c => typeOf54 lf (by have := len_szD n.inn; have := len_szD n.out; have := len_szD n.loc; omega) hp4 13 c (hC4.toMK (by omega))
   obtain ⟨ty, hty⟩ : ∃ ty, tyL (n.inn ++ n.out ++ n.loc) lf = ty := ⟨_, rfl⟩
   rw [hty] at hqt
   simp only [dI, dS] at hqt
   have h6 := hC4.o6
   unfold clO at h6
   unfold QC at hx12
   obtain ⟨cs7, h7, r7⟩ := hC4.o7
   obtain ⟨cs10, h10, r10⟩ := hC4.o10
   have r7l := r7.len
   have r7t := r7.take
   rw [encM_len] at r7l r7t
   have r10l := r10.len
   have r10t := r10.take
   rw [encY_len] at r10l r10t
   have f7 := fits32 (show M.length ≤ 8388608 by omega)
   have f10 := fits176 (show F.length ≤ 8388608 by omega)
   have hst := state55 nm
   obtain ⟨x, hx⟩ : ∃ x, xSt nm = x := ⟨_, rfl⟩
   rw [hx] at hst
   have hren := rename56 (q.r.sz + 1) q.r (by omega) (by omega)
   simp only [dI, dL, dS, aG, X.cells_eq, List.map_cons, List.map_nil] at hst hren
   repeat (first
 | apply WP.seq
 | (apply WP.reg; (case hR => dsimp only [prepL, prepO, List.map, gS, gZ]; exact iZ); (case hr => (repeat (first
 | (apply RT.op; simp [-addNew, dS, dI, dL, hx12, hlf, hqt, h6, h7, r7l, r7t, f7, h10, r10l, r10t, f10, hst, hren, fillV, closeParts, cl2, toD_d, toD_full, nble_d]; exact iZ; (try dsimp only [putEnv]) <;> exact rfl)
 | (apply RT.call; (iterate 2 simp; exact iZ); exact iZ; (iterate 4 simp [-addNew, dS, dI, dL, hx12, hlf, hqt, h6, h7, r7l, r7t, f7, h10, r10l, r10t, f10, hst, hren, fillV, closeParts, cl2, toD_d, toD_full, nble_d]; exact iZ); simp [Is]; (try dsimp only [putEnv]) <;> exact rfl; simp; exact iZ; exact iZ)
 | (apply RT.callV; (iterate 2 simp; exact iZ); exact iZ; (iterate 3 simp [-addNew, dS, dI, dL, hx12, hlf, hqt, h6, h7, r7l, r7t, f7, h10, r10l, r10t, f10, hst, hren, fillV, closeParts, cl2, toD_d, toD_full, nble_d]; exact iZ); (try dsimp only [putEnv]) <;> exact rfl)
 | (apply RT.callT (hd := hT1) (hk := hT2); (iterate 2 simp; exact iZ); exact iZ; (iterate 2 simp [-addNew, dS, dI, dL, hx12, hlf, hqt, h6, h7, r7l, r7t, f7, h10, r10l, r10t, f10, hst, hren, fillV, closeParts, cl2, toD_d, toD_full, nble_d]; exact iZ); (try dsimp only [putEnv]) <;> exact rfl)
 | (apply RT.wr; simp [-addNew, dS, dI, dL, hx12, hlf, hqt, h6, h7, r7l, r7t, f7, h10, r10l, r10t, f10, hst, hren, fillV, closeParts, cl2, toD_d, toD_full, nble_d]; exact iZ; (try dsimp only [putEnv]) <;> exact rfl; simp [-addNew, dS, dI, dL, hx12, hlf, hqt, h6, h7, r7l, r7t, f7, h10, r10l, r10t, f10, hst, hren, fillV, closeParts, cl2, toD_d, toD_full, nble_d]; exact iZ; (iterate 2 exact iZ); exact iZ))); exact RT.nil); (case hc => first | (refine checkR_un [(0, 2), (1, 2), (0, 3), (1, 3), (2, 3), (0, 4), (1, 4), (2, 4), (3, 4), (0, 5), (1, 5), (2, 5), (3, 5), (0, 6), (1, 6), (2, 6), (0, 7), (1, 7), (2, 7), (3, 7), (4, 7), (5, 7), (6, 7), (0, 8), (1, 8), (2, 8), (3, 8), (4, 8), (5, 8), (6, 8), (0, 9), (1, 9), (0, 10), (1, 10)] (by kernel_rfl) (by kernel_rfl) rfl ?_; simp [memA, disj, nbeq_dec]; done) | (show _ = _; kernel_rfl)); (case ht => simp [-addNew, dS, dI, dL, hx12, hlf, hqt, h6, h7, r7l, r7t, f7, h10, r10l, r10t, f10, hst, hren, fillV, closeParts, cl2, toD_d, toD_full, nble_d]; exact iZ))
 | apply WP.block | apply WP.skip | apply WP.exit | apply WP.ret | refine WP.condT rfl ?_ | refine WP.condF rfl ?_)
   refine blockQ_nn ?_
   show WP _ _ _ _ _ _
   apply WP.gen3
   intro hpA cA wlA hhpA hwlA
   simp only [addNew_cons (show ¬ 6 < 5 by omega), addNew_cons (show ¬ 7 < 5 by omega), addNew_cons (show ¬ 10 < 5 by omega), addNew_cons (show ¬ 13 < 5 by omega), addNew_cons (show ¬ 14 < 5 by omega), addNew_cons (show ¬ 15 < 5 by omega), addNew_nil] at hwlA
   obtain ⟨G, hG⟩ : ∃ G, c4 + (cf c4 - c4) = G := ⟨_, rfl⟩
   rw [hG] at hhpA ⊢
   obtain ⟨va, NA, gq, K1, gA7, gA8, gA10, hva, hNA, hcA, h12, hC1, hA⟩ : ∃ (va : V) (NA gq : Nat) (K1 : List (Tx × Int)) (gA7 gA8 gA10 : Nat), va = .osl 15 (G + 4) 0 1 12 (some 1) ∧ (NA = 16 ∧ gq = c' ∧ gA10 = G + 3) ∧ Cnt K1 (stOf W s q) ∧ hpA.get 12 = some ⟨gq, false, QC q⟩ ∧ C1 gm gt gl c n T K1 gA7 ((P (j + 1)).flatMap (memQ (vrN n))) gA8 ((P (j + 1)).flatMap insQ) gA10 ((P (j + 1)).flatMap fstQ) g11 R hpA ∧ LArg hpA NA va (stQ q nm) := by
    refine ⟨_, 16, c', K', G + 1, g8, G + 3, rfl, ⟨rfl, rfl, rfl⟩, ?_, by rw [hhpA]; simp [QC, hx12], ?_, .inr ⟨15, G + 4, false, [V.d (.int .i64 2), V.d (.str nm), V.d (.int .i64 0), V.d (.int .i64 q.r.k), V.d (.int .i64 q.r.o), V.d (.int .i64 q.r.t), V.d (.int .i64 q.r.v), V.d (.str q.r.nm), V.d (.slice (encX q.r.args)), V.full [], V.full [], V.full []], some 1, ?_, by rw [hhpA]; simp, ?_, by omega⟩⟩
    ·unfold stOf; rw [if_pos (.inl k2)]
     refine ⟨?_, ?_⟩
     ·rw [hK', if_pos rfl]; show ((nx pM W 404 s.1 : Nat) : Int) = ((nx pM W 404 s.1 + 1 : Nat) : Int) - 1; omega
     ·rw [hK', if_neg (by decide)]; exact hcn.2
    ·rw [hM1, hI1, hF1]; unfold memQ insQ fstQ; simp only [k2]; simp only [show ¬ ((2 : Int) = 3) by omega, if_true, if_false, List.append_nil, hlf0, hx]
     have hty2 : tyL (vrN n) lf = ty := hty
     rw [hty2]
     refine ⟨by rw [hhpA]; simp [hC4.o2], by rw [hhpA]; simp [hC4.o3], by rw [hhpA]; simp [hC4.o4], by rw [hhpA]; simp [hC4.o5], by rw [hhpA]; simp [clO], ⟨cs7 ++ [V.d (.str nm), V.d (.int .i64 ty), V.d (.int .i64 q.ini)], by rw [hhpA]; simp, ?_⟩, ?_, ⟨cs10 ++ [V.d (.int .i64 1), V.d (.str lf), V.d (.int .i64 0), V.d (.int .i64 x.k), V.d (.int .i64 x.o), V.d (.int .i64 x.t), V.d (.int .i64 x.v), V.d (.str x.nm), V.d (.slice (encX x.args)), V.full [], V.full [], V.full []], by rw [hhpA]; simp, ?_⟩, ?_⟩
     ·have := r7.snoc (vs := [V.d (.str nm), V.d (.int .i64 ty), V.d (.int .i64 q.ini)]) (r := (Mm.mk nm ty q.ini).cells) (by repeat (first | exact VD.nil | apply VD.d | apply VD.full)) rfl
      rw [encM_snoc] at this; exact this
     ·obtain ⟨cs8, h8, r8⟩ := hC4.o8
      exact ⟨cs8, by rw [hhpA]; simp [h8], r8⟩
     ·have := r10.snoc (vs := [V.d (.int .i64 1), V.d (.str lf), V.d (.int .i64 0), V.d (.int .i64 x.k), V.d (.int .i64 x.o), V.d (.int .i64 x.t), V.d (.int .i64 x.v), V.d (.str x.nm), V.d (.slice (encX x.args)), V.full [], V.full [], V.full []]) (r := (Y.mk 1 lf 0 x [] [] []).cells) (by rw [Y.cells, X.cells_eq, encS, encX_map [], encB_map]; repeat (first | exact VD.nil | apply VD.d | apply VD.full)) (by rw [Y.cells, X.cells_eq]; rfl)
      rw [show encY F ++ [(Y.mk 1 lf 0 x [] [] []).cells] = encY (F ++ [Y.mk 1 lf 0 x [] [] []]) by simp [encY_map]] at this; exact this
     ·obtain ⟨cs11, h11, r11⟩ := hC4.o11
      exact ⟨cs11, by rw [hhpA]; simp [h11], r11⟩
    ·unfold stQ; rw [if_neg k1, if_pos k2]; rfl
    ·unfold stQ; rw [if_neg k1, if_pos k2, encY_map, List.map_cons, List.map_nil, Y.cells, X.cells_eq, encS, encX_map [], encB_map]; exact (RowD.nil 12).snoc (by repeat (first | exact VD.nil | apply VD.d | apply VD.full)) rfl
   have hwiA : WI [2, 3] 5 hp wlA hpA := hwi4.lit hwlA fun i hi => by
    rw [hhpA]; obtain rfl | rfl | rfl | rfl | rfl : i = 0 ∨ i = 1 ∨ i = 2 ∨ i = 3 ∨ i = 4 := by omega
    all_goals simp
   have hk4 : q.k = 1 ∨ q.k = 2 ∨ q.k = 3 ∨ q.k = 4 := .inr (.inl k2)
   refine WP.st_eq2 (s' := ⟨[(0, .ptr 4 gm 0), (2, .ptr 5 c 0), (3, .ptr 6 (c + 1) 0), (8, .osl 10 gA10 0 ((P (j + 1)).flatMap fstQ).length 12 none), (9, .osl 11 g11 0 R.length 12 none), (11, .ptr 12 gq 0), (12, va), (81, dL (encN n.eqs)), (82, dI n.eqs.length), (83, dI j)], hpA, NA, cA, 5, wlA⟩) (by rw [hva, hNA.1, hNA.2.1, hNA.2.2, hF1]; simp [fstQ, k2, dL, dI]) ?_
   have hN13 : 13 ≤ NA := by omega
   clear hva hNA hhpA hwlA hwi4 hC4 h4 hlf hst hren hqt h6 h7 h10 hx12 hK'
   rotate_left
   have k2' := eq_false k2
   by_cases k3 : q.k = 3
   have k3' := eq_true k3
   refine wkcektv (jn @dI.eq_1 (jn @dL.eq_1 (jn @Nq.cells.eq_1 (jn @hix (jn @hq' (jn @fillV.eq_1 (jn @fillV.eq_2 (jn @int_beq (jn @k1' (jn @k2' @k3')))))))))) ?_
   apply WP.gen3
   intro hp3 c3 wl3 hhp3 hwl3
   simp only [addNew_cons (show ¬ 12 < 5 by omega), addNew_nil] at hwl3
   have hC3 : C1 gm gt gl c n T K g7 M g8 I g10 F g11 R hp3 := hC.same fun i hi => by rw [hhp3]; simp [show (12 = i) = False from eq_false (by omega)]
   have h12 : hp3.get 12 = some ⟨c', false, QC q⟩ := by rw [hhp3]; simp [QC]
   have hwi3 : WI [2, 3] 5 hp wl3 hp3 := hwi.lit hwl3 fun i hi => by rw [hhp3]; simp [show (12 = i) = False from eq_false (by omega)]
   obtain ⟨u, hT1, hT2, hun, huv, ⟨K', hC4, hK'⟩, hx12, hwi4⟩ := name_c1 [105] (by decide) W hT j s.2 (by omega) hiv.c hiv.lc hcn.2 hC3 hwi3 c3
   have hnm2 : nmT ([105] ++ [95]) (nx ([105] ++ [95]) W 404 s.2) = nm := by rw [← hnm]; unfold nmOf; rw [if_neg (by omega), if_pos k3]; rfl
   rw [hnm2] at huv
   simp only [dS] at hT1
   clear hhp3 hwl3 hwi hC
   refine wkcektv (jn @dI.eq_1 @dL.eq_1) ?_
   apply WP.gen3
   intro hp4 c4 wl4 hhp4 hwl4
   rw [← hhp4] at hC4 hx12 hwi4
   try simp only [addNew_nil] at hwl4
   rw [← hwl4] at hwi4
   rw [h12] at hx12
   refine WP.st_eq2 (s' := ⟨[(0, .ptr 4 gm 0), (2, .ptr 5 c 0), (3, .ptr 6 (c + 1) 0), (8, .osl 10 g10 0 F.length 12 none), (9, .osl 11 g11 0 R.length 12 none), (11, .ptr 12 c' 0), (14, .d (.str nm)), (81, dL (encN n.eqs)), (82, dI n.eqs.length), (83, dI j)], hp4, 13, c4, 5, wl4⟩) (by rw [huv, hun]; rfl) ?_
   clear hT1 hT2 hC3 hwi3 h12 hhp4 hwl4 huv hun
   have h6 := hC4.o6
   unfold clO at h6
   unfold QC at hx12
   obtain ⟨cs8, h8, r8⟩ := hC4.o8
   have r8l := r8.len
   have r8t := r8.take
   rw [encJ_len] at r8l r8t
   have f8 := fits32 (show I.length ≤ 8388608 by omega)
   refine wkcektv (jn @dS.eq_1 (jn @dI.eq_1 (jn @dL.eq_1 (jn @hx12 (jn @h6 (jn @h8 (jn @r8l (jn @r8t (jn @f8 (jn @fillV.eq_1 (jn @fillV.eq_2 (jn @closeParts.eq_1 (jn @closeParts.eq_2 (jn @cl2.eq_def (jn @toD_d (jn @toD_full @nble_d)))))))))))))))) ?_
   apply WP.gen3
   intro hp5 c5 wl5 hhp5 hwl5
   simp only [addNew_cons (show ¬ 6 < 5 by omega), addNew_cons (show ¬ 8 < 5 by omega), addNew_cons (show ¬ 13 < 5 by omega), addNew_nil] at hwl5
   obtain ⟨gA8, hC5⟩ : ∃ gA8, C1 gm gt gl c n T K' g7 M gA8 (I ++ [⟨nm, q.node⟩]) g10 F g11 R hp5 := by
    refine ⟨c4 + 1, by rw [hhp5]; simp [hC4.o2], by rw [hhp5]; simp [hC4.o3], by rw [hhp5]; simp [hC4.o4], by rw [hhp5]; simp [hC4.o5], by rw [hhp5]; simp [clO], ?_, ⟨cs8 ++ [V.d (.str nm), V.d (.str q.node)], by rw [hhp5]; simp, ?_⟩, ?_, ?_⟩
    ·obtain ⟨cs7, h7, r7⟩ := hC4.o7
     exact ⟨cs7, by rw [hhp5]; simp [h7], r7⟩
    ·have := r8.snoc (vs := [V.d (.str nm), V.d (.str q.node)]) (r := (Ii.mk nm q.node).cells) (by repeat (first | exact VD.nil | apply VD.d | apply VD.full)) rfl
     rw [encJ_snoc] at this; exact this
    ·obtain ⟨cs10, h10, r10⟩ := hC4.o10
     exact ⟨cs10, by rw [hhp5]; simp [h10], r10⟩
    ·obtain ⟨cs11, h11, r11⟩ := hC4.o11
     exact ⟨cs11, by rw [hhp5]; simp [h11], r11⟩
   have hx5 : hp5.get 12 = some ⟨c', false, [V.d (.int .i64 q.k), .d (.slice (encS q.left)), .d (.int .i64 q.r.k), .d (.int .i64 q.r.o), .d (.int .i64 q.r.t), .d (.int .i64 q.r.v), .d (.str q.r.nm), .d (.slice (encX q.r.args)), .d (.int .i64 q.ini), .d (.str q.node), .d (.slice (encX q.args)), .d (.str q.ev), .d (.slice (encO q.ck))]⟩ := by rw [hhp5]; simp [hx12]
   have hwi5 : WI [2, 3] 5 hp wl5 hp5 := hwi4.lit hwl5 fun i hi => by
    rw [hhp5]; obtain rfl | rfl | rfl | rfl | rfl : i = 0 ∨ i = 1 ∨ i = 2 ∨ i = 3 ∨ i = 4 := by omega
    all_goals simp
   clear hhp5 hwl5 hwi4 hC4 h6 h8 hx12
   obtain ⟨h', cf, hqc⟩ := QuietV.fn fun c => call57 q nm (by omega) hp5 14 c (hC5.toMK (by omega))
   simp only [aG, Nq.cells, dS, dL, List.map_cons, List.map_nil] at hqc
   refine wkcektv (jn @dS.eq_1 (jn @dI.eq_1 (jn @dL.eq_1 (jn @hx5 @hqc)))) ?_
   refine blockQ_nn ?_
   show WP _ _ _ _ _ _
   apply WP.gen3
   intro hpA cA wlA hhpA hwlA
   try simp only [addNew_nil] at hwlA
   obtain ⟨va, NA, gq, K1, gA7, gA8, gA10, hva, hNA, hcA, h12, hC1, hA⟩ : ∃ (va : V) (NA gq : Nat) (K1 : List (Tx × Int)) (gA7 gA8 gA10 : Nat), va = dL (encY (evY q nm ++ [clY q nm])) ∧ (NA = 14 ∧ gq = c' ∧ gA10 = g10) ∧ Cnt K1 (stOf W s q) ∧ hpA.get 12 = some ⟨gq, false, QC q⟩ ∧ C1 gm gt gl c n T K1 gA7 ((P (j + 1)).flatMap (memQ (vrN n))) gA8 ((P (j + 1)).flatMap insQ) gA10 ((P (j + 1)).flatMap fstQ) g11 R hpA ∧ LArg hpA NA va (stQ q nm) := by
    refine ⟨_, 14, c', K', g7, gA8, g10, rfl, ⟨rfl, rfl, rfl⟩, ?_, by rw [hhpA]; exact hx5, ?_, .inl ?_⟩
    ·unfold stOf; rw [if_neg (by omega), if_pos k3]
     refine ⟨?_, ?_⟩
     ·rw [hK', if_neg (by decide)]; exact hcn.1
     ·rw [hK', if_pos rfl]; show ((nx pI W 404 s.2 : Nat) : Int) = ((nx pI W 404 s.2 + 1 : Nat) : Int) - 1; omega
    ·rw [hM1, hI1, hF1, hhpA]; unfold memQ insQ fstQ; simp only [k3]; simp only [show ¬ ((3 : Int) = 2) by omega, show ¬ ((3 : Int) = 4) by omega, if_true, if_false, List.append_nil]
     exact hC5
    ·unfold stQ; rw [if_neg k1, if_neg k2, if_pos k3]
   have hwiA : WI [2, 3] 5 hp wlA hpA := by rw [hhpA, hwlA]; exact hwi5
   have hk4 : q.k = 1 ∨ q.k = 2 ∨ q.k = 3 ∨ q.k = 4 := .inr (.inr (.inl k3))
   refine WP.st_eq2 (s' := ⟨[(0, .ptr 4 gm 0), (2, .ptr 5 c 0), (3, .ptr 6 (c + 1) 0), (8, .osl 10 gA10 0 ((P (j + 1)).flatMap fstQ).length 12 none), (9, .osl 11 g11 0 R.length 12 none), (11, .ptr 12 gq 0), (12, va), (81, dL (encN n.eqs)), (82, dI n.eqs.length), (83, dI j)], hpA, NA, cA, 5, wlA⟩) (by rw [hva, hNA.1, hNA.2.1, hNA.2.2, hF1]; simp [fstQ, k3, dL, dI]) ?_
   have hN13 : 13 ≤ NA := by omega
   clear hva hNA hhpA hwlA hwi5 hC5 h4 hlf hqc hx5 hK'
   rotate_left
   have k3' := eq_false k3
   by_cases k4 : q.k = 4
   have k4' := eq_true k4
   refine wkcektv (jn @dI.eq_1 (jn @dL.eq_1 (jn @Nq.cells.eq_1 (jn @hix (jn @hq' (jn @fillV.eq_1 (jn @fillV.eq_2 (jn @int_beq (jn @k1' (jn @k2' (jn @k3' @k4'))))))))))) ?_
   apply WP.gen3
   intro hp3 c3 wl3 hhp3 hwl3
   simp only [addNew_cons (show ¬ 12 < 5 by omega), addNew_nil] at hwl3
   have hC3 : C1 gm gt gl c n T K g7 M g8 I g10 F g11 R hp3 := hC.same fun i hi => by rw [hhp3]; simp [show (12 = i) = False from eq_false (by omega)]
   have h12 : hp3.get 12 = some ⟨c', false, QC q⟩ := by rw [hhp3]; simp [QC]
   have hwi3 : WI [2, 3] 5 hp wl3 hp3 := hwi.lit hwl3 fun i hi => by rw [hhp3]; simp [show (12 = i) = False from eq_false (by omega)]
   obtain ⟨u, hT1, hT2, hun, huv, ⟨K', hC4, hK'⟩, hx12, hwi4⟩ := name_c1 [109] (by decide) W hT j s.1 (by omega) hiv.m hiv.lm hcn.1 hC3 hwi3 c3
   have hnm2 : nmT ([109] ++ [95]) (nx ([109] ++ [95]) W 404 s.1) = nm := by rw [← hnm]; unfold nmOf; rw [if_pos (.inr k4)]; rfl
   rw [hnm2] at huv
   simp only [dS] at hT1
   clear hhp3 hwl3 hwi hC
   refine wkcektv (jn @dI.eq_1 @dL.eq_1) ?_
   apply WP.gen3
   intro hp4 c4 wl4 hhp4 hwl4
   rw [← hhp4] at hC4 hx12 hwi4
   try simp only [addNew_nil] at hwl4
   rw [← hwl4] at hwi4
   rw [h12] at hx12
   refine WP.st_eq2 (s' := ⟨[(0, .ptr 4 gm 0), (2, .ptr 5 c 0), (3, .ptr 6 (c + 1) 0), (8, .osl 10 g10 0 F.length 12 none), (9, .osl 11 g11 0 R.length 12 none), (11, .ptr 12 c' 0), (15, .d (.str nm)), (81, dL (encN n.eqs)), (82, dI n.eqs.length), (83, dI j)], hp4, 13, c4, 5, wl4⟩) (by rw [huv, hun]; rfl) ?_
   clear hT1 hT2 hC3 hwi3 h12 hhp4 hwl4 huv hun
   have h6 := hC4.o6
   unfold clO at h6
   unfold QC at hx12
   obtain ⟨cs7, h7, r7⟩ := hC4.o7
   have r7l := r7.len
   have r7t := r7.take
   rw [encM_len] at r7l r7t
   have f7 := fits32 (show M.length ≤ 8388608 by omega)
   have hpr := parse30 q.node (by unfold szT at hqz; omega)
   rw [hqo.1 k4] at hpr
   obtain ⟨hl1, hl2⟩ := prs_len (hqo.1 k4)
   have hcat := concat_den (prsT q.node).1.1 (prsT q.node).1.2 (by omega) (by omega)
   have hwd := word58 (prsT q.node).1.1 (prsT q.node).1.2 lf nm hl1 (by rw [List.length_append]; omega) hcat
   obtain ⟨hd, hhd⟩ : ∃ hd, (prsT q.node).1.1 = hd := ⟨_, rfl⟩
   obtain ⟨lo, hlo⟩ : ∃ lo, (prsT q.node).1.2 = lo := ⟨_, rfl⟩
   rw [hhd, hlo] at hpr hwd
   obtain ⟨w, hw⟩ : ∃ w, wdY hd lo lf nm = w := ⟨_, rfl⟩
   rw [hw] at hwd
   simp only [aW, dI, dL, dS] at hpr hwd
   repeat (first
 | apply WP.seq
 | (apply WP.reg; (case hR => dsimp only [prepL, prepO, List.map, gS, gZ]; exact iZ); (case hr => (repeat (first
 | (apply RT.op; simp [-addNew, dS, dI, dL, hx12, hlf, h6, h7, r7l, r7t, f7, hpr, hwd, fillV, closeParts, cl2, toD_d, toD_full, nble_d]; exact iZ; (try dsimp only [putEnv]) <;> exact rfl)
 | (apply RT.call; (iterate 2 simp; exact iZ); exact iZ; (iterate 4 simp [-addNew, dS, dI, dL, hx12, hlf, h6, h7, r7l, r7t, f7, hpr, hwd, fillV, closeParts, cl2, toD_d, toD_full, nble_d]; exact iZ); simp [Is]; (try dsimp only [putEnv]) <;> exact rfl; simp; exact iZ; exact iZ)
 | (apply RT.callV; (iterate 2 simp; exact iZ); exact iZ; (iterate 3 simp [-addNew, dS, dI, dL, hx12, hlf, h6, h7, r7l, r7t, f7, hpr, hwd, fillV, closeParts, cl2, toD_d, toD_full, nble_d]; exact iZ); (try dsimp only [putEnv]) <;> exact rfl)
 | (apply RT.callT (hd := hT1) (hk := hT2); (iterate 2 simp; exact iZ); exact iZ; (iterate 2 simp [-addNew, dS, dI, dL, hx12, hlf, h6, h7, r7l, r7t, f7, hpr, hwd, fillV, closeParts, cl2, toD_d, toD_full, nble_d]; exact iZ); (try dsimp only [putEnv]) <;> exact rfl)
 | (apply RT.wr; simp [-addNew, dS, dI, dL, hx12, hlf, h6, h7, r7l, r7t, f7, hpr, hwd, fillV, closeParts, cl2, toD_d, toD_full, nble_d]; exact iZ; (try dsimp only [putEnv]) <;> exact rfl; simp [-addNew, dS, dI, dL, hx12, hlf, h6, h7, r7l, r7t, f7, hpr, hwd, fillV, closeParts, cl2, toD_d, toD_full, nble_d]; exact iZ; (iterate 2 exact iZ); exact iZ))); exact RT.nil); (case hc => first | (refine checkR_un [(0, 1), (0, 2), (0, 3), (1, 3), (2, 3)] (by kernel_rfl) (by kernel_rfl) rfl ?_; simp [memA, disj, nbeq_dec]; done) | (show _ = _; kernel_rfl)); (case ht => simp [-addNew, dS, dI, dL, hx12, hlf, h6, h7, r7l, r7t, f7, hpr, hwd, fillV, closeParts, cl2, toD_d, toD_full, nble_d]; exact iZ))
 | apply WP.block | apply WP.skip | apply WP.exit | apply WP.ret | refine WP.condT rfl ?_ | refine WP.condF rfl ?_)
   refine blockQ_nn ?_
   show WP _ _ _ _ _ _
   apply WP.gen3
   intro hpA cA wlA hhpA hwlA
   simp only [addNew_cons (show ¬ 6 < 5 by omega), addNew_cons (show ¬ 7 < 5 by omega), addNew_cons (show ¬ 13 < 5 by omega), addNew_cons (show ¬ 14 < 5 by omega), addNew_nil] at hwlA
   obtain ⟨va, NA, gq, K1, gA7, gA8, gA10, hva, hNA, hcA, h12, hC1, hA⟩ : ∃ (va : V) (NA gq : Nat) (K1 : List (Tx × Int)) (gA7 gA8 gA10 : Nat), va = dL (encY w) ∧ (NA = 15 ∧ gq = c' ∧ gA10 = g10) ∧ Cnt K1 (stOf W s q) ∧ hpA.get 12 = some ⟨gq, false, QC q⟩ ∧ C1 gm gt gl c n T K1 gA7 ((P (j + 1)).flatMap (memQ (vrN n))) gA8 ((P (j + 1)).flatMap insQ) gA10 ((P (j + 1)).flatMap fstQ) g11 R hpA ∧ LArg hpA NA va (stQ q nm) := by
    refine ⟨_, 15, c', K', c4 + 1, g8, g10, rfl, ⟨rfl, rfl, rfl⟩, ?_, by rw [hhpA]; simp [QC, hx12], ?_, .inl ?_⟩
    ·unfold stOf; rw [if_pos (.inr k4)]
     refine ⟨?_, ?_⟩
     ·rw [hK', if_pos rfl]; show ((nx pM W 404 s.1 : Nat) : Int) = ((nx pM W 404 s.1 + 1 : Nat) : Int) - 1; omega
     ·rw [hK', if_neg (by decide)]; exact hcn.2
    ·rw [hM1, hI1, hF1]; unfold memQ insQ fstQ; simp only [k4]; simp only [show ¬ ((4 : Int) = 2) by omega, show ¬ ((4 : Int) = 3) by omega, if_true, if_false, List.append_nil]
     refine ⟨by rw [hhpA]; simp [hC4.o2], by rw [hhpA]; simp [hC4.o3], by rw [hhpA]; simp [hC4.o4], by rw [hhpA]; simp [hC4.o5], by rw [hhpA]; simp [clO], ⟨cs7 ++ [V.d (.str nm), V.d (.int .i64 2), V.d (.int .i64 0)], by rw [hhpA]; simp, ?_⟩, ?_, ?_, ?_⟩
     ·have := r7.snoc (vs := [V.d (.str nm), V.d (.int .i64 2), V.d (.int .i64 0)]) (r := (Mm.mk nm 2 0).cells) (by repeat (first | exact VD.nil | apply VD.d | apply VD.full)) rfl
      rw [encM_snoc] at this; exact this
     ·obtain ⟨cs8, h8, r8⟩ := hC4.o8
      exact ⟨cs8, by rw [hhpA]; simp [h8], r8⟩
     ·obtain ⟨cs10, h10, r10⟩ := hC4.o10
      exact ⟨cs10, by rw [hhpA]; simp [h10], r10⟩
     ·obtain ⟨cs11, h11, r11⟩ := hC4.o11
      exact ⟨cs11, by rw [hhpA]; simp [h11], r11⟩
    ·unfold stQ; rw [if_neg k1, if_neg k2, if_neg k3, if_pos k4, hhd, hlo, hlf0, hw]
   have hwiA : WI [2, 3] 5 hp wlA hpA := hwi4.lit hwlA fun i hi => by
    rw [hhpA]; obtain rfl | rfl | rfl | rfl | rfl : i = 0 ∨ i = 1 ∨ i = 2 ∨ i = 3 ∨ i = 4 := by omega
    all_goals simp
   have hk4 : q.k = 1 ∨ q.k = 2 ∨ q.k = 3 ∨ q.k = 4 := .inr (.inr (.inr k4))
   refine WP.st_eq2 (s' := ⟨[(0, .ptr 4 gm 0), (2, .ptr 5 c 0), (3, .ptr 6 (c + 1) 0), (8, .osl 10 gA10 0 ((P (j + 1)).flatMap fstQ).length 12 none), (9, .osl 11 g11 0 R.length 12 none), (11, .ptr 12 gq 0), (12, va), (81, dL (encN n.eqs)), (82, dI n.eqs.length), (83, dI j)], hpA, NA, cA, 5, wlA⟩) (by rw [hva, hNA.1, hNA.2.1, hNA.2.2, hF1]; simp [fstQ, k4, dL, dI]) ?_
   have hN13 : 13 ≤ NA := by omega
   clear hva hNA hhpA hwlA hwi4 hC4 h4 hlf hpr hwd hcat h6 h7 hx12 hK'
   rotate_left
   have k4' := eq_false k4
   refine wkcektv (jn @dI.eq_1 (jn @dL.eq_1 (jn @Nq.cells.eq_1 (jn @hix (jn @hq' (jn @fillV.eq_1 (jn @fillV.eq_2 (jn @int_beq (jn @k1' (jn @k2' (jn @k3' @k4'))))))))))) ?_
   refine loop_next (by simp [-addNew, hwj]; exact Is.rfl) ?_
   have m0 : memQ (vrN n) (q, nm) = [] := by unfold memQ; rw [if_neg k2, if_neg k4]
   have m1 : insQ (q, nm) = [] := by unfold insQ; rw [if_neg k3]
   have m2 : fstQ (q, nm) = [] := by unfold fstQ; rw [if_neg k2]
   have m3 : rstQ (q, nm) = [] := by unfold rstQ; rw [if_neg (by rintro (h | h | h | h); exact k1 h; exact k2 h; exact k3 h; exact k4 h)]
   have m4 : stOf W s q = s := by unfold stOf; rw [if_neg (by rintro (h | h); exact k2 h; exact k4 h), if_neg k3]
   rw [m0, List.append_nil] at hM1
   rw [m1, List.append_nil] at hI1
   rw [m2, List.append_nil] at hF1
   rw [m3, List.append_nil] at hR1
   refine ⟨D - 1, by omega, j + 1, _, _, _, K, g7, g8, g10, g11, by omega, ?_, ?_, ?_, st_eq (by rw [hF1, hR1]; simp [dI, dL, hwj]) rfl⟩
   ·rw [hM1, hI1, hF1, hR1]; exact hC.same fun i hi => by rw [get_trunc_lt hi]; simp [show (12 = i) = False from eq_false (by omega)]
   ·exact ((hwi.set (.inr (by omega))).set (.inr (by omega))).trunc (by omega)
   ·rw [hmc, m4]; exact hcn
   all_goals
    obtain ⟨u, hT1, hqn, hT2, hki, hfr, hpz, hres0, hsame⟩ := (under59 q.ck hqo.2 (by have := len_szO q.ck; omega) (stQ q nm) (by have := (stQ_pos (nm := nm) hk4).2; omega) va hpA NA cA (hC1.toMK (by omega)) hA).caller (by simp)
    have hN : NA + (u.n - NA) = u.n := by omega
    have hfr' : ∀ i, i < NA → (hpA.sets (tWr u NA)).get i = hpA.get i := fun i hi => hfr i hi (by simp)
    have hres : LArg (hpA.sets (tWr u NA)) u.n u.v (unY q.ck (stQ q nm)) := by
     rcases hres0 with ⟨h1, h2⟩ | ⟨id, g, cs, cap, a0, a1, a2, a3, a4⟩
     ·rw [h1, h2, unY]; exact hA.mono hfr' hqn
     ·exact .inr ⟨id, g, false, cs, cap, a0, by rw [hsame id a4 (by rw [a1]; rfl)]; exact a1, a2, a4⟩
    clear hres0 hsame hfr
    have hUp := unY_pos (stQ_pos (nm := nm) hk4).1 q.ck
    have hUl := unY_len (stQ q nm) q.ck
    have hsl := (stQ_pos (nm := nm) hk4).2
    have m3 : rstQ (q, nm) = unY q.ck (stQ q nm) := by unfold rstQ; rw [if_pos hk4]
    rw [m3] at hR1
    obtain ⟨U, hU⟩ : ∃ U, unY q.ck (stQ q nm) = U := ⟨_, rfl⟩
    rw [hU] at hres hUp hUl hR1
    obtain ⟨xs, idl, hry, hrx, hidl⟩ := rows_larg hres
    obtain ⟨cs11, h11, r11⟩ := hC1.o11
    have h11' := (hfr' 11 (by omega)).trans h11
    have r11l := r11.len
    have r11t := r11.take
    rw [encY_len] at r11l r11t
    have rxl := hrx.len
    have rxt := hrx.take
    rw [encY_len] at rxl rxt
    have f11 := fits176m (show R.length + U.length ≤ 8388608 by omega)
    have hUb : Nat.ble U.length 0 = false := by rw [nble_d]; exact decide_eq_false (by omega)
    have hU0 : (U = []) = False := eq_false (by intro h; rw [h] at hUp; simp at hUp)
    unfold QC at h12
    simp only [dL] at hT1
    have lt11 := eq_true (show 11 < NA + (u.n - NA) by omega)
    refine wkcektv (jn @dI.eq_1 (jn @dL.eq_1 (jn @lt11 (jn @h12 (jn @h11' (jn @hry (jn @r11l (jn @r11t (jn @rxl (jn @rxt (jn @f11 (jn @hUb (jn @hU0 @nble_d))))))))))))) ?_
    refine loop_next (by simp [-addNew, hwj]; exact Is.rfl) ?_
    refine ⟨D - 1, by omega, j + 1, _, _, _, K1, gA7, gA8, gA10, cA + (u.c - cA), by omega, ?_, ?_, by rw [hmc]; exact hcA, st_eq (by rw [hR1]; simp [dI, dL, hwj]) rfl⟩
    ·rw [hR1]
     have hr12 := r11.app hrx
     rw [show encY R ++ encY U = encY (R ++ U) by simp [encY_map]] at hr12
     obtain ⟨a2, a3, a4, a5, a6, ⟨c7, a7, b7⟩, ⟨c8, a8, b8⟩, ⟨c10, a10, b10⟩, _⟩ := hC1
     have hg : ∀ i, i < 12 → i ≠ 11 → (Hp.trunc 12 ((hpA.sets (tWr u NA)).set 11 ⟨cA + (u.c - cA), false, cs11 ++ xs⟩)).get i = hpA.get i := fun i hi hn => by
      rw [get_trunc_lt hi, Hp.get_set_ne _ _ _ _ (by omega)]; exact hfr' i (by omega)
     exact ⟨(hg 2 (by omega) (by omega)).trans a2, (hg 3 (by omega) (by omega)).trans a3, (hg 4 (by omega) (by omega)).trans a4, (hg 5 (by omega) (by omega)).trans a5, (hg 6 (by omega) (by omega)).trans a6, ⟨c7, (hg 7 (by omega) (by omega)).trans a7, b7⟩, ⟨c8, (hg 8 (by omega) (by omega)).trans a8, b8⟩, ⟨c10, (hg 10 (by omega) (by omega)).trans a10, b10⟩, ⟨_, by rw [get_trunc_lt (by omega), Hp.get_set_self], hr12⟩⟩
    ·exact ((hwiA.sets fun z hz => (by
      rcases hki z.1 (List.mem_map.2 ⟨z, hz, rfl⟩) with h | h
      ·simp at h
      ·exact .inr (by omega))).set (.inr (by omega))).trunc (by omega)
  ·simp at hb
   have hje : j = n.eqs.length := by omega
   have hPe : P j = eqN n := by rw [hP, hje, List.take_length]; unfold eqN; rw [hW]
   rw [hPe] at hM hI hF hR
   obtain ⟨cs7, h7, r7⟩ := hC.o7
   obtain ⟨cs8, h8, r8⟩ := hC.o8
   obtain ⟨cs10, h10, r10⟩ := hC.o10
   obtain ⟨cs11, h11, r11⟩ := hC.o11
   have h5 := hC.o5
   have h6 := hC.o6
   unfold zCl at h5
   unfold clO at h6
   have r10l := r10.len
   have r10t := r10.take
   rw [encY_len] at r10l r10t
   have r11l := r11.len
   have r11t := r11.take
   rw [encY_len] at r11l r11t
   have hFR : F.length + R.length ≤ 8388608 := by
    have h1 := fm_len fstQ_len (eqN n)
    have h2 := fm_len rstQ_len (eqN n)
    have h3 : (eqN n).length = n.eqs.length := by unfold eqN; rw [prL_len]
    rw [hF] at h1; rw [hR] at h2; omega
   have f11 := fits176m hFR
   have hry : ∀ look : Look, look 11 = some ⟨g11, false, cs11⟩ → rowsOf look 12 (.osl 11 g11 0 R.length 12 none) = some (R.length, cs11, [11]) := fun look h => by simp [rowsOf, live, h, r11l, r11t, nble_d]
   refine wkcektv (jn @dI.eq_1 (jn @dL.eq_1 (jn @h5 (jn @h6 (jn @h10 (jn @h11 (jn @hry (jn @r10l (jn @r10t (jn @r11l (jn @r11t (jn @f11 @nble_d)))))))))))) ?_
   have rFR := r10.app r11
   rw [show encY F ++ encY R = encY (F ++ R) by simp [encY_map]] at rFR
   refine ⟨.inr rfl, [.agg [V.d (.str n.nm), V.d (.slice (encD (n.inn.map brD))), V.d (.slice (encD (n.out.map brD))), V.d (.slice (encD (n.loc.map brD))), V.osl 7 g7 0 M.length 3 none, V.osl 8 g8 0 I.length 2 none, V.osl 10 c' 0 (F.length + R.length) 12 none]], [7, 8, 10], ?_, ?_, by simp, ?_, trivial⟩
   ·show resultsV Tryz.prog _ [_] = _
    simp [resultsV, resultV]
   ·have e : aG (clN n).cells = .agg [V.d (.str n.nm), V.d (.slice (encD (n.inn.map brD))), V.d (.slice (encD (n.out.map brD))), V.d (.slice (encD (n.loc.map brD))), V.d (.slice (encM M)), V.d (.slice (encJ I)), V.d (.slice (encY (F ++ R)))] := by
     unfold clN; rw [hM, hI, hF, hR]; rfl
    rw [e]
    exact close_cls (r7.toD2 (ro := false) (by simp [h7]) (by rw [encM_len])) (r8.toD2 (ro := false) (by simp [h8]) (by rw [encJ_len])) (rFR.toD2 (ro := false) (by simp) (by rw [encY_len, List.length_append]))
   ·exact hwi.set3 (k1 := 10) (k2 := 6) (k3 := 5) (.inr (by omega)) (.inr (by omega)) (.inr (by omega))
 all_goals
  apply WP.loop' (I := fun D2 s => ∃ (i c' : Nat) (hp' : Hp) (wl : List Nat) (T : List (Tx × Bool)), i + D2 = l.length ∧ C0 gm gt gl c n T hp' ∧ WI [2, 3] 5 hp wl hp' ∧ (∀ y, (mget T y).getD false = decide (y ∈ dNm (pre ++ l.take i))) ∧
   s = ⟨[(0, .ptr 4 gm 0), (2, .ptr 5 c 0), (3, .ptr 6 (c + 1) 0), (57, .osl 9 (c + 4) 0 3 1 (some 3)), (58, dI 3), (59, dI J), (63, dL (encD l)), (64, dI l.length), (65, dI i)], hp', 10, c', 5, wl⟩) (d := l.length)
  ·exact ⟨0, _, _, _, T, by simp, hC, hwi, by simpa using hT, st_eq (by simp [dL, dI]) rfl⟩
  clear hC hwi hT h9
  rintro D2 _ ⟨i, c', hp', wl, T, hi, hC, hwi, hT, rfl⟩
  refine wkektv (jn @dI.eq_1 (jn @dL.eq_1 @encD_len)) ?_
  show WP _ _ _ _ _ _
  refine WP.cond _ rfl (fun hb => ?_) (fun hb => ?_)
  ·simp at hb
   have hb' : i < l.length := by omega
   obtain ⟨y, hy, hym, hix⟩ := at_lt hb'
   have hy' := encD_at hy
   have hw := w_succ hb' (by omega)
   have hsn := take_snoc hy
   have h2 := hC.o2
   have h4 := hC.o4
   unfold mkO at h4
   have l4 := fun (look : Look) (sz by_ : Nat) (zr : Option (List V)) (h : look 2 = some ⟨gt, false, [mpC eBo T]⟩) => insert_mp eBo T true (sz := sz) (by_ := by_) (zr := zr) (x := y.nm) (w := .d (.bool true)) rfl h
   repeat (first
 | apply WP.seq
 | (apply WP.reg; (case hR => dsimp only [prepL, prepO, List.map, gS, gZ]; exact iZ); (case hr => (repeat (first
 | (apply RT.op; simp [-addNew, dI, dL, Dc.cells, hix, hy', fillV, h2, h4, l4]; exact iZ; (try dsimp only [putEnv]) <;> exact rfl)
 | (apply RT.call; (iterate 2 simp; exact iZ); exact iZ; (iterate 4 simp [-addNew, dI, dL, Dc.cells, hix, hy', fillV, h2, h4, l4]; exact iZ); simp [Is]; (try dsimp only [putEnv]) <;> exact rfl; simp; exact iZ; exact iZ)
 | (apply RT.callV; (iterate 2 simp; exact iZ); exact iZ; (iterate 3 simp [-addNew, dI, dL, Dc.cells, hix, hy', fillV, h2, h4, l4]; exact iZ); (try dsimp only [putEnv]) <;> exact rfl)
 | (apply RT.callT (hd := hT1) (hk := hT2); (iterate 2 simp; exact iZ); exact iZ; (iterate 2 simp [-addNew, dI, dL, Dc.cells, hix, hy', fillV, h2, h4, l4]; exact iZ); (try dsimp only [putEnv]) <;> exact rfl)
 | (apply RT.wr; simp [-addNew, dI, dL, Dc.cells, hix, hy', fillV, h2, h4, l4]; exact iZ; (try dsimp only [putEnv]) <;> exact rfl; simp [-addNew, dI, dL, Dc.cells, hix, hy', fillV, h2, h4, l4]; exact iZ; (iterate 2 exact iZ); exact iZ))); exact RT.nil); (case hc => first | (refine checkR_un [(0, 4), (1, 4), (2, 4), (3, 4), (0, 5), (1, 5), (2, 5), (3, 5)] (by kernel_rfl) (by kernel_rfl) rfl ?_; simp [memA, disj, nbeq_dec]; done) | (show _ = _; kernel_rfl)); (case ht => simp [-addNew, dI, dL, Dc.cells, hix, hy', fillV, h2, h4, l4]; exact iZ))
 | apply WP.block | apply WP.skip | apply WP.exit | apply WP.ret | refine WP.condT rfl ?_ | refine WP.condF rfl ?_)
   refine loop_next (by simp [-addNew, hw]; exact Is.rfl) ?_
   refine ⟨D2 - 1, by omega, i + 1, _, _, _, mput T y.nm true, by omega, ?_, ?_, ?_, st_eq (by simp [dI, dL, hw]) rfl⟩
   ·exact ⟨by rw [get_trunc_lt (by omega)]; simp, by rw [get_trunc_lt (by omega)]; simp [hC.o3], by rw [get_trunc_lt (by omega)]; simp [hC.o4], by rw [get_trunc_lt (by omega)]; simp [hC.o5], by rw [get_trunc_lt (by omega)]; simp [hC.o6], by rw [get_trunc_lt (by omega)]; simp [hC.o7], by rw [get_trunc_lt (by omega)]; simp [hC.o8], by rw [get_trunc_lt (by omega)]; simp [hC.o9]⟩
   ·exact (((hwi.set (.inr (by omega))).set (.inr (by omega))).set (.inl (by simp))).trunc (by omega)
   ·have := mgetB_put T y.nm _ hT
    rw [hsn]
    simpa [dNm] using this
  ·simp at hb
   have hie : i = l.length := by omega
   rw [hie, List.take_length] at hT
   have hwJ := w_succ (i := J) (m := 3) (by omega) (by omega)
   refine wkcektv (jn @dI.eq_1 @dL.eq_1) ?_
   refine loop_next (by simp [-addNew, hwJ]; exact Is.rfl) ?_
   refine ⟨D - 1, by omega, J + 1, _, _, _, T, by omega, ?_, ?_, by rw [e4]; exact hT, st_eq (by simp [dI, dL, hwJ]) rfl⟩
   ·exact ⟨by rw [get_trunc_lt (by omega)]; simp [hC.o2], by rw [get_trunc_lt (by omega)]; simp [hC.o3], by rw [get_trunc_lt (by omega)]; simp [hC.o4], by rw [get_trunc_lt (by omega)]; simp [hC.o5], by rw [get_trunc_lt (by omega)]; simp [hC.o6], by rw [get_trunc_lt (by omega)]; simp [hC.o7], by rw [get_trunc_lt (by omega)]; simp [hC.o8], by rw [get_trunc_lt (by omega)]; simp [hC.o9]⟩
   ·exact hwi.trunc (by omega)
end Go.Ac
