/- Whether equations are in order: the program's (3); the program's class. -/
import Derived.Test.YtmjkclonkhempaaGreatDoorGeGM
set_option linter.unusedVariables false
set_option linter.unusedSimpArgs false
section
set_option maxRecDepth 8000
namespace Go.Ac
open Go.Proofs
attribute [local simp] Hp.get_set get_trunc_lt
theorem zt75 : zeroT Tryz.prog 75 = some (.full []) := by kernel_rfl
def eV (v : V) : V := v
/-- The definitions of names, as they lie in a map of lists. -/
structure DM (L : List (Tx × V)) (F : Tx → Option (Nat × Nat × List Nat)) (hp : Hp) (n : Nat) (P : Tx → Nat → Prop) (b : Nat) : Prop where
 get : ∀ x, mget L x = (F x).map fun p => V.osl p.1 p.2.1 0 p.2.2.length 1 none
 obj : ∀ x p, F x = some p → hp.get p.1 = some ⟨p.2.1, false, p.2.2.map fun d : Nat => dI d⟩ ∧ 6 ≤ p.1 ∧ p.1 < n ∧ p.2.2.length ≤ b
 mem : ∀ x d, P x d ↔ ∃ p, F x = some p ∧ d ∈ p.2.2
 inj : ∀ x y p r, F x = some p → F y = some r → p.1 = r.1 → x = y
theorem DM.mono {L : List (Tx × V)} {F : Tx → Option (Nat × Nat × List Nat)} {hp hp' : Hp} {n n' : Nat} {P P' : Tx → Nat → Prop} {b b' : Nat} (h : DM L F hp n P b) (hn : n ≤ n') (hb : b ≤ b') (hf : ∀ i, 6 ≤ i → i < n → hp'.get i = hp.get i) (hP : ∀ x d, P' x d ↔ P x d) : DM L F hp' n' P' b' :=
 ⟨h.get, fun x p hp => by obtain ⟨a1, a2, a3, a4⟩ := h.obj x p hp; exact ⟨(hf _ a2 a3).trans a1, a2, by omega, by omega⟩, fun x d => (hP x d).trans (h.mem x d), h.inj⟩
theorem DM.put {L : List (Tx × V)} {F : Tx → Option (Nat × Nat × List Nat)} {hp hp' : Hp} {n n' : Nat} {P P' : Tx → Nat → Prop} {b : Nat} (h : DM L F hp n P b) (x : Tx) (d id g : Nat) (l : List Nat) (hn : n ≤ n')
  (hid : (∃ p, F x = some p ∧ id = p.1 ∧ l = p.2.2) ∨ (F x = none ∧ n ≤ id ∧ id < n' ∧ 6 ≤ id ∧ l = [])) (hget : hp'.get id = some ⟨g, false, (l ++ [d]).map fun d : Nat => dI d⟩) (hfr : ∀ i, 6 ≤ i → i < n → i ≠ id → hp'.get i = hp.get i) (hP : ∀ y e, P' y e ↔ P y e ∨ (y = x ∧ e = d)) :
  DM (mput L x (.osl id g 0 (l.length + 1) 1 none)) (fun y => if y = x then some (id, g, l ++ [d]) else F y) hp' n' P' (b + 1) := by
 have hl : l.length ≤ b ∧ 6 ≤ id ∧ id < n' := by
  rcases hid with ⟨p, h1, h2, h3⟩ | ⟨h1, h2, h3, h4, h5⟩
  ·obtain ⟨a1, a2, a3, a4⟩ := h.obj x p h1; rw [h2, h3]; exact ⟨a4, a2, by omega⟩
  ·rw [h5]; exact ⟨Nat.zero_le _, h4, h3⟩
 have hne : ∀ y p, y ≠ x → F y = some p → p.1 ≠ id := fun y p hy hp he => by
  rcases hid with ⟨r, h1, h2, h3⟩ | ⟨h1, h2, h3, h4, h5⟩
  ·exact hy (h.inj y x p r hp h1 (he.trans h2))
  ·have := (h.obj y p hp).2.2.1; omega
 refine ⟨fun y => ?_, fun y p hy => ?_, fun y e => ?_, fun y z p r hy hz he => ?_⟩
 ·rw [mget_put]
  by_cases hyx : y = x
  ·rw [if_pos hyx, if_pos hyx]; simp
  ·rw [if_neg hyx, if_neg hyx]; exact h.get y
 ·by_cases hyx : y = x
  ·simp only [if_pos hyx, Option.some.injEq] at hy
   subst hy
   exact ⟨hget, hl.2.1, hl.2.2, by simp; omega⟩
  ·simp only [if_neg hyx] at hy
   obtain ⟨a1, a2, a3, a4⟩ := h.obj y p hy
   exact ⟨(hfr _ a2 a3 (hne y p hyx hy)).trans a1, a2, by omega, by omega⟩
 ·rw [hP, h.mem]
  by_cases hyx : y = x
  ·subst hyx
   simp only [if_true, true_and, Option.some.injEq, exists_eq_left', List.mem_append, List.mem_singleton]
   rcases hid with ⟨p, h1, h2, h3⟩ | ⟨h1, h2, h3, h4, h5⟩
   ·simp [h1, h3]
   ·simp [h1, h5]
  ·simp [hyx]
 ·by_cases hyx : y = x
  ·by_cases hzx : z = x
   ·rw [hyx, hzx]
   ·simp only [if_pos hyx, if_neg hzx, Option.some.injEq] at hy hz
    subst hy; exact absurd he.symm (hne z r hzx hz)
  ·by_cases hzx : z = x
   ·simp only [if_neg hyx, if_pos hzx, Option.some.injEq] at hy hz
    subst hz; exact absurd he (hne y p hyx hy)
   ·simp only [if_neg hyx, if_neg hzx] at hy hz
    exact h.inj y z p r hy hz he
theorem sum_take {α : Type} {f g : α → Nat} (h : ∀ x, f x ≤ g x) : ∀ (l : List α) (j : Nat), ((l.take j).map f).sum ≤ (l.map g).sum
 | [], j => by simp
 | x :: r, 0 => by simp
 | x :: r, j + 1 => by
  have := sum_take h r j
  have := h x
  simp only [List.take_succ_cons, List.map_cons, List.sum_cons]; omega
/-- Who defines a name, among the first equations. -/
def defP (n : Nn) (j : Nat) (x : Tx) (d : Nat) : Prop := d < j ∧ ∃ q, n.eqs[d]? = some q ∧ q.k ≠ 2 ∧ x ∈ q.left
def bgO (n : Nn) (ge k : Nat) : List V := [.d (.str n.nm), .d (.slice (encD n.inn)), .d (.slice (encD n.out)), .d (.slice (encD n.loc)), .d (.slice (encN n.eqs)), .osl 4 ge 0 k 2 none, .osl 1 1 0 n.eqs.length 1 (some n.eqs.length), .osl 2 2 0 n.eqs.length 1 (some n.eqs.length)]
/-- Cells that hold numbers. -/
def WsOK (cw : List V) (m : Nat) : Prop := cw.length = m ∧ ∀ v, v ∈ cw → ∃ w : Int, v = dI w
theorem WsOK.upd {cw : List V} {m i : Nat} (h : WsOK cw m) (hi : i < m) (w : Int) : WsOK (cw.take i ++ (dI w :: cw.drop (i + 1))) m := by
 refine ⟨?_, fun v hv => ?_⟩
 ·rw [List.length_append, List.length_cons, List.length_take, List.length_drop, h.1]; omega
 ·rcases List.mem_append.1 hv with hv | hv
  ·exact h.2 v (List.mem_of_mem_take hv)
  ·rcases List.mem_cons.1 hv with hv | hv
   ·exact ⟨w, hv⟩
   ·exact h.2 v (List.mem_of_mem_drop hv)
/-- An edge: who is read defines a name that is read. -/
def edP (n : Nn) (d e : Nat) : Prop := ∃ q x, n.eqs[e]? = some q ∧ x ∈ rdQ q ∧ defP n n.eqs.length x d
/-- The memory while edges are gathered. -/
structure EB (n : Nn) (L : List (Tx × V)) (F : Tx → Option (Nat × Nat × List Nat)) (B N1 ge : Nat) (E : List (Nat × Nat)) (hp : Hp) : Prop where
 o1 : ∃ cw, hp.get 1 = some ⟨1, false, cw⟩ ∧ WsOK cw n.eqs.length
 o3 : hp.get 3 = some ⟨3, false, bgO n ge E.length⟩
 o4 : hp.get 4 = some ⟨ge, false, fl (encEd E)⟩
 o5 : hp.get 5 = some ⟨5, false, [mpC eV L]⟩
 dm : DM L F hp N1 (defP n n.eqs.length) B
theorem EB.mono {n : Nn} {L : List (Tx × V)} {F : Tx → Option (Nat × Nat × List Nat)} {B N1 ge : Nat} {E : List (Nat × Nat)} {hp hp' : Hp} (h : EB n L F B N1 ge E hp) (hm6 : 6 ≤ N1) (hf : ∀ i, i < N1 → hp'.get i = hp.get i) : EB n L F B N1 ge E hp' := by
 obtain ⟨⟨cw, a1, b1⟩, a3, a4, a5, aD⟩ := h
 exact ⟨⟨cw, (hf 1 (by omega)).trans a1, b1⟩, (hf 3 (by omega)).trans a3, (hf 4 (by omega)).trans a4, (hf 5 (by omega)).trans a5, aD.mono (Nat.le_refl _) (Nat.le_refl _) (fun i _ hi => hf i hi) fun _ _ => Iff.rfl⟩
theorem sub_lenN : ∀ {l t : List Nat}, l.Pairwise (fun a b => a ≠ b) → (∀ x, x ∈ l → x ∈ t) → l.length ≤ t.length
 | [], t, _, _ => Nat.zero_le _
 | x :: l, t, hp, hs => by
  obtain ⟨h1, h2⟩ := List.pairwise_cons.1 hp
  have hx := hs x List.mem_cons_self
  have := sub_lenN (l := l) (t := t.erase x) h2 fun y hy => (List.mem_erase_of_ne (fun e => h1 y hy e.symm)).2 (hs y (List.mem_cons_of_mem _ hy))
  rw [List.length_erase_of_mem hx] at this
  have := List.length_pos_of_mem hx
  rw [List.length_cons]; omega
theorem kf27 (r : Nat) : Ob.keep 27 r = Ob.k27 r := by kernel_rfl
attribute [local simp] kf27 Ob.k27
set_option maxHeartbeats 40000000 in
theorem begin27 (n : Nn) (hs : n.sz ≤ 4194304) (hb : n.eqs.length ≤ 402) : ∃ (q : CR), lim Tryz.prog Ob.cfg 27 [aG n.cells] [] 0 0 = some q ∧ q.v = .ptr 3 3 0 ∧ 6 ≤ q.n ∧ ∃ (ge : Nat) (E : List (Nat × Nat)), q.hp.get 3 = some ⟨3, false, bgO n ge E.length⟩ ∧ q.hp.get 4 = some ⟨ge, false, fl (encEd E)⟩ ∧ (∀ d e, (d, e) ∈ E ↔ e < n.eqs.length ∧ edP n d e) ∧ E.length ≤ 402 * 402 := by
 have hsz : n.sz = szT n.nm + szD n.inn + szD n.out + szD n.loc + szN n.eqs + 5 := rfl
 have hNl := len_szN n.eqs
 have hNe : (encN n.eqs).length = n.eqs.length := encN_len _
 obtain ⟨w, t, h1, h2⟩ := lim_wp (P := Tryz.prog) (cfg := Ob.cfg) (vs := [aG n.cells]) (hp := []) (n := 0) (c := 0) (Q := fun w t => w = .ptr 3 3 0 ∧ 6 ≤ t.n ∧ ∃ (ge : Nat) (E : List (Nat × Nat)), t.hp.get 3 = some ⟨3, false, bgO n ge E.length⟩ ∧ t.hp.get 4 = some ⟨ge, false, fl (encEd E)⟩ ∧ (∀ d e, (d, e) ∈ E ↔ e < n.eqs.length ∧ edP n d e) ∧ E.length ≤ 402 * 402) Tryz.func27 rfl (by kernel_rfl) (by
  have f8 : fitsB n.eqs.length 8 = true := by simp [fitsB]; omega
  have f1 : fitsB n.eqs.length 1 = true := by simp [fitsB]; omega
  have hmx := eq_true (show (n.eqs.length : Int) ≤ 9223372036854775807 by omega)
  repeat (first
 | apply WP.seq
 | (apply WP.reg; (case hR => dsimp only [prepL, prepO, List.map, gS, gZ]; exact iZ); (case hr => (repeat (first
 | (apply RT.op; simp [envOf, aG, Nn.cells, fillV, dL, hNe, makeV, f8, f1, hmx]; exact iZ; (try dsimp only [putEnv]) <;> exact rfl)
 | (apply RT.call; (iterate 2 simp; exact iZ); exact iZ; (iterate 4 simp [envOf, aG, Nn.cells, fillV, dL, hNe, makeV, f8, f1, hmx]; exact iZ); simp [Is]; (try dsimp only [putEnv]) <;> exact rfl; simp; exact iZ; simp; exact iZ)
 | (apply RT.wr; simp [envOf, aG, Nn.cells, fillV, dL, hNe, makeV, f8, f1, hmx]; exact iZ; (try dsimp only [putEnv]) <;> exact rfl; simp [envOf, aG, Nn.cells, fillV, dL, hNe, makeV, f8, f1, hmx]; exact iZ; (iterate 2 exact iZ); simp; exact iZ))); exact RT.nil); (case hc => first | (refine checkR_un [(0, 1), (0, 2), (0, 3), (0, 4), (0, 5), (1, 5), (2, 5), (3, 5), (4, 5), (0, 6), (1, 6), (2, 6), (3, 6), (4, 6), (0, 7), (1, 7), (2, 7), (3, 7), (4, 7), (0, 8), (1, 8), (2, 8), (3, 8), (4, 8)] (by kernel_rfl) (by kernel_rfl) rfl ?_; simp [memA, disj, nbeq_dec]; done) | (show _ = _; kernel_rfl)); (case ht => simp [envOf, aG, Nn.cells, fillV, dL, hNe, makeV, f8, f1, hmx]; exact iZ))
 | apply WP.block | apply WP.skip | apply WP.exit | apply WP.ret | refine WP.condT rfl ?_ | refine WP.condF rfl ?_)
  have hcnt : ∀ j q, n.eqs[j]? = some q → ((n.eqs.take j).map fun q : Nq => q.left.length).sum + q.left.length ≤ szN n.eqs := fun j q hq => by
   have h := sum_take (f := fun q : Nq => q.left.length) (g := fun q : Nq => q.sz) (fun q => by have := len_szS q.left; unfold Nq.sz; omega) n.eqs (j + 1)
   rw [take_snoc hq] at h
   unfold szN
   simpa using h
  apply WP.loop' (I := fun D s => ∃ (j c' n' : Nat) (hp' : Hp) (L : List (Tx × V)) (F : Tx → Option (Nat × Nat × List Nat)), j + D = n.eqs.length ∧ 6 ≤ n' ∧ hp'.get 1 = some ⟨1, false, (List.replicate n.eqs.length (0 : Int)).map fun k => dI k⟩ ∧ hp'.get 3 = some ⟨3, false, bgO n 4 0⟩ ∧ hp'.get 4 = some ⟨4, false, []⟩ ∧ hp'.get 5 = some ⟨5, false, [mpC eV L]⟩ ∧ DM L F hp' n' (defP n j) ((n.eqs.take j).map fun q : Nq => q.left.length).sum ∧
   s = ⟨[(3, .ptr 3 3 0), (4, .mp 5 5), (32, dL (encN n.eqs)), (33, dI n.eqs.length), (34, dI j)], hp', n', c', 0, []⟩) (d := n.eqs.length)
  ·refine ⟨0, _, _, _, [], fun _ => none, by simp, Nat.le_refl _, by simp [Hp.get, dI], rfl, rfl, rfl, ⟨fun x => rfl, fun x p h => (by cases h), fun x d => ⟨fun h => (by have := h.1; omega), fun ⟨p, h, _⟩ => (by cases h)⟩, fun x y p r h => (by cases h)⟩, st_eq (by simp [dI, dL]) rfl⟩
  rintro D _ ⟨j, c', n', hp', L, F, hj, hn6, h1, h3, h4, h5, hD, rfl⟩
  refine wk (jn @dI.eq_1 @dL.eq_1) ?_
  show WP _ _ _ _ _ _
  refine WP.cond _ rfl (fun hb => ?_) (fun hb => ?_)
  ·simp at hb
   have hb' : j < n.eqs.length := by omega
   obtain ⟨q, hq, hqm, hix⟩ := at_lt hb'
   have hq' := encN_at hq
   have hwj := w_succ hb' (by omega)
   have hqs := mem_szN hqm
   have hqz : q.sz = szS q.left + q.r.sz + szT q.node + szX q.args + szT q.ev + szO q.ck + 13 := rfl
   have hll := len_szS q.left
   have hSe : (encS q.left).length = q.left.length := encS_len _
   have hsum : ((n.eqs.take (j + 1)).map fun q : Nq => q.left.length).sum = ((n.eqs.take j).map fun q : Nq => q.left.length).sum + q.left.length := by rw [take_snoc hq]; simp
   obtain ⟨B, hB⟩ : ∃ B, ((n.eqs.take j).map fun q : Nq => q.left.length).sum = B := ⟨_, rfl⟩
   have hBl := hcnt j q hq
   rw [hB] at hD hsum hBl
   have y1 := eq_false (show ¬ n' = 1 by omega)
   have y3 := eq_false (show ¬ n' = 3 by omega)
   have y4 := eq_false (show ¬ n' = 4 by omega)
   have y5 := eq_false (show ¬ n' = 5 by omega)
   have hdef : ∀ x d, defP n (j + 1) x d ↔ defP n j x d ∨ (d = j ∧ q.k ≠ 2 ∧ x ∈ q.left) := fun x d => by
    unfold defP
    constructor
    ·rintro ⟨a, r, b1, b2, b3⟩
     by_cases hdj : d = j
     ·rw [hdj, hq] at b1; cases b1; exact .inr ⟨hdj, b2, b3⟩
     ·exact .inl ⟨by omega, r, b1, b2, b3⟩
    ·rintro (⟨a, b⟩ | ⟨a, b1, b2⟩)
     ·exact ⟨by omega, b⟩
     ·exact ⟨by omega, q, by rw [a]; exact hq, b1, b2⟩
   by_cases k2 : q.k = 2
   ·have k2' := eq_true k2
    refine wkc (jn @dI.eq_1 (jn @dL.eq_1 (jn @Nq.cells.eq_1 (jn @hix (jn @hq' (jn @fillV.eq_1 (jn @fillV.eq_2 (jn @int_bne @k2')))))))) ?_
    refine loop_next (by simp [hwj]; exact Is.rfl) ?_
    refine ⟨D - 1, by omega, j + 1, c' + 1, n' + 1, _, L, F, by omega, by omega, by simp [y1, h1], by simp [y3, h3], by simp [y4, h4], by simp [y5, h5], ?_, st_eq (by simp [dI, dL]) rfl⟩
    rw [hsum]
    exact hD.mono (Nat.le_succ _) (by omega) (fun i hi hin => by simp [show (n' = i) = False from eq_false (by omega)]) fun x d => by
     rw [hdef]; constructor
     ·rintro (h | ⟨_, h, _⟩); exact h; exact absurd k2 h
     ·exact .inl
   ·have k2' := eq_false k2
    refine wkc (jn @dI.eq_1 (jn @dL.eq_1 (jn @Nq.cells.eq_1 (jn @hix (jn @hq' (jn @fillV.eq_1 (jn @fillV.eq_2 (jn @int_bne (jn @k2' @hSe))))))))) ?_
    apply WP.gen3
    intro hp1 c1 wl1 hhp hwl
    have hw1 : wl1 = [] := hwl
    subst hw1
    have a1 : hp1.get 1 = some ⟨1, false, (List.replicate n.eqs.length (0 : Int)).map fun k => dI k⟩ := by rw [hhp]; simp [y1, h1]
    have a3 : hp1.get 3 = some ⟨3, false, bgO n 4 0⟩ := by rw [hhp]; simp [y3, h3]
    have a4 : hp1.get 4 = some ⟨4, false, []⟩ := by rw [hhp]; simp [y4, h4]
    have a5 : hp1.get 5 = some ⟨5, false, [mpC eV L]⟩ := by rw [hhp]; simp [y5, h5]
    have aD : DM L F hp1 (n' + 1) (fun x d => defP n j x d ∨ (d = j ∧ x ∈ q.left.take 0)) (B + 0) := hD.mono (Nat.le_succ _) (by omega) (fun i hi hin => by rw [hhp]; simp [show (n' = i) = False from eq_false (by omega)]) fun x d => by simp
    clear hhp hwl hD h1 h3 h4 h5
    apply WP.loop' (I := fun D2 s => ∃ (i c' n2 : Nat) (hp' : Hp) (L : List (Tx × V)) (F : Tx → Option (Nat × Nat × List Nat)), i + D2 = q.left.length ∧ 6 ≤ n2 ∧ hp'.get 1 = some ⟨1, false, (List.replicate n.eqs.length (0 : Int)).map fun k => dI k⟩ ∧ hp'.get 3 = some ⟨3, false, bgO n 4 0⟩ ∧ hp'.get 4 = some ⟨4, false, []⟩ ∧ hp'.get 5 = some ⟨5, false, [mpC eV L]⟩ ∧ DM L F hp' n2 (fun x d => defP n j x d ∨ (d = j ∧ x ∈ q.left.take i)) (B + i) ∧
     s = ⟨[(3, .ptr 3 3 0), (4, .mp 5 5), (5, dI j), (32, dL (encN n.eqs)), (33, dI n.eqs.length), (34, dI j), (43, dL (encS q.left)), (44, dI q.left.length), (45, dI i)], hp', n2, c', 0, []⟩) (d := q.left.length)
    ·exact ⟨0, _, _, _, L, F, by simp, by omega, a1, a3, a4, a5, aD, st_eq (by simp [dI, dL]) rfl⟩
    clear a1 a3 a4 a5 aD
    rintro D2 _ ⟨i, c', n2, hp', L, F, hi, hn2, h1, h3, h4, h5, hD, rfl⟩
    refine wk (jn @dI.eq_1 @dL.eq_1) ?_
    show WP _ _ _ _ _ _
    refine WP.cond _ rfl (fun hb => ?_) (fun hb => ?_)
    ·simp at hb
     have hb2 : i < q.left.length := by omega
     obtain ⟨x, hx, hxm, hix2⟩ := at_lt hb2
     have hx' := encS_at hx
     have hwi := w_succ hb2 (by omega)
     have y1 := eq_false (show ¬ n2 = 1 by omega)
     have y3 := eq_false (show ¬ n2 = 3 by omega)
     have y0 := eq_false (show ¬ n2 = 0 by omega)
     have y2 := eq_false (show ¬ n2 = 2 by omega)
     have y4 := eq_false (show ¬ n2 = 4 by omega)
     have y5 := eq_false (show ¬ n2 = 5 by omega)
     have x5 := eq_false (show ¬ 5 = n2 by omega)
     have l5 := eq_true (show 5 < n2 by omega)
     have l6 := eq_true (show 5 < n2 + 1 by omega)
     have l7 := eq_true (show 5 < n2 + 2 by omega)
     have hP : ∀ y e, (defP n j y e ∨ (e = j ∧ y ∈ q.left.take (i + 1))) ↔ (defP n j y e ∨ (e = j ∧ y ∈ q.left.take i)) ∨ (y = x ∧ e = j) := fun y e => by
      rw [take_snoc hx, List.mem_append, List.mem_singleton]
      constructor
      ·rintro (h | ⟨h1, h2 | h2⟩)
       ·exact .inl (.inl h)
       ·exact .inl (.inr ⟨h1, h2⟩)
       ·exact .inr ⟨h2, h1⟩
      ·rintro ((h | ⟨h1, h2⟩) | ⟨h1, h2⟩)
       ·exact .inl h
       ·exact .inr ⟨h1, .inl h2⟩
       ·exact .inr ⟨h2, .inr h1⟩
     cases hF : F x with
     | none =>
      have hg := hD.get x
      rw [hF] at hg
      have lk := fun (look : Look) (sz by_ : Nat) (zr : Option (List V)) (h : look 5 = some ⟨5, false, [mpC eV L]⟩) => (by have := look_mp eV L (.full []) (z := V.full []) (sz := sz) (by_ := by_) (zr := zr) (x := x) rfl h; rw [hg] at this; exact this : lookupV look ⟨.str, sz, by_, zr⟩ (some (V.full [])) (.mp 5 5) (.d (.str x)) false = some ⟨.full [], [], [5], 0, 0, false⟩)
      have li := fun (look : Look) (sz by_ : Nat) (zr : Option (List V)) (h : look 5 = some ⟨5, false, [mpC eV L]⟩) => insert_mp eV L (.osl (n2 + 1) (c' + 1) 0 1 1 none) (sz := sz) (by_ := by_) (zr := zr) (x := x) (w := .osl (n2 + 1) (c' + 1) 0 1 1 none) rfl h
      have f8 : fitsB 1 8 = true := rfl
      refine wkc (jn @dI.eq_1 (jn @dL.eq_1 (jn @hix2 (jn @hx' (jn @h5 (jn @lk (jn @li (jn @zt75 (jn @fillV.eq_1 (jn @fillV.eq_2 (jn @closeParts.eq_1 (jn @closeParts.eq_2 (jn @cl2.eq_def (jn @toD_d (jn @nble_d (jn @f8 (jn @y1 (jn @y3 (jn @y4 (jn @y5 (jn @x5 (jn @l5 (jn @l6 @l7))))))))))))))))))))))) ?_
      refine loop_next (by simp [hwi]; exact Is.rfl) ?_
      have hdm := hD.put (hp' := ((hp'.set n2 ⟨c', false, [.d (.int .i64 j)]⟩).set (n2 + 1) ⟨c' + 1, false, [.d (.int .i64 j)]⟩).set 5 ⟨5, false, [mpC eV (mput L x (.osl (n2 + 1) (c' + 1) 0 1 1 none))]⟩) (n' := n2 + 2) x j (n2 + 1) (c' + 1) [] (by omega) (.inr ⟨hF, by omega, by omega, by omega, rfl⟩) (by simp [y4, dI]) (fun e he hen hne => by simp [show (5 = e) = False from eq_false (by omega), show (n2 + 1 = e) = False from eq_false (by omega), show (n2 = e) = False from eq_false (by omega)]) hP
      exact ⟨D2 - 1, by omega, i + 1, c' + 2, n2 + 2, _, mput L x (.osl (n2 + 1) (c' + 1) 0 1 1 none), _, by omega, by omega, by simp [y0, y1, h1], by simp [y2, y3, h3], by simp [y3, y4, h4], by simp, hdm, st_eq (by simp [dI, dL, hwi]) rfl⟩
     | some p =>
      obtain ⟨id, g, l⟩ := p
      have hg := hD.get x
      rw [hF] at hg
      obtain ⟨b1, b2, b3, b4⟩ := hD.obj x _ hF
      simp only at b1 b2 b3 b4
      have lk := fun (look : Look) (sz by_ : Nat) (zr : Option (List V)) (h : look 5 = some ⟨5, false, [mpC eV L]⟩) => (by have := look_mp eV L (.full []) (z := V.full []) (sz := sz) (by_ := by_) (zr := zr) (x := x) rfl h; rw [hg] at this; exact this : lookupV look ⟨.str, sz, by_, zr⟩ (some (V.full [])) (.mp 5 5) (.d (.str x)) false = some ⟨.osl id g 0 l.length 1 none, [], [5], 0, 0, false⟩)
      have li := fun (look : Look) (sz by_ : Nat) (zr : Option (List V)) (h : look 5 = some ⟨5, false, [mpC eV L]⟩) => insert_mp eV L (.osl id (c' + 1) 0 (l.length + 1) 1 none) (sz := sz) (by_ := by_) (zr := zr) (x := x) (w := .osl id (c' + 1) 0 (l.length + 1) 1 none) rfl h
      obtain ⟨cl, hcl⟩ : ∃ cl, l.map (fun d : Nat => dI d) = cl := ⟨_, rfl⟩
      have hcll : cl.length = l.length := by rw [← hcl, List.length_map]
      have hclt : cl.take l.length = cl := by rw [← hcll, List.take_length]
      rw [hcl] at b1
      have f8 : fitsB (l.length + 1) 8 = true := by simp [fitsB]; omega
      have z1 := eq_false (show ¬ n2 = id by omega)
      have z2 := eq_false (show ¬ id = 5 by omega)
      have z3 := eq_false (show ¬ id = n2 by omega)
      have z4 := eq_false (show ¬ 5 = id by omega)
      have l8 := eq_true (show id < n2 + 1 by omega)
      have l9 := eq_true (show id < n2 by omega)
      refine wkc (jn @dI.eq_1 (jn @dL.eq_1 (jn @hix2 (jn @hx' (jn @h5 (jn @lk (jn @li (jn @zt75 (jn @b1 (jn @hcll (jn @hclt (jn @fillV.eq_1 (jn @fillV.eq_2 (jn @closeParts.eq_1 (jn @closeParts.eq_2 (jn @cl2.eq_def (jn @toD_d (jn @nble_d (jn @f8 (jn @z1 (jn @z2 (jn @z3 (jn @z4 (jn @l8 (jn @l9 (jn @y1 (jn @y3 (jn @y4 (jn @y5 (jn @x5 (jn @l5 (jn @l6 @l7)))))))))))))))))))))))))))))))) ?_
      refine loop_next (by simp [hwi]; exact Is.rfl) ?_
      have i1 := eq_false (show ¬ id = 1 by omega)
      have i3 := eq_false (show ¬ id = 3 by omega)
      have i4 := eq_false (show ¬ id = 4 by omega)
      have hdm := hD.put (hp' := ((hp'.set n2 ⟨c', false, [.d (.int .i64 j)]⟩).set id ⟨c' + 1, false, cl ++ [.d (.int .i64 j)]⟩).set 5 ⟨5, false, [mpC eV (mput L x (.osl id (c' + 1) 0 (l.length + 1) 1 none))]⟩) (n' := n2 + 1) x j id (c' + 1) l (by omega) (.inl ⟨_, hF, rfl, rfl⟩) (by simp [z4, dI, ← hcl]) (fun e he hen hne => by simp [show (5 = e) = False from eq_false (by omega), show (id = e) = False from eq_false (by omega), show (n2 = e) = False from eq_false (by omega)]) hP
      exact ⟨D2 - 1, by omega, i + 1, c' + 2, n2 + 1, _, mput L x (.osl id (c' + 1) 0 (l.length + 1) 1 none), _, by omega, by omega, by simp [y1, i1, h1], by simp [y3, i3, h3], by simp [y4, i4, h4], by simp, hdm, st_eq (by simp [dI, dL, hwi]) rfl⟩
    ·simp at hb
     have hie : i = q.left.length := by omega
     rw [hie, List.take_length] at hD
     refine wkc (jn @dI.eq_1 @dL.eq_1) ?_
     refine loop_next (by simp [hwj]; exact Is.rfl) ?_
     refine ⟨D - 1, by omega, j + 1, c', n2, _, L, F, by omega, hn2, h1, h3, h4, h5, ?_, st_eq (by simp [dI, dL, hwj]) rfl⟩
     rw [hsum]
     exact hD.mono (Nat.le_refl _) (Nat.le_refl _) (fun _ _ _ => rfl) fun x d => by
      rw [hdef]; constructor
      ·rintro (h | ⟨h1, _, h2⟩); exact .inl h; exact .inr ⟨h1, h2⟩
      ·rintro (h | ⟨h1, h2⟩); exact .inl h; exact .inr ⟨h1, k2, h2⟩
  ·simp at hb
   have hje : j = n.eqs.length := by omega
   rw [hje, List.take_length] at hD
   have hBl : (n.eqs.map fun q : Nq => q.left.length).sum ≤ szN n.eqs := by
    have h := sum_take (f := fun q : Nq => q.left.length) (g := fun q : Nq => q.sz) (fun q => by have := len_szS q.left; unfold Nq.sz; omega) n.eqs n.eqs.length
    rw [List.take_length] at h
    exact h
   obtain ⟨B, hB⟩ : ∃ B, (n.eqs.map fun q : Nq => q.left.length).sum = B := ⟨_, rfl⟩
   rw [hB] at hD hBl
   unfold bgO at h3
   refine wkc (jn @dI.eq_1 (jn @dL.eq_1 (jn @h3 @hNe))) ?_
   have hE0 : EB n L F B n' 4 [] hp' := ⟨⟨_, h1, ⟨by simp, fun v hv => by simp at hv; exact ⟨0, hv.2⟩⟩⟩, by simpa [bgO] using h3, by rw [h4]; rfl, h5, hD⟩
   clear h1 h3 h4 h5 hD
   apply WP.loop' (I := fun D s => ∃ (i c' n2 : Nat) (hp' : Hp) (ge : Nat) (E : List (Nat × Nat)), i + D = n.eqs.length ∧ n' ≤ n2 ∧ EB n L F B n' ge E hp' ∧ (∀ d e, (d, e) ∈ E ↔ e < i ∧ edP n d e) ∧ E.length ≤ 402 * i ∧
    s = ⟨[(3, .ptr 3 3 0), (4, .mp 5 5), (63, dL (encN n.eqs)), (64, dI n.eqs.length), (65, dI i)], hp', n2, c', 0, []⟩) (d := n.eqs.length)
   ·exact ⟨0, _, _, _, _, [], by simp, Nat.le_refl _, hE0, fun d e => by simp, by simp, st_eq (by simp [dI, dL]) rfl⟩
   clear hE0
   rintro D _ ⟨i, c', n2, hp', ge, E, hi, hn2, hE, hEm, hEl, rfl⟩
   refine wk (jn @dI.eq_1 @dL.eq_1) ?_
   show WP _ _ _ _ _ _
   refine WP.cond _ rfl (fun hb => ?_) (fun hb => ?_)
   ·simp at hb
    have hb' : i < n.eqs.length := by omega
    obtain ⟨q, hq, hqm, hix⟩ := at_lt hb'
    have hq' := encN_at hq
    have hwi := w_succ hb' (by omega)
    have hqs := mem_szN hqm
    have hrd := reads44 q (by omega)
    have hrl := rdQ_len (q := q) (by omega)
    have hed : ∀ d, edP n d i ↔ ∃ x, x ∈ rdQ q ∧ defP n n.eqs.length x d := fun d => by
     unfold edP
     constructor
     ·rintro ⟨r, x, h1, h2, h3⟩; rw [hq] at h1; cases h1; exact ⟨x, h2, h3⟩
     ·rintro ⟨x, h2, h3⟩; exact ⟨q, x, hq, h2, h3⟩
    obtain ⟨R, hR⟩ : ∃ R, rdQ q = R := ⟨_, rfl⟩
    rw [hR] at hrd hrl hed
    have hSe : (encS R).length = R.length := encS_len _
    simp only [dL, aG, Nq.cells, List.map_cons, List.map_nil] at hrd
    refine wkc (jn @dI.eq_1 (jn @dL.eq_1 (jn @Nq.cells.eq_1 (jn @hix (jn @hq' (jn @fillV.eq_1 (jn @fillV.eq_2 (jn @hrd (jn @hSe @makeMapV.eq_def))))))))) ?_
    apply WP.gen3
    intro hp1 c1 wl1 hhp hwl
    have hw1 : wl1 = [] := hwl
    subst hw1
    have hwl0 : hp1.get (n2 + 1) = some ⟨c' + 1, false, [mpI []]⟩ := by rw [hhp]; simp [mpI]
    have hE1 : EB n L F B n' ge E hp1 := hE.mono hn6 fun e he => by rw [hhp]; simp [show (n2 = e) = False from eq_false (by omega), show (n2 + 1 = e) = False from eq_false (by omega)]
    obtain ⟨mI, hmI⟩ : ∃ mI, n2 + 1 = mI := ⟨_, rfl⟩
    obtain ⟨gI, hgI⟩ : ∃ gI, c' + 1 = gI := ⟨_, rfl⟩
    rw [hmI, hgI] at hwl0
    rw [hmI, hgI]
    clear hhp hwl hE
    apply WP.loop' (I := fun D2 s => ∃ (r c' n3 : Nat) (hp' : Hp) (ge : Nat) (E : List (Nat × Nat)) (S : List Nat), r + D2 = R.length ∧ n2 + 2 ≤ n3 ∧ EB n L F B n' ge E hp' ∧ hp'.get mI = some ⟨gI, false, [mpI S]⟩ ∧ S.Pairwise (fun a b => a ≠ b) ∧ (∀ d, d ∈ S ↔ ∃ x, x ∈ R.take r ∧ defP n n.eqs.length x d) ∧ (∀ d e, (d, e) ∈ E ↔ (e < i ∧ edP n d e) ∨ (e = i ∧ d ∈ S)) ∧ E.length ≤ 402 * i + S.length ∧
     s = ⟨[(3, .ptr 3 3 0), (4, .mp 5 5), (9, dI i), (11, .mp mI gI), (63, dL (encN n.eqs)), (64, dI n.eqs.length), (65, dI i), (72, dL (encS R)), (73, dI R.length), (74, dI r)], hp', n3, c', 0, []⟩) (d := R.length)
    ·exact ⟨0, _, _, _, _, E, [], by simp, Nat.le_refl _, hE1, hwl0, by simp, fun d => by simp, fun d e => by rw [hEm]; simp, by simpa using hEl, st_eq (by simp [dI, dL]) rfl⟩
    clear hE1 hwl0 hEm hEl
    rintro D2 _ ⟨r, c', n3, hp', ge, E, S, hr, hn3, hE, hSo, hSp, hSm, hEm, hEl, rfl⟩
    refine wk (jn @dI.eq_1 @dL.eq_1) ?_
    show WP _ _ _ _ _ _
    refine WP.cond _ rfl (fun hb => ?_) (fun hb => ?_)
    ·simp at hb
     have hb2 : r < R.length := by omega
     obtain ⟨x, hx, hxm, hix2⟩ := at_lt hb2
     have hx' := encS_at hx
     have hwr := w_succ hb2 (by unfold MX at hrl; omega)
     have h5 := hE.o5
     have hg := hE.dm.get x
     obtain ⟨v, l, hv, hlk, hlm, hll⟩ : ∃ (v : V) (l : List Nat), ((v = .full [] ∧ l = []) ∨ ∃ id g, v = .osl id g 0 l.length 1 none ∧ F x = some (id, g, l)) ∧ (mget L x).getD (.full []) = v ∧ (∀ d, d ∈ l ↔ defP n n.eqs.length x d) ∧ l.length ≤ B := by
      cases hF : F x with
      | none =>
       rw [hF] at hg
       exact ⟨.full [], [], .inl ⟨rfl, rfl⟩, by rw [hg]; rfl, fun d => by rw [hE.dm.mem, hF]; simp, by simp⟩
      | some p =>
       obtain ⟨id, g, l⟩ := p
       rw [hF] at hg
       exact ⟨_, l, .inr ⟨id, g, rfl, rfl⟩, by rw [hg]; rfl, fun d => by rw [hE.dm.mem, hF]; simp, (hE.dm.obj x _ hF).2.2.2⟩
     have lk := fun (look : Look) (sz by_ : Nat) (zr : Option (List V)) (h : look 5 = some ⟨5, false, [mpC eV L]⟩) => (by have := look_mp eV L (.full []) (z := V.full []) (sz := sz) (by_ := by_) (zr := zr) (x := x) rfl h; rw [hlk] at this; exact this : lookupV look ⟨.str, sz, by_, zr⟩ (some (V.full [])) (.mp 5 5) (.d (.str x)) false = some ⟨v, [], [5], 0, 0, false⟩)
     have hv0 := hv
     rcases hv with ⟨rfl, hl0⟩ | ⟨id, g, rfl, hF⟩
     refine wkc (jn @dI.eq_1 (jn @dL.eq_1 (jn @hix2 (jn @hx' (jn @hSe (jn @h5 (jn @lk @zt75))))))) ?_
     obtain ⟨v, hvv⟩ : ∃ v, v = V.full [] := ⟨_, rfl⟩
     rw [← hvv] at hv0
     refine WP.st_eq2 (s' := ⟨[(3, .ptr 3 3 0), (4, .mp 5 5), (9, dI i), (11, .mp mI gI), (63, dL (encN n.eqs)), (64, dI n.eqs.length), (65, dI i), (72, dL (encS R)), (73, dI R.length), (74, dI r), (80, v), (81, dI l.length), (82, dI 0)], hp', n3, c', 0, []⟩) (by rw [hl0, hvv]; rfl) ?_
     clear hlk lk hvv
     rotate_left
     obtain ⟨b1, b2, b3, b4⟩ := hE.dm.obj x _ hF
     simp only at b1 b2 b3 b4
     refine wkc (jn @dI.eq_1 (jn @dL.eq_1 (jn @hix2 (jn @hx' (jn @hSe (jn @h5 (jn @lk (jn @zt75 @b1)))))))) ?_
     obtain ⟨v, hvv⟩ : ∃ v, v = V.osl id g 0 l.length 1 none := ⟨_, rfl⟩
     rw [← hvv] at hv0
     refine WP.st_eq2 (s' := ⟨[(3, .ptr 3 3 0), (4, .mp 5 5), (9, dI i), (11, .mp mI gI), (63, dL (encN n.eqs)), (64, dI n.eqs.length), (65, dI i), (72, dL (encS R)), (73, dI R.length), (74, dI r), (80, v), (81, dI l.length), (82, dI 0)], hp', n3, c', 0, []⟩) (by rw [hvv]; rfl) ?_
     clear hlk lk hvv b1 b2 b3 b4
     rotate_left
     all_goals
      apply WP.loop' (I := fun D3 s => ∃ (k c' n4 : Nat) (hp' : Hp) (ge : Nat) (E : List (Nat × Nat)) (S : List Nat), k + D3 = l.length ∧ n2 + 2 ≤ n4 ∧ EB n L F B n' ge E hp' ∧ hp'.get mI = some ⟨gI, false, [mpI S]⟩ ∧ S.Pairwise (fun a b => a ≠ b) ∧ (∀ d, d ∈ S ↔ (∃ x, x ∈ R.take r ∧ defP n n.eqs.length x d) ∨ d ∈ l.take k) ∧ (∀ d e, (d, e) ∈ E ↔ (e < i ∧ edP n d e) ∨ (e = i ∧ d ∈ S)) ∧ E.length ≤ 402 * i + S.length ∧
       s = ⟨[(3, .ptr 3 3 0), (4, .mp 5 5), (9, dI i), (11, .mp mI gI), (63, dL (encN n.eqs)), (64, dI n.eqs.length), (65, dI i), (72, dL (encS R)), (73, dI R.length), (74, dI r), (80, v), (81, dI l.length), (82, dI k)], hp', n4, c', 0, []⟩) (d := l.length)
      ·exact ⟨0, _, _, _, _, E, S, by simp, hn3, hE, hSo, hSp, fun d => by rw [hSm]; simp, hEm, hEl, st_eq (by simp [dI, dL]) rfl⟩
      clear hE hSo hSp hSm hEm hEl h5
      rintro D3 _ ⟨k, c', n4, hp', ge, E, S, hk, hn4, hE, hSo, hSp, hSm, hEm, hEl, rfl⟩
      refine wk (jn @dI.eq_1 @dL.eq_1) ?_
      show WP _ _ _ _ _ _
      refine WP.cond _ rfl (fun hb => ?_) (fun hb => ?_)
      ·simp at hb
       have hb3 : k < l.length := by omega
       obtain ⟨id, g, rfl, hF⟩ : ∃ id g, v = .osl id g 0 l.length 1 none ∧ F x = some (id, g, l) := by
        rcases hv0 with ⟨_, h⟩ | h
        ·rw [h] at hb3; simp at hb3
        ·exact h
       obtain ⟨b1, b2, b3, b4⟩ := hE.dm.obj x _ hF
       simp only at b1 b2 b3 b4
       obtain ⟨d, hd, hdm, hix3⟩ := at_lt hb3
       have hcell : (l.map fun d : Nat => dI d)[k]? = some (dI d) := by rw [List.getElem?_map, hd]; rfl
       have hcl : (l.map fun d : Nat => dI d).length = l.length := List.length_map _
       obtain ⟨cl, hclv⟩ : ∃ cl, (l.map fun d : Nat => dI d) = cl := ⟨_, rfl⟩
       rw [hclv] at b1 hcell hcl
       have hwk := w_succ hb3 (by omega)
       have hsnk := take_snoc hd
       have hdx : defP n n.eqs.length x d := (hlm d).1 hdm
       have hdl : d < n.eqs.length := hdx.1
       have lkI := fun (look : Look) (sz by_ : Nat) (zr : Option (List V)) (h : look mI = some ⟨gI, false, [mpI S]⟩) => lookup_I S (sz := sz) (by_ := by_) (zr := zr) (d := d) h
       by_cases hdS : d ∈ S
       ·rw [decide_eq_true hdS] at lkI
        refine wkc (jn @dI.eq_1 (jn @dL.eq_1 (jn @hix3 (jn @b1 (jn @hcell (jn @hcl (jn @hSo (jn @lkI @zt4)))))))) ?_
        refine loop_next (by simp [hwk]; exact Is.rfl) ?_
        exact ⟨D3 - 1, by omega, k + 1, c', n4, _, ge, E, S, by omega, hn4, hE, hSo, hSp, fun e => by rw [hSm, hsnk, List.mem_append, List.mem_singleton]; constructor; (rintro (h | h); exact .inl h; exact .inr (.inl h)); (rintro (h | h | h); exact .inl h; exact .inr h; (rw [h]; exact (hSm d).1 hdS)), hEm, hEl, st_eq (by simp [dI, dL, hwk]) rfl⟩
       ·rw [decide_eq_false hdS] at lkI
        have hE4 := hE.o4
        have hE3 := hE.o3
        unfold bgO at hE3
        obtain ⟨cw, hE1, hcw⟩ := hE.o1
        have liI := fun (look : Look) (sz by_ : Nat) (zr : Option (List V)) (h : look mI = some ⟨gI, false, [mpI S]⟩) => insert_I S (sz := sz) (by_ := by_) (zr := zr) (d := d) hdS h
        obtain ⟨w, hw⟩ : ∃ w : Int, cw[i]? = some (dI w) := by
         obtain ⟨v, hv1⟩ : ∃ v, cw[i]? = some v := ⟨_, List.getElem?_eq_getElem (by rw [hcw.1]; omega)⟩
         obtain ⟨w, hw⟩ := hcw.2 v (List.mem_of_getElem? hv1)
         exact ⟨w, by rw [hv1, hw]⟩
        have hixw := idx_lt (show i < n.eqs.length by omega)
        have hcwl := hcw.1
        have hEfl := fl_len (encEd_row E)
        have hEft := fl_take (encEd_row E)
        rw [encEd_len] at hEfl hEft
        have hSl := sub_lenN (l := S ++ [d]) (t := List.range n.eqs.length) (by
         rw [List.pairwise_append]; exact ⟨hSp, by simp, fun a ha b hb => by rw [List.mem_singleton] at hb; rintro rfl; exact hdS (hb ▸ ha)⟩) (fun e he => by
         rw [List.mem_range]
         rcases List.mem_append.1 he with h | h
         ·rcases (hSm e).1 h with ⟨y, _, h1⟩ | h1
          ·exact h1.1
          ·exact ((hlm e).1 (List.mem_of_mem_take h1)).1
         ·rw [List.mem_singleton.1 h]; exact hdl)
        rw [List.length_append, List.length_range] at hSl
        have hi402 : 402 * i ≤ 402 * 402 := Nat.mul_le_mul_left _ (by omega)
        have f16 : fitsB (E.length + 1) 16 = true := by simp [fitsB]; simp at hSl; omega
        have s1 := eq_false (show ¬ mI = 1 by omega)
        have s3 := eq_false (show ¬ mI = 3 by omega)
        have s4 := eq_false (show ¬ mI = 4 by omega)
        have s5 := eq_false (show ¬ mI = 5 by omega)
        have t1 := eq_false (show ¬ 1 = mI by omega)
        have t3 := eq_false (show ¬ 3 = mI by omega)
        have t4 := eq_false (show ¬ 4 = mI by omega)
        have n1 := eq_false (show ¬ n4 = 1 by omega)
        have n3' := eq_false (show ¬ n4 = 3 by omega)
        have n4' := eq_false (show ¬ n4 = 4 by omega)
        have n5 := eq_false (show ¬ n4 = 5 by omega)
        have nm := eq_false (show ¬ n4 = mI by omega)
        have u1 := eq_false (show ¬ 1 = n4 by omega)
        have u3 := eq_false (show ¬ 3 = n4 by omega)
        have u4 := eq_false (show ¬ 4 = n4 by omega)
        have v1 := eq_true (show 1 < n4 by omega)
        have v2 := eq_true (show mI < n4 by omega)
        have v3 := eq_true (show 3 < n4 + 1 by omega)
        have v4 := eq_true (show 4 < n4 + 1 by omega)
        have v5 := eq_true (show 1 < n4 + 1 by omega)
        have v6 := eq_true (show 3 < n4 by omega)
        have v7 := eq_true (show 4 < n4 by omega)
        have v8 := eq_true (show i + 1 ≤ n.eqs.length by omega)
        refine wkc (jn @dI.eq_1 (jn @dL.eq_1 (jn @hix3 (jn @b1 (jn @hcell (jn @hcl (jn @hSo (jn @lkI (jn @liI (jn @zt4 (jn @hE1 (jn @hE3 (jn @hE4 (jn @hw (jn @hixw (jn @hcwl (jn @hEfl (jn @hEft (jn @f16 (jn @fillV.eq_1 (jn @fillV.eq_2 (jn @closeParts.eq_1 (jn @closeParts.eq_2 (jn @cl2.eq_def (jn @toD_d (jn @nble_d (jn @s1 (jn @s3 (jn @s4 (jn @s5 (jn @t1 (jn @t3 (jn @t4 (jn @n1 (jn @n3' (jn @n4' (jn @n5 (jn @nm (jn @u1 (jn @u3 (jn @u4 (jn @v1 (jn @v2 (jn @v3 (jn @v4 (jn @v5 (jn @v6 (jn @v7 @v8)))))))))))))))))))))))))))))))))))))))))))))))) ?_
        refine loop_next (by simp [hwk]; exact Is.rfl) ?_
        have hcw2 := hcw.upd (i := i) hb' (IntKind.i64.wrap (w + 1))
        have hne : ∀ e, e < n' → 6 ≤ e → (((((hp'.set mI ⟨gI, false, [mpI (S ++ [d])]⟩).set n4 ⟨c', false, [.d (.int .i64 d), .d (.int .i64 i)]⟩).set 4 ⟨c' + 1, false, fl (encEd E) ++ [.d (.int .i64 d), .d (.int .i64 i)]⟩).set 3 ⟨3, false, bgO n (c' + 1) (E.length + 1)⟩).set 1 ⟨1, false, cw.take i ++ dI (IntKind.i64.wrap (w + 1)) :: cw.drop (i + 1)⟩).get e = hp'.get e := fun e he he6 => by
         simp [show (mI = e) = False from eq_false (by omega), show (n4 = e) = False from eq_false (by omega), show (4 = e) = False from eq_false (by omega), show (3 = e) = False from eq_false (by omega), show (1 = e) = False from eq_false (by omega)]
        have hEn : (E ++ [(d, i)]).length = E.length + 1 := by simp
        have hfl2 : fl (encEd E) ++ [V.d (.int .i64 d), V.d (.int .i64 i)] = fl (encEd (E ++ [(d, i)])) := by rw [← encEd_snoc]; exact fl_snoc _ [.int .i64 (d : Int), .int .i64 (i : Int)]
        refine ⟨D3 - 1, by omega, k + 1, c' + 2, n4 + 1, _, c' + 1, E ++ [(d, i)], S ++ [d], by omega, by omega, ⟨⟨_, Hp.get_set_self _ _ _, hcw2⟩, by rw [hEn]; simp [bgO], by rw [← hfl2]; simp, by simp [s5, n5, hE.o5], hE.dm.mono (Nat.le_refl _) (Nat.le_refl _) (fun e he he2 => hne e he2 he) fun _ _ => Iff.rfl⟩, by simp [t1, t3, t4, nm], by
         rw [List.pairwise_append]; exact ⟨hSp, by simp, fun a ha b hb => by rw [List.mem_singleton] at hb; rintro rfl; exact hdS (hb ▸ ha)⟩, fun e => by
         rw [List.mem_append, hSm, hsnk, List.mem_append, or_assoc], fun a e => by
         rw [List.mem_append, hEm, List.mem_append, List.mem_singleton, List.mem_singleton, Prod.mk.injEq]
         constructor
         ·rintro ((h | ⟨h1, h2⟩) | ⟨h1, h2⟩)
          ·exact .inl h
          ·exact .inr ⟨h1, .inl h2⟩
          ·exact .inr ⟨h2, .inr h1⟩
         ·rintro (h | ⟨h1, h2 | h2⟩)
          ·exact .inl (.inl h)
          ·exact .inl (.inr ⟨h1, h2⟩)
          ·exact .inr ⟨h2, h1⟩, by rw [List.length_append, List.length_append]; simp; omega, st_eq (by simp [dI, dL, hwk]) rfl⟩
      ·simp at hb
       have hke : k = l.length := by omega
       rw [hke, List.take_length] at hSm
       refine wkc (jn @dI.eq_1 @dL.eq_1) ?_
       refine loop_next (by simp [hwr]; exact Is.rfl) ?_
       exact ⟨D2 - 1, by omega, r + 1, c', n4, _, ge, E, S, by omega, hn4, hE, hSo, hSp, fun d => by
        rw [hSm, take_snoc hx]
        constructor
        ·rintro (⟨y, h1, h2⟩ | h)
         ·exact ⟨y, List.mem_append.2 (.inl h1), h2⟩
         ·exact ⟨x, by simp, (hlm d).1 h⟩
        ·rintro ⟨y, h1, h2⟩
         rcases List.mem_append.1 h1 with h1 | h1
         ·exact .inl ⟨y, h1, h2⟩
         ·rw [List.mem_singleton.1 h1] at h2; exact .inr ((hlm d).2 h2), hEm, hEl, st_eq (by simp [dI, dL, hwr]) rfl⟩
    ·simp at hb
     have hre : r = R.length := by omega
     rw [hre, List.take_length] at hSm
     have hSl := sub_lenN (l := S) (t := List.range n.eqs.length) hSp fun d hd => by
      obtain ⟨x, _, h⟩ := (hSm d).1 hd
      exact List.mem_range.2 h.1
     rw [List.length_range] at hSl
     refine wkc (jn @dI.eq_1 @dL.eq_1) ?_
     refine loop_next (by simp [hwi]; exact Is.rfl) ?_
     exact ⟨D - 1, by omega, i + 1, c', n3, _, ge, E, by omega, by omega, hE, fun d e => by
      rw [hEm, hSm]
      constructor
      ·rintro (⟨h1, h2⟩ | ⟨h1, h2⟩)
       ·exact ⟨by omega, h2⟩
       ·exact ⟨by omega, by rw [h1]; exact (hed d).2 h2⟩
      ·rintro ⟨h1, h2⟩
       by_cases he : e = i
       ·exact .inr ⟨he, by rw [he] at h2; exact (hed d).1 h2⟩
       ·exact .inl ⟨by omega, h2⟩, by rw [Nat.mul_succ]; omega, st_eq (by simp [dI, dL, hwi]) rfl⟩
   ·simp at hb
    have hie : i = n.eqs.length := by omega
    refine wkc (jn @dI.eq_1 @dL.eq_1) ?_
    refine ⟨.inr rfl, [.ptr 3 3 0], rfl, .inr rfl, rfl, by show 6 ≤ n2; omega, ge, E, hE.o3, hE.o4, fun d e => by rw [hEm, hie], ?_⟩
    have : 402 * i ≤ 402 * 402 := Nat.mul_le_mul_left _ (by omega)
    omega)
 exact ⟨_, h1, h2⟩
end Go.Ac
end

section
set_option maxRecDepth 8000
namespace Go.Ac
open Go.Proofs
attribute [local simp] Hp.get_set get_trunc_lt
theorem right_plain (n : Nn) (E : List (Nat × Nat)) (h : ∀ d e, (d, e) ∈ E ↔ e < n.eqs.length ∧ edP n d e) : (!E.any bkE) = rgN n := by
 have key : E.any bkE = true ↔ rgN n = false := by
  rw [List.any_eq_true]
  unfold rgN
  rw [List.all_eq_false]
  constructor
  ·rintro ⟨⟨d, e⟩, h1, h2⟩
   obtain ⟨h3, q, x, h4, h5, h6, k, h7, h8, h9⟩ := (h d e).1 h1
   refine ⟨e, List.mem_range.2 h3, ?_⟩
   have hde : e ≤ d := by simpa [bkE] using h2
   unfold rgAt
   rw [h4]
   simp only [Bool.not_eq_true]
   rw [List.all_eq_false]
   refine ⟨k, List.mem_of_getElem? (i := d - e) (by rw [List.getElem?_drop, show e + (d - e) = d by omega]; exact h7), ?_⟩
   unfold wtQ
   rw [List.any_eq_true.2 ⟨x, h9, decide_eq_true h5⟩, decide_eq_false h8]; simp
  ·rintro ⟨e, h1, h2⟩
   have he := List.mem_range.1 h1
   unfold rgAt at h2
   rw [List.getElem?_eq_getElem he] at h2
   simp only [Bool.not_eq_true] at h2
   obtain ⟨k, h3, h4⟩ := List.all_eq_false.1 h2
   obtain ⟨i, h5⟩ := List.getElem?_of_mem h3
   rw [List.getElem?_drop] at h5
   have h4 : wtQ (rdQ n.eqs[e]) k = true := by simpa using h4
   unfold wtQ at h4
   rw [Bool.and_eq_true] at h4
   obtain ⟨x, h6, h7⟩ := List.any_eq_true.1 h4.2
   refine ⟨(e + i, e), (h _ _).2 ⟨he, n.eqs[e], x, List.getElem?_eq_getElem he, by simpa using h7, (List.getElem?_eq_some_iff.1 h5).1, k, h5, by simpa using h4.1, h6⟩, ?_⟩
   simp [bkE]
 cases hr : rgN n with
 | true =>
  cases ha : E.any bkE with
  | true => rw [key.1 ha] at hr; cases hr
  | false => rfl
 | false => rw [key.2 hr]; rfl
theorem kf11 (r : Nat) : Ob.keep 11 r = Ob.k11 r := by kernel_rfl
attribute [local simp] kf11 Ob.k11
set_option maxHeartbeats 8000000 in
theorem right11 (n : Nn) (hs : n.sz ≤ 4194304) (hb : n.eqs.length ≤ 402) : den Tryz.prog Ob.cfg 11 [aG n.cells] = some (dB (rgN n)) := by
 obtain ⟨q, hI1, hqv, hqn, ge, E, h3, h4, hE, hEl⟩ := begin27 n hs hb
 rw [← right_plain n E hE]
 have hI2 : closeT noLook q.v = none := by rw [hqv]; rfl
 have hI3 : shiftV 1 1 q.v = .ptr 4 4 0 := by rw [hqv]; rfl
 refine den_wp Tryz.func11 rfl (by kernel_rfl) rfl rfl ?_
 have hc := contains28 E (by unfold MX; omega)
 obtain ⟨b, hb2⟩ : ∃ b, E.any bkE = b := ⟨_, rfl⟩
 rw [hb2] at hc ⊢
 simp only [aG, Nn.cells, List.map_cons, List.map_nil] at hI1
 obtain ⟨W, hI4⟩ : ∃ W, shiftH 1 1 (wrOf q.hp.get (List.range q.n)) = W := ⟨_, rfl⟩
 have k3 : ∀ hp : Hp, (hp.sets W).get 4 = some ⟨4, false, bgO n ge E.length |>.map fun v => shiftV 1 1 v⟩ := fun hp => by
  rw [← hI4]; have := import_new (hp := hp) (n := 1) (c := 1) (show 3 < q.n by omega) h3; rw [this]; rfl
 have k4 : ∀ hp : Hp, (hp.sets W).get 5 = some ⟨ge + 1, false, fl (encEd E)⟩ := fun hp => by
  rw [← hI4]; have := import_new (hp := hp) (n := 1) (c := 1) (show 4 < q.n by omega) h4; rw [this]; unfold shO fl; simp only; rw [shift_ds]
 simp only [bgO, List.map_cons, List.map_nil, shiftV] at k3
 have e1 := fun (look : Look) (h : look 5 = some ⟨ge + 1, false, fl (encEd E)⟩) => (show toD look depthD (.osl 5 (ge + 1) 0 E.length 2 none) = some (.slice (encEd E), [5]) by have := toD_fl (cap := none) (encEd_row E) h; rwa [encEd_len] at this)
 simp only [dL, dB] at hc
 refine wkciv (jn @envOf.eq_1 (jn @envOf.eq_2 (jn @aG.eq_1 (jn @Nn.cells.eq_1 (jn @fillV.eq_1 @fillV.eq_2))))) ?_
 apply WP.gen3
 intro hp2 c2 wl2 hhp hwl
 have hw2 : wl2 = [] := hwl
 subst hw2
 have g4 := k3 [(0, ⟨0, false, [V.d (.str n.nm), V.d (.slice (encD n.inn)), V.d (.slice (encD n.out)), V.d (.slice (encD n.loc)), V.d (.slice (encN n.eqs))]⟩)]
 have g5 := k4 [(0, ⟨0, false, [V.d (.str n.nm), V.d (.slice (encD n.inn)), V.d (.slice (encD n.out)), V.d (.slice (encD n.loc)), V.d (.slice (encN n.eqs))]⟩)]
 rw [← hhp] at g4 g5
 clear hI1 hI2 hI3 hI4 k3 k4 hhp
 cases b with
 | true =>
  refine wkciv (jn @dI.eq_1 (jn @dL.eq_1 (jn @g4 (jn @g5 (jn @e1 @hc))))) ?_
  show retQ _ _ _ _ _
  exact ⟨.inr rfl, _, _, rfl, rfl⟩
 | false =>
  refine wkciv (jn @dI.eq_1 (jn @dL.eq_1 (jn @g4 (jn @g5 (jn @e1 @hc))))) ?_
  show retQ _ _ _ _ _
  exact ⟨.inr rfl, _, _, rfl, rfl⟩
theorem kf6 (r : Nat) : Ob.keep 6 r = Ob.k6 r := by kernel_rfl
attribute [local simp] kf6 Ob.k6
set_option maxHeartbeats 8000000 in
theorem class6 (n : Nn) (hs : n.sz ≤ 4194304) (hb : n.eqs.length + (dNm (vrN n)).length ≤ 402) : den Tryz.prog Ob.cfg 6 [aG n.cells] = some (.tuple [aG (clsA n (rgN n)).1.cells, dI (clsA n (rgN n)).2]) := by
 refine den_wp Tryz.func6 rfl (by kernel_rfl) rfl rfl ?_
 have hR := right11 n hs (by omega)
 have hF := form12 n hs
 simp only [aG, Nn.cells, List.map_cons, List.map_nil, dB, dI] at hR hF
 unfold clsA
 cases hr : rgN n with
 | false =>
  rw [hr] at hR
  rw [if_pos rfl]
  refine wkciv (jn @envOf.eq_1 (jn @envOf.eq_2 (jn @aG.eq_1 (jn @Nn.cells.eq_1 (jn @fillV.eq_1 (jn @fillV.eq_2 @hR)))))) ?_
  refine ⟨.inr rfl, [.agg zCl, .d (.int .i64 22)], [], ?_, close_tupC (close_zCl _)⟩
  show resultsV Tryz.prog _ [_, _] = _
  simp [resultsV, resultV, zCl]
 | true =>
 rw [hr] at hR
 rw [if_neg (by simp)]
 by_cases hw : n.eqs.any wrQ = true
 ·rw [if_pos hw] at hF ⊢
  refine wkciv (jn @envOf.eq_1 (jn @envOf.eq_2 (jn @aG.eq_1 (jn @Nn.cells.eq_1 (jn @fillV.eq_1 (jn @fillV.eq_2 (jn @hR @hF))))))) ?_
  refine ⟨.inr rfl, [.agg zCl, .d (.int .i64 5)], [], ?_, close_tupC (close_zCl _)⟩
  show resultsV Tryz.prog _ [_, _] = _
  simp [resultsV, resultV, zCl]
 ·rw [if_neg hw] at hF ⊢
  have hB := build13 n hs (fun q hq => okQ_of (by
   have : n.eqs.any wrQ = false := by simpa using hw
   have := List.any_eq_false.1 this q hq; simpa using this)) hb
  obtain ⟨C, hC⟩ : ∃ C, clN n = C := ⟨_, rfl⟩
  rw [hC] at hB ⊢
  simp only [aG, Nn.cells, Cl.cells, List.map_cons, List.map_nil] at hB
  refine wkciv (jn @envOf.eq_1 (jn @envOf.eq_2 (jn @aG.eq_1 (jn @Nn.cells.eq_1 (jn @fillV.eq_1 (jn @fillV.eq_2 (jn @hR (jn @hF @hB)))))))) ?_
  refine ⟨.inr rfl, [aG C.cells, dI 0], [], ?_, rfl⟩
  show resultsV Tryz.prog _ [_, _] = _
  simp [resultsV, resultV, aG, Cl.cells, dI]
theorem class7r (n : Nn) (hs : n.sz ≤ 4194304) (hb : n.eqs.length + (dNm (vrN n)).length ≤ 402) : den Tryz.prog Ob.cfg 7 [aG n.cells] = some (.tuple [aG (clsA n (rgN n)).1.cells, dI (clsA n (rgN n)).2]) := class7 n _ hs hb (right15 n hs)
end Go.Ac
end
