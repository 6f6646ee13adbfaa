/- slices.Concat of two lists of letters. -/
import Derived.Test.YtmjkclonkhempaaGreatDoorGdLM
set_option linter.unusedVariables false
set_option linter.unusedSimpArgs false
section
set_option maxRecDepth 4000
namespace Go.Ac
open Go.Proofs
attribute [local simp] Hp.get_set Ag_set Ag_refl Ag_trunc get_trunc_lt
/-- A new list of statements that lies in memory. -/
def NewL (n : Nat) (v : V) (L : List Y) (hp : Hp) (n' : Nat) : Prop := ∃ (id g : Nat) (cs : List V) (cap : Option Nat), v = .osl id g 0 L.length 12 cap ∧ hp.get id = some ⟨g, false, cs⟩ ∧ RowD cs (encY L) 12 ∧ n ≤ id ∧ id < n'
/-- The same, of a known capacity. -/
def NewC (n : Nat) (v : V) (L : List Y) (cap : Option Nat) (hp : Hp) (n' : Nat) : Prop := ∃ (id g : Nat) (cs : List V), v = .osl id g 0 L.length 12 cap ∧ hp.get id = some ⟨g, false, cs⟩ ∧ RowD cs (encY L) 12 ∧ n ≤ id ∧ id < n'
def cY (o : On) (L : List Y) : Y := .mk 3 o.nm o.t z0X [] [] ((List.range (brN o)).map fun i : Nat => if (i : Int) = o.tag then L else [])
theorem unY_cons (o : On) (r : List On) (l : List Y) : unY (o :: r) l = [cY o (unY r l)] := by rw [unY]; rfl
theorem kf80 (r : Nat) : Ob.keep 80 r = Ob.k80 r := by kernel_rfl
attribute [local simp] kf80 Ob.k80
set_option maxHeartbeats 8000000 in
theorem put80 {im gm it gt il gl ib gb : Nat} {n : Nn} {T : List (Tx × Bool)} {K : List (Tx × Int)} (o : On) (ho : okO o) (L : List Y) (hL : L.length ≤ 8388608) (va : V) (hp : Hp) (m c : Nat) (hK : MK im gm it gt il gl n T K hp m) (hib : hp.get ib = some ⟨gb, false, [.ptr im gm 0]⟩) (lb : ib < m) (hA : LArg hp m va L) :
  ThrX 80 [aG o.cells, va, .ptr ib gb 0] hp m c [] (fun v hp' n' => NewC m v [cY o L] (some 1) hp' n') := by
 have nb := nf lb
 refine thrX_wp Tryz.func80 rfl (by kernel_rfl) rfl ?_
 refine wkcektv (jn @envOf.eq_1 (jn @envOf.eq_2 (jn @aG.eq_1 (jn @On.cells.eq_1 (jn @fillV.eq_1 @fillV.eq_2))))) ?_
 apply WP.gen3
 intro hp1 c1 wl1 hhp hwl
 have hx0 : hp1.get m = some ⟨c, false, [.d (.str o.nm), .d (.int .i64 o.t), .d (.int .i64 o.tag)]⟩ := by rw [hhp]; simp
 have hxb : hp1.get ib = some ⟨gb, false, [.ptr im gm 0]⟩ := by rw [hhp]; simp [nb, hib]
 have hK1 : MK im gm it gt il gl n T K hp1 (m + 1) := ⟨by rw [hhp]; simp [nf hK.lm, hK.ob], by rw [hhp]; simp [nf hK.lt, hK.tk], by rw [hhp]; simp [nf hK.ll, hK.la], by have := hK.lm; omega, by have := hK.lt; omega, by have := hK.ll; omega⟩
 have hA1 : LArg hp1 (m + 1) va L := by
  rcases hA with h | ⟨id, g, ro, cs, cap, h0, h1, h2, h3⟩
  ·exact .inl h
  ·exact .inr ⟨id, g, ro, cs, cap, h0, by rw [hhp]; simp [nf h3, h1], h2, by omega⟩
 have hwi : WI [] m hp wl1 hp1 := by rw [hhp, hwl]; exact WI.refl.set (.inr (Nat.le_refl m))
 clear hhp hwl
 obtain ⟨h', c', hq⟩ := QuietV.fn fun c => branches81 o ho L hL va hp1 (m + 1) c hK1 hA1
 simp only [dI, dL] at hq
 have hob1 := hK1.ob
 repeat (first
 | apply WP.seq
 | (apply WP.reg; (case hR => dsimp only [prepL, prepO, List.map, gS, gZ]; exact iZ); (case hr => (repeat (first
 | (apply RT.op; simp [-addNew, hx0, hxb, hob1, fillV, closeParts, cl2, toD_d, toD_full, hq, dI]; exact iZ; (try dsimp only [putEnv]) <;> exact rfl)
 | (apply RT.call; (iterate 2 simp; exact iZ); exact iZ; (iterate 4 simp [-addNew, hx0, hxb, hob1, fillV, closeParts, cl2, toD_d, toD_full, hq, dI]; exact iZ); simp [Is]; (try dsimp only [putEnv]) <;> exact rfl; simp; exact iZ; exact iZ)
 | (apply RT.callV; (iterate 2 simp; exact iZ); exact iZ; (iterate 3 simp [-addNew, hx0, hxb, hob1, fillV, closeParts, cl2, toD_d, toD_full, hq, dI]; exact iZ); (try dsimp only [putEnv]) <;> exact rfl)
 | (apply RT.callT (hd := hT1) (hk := hT2); (iterate 2 simp; exact iZ); exact iZ; (iterate 2 simp [-addNew, hx0, hxb, hob1, fillV, closeParts, cl2, toD_d, toD_full, hq, dI]; exact iZ); (try dsimp only [putEnv]) <;> exact rfl)
 | (apply RT.wr; simp [-addNew, hx0, hxb, hob1, fillV, closeParts, cl2, toD_d, toD_full, hq, dI]; exact iZ; (try dsimp only [putEnv]) <;> exact rfl; simp [-addNew, hx0, hxb, hob1, fillV, closeParts, cl2, toD_d, toD_full, hq, dI]; exact iZ; (iterate 2 exact iZ); exact iZ))); exact RT.nil); (case hc => first | (refine checkR_un [(0, 2), (1, 2), (0, 3), (1, 3), (0, 4), (1, 4), (2, 4), (3, 4), (0, 5), (1, 5), (2, 5), (3, 5), (4, 5), (0, 6), (1, 6), (2, 6), (3, 6), (4, 6), (0, 7), (1, 7), (2, 7), (3, 7), (4, 7), (5, 7), (6, 7), (0, 8), (1, 8), (2, 8), (3, 8), (4, 8), (5, 8), (6, 8), (0, 9), (1, 9), (2, 9), (3, 9), (4, 9), (5, 9), (6, 9), (7, 9), (8, 9), (0, 10), (1, 10), (2, 10), (3, 10)] (by kernel_rfl) (by kernel_rfl) rfl ?_; simp [memA, disj, nbeq_dec]; done) | (show _ = _; kernel_rfl)); (case ht => simp [-addNew, hx0, hxb, hob1, fillV, closeParts, cl2, toD_d, toD_full, hq, dI]; exact iZ))
 | apply WP.block | apply WP.skip | apply WP.exit | apply WP.ret | refine WP.condT rfl ?_ | refine WP.condF rfl ?_)
 refine ⟨.inr rfl, _, rfl, by show m ≤ m + 2; omega, WI.set hwi (.inr (by omega)), m + 1, _, _, rfl, by simp; rfl, ⟨?_, encY_row _⟩, by omega, by show m + 1 < m + 2; omega⟩
 rw [encY_map]
 show VD _ ((cY o L).cells ++ [])
 rw [List.append_nil]
 have e : (cY o L).cells = [.int .i64 3, .str o.nm, .int .i64 o.t, .int .i64 0, .int .i64 0, .int .i64 0, .int .i64 0, .str [], .slice [], .slice [], .slice [], .slice (encB ((List.range (brN o)).map fun i : Nat => if (i : Int) = o.tag then L else []))] := by simp [cY, Y.cells, X.cells, z0X, encX_map, encS]
 rw [e]
 repeat constructor
theorem MK.mono {im gm it gt il gl : Nat} {n : Nn} {T : List (Tx × Bool)} {K : List (Tx × Int)} {hp hp' : Hp} {m m' : Nat} (h : MK im gm it gt il gl n T K hp m) (hf : ∀ j, j < m → hp'.get j = hp.get j) (hm : m ≤ m') : MK im gm it gt il gl n T K hp' m' :=
 ⟨(hf _ h.lm).trans h.ob, (hf _ h.lt).trans h.tk, (hf _ h.ll).trans h.la, by have := h.lm; omega, by have := h.lt; omega, by have := h.ll; omega⟩
theorem LArg.mono {hp hp' : Hp} {m m' : Nat} {va : V} {L : List Y} (h : LArg hp m va L) (hf : ∀ j, j < m → hp'.get j = hp.get j) (hm : m ≤ m') : LArg hp' m' va L := by
 rcases h with h | ⟨id, g, ro, cs, cap, h0, h1, h2, h3⟩
 ·exact .inl h
 ·exact .inr ⟨id, g, ro, cs, cap, h0, (hf _ h3).trans h1, h2, by omega⟩
theorem NewL.arg {m m' n : Nat} {hp : Hp} {v : V} {L : List Y} (h : NewL m v L hp n) (hn : n ≤ m') : LArg hp m' v L := by
 obtain ⟨id, g, cs, cap, h0, h1, h2, h3, h4⟩ := h
 exact .inr ⟨id, g, false, cs, cap, h0, h1, h2, by omega⟩
theorem unY_len (L : List Y) : ∀ ck : List On, (unY ck L).length ≤ L.length + 1
 | [] => by rw [unY]; omega
 | o :: r => by rw [unY]; simp
theorem drop_at1 {α : Type} {l : List α} {i : Nat} {x : α} (h : l[i]? = some x) : l.drop i = x :: l.drop (i + 1) := by
 obtain ⟨h1, h2⟩ := List.getElem?_eq_some_iff.1 h
 rw [List.drop_eq_getElem_cons h1, h2]
theorem kf59 (r : Nat) : Ob.keep 59 r = Ob.k59 r := by kernel_rfl
attribute [local simp] kf59 Ob.k59
set_option maxHeartbeats 8000000 in
theorem under59 {im gm it gt il gl : Nat} {n : Nn} {T : List (Tx × Bool)} {K : List (Tx × Int)} (ck : List On) (hck : ∀ o ∈ ck, okO o) (hcl : ck.length ≤ 8388608) (L : List Y) (hL : L.length ≤ 8388607) (va : V) (hp : Hp) (m c : Nat) (hK : MK im gm it gt il gl n T K hp m) (hA : LArg hp m va L) :
  ThrX 59 [.ptr im gm 0, dL (encO ck), va] hp m c [] (fun v hp' n' => (v = va ∧ ck = []) ∨ NewL m v (unY ck L) hp' n') := by
 refine thrX_wp Tryz.func59 rfl (by kernel_rfl) rfl ?_
 have hw1 : IntKind.i64.wrap ((ck.length : Int) - 1) = (ck.length : Int) - 1 := by rw [w_id] <;> omega
 refine wkcektv (jn @envOf.eq_1 (jn @envOf.eq_2 (jn @dL.eq_1 (jn @fillV.eq_1 (jn @fillV.eq_2 (jn @encO_len @hw1)))))) ?_
 apply WP.gen3
 intro hp1 c1 wl1 hhp hwl
 have hxb : hp1.get m = some ⟨c, false, [.ptr im gm 0]⟩ := by rw [hhp]; simp
 have hfr : ∀ j, j < m → hp1.get j = hp.get j := fun j hj => by rw [hhp]; simp [show (m = j) = False from eq_false (by omega)]
 have hwi : WI [] m hp wl1 hp1 := by rw [hhp, hwl]; exact WI.refl.set (.inr (Nat.le_refl m))
 have hK := hK.mono hfr (Nat.le_succ m)
 have hA := hA.mono hfr (Nat.le_succ m)
 clear hhp hwl hfr
 apply WP.loop' (I := fun D s => ∃ (n' c' : Nat) (wl : List Nat) (hp' : Hp) (vl : V), D ≤ ck.length ∧ m + 1 ≤ n' ∧ MK im gm it gt il gl n T K hp' n' ∧ hp'.get m = some ⟨c, false, [.ptr im gm 0]⟩ ∧ LArg hp' n' vl (unY (ck.drop D) L) ∧ ((vl = va ∧ D = ck.length) ∨ NewL m vl (unY (ck.drop D) L) hp' n') ∧ WI [] m hp wl hp' ∧
  s = ⟨[(1, dL (encO ck)), (2, vl), (7, .fn 80 [.ptr m c 0]), (8, dI ((D : Int) - 1))], hp', n', c', m, wl⟩) (d := ck.length)
 ·exact ⟨_, _, _, _, va, Nat.le_refl _, Nat.le_refl _, hK, hxb, by rw [List.drop_length, unY]; exact hA, .inl ⟨rfl, rfl⟩, hwi, st_eq (by simp [dI, dL]) rfl⟩
 clear hK hA hxb hwi
 rintro D _ ⟨n', c', wl, hp', vl, hD, hn', hK, hxb, hA, hV, hwi, rfl⟩
 refine wkektv (jn @dI.eq_1 @dL.eq_1) ?_
 show WP _ _ _ _ _ _
 refine WP.cond _ rfl (fun hb => ?_) (fun hb => ?_)
 ·simp at hb
  obtain ⟨i, rfl⟩ : ∃ i, D = i + 1 := ⟨D - 1, by omega⟩
  obtain ⟨o, ho, hom, hix⟩ := at_lt (show i < ck.length by omega)
  have ho' := encO_at ho
  have hdc : ((i + 1 : Nat) : Int) - 1 = (i : Int) := by omega
  have hw2 : IntKind.i64.wrap ((i : Int) - 1) = (i : Int) - 1 := by rw [w_id] <;> omega
  have hul := unY_len L (ck.drop (i + 1))
  obtain ⟨q, hT1, hqn, hT2, hki, hfr, hpz, ⟨id2, g2, cs2, hqv, hq2, hqr, hq3, hq4⟩, hsame⟩ := (put80 o (hck o hom) (unY (ck.drop (i + 1)) L) (by omega) vl hp' n' c' hK hxb (by omega) hA).caller (by simp)
  have hfr' : ∀ j, j < n' → (hp'.sets (tWr q n')).get j = hp'.get j := fun j hj => hfr j hj (by simp)
  have hN : n' + (q.n - n') = q.n := by omega
  have hdr : unY (ck.drop i) L = [cY o (unY (ck.drop (i + 1)) L)] := by rw [drop_at1 ho, unY_cons]
  have hnew : NewL m q.v (unY (ck.drop i) L) (hp'.sets (tWr q n')) q.n := by
   rw [hdr]
   exact ⟨id2, g2, cs2, _, hqv, by rw [hsame id2 hq4 (by rw [hq2]; rfl)]; exact hq2, hqr, by omega, hq4⟩
  simp only [aG, On.cells, List.map_cons, List.map_nil] at hT1
  repeat (first
 | apply WP.seq
 | (apply WP.reg; (case hR => dsimp only [prepL, prepO, List.map, gS, gZ]; exact iZ); (case hr => (repeat (first
 | (apply RT.op; simp [-addNew, dI, dL, hdc, hix, ho', On.cells]; exact iZ; (try dsimp only [putEnv]) <;> exact rfl)
 | (apply RT.call; (iterate 2 simp; exact iZ); exact iZ; (iterate 4 simp [-addNew, dI, dL, hdc, hix, ho', On.cells]; exact iZ); simp [Is]; (try dsimp only [putEnv]) <;> exact rfl; simp; exact iZ; exact iZ)
 | (apply RT.callV; (iterate 2 simp; exact iZ); exact iZ; (iterate 3 simp [-addNew, dI, dL, hdc, hix, ho', On.cells]; exact iZ); (try dsimp only [putEnv]) <;> exact rfl)
 | (apply RT.callT (hd := hT1) (hk := hT2); (iterate 2 simp; exact iZ); exact iZ; (iterate 2 simp [-addNew, dI, dL, hdc, hix, ho', On.cells]; exact iZ); (try dsimp only [putEnv]) <;> exact rfl)
 | (apply RT.wr; simp [-addNew, dI, dL, hdc, hix, ho', On.cells]; exact iZ; (try dsimp only [putEnv]) <;> exact rfl; simp [-addNew, dI, dL, hdc, hix, ho', On.cells]; exact iZ; (iterate 2 exact iZ); exact iZ))); exact RT.nil); (case hc => first | (refine checkR_un [(0, 1), (0, 2), (1, 2), (0, 3), (0, 4), (0, 5), (1, 5), (2, 5), (3, 5), (4, 5)] (by kernel_rfl) (by kernel_rfl) rfl ?_; simp [memA, disj, nbeq_dec]; done) | (show _ = _; kernel_rfl)); (case ht => simp [-addNew, dI, dL, hdc, hix, ho', On.cells]; exact iZ))
 | apply WP.block | apply WP.skip | apply WP.exit | apply WP.ret | refine WP.condT rfl ?_ | refine WP.condF rfl ?_)
  refine loop_next (by simp [-addNew, hw2]; exact Is.rfl) ?_
  exact ⟨i, by omega, _, _, _, _, q.v, by omega, by show m + 1 ≤ n' + (q.n - n'); omega, hK.mono hfr' (by omega), (hfr' m (by omega)).trans hxb, by rw [hN]; exact hnew.arg (Nat.le_refl _), .inr (by rw [hN]; exact hnew), hwi.sets fun z hz => (by
   rcases hki z.1 (List.mem_map.2 ⟨z, hz, rfl⟩) with h | h
   ·exact .inl h
   ·exact .inr (by omega)), st_eq (by simp [dI, dL, hw2]) rfl⟩
 ·simp at hb
  obtain rfl : D = 0 := by omega
  rw [List.drop_zero] at hV
  refine wkcektv (jn @dI.eq_1 @dL.eq_1) ?_
  refine ⟨.inr rfl, _, rfl, by show m ≤ n'; omega, hwi, ?_⟩
  rcases hV with ⟨h1, h2⟩ | h
  ·exact .inl ⟨h1, List.length_eq_zero_iff.1 h2.symm⟩
  ·exact .inr h
end Go.Ac
end

section
set_option maxRecDepth 4000
namespace Go.Ac
open Go.Proofs
attribute [local simp] Hp.get_set get_trunc_lt
def encT (l : List Bool) : List (List D) := l.map fun b => [.bool b]
theorem encT_len (l : List Bool) : (encT l).length = l.length := by simp [encT]
theorem encT_at {l : List Bool} {i : Nat} {b : Bool} (h : l[i]? = some b) : (encT l)[i]? = some [.bool b] := by unfold encT; simp [h]
theorem encT_row (l : List Bool) : ∀ r ∈ encT l, r.length = 1 := by unfold encT; intro r hr; obtain ⟨x, _, rfl⟩ := List.mem_map.1 hr; rfl
attribute [simp] encT_len
def hdB (s : List Bool) : Bool := match s with | [] => false | b :: _ => b
def xBl (b : Bool) : X := .mk 1 0 1 (if b = true then 1 else 0) [] []
/-- The expression of some letters. -/
def ltX (c : Tx) : Nat → Nat → List Bool → X
 | 0, _, _ => .mk 0 0 0 0 [] []
 | N + 1, lo, s => if s.all (fun b => decide (b = hdB s)) = true then xBl (hdB s)
  else xIf (xOp 13 (xSt c) (xNum ((lo + s.length / 2 : Nat) : Int))) (ltX c N lo (s.take (s.length / 2))) (ltX c N (lo + s.length / 2) (s.drop (s.length / 2)))
theorem bool_beq (a b : Bool) : (a == b) = decide (a = b) := by cases a <;> cases b <;> rfl
theorem kf67 (r : Nat) : Ob.keep 67 r = Ob.k67 r := by kernel_rfl
attribute [local simp] kf67 Ob.k67
set_option maxHeartbeats 8000000 in
theorem letters67 (c : Tx) (l : List Bool) (hl : l.length ≤ 8388608) : ∀ (N lo hi : Nat), lo < hi → hi ≤ l.length → hi - lo ≤ N → den Tryz.prog Ob.cfg 67 [dL (encT l), dI lo, dI hi, dS c] = some (aG (ltX c N lo ((l.drop lo).take (hi - lo))).cells)
 | 0, lo, hi, h1, h2, h3 => by omega
 | N + 1, lo, hi, h1, h2, h3 => by
  obtain ⟨a, ha, ham, hia⟩ := at_lt (show lo < l.length by omega)
  have ha' := encT_at ha
  obtain ⟨s, hs⟩ : ∃ s, (l.drop lo).take (hi - lo) = s := ⟨_, rfl⟩
  have hsl : s.length = hi - lo := by rw [← hs, List.length_take, List.length_drop]; omega
  have hhd : hdB s = a := by
   rw [← hs, List.drop_eq_getElem_cons (by omega : lo < l.length), show hi - lo = (hi - lo - 1) + 1 by omega, List.take_succ_cons]
   have := (List.getElem?_eq_some_iff.1 ha).2
   rw [this]; rfl
  rw [hs]
  refine den_wp Tryz.func67 rfl (by kernel_rfl) rfl (by rw [X.cells_eq]; rfl) ?_
  refine wkc (jn @envOf.eq_1 (jn @envOf.eq_2 (jn @dI.eq_1 (jn @dL.eq_1 (jn @dS.eq_1 (jn @fillV.eq_1 @fillV.eq_2)))))) ?_
  apply WP.loop' (I := fun D s' => ∃ (j c' : Nat) (hp' : Hp), j + D = s.length ∧ hp'.get 0 = some ⟨0, false, [.d (.int .i64 0), .d (.int .i64 0), .d (.int .i64 0), .d (.int .i64 0), .d (.str []), .full []]⟩ ∧
   s' = ⟨[(0, dL (encT l)), (1, dI lo), (2, dI hi), (3, dS c), (8, .ptr 0 0 0), (9, dB ((s.take j).all fun b => decide (b = a))), (10, dI ((lo + j : Nat) : Int))], hp', 1, c', 0, []⟩) (d := s.length)
  ·exact ⟨0, _, _, by simp, by simp, st_eq (by simp [dI, dL, dS, dB]) rfl⟩
  rintro D _ ⟨j, c', hp', hj, h0, rfl⟩
  refine wk (jn @dI.eq_1 (jn @dL.eq_1 (jn @dS.eq_1 @dB.eq_1))) ?_
  show WP _ _ _ _ _ _
  refine WP.cond _ rfl (fun hb => ?_) (fun hb => ?_)
  ·simp at hb
   have hjs : j < s.length := by omega
   obtain ⟨y, hy, hym, hiy⟩ := at_lt (show lo + j < l.length by omega)
   have hy' := encT_at hy
   have hsy : s[j]? = some y := by rw [← hs, List.getElem?_take_of_lt (by omega), List.getElem?_drop]; exact hy
   have hall := all_snoc (p := fun b : Bool => decide (b = a)) hsy
   have hw : IntKind.i64.wrap ((lo : Int) + (j : Int) + 1) = (lo : Int) + (j : Int) + 1 := by rw [w_id] <;> omega
   rw [show ((lo + j : Nat) : Int) = (lo : Int) + (j : Int) by omega] at hiy
   cases hp : (s.take j).all fun b => decide (b = a) with
   | false =>
    refine wkc (jn @dI.eq_1 (jn @dL.eq_1 (jn @dS.eq_1 @dB.eq_1))) ?_
    refine loop_next (by simp [hw]; exact Is.rfl) ?_
    exact ⟨D - 1, by omega, j + 1, _, _, by omega, by simp [h0], st_eq (by simp [dI, dL, dS, dB, hw, hall, hp]; omega) rfl⟩
   | true =>
    refine wkc (jn @dI.eq_1 (jn @dL.eq_1 (jn @dS.eq_1 (jn @dB.eq_1 (jn @hiy (jn @hia (jn @hy' (jn @ha' @bool_beq)))))))) ?_
    refine loop_next (by simp [hw]; exact Is.rfl) ?_
    exact ⟨D - 1, by omega, j + 1, _, _, by omega, by simp [h0], st_eq (by simp [dI, dL, dS, dB, hw, hall, hp]; omega) rfl⟩
  ·simp at hb
   have hje : j = s.length := by omega
   rw [hje, List.take_length]
   rw [ltX, hhd]
   cases hp : s.all fun b => decide (b = a) with
   | true =>
    rw [if_pos rfl]
    cases a with
    | true =>
     refine wkc (jn @dI.eq_1 (jn @dL.eq_1 (jn @dS.eq_1 (jn @dB.eq_1 (jn @hia (jn @ha' (jn @h0 (jn @fillV.eq_1 @fillV.eq_2)))))))) ?_
     refine ⟨.inr rfl, [.agg [.d (.int .i64 1), .d (.int .i64 0), .d (.int .i64 1), .d (.int .i64 1), .d (.str []), .full []]], [], ?_, rfl⟩
     show resultsV Tryz.prog _ [_] = _
     simp [resultsV, resultV]
    | false =>
     refine wkc (jn @dI.eq_1 (jn @dL.eq_1 (jn @dS.eq_1 (jn @dB.eq_1 (jn @hia (jn @ha' (jn @h0 (jn @fillV.eq_1 @fillV.eq_2)))))))) ?_
     refine ⟨.inr rfl, [.agg [.d (.int .i64 1), .d (.int .i64 0), .d (.int .i64 1), .d (.int .i64 0), .d (.str []), .full []]], [], ?_, rfl⟩
     show resultsV Tryz.prog _ [_] = _
     simp [resultsV, resultV]
   | false =>
    rw [if_neg (by simp)]
    have hs2 : 2 ≤ s.length := by
     cases s with
     | nil => simp at hsl; omega
     | cons x r =>
      cases r with
      | nil => simp [hdB] at hhd; simp [hhd] at hp
      | cons y z => simp
    obtain ⟨k, hk⟩ : ∃ k, k = s.length / 2 := ⟨_, rfl⟩
    have hw1 : IntKind.i64.wrap ((hi : Int) - (lo : Int)) = (s.length : Int) := by rw [w_id] <;> omega
    have hq : IntKind.i64.wrap ((s.length : Int) / 2) = (k : Int) := by
     rw [hk, w_id] <;> omega
    have hw2 : IntKind.i64.wrap ((lo : Int) + (k : Int)) = (lo : Int) + (k : Int) := by rw [w_id] <;> omega
    have e1 : s.take k = (l.drop lo).take (lo + k - lo) := by rw [← hs, List.take_take, show min k (hi - lo) = lo + k - lo by omega]
    have e2 : s.drop k = (l.drop (lo + k)).take (hi - (lo + k)) := by rw [← hs, List.drop_take, List.drop_drop, show hi - lo - k = hi - (lo + k) by omega]
    have i1 := letters67 c l hl N lo (lo + k) (by omega) (by omega) (by omega)
    have i2 := letters67 c l hl N (lo + k) hi (by omega) (by omega) (by omega)
    rw [← e1] at i1
    rw [← e2] at i2
    rw [← hk]
    obtain ⟨u, hu⟩ : ∃ u, u = ltX c N lo (s.take k) := ⟨_, rfl⟩
    obtain ⟨v, hv⟩ : ∃ v, v = ltX c N (lo + k) (s.drop k) := ⟨_, rfl⟩
    obtain ⟨w, hwx⟩ : ∃ w, w = xOp 13 (xSt c) (xNum ((lo + k : Nat) : Int)) := ⟨_, rfl⟩
    have d1 := mem21 c
    have d2 := num66 ((lo + k : Nat) : Int)
    have d3 := op65 13 (xSt c) (xNum ((lo + k : Nat) : Int))
    rw [← hu] at i1 ⊢
    rw [← hv] at i2 ⊢
    rw [← hwx] at d3 ⊢
    rw [xIf_eq]
    simp only [dI, dS, dL, aG, X.cells_eq, List.map_cons, List.map_nil, Int.natCast_add] at i1 i2 d1 d2 d3
    refine wkc (jn @dI.eq_1 (jn @dL.eq_1 (jn @dS.eq_1 (jn @dB.eq_1 (jn @hw1 (jn @hq (jn @hw2 (jn @d1 (jn @d2 (jn @d3 (jn @i1 (jn @i2 (jn @h0 (jn @fillV.eq_1 (jn @fillV.eq_2 (jn @closeParts.eq_1 (jn @closeParts.eq_2 (jn @cl2.eq_def (jn @toD_dep (jn @toD_d (jn @toDs.eq_1 (jn @toDs.eq_2 (jn @chunk.eq_1 @chunk.eq_2))))))))))))))))))))))) ?_
    refine ⟨.inr rfl, [.agg [.d (.int .i64 4), .d (.int .i64 0), .d (.int .i64 0), .d (.int .i64 0), .d (.str []), .osl 1 c' 0 3 6 (some 3)]], [1], ?_, close_agg6 (toD_fl (l := [[.int .i64 w.k, .int .i64 w.o, .int .i64 w.t, .int .i64 w.v, .str w.nm, .slice (encX w.args)], [.int .i64 u.k, .int .i64 u.o, .int .i64 u.t, .int .i64 u.v, .str u.nm, .slice (encX u.args)], [.int .i64 v.k, .int .i64 v.o, .int .i64 v.t, .int .i64 v.v, .str v.nm, .slice (encX v.args)]]) (ro := false) ?_ ?_)⟩
    ·show resultsV Tryz.prog _ [_] = _
     simp [resultsV, resultV]
    ·intro r hr
     simp only [List.mem_cons, List.not_mem_nil, or_false] at hr
     rcases hr with rfl | rfl | rfl <;> rfl
    ·simp; rfl
theorem kf96 (r : Nat) : Ob.keep 96 r = Ob.k96 r := by kernel_rfl
theorem kf88 (r : Nat) : Ob.keep 88 r = Ob.k88 r := by kernel_rfl
attribute [local simp] kf96 Ob.k96 kf88 Ob.k88
theorem index96 (l : List Bool) (x : Bool) (hl : l.length ≤ MX) : den Tryz.prog Ob.cfg 96 [dL (encT l), dB x] = some (dI (ixP (fun y => decide (y = x)) l)) := by
 unfold MX at hl
 refine den_wp Tryz.func96 rfl (by kernel_rfl) rfl rfl ?_
 refine wkc (jn @envOf.eq_1 (jn @envOf.eq_2 (jn @dL.eq_1 @dB.eq_1))) ?_
 apply WP.loop' (I := fun D s => ∃ i : Nat, i + D = l.length ∧ (l.take i).all (fun y => !decide (y = x)) = true ∧ SE [(0, dL (encT l)), (1, dB x), (7, dI l.length), (8, dI i)] [] 0 s) (d := l.length)
 ·exact ⟨0, by simp, by simp, SE.mk (by simp [dL, dI, dB]) rfl⟩
 rintro D _ ⟨i, hi, hno, cc, rfl⟩
 refine wk (jn @dI.eq_1 (jn @dL.eq_1 @dB.eq_1)) ?_
 show WP _ _ _ _ _ _
 refine WP.cond _ rfl (fun hb => ?_) (fun hb => ?_)
 ·simp at hb
  have hb' : i < l.length := by omega
  obtain ⟨y, hy, hym, hix⟩ := at_lt hb'
  have hy' := encT_at hy
  have hw := w_succ hb' (by omega)
  have hs := all_snoc (p := fun y => !decide (y = x)) hy
  by_cases hq : y = x
  ·have hq' := eq_true hq.symm
   rw [ixP_some hno hy (decide_eq_true hq)]
   refine wkc (jn @dI.eq_1 (jn @dL.eq_1 (jn @dB.eq_1 (jn @hix (jn @hy' (jn @bool_beq @hq')))))) ?_
   show retQ _ _ _ _ _
   exact ⟨.inr rfl, _, _, rfl, rfl⟩
  ·have hq' := eq_false (fun e => hq (Eq.symm e))
   refine wkc (jn @dI.eq_1 (jn @dL.eq_1 (jn @dB.eq_1 (jn @hix (jn @hy' (jn @bool_beq @hq')))))) ?_
   refine loop_next (by simp [hw]; exact Is.rfl) ?_
   exact ⟨D - 1, by omega, i + 1, by omega, by rw [hs, hno, decide_eq_false hq]; rfl, SE.mk (by simp [dI, dL, dB, hw]) rfl⟩
 ·simp at hb
  have hie : i = l.length := by omega
  rw [hie, List.take_length] at hno
  rw [ixP_none hno]
  refine wkc (jn @dI.eq_1 (jn @dL.eq_1 @dB.eq_1)) ?_
  show retQ _ _ _ _ _
  exact ⟨.inr rfl, _, _, rfl, rfl⟩
theorem contains88 (l : List Bool) (x : Bool) (hl : l.length ≤ MX) : den Tryz.prog Ob.cfg 88 [dL (encT l), dB x] = some (dB (l.any fun y => decide (y = x))) := by
 have h := index96 l x hl
 simp only [dL, dB, dI] at h
 rw [← ixP_any]
 refine den_wp Tryz.func88 rfl (by kernel_rfl) rfl rfl ?_
 refine wkc (jn @envOf.eq_1 (jn @envOf.eq_2 (jn @dL.eq_1 (jn @dB.eq_1 @h)))) ?_
 show retQ _ _ _ _ _
 exact ⟨.inr rfl, _, _, rfl, rfl⟩
theorem slice_mid (look : Look) (e b : Nat) (z : Option (List V)) {sz : Nat} {rows : List (List D)} (hr : ∀ r ∈ rows, r.length = sz) {lo hi : Nat} (h1 : lo ≤ hi) (h2 : hi ≤ rows.length) :
  sliceV look ⟨.slice e sz b, 1, 24, z⟩ (.d (.slice rows)) (some (.d (.int .i64 lo))) (some (.d (.int .i64 hi))) none = ret (.d (.slice ((rows.take hi).drop lo))) := by
 have ha : rows.all (fun r => Nat.beq r.length sz) = true := by rw [List.all_eq_true]; intro r hm; rw [hr r hm]; exact nbeq_self sz
 have e1 : bnd (some (V.d (.int .i64 (lo : Int)))) 0 = some lo := by unfold bnd; simp
 have e2 : bnd (some (V.d (.int .i64 (hi : Int)))) rows.length = some hi := by unfold bnd; simp
 unfold sliceV
 simp only [e1, e2, ha]
 rw [if_pos ⟨h1, h2, trivial⟩]
end Go.Ac
end

section
set_option maxRecDepth 4000
namespace Go.Ac
open Go.Proofs
attribute [local simp] Hp.get_set get_trunc_lt
theorem kf79 (r : Nat) : Ob.keep 79 r = Ob.k79 r := by kernel_rfl
attribute [local simp] kf79 Ob.k79
set_option maxHeartbeats 8000000 in
theorem letter79 (c : Tx) (l : List Bool) (hl : l.length ≤ 8388608) : ∀ (N lo hi : Nat), lo < hi → hi ≤ l.length → hi - lo ≤ N → den Tryz.prog Ob.cfg 79 [dL (encT l), dS c, dI lo, dI hi] = some (aG (ltX c N lo ((l.drop lo).take (hi - lo))).cells)
 | 0, lo, hi, h1, h2, h3 => by omega
 | N + 1, lo, hi, h1, h2, h3 => by
  obtain ⟨a, ha, ham, hia⟩ := at_lt (show lo < l.length by omega)
  have ha' := encT_at ha
  obtain ⟨s, hs⟩ : ∃ s, (l.drop lo).take (hi - lo) = s := ⟨_, rfl⟩
  have hsl : s.length = hi - lo := by rw [← hs, List.length_take, List.length_drop]; omega
  have hhd : hdB s = a := by
   rw [← hs, List.drop_eq_getElem_cons (by omega : lo < l.length), show hi - lo = (hi - lo - 1) + 1 by omega, List.take_succ_cons]
   have := (List.getElem?_eq_some_iff.1 ha).2
   rw [this]; rfl
  rw [hs]
  refine den_wp Tryz.func79 rfl (by kernel_rfl) rfl (by rw [X.cells_eq]; rfl) ?_
  have hcon := contains88 s (!a) (by unfold MX; omega)
  have hall : (s.any fun y => decide (y = !a)) = !(s.all fun b => decide (b = a)) := by
   rw [List.any_eq_not_all_not]; congr 1; congr 1; funext y; cases y <;> cases a <;> rfl
  have hsli : (encT s) = ((encT l).take hi).drop lo := by rw [← hs]; unfold encT; rw [List.map_take, List.map_drop, List.drop_take]
  have hsl2 := fun look e b z => slice_mid look e b z (encT_row l) (lo := lo) (hi := hi) (by omega) (by rw [encT_len]; omega)
  rw [hall] at hcon
  simp only [dL, dB] at hcon
  rw [← hsli] at hsl2
  rw [ltX, hhd]
  cases hp : s.all fun b => decide (b = a) with
  | true =>
   rw [hp] at hcon
   rw [if_pos rfl]
   cases a with
   | true =>
    simp only [Bool.not_true, Bool.not_false] at hcon
    refine wkc (jn @envOf.eq_1 (jn @envOf.eq_2 (jn @dI.eq_1 (jn @dL.eq_1 (jn @dS.eq_1 (jn @dB.eq_1 (jn @hia (jn @ha' (jn @fillV.eq_1 (jn @fillV.eq_2 (jn @hsl2 @hcon))))))))))) ?_
    show retQ _ _ _ _ _
    exact ⟨.inr rfl, _, _, rfl, rfl⟩
   | false =>
    simp only [Bool.not_true, Bool.not_false] at hcon
    refine wkc (jn @envOf.eq_1 (jn @envOf.eq_2 (jn @dI.eq_1 (jn @dL.eq_1 (jn @dS.eq_1 (jn @dB.eq_1 (jn @hia (jn @ha' (jn @fillV.eq_1 (jn @fillV.eq_2 (jn @hsl2 @hcon))))))))))) ?_
    show retQ _ _ _ _ _
    exact ⟨.inr rfl, _, _, rfl, rfl⟩
  | false =>
   rw [hp] at hcon
   rw [if_neg (by simp)]
   have hs2 : 2 ≤ s.length := by
    cases s with
    | nil => simp at hsl; omega
    | cons x r =>
     cases r with
     | nil => simp [hdB] at hhd; simp [hhd] at hp
     | cons y z => simp
   obtain ⟨k, hk⟩ : ∃ k, k = s.length / 2 := ⟨_, rfl⟩
   have hw1 : IntKind.i64.wrap ((hi : Int) - (lo : Int)) = (s.length : Int) := by rw [w_id] <;> omega
   have hq : IntKind.i64.wrap ((s.length : Int) / 2) = (k : Int) := by
    rw [hk, w_id] <;> omega
   have hw2 : IntKind.i64.wrap ((lo : Int) + (k : Int)) = (lo : Int) + (k : Int) := by rw [w_id] <;> omega
   have e1 : s.take k = (l.drop lo).take (lo + k - lo) := by rw [← hs, List.take_take, show min k (hi - lo) = lo + k - lo by omega]
   have e2 : s.drop k = (l.drop (lo + k)).take (hi - (lo + k)) := by rw [← hs, List.drop_take, List.drop_drop, show hi - lo - k = hi - (lo + k) by omega]
   have i1 := letter79 c l hl N lo (lo + k) (by omega) (by omega) (by omega)
   have i2 := letter79 c l hl N (lo + k) hi (by omega) (by omega) (by omega)
   rw [← e1] at i1
   rw [← e2] at i2
   rw [← hk]
   obtain ⟨u, hu⟩ : ∃ u, u = ltX c N lo (s.take k) := ⟨_, rfl⟩
   obtain ⟨v, hv⟩ : ∃ v, v = ltX c N (lo + k) (s.drop k) := ⟨_, rfl⟩
   obtain ⟨w, hwx⟩ : ∃ w, w = xOp 13 (xSt c) (xNum ((lo + k : Nat) : Int)) := ⟨_, rfl⟩
   have d1 := state55 c
   have d2 := num78 ((lo + k : Nat) : Int)
   have d3 := op77 13 (xSt c) (xNum ((lo + k : Nat) : Int))
   rw [← hu] at i1 ⊢
   rw [← hv] at i2 ⊢
   rw [← hwx] at d3 ⊢
   rw [xIf_eq]
   simp only [dI, dS, dL, aG, X.cells_eq, List.map_cons, List.map_nil, Int.natCast_add] at i1 i2 d1 d2 d3
   have d4 := if76 w u v
   rw [xIf_eq] at d4
   simp only [aG, X.cells_eq, List.map_cons, List.map_nil] at d4
   refine wkc (jn @envOf.eq_1 (jn @envOf.eq_2 (jn @dI.eq_1 (jn @dL.eq_1 (jn @dS.eq_1 (jn @dB.eq_1 (jn @hia (jn @ha' (jn @fillV.eq_1 (jn @fillV.eq_2 (jn @hsl2 (jn @hcon (jn @hw1 (jn @hq (jn @hw2 (jn @d1 (jn @d2 (jn @d3 (jn @d4 (jn @i1 @i2)))))))))))))))))))) ?_
   show retQ _ _ _ _ _
   exact ⟨.inr rfl, _, _, rfl, rfl⟩
end Go.Ac
end

section
set_option maxRecDepth 4000
namespace Go.Ac
open Go.Proofs
/-- What a word's memory is next. -/
def stepX (c : Tx) (h n : Nat) : X := xIf (xOp 11 (xSt c) (xNum ((n : Int) - 1))) (xNum h) (xOp 6 (xSt c) (xNum 1))
/-- The statements of a word (head and loop) with a memory that counts. -/
def wdY (hd lo : List Bool) (nm c : Tx) : List Y :=
 [.mk 1 nm 0 (ltX c (hd ++ lo).length 0 (hd ++ lo)) [] [] [], .mk 2 c 0 (stepX c hd.length (hd ++ lo).length) [] [] []]
/-- A list of letters that was appended: data. -/
theorem encT_app (a b : List Bool) : encT a ++ encT b = encT (a ++ b) := by unfold encT; simp
theorem kf58 (r : Nat) : Ob.keep 58 r = Ob.k58 r := by kernel_rfl
attribute [local simp] kf58 Ob.k58
set_option maxHeartbeats 8000000 in
theorem word58 (hd lo : List Bool) (nm c : Tx) (hn : 0 < (hd ++ lo).length) (hl : (hd ++ lo).length ≤ 8388608) (hcat : den Tryz.prog Ob.cfg 75 [dL [[.slice (encT hd)], [.slice (encT lo)]]] = some (dL (encT (hd ++ lo)))) :
  den Tryz.prog Ob.cfg 58 [.agg [.d (.slice (encT hd)), .d (.slice (encT lo))], dS nm, dS c] = some (dL (encY (wdY hd lo nm c))) := by
 unfold wdY stepX
 obtain ⟨l, hll⟩ : ∃ l, hd ++ lo = l := ⟨_, rfl⟩
 rw [hll] at hn hl hcat ⊢
 have hlt := letter79 c l hl l.length 0 l.length hn (Nat.le_refl _) (by omega)
 rw [Nat.sub_zero, List.drop_zero, List.take_length] at hlt
 rw [show ((0 : Nat) : Int) = 0 from rfl] at hlt
 have hw : IntKind.i64.wrap ((l.length : Int) - 1) = (l.length : Int) - 1 := by rw [w_id] <;> omega
 have d1 := state55 c
 have d2 := num78 ((l.length : Int) - 1)
 have d3 := op77 11 (xSt c) (xNum ((l.length : Int) - 1))
 have d4 := num78 (hd.length : Int)
 have d5 := num78 1
 have d6 := op77 6 (xSt c) (xNum 1)
 have d7 := if76 (xOp 11 (xSt c) (xNum ((l.length : Int) - 1))) (xNum (hd.length : Int)) (xOp 6 (xSt c) (xNum 1))
 obtain ⟨u, hu⟩ : ∃ u, u = ltX c l.length 0 l := ⟨_, rfl⟩
 obtain ⟨w, hwx⟩ : ∃ w, w = xIf (xOp 11 (xSt c) (xNum ((l.length : Int) - 1))) (xNum (hd.length : Int)) (xOp 6 (xSt c) (xNum 1)) := ⟨_, rfl⟩
 rw [← hu] at hlt ⊢
 rw [← hwx] at d7 ⊢
 have e5 : encY [Y.mk 1 nm 0 u [] [] [], Y.mk 2 c 0 w [] [] []] = [[.int .i64 1, .str nm, .int .i64 0, .int .i64 u.k, .int .i64 u.o, .int .i64 u.t, .int .i64 u.v, .str u.nm, .slice (encX u.args), .slice [], .slice [], .slice []], [.int .i64 2, .str c, .int .i64 0, .int .i64 w.k, .int .i64 w.o, .int .i64 w.t, .int .i64 w.v, .str w.nm, .slice (encX w.args), .slice [], .slice [], .slice []]] := by simp [encY_map, Y.cells, X.cells_eq, encX_map, encS, encB_map]
 rw [e5]
 refine den_wp Tryz.func58 rfl (by kernel_rfl) rfl rfl ?_
 simp only [dI, dL, dS, aG, X.cells_eq, List.map_cons, List.map_nil] at hlt d1 d2 d3 d4 d5 d6 d7 hcat
 refine wkc (jn @envOf.eq_1 (jn @envOf.eq_2 (jn @dS.eq_1 (jn @dL.eq_1 (jn @dI.eq_1 (jn @fillV.eq_1 (jn @fillV.eq_2 (jn @closeParts.eq_1 (jn @closeParts.eq_2 (jn @cl2.eq_def (jn @toD_dep (jn @toD_d (jn @toD_full (jn @toDs.eq_1 (jn @toDs.eq_2 (jn @chunk.eq_1 (jn @chunk.eq_2 (jn @hcat (jn @hw (jn @d1 (jn @d2 (jn @d3 (jn @d4 (jn @d5 (jn @d6 (jn @d7 @hlt)))))))))))))))))))))))))) ?_
 show retQ _ _ _ _ _
 exact ⟨.inr rfl, _, _, rfl, rfl⟩
end Go.Ac
end

section
set_option maxRecDepth 4000
namespace Go.Ac
open Go.Proofs

theorem wo1 : IntKind.i64.wrap 1 = 1 := by rfl
theorem wo2 : IntKind.i64.wrap 2 = 2 := by rfl
def nb (b : Bool) : D := .bool b
def cT (l : List Bool) : List V := l.map dB
theorem cT_app (a b : List Bool) : cT (a ++ b) = cT a ++ cT b := by simp [cT]
theorem cT_flat : ∀ l : List Bool, (encT l).flatten.map V.d = cT l
 | [] => rfl
 | x :: r => by
  have := cT_flat r
  show dB x :: List.map V.d (encT r).flatten = dB x :: cT r
  rw [this]
theorem encT_one (l : List Bool) : (encT l).all (fun r => Nat.beq r.length 1) = true := by
 rw [List.all_eq_true]; intro r hr
 unfold encT at hr; obtain ⟨x, _, rfl⟩ := List.mem_map.1 hr; rfl
theorem rowsT (look : Look) (l : List Bool) : rowsOf look 1 (.d (.slice (encT l))) = some (l.length, cT l, []) := by
 show (if ((encT l).all fun r => Nat.beq r.length 1) = true then some ((encT l).length, (encT l).flatten.map V.d, ([] : List Nat)) else none) = _
 rw [if_pos (encT_one l), cT_flat, encT_len]
theorem shiftVs_rep (n c : Nat) : ∀ m : Nat, shiftVs n c (List.replicate m (dB false)) = List.replicate m (dB false)
 | 0 => rfl
 | m + 1 => by rw [List.replicate_succ, shiftVs, shiftVs_rep n c m]; rfl
theorem chunkT : ∀ l : List Bool, chunk 1 l.length (l.map nb) = encT l
 | [] => rfl
 | x :: r => by simp [chunk, encT, chunkT r, nb]
theorem toDs_ct (look : Look) (f : Nat) : ∀ l : List Bool, toDs (toD look f) (cT l) = some (l.map nb, [])
 | [] => rfl
 | x :: r => by
  have := toDs_ct look f r
  unfold cT at this ⊢
  simp only [List.map_cons]
  unfold toDs
  rw [this]
  have : toD look f (dB x) = some (nb x, []) := by cases f <;> rfl
  rw [this]; rfl
theorem close_osl1 {look : Look} {id g : Nat} {ro : Bool} {cs : List V} {l : List Bool} {cap : Option Nat} (hl : look id = some ⟨g, ro, cs⟩) (hc : cs.take l.length = cT l) (hn : l.length ≤ cs.length) : closeT look (.osl id g 0 l.length 1 cap) = some (dL (encT l), [id]) := by
 show ofD (toD look depthD _) = _
 rw [toD_dep]
 have : live look id g = some ⟨g, ro, cs⟩ := by simp [live, hl]
 rw [this]
 simp only [Nat.zero_add, Nat.mul_one, List.drop_zero, hc, toDs_ct, chunkT, nble_d, hn, decide_true]
 rfl

theorem grow_lim (m : Nat) (h0 : 0 < m) (hm : m ≤ 8388608) : lim Tryz.prog Ob.cfg 87 [.full [], dI m] [] 0 0 = some ⟨.osl 0 0 0 0 1 none, [(0, ⟨0, false, List.replicate m (dB false)⟩)], 1, 1, []⟩ := by
 have hw : IntKind.i64.wrap (m : Int) = m := by rw [w_id] <;> omega
 have h1 : ((m : Int) < 0) = False := by simp
 have h2 : ((m : Int) > 0) = True := by simp; omega
 have h2' : (0 < m) = True := by simp; omega
 have wl0 : IntKind.i64.wrap 0 = 0 := by rfl
 have hfit : fitsB m 1 = true := by simp [fitsB]; omega
 have hmx : ((m : Int) ≤ 9223372036854775807) = True := by simp; omega
 have h := lim_wp (P := Tryz.prog) (cfg := Ob.cfg) (vs := [.full [], dI m]) (hp := []) (n := 0) (c := 0) (Q := fun v t => v = .osl 0 0 0 0 1 none ∧ t.hp = [(0, ⟨0, false, List.replicate m (dB false)⟩)] ∧ t.n = 1 ∧ t.c = 1 ∧ t.wl = []) Tryz.func87 rfl (by kernel_rfl) (by
  refine wkciv (jn @envOf.eq_1 (jn @envOf.eq_2 (jn @dI.eq_1 (jn @h1 (jn @h2 (jn @h2' (jn @hw (jn @wl0 (jn @Int.sub_zero (jn @hfit (jn @hmx (jn @h0 (jn @appendNV.eq_def @V.one.eq_def))))))))))))) ?_
  exact ⟨.inr rfl, _, rfl, .inl rfl, rfl, rfl, rfl, rfl, rfl⟩)
 obtain ⟨v, t, h, h3, h4, h5, h6, h7⟩ := h
 rw [h, h3, h4, h5, h6, h7]

theorem concat_nil : den Tryz.prog Ob.cfg 75 [.d (.slice [[.slice []], [.slice []]])] = some (dL []) := den_t 100 (by kernel_rfl)

def pre2 (a b : List Bool) : Nat → List Bool | 0 => [] | 1 => a | _ => a ++ b
set_option maxHeartbeats 2000000 in
theorem concat_den (a b : List Bool) (ha : a.length ≤ 4194304) (hb : b.length ≤ 4194304) : den Tryz.prog Ob.cfg 75 [.d (.slice [[.slice (encT a)], [.slice (encT b)]])] = some (dL (encT (a ++ b))) := by
 by_cases hz : a.length + b.length = 0
 ·have h1 : a = [] := List.eq_nil_of_length_eq_zero (by omega)
  have h2 : b = [] := List.eq_nil_of_length_eq_zero (by omega)
  subst h1; subst h2
  exact concat_nil
 have hI1 := grow_lim (a.length + b.length) (by omega) (by omega)
 have hI2 : closeT noLook (CR.mk (.osl 0 0 0 0 1 none) [(0, ⟨0, false, List.replicate (a.length + b.length) (dB false)⟩)] 1 1 []).v = none := rfl
 have wa : IntKind.i64.wrap (a.length : Int) = a.length := by rw [w_id] <;> omega
 have wb : IntKind.i64.wrap ((a.length : Int) + b.length) = (a.length : Int) + b.length := by rw [w_id] <;> omega
 have na : ((a.length : Int) < 0) = False := by simp
 have nbb : ((a.length : Int) + b.length < 0) = False := by simp; omega
 have fa : fitsB a.length 1 = true := by simp [fitsB]; omega
 have fb : fitsB (a.length + b.length) 1 = true := by simp [fitsB]; omega
 refine den_wp Tryz.func75 rfl (by kernel_rfl) rfl rfl ?_
 refine wkiv True.intro ?_
 apply WP.loop' (I := fun D s => ∃ i : Nat, i + D = 2 ∧ SE [(0, .d (.slice [[.slice (encT a)], [.slice (encT b)]])), (3, dI (pre2 a b i).length), (9, .d (.slice [[.slice (encT a)], [.slice (encT b)]])), (10, dI 2), (11, dI i)] [] 0 s) (d := 2)
 ·exact ⟨0, by simp, SE.mk (by simp [dI, pre2]) rfl⟩
 rintro D _ ⟨i, hi, cc, rfl⟩
 have hi' : i = 0 ∨ i = 1 ∨ i = 2 := by omega
 rcases hi' with rfl | rfl | rfl
 ·refine wkciv (jn @dI.eq_1 (jn @pre2.eq_def (jn @wa @na))) ?_
  refine loop_next (by simp; exact Is.rfl) ?_
  exact ⟨1, by omega, 1, by omega, SE.mk (by simp [dI, pre2, wa]; rfl) rfl⟩
 ·refine wkciv (jn @dI.eq_1 (jn @pre2.eq_def (jn @wb @nbb))) ?_
  refine loop_next (by simp; exact Is.rfl) ?_
  exact ⟨0, by omega, 2, by omega, SE.mk (by simp [dI, pre2, wb]; rfl) rfl⟩
 ·have hI3 : shiftV 0 cc (CR.mk (.osl 0 0 0 0 1 none) [(0, ⟨0, false, List.replicate (a.length + b.length) (dB false)⟩)] 1 1 []).v = .osl 0 cc 0 0 1 none := by simp [shiftV]
  have hI4 : shiftH 0 cc (wrOf (CR.mk (.osl 0 0 0 0 1 none) [(0, ⟨0, false, List.replicate (a.length + b.length) (dB false)⟩)] 1 1 []).hp.get (List.range (CR.mk (.osl 0 0 0 0 1 none) [(0, ⟨0, false, List.replicate (a.length + b.length) (dB false)⟩)] 1 1 []).n)) = [(0, ⟨cc, false, List.replicate (a.length + b.length) (dB false)⟩)] := by
   simp [shiftH, wrOf, List.range_succ, shiftVs_rep]
  simp only [dI, Int.natCast_add] at hI1
  refine wkciv (jn @dI.eq_1 @pre2.eq_def) ?_
  apply WP.loop' (I := fun D s => ∃ i : Nat, i + D = 2 ∧ ∃ g c cs, cs.take (pre2 a b i).length = cT (pre2 a b i) ∧ (pre2 a b i).length ≤ cs.length ∧ s = ⟨[(6, .osl 0 g 0 (pre2 a b i).length 1 none), (25, .d (.slice [[.slice (encT a)], [.slice (encT b)]])), (26, dI 2), (27, dI i)], [(0, ⟨g, false, cs⟩)], 1, c, 0, []⟩) (d := 2)
  ·exact ⟨0, by simp, _, _, _, rfl, Nat.zero_le _, rfl⟩
  rintro D _ ⟨i, hi, g, c, cs, hct, hle, rfl⟩
  have hi' : i = 0 ∨ i = 1 ∨ i = 2 := by omega
  rcases hi' with rfl | rfl | rfl
  ·simp only [pre2, List.length_nil] at hct hle ⊢
   refine wkciv (jn @dI.eq_1 (jn @rowsT (jn @nble_d @fa))) ?_
   refine loop_next (by simp; exact Is.rfl) ?_
   exact ⟨1, by omega, 1, by omega, c, _, cT a, List.take_of_length_le (by simp [pre2, cT]), by simp [pre2, cT], st_eq (by simp [pre2, dI, wo1]) (by simp)⟩
  ·simp only [pre2] at hct hle ⊢
   refine wkciv (jn @dI.eq_1 (jn @rowsT (jn @nble_d (jn @fb (jn @hct @hle))))) ?_
   refine loop_next (by simp; exact Is.rfl) ?_
   exact ⟨0, by omega, 2, by omega, c, _, cT a ++ cT b, (List.take_of_length_le (by simp [pre2, cT])).trans (cT_app a b).symm, by simp [pre2, cT], st_eq (by simp [pre2, dI, wo2]) (by simp)⟩
  ·refine wkciv (@dI.eq_1) ?_
   show retQ _ _ _ _ _
   exact ⟨.inr rfl, _, [0], rfl, close_osl1 (l := a ++ b) (ro := false) (cs := cs) rfl hct hle⟩
end Go.Ac
end
