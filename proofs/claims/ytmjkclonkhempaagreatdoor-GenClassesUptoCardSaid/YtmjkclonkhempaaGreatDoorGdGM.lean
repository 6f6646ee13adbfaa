/- Expressions without samplings, copies of expressions: of both. -/
import Derived.Test.YtmjkclonkhempaaGreatDoorGcQbM
set_option linter.unusedVariables false
set_option linter.unusedSimpArgs false
section
set_option maxRecDepth 4000
namespace Go.Ac
open Go.Proofs
theorem kf73 (r : Nat) : Ob.keep 73 r = Ob.k73 r := by kernel_rfl
theorem kf89 (r : Nat) : Ob.keep 89 r = Ob.k89 r := by kernel_rfl
theorem kf97 (r : Nat) : Ob.keep 97 r = Ob.k97 r := by kernel_rfl
theorem kf90 (r : Nat) : Ob.keep 90 r = Ob.k90 r := by kernel_rfl
theorem kf61 (r : Nat) : Ob.keep 61 r = Ob.k61 r := by kernel_rfl
attribute [local simp] kf73 Ob.k73 kf89 Ob.k89 kf97 Ob.k97 kf90 Ob.k90 kf61 Ob.k61
theorem var73 (x : X) : den Tryz.prog Ob.cfg 73 [aG x.cells] = some (dB (vaX x)) := by
 refine den_wp Tryz.func73 rfl (by kernel_rfl) rfl rfl ?_
 unfold vaX
 by_cases c1 : x.k = 2
 ·have c1' := eq_true c1
  rw [decide_eq_true (.inl c1)]
  refine wkc (jn @envOf.eq_1 (jn @envOf.eq_2 (jn @aG.eq_1 (jn @X.cells_eq (jn @int_beq @c1'))))) ?_
  show retQ _ _ _ _ _
  exact ⟨.inr rfl, _, _, rfl, rfl⟩
 by_cases c2 : x.k = 8
 ·have c2' := eq_true c2
  rw [decide_eq_true (.inr (.inl c2))]
  refine wkc (jn @envOf.eq_1 (jn @envOf.eq_2 (jn @aG.eq_1 (jn @X.cells_eq (jn @int_beq (jn @c1 @c2')))))) ?_
  show retQ _ _ _ _ _
  exact ⟨.inr rfl, _, _, rfl, rfl⟩
 by_cases c3 : x.k = 9
 ·have c3' := eq_true c3
  rw [decide_eq_true (.inr (.inr c3))]
  refine wkc (jn @envOf.eq_1 (jn @envOf.eq_2 (jn @aG.eq_1 (jn @X.cells_eq (jn @int_beq (jn @c1 (jn @c2 @c3'))))))) ?_
  show retQ _ _ _ _ _
  exact ⟨.inr rfl, _, _, rfl, rfl⟩
 rw [decide_eq_false (by simp [c1, c2, c3])]
 refine wkc (jn @envOf.eq_1 (jn @envOf.eq_2 (jn @aG.eq_1 (jn @X.cells_eq (jn @int_beq (jn @c1 (jn @c2 @c3))))))) ?_
 show retQ _ _ _ _ _
 exact ⟨.inr rfl, _, _, rfl, rfl⟩
theorem var89 (x : X) : den Tryz.prog Ob.cfg 89 [aG x.cells] = some (dB (vaX x)) := by
 refine den_wp Tryz.func89 rfl (by kernel_rfl) rfl rfl ?_
 unfold vaX
 by_cases c1 : x.k = 2
 ·have c1' := eq_true c1
  rw [decide_eq_true (.inl c1)]
  refine wkc (jn @envOf.eq_1 (jn @envOf.eq_2 (jn @aG.eq_1 (jn @X.cells_eq (jn @int_beq @c1'))))) ?_
  show retQ _ _ _ _ _
  exact ⟨.inr rfl, _, _, rfl, rfl⟩
 by_cases c2 : x.k = 8
 ·have c2' := eq_true c2
  rw [decide_eq_true (.inr (.inl c2))]
  refine wkc (jn @envOf.eq_1 (jn @envOf.eq_2 (jn @aG.eq_1 (jn @X.cells_eq (jn @int_beq (jn @c1 @c2')))))) ?_
  show retQ _ _ _ _ _
  exact ⟨.inr rfl, _, _, rfl, rfl⟩
 by_cases c3 : x.k = 9
 ·have c3' := eq_true c3
  rw [decide_eq_true (.inr (.inr c3))]
  refine wkc (jn @envOf.eq_1 (jn @envOf.eq_2 (jn @aG.eq_1 (jn @X.cells_eq (jn @int_beq (jn @c1 (jn @c2 @c3'))))))) ?_
  show retQ _ _ _ _ _
  exact ⟨.inr rfl, _, _, rfl, rfl⟩
 rw [decide_eq_false (by simp [c1, c2, c3])]
 refine wkc (jn @envOf.eq_1 (jn @envOf.eq_2 (jn @aG.eq_1 (jn @X.cells_eq (jn @int_beq (jn @c1 (jn @c2 @c3))))))) ?_
 show retQ _ _ _ _ _
 exact ⟨.inr rfl, _, _, rfl, rfl⟩
theorem index97 (l : List Tx) (x : Tx) (hl : l.length ≤ MX) : den Tryz.prog Ob.cfg 97 [dL (encS l), dS x] = some (dI (ixP (fun y => decide (y = x)) l)) := by
 unfold MX at hl
 refine den_wp Tryz.func97 rfl (by kernel_rfl) rfl rfl ?_
 refine wkc (jn @envOf.eq_1 (jn @envOf.eq_2 (jn @dL.eq_1 @dS.eq_1))) ?_
 apply WP.loop' (I := fun D s => ∃ i : Nat, i + D = l.length ∧ (l.take i).all (fun y => !decide (y = x)) = true ∧ SE [(0, dL (encS l)), (1, dS x), (7, dI l.length), (8, dI i)] [] 0 s) (d := l.length)
 ·exact ⟨0, by simp, by simp, SE.mk (by simp [dL, dI, dS]) rfl⟩
 rintro D _ ⟨i, hi, hno, cc, rfl⟩
 refine wk (jn @dI.eq_1 (jn @dL.eq_1 @dS.eq_1)) ?_
 show WP _ _ _ _ _ _
 refine WP.cond _ rfl (fun hb => ?_) (fun hb => ?_)
 ·simp at hb
  have hb' : i < l.length := by omega
  obtain ⟨y, hy, hym, hix⟩ := at_lt hb'
  have hy' := encS_at hy
  have hw := w_succ hb' (by omega)
  have hs := all_snoc (p := fun y => !decide (y = x)) hy
  by_cases hq : y = x
  ·have hq' := eq_true hq.symm
   rw [ixP_some hno hy (decide_eq_true hq)]
   refine wkc (jn @dI.eq_1 (jn @dL.eq_1 (jn @dS.eq_1 (jn @hix (jn @hy' (jn @tx_beq @hq')))))) ?_
   show retQ _ _ _ _ _
   exact ⟨.inr rfl, _, _, rfl, rfl⟩
  ·have hq' := eq_false (fun e => hq (Eq.symm e))
   refine wkc (jn @dI.eq_1 (jn @dL.eq_1 (jn @dS.eq_1 (jn @hix (jn @hy' (jn @tx_beq @hq')))))) ?_
   refine loop_next (by simp [hw]; exact Is.rfl) ?_
   exact ⟨D - 1, by omega, i + 1, by omega, by rw [hs, hno, decide_eq_false hq]; rfl, SE.mk (by simp [dI, dL, dS, hw]) rfl⟩
 ·simp at hb
  have hie : i = l.length := by omega
  rw [hie, List.take_length] at hno
  rw [ixP_none hno]
  refine wkc (jn @dI.eq_1 (jn @dL.eq_1 @dS.eq_1)) ?_
  show retQ _ _ _ _ _
  exact ⟨.inr rfl, _, _, rfl, rfl⟩
theorem any_mem (l : List Tx) (x : Tx) : l.any (fun y => decide (y = x)) = decide (x ∈ l) := by
 by_cases h : x ∈ l
 ·rw [decide_eq_true h, List.any_eq_true]; exact ⟨x, h, by simp⟩
 ·rw [decide_eq_false h, List.any_eq_false]; intro y hy; simp; rintro rfl; exact h hy
theorem contains90 (l : List Tx) (x : Tx) (hl : l.length ≤ MX) : den Tryz.prog Ob.cfg 90 [dL (encS l), dS x] = some (dB (decide (x ∈ l))) := by
 have h := index97 l x hl
 simp only [dL, dS, dI] at h
 rw [← any_mem, ← ixP_any]
 refine den_wp Tryz.func90 rfl (by kernel_rfl) rfl rfl ?_
 refine wkc (jn @envOf.eq_1 (jn @envOf.eq_2 (jn @dL.eq_1 (jn @dS.eq_1 @h)))) ?_
 show retQ _ _ _ _ _
 exact ⟨.inr rfl, _, _, rfl, rfl⟩
theorem has61 (l : List Tx) (x : Tx) (hl : l.length ≤ MX) : den Tryz.prog Ob.cfg 61 [dL (encS l), dS x] = some (dB (decide (x ∈ l))) := by
 rw [← any_mem]
 unfold MX at hl
 refine den_wp Tryz.func61 rfl (by kernel_rfl) rfl rfl ?_
 refine wkc (jn @envOf.eq_1 (jn @envOf.eq_2 (jn @dL.eq_1 @dS.eq_1))) ?_
 apply WP.loop' (I := fun D s => ∃ i : Nat, i + D = l.length ∧ (l.take i).all (fun y => !decide (y = x)) = true ∧ SE [(0, dL (encS l)), (1, dS x), (5, dI i)] [] 0 s) (d := l.length)
 ·exact ⟨0, by simp, by simp, SE.mk (by simp [dL, dI, dS]) rfl⟩
 rintro D _ ⟨i, hi, hno, cc, rfl⟩
 refine wk (jn @dI.eq_1 (jn @dL.eq_1 @dS.eq_1)) ?_
 show WP _ _ _ _ _ _
 refine WP.cond _ rfl (fun hb => ?_) (fun hb => ?_)
 ·simp at hb
  have hb' : i < l.length := by omega
  obtain ⟨y, hy, hym, hix⟩ := at_lt hb'
  have hy' := encS_at hy
  have hw := w_succ hb' (by omega)
  have hs := all_snoc (p := fun y => !decide (y = x)) hy
  by_cases hq : y = x
  ·have hq' := eq_true hq
   rw [List.any_eq_true.2 ⟨y, hym, by simp [hq]⟩]
   refine wkc (jn @dI.eq_1 (jn @dL.eq_1 (jn @dS.eq_1 (jn @hix (jn @hy' (jn @tx_beq @hq')))))) ?_
   show retQ _ _ _ _ _
   exact ⟨.inr rfl, _, _, rfl, rfl⟩
  ·have hq' := eq_false hq
   refine wkc (jn @dI.eq_1 (jn @dL.eq_1 (jn @dS.eq_1 (jn @hix (jn @hy' (jn @tx_beq @hq')))))) ?_
   refine loop_next (by simp [hw]; exact Is.rfl) ?_
   exact ⟨D - 1, by omega, i + 1, by omega, by rw [hs, hno, decide_eq_false hq]; rfl, SE.mk (by simp [dI, dL, dS, hw]) rfl⟩
 ·simp at hb
  have hie : i = l.length := by omega
  rw [hie, List.take_length] at hno
  rw [any_no hno]
  refine wkc (jn @dI.eq_1 (jn @dL.eq_1 @dS.eq_1)) ?_
  show retQ _ _ _ _ _
  exact ⟨.inr rfl, _, _, rfl, rfl⟩
end Go.Ac
end

section
set_option maxRecDepth 4000
namespace Go.Ac
open Go.Proofs
attribute [local simp] Hp.get_set Ag_set Ag_refl Ag_trunc get_trunc_lt
/-- A call that is handed objects and hands the memory back. -/
def ThrX (f : FuncId) (vs : List V) (hp : Hp) (n c : Nat) (ids : List Nat) (Φ : V → Hp → Nat → Prop) : Prop :=
 ∃ q, lim Tryz.prog Ob.cfg f vs hp n c = some q ∧ n ≤ q.n ∧ WI ids n hp q.wl q.hp ∧ Φ q.v q.hp q.n
def thrXQ (fn : Func) (hp : Hp) (n : Nat) (ids0 : List Nat) (Φ : V → Hp → Nat → Prop) (e : Ex) (t : St) : Prop :=
 (e = .normal ∨ e = .ret) ∧ ∃ rs, resultsV Tryz.prog t fn.results.toList = some rs ∧ n ≤ t.n ∧ WI ids0 n hp t.wl t.hp ∧ Φ (tup rs) t.hp t.n
theorem thrX_wp {f : FuncId} {fn : Func} {body : Code} {vs : List V} {hp : Hp} {n c : Nat} {ids0 : List Nat} {Φ : V → Hp → Nat → Prop} (hf : Tryz.prog.funcs[f]? = some fn) (hb : fn.body = some body) (hok : (Nat.ble vs.length fn.ntmps && codeOK fn.ntmps body) = true)
  (hthr : Ob.cfg.thr f = true) (h : WP Tryz.prog Ob.cfg f body ⟨envOf 0 vs, hp, n, c, n, []⟩ (thrXQ fn hp n ids0 Φ)) : ThrX f vs hp n c ids0 Φ := by
 obtain ⟨w, t, h1, h2⟩ := lim_wp (Q := fun w t => n ≤ t.n ∧ WI ids0 n hp t.wl t.hp ∧ Φ w t.hp t.n) hf hb hok (h.mono fun e t ⟨he, rs, a1, a3, a4, a5⟩ => ⟨he, rs, a1, .inl hthr, a3, a4, a5⟩)
 exact ⟨_, h1, h2.1, h2.2.1, h2.2.2⟩
theorem ThrX.caller {f : FuncId} {vs : List V} {hp : Hp} {n c : Nat} {ids : List Nat} {Φ : V → Hp → Nat → Prop} (h : ThrX f vs hp n c ids Φ) (hids : ∀ j, j ∈ ids → j < n) :
  ∃ q, lim Tryz.prog Ob.cfg f vs hp n c = some q ∧ n ≤ q.n ∧ (∀ k, k ∈ (tWr q n).map (·.1) → k < n + (q.n - n)) ∧ (∀ k, k ∈ (tWr q n).map (·.1) → k ∈ ids ∨ n ≤ k) ∧
   (∀ j, j < n → j ∉ ids → (hp.sets (tWr q n)).get j = hp.get j) ∧ ∃ hp', Φ q.v hp' q.n ∧ ∀ j, j < q.n → (hp'.get j).isSome = true → (hp.sets (tWr q n)).get j = hp'.get j := by
 obtain ⟨q, h1, h3, h4, h5⟩ := h
 exact ⟨q, h1, h3, fun k hk => by have := (tWr_keys h3 h4 hids hk).2; omega, fun k hk => (tWr_keys h3 h4 hids hk).1, fun j hj hn => tWr_old h4 hj hn, q.hp, h5, fun j hj hs => tWr_same h4 hj hs⟩
/-- A list that lies in memory, read. -/
theorem toD_fl {look : Look} {id g sz : Nat} {ro : Bool} {l : List (List D)} {cap : Option Nat} (h : ∀ r ∈ l, r.length = sz) (hl : look id = some ⟨g, ro, fl l⟩) : toD look depthD (.osl id g 0 l.length sz cap) = some (.slice l, [id]) := by
 have h2 : ofD (toD look depthD (.osl id g 0 l.length sz cap)) = some (dL l, [id]) := close_fl h hl
 cases ht : toD look depthD (.osl id g 0 l.length sz cap) with
 | none => rw [ht] at h2; cases h2
 | some x =>
  obtain ⟨a, b⟩ := x
  rw [ht] at h2
  simp only [ofD, dL, Option.some.injEq, Prod.mk.injEq, V.d.injEq] at h2
  rw [h2.1, h2.2]
theorem nm_toD {look : Look} {id g : Nat} {L : List Tx} (h : look id = some ⟨g, false, fl (encS L)⟩) : toD look depthD (.osl id g 0 L.length 1 none) = some (.slice (encS L), [id]) := by
 have := toD_fl (l := encS L) (cap := none) (encS_row L) h
 rwa [encS_len] at this
theorem WP.gen3 {fid : FuncId} {code : Code} {e : Env} {hp : Hp} {n c n0 : Nat} {wl : List Nat} {Q : Ex → St → Prop}
  (h : ∀ hp' c' wl', hp' = hp → wl' = wl → WP Tryz.prog Ob.cfg fid code ⟨e, hp', n, c', n0, wl'⟩ Q) : WP Tryz.prog Ob.cfg fid code ⟨e, hp, n, c, n0, wl⟩ Q := h hp c wl rfl rfl
theorem WI.more {ids0 : List Nat} {n k : Nat} {hp0 hp : Hp} {wl : List Nat} {x : Ob} (h : WI ids0 n hp0 wl hp) (hk : n ≤ k) : WI ids0 n hp0 wl (hp.set k x) :=
 ⟨h.1, fun j h1 h2 => by rw [Hp.get_set_ne _ _ _ _ (by omega)]; exact h.2 j h1 h2⟩
theorem addNew_nil {n : Nat} {wl : List Nat} : addNew n wl [] = wl := by simp only [addNew]
theorem fitsB_snoc {m : Nat} (h : m ≤ 8388608) : fitsB (m + 1) 16 = true := by simp [fitsB]; omega
theorem disj_ge {W : List (Nat × Ob)} {n k : Nat} (h : ∀ p, p ∈ W → n ≤ p.1) (hk : k < n) : disj (W.map fun x => x.1) [k] = true := by
 unfold disj
 rw [List.all_eq_true]
 intro x hx
 obtain ⟨p, hp, rfl⟩ := List.mem_map.1 hx
 have := h p hp
 have hb : Nat.beq p.1 k = false := by
  cases hq : Nat.beq p.1 k with
  | false => rfl
  | true => have := Nat.eq_of_beq_eq_true hq; omega
 simp [hb]
theorem szX_at : ∀ {l : List X} {i : Nat} {y : X}, l[i]? = some y → szX (l.take i) + y.sz ≤ szX l
 | [], i, y, h => by cases i <;> cases h
 | a :: r, 0, y, h => by cases h; rw [List.take_zero, szX, szX]; omega
 | a :: r, i + 1, y, h => by
  rw [List.getElem?_cons_succ] at h
  have := szX_at h
  rw [List.take_succ_cons, szX, szX]; omega
theorem WP.st_eq2 {fid : FuncId} {code : Code} {s s' : St} {Q : Ex → St → Prop} (h : s = s') (w : WP Tryz.prog Ob.cfg fid code s' Q) : WP Tryz.prog Ob.cfg fid code s Q := by rw [h]; exact w
/-- A list of names that is handed over: it lies somewhere, or is nil. -/
def NArg (hp : Hp) (n : Nat) (ids : List Nat) (va : V) (L : List Tx) : Prop := (∃ id g, va = .osl id g 0 L.length 1 none ∧ hp.get id = some ⟨g, false, fl (encS L)⟩ ∧ id < n ∧ ids = [id]) ∨ (va = .full [] ∧ L = [] ∧ ids = [])
/-- What is handed back. -/
def NRes (n : Nat) (ids : List Nat) (L : List Tx) (v : V) (hp : Hp) (n' : Nat) : Prop := ∃ id g, v = .osl id g 0 L.length 1 none ∧ hp.get id = some ⟨g, false, fl (encS L)⟩ ∧ id < n' ∧ (ids = [id] ∨ ids = [] ∧ n ≤ id)
theorem kf83 (r : Nat) : Ob.keep 83 r = Ob.k83 r := by kernel_rfl
attribute [local simp] kf83 Ob.k83
set_option maxHeartbeats 8000000 in
theorem names83 : ∀ (N : Nat) (x : X) (hN : x.sz < N) (L : List Tx) (hL : L.length + x.sz ≤ 8388608) (va : V) (ids : List Nat) (hp : Hp) (n c : Nat) (hA : NArg hp n ids va L),
  ThrX 83 [va, aG x.cells, dB false] hp n c ids (NRes n ids (nmX L x))
 | 0, x, hN, L, hL, va, ids, hp, n, c, hA => by omega
 | N + 1, x, hN, L, hL, va, ids, hp, n, c, hAr => by
  have hv := var73 x
  have hc := contains90 L x.nm (by unfold MX; omega)
  have hsz := hN
  rw [X.sz_eq] at hsz
  have hL' := hL
  rw [X.sz_eq] at hL'
  simp only [aG, X.cells_eq, List.map_cons, List.map_nil, dL, dS, dB] at hv hc
  rw [nmX_eq]
  have hal := adN_len L (vaX x) x.nm
  refine thrX_wp Tryz.func83 rfl (by kernel_rfl) rfl ?_
  have hxa := len_szX x.args
  have h3 : vaX x = false ∨ (vaX x = true ∧ x.nm ∈ L) ∨ (vaX x = true ∧ x.nm ∉ L) := by
   cases vaX x
   ·exact .inl rfl
   ·by_cases h : x.nm ∈ L
    ·exact .inr (.inl ⟨rfl, h⟩)
    ·exact .inr (.inr ⟨rfl, h⟩)
  obtain ⟨A, hA⟩ : ∃ A, adN L (vaX x) x.nm = A := ⟨_, rfl⟩
  rw [hA] at hal ⊢
  rcases hAr with ⟨id, g, rfl, hm, hid, hio⟩ | ⟨rfl, hLe, hio⟩
  refine wkcektv (jn @envOf.eq_1 (jn @envOf.eq_2 (jn @aG.eq_1 (jn @X.cells_eq @dB.eq_1)))) ?_
  apply WP.gen3
  intro hp0 c0 wl0 hhp hwl
  have ni := nf hid
  have hw0 : WI ids n hp wl0 hp0 := by rw [hhp, hwl]; exact WI.refl.set (.inr (Nat.le_refl n))
  have hbx : hp0.get n = some ⟨c, false, [.d (.int .i64 x.k), .d (.int .i64 x.o), .d (.int .i64 x.t), .d (.int .i64 x.v), .d (.str x.nm), .d (.slice (encX x.args))]⟩ := by rw [hhp]; simp
  have hm : hp0.get id = some ⟨g, false, fl (encS L)⟩ := by rw [hhp]; simp [ni, hm]
  obtain ⟨n1, hn1, hid, hne, hio⟩ : ∃ n1, n1 = n + 1 ∧ id < n1 ∧ id ≠ n ∧ (ids = [id] ∨ ids = [] ∧ n ≤ id) := ⟨_, rfl, by omega, by omega, .inl hio⟩
  clear hhp hwl ni
  refine WP.st_eq2 (s' := ⟨[(0, .osl id g 0 L.length 1 none), (2, dB false), (4, .ptr n c 0)], hp0, n1, c0, n, wl0⟩) (by rw [hn1]; rfl) ?_
  have hn1 : n < n1 := by omega
  rotate_left
  refine wkcektv (jn @envOf.eq_1 (jn @envOf.eq_2 (jn @aG.eq_1 (jn @X.cells_eq @dB.eq_1)))) ?_
  apply WP.gen3
  intro hp0 c0 wl0 hhp hwl
  have hw0 : WI ids n hp wl0 hp0 := by rw [hhp, hwl]; exact WI.more (WI.refl.set (.inr (Nat.le_refl n))) (by omega)
  have hbx : hp0.get n = some ⟨c, false, [.d (.int .i64 x.k), .d (.int .i64 x.o), .d (.int .i64 x.t), .d (.int .i64 x.v), .d (.str x.nm), .d (.slice (encX x.args))]⟩ := by rw [hhp]; simp
  obtain ⟨id, g, hi1, hg1⟩ : ∃ id g, id = n + 1 ∧ g = c + 1 := ⟨_, _, rfl, rfl⟩
  have hm : hp0.get id = some ⟨g, false, fl (encS L)⟩ := by rw [hhp, hi1, hg1, hLe]; simp [fl, encS]
  obtain ⟨n1, hn1, hid, hne, hio⟩ : ∃ n1, n1 = n + 2 ∧ id < n1 ∧ id ≠ n ∧ (ids = [id] ∨ ids = [] ∧ n ≤ id) := ⟨_, rfl, by omega, by omega, .inr ⟨hio, by omega⟩⟩
  clear hhp hwl
  refine WP.st_eq2 (s' := ⟨[(0, .osl id g 0 L.length 1 none), (2, dB false), (4, .ptr n c 0)], hp0, n1, c0, n, wl0⟩) (by rw [hn1, hLe, hi1, hg1]; rfl) ?_
  clear hLe hi1 hg1
  have hn1 : n < n1 := by omega
  rotate_left
  all_goals
   have ni := nf hid
   have hio2 : id ∈ ids ∨ n ≤ id := by rcases hio with h | ⟨_, h⟩; exact .inl (by rw [h]; simp); exact .inr h
   have hid2 := eq_true (show id < n1 + 1 by omega)
   have hid3 : (id = n) = False := eq_false hne
   have nn := nf hn1
   have hnd2 := eq_true (show n < n1 + 1 by omega)
   have e1 := fun (look : Look) (h : look id = some ⟨g, false, fl (encS L)⟩) => nm_toD h
   rcases h3 with h3 | h3 | h3
   rw [h3] at hv hA
   refine wkcektv (jn @envOf.eq_1 (jn @envOf.eq_2 (jn @aG.eq_1 (jn @X.cells_eq (jn @dB.eq_1 (jn @hv (jn @hc (jn @hm (jn @ni (jn @e1 @hbx)))))))))) ?_
   apply WP.gen3
   intro hp1 c1 wl1 hhp hwl
   simp only [addNew_nil] at hwl
   have hbx1 : hp1.get n = some ⟨c, false, [.d (.int .i64 x.k), .d (.int .i64 x.o), .d (.int .i64 x.t), .d (.int .i64 x.v), .d (.str x.nm), .d (.slice (encX x.args))]⟩ := by rw [hhp]; exact hbx
   have hy : ∃ g1, g1 = g ∧ hp1.get id = some ⟨g1, false, fl (encS A)⟩ := ⟨g, rfl, by rw [hhp, ← hA]; simp [ni, hm, adN]⟩
   have hwi : WI ids n hp wl1 hp1 := by rw [hhp, hwl]; exact hw0
   have hLA : L.length = A.length := by rw [← hA]; simp [adN]
   rw [hLA]
   rotate_left
   rw [h3.1] at hv hA
   rw [decide_eq_true h3.2] at hc
   refine wkcektv (jn @envOf.eq_1 (jn @envOf.eq_2 (jn @aG.eq_1 (jn @X.cells_eq (jn @dB.eq_1 (jn @hv (jn @hc (jn @hm (jn @ni (jn @e1 @hbx)))))))))) ?_
   apply WP.gen3
   intro hp1 c1 wl1 hhp hwl
   simp only [addNew_nil] at hwl
   have hbx1 : hp1.get n = some ⟨c, false, [.d (.int .i64 x.k), .d (.int .i64 x.o), .d (.int .i64 x.t), .d (.int .i64 x.v), .d (.str x.nm), .d (.slice (encX x.args))]⟩ := by rw [hhp]; exact hbx
   have hy : ∃ g1, g1 = g ∧ hp1.get id = some ⟨g1, false, fl (encS A)⟩ := ⟨g, rfl, by rw [hhp, ← hA]; simp [ni, hm, adN, h3.2]⟩
   have hwi : WI ids n hp wl1 hp1 := by rw [hhp, hwl]; exact hw0
   have hLA : L.length = A.length := by rw [← hA]; simp [adN, h3.2]
   rw [hLA]
   rotate_left
   rw [h3.1] at hv hA
   rw [decide_eq_false h3.2] at hc
   have hA2 : L ++ [x.nm] = A := by rw [← hA]; simp [adN, h3.2]
   have r2 := fl_len (encS_row L)
   have r3 := fl_take (encS_row L)
   have r5 := encS_snoc L x.nm
   have r6 := fl_snoc (encS L) [.str x.nm]
   have f5 := fitsB_snoc (m := L.length) (by omega)
   rw [encS_len, Nat.mul_one] at r2 r3
   rw [r5, hA2] at r6
   simp only [List.map_cons, List.map_nil] at r6
   refine wkcektv (jn @envOf.eq_1 (jn @envOf.eq_2 (jn @aG.eq_1 (jn @X.cells_eq (jn @dB.eq_1 (jn @hv (jn @hc (jn @hm (jn @ni (jn @e1 (jn @hbx (jn @closeParts.eq_1 (jn @closeParts.eq_2 (jn @cl2.eq_def (jn @toD_dep (jn @toD_d (jn @r2 (jn @r3 (jn @r6 (jn @f5 (jn @nble_d (jn @fillV.eq_1 (jn @fillV.eq_2 (jn @hid2 (jn @hid3 @nn))))))))))))))))))))))))) ?_
   apply WP.gen3
   intro hp1 c1 wl1 hhp hwl
   simp only [addNew_nil] at hwl
   have hLA : L.length + 1 = A.length := by rw [← hA2]; simp
   have hbx1 : hp1.get n = some ⟨c, false, [.d (.int .i64 x.k), .d (.int .i64 x.o), .d (.int .i64 x.t), .d (.int .i64 x.v), .d (.str x.nm), .d (.slice (encX x.args))]⟩ := by rw [hhp]; simp [nn, hbx, hid3, hn1]
   have hy : ∃ g1, g1 = c0 + 1 ∧ hp1.get id = some ⟨g1, false, fl (encS A)⟩ := ⟨c0 + 1, rfl, by rw [hhp]; simp [ni, hid2]⟩
   have hwi : WI ids n hp wl1 hp1 := by rw [hhp, hwl]; exact WI.set (WI.set hw0 (.inr (by omega))) hio2
   rw [hLA]
   rotate_left
   all_goals
    obtain ⟨g1, hg1, hy⟩ := hy
    rw [← hg1]
    clear hg1 hhp hwl hv hc e1 hm hLA
    apply WP.loop' (I := fun D s => ∃ (i g' n' c' : Nat) (wl : List Nat) (hp' : Hp) (B : List Tx), i + D = x.args.length ∧ B = nmXs A (x.args.take i) ∧ n1 ≤ n' ∧ hp'.get id = some ⟨g', false, fl (encS B)⟩ ∧ hp'.get n = some ⟨c, false, [.d (.int .i64 x.k), .d (.int .i64 x.o), .d (.int .i64 x.t), .d (.int .i64 x.v), .d (.str x.nm), .d (.slice (encX x.args))]⟩ ∧ WI ids n hp wl hp' ∧
     s = ⟨[(0, .osl id g' 0 B.length 1 none), (2, dB false), (4, .ptr n c 0), (24, dL (encX x.args)), (25, dI x.args.length), (26, dI i)], hp', n', c', n, wl⟩) (d := x.args.length)
    ·exact ⟨0, g1, _, _, _, _, A, by simp, by simp [nmXs], by omega, hy, hbx1, hwi, st_eq (by simp [dI, dL, dB]) rfl⟩
    clear hy hwi hbx1
    rintro D _ ⟨i, g', n', c', wl, hp', B, hi, hB, hn', hy, hbx1, hwi, rfl⟩
    have nni := nf (show n < n' by omega)
    refine wkektv (jn @dI.eq_1 (jn @dL.eq_1 (jn @dB.eq_1 (jn @hbx1 (jn @nni @encX_len))))) ?_
    show WP _ _ _ _ _ _
    refine WP.cond _ rfl (fun hb => ?_) (fun hb => ?_)
    ·simp at hb
     have hb' : i < x.args.length := by omega
     obtain ⟨y, hyx, hym, hix⟩ := at_lt hb'
     have hy' := encX_at hyx
     have hw := w_succ hb' (by omega)
     have hbl := nmXs_len (x.args.take i) A
     rw [← hB] at hbl
     have hys := szX_at hyx
     have htk := take_snoc hyx
     refine wkcektv (jn @dI.eq_1 (jn @dL.eq_1 (jn @dB.eq_1 (jn @hix (jn @hy' (jn @X.cells_eq (jn @fillV.eq_1 (jn @fillV.eq_2 (jn @hbx1 @nni))))))))) ?_
     apply WP.gen3
     intro hp1 c1 wl1 hhp hwl
     try simp only [addNew_nil] at hwl
     have nid : (n' = id) = False := eq_false (by omega)
     have hy1 : hp1.get id = some ⟨g', false, fl (encS B)⟩ := by rw [hhp]; simp [nid, hy]
     have hn9 : hp1.get n' = some ⟨c', false, [.d (.int .i64 y.k), .d (.int .i64 y.o), .d (.int .i64 y.t), .d (.int .i64 y.v), .d (.str y.nm), .d (.slice (encX y.args))]⟩ := by rw [hhp]; simp
     have hb9 : hp1.get n = some ⟨c, false, [.d (.int .i64 x.k), .d (.int .i64 x.o), .d (.int .i64 x.t), .d (.int .i64 x.v), .d (.str x.nm), .d (.slice (encX x.args))]⟩ := by rw [hhp]; simp [nni, hbx1]
     have hwi1 : WI ids n hp wl1 hp1 := by rw [hhp, hwl]; exact (hwi.set (.inr (by omega))).set (.inr (by omega))
     clear hhp hwl
     obtain ⟨q, hT1, hqn, hT2, hki, hfr, hpz, ⟨id2, g2, hqv, hq2, hq3, hq4⟩, hsame⟩ := (names83 N y (by omega) B (by omega) _ [id] hp1 (n' + 1) c1 (.inl ⟨id, g', rfl, hy1, by omega, rfl⟩)).caller (by intro j hj; rw [List.mem_singleton] at hj; omega)
     simp only [aG, X.cells_eq, List.map_cons, List.map_nil, dB] at hT1
     repeat (first
 | apply WP.seq
 | (apply WP.reg; (case hR => dsimp only [prepL, prepO, List.map, gS, gZ]; exact iZ); (case hr => (repeat (first
 | (apply RT.op; simp [-addNew, dI, dL, dB, hn9, hqv]; exact iZ; (try dsimp only [putEnv]) <;> exact rfl)
 | (apply RT.call; (iterate 2 simp; exact iZ); exact iZ; (iterate 4 simp [-addNew, dI, dL, dB, hn9, hqv]; exact iZ); simp [Is]; (try dsimp only [putEnv]) <;> exact rfl; simp; exact iZ; exact iZ)
 | (apply RT.callV; (iterate 2 simp; exact iZ); exact iZ; (iterate 3 simp [-addNew, dI, dL, dB, hn9, hqv]; exact iZ); (try dsimp only [putEnv]) <;> exact rfl)
 | (apply RT.callT (hd := hT1) (hk := hT2); (iterate 2 simp; exact iZ); exact iZ; (iterate 2 simp [-addNew, dI, dL, dB, hn9, hqv]; exact iZ); (try dsimp only [putEnv]) <;> exact rfl)
 | (apply RT.wr; simp [-addNew, dI, dL, dB, hn9, hqv]; exact iZ; (try dsimp only [putEnv]) <;> exact rfl; simp [-addNew, dI, dL, dB, hn9, hqv]; exact iZ; (iterate 2 exact iZ); exact iZ))); exact RT.nil); (case hc => first | (refine checkR_un [(0, 1), (0, 2), (1, 2)] (by kernel_rfl) (by kernel_rfl) rfl ?_; simp [memA, disj, nbeq_dec]; done) | (show _ = _; kernel_rfl)); (case ht => simp [-addNew, dI, dL, dB, hn9, hqv]; exact iZ))
 | apply WP.block | apply WP.skip | apply WP.exit | apply WP.ret | refine WP.condT rfl ?_ | refine WP.condF rfl ?_)
     obtain rfl : id2 = id := by
      rcases hq4 with h | h
      ·exact (List.cons.inj h).1.symm
      ·exact absurd h.1 (by simp)
     refine loop_next (by simp [-addNew, hw]; exact Is.rfl) ?_
     refine ⟨D - 1, by omega, i + 1, g2, _, _, _, _, nmX B y, by omega, by rw [htk, nmXs_snoc, hB], by omega, ?_, ?_, WI.trunc (hwi1.sets fun z hz => ?_) (by omega), st_eq (by simp [dI, dL, dB, hw]) rfl⟩
     ·rw [get_trunc_lt (by omega), hsame id2 (by omega) (by rw [hq2]; rfl)]; exact hq2
     ·rw [get_trunc_lt (by omega), hfr n (by omega) (by simp; omega)]; exact hb9
     ·rcases hki z.1 (List.mem_map.2 ⟨z, hz, rfl⟩) with h | h
      ·rw [List.mem_singleton.1 h]; exact hio2
      ·exact .inr (by omega)
    ·simp at hb
     have hie : i = x.args.length := by omega
     rw [hie, List.take_length] at hB
     refine wkcektv (jn @dI.eq_1 (jn @dL.eq_1 @dB.eq_1)) ?_
     exact ⟨.inr rfl, _, rfl, by show n ≤ n'; omega, hwi, id, g', by rw [← hB]; rfl, by rw [← hB]; exact hy, by show id < n'; omega, hio⟩
theorem kf82 (r : Nat) : Ob.keep 82 r = Ob.k82 r := by kernel_rfl
attribute [local simp] kf82 Ob.k82
set_option maxHeartbeats 8000000 in
theorem names82 : ∀ (N : Nat) (x : X) (hN : x.sz < N) (L : List Tx) (hL : L.length + x.sz ≤ 8388608) (va : V) (ids : List Nat) (hp : Hp) (n c : Nat) (hA : NArg hp n ids va L),
  ThrX 82 [aG x.cells, dB false, va] hp n c ids (NRes n ids (nmX L x))
 | 0, x, hN, L, hL, va, ids, hp, n, c, hA => by omega
 | N + 1, x, hN, L, hL, va, ids, hp, n, c, hAr => by
  have hv := var89 x
  have hc := has61 L x.nm (by unfold MX; omega)
  have hsz := hN
  rw [X.sz_eq] at hsz
  have hL' := hL
  rw [X.sz_eq] at hL'
  simp only [aG, X.cells_eq, List.map_cons, List.map_nil, dL, dS, dB] at hv hc
  rw [nmX_eq]
  have hal := adN_len L (vaX x) x.nm
  refine thrX_wp Tryz.func82 rfl (by kernel_rfl) rfl ?_
  have hxa := len_szX x.args
  have h3 : vaX x = false ∨ (vaX x = true ∧ x.nm ∈ L) ∨ (vaX x = true ∧ x.nm ∉ L) := by
   cases vaX x
   ·exact .inl rfl
   ·by_cases h : x.nm ∈ L
    ·exact .inr (.inl ⟨rfl, h⟩)
    ·exact .inr (.inr ⟨rfl, h⟩)
  obtain ⟨A, hA⟩ : ∃ A, adN L (vaX x) x.nm = A := ⟨_, rfl⟩
  rw [hA] at hal ⊢
  rcases hAr with ⟨id, g, rfl, hm, hid, hio⟩ | ⟨rfl, hLe, hio⟩
  refine wkcektv (jn @envOf.eq_1 (jn @envOf.eq_2 (jn @aG.eq_1 (jn @X.cells_eq @dB.eq_1)))) ?_
  apply WP.gen3
  intro hp0 c0 wl0 hhp hwl
  have ni := nf hid
  have hw0 : WI ids n hp wl0 hp0 := by rw [hhp, hwl]; exact WI.refl.set (.inr (Nat.le_refl n))
  have hbx : hp0.get n = some ⟨c, false, [.d (.int .i64 x.k), .d (.int .i64 x.o), .d (.int .i64 x.t), .d (.int .i64 x.v), .d (.str x.nm), .d (.slice (encX x.args))]⟩ := by rw [hhp]; simp
  have hm : hp0.get id = some ⟨g, false, fl (encS L)⟩ := by rw [hhp]; simp [ni, hm]
  obtain ⟨n1, hn1, hid, hne, hio⟩ : ∃ n1, n1 = n + 1 ∧ id < n1 ∧ id ≠ n ∧ (ids = [id] ∨ ids = [] ∧ n ≤ id) := ⟨_, rfl, by omega, by omega, .inl hio⟩
  clear hhp hwl ni
  refine WP.st_eq2 (s' := ⟨[(1, dB false), (2, .osl id g 0 L.length 1 none), (3, .ptr n c 0)], hp0, n1, c0, n, wl0⟩) (by rw [hn1]; rfl) ?_
  have hn1 : n < n1 := by omega
  rotate_left
  refine wkcektv (jn @envOf.eq_1 (jn @envOf.eq_2 (jn @aG.eq_1 (jn @X.cells_eq @dB.eq_1)))) ?_
  apply WP.gen3
  intro hp0 c0 wl0 hhp hwl
  have hw0 : WI ids n hp wl0 hp0 := by rw [hhp, hwl]; exact WI.more (WI.refl.set (.inr (Nat.le_refl n))) (by omega)
  have hbx : hp0.get n = some ⟨c, false, [.d (.int .i64 x.k), .d (.int .i64 x.o), .d (.int .i64 x.t), .d (.int .i64 x.v), .d (.str x.nm), .d (.slice (encX x.args))]⟩ := by rw [hhp]; simp
  obtain ⟨id, g, hi1, hg1⟩ : ∃ id g, id = n + 1 ∧ g = c + 1 := ⟨_, _, rfl, rfl⟩
  have hm : hp0.get id = some ⟨g, false, fl (encS L)⟩ := by rw [hhp, hi1, hg1, hLe]; simp [fl, encS]
  obtain ⟨n1, hn1, hid, hne, hio⟩ : ∃ n1, n1 = n + 2 ∧ id < n1 ∧ id ≠ n ∧ (ids = [id] ∨ ids = [] ∧ n ≤ id) := ⟨_, rfl, by omega, by omega, .inr ⟨hio, by omega⟩⟩
  clear hhp hwl
  refine WP.st_eq2 (s' := ⟨[(1, dB false), (2, .osl id g 0 L.length 1 none), (3, .ptr n c 0)], hp0, n1, c0, n, wl0⟩) (by rw [hn1, hLe, hi1, hg1]; rfl) ?_
  clear hLe hi1 hg1
  have hn1 : n < n1 := by omega
  rotate_left
  all_goals
   have ni := nf hid
   have hio2 : id ∈ ids ∨ n ≤ id := by rcases hio with h | ⟨_, h⟩; exact .inl (by rw [h]; simp); exact .inr h
   have hid2 := eq_true (show id < n1 + 1 by omega)
   have hid3 : (id = n) = False := eq_false hne
   have nn := nf hn1
   have hnd2 := eq_true (show n < n1 + 1 by omega)
   have e1 := fun (look : Look) (h : look id = some ⟨g, false, fl (encS L)⟩) => nm_toD h
   rcases h3 with h3 | h3 | h3
   rw [h3] at hv hA
   refine wkcektv (jn @envOf.eq_1 (jn @envOf.eq_2 (jn @aG.eq_1 (jn @X.cells_eq (jn @dB.eq_1 (jn @hv (jn @hc (jn @hm (jn @ni (jn @e1 @hbx)))))))))) ?_
   apply WP.gen3
   intro hp1 c1 wl1 hhp hwl
   simp only [addNew_nil] at hwl
   have hbx1 : hp1.get n = some ⟨c, false, [.d (.int .i64 x.k), .d (.int .i64 x.o), .d (.int .i64 x.t), .d (.int .i64 x.v), .d (.str x.nm), .d (.slice (encX x.args))]⟩ := by rw [hhp]; exact hbx
   have hy : ∃ g1, g1 = g ∧ hp1.get id = some ⟨g1, false, fl (encS A)⟩ := ⟨g, rfl, by rw [hhp, ← hA]; simp [ni, hm, adN]⟩
   have hwi : WI ids n hp wl1 hp1 := by rw [hhp, hwl]; exact hw0
   have hLA : L.length = A.length := by rw [← hA]; simp [adN]
   rw [hLA]
   rotate_left
   rw [h3.1] at hv hA
   rw [decide_eq_true h3.2] at hc
   refine wkcektv (jn @envOf.eq_1 (jn @envOf.eq_2 (jn @aG.eq_1 (jn @X.cells_eq (jn @dB.eq_1 (jn @hv (jn @hc (jn @hm (jn @ni (jn @e1 @hbx)))))))))) ?_
   apply WP.gen3
   intro hp1 c1 wl1 hhp hwl
   simp only [addNew_nil] at hwl
   have hbx1 : hp1.get n = some ⟨c, false, [.d (.int .i64 x.k), .d (.int .i64 x.o), .d (.int .i64 x.t), .d (.int .i64 x.v), .d (.str x.nm), .d (.slice (encX x.args))]⟩ := by rw [hhp]; exact hbx
   have hy : ∃ g1, g1 = g ∧ hp1.get id = some ⟨g1, false, fl (encS A)⟩ := ⟨g, rfl, by rw [hhp, ← hA]; simp [ni, hm, adN, h3.2]⟩
   have hwi : WI ids n hp wl1 hp1 := by rw [hhp, hwl]; exact hw0
   have hLA : L.length = A.length := by rw [← hA]; simp [adN, h3.2]
   rw [hLA]
   rotate_left
   rw [h3.1] at hv hA
   rw [decide_eq_false h3.2] at hc
   have hA2 : L ++ [x.nm] = A := by rw [← hA]; simp [adN, h3.2]
   have r2 := fl_len (encS_row L)
   have r3 := fl_take (encS_row L)
   have r5 := encS_snoc L x.nm
   have r6 := fl_snoc (encS L) [.str x.nm]
   have f5 := fitsB_snoc (m := L.length) (by omega)
   rw [encS_len, Nat.mul_one] at r2 r3
   rw [r5, hA2] at r6
   simp only [List.map_cons, List.map_nil] at r6
   refine wkcektv (jn @envOf.eq_1 (jn @envOf.eq_2 (jn @aG.eq_1 (jn @X.cells_eq (jn @dB.eq_1 (jn @hv (jn @hc (jn @hm (jn @ni (jn @e1 (jn @hbx (jn @closeParts.eq_1 (jn @closeParts.eq_2 (jn @cl2.eq_def (jn @toD_dep (jn @toD_d (jn @r2 (jn @r3 (jn @r6 (jn @f5 (jn @nble_d (jn @fillV.eq_1 (jn @fillV.eq_2 (jn @hid2 (jn @hid3 @nn))))))))))))))))))))))))) ?_
   apply WP.gen3
   intro hp1 c1 wl1 hhp hwl
   simp only [addNew_nil] at hwl
   have hLA : L.length + 1 = A.length := by rw [← hA2]; simp
   have hbx1 : hp1.get n = some ⟨c, false, [.d (.int .i64 x.k), .d (.int .i64 x.o), .d (.int .i64 x.t), .d (.int .i64 x.v), .d (.str x.nm), .d (.slice (encX x.args))]⟩ := by rw [hhp]; simp [nn, hbx, hid3, hn1]
   have hy : ∃ g1, g1 = c0 + 1 ∧ hp1.get id = some ⟨g1, false, fl (encS A)⟩ := ⟨c0 + 1, rfl, by rw [hhp]; simp [ni, hid2]⟩
   have hwi : WI ids n hp wl1 hp1 := by rw [hhp, hwl]; exact WI.set (WI.set hw0 (.inr (by omega))) hio2
   rw [hLA]
   rotate_left
   all_goals
    obtain ⟨g1, hg1, hy⟩ := hy
    rw [← hg1]
    clear hg1 hhp hwl hv hc e1 hm hLA
    apply WP.loop' (I := fun D s => ∃ (i g' n' c' : Nat) (wl : List Nat) (hp' : Hp) (B : List Tx), i + D = x.args.length ∧ B = nmXs A (x.args.take i) ∧ n1 ≤ n' ∧ hp'.get id = some ⟨g', false, fl (encS B)⟩ ∧ hp'.get n = some ⟨c, false, [.d (.int .i64 x.k), .d (.int .i64 x.o), .d (.int .i64 x.t), .d (.int .i64 x.v), .d (.str x.nm), .d (.slice (encX x.args))]⟩ ∧ WI ids n hp wl hp' ∧
     s = ⟨[(1, dB false), (2, .osl id g' 0 B.length 1 none), (3, .ptr n c 0), (7, dI i)], hp', n', c', n, wl⟩) (d := x.args.length)
    ·exact ⟨0, g1, _, _, _, _, A, by simp, by simp [nmXs], by omega, hy, hbx1, hwi, st_eq (by simp [dI, dL, dB]) rfl⟩
    clear hy hwi hbx1
    rintro D _ ⟨i, g', n', c', wl, hp', B, hi, hB, hn', hy, hbx1, hwi, rfl⟩
    have nni := nf (show n < n' by omega)
    refine wkektv (jn @dI.eq_1 (jn @dL.eq_1 (jn @dB.eq_1 (jn @hbx1 (jn @nni @encX_len))))) ?_
    show WP _ _ _ _ _ _
    refine WP.cond _ rfl (fun hb => ?_) (fun hb => ?_)
    ·simp at hb
     have hb' : i < x.args.length := by omega
     obtain ⟨y, hyx, hym, hix⟩ := at_lt hb'
     have hy' := encX_at hyx
     have hw := w_succ hb' (by omega)
     have hbl := nmXs_len (x.args.take i) A
     rw [← hB] at hbl
     have hys := szX_at hyx
     have htk := take_snoc hyx
     refine wkcektv (jn @dI.eq_1 (jn @dL.eq_1 (jn @dB.eq_1 (jn @hix (jn @hy' (jn @X.cells_eq (jn @fillV.eq_1 (jn @fillV.eq_2 (jn @hbx1 @nni))))))))) ?_
     apply WP.gen3
     intro hp1 c1 wl1 hhp hwl
     try simp only [addNew_nil] at hwl
     have hwi1 : WI ids n hp wl1 hp1 := by rw [hhp, hwl]; exact hwi
     have hy1 : hp1.get id = some ⟨g', false, fl (encS B)⟩ := by rw [hhp]; exact hy
     have hb9 : hp1.get n = some ⟨c, false, [.d (.int .i64 x.k), .d (.int .i64 x.o), .d (.int .i64 x.t), .d (.int .i64 x.v), .d (.str x.nm), .d (.slice (encX x.args))]⟩ := by rw [hhp]; exact hbx1
     clear hhp hwl
     obtain ⟨q, hT1, hqn, hT2, hki, hfr, hpz, ⟨id2, g2, hqv, hq2, hq3, hq4⟩, hsame⟩ := (names82 N y (by omega) B (by omega) _ [id] hp1 n' c1 (.inl ⟨id, g', rfl, hy1, by omega, rfl⟩)).caller (by intro j hj; rw [List.mem_singleton] at hj; omega)
     simp only [aG, X.cells_eq, List.map_cons, List.map_nil, dB] at hT1
     repeat (first
 | apply WP.seq
 | (apply WP.reg; (case hR => dsimp only [prepL, prepO, List.map, gS, gZ]; exact iZ); (case hr => (repeat (first
 | (apply RT.op; simp [-addNew, dI, dL, dB, hqv, hix, hy', X.cells_eq, fillV, hb9]; exact iZ; (try dsimp only [putEnv]) <;> exact rfl)
 | (apply RT.call; (iterate 2 simp; exact iZ); exact iZ; (iterate 4 simp [-addNew, dI, dL, dB, hqv, hix, hy', X.cells_eq, fillV, hb9]; exact iZ); simp [Is]; (try dsimp only [putEnv]) <;> exact rfl; simp; exact iZ; exact iZ)
 | (apply RT.callV; (iterate 2 simp; exact iZ); exact iZ; (iterate 3 simp [-addNew, dI, dL, dB, hqv, hix, hy', X.cells_eq, fillV, hb9]; exact iZ); (try dsimp only [putEnv]) <;> exact rfl)
 | (apply RT.callT (hd := hT1) (hk := hT2); (iterate 2 simp; exact iZ); exact iZ; (iterate 2 simp [-addNew, dI, dL, dB, hqv, hix, hy', X.cells_eq, fillV, hb9]; exact iZ); (try dsimp only [putEnv]) <;> exact rfl)
 | (apply RT.wr; simp [-addNew, dI, dL, dB, hqv, hix, hy', X.cells_eq, fillV, hb9]; exact iZ; (try dsimp only [putEnv]) <;> exact rfl; simp [-addNew, dI, dL, dB, hqv, hix, hy', X.cells_eq, fillV, hb9]; exact iZ; (iterate 2 exact iZ); exact iZ))); exact RT.nil); (case hc => first | (refine checkR_un [(0, 2), (1, 2), (0, 5), (1, 5), (2, 5), (3, 5), (4, 5), (0, 6), (1, 6), (2, 6), (3, 6), (4, 6), (5, 6)] (by kernel_rfl) (by kernel_rfl) rfl ?_; simp [memA, disj, nbeq_dec]; done) | (show _ = _; kernel_rfl)); (case ht => simp [-addNew, dI, dL, dB, hqv, hix, hy', X.cells_eq, fillV, hb9]; exact iZ))
 | apply WP.block | apply WP.skip | apply WP.exit | apply WP.ret | refine WP.condT rfl ?_ | refine WP.condF rfl ?_)
     obtain rfl : id2 = id := by
      rcases hq4 with h | h
      ·exact (List.cons.inj h).1.symm
      ·exact absurd h.1 (by simp)
     refine loop_next (by simp [-addNew, hw]; exact Is.rfl) ?_
     refine ⟨D - 1, by omega, i + 1, g2, _, _, _, _, nmX B y, by omega, by rw [htk, nmXs_snoc, hB], by omega, ?_, ?_, WI.trunc (hwi1.sets fun z hz => ?_) (by omega), st_eq (by simp [dI, dL, dB, hw]) rfl⟩
     ·rw [get_trunc_lt (by omega), hsame id2 (by omega) (by rw [hq2]; rfl)]; exact hq2
     ·rw [get_trunc_lt (by omega), hfr n (by omega) (by simp; omega)]; exact hb9
     ·rcases hki z.1 (List.mem_map.2 ⟨z, hz, rfl⟩) with h | h
      ·rw [List.mem_singleton.1 h]; exact hio2
      ·exact .inr (by omega)
    ·simp at hb
     have hie : i = x.args.length := by omega
     rw [hie, List.take_length] at hB
     refine wkcektv (jn @dI.eq_1 (jn @dL.eq_1 @dB.eq_1)) ?_
     exact ⟨.inr rfl, _, rfl, by show n ≤ n'; omega, hwi, id, g', by rw [← hB]; rfl, by rw [← hB]; exact hy, by show id < n'; omega, hio⟩
end Go.Ac
end

section
set_option maxRecDepth 4000
namespace Go.Ac
open Go.Proofs
attribute [local simp] Hp.get_set get_trunc_lt
theorem aX_eq (x : X) : aG x.cells = .agg [.d (.int .i64 x.k), .d (.int .i64 x.o), .d (.int .i64 x.t), .d (.int .i64 x.v), .d (.str x.nm), .d (.slice (encX x.args))] := by rw [X.cells_eq]; rfl
theorem close_agg6 {look : Look} {a b c d e : D} {id g len sz : Nat} {cap : Option Nat} {x : D} {ids : List Nat} (h : toD look depthD (.osl id g 0 len sz cap) = some (x, ids)) : closeT look (.agg [.d a, .d b, .d c, .d d, .d e, .osl id g 0 len sz cap]) = some (.agg [.d a, .d b, .d c, .d d, .d e, .d x], ids) := by
 simp only [closeT, close, closeVs, close1, toD_d, ofD, h]
 simp
mutual
/-- An expression without samplings. -/
def stX : X → X
 | .mk k o t v nm [] => .mk k o t v nm []
 | .mk k o t v nm (a :: r) => if k = 8 then stX a else .mk k o t v nm (stX a :: stXs r)
def stXs : List X → List X
 | [] => []
 | x :: r => stX x :: stXs r
end
theorem stXs_map : ∀ l : List X, stXs l = l.map stX
 | [] => rfl
 | x :: r => by rw [stXs, stXs_map r]; rfl
theorem kf64 (r : Nat) : Ob.keep 64 r = Ob.k64 r := by kernel_rfl
attribute [local simp] kf64 Ob.k64
set_option maxHeartbeats 8000000 in
theorem strip64 : ∀ (N : Nat) (x : X), x.sz < N → x.sz ≤ 8388608 → den Tryz.prog Ob.cfg 64 [aG x.cells] = some (aG (stX x).cells)
 | 0, x, hN, hM => by omega
 | N + 1, x, hN, hM => by
  have hs0 := X.sz_eq x
  have hlen := len_szX x.args
  refine den_wp Tryz.func64 rfl (by kernel_rfl) rfl (by rw [X.cells_eq]; rfl) ?_
  by_cases c1 : x.k = 8 ∧ x.args ≠ []
  ·obtain ⟨ck, ca⟩ := c1
   cases ha : x.args with
   | nil => exact absurd ha ca
   | cons a r =>
    have e : stX x = stX a := by
     cases x; simp only [X.k, X.args] at ck ha; subst ck ha; rw [stX]; simp
    rw [e]
    have hm := mem_szX (l := x.args) (x := a) (by rw [ha]; simp)
    have hc := strip64 N a (by omega) (by omega)
    have h0 : encX (a :: r) = [.int .i64 a.k, .int .i64 a.o, .int .i64 a.t, .int .i64 a.v, .str a.nm, .slice (encX a.args)] :: encX r := by rw [← X.cells_eq]; simp [encX_map]
    have hi : idx 0 (r.length + 1) = some 0 := by unfold idx; simp
    have hk := eq_true ck
    have hpos := eq_true (show (0 : Int) < (r.length : Int) + 1 by omega)
    obtain ⟨z, hz⟩ : ∃ z, z = stX a := ⟨_, rfl⟩
    rw [← hz] at hc ⊢
    rw [aX_eq z]
    simp only [aG, X.cells_eq, List.map_cons, List.map_nil] at hc
    refine wkc (jn @envOf.eq_1 (jn @envOf.eq_2 (jn @aG.eq_1 (jn @X.cells_eq (jn @ha (jn @h0 (jn @int_beq (jn @hi (jn @hk (jn @hpos (jn @hc (jn @fillV.eq_1 @fillV.eq_2)))))))))))) ?_
    show retQ _ _ _ _ _
    exact ⟨.inr rfl, _, _, rfl, rfl⟩
  have e : stX x = .mk x.k x.o x.t x.v x.nm (stXs x.args) := by
   cases x with
   | mk k o t v nm args =>
    simp only [X.k, X.args] at c1
    cases args with
    | nil => rw [stX]; rfl
    | cons a r => rw [stX, if_neg (fun h => c1 ⟨h, by simp⟩)]; rfl
  rw [e]
  have e2 : aG (X.mk x.k x.o x.t x.v x.nm (stXs x.args)).cells = .agg [.d (.int .i64 x.k), .d (.int .i64 x.o), .d (.int .i64 x.t), .d (.int .i64 x.v), .d (.str x.nm), .d (.slice (encX (stXs x.args)))] := by simp [aG, X.cells]
  rw [e2]
  rcases (show x.k ≠ 8 ∨ (x.k = 8 ∧ x.args = []) by
   by_cases h : x.k = 8
   ·exact .inr ⟨h, Decidable.not_not.1 fun ha => c1 ⟨h, ha⟩⟩
   ·exact .inl h) with ck | ⟨ck, ha⟩
  have hk := eq_false ck
  refine wkc (jn @envOf.eq_1 (jn @envOf.eq_2 (jn @aG.eq_1 (jn @X.cells_eq (jn @int_beq (jn @hk (jn @fillV.eq_1 (jn @fillV.eq_2 @encX_len)))))))) ?_
  rotate_left
  have hk := eq_true ck
  have hpos := eq_false (show ¬ 0 < x.args.length by rw [ha]; simp)
  refine wkc (jn @envOf.eq_1 (jn @envOf.eq_2 (jn @aG.eq_1 (jn @X.cells_eq (jn @int_beq (jn @hk (jn @hpos (jn @fillV.eq_1 (jn @fillV.eq_2 @encX_len))))))))) ?_
  rotate_left
  all_goals
   apply WP.loop' (I := fun D s => ∃ (j g c' : Nat) (hp' : Hp), j + D = x.args.length ∧ hp'.get 2 = some ⟨g, false, fl (encX (stXs (x.args.take j)))⟩ ∧ hp'.get 0 = some ⟨0, false, [.d (.int .i64 x.k), .d (.int .i64 x.o), .d (.int .i64 x.t), .d (.int .i64 x.v), .d (.str x.nm), .d (.slice (encX x.args))]⟩ ∧ hp'.get 1 = some ⟨1, false, [.d (.int .i64 0), .d (.int .i64 0), .d (.int .i64 0), .d (.int .i64 0), .d (.str []), .full []]⟩ ∧
    s = ⟨[(1, .ptr 0 0 0), (2, .ptr 1 1 0), (3, .osl 2 g 0 j 6 none), (4, dI j)], hp', 3, c', 0, []⟩) (d := x.args.length)
   ·exact ⟨0, 2, _, _, by simp, by simp [fl, stXs, encX_map], by simp, by simp, st_eq (by simp [dI, dL]) rfl⟩
   rintro D _ ⟨j, g, c', hp', hj, hx, h0, h1, rfl⟩
   refine wk (jn @dI.eq_1 (jn @dL.eq_1 (jn @h0 @encX_len))) ?_
   have hLl : (encX (stXs (x.args.take j))).length = j := by rw [encX_len, stXs_map, List.length_map, List.length_take]; omega
   show WP _ _ _ _ _ _
   refine WP.cond _ rfl (fun hb => ?_) (fun hb => ?_)
   ·simp at hb
    have hb' : j < x.args.length := by omega
    obtain ⟨d, hd, hdm, hix⟩ := at_lt hb'
    have hd' := encX_at hd
    have hwj := w_succ hb' (by omega)
    have hms := mem_szX hdm
    have hc := strip64 N d (by omega) (by omega)
    obtain ⟨z, hz⟩ : ∃ z, z = stX d := ⟨_, rfl⟩
    rw [← hz] at hc
    simp only [aG, X.cells_eq, List.map_cons, List.map_nil] at hc
    have hsn : stXs (x.args.take (j + 1)) = stXs (x.args.take j) ++ [z] := by rw [stXs_map, stXs_map, take_snoc hd, hz]; simp
    have r2 := fl_len (encX_row (stXs (x.args.take j)))
    have r3 := fl_take (encX_row (stXs (x.args.take j)))
    have r4 := fl_snoc (encX (stXs (x.args.take j))) z.cells
    have f5 := fits72 (show j ≤ 8388608 by omega)
    rw [encX_snoc, ← hsn, X.cells_eq] at r4
    rw [hLl] at r2 r3
    simp only [List.map_cons, List.map_nil] at r4
    refine wkc (jn @dI.eq_1 (jn @dL.eq_1 (jn @X.cells_eq (jn @hix (jn @hd' (jn @hc (jn @fillV.eq_1 (jn @fillV.eq_2 (jn @closeParts.eq_1 (jn @closeParts.eq_2 (jn @cl2.eq_def (jn @toD_dep (jn @toD_d (jn @nble_d (jn @f5 (jn @r2 (jn @r3 (jn @r4 (jn @hx (jn @h0 @h1)))))))))))))))))))) ?_
    refine loop_next (by simp [hwj]; exact Is.rfl) ?_
    exact ⟨D - 1, by omega, j + 1, _, _, _, by omega, by simp; rfl, by simp [h0], by simp [h1], st_eq (by simp [dI, dL, hwj]) rfl⟩
   ·simp at hb
    have hje : j = x.args.length := by omega
    rw [hje, List.take_length] at hx hLl
    have hcl := fun a b => toD_fl (cap := none) (id := 2) (g := g) (ro := false) (look := ((hp'.set 0 a).set 1 b).get) (encX_row (stXs x.args)) (by simp; exact hx)
    rw [hLl, ← hje] at hcl
    refine wkc (jn @dI.eq_1 (jn @dL.eq_1 (jn @hx (jn @h0 (jn @h1 (jn @fillV.eq_1 @fillV.eq_2)))))) ?_
    refine ⟨.inr rfl, [.agg [.d (.int .i64 x.k), .d (.int .i64 x.o), .d (.int .i64 x.t), .d (.int .i64 x.v), .d (.str x.nm), .osl 2 g 0 j 6 none]], [2], ?_, close_agg6 (hcl _ _)⟩
    show resultsV Tryz.prog _ [_] = _
    simp [resultsV, resultV]

theorem kf71 (r : Nat) : Ob.keep 71 r = Ob.k71 r := by kernel_rfl
attribute [local simp] kf71 Ob.k71
set_option maxHeartbeats 8000000 in
theorem strip71 : ∀ (N : Nat) (x : X), x.sz < N → x.sz ≤ 8388608 → den Tryz.prog Ob.cfg 71 [aG x.cells] = some (aG (stX x).cells)
 | 0, x, hN, hM => by omega
 | N + 1, x, hN, hM => by
  have hs0 := X.sz_eq x
  have hlen := len_szX x.args
  refine den_wp Tryz.func71 rfl (by kernel_rfl) rfl (by rw [X.cells_eq]; rfl) ?_
  by_cases c1 : x.k = 8 ∧ x.args ≠ []
  ·obtain ⟨ck, ca⟩ := c1
   cases ha : x.args with
   | nil => exact absurd ha ca
   | cons a r =>
    have e : stX x = stX a := by
     cases x; simp only [X.k, X.args] at ck ha; subst ck ha; rw [stX]; simp
    rw [e]
    have hm := mem_szX (l := x.args) (x := a) (by rw [ha]; simp)
    have hc := strip71 N a (by omega) (by omega)
    have h0 : encX (a :: r) = [.int .i64 a.k, .int .i64 a.o, .int .i64 a.t, .int .i64 a.v, .str a.nm, .slice (encX a.args)] :: encX r := by rw [← X.cells_eq]; simp [encX_map]
    have hi : idx 0 (r.length + 1) = some 0 := by unfold idx; simp
    have hk := eq_true ck
    have hpos := eq_true (show (0 : Int) < (r.length : Int) + 1 by omega)
    obtain ⟨z, hz⟩ : ∃ z, z = stX a := ⟨_, rfl⟩
    rw [← hz] at hc ⊢
    rw [aX_eq z]
    simp only [aG, X.cells_eq, List.map_cons, List.map_nil] at hc
    refine wkc (jn @envOf.eq_1 (jn @envOf.eq_2 (jn @aG.eq_1 (jn @X.cells_eq (jn @ha (jn @h0 (jn @int_beq (jn @hi (jn @hk (jn @hpos (jn @hc (jn @fillV.eq_1 @fillV.eq_2)))))))))))) ?_
    show retQ _ _ _ _ _
    exact ⟨.inr rfl, _, _, rfl, rfl⟩
  have e : stX x = .mk x.k x.o x.t x.v x.nm (stXs x.args) := by
   cases x with
   | mk k o t v nm args =>
    simp only [X.k, X.args] at c1
    cases args with
    | nil => rw [stX]; rfl
    | cons a r => rw [stX, if_neg (fun h => c1 ⟨h, by simp⟩)]; rfl
  rw [e]
  have e2 : aG (X.mk x.k x.o x.t x.v x.nm (stXs x.args)).cells = .agg [.d (.int .i64 x.k), .d (.int .i64 x.o), .d (.int .i64 x.t), .d (.int .i64 x.v), .d (.str x.nm), .d (.slice (encX (stXs x.args)))] := by simp [aG, X.cells]
  rw [e2]
  rcases (show x.k ≠ 8 ∨ (x.k = 8 ∧ x.args = []) by
   by_cases h : x.k = 8
   ·exact .inr ⟨h, Decidable.not_not.1 fun ha => c1 ⟨h, ha⟩⟩
   ·exact .inl h) with ck | ⟨ck, ha⟩
  have hk := eq_false ck
  refine wkc (jn @envOf.eq_1 (jn @envOf.eq_2 (jn @aG.eq_1 (jn @X.cells_eq (jn @int_beq (jn @hk (jn @fillV.eq_1 (jn @fillV.eq_2 @encX_len)))))))) ?_
  rotate_left
  have hk := eq_true ck
  have hpos := eq_false (show ¬ 0 < x.args.length by rw [ha]; simp)
  refine wkc (jn @envOf.eq_1 (jn @envOf.eq_2 (jn @aG.eq_1 (jn @X.cells_eq (jn @int_beq (jn @hk (jn @hpos (jn @fillV.eq_1 (jn @fillV.eq_2 @encX_len))))))))) ?_
  rotate_left
  all_goals
   apply WP.loop' (I := fun D s => ∃ (j g c' : Nat) (hp' : Hp), j + D = x.args.length ∧ hp'.get 2 = some ⟨g, false, fl (encX (stXs (x.args.take j)))⟩ ∧ hp'.get 0 = some ⟨0, false, [.d (.int .i64 x.k), .d (.int .i64 x.o), .d (.int .i64 x.t), .d (.int .i64 x.v), .d (.str x.nm), .d (.slice (encX x.args))]⟩ ∧ hp'.get 1 = some ⟨1, false, [.d (.int .i64 0), .d (.int .i64 0), .d (.int .i64 0), .d (.int .i64 0), .d (.str []), .full []]⟩ ∧
    s = ⟨[(1, .ptr 0 0 0), (2, .ptr 1 1 0), (3, .osl 2 g 0 j 6 none), (21, dL (encX x.args)), (22, dI x.args.length), (23, dI j)], hp', 3, c', 0, []⟩) (d := x.args.length)
   ·exact ⟨0, 2, _, _, by simp, by simp [fl, stXs, encX_map], by simp, by simp, st_eq (by simp [dI, dL]) rfl⟩
   rintro D _ ⟨j, g, c', hp', hj, hx, h0, h1, rfl⟩
   refine wk (jn @dI.eq_1 (jn @dL.eq_1 (jn @h0 @encX_len))) ?_
   have hLl : (encX (stXs (x.args.take j))).length = j := by rw [encX_len, stXs_map, List.length_map, List.length_take]; omega
   show WP _ _ _ _ _ _
   refine WP.cond _ rfl (fun hb => ?_) (fun hb => ?_)
   ·simp at hb
    have hb' : j < x.args.length := by omega
    obtain ⟨d, hd, hdm, hix⟩ := at_lt hb'
    have hd' := encX_at hd
    have hwj := w_succ hb' (by omega)
    have hms := mem_szX hdm
    have hc := strip71 N d (by omega) (by omega)
    obtain ⟨z, hz⟩ : ∃ z, z = stX d := ⟨_, rfl⟩
    rw [← hz] at hc
    simp only [aG, X.cells_eq, List.map_cons, List.map_nil] at hc
    have hsn : stXs (x.args.take (j + 1)) = stXs (x.args.take j) ++ [z] := by rw [stXs_map, stXs_map, take_snoc hd, hz]; simp
    have r2 := fl_len (encX_row (stXs (x.args.take j)))
    have r3 := fl_take (encX_row (stXs (x.args.take j)))
    have r4 := fl_snoc (encX (stXs (x.args.take j))) z.cells
    have f5 := fits72 (show j ≤ 8388608 by omega)
    rw [encX_snoc, ← hsn, X.cells_eq] at r4
    rw [hLl] at r2 r3
    simp only [List.map_cons, List.map_nil] at r4
    refine wkc (jn @dI.eq_1 (jn @dL.eq_1 (jn @X.cells_eq (jn @hix (jn @hd' (jn @hc (jn @fillV.eq_1 (jn @fillV.eq_2 (jn @closeParts.eq_1 (jn @closeParts.eq_2 (jn @cl2.eq_def (jn @toD_dep (jn @toD_d (jn @nble_d (jn @f5 (jn @r2 (jn @r3 (jn @r4 (jn @hx (jn @h0 @h1)))))))))))))))))))) ?_
    refine loop_next (by simp [hwj]; exact Is.rfl) ?_
    exact ⟨D - 1, by omega, j + 1, _, _, _, by omega, by simp; rfl, by simp [h0], by simp [h1], st_eq (by simp [dI, dL, hwj]) rfl⟩
   ·simp at hb
    have hje : j = x.args.length := by omega
    rw [hje, List.take_length] at hx hLl
    have hcl := fun a b => toD_fl (cap := none) (id := 2) (g := g) (ro := false) (look := ((hp'.set 0 a).set 1 b).get) (encX_row (stXs x.args)) (by simp; exact hx)
    rw [hLl, ← hje] at hcl
    refine wkc (jn @dI.eq_1 (jn @dL.eq_1 (jn @hx (jn @h0 (jn @h1 (jn @fillV.eq_1 @fillV.eq_2)))))) ?_
    refine ⟨.inr rfl, [.agg [.d (.int .i64 x.k), .d (.int .i64 x.o), .d (.int .i64 x.t), .d (.int .i64 x.v), .d (.str x.nm), .osl 2 g 0 j 6 none]], [2], ?_, close_agg6 (hcl _ _)⟩
    show resultsV Tryz.prog _ [_] = _
    simp [resultsV, resultV]

theorem kf39 (r : Nat) : Ob.keep 39 r = Ob.k39 r := by kernel_rfl
attribute [local simp] kf39 Ob.k39
set_option maxHeartbeats 4000000 in
theorem strips39 (l : List X) (hl : szX l ≤ 8388608) : den Tryz.prog Ob.cfg 39 [dL (encX l)] = some (dL (encX (stXs l))) := by
 have hlen := len_szX l
 refine den_wp Tryz.func39 rfl (by kernel_rfl) rfl rfl ?_
 refine wkc (jn @envOf.eq_1 (jn @envOf.eq_2 (jn @dL.eq_1 (jn @fillV.eq_1 (jn @fillV.eq_2 @encX_len))))) ?_
 apply WP.loop' (I := fun D s => ∃ (j g c' : Nat) (hp' : Hp), j + D = l.length ∧ hp'.get 0 = some ⟨g, false, fl (encX (stXs (l.take j)))⟩ ∧
  s = ⟨[(0, dL (encX l)), (3, .osl 0 g 0 j 6 none), (4, dI j)], hp', 1, c', 0, []⟩) (d := l.length)
 ·exact ⟨0, 0, _, _, by simp, by simp [fl, stXs, encX_map], st_eq (by simp [dI, dL]) rfl⟩
 rintro D _ ⟨j, g, c', hp', hj, hx, rfl⟩
 refine wk (jn @dI.eq_1 (jn @dL.eq_1 @encX_len)) ?_
 have hLl : (encX (stXs (l.take j))).length = j := by rw [encX_len, stXs_map, List.length_map, List.length_take]; omega
 show WP _ _ _ _ _ _
 refine WP.cond _ rfl (fun hb => ?_) (fun hb => ?_)
 ·simp at hb
  have hb' : j < l.length := by omega
  obtain ⟨d, hd, hdm, hix⟩ := at_lt hb'
  have hd' := encX_at hd
  have hwj := w_succ hb' (by omega)
  have hms := mem_szX hdm
  have hc := strip64 (d.sz + 1) d (by omega) (by omega)
  obtain ⟨z, hz⟩ : ∃ z, z = stX d := ⟨_, rfl⟩
  rw [← hz] at hc
  simp only [aG, X.cells_eq, List.map_cons, List.map_nil] at hc
  have hsn : stXs (l.take (j + 1)) = stXs (l.take j) ++ [z] := by rw [stXs_map, stXs_map, take_snoc hd, hz]; simp
  have r2 := fl_len (encX_row (stXs (l.take j)))
  have r3 := fl_take (encX_row (stXs (l.take j)))
  have r4 := fl_snoc (encX (stXs (l.take j))) z.cells
  have f5 := fits72 (show j ≤ 8388608 by omega)
  rw [encX_snoc, ← hsn, X.cells_eq] at r4
  rw [hLl] at r2 r3
  simp only [List.map_cons, List.map_nil] at r4
  refine wkc (jn @dI.eq_1 (jn @dL.eq_1 (jn @X.cells_eq (jn @hix (jn @hd' (jn @hc (jn @fillV.eq_1 (jn @fillV.eq_2 (jn @closeParts.eq_1 (jn @closeParts.eq_2 (jn @cl2.eq_def (jn @toD_dep (jn @toD_d (jn @nble_d (jn @f5 (jn @r2 (jn @r3 (jn @r4 @hx)))))))))))))))))) ?_
  refine loop_next (by simp [hwj]; exact Is.rfl) ?_
  exact ⟨D - 1, by omega, j + 1, _, _, _, by omega, by simp; rfl, st_eq (by simp [dI, dL, hwj]) rfl⟩
 ·simp at hb
  have hje : j = l.length := by omega
  rw [hje, List.take_length] at hx hLl
  have hcl := close_fl (cap := none) (look := hp'.get) (encX_row (stXs l)) hx
  rw [hLl, ← hje] at hcl
  refine wkc (jn @dI.eq_1 @dL.eq_1) ?_
  show retQ _ _ _ _ _
  exact ⟨.inr rfl, _, _, rfl, hcl⟩
end Go.Ac
end
