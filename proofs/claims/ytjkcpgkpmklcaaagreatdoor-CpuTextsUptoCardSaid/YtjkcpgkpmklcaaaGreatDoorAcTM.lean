/- The abstract machine: what stands between regions; code; calls. No conditions. -/
import Derived.Test.YtjkcpgkpmklcaaaGreatDoorAcRhM
set_option linter.unusedVariables false
set_option linter.unusedSimpArgs false
section
namespace Go.Ac
variable {P : Program}

/-- A state of the abstract machine stands for a state of the model. -/
structure RS [Gl] (S : Nat → Prop) (N : Nat) (s : St) (m : M) (a : Act) : Prop where
 h : m.h = s.hp.get
 iss : m.iss = fun _ g => g < s.c
 rel : Rel S m
 env : ∀ t, RV S m (s.env.get t) (a.tmps.getD t undef)
 size : a.tmps.size = N
 defers : a.defers = []
 top : Tops s.hp s.n
 n0 : s.n0 ≤ s.n

theorem fx_none {β : Type} {F : Nat → (Nat → β) → Nat → β} {f0 : Nat → β} {X : Nat → Bool} : ∀ {k : Nat}, (∀ i, i < k → X i = false) → fx F X f0 k = f0
 | 0, _ => rfl
 | k + 1, h => by simp only [fx]; rw [h k (by omega)]; exact fx_none fun i hi => h i (by omega)

section
variable {S : Nat → Prop} {m : M} {cfg : Cfg} {fid rid : Nat} {call : CallF} {ops : Array Oper} {σ : Nat → St} {ρ : Nat → Res} {s0 : St} {N : Nat} {a : Act}

theorem RS.start [Gl] (h : RS S N s0 m a) {X : Nat → Bool} (hX : ∀ i, i < ops.size → X i = false) : XR S m s0 ops σ ρ N X m a where
 rel := h.rel
 evo := .refl S m
 h := by rw [fx_none hX]; exact h.h
 iss := by
  rw [h.iss]
  funext _ g
  apply propext
  constructor
  ·exact .inl
  ·rintro (h | ⟨i, q1, q2, _⟩)
   ·exact h
   ·rw [hX i q1] at q2; cases q2
 env t _ := by rw [fx_none hX]; exact h.env t
 size := h.size
 defers := h.defers

theorem XR.done [Gl] (t : Trace P cfg fid rid call ops.toList ops.toList σ ρ) (h0 : σ 0 = s0) (hn0 : s0.n0 ≤ s0.n) (ht : Tops s0.hp s0.n) {m0 : M} {X : Nat → Bool} (hX : ∀ i, i < ops.size → X i = true) (h : XR S m0 s0 ops σ ρ N X m a) : RS S N (σ ops.size) m a where
 rel := h.rel
 h := by rw [t.hp h0 _ (Nat.le_refl _), h.h]; exact fx_congr fun i hi => hX i hi
 iss := by
  rw [h.iss]
  funext _ g
  apply propext
  constructor
  ·rintro (h | ⟨i, q1, q2, q3, q4⟩)
   ·have := t.c_le (i := 0) (j := ops.size) (by omega) (by omega); rw [h0] at this; omega
   ·have := t.c_le (i := i + 1) (j := ops.size) (by omega) (by omega)
    rw [t.c q1] at this; omega
  ·intro hg
   rcases t.find h0 (Nat.le_refl _) hg with h | ⟨i, q1, q2⟩
   ·exact .inl h
   ·exact .inr ⟨i, q1, hX i q1, q2⟩
 env s := by
  have := h.env s (fun h => h)
  rw [fx_congr (Y := fun _ => true) fun i hi => hX i hi, ← t.env h0 _ (Nat.le_refl _)] at this
  exact this
 size := h.size
 defers := h.defers
 top := (t.log h0 _ (Nat.le_refl _)).top hn0 ht
 n0 := by
  have := t.log h0 _ (Nat.le_refl _)
  rw [this.n0]; exact Nat.le_trans hn0 this.n

theorem text_ops [Gl] (hN : Pre P cfg) (hc : CallOK P call) (hB : Bodies P call) (t : Trace P cfg fid rid call ops.toList ops.toList σ ρ) (h0 : σ 0 = s0) (hn0 : s0.n0 ≤ s0.n) (ht : Tops s0.hp s0.n)
  (hdst : ∀ (i : Nat) (o : Oper) (d : Nat), ops[i]? = some o → o.dst = some d → d < N) {m0 : M} {Q : Exit → Act → World → Prop} (hQ : ∀ m' a', RS S N (σ ops.size) m' a' → Evo S m0 m' → Q .normal a' m'.w) :
  ∀ (n j : Nat) {m : M} {a : Act}, j + n = ops.size → XR S m0 s0 ops σ ρ N (fun i => decide (i < j)) m a → wpOps P ops Q (List.range' j n) a m.w
 | 0, j, m, a, hj, hx => by
  simp only [List.range', wpOps]
  exact hQ m a (hx.done t h0 hn0 ht fun i hi => by simp; omega) hx.evo
 | n + 1, j, m, a, hj, hx => by
  rw [List.range'_succ, wpOps_cons]
  have hlt : j < ops.size := by omega
  refine hx.step hN hc hB t h0 hn0 ht hdst (j := j) (o := ops[j]) (by simp [hlt]) (by simp) (fun i p hi _ hX => by simp at hX; omega) (fun i p hi _ hX => by simp at hX; omega) fun m' a' hx' => ?_
  refine text_ops hN hc hB t h0 hn0 ht hdst hQ n (j + 1) (by omega) ?_
  have : upd (fun i => decide (i < j)) j true = fun i => decide (i < j + 1) := by
   funext i
   by_cases hi : i = j
   ·subst hi; simp
   ·rw [upd_ne _ _ hi]
    apply decide_eq_decide.2; omega
  rw [← this]; exact hx'

theorem any_ops0 [Gl] (hN : Pre P cfg) (hc : CallOK P call) (hB : Bodies P call) (t : Trace P cfg fid rid call ops.toList ops.toList σ ρ) (h0 : σ 0 = s0) (hn0 : s0.n0 ≤ s0.n) (ht : Tops s0.hp s0.n)
  (hdst : ∀ (i : Nat) (o : Oper) (d : Nat), ops[i]? = some o → o.dst = some d → d < N)
  (hord : ∀ (i : Nat) (o : Oper), ops[i]? = some o → ∀ e ∈ o.after, Region.binds .any e = true → e.on < i)
  (hchk : checkOps P cfg fid rid call ops.toList ops.toList (anc ops.toList) [] s0 = true)
  {m0 : M} {Q : Exit → Act → World → Prop} (hQ : ∀ m' a', RS S N (σ ops.size) m' a' → Evo S m0 m' → Q .normal a' m'.w) :
  ∀ (fuel : Nat) (listed : Array Bool) (L : List Nat) {m : M} {a : Act}, listed.size = ops.size →
   (∀ (i : Nat) (o : Oper), ops[i]? = some o → listed.getD i false = true → ∀ e ∈ o.after, Region.binds .any e = true → listed.getD e.on false = true) →
   (∀ i, i < ops.size → listed.getD i false = false → i ∈ L) → L.length ≤ fuel → XR S m0 s0 ops σ ρ N (fun i => listed.getD i false) m a → wpAny P .any ops Q fuel listed a m.w := by
 have allDone : ∀ (listed : Array Bool), listed.size = ops.size → Region.ready .any ops listed = [] → ∀ i, i < ops.size → listed.getD i false = true := by
  intro listed hsz hr
  have : ∀ n i, i < n → i < ops.size → listed.getD i false = true := by
   intro n
   induction n with
   | zero => intro i h; omega
   | succ n ih =>
    intro i hi hlt
    cases hg : listed.getD i false with
    | true => rfl
    | false =>
     exfalso
     have : i ∈ Region.ready .any ops listed := by
      rw [mem_ready]
      refine ⟨?_, ops[i], by simp [hlt], fun e he hb => ?_⟩
      ·have h1 : i < listed.size := by omega
       simp [h1] at hg ⊢; exact hg
      ·have := hord i ops[i] (by simp [hlt]) e he hb
       exact ih e.on (by omega) (by omega)
     rw [hr] at this
     cases this
  exact fun i hi => this (i + 1) i (by omega) hi
 intro fuel
 induction fuel with
 | zero =>
  intro listed L m a hsz hcl hL hlen hx
  have hL0 : L = [] := List.length_eq_zero_iff.1 (by omega)
  subst hL0
  have hall : ∀ i, i < ops.size → listed.getD i false = true := fun i hi => by
   cases hg : listed.getD i false with
   | true => rfl
   | false => have := hL i hi hg; simp at this
  refine ⟨?_, hQ m a (hx.done t h0 hn0 ht hall) hx.evo⟩
  cases hr : Region.ready .any ops listed with
  | nil => rfl
  | cons j r =>
   exfalso
   have hj : j ∈ Region.ready .any ops listed := by rw [hr]; simp
   rw [mem_ready] at hj
   obtain ⟨h1, o, ho, _⟩ := hj
   have hlt : j < ops.size := (Array.getElem?_eq_some_iff.1 ho).1
   have h2 := hall j hlt
   have h3 : j < listed.size := by omega
   simp [h3] at h1 h2
   rw [h1] at h2; cases h2
 | succ fuel ih =>
  intro listed L m a hsz hcl hL hlen hx
  refine ⟨fun hr => hQ m a (hx.done t h0 hn0 ht (allDone listed hsz hr)) hx.evo, fun j hj => ?_⟩
  rw [mem_ready] at hj
  obtain ⟨hj1, o, ho, hpre⟩ := hj
  have hlt : j < ops.size := (Array.getElem?_eq_some_iff.1 ho).1
  have hjl : j < listed.size := by omega
  have hXj : listed.getD j false = false := by simp [hjl] at hj1 ⊢; exact hj1
  have hclX : ∀ (i : Nat) (o : Oper), ops.toList[i]? = some o → (fun i => listed.getD i false) i = true → ∀ e ∈ o.after.toList, Region.binds .any e = true → (fun i => listed.getD i false) e.on = true :=
   fun i o ho hX e he hb => hcl i o (by simpa using ho) hX e (by simpa using he) hb
  obtain ⟨ha1, ha2⟩ := anc_spec ops.toList hclX
  have hct := checkOps_trace hchk h0 t
  refine hx.step hN hc hB t h0 hn0 ht hdst ho hXj (fun i p hi hp hXi => ?_) (fun i p hi hp hXi => ?_) fun m' a' hx' => ?_
  ·obtain ⟨b, hb1, _, hb3⟩ := hct j o (by simpa using ho)
   rcases hb3 i p hi (by simpa using hp) with h | h
   ·have := ha2 j o b (by simpa using ho) hb1 (fun e he hbb => hpre e (by simpa using he) hbb) i (by simpa using h)
    rw [this] at hXi; cases hXi
   ·exact h
  ·obtain ⟨b, hb1, _, hb3⟩ := hct i p (by simpa using hp)
   rcases hb3 j o hi (by simpa using ho) with h | h
   ·have := ha2 i p b (by simpa using hp) hb1 (fun e he hbb => hcl i p hp hXi e (by simpa using he) hbb) j (by simpa using h)
    have h' : listed.getD j false = true := this
    rw [h'] at hXj; cases hXj
   ·exact h
  ·have hup : upd (fun i => listed.getD i false) j true = fun i => (listed.setIfInBounds j true).getD i false := by
    funext i
    by_cases hi : i = j
    ·subst hi; simp [hjl]
    ·rw [upd_ne _ _ hi, getD_set_ne false (Ne.symm hi)]
   refine ih (listed.setIfInBounds j true) (L.erase j) (by simp [hsz]) (fun i p hp hX e he hb => ?_) (fun i hi hX => ?_) ?_ (hup ▸ hx')
   ·by_cases hi : i = j
    ·subst hi
     rw [ho] at hp; cases hp
     exact getD_set_true (hpre e he hb)
    ·rw [getD_set_ne false (Ne.symm hi)] at hX
     exact getD_set_true (hcl i p hp hX e he hb)
   ·have hne : i ≠ j := fun h => by subst h; simp [hjl] at hX
    rw [getD_set_ne false (Ne.symm hne)] at hX
    exact (List.mem_erase_of_ne hne).2 (hL i hi hX)
   ·have := hL j hlt hXj
    have := List.length_erase_of_mem this
    omega

/-- The last operation but one makes an object. -/
structure Late (ops : Array Oper) (k : Nat) (o : Oper) (t d : Nat) : Prop where
 size : ops.size = k + 2
 at_ : ops[k]? = some o
 op : o.op = .alloc t
 guard : o.guard = none
 dst : o.dst = some d
 low : ∀ (i : Nat) (p : Oper), i < k → ops[i]? = some p → d ∉ opdSlots p ops.toList ∧ p.dst ≠ some d
 last : ∀ i, i < k + 1 → ∃ a, (anc ops.toList)[k + 1]? = some a ∧ i ∈ a

theorem lateOK_spec (h : lateOK ops.toList = true) : ∃ k o t d, Late ops k o t d := by
 unfold lateOK at h
 split at h
 ·rename_i k hk
  split at h
  ·rename_i o ho
   split at h
   ·rename_i t hop
    split at h
    ·rename_i d hg hd
     simp only [Bool.and_eq_true, List.all_eq_true, List.mem_range] at h
     have hsz : ops.size = k + 2 := by simpa using hk
     refine ⟨k, o, t, d, hsz, by simpa using ho, hop, hg, hd, fun i p hi hp => ?_, fun i hi => ?_⟩
     ·have := h.1 p (List.mem_iff_getElem?.2 ⟨i, by rw [List.getElem?_take, if_pos hi]; simpa using hp⟩)
      simpa using this
     ·have h2 := h.2 i hi
      rw [List.getD_eq_getElem?_getD] at h2
      cases ha : (anc ops.toList)[k + 1]? with
      | none => rw [ha] at h2; simp at h2
      | some a => rw [ha] at h2; exact ⟨a, rfl, by simpa using h2⟩
    ·simp at h
   ·simp at h
  ·simp at h
 ·simp at h

/-- The object has been made before its turn: it is hidden. -/
def XL [Gl] (S : Nat → Prop) (m0 : M) (s0 : St) (ops : Array Oper) (σ : Nat → St) (ρ : Nat → Res) (N k t d : Nat) (z : Value) (X : Nat → Bool) (m : M) (a : Act) : Prop :=
 ∃ m1 : M, Evo S m0 m1 ∧ ¬ S m1.w.heap.size ∧ a.tmps.getD d undef = .pointer (some ⟨m1.w.heap.size, 0, none⟩) ∧
  XRd (fun s => s = d) (fun x => S x ∨ x = m1.w.heap.size) { m1 with w := { m1.w with heap := m1.w.heap.push (Obj.cells z.cells t (0, 0)) } } s0 ops σ ρ N (fun i => if i = k then false else X i) m a

theorem XL.adopt [Gl] (tr : Trace P cfg fid rid call ops.toList ops.toList σ ρ) (h0 : σ 0 = s0) {k t d : Nat} {o : Oper} (hl : Late ops k o t d) {z : Value}
  (hz : ρ k = ⟨.ptr (σ k).n (σ k).c 0, [((σ k).n, ⟨(σ k).c, false, z.cells.toList.map constV1⟩)], [], 1, 1, false⟩) (hone : (z.cells.toList.map constV1).all V.one = true)
  {m0 : M} {X : Nat → Bool} (hk : X k = true) (hlast : X (k + 1) = false) (h : XL S m0 s0 ops σ ρ N k t d z X m a) : ∃ m', m'.w = m.w ∧ XR S m0 s0 ops σ ρ N X m' a := by
 obtain ⟨m1, e1, hS1, ha, hx⟩ := h
 have hX' : (fun i => if i = k then false else X i) k = false := by simp
 have hXu : ∀ i, i < ops.size → X i = upd (fun i => if i = k then false else X i) k true i := fun i _ => by
  by_cases hi : i = k
  ·subst hi; rw [upd_same]; exact hk
  ·rw [upd_ne _ _ hi]; simp [hi]
 have hhigh : ∀ i, k < i → i < ops.size → (fun i => if i = k then false else X i) i = true → False := fun i hi hi2 hX => by
  have : i = k + 1 := by have := hl.size; omega
  subst this
  simp [hlast] at hX
 have hklt : k < ops.size := by have := hl.size; omega
 have hg : ¬ m.iss (σ k).n (σ k).c := fun hi => by
  rw [hx.iss] at hi
  rcases hi with hi | ⟨i, q1, q2, q3, q4⟩
  ·have := tr.c_le (i := 0) (j := k) (by omega) (by omega); rw [h0] at this; omega
  ·rcases Nat.lt_trichotomy i k with hik | hik | hik
   ·have := tr.c_le (i := i + 1) (j := k) (by omega) (by omega)
    rw [tr.c q1] at this; omega
   ·subst hik; simp at q2
   ·exact hhigh i hik q1 q2
 have hrow : m.w.heap[m1.w.heap.size]? = some (Obj.cells z.cells t (0, 0)) := by
  rw [hx.evo.keepS m1.w.heap.size (by simp) (.inr rfl)]; simp
 obtain ⟨r1, r2⟩ := hx.rel.adopt (S := S) (id := (σ k).n) (c := (σ k).c) (cells := z.cells.toList.map constV1) (fun _ => Iff.rfl) hS1 hrow hg (by simp) fun j v hv => by
  obtain ⟨x, g1, g2⟩ := (constVs_RVs (S := S) (m := m.adopt (σ k).n m1.w.heap.size (σ k).c (z.cells.toList.map constV1)) z.cells.toList).get hv
  exact ⟨List.all_eq_true.1 hone v (List.mem_of_getElem? hv), x, by simpa using g1, g2⟩
 refine ⟨m.adopt (σ k).n m1.w.heap.size (σ k).c (z.cells.toList.map constV1), rfl, r1, ?_, ?_, ?_, ?_, hx.size, hx.defers⟩
 ·exact e1.trans (Evo.adopt (w' := { m1.w with heap := m1.w.heap.push (Obj.cells z.cells t (0, 0)) }) (fun _ => Iff.rfl) (fun b hb => by simp [Array.getElem?_push_lt hb, hb]) (by simp) ⟨rfl, rfl⟩ hx.evo hg)
 ·rw [fx_congr hXu, fx_add (acts_FH ρ) hX' hklt (fun i hi hi' hXi => (hhigh i hi hi' hXi).elim), ← hx.h]
  unfold FH
  rw [hz]; rfl
 ·show (fun i g => m.iss i g ∨ ((σ k).c ≤ g ∧ g < (σ k).c + 1)) = _
  rw [hx.iss]
  funext _ g
  apply propext
  have hdc : (ρ k).dc = 1 := by rw [hz]
  constructor
  ·rintro ((h | ⟨i, q1, q2, q3⟩) | h)
   ·exact .inl h
   ·refine .inr ⟨i, q1, ?_, q3⟩
    by_cases hik : i = k
    ·subst hik; exact hk
    ·simpa [hik] using q2
   ·exact .inr ⟨k, hklt, hk, by rw [hdc]; exact h⟩
  ·rintro (h | ⟨i, q1, q2, q3⟩)
   ·exact .inl (.inl h)
   ·by_cases hik : i = k
    ·subst hik; rw [hdc] at q3; exact .inr q3
    ·exact .inl (.inr ⟨i, q1, by simp [hik, q2], q3⟩)
 ·intro s _
  rw [fx_congr hXu, fx_add (acts_FE ops ρ) hX' hklt (fun i hi hi' hXi => (hhigh i hi hi' hXi).elim)]
  unfold FE putE
  rw [show (ops[k]?).bind (·.dst) = some d by rw [hl.at_]; exact hl.dst]
  simp only
  by_cases hs : s = d
  ·subst hs
   rw [upd_same, ha, hz]
   refine .ptr (.inr ⟨Nat.le_refl _, Nat.lt_succ_self _⟩) rfl fun ob ho hgen => ?_
   simp only [M.adopt, upd_same, Option.some.injEq] at ho
   subst ho
   exact ⟨kind_of_one fun j v hv => List.all_eq_true.1 hone v (List.mem_of_getElem? hv), m1.w.heap.size, 0, by simp [M.adopt], rfl⟩
  ·rw [upd_ne _ _ hs]
   exact (hx.env s hs).tr2 r2

theorem any_opsL [Gl] (hN : Pre P cfg) (hc : CallOK P call) (hB : Bodies P call) (t : Trace P cfg fid rid call ops.toList ops.toList σ ρ) (h0 : σ 0 = s0) (hn0 : s0.n0 ≤ s0.n) (ht : Tops s0.hp s0.n)
  (hdst : ∀ (i : Nat) (o : Oper) (d : Nat), ops[i]? = some o → o.dst = some d → d < N)
  (hord : ∀ (i : Nat) (o : Oper), ops[i]? = some o → ∀ e ∈ o.after, Region.binds .any e = true → e.on < i)
  {k ty d : Nat} {ok : Oper} (hl : Late ops k ok ty d)
  (hchk : checkOps P cfg fid rid call ops.toList ops.toList ((anc ops.toList).set k (List.range k)) [] s0 = true)
  {z : Value} (hz : ρ k = ⟨.ptr (σ k).n (σ k).c 0, [((σ k).n, ⟨(σ k).c, false, z.cells.toList.map constV1⟩)], [], 1, 1, false⟩) (hone : (z.cells.toList.map constV1).all V.one = true) (hzr : ∀ w, (zeroValue ty).run P w = .ok z w)
  {m0 : M} {Q : Exit → Act → World → Prop} (hQ : ∀ m' a', RS S N (σ ops.size) m' a' → Evo S m0 m' → Q .normal a' m'.w) :
  ∀ (fuel : Nat) (listed : Array Bool) (L : List Nat) {m : M} {a : Act}, listed.size = ops.size →
   (∀ (i : Nat) (o : Oper), ops[i]? = some o → listed.getD i false = true → ∀ e ∈ o.after, Region.binds .any e = true → listed.getD e.on false = true) →
   (∀ i, i < ops.size → listed.getD i false = false → i ∈ L) → L.length ≤ fuel →
   ((listed.getD k false = true ∧ (∃ i, i < k ∧ listed.getD i false = false) ∧ XL S m0 s0 ops σ ρ N k ty d z (fun i => listed.getD i false) m a) ∨
    (¬ (listed.getD k false = true ∧ ∃ i, i < k ∧ listed.getD i false = false) ∧ XR S m0 s0 ops σ ρ N (fun i => listed.getD i false) m a)) → wpAny P .any ops Q fuel listed a m.w := by
 have hsz0 := hl.size
 have allDone : ∀ (listed : Array Bool), listed.size = ops.size → Region.ready .any ops listed = [] → ∀ i, i < ops.size → listed.getD i false = true := by
  intro listed hsz hr
  have : ∀ n i, i < n → i < ops.size → listed.getD i false = true := by
   intro n
   induction n with
   | zero => intro i h; omega
   | succ n ih =>
    intro i hi hlt
    cases hg : listed.getD i false with
    | true => rfl
    | false =>
     exfalso
     have : i ∈ Region.ready .any ops listed := by
      rw [mem_ready]
      refine ⟨?_, ops[i], by simp [hlt], fun e he hb => ?_⟩
      ·have h1 : i < listed.size := by omega
       simp [h1] at hg ⊢; exact hg
      ·have := hord i ops[i] (by simp [hlt]) e he hb
       exact ih e.on (by omega) (by omega)
     rw [hr] at this
     cases this
  exact fun i hi => this (i + 1) i (by omega) hi
 intro fuel
 induction fuel with
 | zero =>
  intro listed L m a hsz hcl hL hlen hJ
  have hL0 : L = [] := List.length_eq_zero_iff.1 (by omega)
  subst hL0
  have hall : ∀ i, i < ops.size → listed.getD i false = true := fun i hi => by
   cases hg : listed.getD i false with
   | true => rfl
   | false => have := hL i hi hg; simp at this
  have hx : XR S m0 s0 ops σ ρ N (fun i => listed.getD i false) m a := by
   rcases hJ with ⟨_, ⟨i, hi, hf⟩, _⟩ | ⟨_, hx⟩
   ·rw [hall i (by omega)] at hf; cases hf
   ·exact hx
  refine ⟨?_, hQ m a (hx.done t h0 hn0 ht hall) hx.evo⟩
  cases hr : Region.ready .any ops listed with
  | nil => rfl
  | cons j r =>
   exfalso
   have hj : j ∈ Region.ready .any ops listed := by rw [hr]; simp
   rw [mem_ready] at hj
   obtain ⟨h1, o, ho, _⟩ := hj
   have hlt : j < ops.size := (Array.getElem?_eq_some_iff.1 ho).1
   have h2 := hall j hlt
   have h3 : j < listed.size := by omega
   simp [h3] at h1 h2
   rw [h1] at h2; cases h2
 | succ fuel ih =>
  intro listed L m a hsz hcl hL hlen hJ
  refine ⟨fun hr => ?_, fun j hj => ?_⟩
  ·have hall := allDone listed hsz hr
   rcases hJ with ⟨_, ⟨i, hi, hf⟩, _⟩ | ⟨_, hx⟩
   ·rw [hall i (by omega)] at hf; cases hf
   ·exact hQ m a (hx.done t h0 hn0 ht hall) hx.evo
  rw [mem_ready] at hj
  obtain ⟨hj1, o, ho, hpre⟩ := hj
  have hlt : j < ops.size := (Array.getElem?_eq_some_iff.1 ho).1
  have hjl : j < listed.size := by omega
  have hXj : listed.getD j false = false := by simp [hjl] at hj1 ⊢; exact hj1
  have hclX : ∀ (i : Nat) (o : Oper), ops.toList[i]? = some o → (fun i => listed.getD i false) i = true → ∀ e ∈ o.after.toList, Region.binds .any e = true → (fun i => listed.getD i false) e.on = true :=
   fun i o ho hX e he hb => hcl i o (by simpa using ho) hX e (by simpa using he) hb
  obtain ⟨ha1, ha2⟩ := anc_spec ops.toList hclX
  have hct := checkOps_trace hchk h0 t
  have hup : upd (fun i => listed.getD i false) j true = fun i => (listed.setIfInBounds j true).getD i false := by
   funext i
   by_cases hi : i = j
   ·subst hi; simp [hjl]
   ·rw [upd_ne _ _ hi, getD_set_ne false (Ne.symm hi)]
  have hnext : ∀ {m' : M} {a' : Act}, (((listed.setIfInBounds j true).getD k false = true ∧ (∃ i, i < k ∧ (listed.setIfInBounds j true).getD i false = false) ∧ XL S m0 s0 ops σ ρ N k ty d z (fun i => (listed.setIfInBounds j true).getD i false) m' a') ∨
    (¬ ((listed.setIfInBounds j true).getD k false = true ∧ ∃ i, i < k ∧ (listed.setIfInBounds j true).getD i false = false) ∧ XR S m0 s0 ops σ ρ N (fun i => (listed.setIfInBounds j true).getD i false) m' a')) → wpAny P .any ops Q fuel (listed.setIfInBounds j true) a' m'.w := by
   refine fun {m' a'} => ih (listed.setIfInBounds j true) (L.erase j) (by simp [hsz]) (fun i p hp hX e he hb => ?_) (fun i hi hX => ?_) ?_
   ·by_cases hi : i = j
    ·subst hi
     rw [ho] at hp; cases hp
     exact getD_set_true (hpre e he hb)
    ·rw [getD_set_ne false (Ne.symm hi)] at hX
     exact getD_set_true (hcl i p hp hX e he hb)
   ·have hne : i ≠ j := fun h => by subst h; simp [hjl] at hX
    rw [getD_set_ne false (Ne.symm hne)] at hX
    exact (List.mem_erase_of_ne hne).2 (hL i hi hX)
   ·have := hL j hlt hXj
    have := List.length_erase_of_mem this
    omega
  have hlast : listed.getD (k + 1) false = true → ∀ i, i < k + 1 → listed.getD i false = true := fun h i hi => by
   obtain ⟨b, hb1, hb2⟩ := hl.last i hi
   have hkl : k + 1 < ops.size := by omega
   exact ha2 (k + 1) ops[k + 1] b (by simp [hkl]) hb1 (fun e he hbb => hclX (k + 1) ops[k + 1] (by simp [hkl]) h e he hbb) i hb2
  -- what the check says of two operations before the object's
  have low : ∀ (i j : Nat) (p q : Oper), i < j → j ≠ k → ops[i]? = some p → ops[j]? = some q → (∃ b, (anc ops.toList)[j]? = some b ∧ i ∈ b) ∨ apartT (trOf p ops.toList (ρ i)) (trOf q ops.toList (ρ j)) = true := by
   intro i j p q hi hjk hp hq
   obtain ⟨b, hb1, _, hb3⟩ := hct j q (by simpa using hq)
   rw [List.getElem?_set_ne (Ne.symm hjk)] at hb1
   rcases hb3 i p hi (by simpa using hp) with h | h
   ·exact .inl ⟨b, hb1, by simpa using h⟩
   ·exact .inr h
  have h1 : ∀ (i : Nat) (p : Oper), j ≠ k → i < j → ops[i]? = some p → listed.getD i false = false → apartT (trOf p ops.toList (ρ i)) (trOf o ops.toList (ρ j)) = true := fun i p hjk hi hp hXi => by
   rcases low i j p o hi hjk hp ho with ⟨b, hb1, h⟩ | h
   ·have := ha2 j o b (by simpa using ho) hb1 (fun e he hbb => hpre e (by simpa using he) hbb) i h
    have h' : listed.getD i false = true := this
    rw [h'] at hXi; cases hXi
   ·exact h
  have h2 : ∀ (i : Nat) (p : Oper), i ≠ k → j < i → ops[i]? = some p → listed.getD i false = true → apartT (trOf o ops.toList (ρ j)) (trOf p ops.toList (ρ i)) = true := fun i p hik hi hp hXi => by
   rcases low j i o p hi hik ho hp with ⟨b, hb1, h⟩ | h
   ·have := ha2 i p b (by simpa using hp) hb1 (fun e he hbb => hcl i p hp hXi e (by simpa using he) hbb) j h
    have h' : listed.getD j false = true := this
    rw [h'] at hXj; cases hXj
   ·exact h
  rcases Nat.lt_trichotomy j k with hjk | hjk | hjk
  ·-- an operation before it
   obtain ⟨hd1, hd2⟩ := hl.low j o hjk ho
   have hnl : listed.getD (k + 1) false = false := by
    cases hg : listed.getD (k + 1) false with
    | false => rfl
    | true => rw [hlast hg j (by omega)] at hXj; cases hXj
   rcases hJ with ⟨hk, _, m1, e1, hS1, hap, hx⟩ | ⟨hn, hx⟩
   ·refine XRd.step hN hc hB t h0 hn0 ht hdst ho (by simp [show j ≠ k by omega]; simpa using hXj) (fun i p hi hp hXi => ?_) (fun i p hi hp hXi => ?_) hx (fun s hs he => hd1 (he ▸ hs)) fun m' a' x ha' hx' => ?_
    ·exact h1 i p (by omega) hi hp (by simpa [show i ≠ k by omega] using hXi)
    ·by_cases hik : i = k
     ·subst hik; simp at hXi
     ·exact h2 i p hik hi hp (by simpa [hik] using hXi)
    ·have hX2 : upd (fun i => if i = k then false else listed.getD i false) j true = fun i => if i = k then false else (listed.setIfInBounds j true).getD i false := by
      funext i
      by_cases hi : i = j
      ·subst hi; simp [hjl, show i ≠ k by omega]
      ·rw [upd_ne _ _ hi, getD_set_ne false (Ne.symm hi)]
     have hXL : XL S m0 s0 ops σ ρ N k ty d z (fun i => (listed.setIfInBounds j true).getD i false) m' a' := by
      refine ⟨m1, e1, hS1, ?_, hX2 ▸ hx'⟩
      rw [ha', ← hap]
      cases hdo : o.dst with
      | none => rfl
      | some d' =>
       have : d' ≠ d := fun he => hd2 (by rw [hdo, he])
       simp [Act.put, Array.getElem?_setIfInBounds_ne this]
     have hk' : (listed.setIfInBounds j true).getD k false = true := getD_set_true hk
     by_cases hun : ∃ i, i < k ∧ (listed.setIfInBounds j true).getD i false = false
     ·exact hnext (.inl ⟨hk', hun, hXL⟩)
     ·obtain ⟨m2, w2, hx2⟩ := hXL.adopt t h0 hl hz hone hk' (by rw [getD_set_ne false (by omega)]; exact hnl)
      rw [← w2]
      exact hnext (.inr ⟨fun h => hun h.2, hx2⟩)
   ·have hkf : listed.getD k false = false := by
     cases hg : listed.getD k false with
     | false => rfl
     | true => exact (hn ⟨hg, j, hjk, hXj⟩).elim
    refine hx.step hN hc hB t h0 hn0 ht hdst ho hXj (fun i p hi hp hXi => h1 i p (by omega) hi hp hXi) (fun i p hi hp hXi => ?_) fun m' a' hx' => ?_
    ·refine h2 i p (fun hik => ?_) hi hp hXi
     subst hik
     rw [hkf] at hXi; cases hXi
    ·exact hnext (.inr ⟨(fun h => by rw [getD_set_ne false (by omega), hkf] at h; exact absurd h.1 (by simp)), hup ▸ hx'⟩)
  ·-- the object
   subst hjk
   obtain rfl : ok = o := Option.some.inj (hl.at_.symm.trans ho)
   have hx : XR S m0 s0 ops σ ρ N (fun i => listed.getD i false) m a := by
    rcases hJ with ⟨h, _⟩ | ⟨_, hx⟩
    ·rw [hXj] at h; cases h
    ·exact hx
   have hnl : listed.getD (j + 1) false = false := by
    cases hg : listed.getD (j + 1) false with
    | false => rfl
    | true => rw [hlast hg j (by omega)] at hXj; cases hXj
   by_cases hun : ∃ i, i < j ∧ listed.getD i false = false
   ·refine alloc_wp ho hl.op hl.guard hzr ?_
    have hN' : d < N := hdst j ok d ho hl.dst
    have hSb : ¬ S m.w.heap.size := fun h => Nat.lt_irrefl _ (hx.rel.sub _ h)
    obtain ⟨r1, r2⟩ := hx.rel.hide (S' := fun x => S x ∨ x = m.w.heap.size) (w' := { m.w with heap := m.w.heap.push (Obj.cells z.cells ty (0, 0)) }) (fun b hb => by simp [Array.getElem?_push_lt hb, hb])
     (fun b hb => ⟨fun h => h.resolve_right (by omega), .inl⟩) (fun b h => by
      simp only [Array.size_push]
      rcases h with h | h
      ·have := hx.rel.sub b h; omega
      ·omega)
    refine hnext (m' := { m with w := { m.w with heap := m.w.heap.push (Obj.cells z.cells ty (0, 0)) } }) (.inl ⟨by simp [hjl], ?_, m, hx.evo, hSb, ?_, r1, .refl _ _, ?_, ?_, ?_, ?_, ?_⟩)
    ·obtain ⟨i, hi, hf⟩ := hun
     exact ⟨i, hi, by rw [getD_set_ne false (by omega)]; exact hf⟩
    ·rw [hl.dst]
     simp [Act.put, hx.size, hN']
    ·show m.h = _
     rw [hx.h]
     refine fx_congr fun i hi => ?_
     by_cases hij : i = j
     ·subst hij; simpa using hXj
     ·simp only [if_neg hij]; rw [getD_set_ne false (Ne.symm hij)]
    ·show m.iss = _
     rw [hx.iss]
     funext _ g
     apply propext
     refine or_congr Iff.rfl (exists_congr fun i => and_congr Iff.rfl (and_congr ?_ Iff.rfl))
     by_cases hij : i = j
     ·subst hij; simp only [if_pos]; rw [hXj]
     ·simp only [if_neg hij]; rw [getD_set_ne false (Ne.symm hij)]
    ·intro s hs
     rw [hl.dst]
     have e1 : (a.put (some d) (.pointer (some ⟨m.w.heap.size, 0, none⟩))).tmps.getD s undef = a.tmps.getD s undef := by
      simp [Act.put, Array.getElem?_setIfInBounds_ne (Ne.symm hs)]
     rw [e1]
     have := (hx.env s (fun h => h)).tr2 r2
     rw [fx_congr (Y := fun i => if i = j then false else (listed.setIfInBounds j true).getD i false) fun i hi => ?_] at this
     ·exact this
     ·by_cases hij : i = j
      ·subst hij; simpa using hXj
      ·simp only [if_neg hij]; rw [getD_set_ne false (Ne.symm hij)]
    ·rw [hl.dst]; simp [Act.put, hx.size]
    ·rw [hl.dst]; simp [Act.put, hx.defers]
   ·refine hx.step hN hc hB t h0 hn0 ht hdst ho hXj (fun i p hi hp hXi => (hun ⟨i, hi, hXi⟩).elim) (fun i p hi hp hXi => ?_) fun m' a' hx' => ?_
    ·have : i = j + 1 := by have := (Array.getElem?_eq_some_iff.1 hp).1; omega
     subst this
     rw [hnl] at hXi; cases hXi
    ·refine hnext (.inr ⟨fun h => ?_, hup ▸ hx'⟩)
     obtain ⟨i, hi, hf⟩ := h.2
     rw [getD_set_ne false (by omega)] at hf
     exact hun ⟨i, hi, hf⟩
  ·-- the last one
   obtain rfl : j = k + 1 := by omega
   have hall : ∀ i, i < k + 1 → listed.getD i false = true := fun i hi => by
    obtain ⟨b, hb1, hb2⟩ := hl.last i hi
    exact ha2 (k + 1) o b (by simpa using ho) hb1 (fun e he hbb => hpre e (by simpa using he) hbb) i hb2
   have hx : XR S m0 s0 ops σ ρ N (fun i => listed.getD i false) m a := by
    rcases hJ with ⟨_, ⟨i, hi, hf⟩, _⟩ | ⟨_, hx⟩
    ·rw [hall i (by omega)] at hf; cases hf
    ·exact hx
   refine hx.step hN hc hB t h0 hn0 ht hdst ho hXj (fun i p hi hp hXi => by rw [hall i hi] at hXi; cases hXi) (fun i p hi hp hXi => by have := (Array.getElem?_eq_some_iff.1 hp).1; omega) fun m' a' hx' => ?_
   refine hnext (.inr ⟨fun h => ?_, hup ▸ hx'⟩)
   obtain ⟨i, hi, hf⟩ := h.2
   rw [getD_set_ne false (by omega), hall i (by omega)] at hf
   cases hf

/-- A region in any order, from its beginning. -/
theorem any_ops [Gl] (hN : Pre P cfg) (hc : CallOK P call) (hB : Bodies P call) (t : Trace P cfg fid rid call ops.toList ops.toList σ ρ) (h0 : σ 0 = s0) (hn0 : s0.n0 ≤ s0.n) (ht : Tops s0.hp s0.n)
  (hdst : ∀ (i : Nat) (o : Oper) (d : Nat), ops[i]? = some o → o.dst = some d → d < N)
  (hord : ∀ (i : Nat) (o : Oper), ops[i]? = some o → ∀ e ∈ o.after, Region.binds .any e = true → e.on < i)
  (hchk : checkOps P cfg fid rid call ops.toList ops.toList (ancL ops.toList) [] s0 = true)
  {m0 : M} {Q : Exit → Act → World → Prop} (hQ : ∀ m' a', RS S N (σ ops.size) m' a' → Evo S m0 m' → Q .normal a' m'.w)
  (fuel : Nat) (listed : Array Bool) (L : List Nat) {m : M} {a : Act} (hsz : listed.size = ops.size) (hno : ∀ i, i < ops.size → listed.getD i false = false)
  (hcl : ∀ (i : Nat) (o : Oper), ops[i]? = some o → listed.getD i false = true → ∀ e ∈ o.after, Region.binds .any e = true → listed.getD e.on false = true)
  (hL : ∀ i, i < ops.size → listed.getD i false = false → i ∈ L) (hlen : L.length ≤ fuel) (hx : XR S m0 s0 ops σ ρ N (fun i => listed.getD i false) m a) : wpAny P .any ops Q fuel listed a m.w := by
 cases hl : lateOK ops.toList with
 | false =>
  unfold ancL at hchk
  rw [hl] at hchk
  exact any_ops0 hN hc hB t h0 hn0 ht hdst hord hchk hQ fuel listed L hsz hcl hL hlen hx
 | true =>
  obtain ⟨k, o, ty, d, hlt⟩ := lateOK_spec hl
  unfold ancL at hchk
  rw [hl] at hchk
  have hk2 : ops.toList.length - 2 = k := by have := hlt.size; simp; omega
  simp only [hk2] at hchk
  obtain ⟨t1, _⟩ := t.step k o (by simpa using hlt.at_)
  obtain ⟨z, hz1, hz2, hz3⟩ := alloc_late hlt.op hlt.guard t1
  refine any_opsL hN hc hB t h0 hn0 ht hdst hord hlt hchk hz1 hz2 hz3 hQ fuel listed L hsz hcl hL hlen (.inr ⟨fun h => ?_, hx⟩)
  rw [hno k (by have := hlt.size; omega)] at h
  cases h.1

theorem orderOK_spec (h : orderOK ops.toList = true) : ∀ (i : Nat) (o : Oper), ops[i]? = some o → ∀ e ∈ o.after, Region.binds .any e = true → e.on < i := by
 intro i o ho e he hb
 have := List.all_eq_true.1 (List.all_eq_true.1 h (o, i) (by rw [List.mem_zipIdx_iff_getElem?]; simpa using ho)) e (by simpa using he)
 simp [hb] at this
 exact this

/-- The operations of a region. -/
theorem region_ops [Gl] (hN : Pre P cfg) (hm : P.follows .mixedOrders = true) (hc : CallOK P call) (hB : Bodies P call) {draw : Bool} {s' : St} (hchk : (if draw then orderOK ops.toList && checkOps P cfg fid rid call ops.toList ops.toList (ancL ops.toList) [] s0 else true) = true)
  (hr : runOps P cfg fid rid call ops.toList ops.toList s0 = some s') (hdst : ∀ (i : Nat) (o : Oper) (d : Nat), ops[i]? = some o → o.dst = some d → d < N) (h : RS S N s0 m a)
  {Q : Exit → Act → World → Prop} (hQ : ∀ m' a', RS S N s' m' a' → Evo S m m' → Q .normal a' m'.w) : (Code.region rid ops draw).wp P Q a m.w := by
 obtain ⟨σ, ρ, h0, h1, t⟩ := runOps_trace hr
 have h1' : σ ops.size = s' := by simpa using h1
 cases draw with
 | false =>
  refine wp_region ?_
  rw [List.range_eq_range']
  refine text_ops hN hc hB t h0 h.n0 h.top hdst (m0 := m) (by rw [h1']; exact hQ) ops.size 0 (by omega) ?_
  exact h.start fun i hi => by simp
 | true =>
  rw [if_pos rfl] at hchk
  simp only [Bool.and_eq_true] at hchk
  refine wp_region_any hm ?_
  -- the draw itself
  obtain ⟨g1, g2⟩ := h.rel.grown (w' := { m.w with drawn := m.w.drawn + 1 }) (Nat.le_refl _) (fun _ _ => rfl) ⟨rfl, rfl, fun _ _ => rfl⟩
  have h' : RS S N s0 { m with w := { m.w with drawn := m.w.drawn + 1 } } a := ⟨h.h, h.iss, g1, fun t => (h.env t).mono g2, h.size, h.defers, h.top, h.n0⟩
  refine any_ops hN hc hB t h0 h.n0 h.top hdst (orderOK_spec hchk.1) hchk.2 (m0 := { m with w := { m.w with drawn := m.w.drawn + 1 } })
   (fun m' a' k1 k2 => hQ m' a' (by rw [← h1']; exact k1) (g2.trans k2)) ops.size (Array.replicate ops.size false) (List.range ops.size) (m := { m with w := { m.w with drawn := m.w.drawn + 1 } }) (by simp) (fun i hi => by simp [hi])
   (fun i o ho hX => by
    have := (Array.getElem?_eq_some_iff.1 ho).1
    simp [this] at hX) (fun i hi _ => by simp [hi]) (by simp) (h'.start fun i hi => by simp [hi])

end

end Go.Ac
end

section
namespace Go.Ac
variable {P : Program}

section
variable {S : Nat → Prop} {m : M} {s : St} {N : Nat} {a : Act}

theorem setRow_same {w : World} {b : Nat} {cs : Array Value} {T : TypeId} {fz : Nat × Nat} (h : w.heap[b]? = some (Obj.cells cs T fz)) : (w.setRow b cs).heap = w.heap := by
 unfold World.setRow
 apply Array.ext
 ·simp
 ·intro i h1 h2
  simp only [Array.getElem_modify]
  split
  ·rename_i he; subst he
   have : w.heap[b] = Obj.cells cs T fz := by
    obtain ⟨_, h⟩ := Array.getElem?_eq_some_iff.1 h; exact h
   rw [this]
  ·rfl

theorem matOne_sound [Gl] (h : RS S N s m a) (p : Nat × Option Nat × Nat) : ∃ m', m'.w = m.w ∧ RS S N (matOne s p) m' a ∧ Evo S m m' := by
 have hfresh : ∀ id, ¬ m.iss id s.c := fun id hi => by rw [h.iss] at hi; omega
 unfold matOne
 split
 ·split
  ·rename_i hnil hfull
   obtain ⟨m', e1, e2, e3, e4, e5, e6⟩ := virt_obj (S := S) (m := m) h.rel (id := s.n) (o' := ⟨s.c, false, []⟩) (dc := 1) (c := s.c) rfl (hfresh _) rfl rfl
   refine ⟨m', e1, ⟨?_, ?_, e5, fun t => ?_, h.size, h.defers, fun id hid => ?_, Nat.le_succ_of_le h.n0⟩, e6⟩
   ·rw [e2, h.h]; exact (hp_get_set _ _ _).symm
   ·rw [e4, h.iss]; funext _ g; apply propext; simp only; omega
   ·show RV S m' (Env.get ((p.1, .osl s.n s.c 0 0 p.2.2 none) :: s.env) t) _
    rw [env_get_cons]
    by_cases ht : t = p.1
    ·subst ht
     simp only [upd_same]
     have := h.env p.1
     rw [hfull] at this
     generalize hv : a.tmps.getD p.1 undef = v at this ⊢
     cases this with
     | full hrd =>
      refine .osl ?_ rfl fun o ho hg => ?_
      ·rw [e4]; right; omega
      ·refine ⟨by rw [e2, upd_same] at ho; simp only [Option.some.injEq] at ho; subst ho; rfl, ?_⟩
       unfold OslOK
       rw [e3, upd_same]
       exact ⟨rfl, rfl, rfl, _, rfl⟩
    ·rw [upd_ne _ _ ht]; exact (h.env t).mono e6
   ·show (s.hp.set s.n _).get id = none
    rw [hp_get_set]
    have hid' : s.n + 1 ≤ id := hid
    rw [upd_ne _ _ (by omega)]
    exact h.top id (by omega)
  ·exact ⟨m, rfl, h, .refl S m⟩
 ·rename_i j hj
  split
  ·rename_i id g hptr
   split
   ·rename_i o hlv
    split
    ·rename_i hro hcell
     obtain ⟨ho', hg⟩ := live_spec hlv
     have ho : m.h id = some o := by rw [h.h]; exact ho'
     have hne : id ≠ s.n := fun he => by subst he; rw [h.top _ (Nat.le_refl _)] at ho'; cases ho'
     obtain ⟨m1, e1, e2, e3, e4, e5, e6⟩ := virt_obj (S := S) (m := m) h.rel (id := s.n) (o' := ⟨s.c, false, []⟩) (dc := 1) (c := s.c) rfl (hfresh _) rfl rfl
     have ho1 : m1.h id = some o := by rw [e2, upd_ne _ _ hne]; exact ho
     -- where the object lies
     cases hat : m1.at_ id with
     | none =>
      have := e5.none_ id o ho1 hat
      rw [this] at hcell; simp at hcell
     | some q =>
      obtain ⟨b, base⟩ := q
      have hkind : kindL o.cells = 0 := by
       have h9 := h.env p.1
       rw [hptr] at h9
       exact h9.ptr_kind (o := o) (by rw [h.h]; exact hlv)
      obtain ⟨hS, cs, T, fz, hrow, hfz, hsz, hc⟩ := e5.cellsAt hkind ho1 hat
      obtain ⟨m', w1, w2, w3, w4, w5, w6⟩ := write_obj (S := S) (m := m1) (id := id) (o := o) (o' := ⟨g, false, o.cells.set j (.osl s.n s.c 0 0 p.2.2 none)⟩) (b := b) (base := base) (base' := base) (dc := 0) (c := s.c) (cs := cs) (cs' := cs) (w' := m1.w)
       e5 ho1 hat hro hkind hrow (setRow_same hrow).symm rfl (by simpa using hsz) (.inl ⟨hg.symm, rfl, by simp, rfl⟩) (by
        intro k v hv
        simp only [List.getElem?_set] at hv
        by_cases hk : j = k
        ·subst hk
         have hjl : j < o.cells.length := (List.getElem?_eq_some_iff.1 hcell).1
         simp [hjl] at hv; subst hv
         obtain ⟨g1, x, g2, g3⟩ := hc j _ hcell
         refine ⟨rfl, x, g2, ?_⟩
         cases g3 with
         | full hrd =>
          refine .osl ?_ rfl fun o2 ho2 hg2 => ?_
          ·rw [e4]; right; omega
          ·refine ⟨by rw [e2, upd_same] at ho2; simp only [Option.some.injEq] at ho2; subst ho2; rfl, ?_⟩
           unfold OslOK
           rw [e3, upd_same]
           exact ⟨rfl, rfl, rfl, _, rfl⟩
        ·rw [if_neg hk] at hv; exact hc k v hv)
      refine ⟨m', by rw [w1, e1], ⟨?_, ?_, w5, fun t => ((h.env t).mono e6).mono w6, h.size, h.defers, fun i hi => ?_, Nat.le_succ_of_le h.n0⟩, e6.trans w6⟩
      ·rw [w2, e2, h.h]
       show _ = ((s.hp.set s.n _).set id _).get
       rw [hp_get_set, hp_get_set]
      ·rw [w4, e4, h.iss]; funext _ g; apply propext; simp only; omega
      ·show ((s.hp.set s.n _).set id _).get i = none
       rw [hp_get_set, hp_get_set]
       have hi' : s.n + 1 ≤ i := hi
       have hidn : id < s.n := by
        rcases Nat.lt_or_ge id s.n with h1 | h1
        ·exact h1
        ·rw [h.top id h1] at ho'; cases ho'
       rw [upd_ne _ _ (by omega), upd_ne _ _ (by omega)]
       exact h.top i (by omega)
    ·exact ⟨m, rfl, h, .refl S m⟩
   ·exact ⟨m, rfl, h, .refl S m⟩
  ·exact ⟨m, rfl, h, .refl S m⟩

theorem mats_sound [Gl] : ∀ (l : List (Nat × Option Nat × Nat)) {s : St} {m : M}, RS S N s m a → ∃ m', m'.w = m.w ∧ RS S N (mats s l) m' a ∧ Evo S m m'
 | [], s, m, h => ⟨m, rfl, h, .refl S m⟩
 | p :: r, s, m, h => by
  obtain ⟨m1, g1, g2, g3⟩ := matOne_sound h p
  obtain ⟨m2, k1, k2, k3⟩ := mats_sound r g2
  exact ⟨m2, k1.trans g1, k2, g3.trans k3⟩

theorem keep_get (e : Env) : ∀ (l : List Nat) (t : Nat), (e.keep l).get t = e.get t ∨ (e.keep l).get t = .any
 | [], t => .inr rfl
 | x :: r, t => by
  simp only [Env.keep, env_get_cons]
  by_cases h : t = x
  ·subst h; simp
  ·rw [upd_ne _ _ h]; exact keep_get e r t

theorem keepSt_sound [Gl] (h : RS S N s m a) (l : Option (List Nat)) : RS S N (keepSt s l) m a := by
 cases l with
 | none => exact h
 | some l =>
  refine ⟨h.h, h.iss, h.rel, fun t => ?_, h.size, h.defers, h.top, h.n0⟩
  rcases keep_get s.env l t with e | e
  ·show RV S m ((s.env.keep l).get t) _
   rw [e]; exact h.env t
  ·show RV S m ((s.env.keep l).get t) _
   rw [e]; exact .any _

end

theorem matOne_log (s : St) (p : Nat × Option Nat × Nat) : Log s (matOne s p) := by
 unfold matOne
 split
 ·split
  ·refine ⟨rfl, Nat.le_succ _, Nat.le_succ _, fun h0 ht id hid => ?_, fun h0 id hid hw => ⟨hw, ?_⟩, fun h0 id hid hn => ?_⟩
   ·show (s.hp.set s.n _).get id = none
    rw [hp_get_set]
    have hid' : s.n + 1 ≤ id := hid
    rw [upd_ne _ _ (by omega)]
    exact ht id (by omega)
   ·show (s.hp.set s.n _).get id = _
    rw [hp_get_set, upd_ne _ _ (by omega)]
   ·have hn' : (s.hp.set s.n ⟨s.c, false, []⟩).get id = none := hn
    rw [hp_get_set, upd_ne _ _ (by omega)] at hn'
    exact hn'
  ·exact Log.refl s
 ·split
  ·rename_i id g hptr
   split
   ·rename_i o hlv
    split
    ·rename_i hro hcell
     obtain ⟨ho', hg⟩ := live_spec hlv
     refine ⟨rfl, Nat.le_succ _, Nat.le_succ _, fun h0 ht i hi => ?_, fun h0 i hi hw => ?_, fun h0 i hi hn => ?_⟩
     ·show ((s.hp.set s.n _).set id _).get i = none
      rw [hp_get_set, hp_get_set]
      have hi' : s.n + 1 ≤ i := hi
      have hidn : id < s.n := by
       rcases Nat.lt_or_ge id s.n with h1 | h1
       ·exact h1
       ·rw [ht id h1] at ho'; cases ho'
      rw [upd_ne _ _ (by omega), upd_ne _ _ (by omega)]
      exact ht i (by omega)
     ·obtain ⟨h1, h2⟩ := addNew_mem hw
      refine ⟨h1, ?_⟩
      have := h2 hi
      simp only [List.map_cons, List.map_nil, List.mem_singleton] at this
      show ((s.hp.set s.n _).set id _).get i = _
      rw [hp_get_set, hp_get_set, upd_ne _ _ this, upd_ne _ _ (by omega)]
     ·have hn' : ((s.hp.set s.n ⟨s.c, false, []⟩).set id _).get i = none := hn
      rw [hp_get_set, hp_get_set] at hn'
      by_cases hid : i = id
      ·subst hid; simp at hn'
      ·rw [upd_ne _ _ hid, upd_ne _ _ (by omega)] at hn'; exact hn'
    ·exact Log.refl s
   ·exact Log.refl s
  ·exact Log.refl s

theorem mats_log : ∀ (l : List (Nat × Option Nat × Nat)) (s : St), Log s (mats s l)
 | [], s => Log.refl s
 | p :: r, s => (matOne_log s p).trans (mats_log r _)

theorem keepSt_log (s : St) (l : Option (List Nat)) : Log s (keepSt s l) := by
 cases l <;> exact ⟨rfl, Nat.le_refl _, Nat.le_refl _, fun _ h => h, fun _ _ _ h => ⟨h, rfl⟩, fun _ _ _ h => h⟩

theorem runOps_log [Gl] {cfg : Cfg} {fid rid : Nat} {call : CallF} {all : List Oper} : ∀ {l : List Oper} {s s' : St}, runOps P cfg fid rid call all l s = some s' → Log s s'
 | [], s, s', h => by simp [runOps] at h; subst h; exact Log.refl s
 | o :: r, s, s', h => by
  simp only [runOps] at h
  split at h
  ·rename_i q hq
   exact (Log.put (opW_top hq)).trans (runOps_log h)
  ·simp at h

theorem runRegion_log [Gl] {cfg : Cfg} {call : CallF} {fid id : Nat} {ops : Array Oper} {draw : Bool} {s s' : St} (h : runRegion P cfg call fid id ops draw s = some s') : Log s s' := by
 unfold runRegion at h
 split at h
 ·simp at h
 ·split at h
  ·rename_i t ht
   simp only [Option.some.injEq] at h; subst h
   exact ((runOps_log ht).trans (mats_log _ _)).trans (keepSt_log _ _)
  ·simp at h

theorem trunc_get (n : Nat) : ∀ (h : Hp) (id : Nat), (Hp.trunc n h).get id = if id < n then h.get id else none
 | [], id => by simp [Hp.trunc, Hp.get]
 | (k, o) :: r, id => by
  simp only [Hp.trunc]
  split
  ·rename_i hk
   rw [Nat.blt_eq] at hk
   simp only [Hp.get]
   by_cases he : k = id
   ·subst he; simp [hk]
   ·rw [beq_ff he]; simp only; exact trunc_get n r id
  ·rename_i hk
   have hk' : ¬ k < n := fun h => by rw [← Nat.blt_eq] at h; rw [h] at hk; cases hk
   simp only [Hp.get]
   by_cases he : k = id
   ·subst he; rw [trunc_get n r k]; simp [hk']
   ·rw [beq_ff he]; simp only; exact trunc_get n r id

/-- The state at the end of a round of a loop. -/
theorem cut_log {s t : St} (h : Log s t) : Log s { t with hp := Hp.trunc s.n t.hp, n := s.n } := by
 refine ⟨h.n0, Nat.le_refl _, h.c, fun h0 ht id hid => ?_, fun h0 id hid hw => ?_, fun h0 id hid hn => ?_⟩
 ·show (Hp.trunc s.n t.hp).get id = none
  rw [trunc_get, if_neg (by have : s.n ≤ id := hid; omega)]
 ·obtain ⟨h1, h2⟩ := h.wl h0 id hid hw
  refine ⟨h1, ?_⟩
  show (Hp.trunc s.n t.hp).get id = _
  rw [trunc_get, if_pos (by omega)]; exact h2
 ·have hn' : (Hp.trunc s.n t.hp).get id = none := hn
  rw [trunc_get, if_pos (by omega)] at hn'
  exact h.stay h0 id hid hn'

theorem allOrd_spec {s0 : St} {it : Nat} {f : List Nat → Option (Ex × St)} {l : List Nat} {e : Ex} {s : St} (h : allOrd s0 it f l = some (e, s)) : s.n = s0.n ∧ ∀ p : List Nat, p.isPerm l = true → ∃ y, f p = some (e, y) ∧ LeSt y s := by
 unfold allOrd at h
 split at h
 ·rename_i e0 s1 _
  split at h
  ·rename_i hx
   simp only [Option.some.injEq, Prod.mk.injEq] at h
   obtain ⟨rfl, rfl⟩ := h
   exact ⟨rfl, least_spec hx⟩
  ·cases h
 ·cases h
theorem isPerm_self (l : List Nat) : l.isPerm l = true := List.isPerm_iff.2 (List.Perm.refl l)
theorem Log.raise {s y x : St} (h : Log s y) (hn : s.n ≤ x.n) (hl : LeSt y x) : Log s x := by
 have hyo : y.n0 = s.n0 := h.n0
 refine ⟨hl.n0.symm.trans h.n0, hn, Nat.le_trans h.c hl.c, fun h0 ht id hid => hl.top id hid, fun h0 id hid hw => ?_, fun h0 id hid hn => ?_⟩
 ·obtain ⟨h1, h2⟩ := h.wl h0 id hid fun hy => hw (hl.wl id hy)
  exact ⟨h1, (hl.hpo id (by omega)).trans h2⟩
 ·rw [hl.hpo id (by omega)] at hn; exact h.stay h0 id hid hn
theorem itAt_spec {s : St} {t : Nat} {I : Itr} (h : itAt s t = some I) : s.env.get t = .it I.id I.g ∧ I.id < s.n ∧ (∃ last, live s.hp.get I.id I.g = some ⟨I.g, false, [.itm I.mid I.mg I.since I.seen last]⟩ ∧ last = I.since) ∧
  (∃ q, live s.hp.get I.mid I.mg = some q ∧ q.cells = [.mpc I.ks I.vs I.bs I.since]) ∧ (∀ b, b ∈ I.bs → b < I.since) ∧ I.bs.Nodup := by
 unfold itAt at h
 split at h
 ·rename_i id g he
  split at h
  ·rename_i o hl
   split at h
   ·rename_i mid mg since seen last hro hc
    split at h
    ·rename_i q hq
     split at h
     ·rename_i ks vs bs clock hqc
      split at h
      ·rename_i c1 c2 c3 c4 c5
       simp only [Option.some.injEq] at h; subst h
       have c1 := of_decide_eq_true c1
       have c2 := of_decide_eq_true c2
       have hg : o.gen = g := by
        unfold live at hl
        split at hl
        ·split at hl
         ·rename_i hb; simp at hl; subst hl; exact Nat.eq_of_beq_eq_true hb
         ·cases hl
        ·cases hl
       refine ⟨he, by rw [← Nat.blt_eq]; exact c5, ⟨last, ?_, c2⟩, ⟨q, hq, by rw [hqc, c1]⟩, fun b hb => of_decide_eq_true (List.all_eq_true.1 c3 b hb), of_decide_eq_true c4⟩
       rw [hl]
       obtain ⟨og, oro, oc⟩ := o
       simp only at hro hc hg
       subst hro; subst hc; subst hg; rfl
      ·cases h
     ·cases h
    ·cases h
   ·cases h
  ·cases h
 ·cases h

theorem pickR_spec {I : Itr} {b : Nat} {q : Res} (h : pickR I b = some q) : ∃ j k v, findB b I.bs 0 = some j ∧ I.ks[j]? = some k ∧ I.vs[j]? = some v ∧ q = ⟨.tuple [.d (.bool true), .d k, v], [(I.id, ⟨I.g, false, [.itm I.mid I.mg I.since (I.seen ++ [b]) I.since]⟩)], [], 0, 0, false⟩ := by
 unfold pickR at h
 split at h
 ·rename_i j hj
  split at h
  ·rename_i k v hk hv
   simp only [Option.some.injEq] at h
   exact ⟨j, k, v, hj, hk, hv, h.symm⟩
  ·cases h
 ·cases h

theorem runOrd_log {reg : St → Option St} {run : St → Option (Ex × St)} {own : Bool} {t d : Nat} (hreg : ∀ s t, reg s = some t → Log s t) (hrun : ∀ s e t, run s = some (e, t) → Log s t) :
  ∀ {p : List Nat} {s s' : St} {e : Ex}, runOrd reg run own t d p s = some (e, s') → Log s s' := by
 have hround : ∀ {s s' : St} {e : Ex}, roundR reg run s = some (e, s') → Log s s' := by
  intro s s' e h
  unfold roundR at h
  split at h
  ·rename_i u hu; exact (hreg _ _ hu).trans (hrun _ _ _ h)
  ·cases h
 intro p
 induction p with
 | nil =>
  intro s s' e h
  simp only [runOrd] at h
  split at h
  ·split at h
   ·split at h
    ·cases h
    ·exact (Log.put rfl).trans (hround h)
   ·cases h
  ·cases h
 | cons b l ih =>
  intro s s' e h
  simp only [runOrd] at h
  split at h
  ·rename_i I hI
   split at h
   ·rename_i q hp hq
    have hput : Log s (s.put (some d) q) := by
     obtain ⟨j, k, v, _, _, _, rfl⟩ := pickR_spec hq
     refine Log.put ?_
     have := (itAt_spec hI).2.1
     simp [Nat.blt_eq]; omega
    split at h
    ·rename_i u hu
     have h1 := hput.trans (hround hu)
     refine Log.trans ?_ (ih h)
     split
     ·exact h1
     ·exact cut_log h1
    ·exact hput.trans (hround h)
   ·cases h
  ·cases h

theorem execF_log [Gl] {cfg : Cfg} : ∀ {k : Nat} {fid : FuncId} {c : Code} {s s' : St} {e : Ex}, execF P cfg k fid c s = some (e, s') → Log s s'
 | 0, fid, c, s, s', e, h => by simp [execF] at h
 | k + 1, fid, c, s, s', e, h => by
  cases c <;> simp only [execF] at h <;> try (simp at h; done)
  case skip => simp at h; obtain ⟨_, rfl⟩ := h; exact Log.refl _
  case label l => simp at h; obtain ⟨_, rfl⟩ := h; exact Log.refl _
  case ret => simp at h; obtain ⟨_, rfl⟩ := h; exact Log.refl _
  case exit id => simp at h; obtain ⟨_, rfl⟩ := h; exact Log.refl _
  case seq x y =>
   split at h
   ·rename_i t ht; exact (execF_log ht).trans (execF_log h)
   ·exact execF_log h
  case cond q x y =>
   split at h
   ·exact execF_log h
   ·exact execF_log h
   ·simp at h
  case block id b =>
   split at h
   ·rename_i i t ht
    split at h <;> (simp at h; obtain ⟨_, rfl⟩ := h; exact execF_log ht)
   ·exact execF_log h
  case loop b =>
   split at h
   ·split at h
    ·rename_i t ht
     refine Log.trans ?_ (execF_log h)
     split
     ·exact execF_log ht
     ·exact cut_log (execF_log ht)
    ·exact execF_log h
   ·rename_i r ops t d rest hn
    split at h
    ·rename_i I hI
     obtain ⟨hsn, hall⟩ := allOrd_spec h
     obtain ⟨y, hy, hle⟩ := hall _ (isPerm_self _)
     exact (runOrd_log (fun s t ht => runRegion_log ht) (fun s e t ht => execF_log ht) hy).raise (by rw [hsn]; exact Nat.le_refl _) hle
    ·cases h
  case region id ops draw =>
   simp only [Option.map_eq_some_iff] at h
   obtain ⟨t, ht, h⟩ := h
   simp at h; obtain ⟨_, rfl⟩ := h
   exact runRegion_log ht

end Go.Ac
end
