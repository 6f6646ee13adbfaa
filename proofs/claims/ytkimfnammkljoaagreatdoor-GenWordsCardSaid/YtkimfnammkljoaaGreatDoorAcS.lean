/- The abstract machine: regions. No conditions. -/
import Derived.Test.YtkimfnammkljoaaGreatDoorAcRhM
set_option linter.unusedVariables false
set_option linter.unusedSimpArgs false
namespace Go.Ac
variable {P : Program}

/-- A state of the abstract machine stands for a state of the model. -/
structure RS [Gl] (S : Nat → Prop) (B : Bs) (N : Nat) (s : St) (m : M) (a : Act) : Prop where
 h : m.h = s.hp.get
 iss : m.iss = fun _ g => g < s.c
 rel : Rel S m
 env : ∀ t, RV S m (s.env.get t) (a.tmps.getD t undef)
 size : a.tmps.size = N
 defers : Marks B m a.defers
 top : Tops s.hp s.n
 n0 : s.n0 ≤ s.n

theorem fx_none {β : Type} {F : Nat → (Nat → β) → Nat → β} {f0 : Nat → β} {X : Nat → Bool} : ∀ {k : Nat}, (∀ i, i < k → X i = false) → fx F X f0 k = f0
 | 0, _ => rfl
 | k + 1, h => by simp only [fx]; rw [h k (by omega)]; exact fx_none fun i hi => h i (by omega)

section
variable {oR : Option Nat} {S : Nat → Prop} {B : Bs} {m : M} {cfg : Cfg} {fid rid : Nat} {call : CallF} {ops : Array Oper} {σ : Nat → St} {ρ : Nat → Res} {s0 : St} {N : Nat} {a : Act}

theorem RS.start [Gl] (h : RS S B N s0 m a) {X : Nat → Bool} (hX : ∀ i, i < ops.size → X i = false) : XR S B m s0 ops σ ρ N X m a where
 rel := h.rel
 evo := .refl S m
 h := by rw [fx_none hX]; exact h.h
 iss := by
  rw [h.iss]
  funext _ g
  apply propext
  constructor
  ·exact .inl
  ·rintro (h | ⟨i, q1, q2, _⟩)
   ·exact h
   ·rw [hX i q1] at q2; cases q2
 env t _ := by rw [fx_none hX]; exact h.env t
 size := h.size
 defers := h.defers

theorem XR.done [Gl] (t : Trace P cfg fid rid call ops.toList ops.toList σ ρ) (h0 : σ 0 = s0) (hn0 : s0.n0 ≤ s0.n) (ht : Tops s0.hp s0.n) {m0 : M} {X : Nat → Bool} (hX : ∀ i, i < ops.size → X i = true) (h : XR S B m0 s0 ops σ ρ N X m a) : RS S B N (σ ops.size) m a where
 rel := h.rel
 h := by rw [t.hp h0 _ (Nat.le_refl _), h.h]; exact fx_congr fun i hi => hX i hi
 iss := by
  rw [h.iss]
  funext _ g
  apply propext
  constructor
  ·rintro (h | ⟨i, q1, q2, q3, q4⟩)
   ·have := t.c_le (i := 0) (j := ops.size) (by omega) (by omega); rw [h0] at this; omega
   ·have := t.c_le (i := i + 1) (j := ops.size) (by omega) (by omega)
    rw [t.c q1] at this; omega
  ·intro hg
   rcases t.find h0 (Nat.le_refl _) hg with h | ⟨i, q1, q2⟩
   ·exact .inl h
   ·exact .inr ⟨i, q1, hX i q1, q2⟩
 env s := by
  have := h.env s (fun h => h)
  rw [fx_congr (Y := fun _ => true) fun i hi => hX i hi, ← t.env h0 _ (Nat.le_refl _)] at this
  exact this
 size := h.size
 defers := h.defers
 top := (t.log h0 _ (Nat.le_refl _)).top hn0 ht
 n0 := by
  have := t.log h0 _ (Nat.le_refl _)
  rw [this.n0]; exact Nat.le_trans hn0 this.n

theorem text_ops [Gl] (hN : Pre P cfg) (hc : CallOK P call) (hB : Bodies P call) (t : Trace P cfg fid rid call ops.toList ops.toList σ ρ) (h0 : σ 0 = s0) (hn0 : s0.n0 ≤ s0.n) (ht : Tops s0.hp s0.n)
  (hdst : ∀ (i : Nat) (o : Oper) (d : Nat), ops[i]? = some o → o.dst = some d → d < N) {m0 : M} {Q : Exit → Act → World → Prop} (hQ : ∀ m' a', RS S B N (σ ops.size) m' a' → Evo S m0 m' → Q .normal a' m'.w) :
  ∀ (n j : Nat) {m : M} {a : Act}, j + n = ops.size → XR S B m0 s0 ops σ ρ N (fun i => decide (i < j)) m a → wpOpsIn (Fw oR) 0 P ops Q (List.range' j n) a m.w
 | 0, j, m, a, hj, hx => by
  simp only [List.range', wpOpsIn]
  exact hQ m a (hx.done t h0 hn0 ht fun i hi => by simp; omega) hx.evo
 | n + 1, j, m, a, hj, hx => by
  rw [List.range'_succ, wpOpsIn_cons]
  have hlt : j < ops.size := by omega
  refine hx.step hN hc hB t h0 hn0 ht hdst (j := j) (o := ops[j]) (by simp [hlt]) (by simp) (fun i p hi _ hX => by simp at hX; omega) (fun i p hi _ hX => by simp at hX; omega) fun m' a' hx' => ?_
  refine text_ops hN hc hB t h0 hn0 ht hdst hQ n (j + 1) (by omega) ?_
  have : upd (fun i => decide (i < j)) j true = fun i => decide (i < j + 1) := by
   funext i
   by_cases hi : i = j
   ·subst hi; simp
   ·rw [upd_ne _ _ hi]
    apply decide_eq_decide.2; omega
  rw [← this]; exact hx'

theorem any_ops0 [Gl] (hN : Pre P cfg) (hc : CallOK P call) (hB : Bodies P call) (t : Trace P cfg fid rid call ops.toList ops.toList σ ρ) (h0 : σ 0 = s0) (hn0 : s0.n0 ≤ s0.n) (ht : Tops s0.hp s0.n)
  (hdst : ∀ (i : Nat) (o : Oper) (d : Nat), ops[i]? = some o → o.dst = some d → d < N)
  (hord : ∀ (i : Nat) (o : Oper), ops[i]? = some o → ∀ e ∈ o.after, Region.binds .any e = true → e.on < i)
  (hchk : checkOps P cfg fid rid call ops.toList ops.toList (anc ops.toList) [] s0 = true)
  {m0 : M} {Q : Exit → Act → World → Prop} (hQ : ∀ m' a', RS S B N (σ ops.size) m' a' → Evo S m0 m' → Q .normal a' m'.w) :
  ∀ (fuel : Nat) (listed : Array Bool) (L : List Nat) {m : M} {a : Act}, listed.size = ops.size →
   (∀ (i : Nat) (o : Oper), ops[i]? = some o → listed.getD i false = true → ∀ e ∈ o.after, Region.binds .any e = true → listed.getD e.on false = true) →
   (∀ i, i < ops.size → listed.getD i false = false → i ∈ L) → L.length ≤ fuel → XR S B m0 s0 ops σ ρ N (fun i => listed.getD i false) m a → wpAnyIn (Fw oR) 0 P .any ops Q fuel listed a m.w := by
 have allDone : ∀ (listed : Array Bool), listed.size = ops.size → Region.ready .any ops listed = [] → ∀ i, i < ops.size → listed.getD i false = true := by
  intro listed hsz hr
  have : ∀ n i, i < n → i < ops.size → listed.getD i false = true := by
   intro n
   induction n with
   | zero => intro i h; omega
   | succ n ih =>
    intro i hi hlt
    cases hg : listed.getD i false with
    | true => rfl
    | false =>
     exfalso
     have : i ∈ Region.ready .any ops listed := by
      rw [mem_ready]
      refine ⟨?_, ops[i], by simp [hlt], fun e he hb => ?_⟩
      ·have h1 : i < listed.size := by omega
       simp [h1] at hg ⊢; exact hg
      ·have := hord i ops[i] (by simp [hlt]) e he hb
       exact ih e.on (by omega) (by omega)
     rw [hr] at this
     cases this
  exact fun i hi => this (i + 1) i (by omega) hi
 intro fuel
 induction fuel with
 | zero =>
  intro listed L m a hsz hcl hL hlen hx
  have hL0 : L = [] := List.length_eq_zero_iff.1 (by omega)
  subst hL0
  have hall : ∀ i, i < ops.size → listed.getD i false = true := fun i hi => by
   cases hg : listed.getD i false with
   | true => rfl
   | false => have := hL i hi hg; simp at this
  refine ⟨?_, hQ m a (hx.done t h0 hn0 ht hall) hx.evo⟩
  cases hr : Region.ready .any ops listed with
  | nil => rfl
  | cons j r =>
   exfalso
   have hj : j ∈ Region.ready .any ops listed := by rw [hr]; simp
   rw [mem_ready] at hj
   obtain ⟨h1, o, ho, _⟩ := hj
   have hlt : j < ops.size := (Array.getElem?_eq_some_iff.1 ho).1
   have h2 := hall j hlt
   have h3 : j < listed.size := by omega
   simp [h3] at h1 h2
   rw [h1] at h2; cases h2
 | succ fuel ih =>
  intro listed L m a hsz hcl hL hlen hx
  refine ⟨fun hr => hQ m a (hx.done t h0 hn0 ht (allDone listed hsz hr)) hx.evo, fun j hj => ?_⟩
  rw [mem_ready] at hj
  obtain ⟨hj1, o, ho, hpre⟩ := hj
  have hlt : j < ops.size := (Array.getElem?_eq_some_iff.1 ho).1
  have hjl : j < listed.size := by omega
  have hXj : listed.getD j false = false := by simp [hjl] at hj1 ⊢; exact hj1
  have hclX : ∀ (i : Nat) (o : Oper), ops.toList[i]? = some o → (fun i => listed.getD i false) i = true → ∀ e ∈ o.after.toList, Region.binds .any e = true → (fun i => listed.getD i false) e.on = true :=
   fun i o ho hX e he hb => hcl i o (by simpa using ho) hX e (by simpa using he) hb
  obtain ⟨ha1, ha2⟩ := anc_spec ops.toList hclX
  have hct := checkOps_trace hchk h0 t
  refine hx.step hN hc hB t h0 hn0 ht hdst ho hXj (fun i p hi hp hXi => ?_) (fun i p hi hp hXi => ?_) fun m' a' hx' => ?_
  ·obtain ⟨b, hb1, _, hb3⟩ := hct j o (by simpa using ho)
   rcases hb3 i p hi (by simpa using hp) with h | h
   ·have := ha2 j o b (by simpa using ho) hb1 (fun e he hbb => hpre e (by simpa using he) hbb) i (by simpa using h)
    rw [this] at hXi; cases hXi
   ·exact h
  ·obtain ⟨b, hb1, _, hb3⟩ := hct i p (by simpa using hp)
   rcases hb3 j o hi (by simpa using ho) with h | h
   ·have := ha2 i p b (by simpa using hp) hb1 (fun e he hbb => hcl i p hp hXi e (by simpa using he) hbb) j (by simpa using h)
    have h' : listed.getD j false = true := this
    rw [h'] at hXj; cases hXj
   ·exact h
  ·have hup : upd (fun i => listed.getD i false) j true = fun i => (listed.setIfInBounds j true).getD i false := by
    funext i
    by_cases hi : i = j
    ·subst hi; simp [hjl]
    ·rw [upd_ne _ _ hi, getD_set_ne false (Ne.symm hi)]
   refine ih (listed.setIfInBounds j true) (L.erase j) (by simp [hsz]) (fun i p hp hX e he hb => ?_) (fun i hi hX => ?_) ?_ (hup ▸ hx')
   ·by_cases hi : i = j
    ·subst hi
     rw [ho] at hp; cases hp
     exact getD_set_true (hpre e he hb)
    ·rw [getD_set_ne false (Ne.symm hi)] at hX
     exact getD_set_true (hcl i p hp hX e he hb)
   ·have hne : i ≠ j := fun h => by subst h; simp [hjl] at hX
    rw [getD_set_ne false (Ne.symm hne)] at hX
    exact (List.mem_erase_of_ne hne).2 (hL i hi hX)
   ·have := hL j hlt hXj
    have := List.length_erase_of_mem this
    omega

/-- The last operation but one makes an object. -/
structure Late (ops : Array Oper) (k : Nat) (o : Oper) (t d : Nat) : Prop where
 size : ops.size = k + 2
 at_ : ops[k]? = some o
 op : o.op = .alloc t
 guard : o.guard = none
 dst : o.dst = some d
 low : ∀ (i : Nat) (p : Oper), i < k → ops[i]? = some p → d ∉ opdSlots p ops.toList ∧ p.dst ≠ some d
 last : ∀ i, i < k + 1 → ∃ a, (anc ops.toList)[k + 1]? = some a ∧ i ∈ a

theorem lateOK_spec (h : lateOK ops.toList = true) : ∃ k o t d, Late ops k o t d := by
 unfold lateOK at h
 split at h
 ·rename_i k hk
  split at h
  ·rename_i o ho
   split at h
   ·rename_i t hop
    split at h
    ·rename_i d hg hd
     simp only [Bool.and_eq_true, List.all_eq_true, List.mem_range] at h
     have hsz : ops.size = k + 2 := by simpa using hk
     refine ⟨k, o, t, d, hsz, by simpa using ho, hop, hg, hd, fun i p hi hp => ?_, fun i hi => ?_⟩
     ·have := h.1 p (List.mem_iff_getElem?.2 ⟨i, by rw [List.getElem?_take, if_pos hi]; simpa using hp⟩)
      simpa using this
     ·have h2 := h.2 i hi
      rw [List.getD_eq_getElem?_getD] at h2
      cases ha : (anc ops.toList)[k + 1]? with
      | none => rw [ha] at h2; simp at h2
      | some a => rw [ha] at h2; exact ⟨a, rfl, by simpa using h2⟩
    ·simp at h
   ·simp at h
  ·simp at h
 ·simp at h

/-- The object has been made before its turn: it is hidden. -/
def XL [Gl] (S : Nat → Prop) (B : Bs) (m0 : M) (s0 : St) (ops : Array Oper) (σ : Nat → St) (ρ : Nat → Res) (N k t d : Nat) (z : Value) (X : Nat → Bool) (m : M) (a : Act) : Prop :=
 ∃ m1 : M, Evo S m0 m1 ∧ ¬ S m1.w.heap.size ∧ a.tmps.getD d undef = .pointer (some ⟨m1.w.heap.size, 0, none⟩) ∧
  XRd (fun s => s = d) (fun x => S x ∨ x = m1.w.heap.size) B { m1 with w := { m1.w with heap := m1.w.heap.push (Obj.cells z.cells t (0, 0)) } } s0 ops σ ρ N (fun i => if i = k then false else X i) m a

theorem XL.adopt [Gl] (tr : Trace P cfg fid rid call ops.toList ops.toList σ ρ) (h0 : σ 0 = s0) {k t d : Nat} {o : Oper} (hl : Late ops k o t d) {z : Value}
  (hz : ρ k = ⟨.ptr (σ k).n (σ k).c 0, [((σ k).n, ⟨(σ k).c, false, z.cells.toList.map constV1⟩)], [], 1, 1, false⟩) (hone : (z.cells.toList.map constV1).all V.one = true)
  {m0 : M} {X : Nat → Bool} (hk : X k = true) (hlast : X (k + 1) = false) (h : XL S B m0 s0 ops σ ρ N k t d z X m a) : ∃ m', m'.w = m.w ∧ XR S B m0 s0 ops σ ρ N X m' a := by
 obtain ⟨m1, e1, hS1, ha, hx⟩ := h
 have hX' : (fun i => if i = k then false else X i) k = false := by simp
 have hXu : ∀ i, i < ops.size → X i = upd (fun i => if i = k then false else X i) k true i := fun i _ => by
  by_cases hi : i = k
  ·subst hi; rw [upd_same]; exact hk
  ·rw [upd_ne _ _ hi]; simp [hi]
 have hhigh : ∀ i, k < i → i < ops.size → (fun i => if i = k then false else X i) i = true → False := fun i hi hi2 hX => by
  have : i = k + 1 := by have := hl.size; omega
  subst this
  simp [hlast] at hX
 have hklt : k < ops.size := by have := hl.size; omega
 have hg : ¬ m.iss (σ k).n (σ k).c := fun hi => by
  rw [hx.iss] at hi
  rcases hi with hi | ⟨i, q1, q2, q3, q4⟩
  ·have := tr.c_le (i := 0) (j := k) (by omega) (by omega); rw [h0] at this; omega
  ·rcases Nat.lt_trichotomy i k with hik | hik | hik
   ·have := tr.c_le (i := i + 1) (j := k) (by omega) (by omega)
    rw [tr.c q1] at this; omega
   ·subst hik; simp at q2
   ·exact hhigh i hik q1 q2
 have hrow : m.w.heap[m1.w.heap.size]? = some (Obj.cells z.cells t (0, 0)) := by
  rw [hx.evo.keepS m1.w.heap.size (by simp) (.inr rfl)]; simp
 obtain ⟨r1, r2⟩ := hx.rel.adopt (S := S) (id := (σ k).n) (c := (σ k).c) (cells := z.cells.toList.map constV1) (fun _ => Iff.rfl) hS1 hrow hg (by simp) fun j v hv => by
  obtain ⟨x, g1, g2⟩ := (constVs_RVs (S := S) (m := m.adopt (σ k).n m1.w.heap.size (σ k).c (z.cells.toList.map constV1)) z.cells.toList).get hv
  exact ⟨List.all_eq_true.1 hone v (List.mem_of_getElem? hv), x, by simpa using g1, g2⟩
 refine ⟨m.adopt (σ k).n m1.w.heap.size (σ k).c (z.cells.toList.map constV1), rfl, r1, ?_, ?_, ?_, ?_, hx.size, hx.defers.same rfl⟩
 ·exact e1.trans (Evo.adopt (w' := { m1.w with heap := m1.w.heap.push (Obj.cells z.cells t (0, 0)) }) (fun _ => Iff.rfl) (fun b hb => by simp [Array.getElem?_push_lt hb, hb]) (by simp) ⟨rfl, rfl⟩ hx.evo hg)
 ·rw [fx_congr hXu, fx_add (acts_FH ρ) hX' hklt (fun i hi hi' hXi => (hhigh i hi hi' hXi).elim), ← hx.h]
  unfold FH
  rw [hz]; rfl
 ·show (fun i g => m.iss i g ∨ ((σ k).c ≤ g ∧ g < (σ k).c + 1)) = _
  rw [hx.iss]
  funext _ g
  apply propext
  have hdc : (ρ k).dc = 1 := by rw [hz]
  constructor
  ·rintro ((h | ⟨i, q1, q2, q3⟩) | h)
   ·exact .inl h
   ·refine .inr ⟨i, q1, ?_, q3⟩
    by_cases hik : i = k
    ·subst hik; exact hk
    ·simpa [hik] using q2
   ·exact .inr ⟨k, hklt, hk, by rw [hdc]; exact h⟩
  ·rintro (h | ⟨i, q1, q2, q3⟩)
   ·exact .inl (.inl h)
   ·by_cases hik : i = k
    ·subst hik; rw [hdc] at q3; exact .inr q3
    ·exact .inl (.inr ⟨i, q1, by simp [hik, q2], q3⟩)
 ·intro s _
  rw [fx_congr hXu, fx_add (acts_FE ops ρ) hX' hklt (fun i hi hi' hXi => (hhigh i hi hi' hXi).elim)]
  unfold FE putE
  rw [show (ops[k]?).bind (·.dst) = some d by rw [hl.at_]; exact hl.dst]
  simp only
  by_cases hs : s = d
  ·subst hs
   rw [upd_same, ha, hz]
   refine .ptr (.inr ⟨Nat.le_refl _, Nat.lt_succ_self _⟩) rfl fun ob ho hgen => ?_
   simp only [M.adopt, upd_same, Option.some.injEq] at ho
   subst ho
   exact ⟨kind_of_one fun j v hv => List.all_eq_true.1 hone v (List.mem_of_getElem? hv), m1.w.heap.size, 0, by simp [M.adopt], rfl⟩
  ·rw [upd_ne _ _ hs]
   exact (hx.env s hs).tr2 r2

theorem any_opsL [Gl] (hN : Pre P cfg) (hc : CallOK P call) (hB : Bodies P call) (t : Trace P cfg fid rid call ops.toList ops.toList σ ρ) (h0 : σ 0 = s0) (hn0 : s0.n0 ≤ s0.n) (ht : Tops s0.hp s0.n)
  (hdst : ∀ (i : Nat) (o : Oper) (d : Nat), ops[i]? = some o → o.dst = some d → d < N)
  (hord : ∀ (i : Nat) (o : Oper), ops[i]? = some o → ∀ e ∈ o.after, Region.binds .any e = true → e.on < i)
  {k ty d : Nat} {ok : Oper} (hl : Late ops k ok ty d)
  (hchk : checkOps P cfg fid rid call ops.toList ops.toList ((anc ops.toList).set k (List.range k)) [] s0 = true)
  {z : Value} (hz : ρ k = ⟨.ptr (σ k).n (σ k).c 0, [((σ k).n, ⟨(σ k).c, false, z.cells.toList.map constV1⟩)], [], 1, 1, false⟩) (hone : (z.cells.toList.map constV1).all V.one = true) (hzr : ∀ w, (zeroValue ty).run P w = .ok z w)
  {m0 : M} {Q : Exit → Act → World → Prop} (hQ : ∀ m' a', RS S B N (σ ops.size) m' a' → Evo S m0 m' → Q .normal a' m'.w) :
  ∀ (fuel : Nat) (listed : Array Bool) (L : List Nat) {m : M} {a : Act}, listed.size = ops.size →
   (∀ (i : Nat) (o : Oper), ops[i]? = some o → listed.getD i false = true → ∀ e ∈ o.after, Region.binds .any e = true → listed.getD e.on false = true) →
   (∀ i, i < ops.size → listed.getD i false = false → i ∈ L) → L.length ≤ fuel →
   ((listed.getD k false = true ∧ (∃ i, i < k ∧ listed.getD i false = false) ∧ XL S B m0 s0 ops σ ρ N k ty d z (fun i => listed.getD i false) m a) ∨
    (¬ (listed.getD k false = true ∧ ∃ i, i < k ∧ listed.getD i false = false) ∧ XR S B m0 s0 ops σ ρ N (fun i => listed.getD i false) m a)) → wpAnyIn (Fw oR) 0 P .any ops Q fuel listed a m.w := by
 have hsz0 := hl.size
 have allDone : ∀ (listed : Array Bool), listed.size = ops.size → Region.ready .any ops listed = [] → ∀ i, i < ops.size → listed.getD i false = true := by
  intro listed hsz hr
  have : ∀ n i, i < n → i < ops.size → listed.getD i false = true := by
   intro n
   induction n with
   | zero => intro i h; omega
   | succ n ih =>
    intro i hi hlt
    cases hg : listed.getD i false with
    | true => rfl
    | false =>
     exfalso
     have : i ∈ Region.ready .any ops listed := by
      rw [mem_ready]
      refine ⟨?_, ops[i], by simp [hlt], fun e he hb => ?_⟩
      ·have h1 : i < listed.size := by omega
       simp [h1] at hg ⊢; exact hg
      ·have := hord i ops[i] (by simp [hlt]) e he hb
       exact ih e.on (by omega) (by omega)
     rw [hr] at this
     cases this
  exact fun i hi => this (i + 1) i (by omega) hi
 intro fuel
 induction fuel with
 | zero =>
  intro listed L m a hsz hcl hL hlen hJ
  have hL0 : L = [] := List.length_eq_zero_iff.1 (by omega)
  subst hL0
  have hall : ∀ i, i < ops.size → listed.getD i false = true := fun i hi => by
   cases hg : listed.getD i false with
   | true => rfl
   | false => have := hL i hi hg; simp at this
  have hx : XR S B m0 s0 ops σ ρ N (fun i => listed.getD i false) m a := by
   rcases hJ with ⟨_, ⟨i, hi, hf⟩, _⟩ | ⟨_, hx⟩
   ·rw [hall i (by omega)] at hf; cases hf
   ·exact hx
  refine ⟨?_, hQ m a (hx.done t h0 hn0 ht hall) hx.evo⟩
  cases hr : Region.ready .any ops listed with
  | nil => rfl
  | cons j r =>
   exfalso
   have hj : j ∈ Region.ready .any ops listed := by rw [hr]; simp
   rw [mem_ready] at hj
   obtain ⟨h1, o, ho, _⟩ := hj
   have hlt : j < ops.size := (Array.getElem?_eq_some_iff.1 ho).1
   have h2 := hall j hlt
   have h3 : j < listed.size := by omega
   simp [h3] at h1 h2
   rw [h1] at h2; cases h2
 | succ fuel ih =>
  intro listed L m a hsz hcl hL hlen hJ
  refine ⟨fun hr => ?_, fun j hj => ?_⟩
  ·have hall := allDone listed hsz hr
   rcases hJ with ⟨_, ⟨i, hi, hf⟩, _⟩ | ⟨_, hx⟩
   ·rw [hall i (by omega)] at hf; cases hf
   ·exact hQ m a (hx.done t h0 hn0 ht hall) hx.evo
  rw [mem_ready] at hj
  obtain ⟨hj1, o, ho, hpre⟩ := hj
  have hlt : j < ops.size := (Array.getElem?_eq_some_iff.1 ho).1
  have hjl : j < listed.size := by omega
  have hXj : listed.getD j false = false := by simp [hjl] at hj1 ⊢; exact hj1
  have hclX : ∀ (i : Nat) (o : Oper), ops.toList[i]? = some o → (fun i => listed.getD i false) i = true → ∀ e ∈ o.after.toList, Region.binds .any e = true → (fun i => listed.getD i false) e.on = true :=
   fun i o ho hX e he hb => hcl i o (by simpa using ho) hX e (by simpa using he) hb
  obtain ⟨ha1, ha2⟩ := anc_spec ops.toList hclX
  have hct := checkOps_trace hchk h0 t
  have hup : upd (fun i => listed.getD i false) j true = fun i => (listed.setIfInBounds j true).getD i false := by
   funext i
   by_cases hi : i = j
   ·subst hi; simp [hjl]
   ·rw [upd_ne _ _ hi, getD_set_ne false (Ne.symm hi)]
  have hnext : ∀ {m' : M} {a' : Act}, (((listed.setIfInBounds j true).getD k false = true ∧ (∃ i, i < k ∧ (listed.setIfInBounds j true).getD i false = false) ∧ XL S B m0 s0 ops σ ρ N k ty d z (fun i => (listed.setIfInBounds j true).getD i false) m' a') ∨
    (¬ ((listed.setIfInBounds j true).getD k false = true ∧ ∃ i, i < k ∧ (listed.setIfInBounds j true).getD i false = false) ∧ XR S B m0 s0 ops σ ρ N (fun i => (listed.setIfInBounds j true).getD i false) m' a')) → wpAnyIn (Fw oR) 0 P .any ops Q fuel (listed.setIfInBounds j true) a' m'.w := by
   refine fun {m' a'} => ih (listed.setIfInBounds j true) (L.erase j) (by simp [hsz]) (fun i p hp hX e he hb => ?_) (fun i hi hX => ?_) ?_
   ·by_cases hi : i = j
    ·subst hi
     rw [ho] at hp; cases hp
     exact getD_set_true (hpre e he hb)
    ·rw [getD_set_ne false (Ne.symm hi)] at hX
     exact getD_set_true (hcl i p hp hX e he hb)
   ·have hne : i ≠ j := fun h => by subst h; simp [hjl] at hX
    rw [getD_set_ne false (Ne.symm hne)] at hX
    exact (List.mem_erase_of_ne hne).2 (hL i hi hX)
   ·have := hL j hlt hXj
    have := List.length_erase_of_mem this
    omega
  have hlast : listed.getD (k + 1) false = true → ∀ i, i < k + 1 → listed.getD i false = true := fun h i hi => by
   obtain ⟨b, hb1, hb2⟩ := hl.last i hi
   have hkl : k + 1 < ops.size := by omega
   exact ha2 (k + 1) ops[k + 1] b (by simp [hkl]) hb1 (fun e he hbb => hclX (k + 1) ops[k + 1] (by simp [hkl]) h e he hbb) i hb2
  -- what the check says of two operations before the object's
  have low : ∀ (i j : Nat) (p q : Oper), i < j → j ≠ k → ops[i]? = some p → ops[j]? = some q → (∃ b, (anc ops.toList)[j]? = some b ∧ i ∈ b) ∨ apartT (trOf p ops.toList (ρ i)) (trOf q ops.toList (ρ j)) = true := by
   intro i j p q hi hjk hp hq
   obtain ⟨b, hb1, _, hb3⟩ := hct j q (by simpa using hq)
   rw [List.getElem?_set_ne (Ne.symm hjk)] at hb1
   rcases hb3 i p hi (by simpa using hp) with h | h
   ·exact .inl ⟨b, hb1, by simpa using h⟩
   ·exact .inr h
  have h1 : ∀ (i : Nat) (p : Oper), j ≠ k → i < j → ops[i]? = some p → listed.getD i false = false → apartT (trOf p ops.toList (ρ i)) (trOf o ops.toList (ρ j)) = true := fun i p hjk hi hp hXi => by
   rcases low i j p o hi hjk hp ho with ⟨b, hb1, h⟩ | h
   ·have := ha2 j o b (by simpa using ho) hb1 (fun e he hbb => hpre e (by simpa using he) hbb) i h
    have h' : listed.getD i false = true := this
    rw [h'] at hXi; cases hXi
   ·exact h
  have h2 : ∀ (i : Nat) (p : Oper), i ≠ k → j < i → ops[i]? = some p → listed.getD i false = true → apartT (trOf o ops.toList (ρ j)) (trOf p ops.toList (ρ i)) = true := fun i p hik hi hp hXi => by
   rcases low j i o p hi hik ho hp with ⟨b, hb1, h⟩ | h
   ·have := ha2 i p b (by simpa using hp) hb1 (fun e he hbb => hcl i p hp hXi e (by simpa using he) hbb) j h
    have h' : listed.getD j false = true := this
    rw [h'] at hXj; cases hXj
   ·exact h
  rcases Nat.lt_trichotomy j k with hjk | hjk | hjk
  ·-- an operation before it
   obtain ⟨hd1, hd2⟩ := hl.low j o hjk ho
   have hnl : listed.getD (k + 1) false = false := by
    cases hg : listed.getD (k + 1) false with
    | false => rfl
    | true => rw [hlast hg j (by omega)] at hXj; cases hXj
   rcases hJ with ⟨hk, _, m1, e1, hS1, hap, hx⟩ | ⟨hn, hx⟩
   ·refine XRd.step hN hc hB t h0 hn0 ht hdst ho (by simp [show j ≠ k by omega]; simpa using hXj) (fun i p hi hp hXi => ?_) (fun i p hi hp hXi => ?_) hx (fun s hs he => hd1 (he ▸ hs)) fun m' a' x ha' hx' => ?_
    ·exact h1 i p (by omega) hi hp (by simpa [show i ≠ k by omega] using hXi)
    ·by_cases hik : i = k
     ·subst hik; simp at hXi
     ·exact h2 i p hik hi hp (by simpa [hik] using hXi)
    ·have hX2 : upd (fun i => if i = k then false else listed.getD i false) j true = fun i => if i = k then false else (listed.setIfInBounds j true).getD i false := by
      funext i
      by_cases hi : i = j
      ·subst hi; simp [hjl, show i ≠ k by omega]
      ·rw [upd_ne _ _ hi, getD_set_ne false (Ne.symm hi)]
     have hXL : XL S B m0 s0 ops σ ρ N k ty d z (fun i => (listed.setIfInBounds j true).getD i false) m' a' := by
      refine ⟨m1, e1, hS1, ?_, hX2 ▸ hx'⟩
      rw [ha', ← hap]
      cases hdo : o.dst with
      | none => rfl
      | some d' =>
       have : d' ≠ d := fun he => hd2 (by rw [hdo, he])
       simp [Act.put, Array.getElem?_setIfInBounds_ne this]
     have hk' : (listed.setIfInBounds j true).getD k false = true := getD_set_true hk
     by_cases hun : ∃ i, i < k ∧ (listed.setIfInBounds j true).getD i false = false
     ·exact hnext (.inl ⟨hk', hun, hXL⟩)
     ·obtain ⟨m2, w2, hx2⟩ := hXL.adopt t h0 hl hz hone hk' (by rw [getD_set_ne false (by omega)]; exact hnl)
      rw [← w2]
      exact hnext (.inr ⟨fun h => hun h.2, hx2⟩)
   ·have hkf : listed.getD k false = false := by
     cases hg : listed.getD k false with
     | false => rfl
     | true => exact (hn ⟨hg, j, hjk, hXj⟩).elim
    refine hx.step hN hc hB t h0 hn0 ht hdst ho hXj (fun i p hi hp hXi => h1 i p (by omega) hi hp hXi) (fun i p hi hp hXi => ?_) fun m' a' hx' => ?_
    ·refine h2 i p (fun hik => ?_) hi hp hXi
     subst hik
     rw [hkf] at hXi; cases hXi
    ·exact hnext (.inr ⟨(fun h => by rw [getD_set_ne false (by omega), hkf] at h; exact absurd h.1 (by simp)), hup ▸ hx'⟩)
  ·-- the object
   subst hjk
   obtain rfl : ok = o := Option.some.inj (hl.at_.symm.trans ho)
   have hx : XR S B m0 s0 ops σ ρ N (fun i => listed.getD i false) m a := by
    rcases hJ with ⟨h, _⟩ | ⟨_, hx⟩
    ·rw [hXj] at h; cases h
    ·exact hx
   have hnl : listed.getD (j + 1) false = false := by
    cases hg : listed.getD (j + 1) false with
    | false => rfl
    | true => rw [hlast hg j (by omega)] at hXj; cases hXj
   by_cases hun : ∃ i, i < j ∧ listed.getD i false = false
   ·refine alloc_wp ho hl.op hl.guard hzr ?_
    have hN' : d < N := hdst j ok d ho hl.dst
    have hSb : ¬ S m.w.heap.size := fun h => Nat.lt_irrefl _ (hx.rel.sub _ h)
    obtain ⟨r1, r2⟩ := hx.rel.hide (S' := fun x => S x ∨ x = m.w.heap.size) (w' := { m.w with heap := m.w.heap.push (Obj.cells z.cells ty (0, 0)) }) (fun b hb => by simp [Array.getElem?_push_lt hb, hb])
     (fun b hb => ⟨fun h => h.resolve_right (by omega), .inl⟩) (fun b h => by
      simp only [Array.size_push]
      rcases h with h | h
      ·have := hx.rel.sub b h; omega
      ·omega)
    refine hnext (m' := { m with w := { m.w with heap := m.w.heap.push (Obj.cells z.cells ty (0, 0)) } }) (.inl ⟨by simp [hjl], ?_, m, hx.evo, hSb, ?_, r1, .refl _ _, ?_, ?_, ?_, ?_, ?_⟩)
    ·obtain ⟨i, hi, hf⟩ := hun
     exact ⟨i, hi, by rw [getD_set_ne false (by omega)]; exact hf⟩
    ·rw [hl.dst]
     simp [Act.put, hx.size, hN']
    ·show m.h = _
     rw [hx.h]
     refine fx_congr fun i hi => ?_
     by_cases hij : i = j
     ·subst hij; simpa using hXj
     ·simp only [if_neg hij]; rw [getD_set_ne false (Ne.symm hij)]
    ·show m.iss = _
     rw [hx.iss]
     funext _ g
     apply propext
     refine or_congr Iff.rfl (exists_congr fun i => and_congr Iff.rfl (and_congr ?_ Iff.rfl))
     by_cases hij : i = j
     ·subst hij; simp only [if_pos]; rw [hXj]
     ·simp only [if_neg hij]; rw [getD_set_ne false (Ne.symm hij)]
    ·intro s hs
     rw [hl.dst]
     have e1 : (a.put (some d) (.pointer (some ⟨m.w.heap.size, 0, none⟩))).tmps.getD s undef = a.tmps.getD s undef := by
      simp [Act.put, Array.getElem?_setIfInBounds_ne (Ne.symm hs)]
     rw [e1]
     have := (hx.env s (fun h => h)).tr2 r2
     rw [fx_congr (Y := fun i => if i = j then false else (listed.setIfInBounds j true).getD i false) fun i hi => ?_] at this
     ·exact this
     ·by_cases hij : i = j
      ·subst hij; simpa using hXj
      ·simp only [if_neg hij]; rw [getD_set_ne false (Ne.symm hij)]
    ·rw [hl.dst]; simp [Act.put, hx.size]
    ·rw [hl.dst]; exact hx.defers.grow (by simp) fun b hb => by simp [Array.getElem?_push_lt hb, hb]
   ·refine hx.step hN hc hB t h0 hn0 ht hdst ho hXj (fun i p hi hp hXi => (hun ⟨i, hi, hXi⟩).elim) (fun i p hi hp hXi => ?_) fun m' a' hx' => ?_
    ·have : i = j + 1 := by have := (Array.getElem?_eq_some_iff.1 hp).1; omega
     subst this
     rw [hnl] at hXi; cases hXi
    ·refine hnext (.inr ⟨fun h => ?_, hup ▸ hx'⟩)
     obtain ⟨i, hi, hf⟩ := h.2
     rw [getD_set_ne false (by omega)] at hf
     exact hun ⟨i, hi, hf⟩
  ·-- the last one
   obtain rfl : j = k + 1 := by omega
   have hall : ∀ i, i < k + 1 → listed.getD i false = true := fun i hi => by
    obtain ⟨b, hb1, hb2⟩ := hl.last i hi
    exact ha2 (k + 1) o b (by simpa using ho) hb1 (fun e he hbb => hpre e (by simpa using he) hbb) i hb2
   have hx : XR S B m0 s0 ops σ ρ N (fun i => listed.getD i false) m a := by
    rcases hJ with ⟨_, ⟨i, hi, hf⟩, _⟩ | ⟨_, hx⟩
    ·rw [hall i (by omega)] at hf; cases hf
    ·exact hx
   refine hx.step hN hc hB t h0 hn0 ht hdst ho hXj (fun i p hi hp hXi => by rw [hall i hi] at hXi; cases hXi) (fun i p hi hp hXi => by have := (Array.getElem?_eq_some_iff.1 hp).1; omega) fun m' a' hx' => ?_
   refine hnext (.inr ⟨fun h => ?_, hup ▸ hx'⟩)
   obtain ⟨i, hi, hf⟩ := h.2
   rw [getD_set_ne false (by omega), hall i (by omega)] at hf
   cases hf

/-- A region in any order, from its beginning. -/
theorem any_ops [Gl] (hN : Pre P cfg) (hc : CallOK P call) (hB : Bodies P call) (t : Trace P cfg fid rid call ops.toList ops.toList σ ρ) (h0 : σ 0 = s0) (hn0 : s0.n0 ≤ s0.n) (ht : Tops s0.hp s0.n)
  (hdst : ∀ (i : Nat) (o : Oper) (d : Nat), ops[i]? = some o → o.dst = some d → d < N)
  (hord : ∀ (i : Nat) (o : Oper), ops[i]? = some o → ∀ e ∈ o.after, Region.binds .any e = true → e.on < i)
  (hchk : checkOps P cfg fid rid call ops.toList ops.toList (ancL ops.toList) [] s0 = true)
  {m0 : M} {Q : Exit → Act → World → Prop} (hQ : ∀ m' a', RS S B N (σ ops.size) m' a' → Evo S m0 m' → Q .normal a' m'.w)
  (fuel : Nat) (listed : Array Bool) (L : List Nat) {m : M} {a : Act} (hsz : listed.size = ops.size) (hno : ∀ i, i < ops.size → listed.getD i false = false)
  (hcl : ∀ (i : Nat) (o : Oper), ops[i]? = some o → listed.getD i false = true → ∀ e ∈ o.after, Region.binds .any e = true → listed.getD e.on false = true)
  (hL : ∀ i, i < ops.size → listed.getD i false = false → i ∈ L) (hlen : L.length ≤ fuel) (hx : XR S B m0 s0 ops σ ρ N (fun i => listed.getD i false) m a) : wpAnyIn (Fw oR) 0 P .any ops Q fuel listed a m.w := by
 cases hl : lateOK ops.toList with
 | false =>
  unfold ancL at hchk
  rw [hl] at hchk
  exact any_ops0 hN hc hB t h0 hn0 ht hdst hord hchk hQ fuel listed L hsz hcl hL hlen hx
 | true =>
  obtain ⟨k, o, ty, d, hlt⟩ := lateOK_spec hl
  unfold ancL at hchk
  rw [hl] at hchk
  have hk2 : ops.toList.length - 2 = k := by have := hlt.size; simp; omega
  simp only [hk2] at hchk
  obtain ⟨t1, _⟩ := t.step k o (by simpa using hlt.at_)
  obtain ⟨z, hz1, hz2, hz3⟩ := alloc_late hlt.op hlt.guard t1
  refine any_opsL hN hc hB t h0 hn0 ht hdst hord hlt hchk hz1 hz2 hz3 hQ fuel listed L hsz hcl hL hlen (.inr ⟨fun h => ?_, hx⟩)
  rw [hno k (by have := hlt.size; omega)] at h
  cases h.1

theorem orderOK_spec (h : orderOK ops.toList = true) : ∀ (i : Nat) (o : Oper), ops[i]? = some o → ∀ e ∈ o.after, Region.binds .any e = true → e.on < i := by
 intro i o ho e he hb
 have := List.all_eq_true.1 (List.all_eq_true.1 h (o, i) (by rw [List.mem_zipIdx_iff_getElem?]; simpa using ho)) e (by simpa using he)
 simp [hb] at this
 exact this

/-- The operations of a region. -/
theorem region_ops [Gl] (hN : Pre P cfg) (hm : P.follows .mixedOrders = true) (hc : CallOK P call) (hB : Bodies P call) {draw : Bool} {s' : St} (hchk : (if draw then orderOK ops.toList && checkOps P cfg fid rid call ops.toList ops.toList (ancL ops.toList) [] s0 else true) = true)
  (hr : runOps P cfg fid rid call ops.toList ops.toList s0 = some s') (hdst : ∀ (i : Nat) (o : Oper) (d : Nat), ops[i]? = some o → o.dst = some d → d < N) (h : RS S B N s0 m a)
  {Q : Exit → Act → World → Prop} (hQ : ∀ m' a', RS S B N s' m' a' → Evo S m m' → Q .normal a' m'.w) : (Code.region rid ops draw).wpIn (Fw oR) 0 P Q a m.w := by
 obtain ⟨σ, ρ, h0, h1, t⟩ := runOps_trace hr
 have h1' : σ ops.size = s' := by simpa using h1
 cases draw with
 | false =>
  refine wpIn_region ?_
  rw [List.range_eq_range']
  refine text_ops hN hc hB t h0 h.n0 h.top hdst (m0 := m) (by rw [h1']; exact hQ) ops.size 0 (by omega) ?_
  exact h.start fun i hi => by simp
 | true =>
  rw [if_pos rfl] at hchk
  simp only [Bool.and_eq_true] at hchk
  refine wpIn_region_any hm ?_
  -- the draw itself
  obtain ⟨g1, g2⟩ := h.rel.grown (w' := { m.w with drawn := m.w.drawn + 1 }) (Nat.le_refl _) (fun _ _ => rfl) ⟨rfl, rfl, fun _ _ => rfl⟩
  have h' : RS S B N s0 { m with w := { m.w with drawn := m.w.drawn + 1 } } a := ⟨h.h, h.iss, g1, fun t => (h.env t).mono g2, h.size, h.defers.mono g2, h.top, h.n0⟩
  refine any_ops hN hc hB t h0 h.n0 h.top hdst (orderOK_spec hchk.1) hchk.2 (m0 := { m with w := { m.w with drawn := m.w.drawn + 1 } })
   (fun m' a' k1 k2 => hQ m' a' (by rw [← h1']; exact k1) (g2.trans k2)) ops.size (Array.replicate ops.size false) (List.range ops.size) (m := { m with w := { m.w with drawn := m.w.drawn + 1 } }) (by simp) (fun i hi => by simp [hi])
   (fun i o ho hX => by
    have := (Array.getElem?_eq_some_iff.1 ho).1
    simp [this] at hX) (fun i hi _ => by simp [hi]) (by simp) (h'.start fun i hi => by simp [hi])

end

end Go.Ac
