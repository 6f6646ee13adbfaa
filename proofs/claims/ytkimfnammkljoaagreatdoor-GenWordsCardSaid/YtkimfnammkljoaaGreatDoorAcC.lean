/- The abstract machine: how memory is read and changed. No conditions. -/
import Derived.Test.YtkimfnammkljoaaGreatDoorAcB
import Derived.Laws.Tables
set_option linter.unusedVariables false
set_option linter.unusedSimpArgs false
namespace Go.Ac

def upd {α : Type} (f : Nat → α) (k : Nat) (v : α) : Nat → α := fun i => if i = k then v else f i
@[simp] theorem upd_same {α : Type} (f : Nat → α) (k : Nat) (v : α) : upd f k v k = v := by simp [upd]
theorem upd_ne {α : Type} (f : Nat → α) {k j : Nat} (v : α) (h : j ≠ k) : upd f k v j = f j := by simp [upd, h]

def hupd (h : Nat → Option Ob) : List (Nat × Ob) → Nat → Option Ob
 | [] => h
 | (k, o) :: r => hupd (upd h k (some o)) r

theorem beq_ff {a b : Nat} (h : a ≠ b) : Nat.beq a b = false := by
 cases hb : Nat.beq a b with
 | false => rfl
 | true => exact absurd (Nat.eq_of_beq_eq_true hb) h

theorem hp_get_set (h : Hp) (k : Nat) (o : Ob) : (Hp.set h k o).get = upd h.get k (some o) := by
 funext i
 induction h with
 | nil =>
  simp only [Hp.set, Hp.get, upd]
  by_cases hi : i = k
  ·subst hi; simp
  ·have : Nat.beq k i = false := beq_ff (Ne.symm hi)
   simp [this, hi]
 | cons p r ih =>
  obtain ⟨j, q⟩ := p
  simp only [Hp.set]
  cases hjk : Nat.beq j k with
  | true =>
   have hjk' : j = k := Nat.eq_of_beq_eq_true hjk
   subst hjk'
   simp only [Hp.get, upd]
   by_cases hi : i = j
   ·subst hi; simp
   ·have : Nat.beq j i = false := beq_ff (Ne.symm hi)
    simp [this, hi]
  | false =>
   simp only [Hp.get]
   rw [ih]
   have hjk' : j ≠ k := fun h => by subst h; simp at hjk
   cases hji : Nat.beq j i with
   | true =>
    have hji' : j = i := Nat.eq_of_beq_eq_true hji
    subst hji'
    simp [upd, hjk']
   | false => simp [upd, hji]

theorem hp_get_sets (wr : List (Nat × Ob)) : ∀ h : Hp, (Hp.sets h wr).get = hupd h.get wr := by
 induction wr with
 | nil => intro h; rfl
 | cons p r ih => intro h; obtain ⟨k, o⟩ := p; simp only [Hp.sets, hupd]; rw [ih, hp_get_set]

/-! ### Lists of values -/

def RVs [Gl] (S : Nat → Prop) (m : M) (vs : List V) (xs : List Value) : Prop :=
 vs.length = xs.length ∧ ∀ (j : Nat) (v : V) (x : Value), vs[j]? = some v → xs[j]? = some x → RV S m v x

theorem RVs.nil [Gl] {S : Nat → Prop} {m : M} : RVs S m [] [] := ⟨rfl, fun _ _ _ h => by simp at h⟩
theorem RVs.cons [Gl] {S : Nat → Prop} {m : M} {v : V} {x : Value} {vs : List V} {xs : List Value} (h : RV S m v x) (hs : RVs S m vs xs) : RVs S m (v :: vs) (x :: xs) := by
 refine ⟨by simp [hs.1], fun j a b ha hb => ?_⟩
 cases j with
 | zero => simp at ha hb; subst ha; subst hb; exact h
 | succ j => simp at ha hb; exact hs.2 j a b ha hb
theorem RVs.head [Gl] {S : Nat → Prop} {m : M} {v : V} {x : Value} {vs : List V} {xs : List Value} (h : RVs S m (v :: vs) (x :: xs)) : RV S m v x := h.2 0 v x rfl rfl
theorem RVs.tail [Gl] {S : Nat → Prop} {m : M} {v : V} {x : Value} {vs : List V} {xs : List Value} (h : RVs S m (v :: vs) (x :: xs)) : RVs S m vs xs :=
 ⟨by have := h.1; simpa using this, fun j a b ha hb => h.2 (j + 1) a b (by simpa using ha) (by simpa using hb)⟩
theorem RVs.cases [Gl] {S : Nat → Prop} {m : M} {v : V} {vs : List V} {ys : List Value} (h : RVs S m (v :: vs) ys) : ∃ x xs, ys = x :: xs ∧ RV S m v x ∧ RVs S m vs xs := by
 cases ys with
 | nil => have := h.1; simp at this
 | cons x xs => exact ⟨x, xs, rfl, h.head, h.tail⟩
theorem RVs.take [Gl] {S : Nat → Prop} {m : M} {vs : List V} {xs : List Value} (h : RVs S m vs xs) (n : Nat) : RVs S m (vs.take n) (xs.take n) := by
 refine ⟨by simp [h.1], fun j a b ha hb => ?_⟩
 rw [List.getElem?_take] at ha hb
 by_cases hj : j < n
 ·simp [hj] at ha hb; exact h.2 j a b ha hb
 ·simp [hj] at ha
theorem RVs.drop [Gl] {S : Nat → Prop} {m : M} {vs : List V} {xs : List Value} (h : RVs S m vs xs) (n : Nat) : RVs S m (vs.drop n) (xs.drop n) := by
 refine ⟨by simp [h.1], fun j a b ha hb => ?_⟩
 rw [List.getElem?_drop] at ha hb
 exact h.2 _ a b ha hb
theorem RVs.append [Gl] {S : Nat → Prop} {m : M} {vs us : List V} {xs ys : List Value} (h : RVs S m vs xs) (k : RVs S m us ys) : RVs S m (vs ++ us) (xs ++ ys) := by
 refine ⟨by simp [h.1, k.1], fun j a b ha hb => ?_⟩
 rw [List.getElem?_append] at ha hb
 by_cases hj : j < vs.length
 ·rw [if_pos hj] at ha; rw [if_pos (h.1 ▸ hj)] at hb; exact h.2 j a b ha hb
 ·rw [if_neg hj] at ha; rw [if_neg (h.1 ▸ hj)] at hb; rw [h.1] at ha; exact k.2 _ a b ha hb
theorem RVs.mono [Gl] {S : Nat → Prop} {m m' : M} {vs : List V} {xs : List Value} (h : RVs S m vs xs) (e : Evo S m m') : RVs S m' vs xs :=
 ⟨h.1, fun j a b ha hb => (h.2 j a b ha hb).mono e⟩
theorem RVs.get [Gl] {S : Nat → Prop} {m : M} {vs : List V} {xs : List Value} (h : RVs S m vs xs) {j : Nat} {v : V} (hv : vs[j]? = some v) : ∃ x, xs[j]? = some x ∧ RV S m v x := by
 have hj : j < xs.length := by
  rw [← h.1]; exact (List.getElem?_eq_some_iff.1 hv).1
 exact ⟨xs[j], by simp [hj], h.2 j v _ hv (by simp [hj])⟩
theorem RVs.map_d [Gl] {S : Nat → Prop} {m : M} {ds : List D} {xs : List Value} (hl : ds.length = xs.length)
  (h : ∀ (j : Nat) (d : D) (x : Value), ds[j]? = some d → xs[j]? = some x → RD m.w (m.av S) d x) : RVs S m (ds.map .d) xs := by
 refine ⟨by simp [hl], fun j v x hv hx => ?_⟩
 rw [List.getElem?_map] at hv
 cases hd : ds[j]? with
 | none => simp [hd] at hv
 | some d => simp [hd] at hv; subst hv; exact .d (h j d x hd hx)
theorem RVs.ones [Gl] {S : Nat → Prop} {m : M} {vs : List V} {xs : List Value} (h : RVs S m vs xs) (ho : vs.all V.one = true) : ∀ x ∈ xs, x.oneCell' = true := by
 intro x hx
 obtain ⟨j, hj⟩ := List.mem_iff_getElem?.1 hx
 have hlt : j < vs.length := by rw [h.1]; exact (List.getElem?_eq_some_iff.1 hj).1
 have hv : vs[j]? = some vs[j] := by simp [hlt]
 exact (h.2 j _ x hv hj).one (List.all_eq_true.1 ho _ (List.getElem_mem hlt))

/-! ### Reading an object -/

theorem addr_add (b o n : Nat) : (⟨b, o, none⟩ : Addr).add n = ⟨b, o + n, none⟩ := by
 unfold Addr.add; split
 ·rename_i h; subst h; simp
 ·rfl

theorem cell_of_row {w : World} {b : Nat} {cs : Array Value} {T : TypeId} {fz : Nat × Nat} (h : w.heap[b]? = some (Obj.cells cs T fz)) (j : Nat) :
  w.cell? ⟨b, j, none⟩ = cs[j]? := by simp [World.cell?, h]

theorem Rel.cellsAt [Gl] {S : Nat → Prop} {m : M} (hR : Rel S m) {id : Nat} {o : Ob} {b base : Nat} (hk : kindL o.cells = 0) (ho : m.h id = some o) (ha : m.at_ id = some (b, base)) : ¬ S b ∧ CellsAt S m o.cells b base := by
 have := hR.obj id o b base ho ha
 rwa [rowAt_cells hk] at this

theorem RowAt.some [Gl] {S : Nat → Prop} {m : M} {l : List V} {b base : Nat} (h : RowAt S m l b base) : ∃ ob, m.w.heap[b]? = some ob := by
 unfold RowAt at h
 split at h
 ·obtain ⟨_, t, h1, _⟩ := h; exact ⟨_, h1⟩
 ·obtain ⟨_, es, h1, _⟩ := h; exact ⟨_, h1⟩
 ·obtain ⟨_, es, h1, _⟩ := h; exact ⟨_, h1⟩
 ·obtain ⟨_, es, h1, _⟩ := h; exact ⟨_, h1⟩
 ·obtain ⟨_, bm, h1, _⟩ := h; exact ⟨_, h1⟩
 ·obtain ⟨_, r, h1, _⟩ := h; exact ⟨_, h1⟩
 ·obtain ⟨cs, T, fz, h1, _⟩ := h; exact ⟨_, h1⟩

/-- Where cells lie, the object is one of cells. -/
theorem RowAt.kind_at [Gl] {S : Nat → Prop} {m : M} {l : List V} {b base : Nat} (h : RowAt S m l b base) (hc : ∃ cs T fz, m.w.heap[b]? = Option.some (Obj.cells cs T fz)) : kindL l = 0 := by
 obtain ⟨cs, T, fz, hc⟩ := hc
 unfold RowAt at h
 split at h
 ·obtain ⟨_, t, h1, _⟩ := h; rw [hc] at h1; injection h1 with h1; cases h1
 ·obtain ⟨_, es, h1, _⟩ := h; rw [hc] at h1; injection h1 with h1; cases h1
 ·obtain ⟨_, es, h1, _⟩ := h; rw [hc] at h1; injection h1 with h1; cases h1
 ·obtain ⟨_, es, h1, _⟩ := h; rw [hc] at h1; injection h1 with h1; cases h1
 ·obtain ⟨_, bm, h1, _⟩ := h; rw [hc] at h1; injection h1 with h1; cases h1
 ·obtain ⟨_, r, h1, _⟩ := h; rw [hc] at h1; injection h1 with h1; cases h1
 ·exact CellsAt.kind h

theorem MapAt.mono [Gl] {S : Nat → Prop} {m m' : M} {ks : List D} {vs : List V} {bs : List Nat} {es : Array MapEntry} (h : MapAt S m ks vs bs es) (e : Evo S m m') : MapAt S m' ks vs bs es :=
 ⟨h.lk, h.lv, h.lb, fun j k x hk hx => (h.key j k x hk hx).mono e.keep, fun j v x hv hx => (h.val j v x hv hx).mono e, h.born⟩

theorem MapAAt.mono [Gl] {S : Nat → Prop} {m m' : M} {ks : List (List D)} {vs : List V} {es : Array MapEntry} (h : MapAAt S m ks vs es) (e : Evo S m m') : MapAAt S m' ks vs es :=
 ⟨h.lk, h.lv, fun j k x hk hx => (h.key j k x hk hx).mono e, fun j v x hv hx => (h.val j v x hv hx).mono e⟩

theorem RowAt.mono [Gl] {S : Nat → Prop} {m m' : M} {l : List V} {b base : Nat} (h : RowAt S m l b base) (e : Evo S m m') (hrow : m'.w.heap[b]? = m.w.heap[b]?) : RowAt S m' l b base := by
 have h0 := h
 unfold RowAt at h
 split at h
 ·obtain ⟨h1, t, h2, h3⟩ := h; exact ⟨h1, t, by rw [hrow]; exact h2, h3⟩
 ·obtain ⟨h1, es, h2, h3⟩ := h; exact ⟨h1, es, by rw [hrow]; exact h2, h3.mono e⟩
 ·obtain ⟨h1, es, h2, h3⟩ := h; exact ⟨h1, es, by rw [hrow]; exact h2, h3.mono e⟩
 ·obtain ⟨h1, es, h2, ks', vs', bs', h3, h4⟩ := h; exact ⟨h1, es, by rw [hrow]; exact h2, ks', vs', bs', h3.mono e, h4⟩
 ·obtain ⟨h1, bm, h2, h3⟩ := h; exact ⟨h1, bm, by rw [hrow]; exact h2, h3.mono e⟩
 ·obtain ⟨h1, r, h2, h3⟩ := h; exact ⟨h1, r, by rw [hrow]; exact h2, h3.mono e⟩
 ·rw [rowAt_cells (CellsAt.kind h)]
  obtain ⟨cs, T, fz, h2, h3, h4, h5⟩ := h
  refine ⟨cs, T, fz, by rw [hrow]; exact h2, h3, h4, fun j v hv => ?_⟩
  obtain ⟨h6, x, h7, h8⟩ := h5 j v hv
  exact ⟨h6, x, h7, h8.mono e⟩

/-- The cells of an object, in memory. -/
theorem Rel.vals [Gl] {S : Nat → Prop} {m : M} (hR : Rel S m) {id : Nat} {o : Ob} {b base : Nat} (ho : m.h id = some o) (ha : m.at_ id = some (b, base)) (hk : kindL o.cells = 0) :
  ∃ xs, RVs S m o.cells xs ∧ o.cells.all V.one = true ∧ ∀ (j : Nat) (x : Value), xs[j]? = some x → m.w.cell? ⟨b, base + j, none⟩ = some x := by
 obtain ⟨_, cs, T, fz, hrow, _, hsz, hc⟩ := hR.cellsAt hk ho ha
 refine ⟨(cs.toList.drop base).take o.cells.length, ⟨?_, fun j v x hv hx => ?_⟩, ?_, fun j x hx => ?_⟩
 ·simp; omega
 ·obtain ⟨_, y, hy, hRV⟩ := hc j v hv
  rw [List.getElem?_take] at hx
  split at hx
  ·rw [List.getElem?_drop] at hx; simp [hy] at hx; subst hx; exact hRV
  ·simp at hx
 ·rw [List.all_eq_true]
  intro v hv
  obtain ⟨j, hj⟩ := List.mem_iff_getElem?.1 hv
  exact (hc j v hj).1
 ·rw [List.getElem?_take] at hx
  split at hx
  ·rw [List.getElem?_drop] at hx; rw [cell_of_row hrow]; simpa using hx
  ·simp at hx

theorem live_spec {look : Look} {id g : Nat} {o : Ob} (h : live look id g = some o) : look id = some o ∧ o.gen = g := by
 unfold live at h
 cases hl : look id with
 | none => simp [hl] at h
 | some p =>
  simp only [hl] at h
  cases hb : Nat.beq p.gen g with
  | false => simp [hb] at h
  | true => simp [hb] at h; subst h; exact ⟨rfl, Nat.eq_of_beq_eq_true hb⟩

/-- A live pointer. -/
theorem RV.ptr_live [Gl] {S : Nat → Prop} {m : M} {id g off : Nat} {v : Value} {o : Ob} (h : RV S m (.ptr id g off) v) (hl : live m.h id g = some o) :
  m.h id = some o ∧ o.gen = g ∧ ∃ b base, m.at_ id = some (b, base) ∧ v = .pointer (some ⟨b, base + off, none⟩) := by
 obtain ⟨h1, h2⟩ := live_spec hl
 cases h with
 | ptr _ _ h => exact ⟨h1, h2, (h o h1 h2).2⟩

theorem RV.ptr_kind [Gl] {S : Nat → Prop} {m : M} {id g off : Nat} {v : Value} {o : Ob} (h : RV S m (.ptr id g off) v) (hl : live m.h id g = some o) : kindL o.cells = 0 := by
 obtain ⟨h1, h2⟩ := live_spec hl
 cases h with
 | ptr _ _ h => exact (h o h1 h2).1

theorem RV.osl_kind [Gl] {S : Nat → Prop} {m : M} {id g off len sz : Nat} {cap : Option Nat} {v : Value} {o : Ob} (h : RV S m (.osl id g off len sz cap) v) (hl : live m.h id g = some o) : kindL o.cells = 0 := by
 obtain ⟨h1, h2⟩ := live_spec hl
 cases h with
 | osl _ _ h => exact (h o h1 h2).1

theorem RV.it_live [Gl] {S : Nat → Prop} {m : M} {id g : Nat} {v : Value} {o : Ob} (h : RV S m (.it id g) v) (hl : live m.h id g = some o) :
  m.h id = some o ∧ o.gen = g ∧ kindL o.cells = 1 ∧ ∃ b, m.at_ id = some (b, 0) ∧ v = .pointer (some ⟨b, 0, none⟩) := by
 obtain ⟨h1, h2⟩ := live_spec hl
 cases h with
 | it _ _ h => exact ⟨h1, h2, h o h1 h2⟩

theorem RV.mp_live [Gl] {S : Nat → Prop} {m : M} {id g : Nat} {v : Value} {o : Ob} (h : RV S m (.mp id g) v) (hl : live m.h id g = some o) :
  m.h id = some o ∧ o.gen = g ∧ kindL o.cells = 2 ∧ ∃ b, m.at_ id = some (b, 0) ∧ v = .map (some b) := by
 obtain ⟨h1, h2⟩ := live_spec hl
 cases h with
 | mp _ _ h => exact ⟨h1, h2, h o h1 h2⟩

theorem RV.osl_live [Gl] {S : Nat → Prop} {m : M} {id g off len sz : Nat} {cap : Option Nat} {v : Value} {o : Ob} (h : RV S m (.osl id g off len sz cap) v) (hl : live m.h id g = some o) :
  m.h id = some o ∧ o.gen = g ∧ OslOK m o id off len sz cap v := by
 obtain ⟨h1, h2⟩ := live_spec hl
 cases h with
 | osl _ _ h => exact ⟨h1, h2, (h o h1 h2).2⟩

/-! ### Changing memory -/

/-- What an operation has done: the value, and memory behind it. -/
def After [Gl] (S : Nat → Prop) (m : M) (c : Nat) (r : Res) (x : Value) (m' : M) : Prop :=
 Rel S m' ∧ Evo S m m' ∧ RV S m' r.v x ∧ m'.h = hupd m.h r.wr ∧ m'.iss = (fun id g => m.iss id g ∨ (c ≤ g ∧ g < c + r.dc))

/-- The names and marks that are given out are new. -/
def Fresh (m : M) (c dc : Nat) : Prop := ∀ id g, c ≤ g → g < c + dc → ¬ m.iss id g

theorem iss_zero (m : M) (c : Nat) : (fun id g => m.iss id g ∨ (c ≤ g ∧ g < c + 0)) = m.iss := by
 funext id g; apply propext; constructor
 ·rintro (h | h)
  ·exact h
  ·omega
 ·exact .inl

theorem After.quiet [Gl] {S : Nat → Prop} {m : M} {c : Nat} {v : V} {rd : List Nat} {x : Value} {al : Bool} (hR : Rel S m) (hv : RV S m v x) : After S m c ⟨v, [], rd, 0, 0, al⟩ x m :=
 ⟨hR, .refl S m, hv, rfl, (iss_zero m c).symm⟩

/-! ### Entries in another order -/
theorem keyEq_symm {a b : D} {q : Bool} (h : keyEq a b = some q) : keyEq b a = some q := by
 unfold keyEq at h ⊢
 split at h
 ·rename_i k x l y
  split at h
  ·rename_i hk
   subst hk
   simp only [Option.some.injEq] at h
   subst h
   rw [if_pos rfl, BEq.comm]
  ·cases h
 ·simp only [Option.some.injEq] at h ⊢
  rw [← h, BEq.comm]
 ·simp only [Option.some.injEq] at h ⊢
  rw [← h, BEq.comm]
 ·cases h
theorem keyEq_true {a b : D} (h : keyEq a b = some true) : a = b := by
 unfold keyEq at h
 split at h
 ·split at h
  ·rename_i hk
   simp at h; subst hk; rw [h]
  ·cases h
 ·simp at h; rw [h]
 ·simp at h; rw [h]
 ·cases h
theorem findV_none_iff {k : D} : ∀ {ks : List D} {i : Nat}, findV k ks i = some none ↔ ∀ q ∈ ks, keyEq k q = some false
 | [], i => by simp [findV]
 | q :: r, i => by
  simp only [findV, List.mem_cons, forall_eq_or_imp]
  split
  ·rename_i h; simp [h]
  ·rename_i h; simp [h, findV_none_iff]
  ·rename_i h; simp [h]
theorem findV_ex {k : D} (hk : keyEq k k = some true) : ∀ {ks : List D} {i : Nat}, (∀ q ∈ ks, q = k ∨ keyEq k q = some false) → k ∈ ks → ∃ j, findV k ks i = some (some (i + j)) ∧ ks[j]? = some k
 | [], i, _, h => by cases h
 | q :: r, i, hq, h => by
  by_cases hne : q = k
  ·subst hne; exact ⟨0, by simp [findV, hk], rfl⟩
  ·have hf := (hq q (List.mem_cons_self ..)).resolve_left hne
   have hr : k ∈ r := (List.mem_cons.1 h).resolve_left fun e => hne e.symm
   obtain ⟨j, h1, h2⟩ := findV_ex hk (i := i + 1) (fun x hx => hq x (List.mem_cons_of_mem _ hx)) hr
   exact ⟨j + 1, by simp only [findV, hf]; rw [h1, show i + 1 + j = i + (j + 1) by omega], by simpa using h2⟩
theorem findV_at {k : D} : ∀ {ks : List D} {j i : Nat}, findV k ks j = some (some i) → j ≤ i ∧ ks[i - j]? = some k ∧ keyEq k k = some true
 | [], j, i, h => by simp [findV] at h
 | u :: ks, j, i, h => by
  simp only [findV] at h
  split at h
  ·rename_i hq
   simp at h; subst h
   have := keyEq_true hq
   subst this
   exact ⟨Nat.le_refl _, by simp, hq⟩
  ·obtain ⟨h1, h2, h3⟩ := findV_at h
   refine ⟨by omega, ?_, h3⟩
   rw [show i - j = (i - (j + 1)) + 1 by omega]; simpa using h2
  ·simp at h
theorem zip_set : ∀ {ks : List D} {vs : List V} {j : Nat} {k : D} {x : V}, ks[j]? = some k → ks.zip (vs.set j x) = (ks.zip vs).set j (k, x)
 | [], vs, j, k, x, h => by simp at h
 | a :: ks, [], j, k, x, h => by simp
 | a :: ks, v :: vs, 0, k, x, h => by simp at h; subst h; rfl
 | a :: ks, v :: vs, j + 1, k, x, h => by simp only [List.set_cons_succ, List.zip_cons_cons]; rw [zip_set (by simpa using h)]
theorem set_cons_perm {α : Type _} : ∀ {l : List α} {j : Nat} {a b : α}, l[j]? = some a → (a :: l.set j b).Perm (b :: l)
 | [], j, a, b, h => by simp at h
 | c :: l, 0, a, b, h => by simp at h; subst h; exact List.Perm.swap ..
 | c :: l, j + 1, a, b, h => by
  have ih := set_cons_perm (l := l) (j := j) (a := a) (b := b) (by simpa using h)
  exact (List.Perm.swap c a _).trans ((ih.cons c).trans (List.Perm.swap b c l))

section
variable {ks ks' : List D} {vs vs' : List V} {k : D} {j : Nat}
theorem QP.len (h : QP ks vs ks' vs') : ks'.length = ks.length := by
 have h1 := h.perm.length_eq
 simp only [List.length_zip] at h1
 have := h.l; have := h.l'; omega
theorem QP.keys (h : QP ks vs ks' vs') : ks'.Perm ks := by
 have := h.perm.map Prod.fst
 rwa [List.map_fst_zip (by rw [h.l']; exact Nat.le_refl _), List.map_fst_zip (by rw [h.l]; exact Nat.le_refl _)] at this
theorem QP.apart (h : QP ks vs ks' vs') {i : Nat} {a b : D} (hi : ks[i]? = some a) (hj : ks[j]? = some b) (hne : i ≠ j) : keyEq a b = some false := by
 obtain ⟨hi1, rfl⟩ := List.getElem?_eq_some_iff.1 hi
 obtain ⟨hj1, rfl⟩ := List.getElem?_eq_some_iff.1 hj
 have hp := List.pairwise_iff_getElem.1 h.ap
 by_cases hlt : i < j
 ·exact hp i j hi1 hj1 hlt
 ·exact keyEq_symm (hp j i hj1 hi1 (by omega))
theorem QP.find (h : QP ks vs ks' vs') (hf : findV k ks 0 = some (some j)) : ∃ j', findV k ks' 0 = some (some j') ∧ ks[j]? = some k ∧ ks'[j']? = some k ∧ ∃ v, vs'[j']? = some v ∧ vs[j]? = some v := by
 obtain ⟨_, hk, hkk⟩ := findV_at hf
 rw [Nat.sub_zero] at hk
 have hall : ∀ q ∈ ks', q = k ∨ keyEq k q = some false := fun q hq => by
  obtain ⟨i, hi⟩ := List.mem_iff_getElem?.1 (h.keys.subset hq)
  by_cases hij : j = i
  ·subst hij; rw [hk] at hi; exact .inl (Option.some.inj hi).symm
  ·exact .inr (h.apart hk hi hij)
 obtain ⟨j', h1, h2⟩ := findV_ex hkk (i := 0) hall (h.keys.symm.subset (List.mem_of_getElem? hk))
 rw [Nat.zero_add] at h1
 refine ⟨j', h1, hk, h2, ?_⟩
 have hjl : j' < vs'.length := by rw [← h.l']; exact (List.getElem?_eq_some_iff.1 h2).1
 have hv' : vs'[j']? = some vs'[j'] := List.getElem?_eq_getElem hjl
 have hm : (k, vs'[j']) ∈ ks.zip vs := h.perm.subset (List.mem_of_getElem? (List.getElem?_zip_eq_some.2 ⟨h2, hv'⟩))
 obtain ⟨i, hi⟩ := List.mem_iff_getElem?.1 hm
 obtain ⟨hi1, hi2⟩ := List.getElem?_zip_eq_some.1 hi
 have hij : i = j := by
  by_cases hij : i = j
  ·exact hij
  ·have := h.apart hi1 hk hij
   rw [hkk] at this; cases this
 subst hij
 exact ⟨_, hv', hi2⟩
theorem QP.none (h : QP ks vs ks' vs') (hf : findV k ks 0 = some .none) : findV k ks' 0 = some .none :=
 findV_none_iff.2 fun q hq => findV_none_iff.1 hf q (h.keys.subset hq)
theorem QP.set (h : QP ks vs ks' vs') {j' : Nat} {v x : V} (h1 : ks[j]? = some k) (h2 : ks'[j']? = some k) (h3 : vs'[j']? = some v) (h4 : vs[j]? = some v) : QP ks (vs.set j x) ks' (vs'.set j' x) where
 perm := by
  rw [zip_set h1, zip_set h2]
  have e1 := set_cons_perm (b := (k, x)) (show (ks.zip vs)[j]? = some (k, v) from List.getElem?_zip_eq_some.2 ⟨h1, h4⟩)
  have e2 := set_cons_perm (b := (k, x)) (show (ks'.zip vs')[j']? = some (k, v) from List.getElem?_zip_eq_some.2 ⟨h2, h3⟩)
  exact (e2.trans ((h.perm.cons _).trans e1.symm)).cons_inv
 l := by simp [h.l]
 l' := by simp [h.l']
 ap := h.ap
theorem QP.push (h : QP ks vs ks' vs') {x : V} (hf : findV k ks 0 = some .none) : QP (ks ++ [k]) (vs ++ [x]) (ks' ++ [k]) (vs' ++ [x]) where
 perm := by
  rw [List.zip_append h.l', List.zip_append h.l]
  exact h.perm.append_right _
 l := by simp [h.l]
 l' := by simp [h.l']
 ap := by
  rw [List.pairwise_append]
  refine ⟨h.ap, List.pairwise_singleton _ _, fun a ha b hb => ?_⟩
  obtain rfl := List.mem_singleton.1 hb
  exact keyEq_symm (findV_none_iff.1 hf a ha)
theorem QP.map (h : QP ks vs ks' vs') (f : V → V) : QP ks (vs.map f) ks' (vs'.map f) where
 perm := by rw [List.zip_map_right, List.zip_map_right]; exact h.perm.map _
 l := by simp [h.l]
 l' := by simp [h.l']
 ap := h.ap
end

/-- An object may take the place of another one. -/
structure Swap [Gl] (S : Nat → Prop) (m : M) (at_ : Option (Nat × Nat)) (q o : Ob) : Prop where
 gen : q.gen = o.gen
 ro : q.ro = o.ro
 len : q.cells.length = o.cells.length
 kind : kindL q.cells = kindL o.cells
 row : ∀ b base, at_ = some (b, base) → RowAt S m q.cells b base → RowAt S m o.cells b base
theorem Swap.refl [Gl] (S : Nat → Prop) (m : M) (at_ : Option (Nat × Nat)) (o : Ob) : Swap S m at_ o o := ⟨rfl, rfl, rfl, rfl, fun _ _ _ h => h⟩
theorem Rel.swap [Gl] {S : Nat → Prop} {m : M} (hR : Rel S m) {h' : Nat → Option Ob} (hh : ∀ id o, h' id = some o → ∃ q, m.h id = some q ∧ Swap S m (m.at_ id) q o) :
  Rel S { m with h := h' } ∧ Evo S m { m with h := h' } := by
 have e : Evo S m { m with h := h' } := {
  dfr := fun _ h => h
  lps := fun _ r h => ⟨r, h⟩
  rest := ⟨rfl, rfl⟩
  iss := fun _ _ h => h
  size := Nat.le_refl _
  shape := fun b cs T fz h => ⟨cs, fz, h, rfl⟩
  keepS := fun b h _ => rfl
  keep := fun b h hn => ⟨fun hx => hn (by
   rcases hx with hx | ⟨id, o, x, h1, h2, h3⟩
   ·exact .inl hx
   ·obtain ⟨q, hq, hs⟩ := hh _ _ h1
    exact .inr ⟨id, q, x, hq, hs.ro.trans h2, h3⟩), rfl⟩
  live := fun id o h _ => by
   obtain ⟨q, hq, hs⟩ := hh _ _ h
   exact ⟨q, hq, hs.gen, rfl, by rw [hs.len]; exact Nat.le_refl _, hs.kind.symm⟩
  old := fun id o b x h1 h2 _ => by
   obtain ⟨q, hq, hs⟩ := hh _ _ h1
   exact ⟨q, x, hq, h2⟩ }
 refine ⟨⟨fun g => (hR.glob g).mono e, fun id o h => ?_, fun id o h ha => ?_, fun id o b base ho ha => ?_, fun i j oi oj b x y hi hj => ?_, hR.sub⟩, e⟩
 ·obtain ⟨q, hq, hs⟩ := hh _ _ h
  rw [← hs.gen]; exact hR.iss id q hq
 ·obtain ⟨q, hq, hs⟩ := hh _ _ h
  have h1 := hR.none_ id q hq ha
  have h2 := hs.len
  rw [h1] at h2
  exact List.length_eq_zero_iff.1 h2.symm
 ·obtain ⟨q, hq, hs⟩ := hh _ _ ho
  obtain ⟨h1, h2⟩ := hR.obj id q b base hq ha
  exact ⟨h1, (hs.row b base ha h2).mono e rfl⟩
 ·obtain ⟨p, hp, _⟩ := hh _ _ hi
  obtain ⟨q, hq, _⟩ := hh _ _ hj
  exact hR.inj i j p q b x y hp hq

theorem ObLe.swap [Gl] {S : Nat → Prop} {m : M} {at_ : Option (Nat × Nat)} {q o : Ob} (h : ObLe q o) : Swap S m at_ q o := by
 rcases h with rfl | ⟨ks, vs, bs, c, ks2, vs2, hc, rfl, hq⟩
 ·exact .refl _ _ _ _
 ·refine ⟨rfl, rfl, by rw [hc]; rfl, by rw [hc]; rfl, fun b base _ h => ?_⟩
  rw [hc] at h
  obtain ⟨h1, es, h2, h3⟩ := h
  exact ⟨h1, es, h2, ks, vs, bs, h3, hq⟩
/-- Such a map, its entries in the order in which they stand. -/
theorem Rel.know [Gl] {S : Nat → Prop} {m : M} (hR : Rel S m) {id b g : Nat} {ro : Bool} {ks : List D} {vs : List V} {c : Nat} (ho : m.h id = some ⟨g, ro, [.mpq ks vs c]⟩) (ha : m.at_ id = some (b, 0)) :
  ∃ ks' vs' bs', QP ks vs ks' vs' ∧ Rel S { m with h := upd m.h id (some ⟨g, ro, [.mpc ks' vs' bs' c]⟩) } ∧ Evo S m { m with h := upd m.h id (some ⟨g, ro, [.mpc ks' vs' bs' c]⟩) } := by
 obtain ⟨_, _, es, h2, ks', vs', bs', h3, h4⟩ := hR.obj id _ b 0 ho ha
 refine ⟨ks', vs', bs', h4, hR.swap fun i o hi => ?_⟩
 by_cases hid : i = id
 ·subst hid
  rw [upd_same, Option.some.injEq] at hi
  subst hi
  refine ⟨_, ho, rfl, rfl, rfl, rfl, fun b' base hb _ => ?_⟩
  rw [ha] at hb
  simp only [Option.some.injEq, Prod.mk.injEq] at hb
  obtain ⟨rfl, rfl⟩ := hb
  exact ⟨rfl, es, h2, h3⟩
 ·rw [upd_ne _ _ hid] at hi
  exact ⟨o, hi, .refl _ _ _ _⟩
/-- What is done while the order is known, told without it. -/
theorem After.loose [Gl] {S : Nat → Prop} {m m2' : M} {h2 : Nat → Option Ob} {c : Nat} {r r2 : Res} {z : Value} (e0 : Evo S m { m with h := h2 }) (hA : After S { m with h := h2 } c r2 z m2') (hv : r2.v = r.v) (hdc : r2.dc = r.dc)
  (hle : ∀ id o, hupd m.h r.wr id = some o → ∃ q, hupd h2 r2.wr id = some q ∧ ObLe q o) : ∃ m', m'.w = m2'.w ∧ After S m c r z m' := by
 obtain ⟨a1, a2, a3, a4, a5⟩ := hA
 obtain ⟨b1, b2⟩ := a1.swap (h' := hupd m.h r.wr) fun id o ho => by
  obtain ⟨q, hq, hl⟩ := hle id o ho
  exact ⟨q, by rw [a4]; exact hq, hl.swap⟩
 exact ⟨{ m2' with h := hupd m.h r.wr }, rfl, b1, (e0.trans a2).trans b2, hv ▸ a3.mono b2, rfl, by rw [← hdc]; exact a5⟩

/-- Objects that are not touched stay as they are. -/
theorem Rel.other [Gl] {S : Nat → Prop} {m m' : M} (hR : Rel S m) (e : Evo S m m') {id : Nat} {o : Ob} {b base : Nat} (ho : m.h id = some o) (ha : m.at_ id = some (b, base))
  (hrow : m'.w.heap[b]? = m.w.heap[b]?) :
  ¬ S b ∧ RowAt S m' o.cells b base :=
 ⟨(hR.obj id o b base ho ha).1, (hR.obj id o b base ho ha).2.mono e hrow⟩

theorem block_lt {w : World} {b : Nat} {o : Obj} (h : w.heap[b]? = some o) : b < w.heap.size := (Array.getElem?_eq_some_iff.1 h).1

/-- A write into an object: its row is replaced; what is frozen behind it may turn. -/
theorem write_objF [Gl] {S : Nat → Prop} {m : M} (hR : Rel S m) {id : Nat} {o o' : Ob} {b base base' dc c : Nat} {cs cs' : Array Value} {T : TypeId} {fz fz' : Nat × Nat} {w' : World}
  (ho : m.h id = some o) (ha : m.at_ id = some (b, base)) (hro : o.ro = false) (hk : kindL o.cells = 0) (hrow : m.w.heap[b]? = some (Obj.cells cs T fz))
  (hsame : w'.heap[b]? = some (Obj.cells cs' T fz')) (hother : ∀ k, k ≠ b → w'.heap[k]? = m.w.heap[k]?) (hsize : w'.heap.size = m.w.heap.size) (hfz' : fz'.2 = fz'.1 ∨ cs'.size ≤ fz'.1) (hsz : cs'.size = cs.size) (hb : base' + o'.cells.length ≤ cs'.size)
  (hg : (o'.gen = o.gen ∧ base' = base ∧ o.cells.length ≤ o'.cells.length ∧ dc = 0) ∨ (¬ m.iss id o'.gen ∧ o'.gen = c ∧ dc = 1))
  (hc : ∀ (j : Nat) (v : V), o'.cells[j]? = some v → v.one = true ∧ ∃ x, cs'[base' + j]? = some x ∧ RV S m v x) (hrest : w'.os = m.w.os ∧ w'.output = m.w.output := by exact ⟨rfl, rfl⟩) :
  ∃ m' : M, m'.w = w' ∧ m'.h = upd m.h id (some o') ∧ m'.at_ = upd m.at_ id (some (b, base')) ∧ m'.iss = (fun i g => m.iss i g ∨ (c ≤ g ∧ g < c + dc)) ∧ Rel S m' ∧ Evo S m m' := by
 obtain ⟨hS, cs0, T0, fz0, hrow0, hfz, hsz0, hc0⟩ := hR.cellsAt hk ho ha
 have hk' : kindL o'.cells = 0 := kind_of_one fun j v hv => (hc j v hv).1
 rw [hrow] at hrow0
 obtain ⟨rfl, rfl, rfl⟩ : cs = cs0 ∧ T = T0 ∧ fz = fz0 := by simpa using hrow0
 let m' : M := { at_ := upd m.at_ id (some (b, base')), h := upd m.h id (some o'), iss := fun i g => m.iss i g ∨ (c ≤ g ∧ g < c + dc), w := w' }
 have hav : m.av S b := .inr ⟨id, o, base, ho, hro, ha⟩
 have hav' : ∀ k, m'.av S k → m.av S k := by
  rintro k (h | ⟨i, q, x, h1, h2, h3⟩)
  ·exact .inl h
  ·by_cases hi : i = id
   ·subst hi
    simp only [m', upd_same, Option.some.injEq, Prod.mk.injEq] at h1 h3
    exact h3.1 ▸ hav
   ·simp only [m', upd_ne _ _ hi] at h1 h3
    exact .inr ⟨i, q, x, h1, h2, h3⟩
 have e : Evo S m m' := {
  dfr := fun k hk => by
   show w'.heap[k]? = _
   by_cases hkb : k = b
   ·subst hkb; rw [hrow] at hk; cases hk
   ·rw [hother k hkb]; exact hk
  lps := fun k r hk => by
   by_cases hkb : k = b
   ·subst hkb; rw [hrow] at hk; cases hk
   ·exact ⟨r, by show w'.heap[k]? = _; rw [hother k hkb]; exact hk⟩
  rest := hrest
  iss := fun i g h => .inl h
  size := by show m.w.heap.size ≤ w'.heap.size; omega
  shape := fun k ks T1 f1 hk => by
   by_cases hkb : k = b
   ·subst hkb
    rw [hrow] at hk
    obtain ⟨rfl, rfl, rfl⟩ : cs = ks ∧ T = T1 ∧ fz = f1 := by injection hk with h; injection h with h1 h2 h3; exact ⟨h1, h2, h3⟩
    exact ⟨cs', fz', hsame, hsz⟩
   ·exact ⟨ks, f1, by show w'.heap[k]? = _; rw [hother k hkb]; exact hk, rfl⟩
  keepS := fun k _ hs => hother k (fun h => hS (h ▸ hs))
  keep := fun k _ hn => ⟨fun h => hn (hav' k h), hother k (fun h => hn (h ▸ hav))⟩
  live := fun i q hq hi => by
   by_cases hid : i = id
   ·subst hid
    simp only [m', upd_same, Option.some.injEq] at hq
    subst hq
    rcases hg with ⟨g1, g2, g3, _⟩ | ⟨g1, _⟩
    ·exact ⟨o, ho, g1.symm, by simp [m', ha, g2], g3, by rw [hk, hk']⟩
    ·exact absurd hi g1
   ·simp only [m', upd_ne _ _ hid] at hq ⊢
    exact ⟨q, hq, rfl, trivial, Nat.le_refl _, rfl⟩
  old := fun i q k x h1 h2 hk => by
   by_cases hid : i = id
   ·subst hid
    simp only [m', upd_same, Option.some.injEq, Prod.mk.injEq] at h2
    exact ⟨o, base, ho, by rw [ha, h2.1]⟩
   ·simp only [m', upd_ne _ _ hid] at h1 h2
    exact ⟨q, x, h1, h2⟩ }
 refine ⟨m', rfl, rfl, rfl, rfl, ⟨fun g => (hR.glob g).mono e, ?_, ?_, ?_, ?_, ?_⟩, e⟩
 ·intro i q hq
  by_cases hid : i = id
  ·subst hid
   simp only [m', upd_same, Option.some.injEq] at hq
   subst hq
   rcases hg with ⟨g1, _⟩ | ⟨_, g2, g3⟩
   ·exact .inl (g1 ▸ hR.iss i o ho)
   ·exact .inr ⟨by omega, by omega⟩
  ·simp only [m', upd_ne _ _ hid] at hq
   exact .inl (hR.iss i q hq)
 ·intro i q hq hn
  by_cases hid : i = id
  ·subst hid; simp [m'] at hn
  ·simp only [m', upd_ne _ _ hid] at hq hn
   exact hR.none_ i q hq hn
 ·intro i q k x hq hk
  by_cases hid : i = id
  ·subst hid
   simp only [m', upd_same, Option.some.injEq, Prod.mk.injEq] at hq hk
   obtain ⟨rfl, rfl⟩ := hk
   subst hq
   refine ⟨hS, CellsAt.row ⟨cs', T, fz', hsame, hfz', hb, fun j v hv => ?_⟩⟩
   obtain ⟨h1, x, h2, h3⟩ := hc j v hv
   exact ⟨h1, x, h2, h3.mono e⟩
  ·simp only [m', upd_ne _ _ hid] at hq hk
   refine hR.other e hq hk (hother k fun h => hid ?_)
   subst h
   exact hR.inj i id q o k x base hq ho hk ha
 ·intro i j oi oj k x y hi hj hx hy
  by_cases h1 : i = id
  ·by_cases h2 : j = id
   ·rw [h1, h2]
   ·subst h1
    simp only [m', upd_same, upd_ne _ _ h2, Option.some.injEq, Prod.mk.injEq] at hi hj hx hy
    exact hR.inj i j o oj b base y ho hj ha (hx.1 ▸ hy)
  ·by_cases h2 : j = id
   ·subst h2
    simp only [m', upd_same, upd_ne _ _ h1, Option.some.injEq, Prod.mk.injEq] at hi hj hx hy
    exact hR.inj i j oi o b x base hi ho (hy.1 ▸ hx) ha
   ·simp only [m', upd_ne _ _ h1, upd_ne _ _ h2] at hi hj hx hy
    exact hR.inj i j oi oj k x y hi hj hx hy
 ·intro k hk
  have := hR.sub k hk
  show k < w'.heap.size
  omega

/-- A write into an object: its row is replaced. -/
theorem write_obj [Gl] {S : Nat → Prop} {m : M} (hR : Rel S m) {id : Nat} {o o' : Ob} {b base base' dc c : Nat} {cs cs' : Array Value} {T : TypeId} {fz : Nat × Nat} {w' : World}
  (ho : m.h id = some o) (ha : m.at_ id = some (b, base)) (hro : o.ro = false) (hk : kindL o.cells = 0) (hrow : m.w.heap[b]? = some (Obj.cells cs T fz))
  (hw : w'.heap = (m.w.setRow b cs').heap) (hsz : cs'.size = cs.size) (hb : base' + o'.cells.length ≤ cs'.size)
  (hg : (o'.gen = o.gen ∧ base' = base ∧ o.cells.length ≤ o'.cells.length ∧ dc = 0) ∨ (¬ m.iss id o'.gen ∧ o'.gen = c ∧ dc = 1))
  (hc : ∀ (j : Nat) (v : V), o'.cells[j]? = some v → v.one = true ∧ ∃ x, cs'[base' + j]? = some x ∧ RV S m v x) (hrest : w'.os = m.w.os ∧ w'.output = m.w.output := by exact ⟨rfl, rfl⟩) :
  ∃ m' : M, m'.w = w' ∧ m'.h = upd m.h id (some o') ∧ m'.at_ = upd m.at_ id (some (b, base')) ∧ m'.iss = (fun i g => m.iss i g ∨ (c ≤ g ∧ g < c + dc)) ∧ Rel S m' ∧ Evo S m m' := by
 obtain ⟨_, cs0, T0, fz0, hrow0, hfz, _, _⟩ := hR.cellsAt hk ho ha
 have hrow1 := hrow0
 rw [hrow] at hrow0
 obtain ⟨rfl, rfl, rfl⟩ : cs = cs0 ∧ T = T0 ∧ fz = fz0 := by simpa using hrow0
 exact write_objF hR ho ha hro hk hrow (by rw [hw]; exact setRow_heap m.w b cs cs' T fz hrow) (fun k hk => by rw [hw]; exact setRow_other m.w b k cs' hk) (by rw [hw]; simp) (by rw [hsz]; exact hfz) hsz hb hg hc hrest

/-- A new row for an object: a new one, or one that moves. -/
theorem alloc_obj [Gl] {S : Nat → Prop} {m : M} (hR : Rel S m) {id : Nat} {o' : Ob} {dc c : Nat} {cs' : Array Value} {T : TypeId} {w' : World}
  (hw : w'.heap = m.w.heap.push (Obj.cells cs' T (0, 0))) (hb : o'.cells.length ≤ cs'.size)
  (hg : ¬ m.iss id o'.gen) (hgc : o'.gen = c) (hdc : dc = 1)
  (hc : ∀ (j : Nat) (v : V), o'.cells[j]? = some v → v.one = true ∧ ∃ x, cs'[j]? = some x ∧ RV S m v x) (hrest : w'.os = m.w.os ∧ w'.output = m.w.output := by exact ⟨rfl, rfl⟩) :
  ∃ m' : M, m'.w = w' ∧ m'.h = upd m.h id (some o') ∧ m'.at_ = upd m.at_ id (some (m.w.heap.size, 0)) ∧ m'.iss = (fun i g => m.iss i g ∨ (c ≤ g ∧ g < c + dc)) ∧ Rel S m' ∧ Evo S m m' := by
 let m' : M := { at_ := upd m.at_ id (some (m.w.heap.size, 0)), h := upd m.h id (some o'), iss := fun i g => m.iss i g ∨ (c ≤ g ∧ g < c + dc), w := w' }
 have hnew : w'.heap[m.w.heap.size]? = some (Obj.cells cs' T (0, 0)) := by rw [hw]; simp
 have hother : ∀ k, k < m.w.heap.size → w'.heap[k]? = m.w.heap[k]? := fun k hk => by rw [hw, Array.getElem?_push_lt hk]; simp [hk]
 have hsize : w'.heap.size = m.w.heap.size + 1 := by rw [hw]; simp
 have e : Evo S m m' := {
  dfr := fun k hk => by show w'.heap[k]? = _; rw [hother k (block_lt hk)]; exact hk
  lps := fun k r hk => ⟨r, by show w'.heap[k]? = _; rw [hother k (block_lt hk)]; exact hk⟩
  rest := hrest
  iss := fun i g h => .inl h
  size := by show m.w.heap.size ≤ w'.heap.size; omega
  shape := fun k ks T1 f1 hk => ⟨ks, f1, by show w'.heap[k]? = _; rw [hother k (block_lt hk)]; exact hk, rfl⟩
  keepS := fun k hk _ => hother k hk
  keep := fun k hk hn => by
   refine ⟨?_, hother k hk⟩
   rintro (h | ⟨i, q, x, h1, h2, h3⟩)
   ·exact hn (.inl h)
   ·by_cases hi : i = id
    ·subst hi
     simp only [m', upd_same, Option.some.injEq, Prod.mk.injEq] at h1 h3
     omega
    ·simp only [m', upd_ne _ _ hi] at h1 h3
     exact hn (.inr ⟨i, q, x, h1, h2, h3⟩)
  live := fun i q hq hi => by
   by_cases hid : i = id
   ·subst hid
    simp only [m', upd_same, Option.some.injEq] at hq
    subst hq
    exact absurd hi hg
   ·simp only [m', upd_ne _ _ hid] at hq ⊢
    exact ⟨q, hq, rfl, trivial, Nat.le_refl _, rfl⟩
  old := fun i q k x h1 h2 hk => by
   by_cases hid : i = id
   ·subst hid
    simp only [m', upd_same, Option.some.injEq, Prod.mk.injEq] at h2
    omega
   ·simp only [m', upd_ne _ _ hid] at h1 h2
    exact ⟨q, x, h1, h2⟩ }
 refine ⟨m', rfl, rfl, rfl, rfl, ⟨fun g => (hR.glob g).mono e, ?_, ?_, ?_, ?_, ?_⟩, e⟩
 ·intro i q hq
  by_cases hid : i = id
  ·subst hid
   simp only [m', upd_same, Option.some.injEq] at hq
   subst hq
   exact .inr ⟨by omega, by omega⟩
  ·simp only [m', upd_ne _ _ hid] at hq
   exact .inl (hR.iss i q hq)
 ·intro i q hq hn
  by_cases hid : i = id
  ·subst hid; simp [m'] at hn
  ·simp only [m', upd_ne _ _ hid] at hq hn
   exact hR.none_ i q hq hn
 ·intro i q k x hq hk
  by_cases hid : i = id
  ·subst hid
   simp only [m', upd_same, Option.some.injEq, Prod.mk.injEq] at hq hk
   obtain ⟨rfl, rfl⟩ := hk
   subst hq
   refine ⟨fun h => ?_, CellsAt.row ⟨cs', T, (0, 0), hnew, .inl rfl, by omega, fun j v hv => ?_⟩⟩
   ·have := hR.sub _ h; omega
   ·obtain ⟨h1, x, h2, h3⟩ := hc j v hv
    exact ⟨h1, x, by simpa using h2, h3.mono e⟩
  ·simp only [m', upd_ne _ _ hid] at hq hk
   obtain ⟨ob0, hrow0⟩ := (hR.obj i q k x hq hk).2.some
   exact hR.other e hq hk (hother k (block_lt hrow0))
 ·intro i j oi oj k x y hi hj hx hy
  by_cases h1 : i = id
  ·by_cases h2 : j = id
   ·rw [h1, h2]
   ·subst h1
    simp only [m', upd_same, upd_ne _ _ h2, Option.some.injEq, Prod.mk.injEq] at hi hj hx hy
    obtain ⟨ob0, hrow0⟩ := (hR.obj j oj k y hj hy).2.some
    have := block_lt hrow0
    omega
  ·by_cases h2 : j = id
   ·subst h2
    simp only [m', upd_same, upd_ne _ _ h1, Option.some.injEq, Prod.mk.injEq] at hi hj hx hy
    obtain ⟨ob0, hrow0⟩ := (hR.obj i oi k x hi hx).2.some
    have := block_lt hrow0
    omega
   ·simp only [m', upd_ne _ _ h1, upd_ne _ _ h2] at hi hj hx hy
    exact hR.inj i j oi oj k x y hi hj hx hy
 ·intro k hk
  have := hR.sub k hk
  show k < w'.heap.size
  omega

/-- An object that is still empty and lies nowhere. -/
theorem virt_obj [Gl] {S : Nat → Prop} {m : M} (hR : Rel S m) {id : Nat} {o' : Ob} {dc c : Nat} (hcells : o'.cells = []) (hg : ¬ m.iss id o'.gen) (hgc : o'.gen = c) (hdc : dc = 1) :
  ∃ m' : M, m'.w = m.w ∧ m'.h = upd m.h id (some o') ∧ m'.at_ = upd m.at_ id none ∧ m'.iss = (fun i g => m.iss i g ∨ (c ≤ g ∧ g < c + dc)) ∧ Rel S m' ∧ Evo S m m' := by
 let m' : M := { at_ := upd m.at_ id none, h := upd m.h id (some o'), iss := fun i g => m.iss i g ∨ (c ≤ g ∧ g < c + dc), w := m.w }
 have e : Evo S m m' := {
  dfr := fun _ h => h
  lps := fun _ r h => ⟨r, h⟩
  rest := ⟨rfl, rfl⟩
  iss := fun i g h => .inl h
  size := Nat.le_refl _
  shape := fun k ks T1 f1 hk => ⟨ks, f1, hk, rfl⟩
  keepS := fun k hk _ => rfl
  keep := fun k hk hn => by
   refine ⟨?_, rfl⟩
   rintro (h | ⟨i, q, x, h1, h2, h3⟩)
   ·exact hn (.inl h)
   ·by_cases hi : i = id
    ·subst hi; simp [m'] at h3
    ·simp only [m', upd_ne _ _ hi] at h1 h3
     exact hn (.inr ⟨i, q, x, h1, h2, h3⟩)
  live := fun i q hq hi => by
   by_cases hid : i = id
   ·subst hid
    simp only [m', upd_same, Option.some.injEq] at hq
    subst hq
    exact absurd hi hg
   ·simp only [m', upd_ne _ _ hid] at hq ⊢
    exact ⟨q, hq, rfl, trivial, Nat.le_refl _, rfl⟩
  old := fun i q k x h1 h2 hk => by
   by_cases hid : i = id
   ·subst hid; simp [m'] at h2
   ·simp only [m', upd_ne _ _ hid] at h1 h2
    exact ⟨q, x, h1, h2⟩ }
 refine ⟨m', rfl, rfl, rfl, rfl, ⟨fun g => (hR.glob g).mono e, ?_, ?_, ?_, ?_, ?_⟩, e⟩
 ·intro i q hq
  by_cases hid : i = id
  ·subst hid
   simp only [m', upd_same, Option.some.injEq] at hq
   subst hq
   exact .inr ⟨by omega, by omega⟩
  ·simp only [m', upd_ne _ _ hid] at hq
   exact .inl (hR.iss i q hq)
 ·intro i q hq hn
  by_cases hid : i = id
  ·subst hid
   simp only [m', upd_same, Option.some.injEq] at hq
   subst hq; exact hcells
  ·simp only [m', upd_ne _ _ hid] at hq hn
   exact hR.none_ i q hq hn
 ·intro i q k x hq hk
  by_cases hid : i = id
  ·subst hid; simp [m'] at hk
  ·simp only [m', upd_ne _ _ hid] at hq hk
   exact hR.other e hq hk rfl
 ·intro i j oi oj k x y hi hj hx hy
  by_cases h1 : i = id
  ·subst h1; simp [m'] at hx
  ·by_cases h2 : j = id
   ·subst h2; simp [m'] at hy
   ·simp only [m', upd_ne _ _ h1, upd_ne _ _ h2] at hi hj hx hy
    exact hR.inj i j oi oj k x y hi hj hx hy
 ·exact hR.sub

/-- An object that is only read from here on. -/
theorem ro_obj [Gl] {S : Nat → Prop} {m : M} (hR : Rel S m) {id : Nat} {o : Ob} (ho : m.h id = some o) :
  ∃ m' : M, m'.w = m.w ∧ m'.h = upd m.h id (some { o with ro := true }) ∧ m'.at_ = m.at_ ∧ m'.iss = m.iss ∧ Rel S m' ∧ Evo S m m' := by
 let m' : M := { at_ := m.at_, h := upd m.h id (some { o with ro := true }), iss := m.iss, w := m.w }
 have hget : ∀ i q, m'.h i = some q → ∃ p, m.h i = some p ∧ p.gen = q.gen ∧ p.cells = q.cells ∧ (q.ro = false → p.ro = false) := by
  intro i q hq
  by_cases hid : i = id
  ·subst hid
   simp only [m', upd_same, Option.some.injEq] at hq
   subst hq
   exact ⟨o, ho, rfl, rfl, fun h => by simp at h⟩
  ·simp only [m', upd_ne _ _ hid] at hq
   exact ⟨q, hq, rfl, rfl, fun h => h⟩
 have e : Evo S m m' := {
  dfr := fun _ h => h
  lps := fun _ r h => ⟨r, h⟩
  rest := ⟨rfl, rfl⟩
  iss := fun i g h => h
  size := Nat.le_refl _
  shape := fun k ks T1 f1 hk => ⟨ks, f1, hk, rfl⟩
  keepS := fun k hk _ => rfl
  keep := fun k hk hn => by
   refine ⟨?_, rfl⟩
   rintro (h | ⟨i, q, x, h1, h2, h3⟩)
   ·exact hn (.inl h)
   ·obtain ⟨p, p1, p2, p3, p4⟩ := hget i q h1
    exact hn (.inr ⟨i, p, x, p1, p4 h2, h3⟩)
  live := fun i q hq hi => by
   obtain ⟨p, p1, p2, p3, p4⟩ := hget i q hq
   exact ⟨p, p1, p2, rfl, by rw [p3]; exact Nat.le_refl _, by rw [p3]⟩
  old := fun i q k x h1 h2 hk => by
   obtain ⟨p, p1, _⟩ := hget i q h1
   exact ⟨p, x, p1, h2⟩ }
 refine ⟨m', rfl, rfl, rfl, rfl, ⟨fun g => (hR.glob g).mono e, ?_, ?_, ?_, ?_, ?_⟩, e⟩
 ·intro i q hq
  obtain ⟨p, p1, p2, p3, p4⟩ := hget i q hq
  exact p2 ▸ hR.iss i p p1
 ·intro i q hq hn
  obtain ⟨p, p1, p2, p3, p4⟩ := hget i q hq
  exact p3 ▸ hR.none_ i p p1 hn
 ·intro i q k x hq hk
  obtain ⟨p, p1, p2, p3, p4⟩ := hget i q hq
  have := hR.other e p1 hk rfl
  rw [p3] at this
  exact this
 ·intro i j oi oj k x y hi hj hx hy
  obtain ⟨p, p1, _⟩ := hget i oi hi
  obtain ⟨q, q1, _⟩ := hget j oj hj
  exact hR.inj i j p q k x y p1 q1 hx hy
 ·exact hR.sub

/-! ### Objects of other kinds: iterators, maps -/

/-- Not a row of cells. -/
def _root_.Go.Obj.other : Obj → Prop
 | .cells .. => False
 | _ => True

/-- A new object of another kind. -/
theorem alloc_sp [Gl] {S : Nat → Prop} {m : M} (hR : Rel S m) {id : Nat} {o' : Ob} {c : Nat} {ob : Obj} {w' : World}
  (hw : w'.heap = m.w.heap.push ob) (hob : ob.other) (hg : ¬ m.iss id o'.gen) (hgc : o'.gen = c)
  (hrow : ∀ m' : M, Evo S m m' → m'.w.heap[m.w.heap.size]? = some ob → RowAt S m' o'.cells m.w.heap.size 0)
  (hrest : w'.os = m.w.os ∧ w'.output = m.w.output := by exact ⟨rfl, rfl⟩) :
  ∃ m' : M, m'.w = w' ∧ m'.h = upd m.h id (some o') ∧ m'.at_ = upd m.at_ id (some (m.w.heap.size, 0)) ∧ m'.iss = (fun i g => m.iss i g ∨ (c ≤ g ∧ g < c + 1)) ∧ Rel S m' ∧ Evo S m m' := by
 let m' : M := { at_ := upd m.at_ id (some (m.w.heap.size, 0)), h := upd m.h id (some o'), iss := fun i g => m.iss i g ∨ (c ≤ g ∧ g < c + 1), w := w' }
 have hnew : w'.heap[m.w.heap.size]? = some ob := by rw [hw]; simp
 have hother : ∀ k, k < m.w.heap.size → w'.heap[k]? = m.w.heap[k]? := fun k hk => by rw [hw, Array.getElem?_push_lt hk]; simp [hk]
 have hsize : w'.heap.size = m.w.heap.size + 1 := by rw [hw]; simp
 have e : Evo S m m' := {
  dfr := fun k hk => by show w'.heap[k]? = _; rw [hother k (block_lt hk)]; exact hk
  lps := fun k r hk => ⟨r, by show w'.heap[k]? = _; rw [hother k (block_lt hk)]; exact hk⟩
  rest := hrest
  iss := fun i g h => .inl h
  size := by show m.w.heap.size ≤ w'.heap.size; omega
  shape := fun k ks T1 f1 hk => ⟨ks, f1, by show w'.heap[k]? = _; rw [hother k (block_lt hk)]; exact hk, rfl⟩
  keepS := fun k hk _ => hother k hk
  keep := fun k hk hn => by
   refine ⟨?_, hother k hk⟩
   rintro (h | ⟨i, q, x, h1, h2, h3⟩)
   ·exact hn (.inl h)
   ·by_cases hi : i = id
    ·subst hi
     simp only [m', upd_same, Option.some.injEq, Prod.mk.injEq] at h1 h3
     omega
    ·simp only [m', upd_ne _ _ hi] at h1 h3
     exact hn (.inr ⟨i, q, x, h1, h2, h3⟩)
  live := fun i q hq hi => by
   by_cases hid : i = id
   ·subst hid
    simp only [m', upd_same, Option.some.injEq] at hq
    subst hq
    exact absurd hi hg
   ·simp only [m', upd_ne _ _ hid] at hq ⊢
    exact ⟨q, hq, rfl, trivial, Nat.le_refl _, rfl⟩
  old := fun i q k x h1 h2 hk => by
   by_cases hid : i = id
   ·subst hid
    simp only [m', upd_same, Option.some.injEq, Prod.mk.injEq] at h2
    omega
   ·simp only [m', upd_ne _ _ hid] at h1 h2
    exact ⟨q, x, h1, h2⟩ }
 refine ⟨m', rfl, rfl, rfl, rfl, ⟨fun g => (hR.glob g).mono e, ?_, ?_, ?_, ?_, ?_⟩, e⟩
 ·intro i q hq
  by_cases hid : i = id
  ·subst hid
   simp only [m', upd_same, Option.some.injEq] at hq
   subst hq
   exact .inr ⟨by omega, by omega⟩
  ·simp only [m', upd_ne _ _ hid] at hq
   exact .inl (hR.iss i q hq)
 ·intro i q hq hn
  by_cases hid : i = id
  ·subst hid; simp [m'] at hn
  ·simp only [m', upd_ne _ _ hid] at hq hn
   exact hR.none_ i q hq hn
 ·intro i q k x hq hk
  by_cases hid : i = id
  ·subst hid
   simp only [m', upd_same, Option.some.injEq, Prod.mk.injEq] at hq hk
   obtain ⟨rfl, rfl⟩ := hk
   subst hq
   refine ⟨fun h => ?_, hrow m' e hnew⟩
   have := hR.sub _ h; omega
  ·simp only [m', upd_ne _ _ hid] at hq hk
   obtain ⟨ob0, hrow0⟩ := (hR.obj i q k x hq hk).2.some
   exact hR.other e hq hk (hother k (block_lt hrow0))
 ·intro i j oi oj k x y hi hj hx hy
  by_cases h1 : i = id
  ·by_cases h2 : j = id
   ·rw [h1, h2]
   ·subst h1
    simp only [m', upd_same, upd_ne _ _ h2, Option.some.injEq, Prod.mk.injEq] at hi hj hx hy
    obtain ⟨ob0, hrow0⟩ := (hR.obj j oj k y hj hy).2.some
    have := block_lt hrow0
    omega
  ·by_cases h2 : j = id
   ·subst h2
    simp only [m', upd_same, upd_ne _ _ h1, Option.some.injEq, Prod.mk.injEq] at hi hj hx hy
    obtain ⟨ob0, hrow0⟩ := (hR.obj i oi k x hi hx).2.some
    have := block_lt hrow0
    omega
   ·simp only [m', upd_ne _ _ h1, upd_ne _ _ h2] at hi hj hx hy
    exact hR.inj i j oi oj k x y hi hj hx hy
 ·intro k hk
  have := hR.sub k hk
  show k < w'.heap.size
  omega

/-- An object of another kind is written. -/
theorem write_sp [Gl] {S : Nat → Prop} {m : M} (hR : Rel S m) {id : Nat} {o o' : Ob} {b c : Nat} {ob ob' : Obj} {w' : World}
  (ho : m.h id = some o) (ha : m.at_ id = some (b, 0)) (hro : o.ro = false) (hold : m.w.heap[b]? = some ob) (hob : ob.other) (hob' : ob'.other)
  (hw : w'.heap = m.w.heap.setIfInBounds b ob') (hg : o'.gen = o.gen) (hk : kindL o'.cells = kindL o.cells) (hlen : o.cells.length ≤ o'.cells.length)
  (hrow : ∀ m' : M, Evo S m m' → m'.w.heap[b]? = some ob' → RowAt S m' o'.cells b 0)
  (hrest : w'.os = m.w.os ∧ w'.output = m.w.output := by exact ⟨rfl, rfl⟩)
  (hsp : (∀ r, ob = Obj.loop r → ∃ r', ob' = Obj.loop r') ∧ ob ≠ Obj.deferred (some []) := by exact ⟨fun _ h => (by cases h), fun h => (by cases h)⟩) :
  ∃ m' : M, m'.w = w' ∧ m'.h = upd m.h id (some o') ∧ m'.at_ = m.at_ ∧ m'.iss = m.iss ∧ Rel S m' ∧ Evo S m m' := by
 have hS := (hR.obj id o b 0 ho ha).1
 have hlt := block_lt hold
 let m' : M := { at_ := m.at_, h := upd m.h id (some o'), iss := m.iss, w := w' }
 have hsame : w'.heap[b]? = some ob' := by rw [hw]; simp [hlt]
 have hother : ∀ k, k ≠ b → w'.heap[k]? = m.w.heap[k]? := fun k hk => by rw [hw, Array.getElem?_setIfInBounds]; rw [if_neg (fun h => hk h.symm)]
 have hsize : w'.heap.size = m.w.heap.size := by rw [hw]; simp
 have hav : m.av S b := .inr ⟨id, o, 0, ho, hro, ha⟩
 have hav' : ∀ k, m'.av S k → m.av S k := by
  rintro k (h | ⟨i, q, x, h1, h2, h3⟩)
  ·exact .inl h
  ·by_cases hi : i = id
   ·subst hi
    have h4 : m.at_ i = some (k, x) := h3
    rw [ha] at h4
    simp only [Option.some.injEq, Prod.mk.injEq] at h4
    exact h4.1 ▸ hav
   ·simp only [m', upd_ne _ _ hi] at h1 h3
    exact .inr ⟨i, q, x, h1, h2, h3⟩
 have e : Evo S m m' := {
  dfr := fun k hk => by
   show w'.heap[k]? = _
   by_cases hkb : k = b
   ·subst hkb; rw [hold] at hk; exact absurd (Option.some.inj hk) hsp.2
   ·rw [hother k hkb]; exact hk
  lps := fun k r hk => by
   by_cases hkb : k = b
   ·subst hkb
    rw [hold] at hk
    obtain ⟨r', h1⟩ := hsp.1 r (Option.some.inj hk)
    exact ⟨r', by show w'.heap[k]? = _; rw [hsame, h1]⟩
   ·exact ⟨r, by show w'.heap[k]? = _; rw [hother k hkb]; exact hk⟩
  rest := hrest
  iss := fun i g h => h
  size := by show m.w.heap.size ≤ w'.heap.size; omega
  shape := fun k ks T1 f1 hk => by
   by_cases hkb : k = b
   ·subst hkb
    rw [hold] at hk
    injection hk with hk
    subst hk
    exact absurd hob (by simp [Obj.other])
   ·exact ⟨ks, f1, by show w'.heap[k]? = _; rw [hother k hkb]; exact hk, rfl⟩
  keepS := fun k _ hs => hother k (fun h => hS (h ▸ hs))
  keep := fun k _ hn => ⟨fun h => hn (hav' k h), hother k (fun h => hn (h ▸ hav))⟩
  live := fun i q hq hi => by
   by_cases hid : i = id
   ·subst hid
    simp only [m', upd_same, Option.some.injEq] at hq
    subst hq
    exact ⟨o, ho, hg.symm, rfl, hlen, hk⟩
   ·simp only [m', upd_ne _ _ hid] at hq ⊢
    exact ⟨q, hq, rfl, trivial, Nat.le_refl _, rfl⟩
  old := fun i q k x h1 h2 hk => by
   by_cases hid : i = id
   ·subst hid; exact ⟨o, x, ho, h2⟩
   ·simp only [m', upd_ne _ _ hid] at h1 h2
    exact ⟨q, x, h1, h2⟩ }
 refine ⟨m', rfl, rfl, rfl, rfl, ⟨fun g => (hR.glob g).mono e, ?_, ?_, ?_, ?_, ?_⟩, e⟩
 ·intro i q hq
  by_cases hid : i = id
  ·subst hid
   simp only [m', upd_same, Option.some.injEq] at hq
   subst hq
   exact hg ▸ hR.iss i o ho
  ·simp only [m', upd_ne _ _ hid] at hq
   exact hR.iss i q hq
 ·intro i q hq hn
  by_cases hid : i = id
  ·subst hid
   have h4 : m.at_ i = none := hn
   rw [ha] at h4; cases h4
  ·simp only [m', upd_ne _ _ hid] at hq hn
   exact hR.none_ i q hq hn
 ·intro i q k x hq hk2
  by_cases hid : i = id
  ·subst hid
   have h4 : m.at_ i = some (k, x) := hk2
   rw [ha] at h4
   simp only [Option.some.injEq, Prod.mk.injEq] at h4
   obtain ⟨rfl, rfl⟩ := h4
   simp only [m', upd_same, Option.some.injEq] at hq
   subst hq
   exact ⟨hS, hrow m' e hsame⟩
  ·simp only [m', upd_ne _ _ hid] at hq hk2
   refine hR.other e hq hk2 (hother k fun h => hid ?_)
   subst h
   exact hR.inj i id q o k x 0 hq ho hk2 ha
 ·intro i j oi oj k x y hi hj hx hy
  have look : ∀ {i oi}, m'.h i = some oi → ∃ o2, m.h i = some o2 := fun {i oi} h => by
   by_cases hid : i = id
   ·subst hid; exact ⟨o, ho⟩
   ·simp only [m', upd_ne _ _ hid] at h; exact ⟨oi, h⟩
  obtain ⟨o2, h2⟩ := look hi
  obtain ⟨o3, h3⟩ := look hj
  exact hR.inj i j o2 o3 k x y h2 h3 hx hy
 ·intro k hk
  have := hR.sub k hk
  show k < w'.heap.size
  omega

/-- Memory that has grown, and is otherwise as it was. -/
theorem Rel.grown [Gl] {S : Nat → Prop} {m : M} (hR : Rel S m) {w' : World} (hsz : m.w.heap.size ≤ w'.heap.size) (hrow : ∀ b, b < m.w.heap.size → w'.heap[b]? = m.w.heap[b]?) (hrest : w'.os = m.w.os ∧ w'.output = m.w.output ∧ ∀ a, a.block < m.w.heap.size → w'.frozen? a = m.w.frozen? a) :
  Rel S { m with w := w' } ∧ Evo S m { m with w := w' } := by
 have e : Evo S m { m with w := w' } := {
  dfr := fun k hk => by show w'.heap[k]? = _; rw [hrow k (block_lt hk)]; exact hk
  lps := fun k r hk => ⟨r, by show w'.heap[k]? = _; rw [hrow k (block_lt hk)]; exact hk⟩
  rest := ⟨hrest.1, hrest.2.1⟩
  iss := fun _ _ h => h
  size := hsz
  shape := fun b cs T fz h => ⟨cs, fz, by rw [hrow b (block_lt h)]; exact h, rfl⟩
  keepS := fun b h _ => hrow b h
  keep := fun b h hn => ⟨hn, hrow b h⟩
  live := fun id o h _ => ⟨o, h, rfl, rfl, Nat.le_refl _, rfl⟩
  old := fun id o b x h1 h2 _ => ⟨o, x, h1, h2⟩ }
 refine ⟨⟨fun g => (hR.glob g).mono e, hR.iss, hR.none_, fun id o b base ho ha => ?_, hR.inj, fun b hb => Nat.lt_of_lt_of_le (hR.sub b hb) hsz⟩, e⟩
 obtain ⟨ob0, hr⟩ := (hR.obj id o b base ho ha).2.some
 exact hR.other e ho ha (hrow b (block_lt hr))

end Go.Ac
