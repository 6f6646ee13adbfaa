/- The abstract machine: each operation does in the model what the abstract machine says. No conditions. -/
import Derived.Test.YtjkcpgkpmklcaaaGreatDoorAcB
import Derived.Laws.Tables
import Derived.Laws.Slices
set_option linter.unusedVariables false
set_option linter.unusedSimpArgs false
section
namespace Go.Ac

def upd {α : Type} (f : Nat → α) (k : Nat) (v : α) : Nat → α := fun i => if i = k then v else f i
@[simp] theorem upd_same {α : Type} (f : Nat → α) (k : Nat) (v : α) : upd f k v k = v := by simp [upd]
theorem upd_ne {α : Type} (f : Nat → α) {k j : Nat} (v : α) (h : j ≠ k) : upd f k v j = f j := by simp [upd, h]

def hupd (h : Nat → Option Ob) : List (Nat × Ob) → Nat → Option Ob
 | [] => h
 | (k, o) :: r => hupd (upd h k (some o)) r

theorem beq_ff {a b : Nat} (h : a ≠ b) : Nat.beq a b = false := by
 cases hb : Nat.beq a b with
 | false => rfl
 | true => exact absurd (Nat.eq_of_beq_eq_true hb) h

theorem hp_get_set (h : Hp) (k : Nat) (o : Ob) : (Hp.set h k o).get = upd h.get k (some o) := by
 funext i
 induction h with
 | nil =>
  simp only [Hp.set, Hp.get, upd]
  by_cases hi : i = k
  ·subst hi; simp
  ·have : Nat.beq k i = false := beq_ff (Ne.symm hi)
   simp [this, hi]
 | cons p r ih =>
  obtain ⟨j, q⟩ := p
  simp only [Hp.set]
  cases hjk : Nat.beq j k with
  | true =>
   have hjk' : j = k := Nat.eq_of_beq_eq_true hjk
   subst hjk'
   simp only [Hp.get, upd]
   by_cases hi : i = j
   ·subst hi; simp
   ·have : Nat.beq j i = false := beq_ff (Ne.symm hi)
    simp [this, hi]
  | false =>
   simp only [Hp.get]
   rw [ih]
   have hjk' : j ≠ k := fun h => by subst h; simp at hjk
   cases hji : Nat.beq j i with
   | true =>
    have hji' : j = i := Nat.eq_of_beq_eq_true hji
    subst hji'
    simp [upd, hjk']
   | false => simp [upd, hji]

theorem hp_get_sets (wr : List (Nat × Ob)) : ∀ h : Hp, (Hp.sets h wr).get = hupd h.get wr := by
 induction wr with
 | nil => intro h; rfl
 | cons p r ih => intro h; obtain ⟨k, o⟩ := p; simp only [Hp.sets, hupd]; rw [ih, hp_get_set]

/-! ### Lists of values -/

def RVs (S : Nat → Prop) (m : M) (vs : List V) (xs : List Value) : Prop :=
 vs.length = xs.length ∧ ∀ (j : Nat) (v : V) (x : Value), vs[j]? = some v → xs[j]? = some x → RV S m v x

theorem RVs.nil {S : Nat → Prop} {m : M} : RVs S m [] [] := ⟨rfl, fun _ _ _ h => by simp at h⟩
theorem RVs.cons {S : Nat → Prop} {m : M} {v : V} {x : Value} {vs : List V} {xs : List Value} (h : RV S m v x) (hs : RVs S m vs xs) : RVs S m (v :: vs) (x :: xs) := by
 refine ⟨by simp [hs.1], fun j a b ha hb => ?_⟩
 cases j with
 | zero => simp at ha hb; subst ha; subst hb; exact h
 | succ j => simp at ha hb; exact hs.2 j a b ha hb
theorem RVs.head {S : Nat → Prop} {m : M} {v : V} {x : Value} {vs : List V} {xs : List Value} (h : RVs S m (v :: vs) (x :: xs)) : RV S m v x := h.2 0 v x rfl rfl
theorem RVs.tail {S : Nat → Prop} {m : M} {v : V} {x : Value} {vs : List V} {xs : List Value} (h : RVs S m (v :: vs) (x :: xs)) : RVs S m vs xs :=
 ⟨by have := h.1; simpa using this, fun j a b ha hb => h.2 (j + 1) a b (by simpa using ha) (by simpa using hb)⟩
theorem RVs.cases {S : Nat → Prop} {m : M} {v : V} {vs : List V} {ys : List Value} (h : RVs S m (v :: vs) ys) : ∃ x xs, ys = x :: xs ∧ RV S m v x ∧ RVs S m vs xs := by
 cases ys with
 | nil => have := h.1; simp at this
 | cons x xs => exact ⟨x, xs, rfl, h.head, h.tail⟩
theorem RVs.take {S : Nat → Prop} {m : M} {vs : List V} {xs : List Value} (h : RVs S m vs xs) (n : Nat) : RVs S m (vs.take n) (xs.take n) := by
 refine ⟨by simp [h.1], fun j a b ha hb => ?_⟩
 rw [List.getElem?_take] at ha hb
 by_cases hj : j < n
 ·simp [hj] at ha hb; exact h.2 j a b ha hb
 ·simp [hj] at ha
theorem RVs.drop {S : Nat → Prop} {m : M} {vs : List V} {xs : List Value} (h : RVs S m vs xs) (n : Nat) : RVs S m (vs.drop n) (xs.drop n) := by
 refine ⟨by simp [h.1], fun j a b ha hb => ?_⟩
 rw [List.getElem?_drop] at ha hb
 exact h.2 _ a b ha hb
theorem RVs.append {S : Nat → Prop} {m : M} {vs us : List V} {xs ys : List Value} (h : RVs S m vs xs) (k : RVs S m us ys) : RVs S m (vs ++ us) (xs ++ ys) := by
 refine ⟨by simp [h.1, k.1], fun j a b ha hb => ?_⟩
 rw [List.getElem?_append] at ha hb
 by_cases hj : j < vs.length
 ·rw [if_pos hj] at ha; rw [if_pos (h.1 ▸ hj)] at hb; exact h.2 j a b ha hb
 ·rw [if_neg hj] at ha; rw [if_neg (h.1 ▸ hj)] at hb; rw [h.1] at ha; exact k.2 _ a b ha hb
theorem RVs.mono {S : Nat → Prop} {m m' : M} {vs : List V} {xs : List Value} (h : RVs S m vs xs) (e : Evo S m m') : RVs S m' vs xs :=
 ⟨h.1, fun j a b ha hb => (h.2 j a b ha hb).mono e⟩
theorem RVs.get {S : Nat → Prop} {m : M} {vs : List V} {xs : List Value} (h : RVs S m vs xs) {j : Nat} {v : V} (hv : vs[j]? = some v) : ∃ x, xs[j]? = some x ∧ RV S m v x := by
 have hj : j < xs.length := by
  rw [← h.1]; exact (List.getElem?_eq_some_iff.1 hv).1
 exact ⟨xs[j], by simp [hj], h.2 j v _ hv (by simp [hj])⟩
theorem RVs.map_d {S : Nat → Prop} {m : M} {ds : List D} {xs : List Value} (hl : ds.length = xs.length)
  (h : ∀ (j : Nat) (d : D) (x : Value), ds[j]? = some d → xs[j]? = some x → RD m.w (m.av S) d x) : RVs S m (ds.map .d) xs := by
 refine ⟨by simp [hl], fun j v x hv hx => ?_⟩
 rw [List.getElem?_map] at hv
 cases hd : ds[j]? with
 | none => simp [hd] at hv
 | some d => simp [hd] at hv; subst hv; exact .d (h j d x hd hx)
theorem RVs.ones {S : Nat → Prop} {m : M} {vs : List V} {xs : List Value} (h : RVs S m vs xs) (ho : vs.all V.one = true) : ∀ x ∈ xs, x.oneCell' = true := by
 intro x hx
 obtain ⟨j, hj⟩ := List.mem_iff_getElem?.1 hx
 have hlt : j < vs.length := by rw [h.1]; exact (List.getElem?_eq_some_iff.1 hj).1
 have hv : vs[j]? = some vs[j] := by simp [hlt]
 exact (h.2 j _ x hv hj).one (List.all_eq_true.1 ho _ (List.getElem_mem hlt))

/-! ### Reading an object -/

theorem addr_add (b o n : Nat) : (⟨b, o, none⟩ : Addr).add n = ⟨b, o + n, none⟩ := by
 unfold Addr.add; split
 ·rename_i h; subst h; simp
 ·rfl

theorem cell_of_row {w : World} {b : Nat} {cs : Array Value} {T : TypeId} {fz : Nat × Nat} (h : w.heap[b]? = some (Obj.cells cs T fz)) (j : Nat) :
  w.cell? ⟨b, j, none⟩ = cs[j]? := by simp [World.cell?, h]

theorem Rel.cellsAt [Gl] {S : Nat → Prop} {m : M} (hR : Rel S m) {id : Nat} {o : Ob} {b base : Nat} (hk : kindL o.cells = 0) (ho : m.h id = some o) (ha : m.at_ id = some (b, base)) : ¬ S b ∧ CellsAt S m o.cells b base := by
 have := hR.obj id o b base ho ha
 rwa [rowAt_cells hk] at this

theorem RowAt.some {S : Nat → Prop} {m : M} {l : List V} {b base : Nat} (h : RowAt S m l b base) : ∃ ob, m.w.heap[b]? = some ob := by
 unfold RowAt at h
 split at h
 ·obtain ⟨_, t, h1, _⟩ := h; exact ⟨_, h1⟩
 ·obtain ⟨_, es, h1, _⟩ := h; exact ⟨_, h1⟩
 ·obtain ⟨_, bm, h1, _⟩ := h; exact ⟨_, h1⟩
 ·obtain ⟨cs, T, fz, h1, _⟩ := h; exact ⟨_, h1⟩

/-- Where cells lie, the object is one of cells. -/
theorem RowAt.kind_at {S : Nat → Prop} {m : M} {l : List V} {b base : Nat} (h : RowAt S m l b base) (hc : ∃ cs T fz, m.w.heap[b]? = Option.some (Obj.cells cs T fz)) : kindL l = 0 := by
 obtain ⟨cs, T, fz, hc⟩ := hc
 unfold RowAt at h
 split at h
 ·obtain ⟨_, t, h1, _⟩ := h; rw [hc] at h1; injection h1 with h1; cases h1
 ·obtain ⟨_, es, h1, _⟩ := h; rw [hc] at h1; injection h1 with h1; cases h1
 ·obtain ⟨_, bm, h1, _⟩ := h; rw [hc] at h1; injection h1 with h1; cases h1
 ·exact CellsAt.kind h

theorem MapAt.mono {S : Nat → Prop} {m m' : M} {ks : List D} {vs : List V} {bs : List Nat} {es : Array MapEntry} (h : MapAt S m ks vs bs es) (e : Evo S m m') : MapAt S m' ks vs bs es :=
 ⟨h.lk, h.lv, h.lb, fun j k x hk hx => (h.key j k x hk hx).mono e.keep, fun j v x hv hx => (h.val j v x hv hx).mono e, h.born⟩

theorem RowAt.mono {S : Nat → Prop} {m m' : M} {l : List V} {b base : Nat} (h : RowAt S m l b base) (e : Evo S m m') (hrow : m'.w.heap[b]? = m.w.heap[b]?) : RowAt S m' l b base := by
 have h0 := h
 unfold RowAt at h
 split at h
 ·obtain ⟨h1, t, h2, h3⟩ := h; exact ⟨h1, t, by rw [hrow]; exact h2, h3⟩
 ·obtain ⟨h1, es, h2, h3⟩ := h; exact ⟨h1, es, by rw [hrow]; exact h2, h3.mono e⟩
 ·obtain ⟨h1, bm, h2, h3⟩ := h; exact ⟨h1, bm, by rw [hrow]; exact h2, h3.mono e⟩
 ·rw [rowAt_cells (CellsAt.kind h)]
  obtain ⟨cs, T, fz, h2, h3, h4, h5⟩ := h
  refine ⟨cs, T, fz, by rw [hrow]; exact h2, h3, h4, fun j v hv => ?_⟩
  obtain ⟨h6, x, h7, h8⟩ := h5 j v hv
  exact ⟨h6, x, h7, h8.mono e⟩

/-- The cells of an object, in memory. -/
theorem Rel.vals [Gl] {S : Nat → Prop} {m : M} (hR : Rel S m) {id : Nat} {o : Ob} {b base : Nat} (ho : m.h id = some o) (ha : m.at_ id = some (b, base)) (hk : kindL o.cells = 0) :
  ∃ xs, RVs S m o.cells xs ∧ o.cells.all V.one = true ∧ ∀ (j : Nat) (x : Value), xs[j]? = some x → m.w.cell? ⟨b, base + j, none⟩ = some x := by
 obtain ⟨_, cs, T, fz, hrow, _, hsz, hc⟩ := hR.cellsAt hk ho ha
 refine ⟨(cs.toList.drop base).take o.cells.length, ⟨?_, fun j v x hv hx => ?_⟩, ?_, fun j x hx => ?_⟩
 ·simp; omega
 ·obtain ⟨_, y, hy, hRV⟩ := hc j v hv
  rw [List.getElem?_take] at hx
  split at hx
  ·rw [List.getElem?_drop] at hx; simp [hy] at hx; subst hx; exact hRV
  ·simp at hx
 ·rw [List.all_eq_true]
  intro v hv
  obtain ⟨j, hj⟩ := List.mem_iff_getElem?.1 hv
  exact (hc j v hj).1
 ·rw [List.getElem?_take] at hx
  split at hx
  ·rw [List.getElem?_drop] at hx; rw [cell_of_row hrow]; simpa using hx
  ·simp at hx

theorem live_spec {look : Look} {id g : Nat} {o : Ob} (h : live look id g = some o) : look id = some o ∧ o.gen = g := by
 unfold live at h
 cases hl : look id with
 | none => simp [hl] at h
 | some p =>
  simp only [hl] at h
  cases hb : Nat.beq p.gen g with
  | false => simp [hb] at h
  | true => simp [hb] at h; subst h; exact ⟨rfl, Nat.eq_of_beq_eq_true hb⟩

/-- A live pointer. -/
theorem RV.ptr_live {S : Nat → Prop} {m : M} {id g off : Nat} {v : Value} {o : Ob} (h : RV S m (.ptr id g off) v) (hl : live m.h id g = some o) :
  m.h id = some o ∧ o.gen = g ∧ ∃ b base, m.at_ id = some (b, base) ∧ v = .pointer (some ⟨b, base + off, none⟩) := by
 obtain ⟨h1, h2⟩ := live_spec hl
 cases h with
 | ptr _ _ h => exact ⟨h1, h2, (h o h1 h2).2⟩

theorem RV.ptr_kind {S : Nat → Prop} {m : M} {id g off : Nat} {v : Value} {o : Ob} (h : RV S m (.ptr id g off) v) (hl : live m.h id g = some o) : kindL o.cells = 0 := by
 obtain ⟨h1, h2⟩ := live_spec hl
 cases h with
 | ptr _ _ h => exact (h o h1 h2).1

theorem RV.osl_kind {S : Nat → Prop} {m : M} {id g off len sz : Nat} {cap : Option Nat} {v : Value} {o : Ob} (h : RV S m (.osl id g off len sz cap) v) (hl : live m.h id g = some o) : kindL o.cells = 0 := by
 obtain ⟨h1, h2⟩ := live_spec hl
 cases h with
 | osl _ _ h => exact (h o h1 h2).1

theorem RV.it_live {S : Nat → Prop} {m : M} {id g : Nat} {v : Value} {o : Ob} (h : RV S m (.it id g) v) (hl : live m.h id g = some o) :
  m.h id = some o ∧ o.gen = g ∧ kindL o.cells = 1 ∧ ∃ b, m.at_ id = some (b, 0) ∧ v = .pointer (some ⟨b, 0, none⟩) := by
 obtain ⟨h1, h2⟩ := live_spec hl
 cases h with
 | it _ _ h => exact ⟨h1, h2, h o h1 h2⟩

theorem RV.mp_live {S : Nat → Prop} {m : M} {id g : Nat} {v : Value} {o : Ob} (h : RV S m (.mp id g) v) (hl : live m.h id g = some o) :
  m.h id = some o ∧ o.gen = g ∧ kindL o.cells = 2 ∧ ∃ b, m.at_ id = some (b, 0) ∧ v = .map (some b) := by
 obtain ⟨h1, h2⟩ := live_spec hl
 cases h with
 | mp _ _ h => exact ⟨h1, h2, h o h1 h2⟩

theorem RV.osl_live {S : Nat → Prop} {m : M} {id g off len sz : Nat} {cap : Option Nat} {v : Value} {o : Ob} (h : RV S m (.osl id g off len sz cap) v) (hl : live m.h id g = some o) :
  m.h id = some o ∧ o.gen = g ∧ OslOK m o id off len sz cap v := by
 obtain ⟨h1, h2⟩ := live_spec hl
 cases h with
 | osl _ _ h => exact ⟨h1, h2, (h o h1 h2).2⟩

/-! ### Changing memory -/

/-- What an operation has done: the value, and memory behind it. -/
def After [Gl] (S : Nat → Prop) (m : M) (c : Nat) (r : Res) (x : Value) (m' : M) : Prop :=
 Rel S m' ∧ Evo S m m' ∧ RV S m' r.v x ∧ m'.h = hupd m.h r.wr ∧ m'.iss = (fun id g => m.iss id g ∨ (c ≤ g ∧ g < c + r.dc))

/-- The names and marks that are given out are new. -/
def Fresh (m : M) (c dc : Nat) : Prop := ∀ id g, c ≤ g → g < c + dc → ¬ m.iss id g

theorem iss_zero (m : M) (c : Nat) : (fun id g => m.iss id g ∨ (c ≤ g ∧ g < c + 0)) = m.iss := by
 funext id g; apply propext; constructor
 ·rintro (h | h)
  ·exact h
  ·omega
 ·exact .inl

theorem After.quiet [Gl] {S : Nat → Prop} {m : M} {c : Nat} {v : V} {rd : List Nat} {x : Value} {al : Bool} (hR : Rel S m) (hv : RV S m v x) : After S m c ⟨v, [], rd, 0, 0, al⟩ x m :=
 ⟨hR, .refl S m, hv, rfl, (iss_zero m c).symm⟩

/-- Objects that are not touched stay as they are. -/
theorem Rel.other [Gl] {S : Nat → Prop} {m m' : M} (hR : Rel S m) (e : Evo S m m') {id : Nat} {o : Ob} {b base : Nat} (ho : m.h id = some o) (ha : m.at_ id = some (b, base))
  (hrow : m'.w.heap[b]? = m.w.heap[b]?) :
  ¬ S b ∧ RowAt S m' o.cells b base :=
 ⟨(hR.obj id o b base ho ha).1, (hR.obj id o b base ho ha).2.mono e hrow⟩

theorem block_lt {w : World} {b : Nat} {o : Obj} (h : w.heap[b]? = some o) : b < w.heap.size := (Array.getElem?_eq_some_iff.1 h).1

/-- A write into an object: its row is replaced. -/
theorem write_obj [Gl] {S : Nat → Prop} {m : M} (hR : Rel S m) {id : Nat} {o o' : Ob} {b base base' dc c : Nat} {cs cs' : Array Value} {T : TypeId} {fz : Nat × Nat} {w' : World}
  (ho : m.h id = some o) (ha : m.at_ id = some (b, base)) (hro : o.ro = false) (hk : kindL o.cells = 0) (hrow : m.w.heap[b]? = some (Obj.cells cs T fz))
  (hw : w'.heap = (m.w.setRow b cs').heap) (hsz : cs'.size = cs.size) (hb : base' + o'.cells.length ≤ cs'.size)
  (hg : (o'.gen = o.gen ∧ base' = base ∧ o.cells.length ≤ o'.cells.length ∧ dc = 0) ∨ (¬ m.iss id o'.gen ∧ o'.gen = c ∧ dc = 1))
  (hc : ∀ (j : Nat) (v : V), o'.cells[j]? = some v → v.one = true ∧ ∃ x, cs'[base' + j]? = some x ∧ RV S m v x) (hrest : w'.os = m.w.os ∧ w'.output = m.w.output := by exact ⟨rfl, rfl⟩) :
  ∃ m' : M, m'.w = w' ∧ m'.h = upd m.h id (some o') ∧ m'.at_ = upd m.at_ id (some (b, base')) ∧ m'.iss = (fun i g => m.iss i g ∨ (c ≤ g ∧ g < c + dc)) ∧ Rel S m' ∧ Evo S m m' := by
 obtain ⟨hS, cs0, T0, fz0, hrow0, hfz, hsz0, hc0⟩ := hR.cellsAt hk ho ha
 have hk' : kindL o'.cells = 0 := kind_of_one fun j v hv => (hc j v hv).1
 rw [hrow] at hrow0
 obtain ⟨rfl, rfl, rfl⟩ : cs = cs0 ∧ T = T0 ∧ fz = fz0 := by simpa using hrow0
 let m' : M := { at_ := upd m.at_ id (some (b, base')), h := upd m.h id (some o'), iss := fun i g => m.iss i g ∨ (c ≤ g ∧ g < c + dc), w := w' }
 have hsame : w'.heap[b]? = some (Obj.cells cs' T fz) := by rw [hw]; exact setRow_heap m.w b cs cs' T fz hrow
 have hother : ∀ k, k ≠ b → w'.heap[k]? = m.w.heap[k]? := fun k hk => by rw [hw]; exact setRow_other m.w b k cs' hk
 have hsize : w'.heap.size = m.w.heap.size := by rw [hw]; simp
 have hav : m.av S b := .inr ⟨id, o, base, ho, hro, ha⟩
 have hav' : ∀ k, m'.av S k → m.av S k := by
  rintro k (h | ⟨i, q, x, h1, h2, h3⟩)
  ·exact .inl h
  ·by_cases hi : i = id
   ·subst hi
    simp only [m', upd_same, Option.some.injEq, Prod.mk.injEq] at h1 h3
    exact h3.1 ▸ hav
   ·simp only [m', upd_ne _ _ hi] at h1 h3
    exact .inr ⟨i, q, x, h1, h2, h3⟩
 have e : Evo S m m' := {
  rest := ⟨hrest.1, hrest.2, fun a _ => by
   show w'.frozen? a = m.w.frozen? a
   by_cases hb2 : a.block = b
   ·simp [World.frozen?, hb2, hsame, hrow]
   ·simp [World.frozen?, hother _ hb2]⟩
  iss := fun i g h => .inl h
  size := by show m.w.heap.size ≤ w'.heap.size; omega
  shape := fun k ks T1 f1 hk => by
   by_cases hkb : k = b
   ·subst hkb
    rw [hrow] at hk
    obtain ⟨rfl, rfl, rfl⟩ : cs = ks ∧ T = T1 ∧ fz = f1 := by injection hk with h; injection h with h1 h2 h3; exact ⟨h1, h2, h3⟩
    exact ⟨cs', fz, hsame, hsz⟩
   ·exact ⟨ks, f1, by show w'.heap[k]? = _; rw [hother k hkb]; exact hk, rfl⟩
  keepS := fun k _ hs => hother k (fun h => hS (h ▸ hs))
  keep := fun k _ hn => ⟨fun h => hn (hav' k h), hother k (fun h => hn (h ▸ hav))⟩
  live := fun i q hq hi => by
   by_cases hid : i = id
   ·subst hid
    simp only [m', upd_same, Option.some.injEq] at hq
    subst hq
    rcases hg with ⟨g1, g2, g3, _⟩ | ⟨g1, _⟩
    ·exact ⟨o, ho, g1.symm, by simp [m', ha, g2], g3, by rw [hk, hk']⟩
    ·exact absurd hi g1
   ·simp only [m', upd_ne _ _ hid] at hq ⊢
    exact ⟨q, hq, rfl, trivial, Nat.le_refl _, rfl⟩
  old := fun i q k x h1 h2 hk => by
   by_cases hid : i = id
   ·subst hid
    simp only [m', upd_same, Option.some.injEq, Prod.mk.injEq] at h2
    exact ⟨o, base, ho, by rw [ha, h2.1]⟩
   ·simp only [m', upd_ne _ _ hid] at h1 h2
    exact ⟨q, x, h1, h2⟩ }
 refine ⟨m', rfl, rfl, rfl, rfl, ⟨fun g => (hR.glob g).mono e, ?_, ?_, ?_, ?_, ?_⟩, e⟩
 ·intro i q hq
  by_cases hid : i = id
  ·subst hid
   simp only [m', upd_same, Option.some.injEq] at hq
   subst hq
   rcases hg with ⟨g1, _⟩ | ⟨_, g2, g3⟩
   ·exact .inl (g1 ▸ hR.iss i o ho)
   ·exact .inr ⟨by omega, by omega⟩
  ·simp only [m', upd_ne _ _ hid] at hq
   exact .inl (hR.iss i q hq)
 ·intro i q hq hn
  by_cases hid : i = id
  ·subst hid; simp [m'] at hn
  ·simp only [m', upd_ne _ _ hid] at hq hn
   exact hR.none_ i q hq hn
 ·intro i q k x hq hk
  by_cases hid : i = id
  ·subst hid
   simp only [m', upd_same, Option.some.injEq, Prod.mk.injEq] at hq hk
   obtain ⟨rfl, rfl⟩ := hk
   subst hq
   refine ⟨hS, CellsAt.row ⟨cs', T, fz, hsame, hfz, hb, fun j v hv => ?_⟩⟩
   obtain ⟨h1, x, h2, h3⟩ := hc j v hv
   exact ⟨h1, x, h2, h3.mono e⟩
  ·simp only [m', upd_ne _ _ hid] at hq hk
   refine hR.other e hq hk (hother k fun h => hid ?_)
   subst h
   exact hR.inj i id q o k x base hq ho hk ha
 ·intro i j oi oj k x y hi hj hx hy
  by_cases h1 : i = id
  ·by_cases h2 : j = id
   ·rw [h1, h2]
   ·subst h1
    simp only [m', upd_same, upd_ne _ _ h2, Option.some.injEq, Prod.mk.injEq] at hi hj hx hy
    exact hR.inj i j o oj b base y ho hj ha (hx.1 ▸ hy)
  ·by_cases h2 : j = id
   ·subst h2
    simp only [m', upd_same, upd_ne _ _ h1, Option.some.injEq, Prod.mk.injEq] at hi hj hx hy
    exact hR.inj i j oi o b x base hi ho (hy.1 ▸ hx) ha
   ·simp only [m', upd_ne _ _ h1, upd_ne _ _ h2] at hi hj hx hy
    exact hR.inj i j oi oj k x y hi hj hx hy
 ·intro k hk
  have := hR.sub k hk
  show k < w'.heap.size
  omega

/-- A new row for an object: a new one, or one that moves. -/
theorem alloc_obj [Gl] {S : Nat → Prop} {m : M} (hR : Rel S m) {id : Nat} {o' : Ob} {dc c : Nat} {cs' : Array Value} {T : TypeId} {w' : World}
  (hw : w'.heap = m.w.heap.push (Obj.cells cs' T (0, 0))) (hb : o'.cells.length ≤ cs'.size)
  (hg : ¬ m.iss id o'.gen) (hgc : o'.gen = c) (hdc : dc = 1)
  (hc : ∀ (j : Nat) (v : V), o'.cells[j]? = some v → v.one = true ∧ ∃ x, cs'[j]? = some x ∧ RV S m v x) (hrest : w'.os = m.w.os ∧ w'.output = m.w.output := by exact ⟨rfl, rfl⟩) :
  ∃ m' : M, m'.w = w' ∧ m'.h = upd m.h id (some o') ∧ m'.at_ = upd m.at_ id (some (m.w.heap.size, 0)) ∧ m'.iss = (fun i g => m.iss i g ∨ (c ≤ g ∧ g < c + dc)) ∧ Rel S m' ∧ Evo S m m' := by
 let m' : M := { at_ := upd m.at_ id (some (m.w.heap.size, 0)), h := upd m.h id (some o'), iss := fun i g => m.iss i g ∨ (c ≤ g ∧ g < c + dc), w := w' }
 have hnew : w'.heap[m.w.heap.size]? = some (Obj.cells cs' T (0, 0)) := by rw [hw]; simp
 have hother : ∀ k, k < m.w.heap.size → w'.heap[k]? = m.w.heap[k]? := fun k hk => by rw [hw, Array.getElem?_push_lt hk]; simp [hk]
 have hsize : w'.heap.size = m.w.heap.size + 1 := by rw [hw]; simp
 have e : Evo S m m' := {
  rest := ⟨hrest.1, hrest.2, fun a _ => by
   show w'.frozen? a = m.w.frozen? a
   by_cases hb2 : a.block < m.w.heap.size
   ·simp [World.frozen?, hother _ hb2]
   ·have h0 : m.w.heap[a.block]? = none := by simp; omega
    by_cases hb3 : a.block = m.w.heap.size
    ·have h1 : w'.heap[a.block]? = some (Obj.cells cs' T (0, 0)) := by rw [hb3]; exact hnew
     simp [World.frozen?, h0, h1]
    ·have h1 : w'.heap[a.block]? = none := by simp; omega
     simp [World.frozen?, h0, h1]⟩
  iss := fun i g h => .inl h
  size := by show m.w.heap.size ≤ w'.heap.size; omega
  shape := fun k ks T1 f1 hk => ⟨ks, f1, by show w'.heap[k]? = _; rw [hother k (block_lt hk)]; exact hk, rfl⟩
  keepS := fun k hk _ => hother k hk
  keep := fun k hk hn => by
   refine ⟨?_, hother k hk⟩
   rintro (h | ⟨i, q, x, h1, h2, h3⟩)
   ·exact hn (.inl h)
   ·by_cases hi : i = id
    ·subst hi
     simp only [m', upd_same, Option.some.injEq, Prod.mk.injEq] at h1 h3
     omega
    ·simp only [m', upd_ne _ _ hi] at h1 h3
     exact hn (.inr ⟨i, q, x, h1, h2, h3⟩)
  live := fun i q hq hi => by
   by_cases hid : i = id
   ·subst hid
    simp only [m', upd_same, Option.some.injEq] at hq
    subst hq
    exact absurd hi hg
   ·simp only [m', upd_ne _ _ hid] at hq ⊢
    exact ⟨q, hq, rfl, trivial, Nat.le_refl _, rfl⟩
  old := fun i q k x h1 h2 hk => by
   by_cases hid : i = id
   ·subst hid
    simp only [m', upd_same, Option.some.injEq, Prod.mk.injEq] at h2
    omega
   ·simp only [m', upd_ne _ _ hid] at h1 h2
    exact ⟨q, x, h1, h2⟩ }
 refine ⟨m', rfl, rfl, rfl, rfl, ⟨fun g => (hR.glob g).mono e, ?_, ?_, ?_, ?_, ?_⟩, e⟩
 ·intro i q hq
  by_cases hid : i = id
  ·subst hid
   simp only [m', upd_same, Option.some.injEq] at hq
   subst hq
   exact .inr ⟨by omega, by omega⟩
  ·simp only [m', upd_ne _ _ hid] at hq
   exact .inl (hR.iss i q hq)
 ·intro i q hq hn
  by_cases hid : i = id
  ·subst hid; simp [m'] at hn
  ·simp only [m', upd_ne _ _ hid] at hq hn
   exact hR.none_ i q hq hn
 ·intro i q k x hq hk
  by_cases hid : i = id
  ·subst hid
   simp only [m', upd_same, Option.some.injEq, Prod.mk.injEq] at hq hk
   obtain ⟨rfl, rfl⟩ := hk
   subst hq
   refine ⟨fun h => ?_, CellsAt.row ⟨cs', T, (0, 0), hnew, Nat.le_refl _, by omega, fun j v hv => ?_⟩⟩
   ·have := hR.sub _ h; omega
   ·obtain ⟨h1, x, h2, h3⟩ := hc j v hv
    exact ⟨h1, x, by simpa using h2, h3.mono e⟩
  ·simp only [m', upd_ne _ _ hid] at hq hk
   obtain ⟨ob0, hrow0⟩ := (hR.obj i q k x hq hk).2.some
   exact hR.other e hq hk (hother k (block_lt hrow0))
 ·intro i j oi oj k x y hi hj hx hy
  by_cases h1 : i = id
  ·by_cases h2 : j = id
   ·rw [h1, h2]
   ·subst h1
    simp only [m', upd_same, upd_ne _ _ h2, Option.some.injEq, Prod.mk.injEq] at hi hj hx hy
    obtain ⟨ob0, hrow0⟩ := (hR.obj j oj k y hj hy).2.some
    have := block_lt hrow0
    omega
  ·by_cases h2 : j = id
   ·subst h2
    simp only [m', upd_same, upd_ne _ _ h1, Option.some.injEq, Prod.mk.injEq] at hi hj hx hy
    obtain ⟨ob0, hrow0⟩ := (hR.obj i oi k x hi hx).2.some
    have := block_lt hrow0
    omega
   ·simp only [m', upd_ne _ _ h1, upd_ne _ _ h2] at hi hj hx hy
    exact hR.inj i j oi oj k x y hi hj hx hy
 ·intro k hk
  have := hR.sub k hk
  show k < w'.heap.size
  omega

/-- An object that is still empty and lies nowhere. -/
theorem virt_obj [Gl] {S : Nat → Prop} {m : M} (hR : Rel S m) {id : Nat} {o' : Ob} {dc c : Nat} (hcells : o'.cells = []) (hg : ¬ m.iss id o'.gen) (hgc : o'.gen = c) (hdc : dc = 1) :
  ∃ m' : M, m'.w = m.w ∧ m'.h = upd m.h id (some o') ∧ m'.at_ = upd m.at_ id none ∧ m'.iss = (fun i g => m.iss i g ∨ (c ≤ g ∧ g < c + dc)) ∧ Rel S m' ∧ Evo S m m' := by
 let m' : M := { at_ := upd m.at_ id none, h := upd m.h id (some o'), iss := fun i g => m.iss i g ∨ (c ≤ g ∧ g < c + dc), w := m.w }
 have e : Evo S m m' := {
  rest := ⟨rfl, rfl, fun _ _ => rfl⟩
  iss := fun i g h => .inl h
  size := Nat.le_refl _
  shape := fun k ks T1 f1 hk => ⟨ks, f1, hk, rfl⟩
  keepS := fun k hk _ => rfl
  keep := fun k hk hn => by
   refine ⟨?_, rfl⟩
   rintro (h | ⟨i, q, x, h1, h2, h3⟩)
   ·exact hn (.inl h)
   ·by_cases hi : i = id
    ·subst hi; simp [m'] at h3
    ·simp only [m', upd_ne _ _ hi] at h1 h3
     exact hn (.inr ⟨i, q, x, h1, h2, h3⟩)
  live := fun i q hq hi => by
   by_cases hid : i = id
   ·subst hid
    simp only [m', upd_same, Option.some.injEq] at hq
    subst hq
    exact absurd hi hg
   ·simp only [m', upd_ne _ _ hid] at hq ⊢
    exact ⟨q, hq, rfl, trivial, Nat.le_refl _, rfl⟩
  old := fun i q k x h1 h2 hk => by
   by_cases hid : i = id
   ·subst hid; simp [m'] at h2
   ·simp only [m', upd_ne _ _ hid] at h1 h2
    exact ⟨q, x, h1, h2⟩ }
 refine ⟨m', rfl, rfl, rfl, rfl, ⟨fun g => (hR.glob g).mono e, ?_, ?_, ?_, ?_, ?_⟩, e⟩
 ·intro i q hq
  by_cases hid : i = id
  ·subst hid
   simp only [m', upd_same, Option.some.injEq] at hq
   subst hq
   exact .inr ⟨by omega, by omega⟩
  ·simp only [m', upd_ne _ _ hid] at hq
   exact .inl (hR.iss i q hq)
 ·intro i q hq hn
  by_cases hid : i = id
  ·subst hid
   simp only [m', upd_same, Option.some.injEq] at hq
   subst hq; exact hcells
  ·simp only [m', upd_ne _ _ hid] at hq hn
   exact hR.none_ i q hq hn
 ·intro i q k x hq hk
  by_cases hid : i = id
  ·subst hid; simp [m'] at hk
  ·simp only [m', upd_ne _ _ hid] at hq hk
   exact hR.other e hq hk rfl
 ·intro i j oi oj k x y hi hj hx hy
  by_cases h1 : i = id
  ·subst h1; simp [m'] at hx
  ·by_cases h2 : j = id
   ·subst h2; simp [m'] at hy
   ·simp only [m', upd_ne _ _ h1, upd_ne _ _ h2] at hi hj hx hy
    exact hR.inj i j oi oj k x y hi hj hx hy
 ·exact hR.sub

/-- An object that is only read from here on. -/
theorem ro_obj [Gl] {S : Nat → Prop} {m : M} (hR : Rel S m) {id : Nat} {o : Ob} (ho : m.h id = some o) :
  ∃ m' : M, m'.w = m.w ∧ m'.h = upd m.h id (some { o with ro := true }) ∧ m'.at_ = m.at_ ∧ m'.iss = m.iss ∧ Rel S m' ∧ Evo S m m' := by
 let m' : M := { at_ := m.at_, h := upd m.h id (some { o with ro := true }), iss := m.iss, w := m.w }
 have hget : ∀ i q, m'.h i = some q → ∃ p, m.h i = some p ∧ p.gen = q.gen ∧ p.cells = q.cells ∧ (q.ro = false → p.ro = false) := by
  intro i q hq
  by_cases hid : i = id
  ·subst hid
   simp only [m', upd_same, Option.some.injEq] at hq
   subst hq
   exact ⟨o, ho, rfl, rfl, fun h => by simp at h⟩
  ·simp only [m', upd_ne _ _ hid] at hq
   exact ⟨q, hq, rfl, rfl, fun h => h⟩
 have e : Evo S m m' := {
  rest := ⟨rfl, rfl, fun _ _ => rfl⟩
  iss := fun i g h => h
  size := Nat.le_refl _
  shape := fun k ks T1 f1 hk => ⟨ks, f1, hk, rfl⟩
  keepS := fun k hk _ => rfl
  keep := fun k hk hn => by
   refine ⟨?_, rfl⟩
   rintro (h | ⟨i, q, x, h1, h2, h3⟩)
   ·exact hn (.inl h)
   ·obtain ⟨p, p1, p2, p3, p4⟩ := hget i q h1
    exact hn (.inr ⟨i, p, x, p1, p4 h2, h3⟩)
  live := fun i q hq hi => by
   obtain ⟨p, p1, p2, p3, p4⟩ := hget i q hq
   exact ⟨p, p1, p2, rfl, by rw [p3]; exact Nat.le_refl _, by rw [p3]⟩
  old := fun i q k x h1 h2 hk => by
   obtain ⟨p, p1, _⟩ := hget i q h1
   exact ⟨p, x, p1, h2⟩ }
 refine ⟨m', rfl, rfl, rfl, rfl, ⟨fun g => (hR.glob g).mono e, ?_, ?_, ?_, ?_, ?_⟩, e⟩
 ·intro i q hq
  obtain ⟨p, p1, p2, p3, p4⟩ := hget i q hq
  exact p2 ▸ hR.iss i p p1
 ·intro i q hq hn
  obtain ⟨p, p1, p2, p3, p4⟩ := hget i q hq
  exact p3 ▸ hR.none_ i p p1 hn
 ·intro i q k x hq hk
  obtain ⟨p, p1, p2, p3, p4⟩ := hget i q hq
  have := hR.other e p1 hk rfl
  rw [p3] at this
  exact this
 ·intro i j oi oj k x y hi hj hx hy
  obtain ⟨p, p1, _⟩ := hget i oi hi
  obtain ⟨q, q1, _⟩ := hget j oj hj
  exact hR.inj i j p q k x y p1 q1 hx hy
 ·exact hR.sub

/-! ### Objects of other kinds: iterators, maps -/

/-- Not a row of cells. -/
def _root_.Go.Obj.other : Obj → Prop
 | .cells .. => False
 | _ => True

theorem other_frozen {w : World} {a : Addr} {ob : Obj} (h : w.heap[a.block]? = some ob) (ho : ob.other) : w.frozen? a = false := by
 unfold World.frozen?
 rw [h]
 cases ob <;> first | rfl | exact absurd ho (by simp [Obj.other])

/-- A new object of another kind. -/
theorem alloc_sp [Gl] {S : Nat → Prop} {m : M} (hR : Rel S m) {id : Nat} {o' : Ob} {c : Nat} {ob : Obj} {w' : World}
  (hw : w'.heap = m.w.heap.push ob) (hob : ob.other) (hg : ¬ m.iss id o'.gen) (hgc : o'.gen = c)
  (hrow : ∀ m' : M, Evo S m m' → m'.w.heap[m.w.heap.size]? = some ob → RowAt S m' o'.cells m.w.heap.size 0)
  (hrest : w'.os = m.w.os ∧ w'.output = m.w.output := by exact ⟨rfl, rfl⟩) :
  ∃ m' : M, m'.w = w' ∧ m'.h = upd m.h id (some o') ∧ m'.at_ = upd m.at_ id (some (m.w.heap.size, 0)) ∧ m'.iss = (fun i g => m.iss i g ∨ (c ≤ g ∧ g < c + 1)) ∧ Rel S m' ∧ Evo S m m' := by
 let m' : M := { at_ := upd m.at_ id (some (m.w.heap.size, 0)), h := upd m.h id (some o'), iss := fun i g => m.iss i g ∨ (c ≤ g ∧ g < c + 1), w := w' }
 have hnew : w'.heap[m.w.heap.size]? = some ob := by rw [hw]; simp
 have hother : ∀ k, k < m.w.heap.size → w'.heap[k]? = m.w.heap[k]? := fun k hk => by rw [hw, Array.getElem?_push_lt hk]; simp [hk]
 have hsize : w'.heap.size = m.w.heap.size + 1 := by rw [hw]; simp
 have e : Evo S m m' := {
  rest := ⟨hrest.1, hrest.2, fun a _ => by
   show w'.frozen? a = m.w.frozen? a
   by_cases hb2 : a.block < m.w.heap.size
   ·simp [World.frozen?, hother _ hb2]
   ·have h0 : m.w.heap[a.block]? = none := by simp; omega
    have h00 : m.w.frozen? a = false := by simp [World.frozen?, h0]
    by_cases hb3 : a.block = m.w.heap.size
    ·rw [h00, other_frozen (ob := ob) (by rw [hb3]; exact hnew) hob]
    ·have h1 : w'.heap[a.block]? = none := by simp; omega
     simp [World.frozen?, h0, h1]⟩
  iss := fun i g h => .inl h
  size := by show m.w.heap.size ≤ w'.heap.size; omega
  shape := fun k ks T1 f1 hk => ⟨ks, f1, by show w'.heap[k]? = _; rw [hother k (block_lt hk)]; exact hk, rfl⟩
  keepS := fun k hk _ => hother k hk
  keep := fun k hk hn => by
   refine ⟨?_, hother k hk⟩
   rintro (h | ⟨i, q, x, h1, h2, h3⟩)
   ·exact hn (.inl h)
   ·by_cases hi : i = id
    ·subst hi
     simp only [m', upd_same, Option.some.injEq, Prod.mk.injEq] at h1 h3
     omega
    ·simp only [m', upd_ne _ _ hi] at h1 h3
     exact hn (.inr ⟨i, q, x, h1, h2, h3⟩)
  live := fun i q hq hi => by
   by_cases hid : i = id
   ·subst hid
    simp only [m', upd_same, Option.some.injEq] at hq
    subst hq
    exact absurd hi hg
   ·simp only [m', upd_ne _ _ hid] at hq ⊢
    exact ⟨q, hq, rfl, trivial, Nat.le_refl _, rfl⟩
  old := fun i q k x h1 h2 hk => by
   by_cases hid : i = id
   ·subst hid
    simp only [m', upd_same, Option.some.injEq, Prod.mk.injEq] at h2
    omega
   ·simp only [m', upd_ne _ _ hid] at h1 h2
    exact ⟨q, x, h1, h2⟩ }
 refine ⟨m', rfl, rfl, rfl, rfl, ⟨fun g => (hR.glob g).mono e, ?_, ?_, ?_, ?_, ?_⟩, e⟩
 ·intro i q hq
  by_cases hid : i = id
  ·subst hid
   simp only [m', upd_same, Option.some.injEq] at hq
   subst hq
   exact .inr ⟨by omega, by omega⟩
  ·simp only [m', upd_ne _ _ hid] at hq
   exact .inl (hR.iss i q hq)
 ·intro i q hq hn
  by_cases hid : i = id
  ·subst hid; simp [m'] at hn
  ·simp only [m', upd_ne _ _ hid] at hq hn
   exact hR.none_ i q hq hn
 ·intro i q k x hq hk
  by_cases hid : i = id
  ·subst hid
   simp only [m', upd_same, Option.some.injEq, Prod.mk.injEq] at hq hk
   obtain ⟨rfl, rfl⟩ := hk
   subst hq
   refine ⟨fun h => ?_, hrow m' e hnew⟩
   have := hR.sub _ h; omega
  ·simp only [m', upd_ne _ _ hid] at hq hk
   obtain ⟨ob0, hrow0⟩ := (hR.obj i q k x hq hk).2.some
   exact hR.other e hq hk (hother k (block_lt hrow0))
 ·intro i j oi oj k x y hi hj hx hy
  by_cases h1 : i = id
  ·by_cases h2 : j = id
   ·rw [h1, h2]
   ·subst h1
    simp only [m', upd_same, upd_ne _ _ h2, Option.some.injEq, Prod.mk.injEq] at hi hj hx hy
    obtain ⟨ob0, hrow0⟩ := (hR.obj j oj k y hj hy).2.some
    have := block_lt hrow0
    omega
  ·by_cases h2 : j = id
   ·subst h2
    simp only [m', upd_same, upd_ne _ _ h1, Option.some.injEq, Prod.mk.injEq] at hi hj hx hy
    obtain ⟨ob0, hrow0⟩ := (hR.obj i oi k x hi hx).2.some
    have := block_lt hrow0
    omega
   ·simp only [m', upd_ne _ _ h1, upd_ne _ _ h2] at hi hj hx hy
    exact hR.inj i j oi oj k x y hi hj hx hy
 ·intro k hk
  have := hR.sub k hk
  show k < w'.heap.size
  omega

/-- An object of another kind is written. -/
theorem write_sp [Gl] {S : Nat → Prop} {m : M} (hR : Rel S m) {id : Nat} {o o' : Ob} {b c : Nat} {ob ob' : Obj} {w' : World}
  (ho : m.h id = some o) (ha : m.at_ id = some (b, 0)) (hro : o.ro = false) (hold : m.w.heap[b]? = some ob) (hob : ob.other) (hob' : ob'.other)
  (hw : w'.heap = m.w.heap.setIfInBounds b ob') (hg : o'.gen = o.gen) (hk : kindL o'.cells = kindL o.cells) (hlen : o.cells.length ≤ o'.cells.length)
  (hrow : ∀ m' : M, Evo S m m' → m'.w.heap[b]? = some ob' → RowAt S m' o'.cells b 0)
  (hrest : w'.os = m.w.os ∧ w'.output = m.w.output := by exact ⟨rfl, rfl⟩) :
  ∃ m' : M, m'.w = w' ∧ m'.h = upd m.h id (some o') ∧ m'.at_ = m.at_ ∧ m'.iss = m.iss ∧ Rel S m' ∧ Evo S m m' := by
 have hS := (hR.obj id o b 0 ho ha).1
 have hlt := block_lt hold
 let m' : M := { at_ := m.at_, h := upd m.h id (some o'), iss := m.iss, w := w' }
 have hsame : w'.heap[b]? = some ob' := by rw [hw]; simp [hlt]
 have hother : ∀ k, k ≠ b → w'.heap[k]? = m.w.heap[k]? := fun k hk => by rw [hw, Array.getElem?_setIfInBounds]; rw [if_neg (fun h => hk h.symm)]
 have hsize : w'.heap.size = m.w.heap.size := by rw [hw]; simp
 have hav : m.av S b := .inr ⟨id, o, 0, ho, hro, ha⟩
 have hav' : ∀ k, m'.av S k → m.av S k := by
  rintro k (h | ⟨i, q, x, h1, h2, h3⟩)
  ·exact .inl h
  ·by_cases hi : i = id
   ·subst hi
    have h4 : m.at_ i = some (k, x) := h3
    rw [ha] at h4
    simp only [Option.some.injEq, Prod.mk.injEq] at h4
    exact h4.1 ▸ hav
   ·simp only [m', upd_ne _ _ hi] at h1 h3
    exact .inr ⟨i, q, x, h1, h2, h3⟩
 have e : Evo S m m' := {
  rest := ⟨hrest.1, hrest.2, fun a _ => by
   show w'.frozen? a = m.w.frozen? a
   by_cases hb2 : a.block = b
   ·rw [other_frozen (ob := ob') (by rw [hb2]; exact hsame) hob', other_frozen (ob := ob) (by rw [hb2]; exact hold) hob]
   ·simp [World.frozen?, hother _ hb2]⟩
  iss := fun i g h => h
  size := by show m.w.heap.size ≤ w'.heap.size; omega
  shape := fun k ks T1 f1 hk => by
   by_cases hkb : k = b
   ·subst hkb
    rw [hold] at hk
    injection hk with hk
    subst hk
    exact absurd hob (by simp [Obj.other])
   ·exact ⟨ks, f1, by show w'.heap[k]? = _; rw [hother k hkb]; exact hk, rfl⟩
  keepS := fun k _ hs => hother k (fun h => hS (h ▸ hs))
  keep := fun k _ hn => ⟨fun h => hn (hav' k h), hother k (fun h => hn (h ▸ hav))⟩
  live := fun i q hq hi => by
   by_cases hid : i = id
   ·subst hid
    simp only [m', upd_same, Option.some.injEq] at hq
    subst hq
    exact ⟨o, ho, hg.symm, rfl, hlen, hk⟩
   ·simp only [m', upd_ne _ _ hid] at hq ⊢
    exact ⟨q, hq, rfl, trivial, Nat.le_refl _, rfl⟩
  old := fun i q k x h1 h2 hk => by
   by_cases hid : i = id
   ·subst hid; exact ⟨o, x, ho, h2⟩
   ·simp only [m', upd_ne _ _ hid] at h1 h2
    exact ⟨q, x, h1, h2⟩ }
 refine ⟨m', rfl, rfl, rfl, rfl, ⟨fun g => (hR.glob g).mono e, ?_, ?_, ?_, ?_, ?_⟩, e⟩
 ·intro i q hq
  by_cases hid : i = id
  ·subst hid
   simp only [m', upd_same, Option.some.injEq] at hq
   subst hq
   exact hg ▸ hR.iss i o ho
  ·simp only [m', upd_ne _ _ hid] at hq
   exact hR.iss i q hq
 ·intro i q hq hn
  by_cases hid : i = id
  ·subst hid
   have h4 : m.at_ i = none := hn
   rw [ha] at h4; cases h4
  ·simp only [m', upd_ne _ _ hid] at hq hn
   exact hR.none_ i q hq hn
 ·intro i q k x hq hk2
  by_cases hid : i = id
  ·subst hid
   have h4 : m.at_ i = some (k, x) := hk2
   rw [ha] at h4
   simp only [Option.some.injEq, Prod.mk.injEq] at h4
   obtain ⟨rfl, rfl⟩ := h4
   simp only [m', upd_same, Option.some.injEq] at hq
   subst hq
   exact ⟨hS, hrow m' e hsame⟩
  ·simp only [m', upd_ne _ _ hid] at hq hk2
   refine hR.other e hq hk2 (hother k fun h => hid ?_)
   subst h
   exact hR.inj i id q o k x 0 hq ho hk2 ha
 ·intro i j oi oj k x y hi hj hx hy
  have look : ∀ {i oi}, m'.h i = some oi → ∃ o2, m.h i = some o2 := fun {i oi} h => by
   by_cases hid : i = id
   ·subst hid; exact ⟨o, ho⟩
   ·simp only [m', upd_ne _ _ hid] at h; exact ⟨oi, h⟩
  obtain ⟨o2, h2⟩ := look hi
  obtain ⟨o3, h3⟩ := look hj
  exact hR.inj i j o2 o3 k x y h2 h3 hx hy
 ·intro k hk
  have := hR.sub k hk
  show k < w'.heap.size
  omega

/-- Memory that has grown, and is otherwise as it was. -/
theorem Rel.grown [Gl] {S : Nat → Prop} {m : M} (hR : Rel S m) {w' : World} (hsz : m.w.heap.size ≤ w'.heap.size) (hrow : ∀ b, b < m.w.heap.size → w'.heap[b]? = m.w.heap[b]?) (hrest : w'.os = m.w.os ∧ w'.output = m.w.output ∧ ∀ a, a.block < m.w.heap.size → w'.frozen? a = m.w.frozen? a) :
  Rel S { m with w := w' } ∧ Evo S m { m with w := w' } := by
 have e : Evo S m { m with w := w' } := {
  rest := hrest
  iss := fun _ _ h => h
  size := hsz
  shape := fun b cs T fz h => ⟨cs, fz, by rw [hrow b (block_lt h)]; exact h, rfl⟩
  keepS := fun b h _ => hrow b h
  keep := fun b h hn => ⟨hn, hrow b h⟩
  live := fun id o h _ => ⟨o, h, rfl, rfl, Nat.le_refl _, rfl⟩
  old := fun id o b x h1 h2 _ => ⟨o, x, h1, h2⟩ }
 refine ⟨⟨fun g => (hR.glob g).mono e, hR.iss, hR.none_, fun id o b base ho ha => ?_, hR.inj, fun b hb => Nat.lt_of_lt_of_le (hR.sub b hb) hsz⟩, e⟩
 obtain ⟨ob0, hr⟩ := (hR.obj id o b base ho ha).2.some
 exact hR.other e ho ha (hrow b (block_lt hr))

end Go.Ac
end

section
namespace Go.Ac
variable {P : Program} {S : Nat → Prop} {m : M}

/-! ### Types -/

theorem mkTI_spec {t : TypeId} {i : TI} (h : mkTI P t = some i) : ∃ inf d, P.info? t = some inf ∧ P.underlying t = some d ∧ mkTK P d = some i.k ∧ i.size = inf.size ∧ i.bytes = inf.bytes ∧
  i.zero = inf.zero.map (fun v => v.cells.toList.map constV1) := by
 unfold mkTI at h
 cases hi : P.info? t with
 | none => simp [hi] at h
 | some inf =>
  cases hu : P.underlying t with
  | none => simp [hi, hu] at h
  | some d =>
   simp only [hi, hu, Option.map_eq_some_iff] at h
   obtain ⟨k, hk, rfl⟩ := h
   exact ⟨inf, d, rfl, rfl, hk, rfl, rfl, rfl⟩

theorem mkTK_slice {d : TypeDesc} {e sz by_ : Nat} (h : mkTK P d = some (.slice e sz by_)) : d = .slice e ∧ ∃ j, P.info? e = some j ∧ j.size = sz ∧ (1 ≤ by_ → j.bytes = by_ ∧ ∃ z, j.zero = some z ∧ z.cells.size = sz) := by
 cases d <;> simp only [mkTK] at h <;> try (simp at h; done)
 case slice e' =>
  simp only [Option.map_eq_some_iff] at h
  obtain ⟨j, hj, hk⟩ := h
  injection hk with h1 h2 h3
  subst h1; subst h2
  refine ⟨rfl, j, hj, rfl, fun hb => ?_⟩
  cases hz : j.zero with
  | none => simp [hz] at h3; omega
  | some z =>
   simp only [hz] at h3
   split at h3
   ·rename_i hs; exact ⟨h3, z, rfl, hs⟩
   ·omega
 case array n e' =>
  split at h <;> simp at h

theorem mkTK_str {d : TypeDesc} (h : mkTK P d = some .str) : d = .string := by
 cases d <;> simp only [mkTK] at h <;> try (simp at h; done)
 case string => rfl
 case array n e' => split at h <;> simp at h

theorem mkTK_bool {d : TypeDesc} (h : mkTK P d = some .bool) : d = .bool := by
 cases d <;> simp only [mkTK] at h <;> try (simp at h; done)
 case bool => rfl
 case array n e' => split at h <;> simp at h

theorem mkTK_int {d : TypeDesc} {k : IntKind} (h : mkTK P d = some (.int k)) : d = .int k := by
 cases d <;> simp only [mkTK] at h <;> try (simp at h; done)
 case int k' => simp at h; rw [h]
 case array n e' => split at h <;> simp at h

theorem mkTK_ptr {d : TypeDesc} (h : mkTK P d = some .ptr) : ∃ e, d = .pointer e := by
 unfold mkTK at h
 split at h <;> first
  | (simp at h; done)
  | exact ⟨_, rfl⟩
  | (split at h <;> simp at h; done)

theorem mkTK_map {d : TypeDesc} {k e : Nat} (h : mkTK P d = some (.map k e)) : d = .map k e := by
 unfold mkTK at h
 split at h <;> first
  | (simp at h; done)
  | (simp at h; obtain ⟨rfl, rfl⟩ := h; rfl)
  | (split at h <;> simp at h; done)

theorem mkTK_iface {d : TypeDesc} (h : mkTK P d = some .iface) : ∃ ms, d = .interface ms := by
 cases d <;> simp only [mkTK] at h <;> try (simp at h; done)
 all_goals first
  | exact ⟨_, rfl⟩
  | (simp only [Option.map_eq_some_iff] at h; obtain ⟨_, _, h⟩ := h; cases h)
  | (split at h <;> simp at h)
theorem mkTK_struct {d : TypeDesc} {l : List (Nat × Nat × Bool)} (h : mkTK P d = some (.struct l)) : ∃ fs, d = .struct fs ∧ mkFields P fs.toList = some l := by
 cases d <;> simp only [mkTK] at h <;> try (simp at h; done)
 case struct fs =>
  simp only [Option.map_eq_some_iff] at h
  obtain ⟨j, hj, hk⟩ := h
  injection hk with h1
  subst h1
  exact ⟨fs, rfl, hj⟩
 case array n e' => split at h <;> simp at h

theorem mkTK_array {d : TypeDesc} {n e sz : Nat} {ag : Bool} (h : mkTK P d = some (.array n e sz ag)) : d = .array n e ∧ ∃ j u, P.info? e = some j ∧ P.underlying e = some u ∧ j.size = sz ∧ aggT P e = ag := by
 cases d <;> simp only [mkTK] at h <;> try (simp at h; done)
 case array n' e' =>
  split at h
  ·rename_i j u hj hu
   simp at h
   obtain ⟨rfl, rfl, h1, h2⟩ := h
   exact ⟨rfl, j, u, hj, hu, h1, h2⟩
  ·simp at h

theorem mkFields_get : ∀ {fs : List Field} {l : List (Nat × Nat × Bool)}, mkFields P fs = some l → ∀ {f : Nat} {off size : Nat} {ag : Bool}, l[f]? = some (off, size, ag) →
  ∃ fd j u, fs[f]? = some fd ∧ P.info? fd.type = some j ∧ P.underlying fd.type = some u ∧ fd.offset = off ∧ j.size = size ∧ aggT P fd.type = ag
 | [], l, h, f, off, size, ag, hl => by simp [mkFields] at h; subst h; simp at hl
 | fd :: fs, l, h, f, off, size, ag, hl => by
  simp only [mkFields] at h
  split at h
  ·rename_i j u l' hj hu hl'
   simp at h
   subst h
   cases f with
   | zero => simp at hl; obtain ⟨h1, h2, h3⟩ := hl; exact ⟨fd, j, u, rfl, hj, hu, h1, h2, h3⟩
   | succ f => simp at hl; obtain ⟨fd', j', u', h1, h2⟩ := mkFields_get hl' hl; exact ⟨fd', j', u', by simpa using h1, h2⟩
  ·simp at h

theorem run_isAgg {t : TypeId} {d : TypeDesc} (h : P.underlying t = some d) (w : World) : (isAgg t).run P w = .ok (aggT P t) w := by
 unfold isAgg aggT
 simp only [Sem.run_bind, run_underlying h, Result.andThen_ok, h]
 cases d <;> rfl

theorem agg_eq {t : TypeId} {i : TI} (h : mkTI P t = some i) : i.agg = aggT P t := by
 obtain ⟨inf, d, h1, h2, h3, _⟩ := mkTI_spec h
 unfold TI.agg aggT
 rw [h2]
 cases d <;> simp only [mkTK] at h3 <;> try (simp at h3; rw [← h3]; done)
 case slice e => simp only [Option.map_eq_some_iff] at h3; obtain ⟨j, _, h4⟩ := h3; rw [← h4]
 case struct fs => simp only [Option.map_eq_some_iff] at h3; obtain ⟨j, _, h4⟩ := h3; rw [← h4]
 case array n e => split at h3 <;> simp at h3; rw [← h3]

theorem run_sizeOf' {t : TypeId} {inf : TypeInfo} (h : P.info? t = some inf) (w : World) : (sizeOf t).run P w = .ok inf.size w := by
 simp [sizeOf, typeInfo, h]

/-! ### Constants -/

theorem constV1_RV (v : Value) : RV S m (constV1 v) v := by
 unfold constV1
 split
 ·exact .d (.bool _)
 ·exact .d (.int _ _)
 ·exact .d (.str _ _ rfl)
 ·exact .full (rows := []) (.empty none 0 (Nat.zero_le _))
 ·exact .con _

theorem constVs_RVs (vs : List Value) : RVs S m (vs.map constV1) vs := by
 refine ⟨by simp, fun j v x hv hx => ?_⟩
 rw [List.getElem?_map, hx] at hv
 simp at hv; subst hv
 exact constV1_RV x

theorem constV_RV (v : Value) : RV S m (constV v) v := by
 unfold constV
 split
 ·rename_i cs
  exact .agg (by simp) fun j x y hx hy => (constVs_RVs cs.toList).2 j x y hx (by simpa using hy)
 ·exact constV1_RV v

theorem RVs.agg {cs : List V} {xs : List Value} (h : RVs S m cs xs) : RV S m (.agg cs) (.agg xs.toArray) :=
 .agg (by simp [h.1]) fun j x y hx hy => h.2 j x y hx (by simpa using hy)

theorem RV.agg_vals {cs : List V} {v : Value} (h : RV S m (.agg cs) v) : ∃ xs : List Value, v = .agg xs.toArray ∧ RVs S m cs xs := by
 cases h with
 | agg hl h => rename_i vs; exact ⟨vs.toList, by simp, by simp [hl], fun j x y hx hy => h j x y hx (by simpa using hy)⟩

theorem RV.tuple_vals {cs : List V} {v : Value} (h : RV S m (.tuple cs) v) : ∃ xs : List Value, v = .tuple xs.toArray ∧ RVs S m cs xs := by
 cases h with
 | tuple hl h => rename_i vs; exact ⟨vs.toList, by simp, by simp [hl], fun j x y hx hy => h j x y hx (by simpa using hy)⟩

/-- The cells of a value that may be stored. -/
theorem cellsV_spec {x : V} {xs : List V} {v : Value} (h : cellsV x = some xs) (hv : RV S m x v) : ∃ ys : List Value, v.cells = ys.toArray ∧ RVs S m xs ys ∧ xs.all V.one = true := by
 have vc : ∀ v : Value, v.oneCell' = true → v.cells = #[v] := by intro v hv; cases v <;> first | rfl | simp [Value.oneCell'] at hv
 cases x
 case agg cs =>
  simp only [cellsV] at h
  split at h
  ·rename_i hall
   simp at h; subst h
   obtain ⟨ys, rfl, hys⟩ := hv.agg_vals
   exact ⟨ys, rfl, hys, hall⟩
  ·simp at h
 all_goals
  simp only [cellsV] at h
  split at h
  ·rename_i h1
   simp only [Option.some.injEq] at h; subst h
   exact ⟨[v], by simp [vc v (hv.one h1)], .cons hv .nil, by simp only [List.all_cons, List.all_nil, Bool.and_true]; exact h1⟩
  ·simp at h

/-! ### Loading -/

theorem readV_spec {i : TI} {cs : List V} {v : V} {xs : List Value} {b o : Nat} {t : TypeId} {w : World} (hi : mkTI P t = some i) (h : readV i cs = some v) (hv : RVs S m cs xs)
  (hc : ∀ (j : Nat) (x : Value), xs[j]? = some x → w.cell? ⟨b, o + j, none⟩ = some x) :
  ∃ x, (loadVar t ⟨b, o, none⟩).run P w = .ok x w ∧ RV S m v x := by
 obtain ⟨inf, d, h1, h2, h3, h4, _⟩ := mkTI_spec hi
 have ha := agg_eq hi
 unfold readV at h
 cases hag : i.agg with
 | true =>
  simp only [hag] at h
  split at h
  ·rename_i hb
   have hlen := Nat.eq_of_beq_eq_true hb
   simp at h; subst h
   have hl : (xs.take i.size).length = inf.size := by
    have := (hv.take i.size).1
    omega
   refine ⟨.agg (xs.take i.size).toArray, ?_, (hv.take i.size).agg⟩
   have hld := run_loadCells_list (P := P) w ⟨b, o, none⟩ (xs.take i.size) (fun j x hx => by
    rw [addr_add]
    rw [List.getElem?_take] at hx
    split at hx
    ·exact hc j x hx
    ·simp at hx)
   rw [hl] at hld
   simp [loadVar, run_isAgg h2, ← ha, hag, run_sizeOf' h1, hld]
  ·simp at h
 | false =>
  simp only [hag] at h
  cases cs with
  | nil => simp at h
  | cons c cs =>
   simp at h; subst h
   obtain ⟨x, ys, rfl, hx, _⟩ := hv.cases
   refine ⟨x, ?_, hx⟩
   have h0 := hc 0 x rfl
   simp only [Nat.add_zero] at h0
   simp [loadVar, run_isAgg h2, ← ha, hag, h0]

theorem loadV_sound [Gl] {look : Look} {i : TI} {t : TypeId} {p : V} {v : Value} {r : Res} {c : Nat} (hi : mkTI P t = some i) (h : loadV look i p = some r) (hl : look = m.h) (hR : Rel S m) (hv : RV S m p v) :
  ∃ x, (Instr.loadAt t v).run P m.w = .ok x m.w ∧ After S m c r x m := by
 unfold loadV at h
 split at h
 ·rename_i id g off
  cases hlv : live look id g with
  | none => simp [hlv] at h
  | some o =>
   simp only [hlv, Option.bind_eq_some_iff] at h
   obtain ⟨y, hy, hr⟩ := h
   simp [retR] at hr; subst hr
   obtain ⟨ho, _, b, base, hat, rfl⟩ := hv.ptr_live (hl ▸ hlv)
   obtain ⟨xs, hxs, _, hc⟩ := hR.vals ho hat (hv.ptr_kind (hl ▸ hlv))
   obtain ⟨x, hx1, hx2⟩ := readV_spec (w := m.w) (b := b) (o := base + off) hi hy (hxs.drop off) (fun j x hx => by
    rw [List.getElem?_drop] at hx
    have := hc _ x hx
    rwa [← Nat.add_assoc] at this)
   refine ⟨x, ?_, After.quiet hR hx2⟩
   simp [Instr.loadAt, Instr.sureAddr, hx1]
 ·rename_i ds
  simp only [Option.bind_eq_some_iff] at h
  obtain ⟨y, hy, hr⟩ := h
  simp [ret] at hr; subst hr
  cases hv with
  | vref f hf hr =>
   rename_i b off
   obtain ⟨x, hx1, hx2⟩ := readV_spec (S := S) (m := m) (w := m.w) (b := b) (o := off) (xs := (List.range ds.length).map f) hi hy
    (RVs.map_d (by simp) (fun j d x hd hx => by
     have hj : j < ds.length := (List.getElem?_eq_some_iff.1 hd).1
     simp [hj] at hx
     subst hx
     exact hr j d hd))
    (fun j x hx => by
     have hj : j < ds.length := by
      have := (List.getElem?_eq_some_iff.1 hx).1
      simpa using this
     simp [hj] at hx
     subst hx
     exact (hf j ds[j] (by simp [hj])).2)
   refine ⟨x, ?_, After.quiet hR hx2⟩
   simp [Instr.loadAt, Instr.sureAddr, hx1]
 ·simp at h

/-! ### Storing -/

def splice (cs : Array Value) (o : Nat) (xs : List Value) : Array Value := (cs.toList.take o ++ xs ++ cs.toList.drop (o + xs.length)).toArray

theorem splice_size {cs : Array Value} {o : Nat} {xs : List Value} (h : o + xs.length ≤ cs.size) : (splice cs o xs).size = cs.size := by
 simp [splice]; omega

theorem splice_get {cs : Array Value} {o : Nat} {xs : List Value} (h : o + xs.length ≤ cs.size) (j : Nat) :
  (splice cs o xs)[j]? = if j < o then cs[j]? else if j < o + xs.length then xs[j - o]? else cs[j]? := by
 simp only [splice, List.getElem?_toArray, List.append_assoc]
 rw [List.getElem?_append]
 have hl : (List.take o cs.toList).length = o := by simp; omega
 rw [hl]
 split
 ·simp [*]
 ·rw [List.getElem?_append]
  split
  ·rename_i h1 h2; rw [if_pos (by omega)]
  ·rename_i h1 h2
   rw [if_neg (by omega), List.getElem?_drop]
   rw [show o + xs.length + (j - o - xs.length) = j by omega]; simp

theorem run_storeCells_mid (b o : Nat) (T : TypeId) (fz : Nat × Nat) (hfz : fz.2 ≤ fz.1) : ∀ (xs : List Value) (i : Nat) (cs : Array Value) (w : World), w.heap[b]? = some (Obj.cells cs T fz) → o + i + xs.length ≤ cs.size →
  (∀ v ∈ xs, v.oneCell' = true) → (storeCells ⟨b, o, none⟩ xs i).run P w = .ok () (w.setRow b (splice cs (o + i) xs))
 | [], i, cs, w, hg, hl, _ => by
  have : splice cs (o + i) [] = cs := by simp [splice]
  rw [this]
  have hlt : b < w.heap.size := (Array.getElem?_eq_some_iff.1 hg).1
  have hv : w.heap[b] = .cells cs T fz := (Array.getElem?_eq_some_iff.1 hg).2
  simp only [storeCells]
  show Result.ok () w = _
  congr 1
  unfold World.setRow
  cases w with
  | mk heap tape drawn os output =>
   congr 1
   apply Array.ext
   ·simp
   ·intro k h1 h2
    simp only [Array.getElem_modify]
    split
    ·rename_i hk; subst hk; simp at hv; simp [hv]
    ·rfl
 | v :: rest, i, cs, w, hg, hl, h1 => by
  have hi : o + i < cs.size := by simp at hl; omega
  have hcell : w.cell? ⟨b, o + i, none⟩ = some cs[o + i] := by simp [World.cell?, hg, hi]
  have hfro : w.frozen? ⟨b, o + i, none⟩ = false := by simp [World.frozen?, hg]; omega
  have hst : (store ((⟨b, o, none⟩ : Addr).add i) v).run P w = .ok () (w.setRow b (cs.setIfInBounds (o + i) v)) := by
   rw [addr_add, run_store P w _ v _ (h1 v (by simp)), hcell]
   simp [hfro, setCell_eq_setRow w b (o + i) cs T fz v hg]
  have ih := run_storeCells_mid b o T fz hfz rest (i + 1) (cs.setIfInBounds (o + i) v) (w.setRow b (cs.setIfInBounds (o + i) v)) (setRow_heap w b cs _ T fz hg) (by simp at hl ⊢; omega) (fun x hx => h1 x (by simp [hx]))
  simp only [storeCells, Sem.run_bind, hst, Result.andThen_ok, ih, setRow_setRow]
  congr 2
  apply Array.ext_getElem?
  intro k
  have e1 : o + (i + 1) + rest.length ≤ (cs.setIfInBounds (o + i) v).size := by simp at hl ⊢; omega
  have e2 : o + i + (v :: rest).length ≤ cs.size := hl
  rw [splice_get e1, splice_get e2]
  simp only [List.length_cons, Array.getElem?_setIfInBounds]
  by_cases hk : k < o + i
  ·simp [hk, show k < o + (i + 1) by omega, show ¬ (o + i = k) by omega]
  ·by_cases hk2 : k = o + i
   ·subst hk2
    simp [hi, show ¬ (o + i < o + i) by omega, show o + i < o + (i + 1) by omega]
   ·simp only [hk, if_false, show ¬ (k < o + (i + 1)) by omega, show ¬ (o + i = k) by omega]
    by_cases hk3 : k < o + i + (rest.length + 1)
    ·rw [if_pos (by omega), if_pos hk3, show k - (o + i) = (k - (o + (i + 1))) + 1 by omega]; simp
    ·rw [if_neg (by omega), if_neg hk3]

end Go.Ac
end
