/- The abstract machine: how memory is read and changed. No conditions. -/
import Derived.Test.YtofbmhmdpeclnaaAbB
import Derived.Laws.Tables
namespace Go.Ab

def upd {α : Type} (f : Nat → α) (k : Nat) (v : α) : Nat → α := fun i => if i = k then v else f i
@[simp] theorem upd_same {α : Type} (f : Nat → α) (k : Nat) (v : α) : upd f k v k = v := by simp [upd]
theorem upd_ne {α : Type} (f : Nat → α) {k j : Nat} (v : α) (h : j ≠ k) : upd f k v j = f j := by simp [upd, h]

def hupd (h : Nat → Option Ob) : List (Nat × Ob) → Nat → Option Ob
  | [] => h
  | (k, o) :: r => hupd (upd h k (some o)) r

theorem beq_ff {a b : Nat} (h : a ≠ b) : Nat.beq a b = false := by
  cases hb : Nat.beq a b with
  | false => rfl
  | true => exact absurd (Nat.eq_of_beq_eq_true hb) h

theorem hp_get_set (h : Hp) (k : Nat) (o : Ob) : (Hp.set h k o).get = upd h.get k (some o) := by
  funext i
  induction h with
  | nil =>
    simp only [Hp.set, Hp.get, upd]
    by_cases hi : i = k
    · subst hi; simp
    · have : Nat.beq k i = false := beq_ff (Ne.symm hi)
      simp [this, hi]
  | cons p r ih =>
    obtain ⟨j, q⟩ := p
    simp only [Hp.set]
    cases hjk : Nat.beq j k with
    | true =>
      have hjk' : j = k := Nat.eq_of_beq_eq_true hjk
      subst hjk'
      simp only [Hp.get, upd]
      by_cases hi : i = j
      · subst hi; simp
      · have : Nat.beq j i = false := beq_ff (Ne.symm hi)
        simp [this, hi]
    | false =>
      simp only [Hp.get]
      rw [ih]
      have hjk' : j ≠ k := fun h => by subst h; simp at hjk
      cases hji : Nat.beq j i with
      | true =>
        have hji' : j = i := Nat.eq_of_beq_eq_true hji
        subst hji'
        simp [upd, hjk']
      | false => simp [upd, hji]

theorem hp_get_sets (wr : List (Nat × Ob)) : ∀ h : Hp, (Hp.sets h wr).get = hupd h.get wr := by
  induction wr with
  | nil => intro h; rfl
  | cons p r ih => intro h; obtain ⟨k, o⟩ := p; simp only [Hp.sets, hupd]; rw [ih, hp_get_set]

/-! ### Lists of values -/

def RVs (S : Nat → Prop) (m : M) (vs : List V) (xs : List Value) : Prop :=
  vs.length = xs.length ∧ ∀ (j : Nat) (v : V) (x : Value), vs[j]? = some v → xs[j]? = some x → RV S m v x

theorem RVs.nil {S : Nat → Prop} {m : M} : RVs S m [] [] := ⟨rfl, fun _ _ _ h => by simp at h⟩
theorem RVs.cons {S : Nat → Prop} {m : M} {v : V} {x : Value} {vs : List V} {xs : List Value} (h : RV S m v x) (hs : RVs S m vs xs) : RVs S m (v :: vs) (x :: xs) := by
  refine ⟨by simp [hs.1], fun j a b ha hb => ?_⟩
  cases j with
  | zero => simp at ha hb; subst ha; subst hb; exact h
  | succ j => simp at ha hb; exact hs.2 j a b ha hb
theorem RVs.head {S : Nat → Prop} {m : M} {v : V} {x : Value} {vs : List V} {xs : List Value} (h : RVs S m (v :: vs) (x :: xs)) : RV S m v x := h.2 0 v x rfl rfl
theorem RVs.tail {S : Nat → Prop} {m : M} {v : V} {x : Value} {vs : List V} {xs : List Value} (h : RVs S m (v :: vs) (x :: xs)) : RVs S m vs xs :=
  ⟨by have := h.1; simpa using this, fun j a b ha hb => h.2 (j + 1) a b (by simpa using ha) (by simpa using hb)⟩
theorem RVs.cases {S : Nat → Prop} {m : M} {v : V} {vs : List V} {ys : List Value} (h : RVs S m (v :: vs) ys) : ∃ x xs, ys = x :: xs ∧ RV S m v x ∧ RVs S m vs xs := by
  cases ys with
  | nil => have := h.1; simp at this
  | cons x xs => exact ⟨x, xs, rfl, h.head, h.tail⟩
theorem RVs.take {S : Nat → Prop} {m : M} {vs : List V} {xs : List Value} (h : RVs S m vs xs) (n : Nat) : RVs S m (vs.take n) (xs.take n) := by
  refine ⟨by simp [h.1], fun j a b ha hb => ?_⟩
  rw [List.getElem?_take] at ha hb
  by_cases hj : j < n
  · simp [hj] at ha hb; exact h.2 j a b ha hb
  · simp [hj] at ha
theorem RVs.drop {S : Nat → Prop} {m : M} {vs : List V} {xs : List Value} (h : RVs S m vs xs) (n : Nat) : RVs S m (vs.drop n) (xs.drop n) := by
  refine ⟨by simp [h.1], fun j a b ha hb => ?_⟩
  rw [List.getElem?_drop] at ha hb
  exact h.2 _ a b ha hb
theorem RVs.append {S : Nat → Prop} {m : M} {vs us : List V} {xs ys : List Value} (h : RVs S m vs xs) (k : RVs S m us ys) : RVs S m (vs ++ us) (xs ++ ys) := by
  refine ⟨by simp [h.1, k.1], fun j a b ha hb => ?_⟩
  rw [List.getElem?_append] at ha hb
  by_cases hj : j < vs.length
  · rw [if_pos hj] at ha; rw [if_pos (h.1 ▸ hj)] at hb; exact h.2 j a b ha hb
  · rw [if_neg hj] at ha; rw [if_neg (h.1 ▸ hj)] at hb; rw [h.1] at ha; exact k.2 _ a b ha hb
theorem RVs.mono {S : Nat → Prop} {m m' : M} {vs : List V} {xs : List Value} (h : RVs S m vs xs) (e : Evo S m m') : RVs S m' vs xs :=
  ⟨h.1, fun j a b ha hb => (h.2 j a b ha hb).mono e⟩
theorem RVs.get {S : Nat → Prop} {m : M} {vs : List V} {xs : List Value} (h : RVs S m vs xs) {j : Nat} {v : V} (hv : vs[j]? = some v) : ∃ x, xs[j]? = some x ∧ RV S m v x := by
  have hj : j < xs.length := by
    rw [← h.1]; exact (List.getElem?_eq_some_iff.1 hv).1
  exact ⟨xs[j], by simp [hj], h.2 j v _ hv (by simp [hj])⟩
theorem RVs.map_d {S : Nat → Prop} {m : M} {ds : List D} {xs : List Value} (hl : ds.length = xs.length)
    (h : ∀ (j : Nat) (d : D) (x : Value), ds[j]? = some d → xs[j]? = some x → RD m.w (m.av S) d x) : RVs S m (ds.map .d) xs := by
  refine ⟨by simp [hl], fun j v x hv hx => ?_⟩
  rw [List.getElem?_map] at hv
  cases hd : ds[j]? with
  | none => simp [hd] at hv
  | some d => simp [hd] at hv; subst hv; exact .d (h j d x hd hx)
theorem RVs.ones {S : Nat → Prop} {m : M} {vs : List V} {xs : List Value} (h : RVs S m vs xs) (ho : vs.all V.one = true) : ∀ x ∈ xs, x.oneCell' = true := by
  intro x hx
  obtain ⟨j, hj⟩ := List.mem_iff_getElem?.1 hx
  have hlt : j < vs.length := by rw [h.1]; exact (List.getElem?_eq_some_iff.1 hj).1
  have hv : vs[j]? = some vs[j] := by simp [hlt]
  exact (h.2 j _ x hv hj).one (List.all_eq_true.1 ho _ (List.getElem_mem hlt))

/-! ### Reading an object -/

theorem addr_add (b o n : Nat) : (⟨b, o, none⟩ : Addr).add n = ⟨b, o + n, none⟩ := by
  unfold Addr.add; split
  · rename_i h; subst h; simp
  · rfl

theorem cell_of_row {w : World} {b : Nat} {cs : Array Value} {T : TypeId} {fz : Nat × Nat} (h : w.heap[b]? = some (Obj.cells cs T fz)) (j : Nat) :
    w.cell? ⟨b, j, none⟩ = cs[j]? := by simp [World.cell?, h]

/-- The cells of an object, in memory. -/
theorem Rel.vals {S : Nat → Prop} {m : M} (hR : Rel S m) {id : Nat} {o : Ob} {b base : Nat} (ho : m.h id = some o) (ha : m.at_ id = some (b, base)) :
    ∃ xs, RVs S m o.cells xs ∧ o.cells.all V.one = true ∧ ∀ (j : Nat) (x : Value), xs[j]? = some x → m.w.cell? ⟨b, base + j, none⟩ = some x := by
  obtain ⟨_, cs, T, fz, hrow, _, hsz, hc⟩ := hR.obj id o b base ho ha
  refine ⟨(cs.toList.drop base).take o.cells.length, ⟨?_, fun j v x hv hx => ?_⟩, ?_, fun j x hx => ?_⟩
  · simp; omega
  · obtain ⟨_, y, hy, hRV⟩ := hc j v hv
    rw [List.getElem?_take] at hx
    split at hx
    · rw [List.getElem?_drop] at hx; simp [hy] at hx; subst hx; exact hRV
    · simp at hx
  · rw [List.all_eq_true]
    intro v hv
    obtain ⟨j, hj⟩ := List.mem_iff_getElem?.1 hv
    exact (hc j v hj).1
  · rw [List.getElem?_take] at hx
    split at hx
    · rw [List.getElem?_drop] at hx; rw [cell_of_row hrow]; simpa using hx
    · simp at hx

theorem live_spec {look : Look} {id g : Nat} {o : Ob} (h : live look id g = some o) : look id = some o ∧ o.gen = g := by
  unfold live at h
  cases hl : look id with
  | none => simp [hl] at h
  | some p =>
    simp only [hl] at h
    cases hb : Nat.beq p.gen g with
    | false => simp [hb] at h
    | true => simp [hb] at h; subst h; exact ⟨rfl, Nat.eq_of_beq_eq_true hb⟩

/-- A live pointer. -/
theorem RV.ptr_live {S : Nat → Prop} {m : M} {id g off : Nat} {v : Value} {o : Ob} (h : RV S m (.ptr id g off) v) (hl : live m.h id g = some o) :
    m.h id = some o ∧ o.gen = g ∧ ∃ b base, m.at_ id = some (b, base) ∧ v = .pointer (some ⟨b, base + off, none⟩) := by
  obtain ⟨h1, h2⟩ := live_spec hl
  cases h with
  | ptr _ _ h => exact ⟨h1, h2, h o h1 h2⟩

theorem RV.osl_live {S : Nat → Prop} {m : M} {id g off len sz : Nat} {cap : Option Nat} {v : Value} {o : Ob} (h : RV S m (.osl id g off len sz cap) v) (hl : live m.h id g = some o) :
    m.h id = some o ∧ o.gen = g ∧ OslOK m o id off len sz cap v := by
  obtain ⟨h1, h2⟩ := live_spec hl
  cases h with
  | osl _ _ h => exact ⟨h1, h2, h o h1 h2⟩

/-! ### Changing memory -/

/-- What an operation has done: the value, and memory behind it. -/
def After (S : Nat → Prop) (m : M) (c : Nat) (r : Res) (x : Value) (m' : M) : Prop :=
  Rel S m' ∧ Evo S m m' ∧ RV S m' r.v x ∧ m'.h = hupd m.h r.wr ∧ m'.iss = (fun id g => m.iss id g ∨ (c ≤ g ∧ g < c + r.dc))

/-- The names and marks that are given out are new. -/
def Fresh (m : M) (c dc : Nat) : Prop := ∀ id g, c ≤ g → g < c + dc → ¬ m.iss id g

theorem iss_zero (m : M) (c : Nat) : (fun id g => m.iss id g ∨ (c ≤ g ∧ g < c + 0)) = m.iss := by
  funext id g; apply propext; constructor
  · rintro (h | h)
    · exact h
    · omega
  · exact .inl

theorem After.quiet {S : Nat → Prop} {m : M} {c : Nat} {v : V} {rd : List Nat} {x : Value} {al : Bool} (hR : Rel S m) (hv : RV S m v x) : After S m c ⟨v, [], rd, 0, 0, al⟩ x m :=
  ⟨hR, .refl S m, hv, rfl, (iss_zero m c).symm⟩

/-- Objects that are not touched stay as they are. -/
theorem Rel.other {S : Nat → Prop} {m m' : M} (hR : Rel S m) (e : Evo S m m') {id : Nat} {o : Ob} {b base : Nat} (ho : m.h id = some o) (ha : m.at_ id = some (b, base))
    (hrow : m'.w.heap[b]? = m.w.heap[b]?) :
    ¬ S b ∧ ∃ (cs : Array Value) (T : TypeId) (fz : Nat × Nat), m'.w.heap[b]? = some (Obj.cells cs T fz) ∧ fz.2 ≤ fz.1 ∧
      base + o.cells.length ≤ cs.size ∧ ∀ (j : Nat) (v : V), o.cells[j]? = some v → v.one = true ∧ ∃ x, cs[base + j]? = some x ∧ RV S m' v x := by
  obtain ⟨h1, cs, T, fz, h2, h3, h4, h5⟩ := hR.obj id o b base ho ha
  refine ⟨h1, cs, T, fz, by rw [hrow]; exact h2, h3, h4, fun j v hv => ?_⟩
  obtain ⟨h6, x, h7, h8⟩ := h5 j v hv
  exact ⟨h6, x, h7, h8.mono e⟩

theorem block_lt {w : World} {b : Nat} {o : Obj} (h : w.heap[b]? = some o) : b < w.heap.size := (Array.getElem?_eq_some_iff.1 h).1

/-- A write into an object: its row is replaced. -/
theorem write_obj {S : Nat → Prop} {m : M} (hR : Rel S m) {id : Nat} {o o' : Ob} {b base base' dc c : Nat} {cs cs' : Array Value} {T : TypeId} {fz : Nat × Nat} {w' : World}
    (ho : m.h id = some o) (ha : m.at_ id = some (b, base)) (hro : o.ro = false) (hrow : m.w.heap[b]? = some (Obj.cells cs T fz))
    (hw : w'.heap = (m.w.setRow b cs').heap) (hsz : cs'.size = cs.size) (hb : base' + o'.cells.length ≤ cs'.size)
    (hg : (o'.gen = o.gen ∧ base' = base ∧ o.cells.length ≤ o'.cells.length ∧ dc = 0) ∨ (¬ m.iss id o'.gen ∧ o'.gen = c ∧ dc = 1))
    (hc : ∀ (j : Nat) (v : V), o'.cells[j]? = some v → v.one = true ∧ ∃ x, cs'[base' + j]? = some x ∧ RV S m v x) (hrest : w'.os = m.w.os ∧ w'.output = m.w.output := by exact ⟨rfl, rfl⟩) :
    ∃ m' : M, m'.w = w' ∧ m'.h = upd m.h id (some o') ∧ m'.at_ = upd m.at_ id (some (b, base')) ∧ m'.iss = (fun i g => m.iss i g ∨ (c ≤ g ∧ g < c + dc)) ∧ Rel S m' ∧ Evo S m m' := by
  obtain ⟨hS, cs0, T0, fz0, hrow0, hfz, hsz0, hc0⟩ := hR.obj id o b base ho ha
  rw [hrow] at hrow0
  obtain ⟨rfl, rfl, rfl⟩ : cs = cs0 ∧ T = T0 ∧ fz = fz0 := by simpa using hrow0
  let m' : M := { at_ := upd m.at_ id (some (b, base')), h := upd m.h id (some o'), iss := fun i g => m.iss i g ∨ (c ≤ g ∧ g < c + dc), w := w' }
  have hsame : w'.heap[b]? = some (Obj.cells cs' T fz) := by rw [hw]; exact setRow_heap m.w b cs cs' T fz hrow
  have hother : ∀ k, k ≠ b → w'.heap[k]? = m.w.heap[k]? := fun k hk => by rw [hw]; exact setRow_other m.w b k cs' hk
  have hsize : w'.heap.size = m.w.heap.size := by rw [hw]; simp
  have hav : m.av S b := .inr ⟨id, o, base, ho, hro, ha⟩
  have hav' : ∀ k, m'.av S k → m.av S k := by
    rintro k (h | ⟨i, q, x, h1, h2, h3⟩)
    · exact .inl h
    · by_cases hi : i = id
      · subst hi
        simp only [m', upd_same, Option.some.injEq, Prod.mk.injEq] at h1 h3
        exact h3.1 ▸ hav
      · simp only [m', upd_ne _ _ hi] at h1 h3
        exact .inr ⟨i, q, x, h1, h2, h3⟩
  have e : Evo S m m' := {
    rest := ⟨hrest.1, hrest.2, fun a => by
      show w'.frozen? a = m.w.frozen? a
      by_cases hb2 : a.block = b
      · simp [World.frozen?, hb2, hsame, hrow]
      · simp [World.frozen?, hother _ hb2]⟩
    iss := fun i g h => .inl h
    size := by show m.w.heap.size ≤ w'.heap.size; omega
    shape := fun k ks T1 f1 hk => by
      by_cases hkb : k = b
      · subst hkb
        rw [hrow] at hk
        obtain ⟨rfl, rfl, rfl⟩ : cs = ks ∧ T = T1 ∧ fz = f1 := by injection hk with h; injection h with h1 h2 h3; exact ⟨h1, h2, h3⟩
        exact ⟨cs', fz, hsame, hsz⟩
      · exact ⟨ks, f1, by show w'.heap[k]? = _; rw [hother k hkb]; exact hk, rfl⟩
    keepS := fun k _ hs => hother k (fun h => hS (h ▸ hs))
    keep := fun k _ hn => ⟨fun h => hn (hav' k h), hother k (fun h => hn (h ▸ hav))⟩
    live := fun i q hq hi => by
      by_cases hid : i = id
      · subst hid
        simp only [m', upd_same, Option.some.injEq] at hq
        subst hq
        rcases hg with ⟨g1, g2, g3, _⟩ | ⟨g1, _⟩
        · exact ⟨o, ho, g1.symm, by simp [m', ha, g2], g3⟩
        · exact absurd hi g1
      · simp only [m', upd_ne _ _ hid] at hq ⊢
        exact ⟨q, hq, rfl, trivial, Nat.le_refl _⟩
    old := fun i q k x h1 h2 hk => by
      by_cases hid : i = id
      · subst hid
        simp only [m', upd_same, Option.some.injEq, Prod.mk.injEq] at h2
        exact ⟨o, base, ho, by rw [ha, h2.1]⟩
      · simp only [m', upd_ne _ _ hid] at h1 h2
        exact ⟨q, x, h1, h2⟩ }
  refine ⟨m', rfl, rfl, rfl, rfl, ⟨?_, ?_, ?_, ?_, ?_⟩, e⟩
  · intro i q hq
    by_cases hid : i = id
    · subst hid
      simp only [m', upd_same, Option.some.injEq] at hq
      subst hq
      rcases hg with ⟨g1, _⟩ | ⟨_, g2, g3⟩
      · exact .inl (g1 ▸ hR.iss i o ho)
      · exact .inr ⟨by omega, by omega⟩
    · simp only [m', upd_ne _ _ hid] at hq
      exact .inl (hR.iss i q hq)
  · intro i q hq hn
    by_cases hid : i = id
    · subst hid; simp [m'] at hn
    · simp only [m', upd_ne _ _ hid] at hq hn
      exact hR.none_ i q hq hn
  · intro i q k x hq hk
    by_cases hid : i = id
    · subst hid
      simp only [m', upd_same, Option.some.injEq, Prod.mk.injEq] at hq hk
      obtain ⟨rfl, rfl⟩ := hk
      subst hq
      refine ⟨hS, cs', T, fz, hsame, hfz, hb, fun j v hv => ?_⟩
      obtain ⟨h1, x, h2, h3⟩ := hc j v hv
      exact ⟨h1, x, h2, h3.mono e⟩
    · simp only [m', upd_ne _ _ hid] at hq hk
      refine hR.other e hq hk (hother k fun h => hid ?_)
      subst h
      exact hR.inj i id q o k x base hq ho hk ha
  · intro i j oi oj k x y hi hj hx hy
    by_cases h1 : i = id
    · by_cases h2 : j = id
      · rw [h1, h2]
      · subst h1
        simp only [m', upd_same, upd_ne _ _ h2, Option.some.injEq, Prod.mk.injEq] at hi hj hx hy
        exact hR.inj i j o oj b base y ho hj ha (hx.1 ▸ hy)
    · by_cases h2 : j = id
      · subst h2
        simp only [m', upd_same, upd_ne _ _ h1, Option.some.injEq, Prod.mk.injEq] at hi hj hx hy
        exact hR.inj i j oi o b x base hi ho (hy.1 ▸ hx) ha
      · simp only [m', upd_ne _ _ h1, upd_ne _ _ h2] at hi hj hx hy
        exact hR.inj i j oi oj k x y hi hj hx hy
  · intro k hk
    have := hR.sub k hk
    show k < w'.heap.size
    omega

/-- A new row for an object: a new one, or one that moves. -/
theorem alloc_obj {S : Nat → Prop} {m : M} (hR : Rel S m) {id : Nat} {o' : Ob} {dc c : Nat} {cs' : Array Value} {T : TypeId} {w' : World}
    (hw : w'.heap = m.w.heap.push (Obj.cells cs' T (0, 0))) (hb : o'.cells.length ≤ cs'.size)
    (hg : ¬ m.iss id o'.gen) (hgc : o'.gen = c) (hdc : dc = 1)
    (hc : ∀ (j : Nat) (v : V), o'.cells[j]? = some v → v.one = true ∧ ∃ x, cs'[j]? = some x ∧ RV S m v x) (hrest : w'.os = m.w.os ∧ w'.output = m.w.output := by exact ⟨rfl, rfl⟩) :
    ∃ m' : M, m'.w = w' ∧ m'.h = upd m.h id (some o') ∧ m'.at_ = upd m.at_ id (some (m.w.heap.size, 0)) ∧ m'.iss = (fun i g => m.iss i g ∨ (c ≤ g ∧ g < c + dc)) ∧ Rel S m' ∧ Evo S m m' := by
  let m' : M := { at_ := upd m.at_ id (some (m.w.heap.size, 0)), h := upd m.h id (some o'), iss := fun i g => m.iss i g ∨ (c ≤ g ∧ g < c + dc), w := w' }
  have hnew : w'.heap[m.w.heap.size]? = some (Obj.cells cs' T (0, 0)) := by rw [hw]; simp
  have hother : ∀ k, k < m.w.heap.size → w'.heap[k]? = m.w.heap[k]? := fun k hk => by rw [hw, Array.getElem?_push_lt hk]; simp [hk]
  have hsize : w'.heap.size = m.w.heap.size + 1 := by rw [hw]; simp
  have e : Evo S m m' := {
    rest := ⟨hrest.1, hrest.2, fun a => by
      show w'.frozen? a = m.w.frozen? a
      by_cases hb2 : a.block < m.w.heap.size
      · simp [World.frozen?, hother _ hb2]
      · have h0 : m.w.heap[a.block]? = none := by simp; omega
        by_cases hb3 : a.block = m.w.heap.size
        · have h1 : w'.heap[a.block]? = some (Obj.cells cs' T (0, 0)) := by rw [hb3]; exact hnew
          simp [World.frozen?, h0, h1]
        · have h1 : w'.heap[a.block]? = none := by simp; omega
          simp [World.frozen?, h0, h1]⟩
    iss := fun i g h => .inl h
    size := by show m.w.heap.size ≤ w'.heap.size; omega
    shape := fun k ks T1 f1 hk => ⟨ks, f1, by show w'.heap[k]? = _; rw [hother k (block_lt hk)]; exact hk, rfl⟩
    keepS := fun k hk _ => hother k hk
    keep := fun k hk hn => by
      refine ⟨?_, hother k hk⟩
      rintro (h | ⟨i, q, x, h1, h2, h3⟩)
      · exact hn (.inl h)
      · by_cases hi : i = id
        · subst hi
          simp only [m', upd_same, Option.some.injEq, Prod.mk.injEq] at h1 h3
          omega
        · simp only [m', upd_ne _ _ hi] at h1 h3
          exact hn (.inr ⟨i, q, x, h1, h2, h3⟩)
    live := fun i q hq hi => by
      by_cases hid : i = id
      · subst hid
        simp only [m', upd_same, Option.some.injEq] at hq
        subst hq
        exact absurd hi hg
      · simp only [m', upd_ne _ _ hid] at hq ⊢
        exact ⟨q, hq, rfl, trivial, Nat.le_refl _⟩
    old := fun i q k x h1 h2 hk => by
      by_cases hid : i = id
      · subst hid
        simp only [m', upd_same, Option.some.injEq, Prod.mk.injEq] at h2
        omega
      · simp only [m', upd_ne _ _ hid] at h1 h2
        exact ⟨q, x, h1, h2⟩ }
  refine ⟨m', rfl, rfl, rfl, rfl, ⟨?_, ?_, ?_, ?_, ?_⟩, e⟩
  · intro i q hq
    by_cases hid : i = id
    · subst hid
      simp only [m', upd_same, Option.some.injEq] at hq
      subst hq
      exact .inr ⟨by omega, by omega⟩
    · simp only [m', upd_ne _ _ hid] at hq
      exact .inl (hR.iss i q hq)
  · intro i q hq hn
    by_cases hid : i = id
    · subst hid; simp [m'] at hn
    · simp only [m', upd_ne _ _ hid] at hq hn
      exact hR.none_ i q hq hn
  · intro i q k x hq hk
    by_cases hid : i = id
    · subst hid
      simp only [m', upd_same, Option.some.injEq, Prod.mk.injEq] at hq hk
      obtain ⟨rfl, rfl⟩ := hk
      subst hq
      refine ⟨fun h => ?_, cs', T, (0, 0), hnew, Nat.le_refl _, by omega, fun j v hv => ?_⟩
      · have := hR.sub _ h; omega
      · obtain ⟨h1, x, h2, h3⟩ := hc j v hv
        exact ⟨h1, x, by simpa using h2, h3.mono e⟩
    · simp only [m', upd_ne _ _ hid] at hq hk
      obtain ⟨_, cs0, T0, fz0, hrow0, _⟩ := hR.obj i q k x hq hk
      exact hR.other e hq hk (hother k (block_lt hrow0))
  · intro i j oi oj k x y hi hj hx hy
    by_cases h1 : i = id
    · by_cases h2 : j = id
      · rw [h1, h2]
      · subst h1
        simp only [m', upd_same, upd_ne _ _ h2, Option.some.injEq, Prod.mk.injEq] at hi hj hx hy
        obtain ⟨_, cs0, T0, fz0, hrow0, _⟩ := hR.obj j oj k y hj hy
        have := block_lt hrow0
        omega
    · by_cases h2 : j = id
      · subst h2
        simp only [m', upd_same, upd_ne _ _ h1, Option.some.injEq, Prod.mk.injEq] at hi hj hx hy
        obtain ⟨_, cs0, T0, fz0, hrow0, _⟩ := hR.obj i oi k x hi hx
        have := block_lt hrow0
        omega
      · simp only [m', upd_ne _ _ h1, upd_ne _ _ h2] at hi hj hx hy
        exact hR.inj i j oi oj k x y hi hj hx hy
  · intro k hk
    have := hR.sub k hk
    show k < w'.heap.size
    omega

/-- An object that is still empty and lies nowhere. -/
theorem virt_obj {S : Nat → Prop} {m : M} (hR : Rel S m) {id : Nat} {o' : Ob} {dc c : Nat} (hcells : o'.cells = []) (hg : ¬ m.iss id o'.gen) (hgc : o'.gen = c) (hdc : dc = 1) :
    ∃ m' : M, m'.w = m.w ∧ m'.h = upd m.h id (some o') ∧ m'.at_ = upd m.at_ id none ∧ m'.iss = (fun i g => m.iss i g ∨ (c ≤ g ∧ g < c + dc)) ∧ Rel S m' ∧ Evo S m m' := by
  let m' : M := { at_ := upd m.at_ id none, h := upd m.h id (some o'), iss := fun i g => m.iss i g ∨ (c ≤ g ∧ g < c + dc), w := m.w }
  have e : Evo S m m' := {
    rest := ⟨rfl, rfl, fun _ => rfl⟩
    iss := fun i g h => .inl h
    size := Nat.le_refl _
    shape := fun k ks T1 f1 hk => ⟨ks, f1, hk, rfl⟩
    keepS := fun k hk _ => rfl
    keep := fun k hk hn => by
      refine ⟨?_, rfl⟩
      rintro (h | ⟨i, q, x, h1, h2, h3⟩)
      · exact hn (.inl h)
      · by_cases hi : i = id
        · subst hi; simp [m'] at h3
        · simp only [m', upd_ne _ _ hi] at h1 h3
          exact hn (.inr ⟨i, q, x, h1, h2, h3⟩)
    live := fun i q hq hi => by
      by_cases hid : i = id
      · subst hid
        simp only [m', upd_same, Option.some.injEq] at hq
        subst hq
        exact absurd hi hg
      · simp only [m', upd_ne _ _ hid] at hq ⊢
        exact ⟨q, hq, rfl, trivial, Nat.le_refl _⟩
    old := fun i q k x h1 h2 hk => by
      by_cases hid : i = id
      · subst hid; simp [m'] at h2
      · simp only [m', upd_ne _ _ hid] at h1 h2
        exact ⟨q, x, h1, h2⟩ }
  refine ⟨m', rfl, rfl, rfl, rfl, ⟨?_, ?_, ?_, ?_, ?_⟩, e⟩
  · intro i q hq
    by_cases hid : i = id
    · subst hid
      simp only [m', upd_same, Option.some.injEq] at hq
      subst hq
      exact .inr ⟨by omega, by omega⟩
    · simp only [m', upd_ne _ _ hid] at hq
      exact .inl (hR.iss i q hq)
  · intro i q hq hn
    by_cases hid : i = id
    · subst hid
      simp only [m', upd_same, Option.some.injEq] at hq
      subst hq; exact hcells
    · simp only [m', upd_ne _ _ hid] at hq hn
      exact hR.none_ i q hq hn
  · intro i q k x hq hk
    by_cases hid : i = id
    · subst hid; simp [m'] at hk
    · simp only [m', upd_ne _ _ hid] at hq hk
      exact hR.other e hq hk rfl
  · intro i j oi oj k x y hi hj hx hy
    by_cases h1 : i = id
    · subst h1; simp [m'] at hx
    · by_cases h2 : j = id
      · subst h2; simp [m'] at hy
      · simp only [m', upd_ne _ _ h1, upd_ne _ _ h2] at hi hj hx hy
        exact hR.inj i j oi oj k x y hi hj hx hy
  · exact hR.sub

/-- An object that is only read from here on. -/
theorem ro_obj {S : Nat → Prop} {m : M} (hR : Rel S m) {id : Nat} {o : Ob} (ho : m.h id = some o) :
    ∃ m' : M, m'.w = m.w ∧ m'.h = upd m.h id (some { o with ro := true }) ∧ m'.at_ = m.at_ ∧ m'.iss = m.iss ∧ Rel S m' ∧ Evo S m m' := by
  let m' : M := { at_ := m.at_, h := upd m.h id (some { o with ro := true }), iss := m.iss, w := m.w }
  have hget : ∀ i q, m'.h i = some q → ∃ p, m.h i = some p ∧ p.gen = q.gen ∧ p.cells = q.cells ∧ (q.ro = false → p.ro = false) := by
    intro i q hq
    by_cases hid : i = id
    · subst hid
      simp only [m', upd_same, Option.some.injEq] at hq
      subst hq
      exact ⟨o, ho, rfl, rfl, fun h => by simp at h⟩
    · simp only [m', upd_ne _ _ hid] at hq
      exact ⟨q, hq, rfl, rfl, fun h => h⟩
  have e : Evo S m m' := {
    rest := ⟨rfl, rfl, fun _ => rfl⟩
    iss := fun i g h => h
    size := Nat.le_refl _
    shape := fun k ks T1 f1 hk => ⟨ks, f1, hk, rfl⟩
    keepS := fun k hk _ => rfl
    keep := fun k hk hn => by
      refine ⟨?_, rfl⟩
      rintro (h | ⟨i, q, x, h1, h2, h3⟩)
      · exact hn (.inl h)
      · obtain ⟨p, p1, p2, p3, p4⟩ := hget i q h1
        exact hn (.inr ⟨i, p, x, p1, p4 h2, h3⟩)
    live := fun i q hq hi => by
      obtain ⟨p, p1, p2, p3, p4⟩ := hget i q hq
      exact ⟨p, p1, p2, rfl, by rw [p3]; exact Nat.le_refl _⟩
    old := fun i q k x h1 h2 hk => by
      obtain ⟨p, p1, _⟩ := hget i q h1
      exact ⟨p, x, p1, h2⟩ }
  refine ⟨m', rfl, rfl, rfl, rfl, ⟨?_, ?_, ?_, ?_, ?_⟩, e⟩
  · intro i q hq
    obtain ⟨p, p1, p2, p3, p4⟩ := hget i q hq
    exact p2 ▸ hR.iss i p p1
  · intro i q hq hn
    obtain ⟨p, p1, p2, p3, p4⟩ := hget i q hq
    exact p3 ▸ hR.none_ i p p1 hn
  · intro i q k x hq hk
    obtain ⟨p, p1, p2, p3, p4⟩ := hget i q hq
    have := hR.other e p1 hk rfl
    rw [p3] at this
    exact this
  · intro i j oi oj k x y hi hj hx hy
    obtain ⟨p, p1, _⟩ := hget i oi hi
    obtain ⟨q, q1, _⟩ := hget j oj hj
    exact hR.inj i j p q k x y p1 q1 hx hy
  · exact hR.sub

end Go.Ab
