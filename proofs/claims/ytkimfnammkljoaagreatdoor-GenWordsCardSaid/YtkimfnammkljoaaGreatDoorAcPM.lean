/- The abstract machine: one operation of a region. No conditions. -/
import Derived.Test.YtkimfnammkljoaaGreatDoorAcN
import Derived.OrdersIn
import Derived.RangeFuncLeaves
set_option linter.unusedVariables false
set_option linter.unusedSimpArgs false
section
namespace Go.Ac
variable {P : Program}

/-- What a caller may count on behind a call. -/
def Back [Gl] (S : Nat → Prop) (m : M) (r : CR) (x : Value) (m' : M) : Prop :=
 Rel S m' ∧ Evo S m m' ∧ RV S m' r.v x ∧ m'.h = r.hp.get ∧ m'.iss = fun _ g => g < r.c

def Tops (hp : Hp) (n : Nat) : Prop := ∀ id, n ≤ id → hp.get id = none

structure LogOK (hp : Hp) (n c : Nat) (r : CR) : Prop where
 le_n : n ≤ r.n
 le_c : c ≤ r.c
 top : Tops r.hp r.n
 same : ∀ id, id < n → id ∉ r.wl → r.hp.get id = hp.get id
 stay : ∀ id, id < n → r.hp.get id = none → hp.get id = none

/-- The fence that lets everything in: for a function's activation, or for a round of a loop over a function. -/
def Fw (o : Option Nat) : Fence := { Fence.wide with round := o }
theorem callsIn_Fw {o : Option Nat} {n : Nat} {f : FuncId} {args : Array Value} {w : World} {R : Ending → World → Prop} : CallsIn (Fw o) n P f args w R ↔ Calls P f args w R := callsIn_wide (n := n)
theorem fenced_Fw (o : Option Nat) (m : Machine) : m.fenced P (Fw o) := fenced_wide P m
theorem room_Fw (o : Option Nat) (n : Nat) : (Fw o).room n := room_wide n
theorem roundIn_Fw {o o' : Option Nat} {n : Nat} {l : Nat} {f : FuncId} {tmps : Array Value} {asg body : Code} {w : World} {R : Ending → World → Prop} (h : RoundIn (Fw o) n P l f tmps asg body w R) : RoundIn (Fw o') n P l f tmps asg body w R := h

/-- The slots of a round: the loop's, and what yield has been handed. -/
def roundTmps (ps : Array Tmp) (tmps xs : Array Value) : Array Value := (ps.zip xs).foldl (fun tmps p => tmps.setIfInBounds p.1 p.2) tmps

structure CallOK [Gl] (P : Program) (call : CallF) : Prop where
 ylog : ∀ {id g : Nat} {vs : List V} {hp : Hp} {n c : Nat} {r : CR}, call.yd id g vs hp n c = some r → Tops hp n → LogOK hp n c r
 yok : ∀ {id g : Nat} {vs : List V} {hp : Hp} {n c : Nat} {r : CR}, call.yd id g vs hp n c = some r → Tops hp n → ∀ {S : Nat → Prop} {m : M} {xs : List Value}, m.h = hp.get → (m.iss = fun _ g => g < c) → Rel S m → RVs S m vs xs →
  ∃ (o : Ob) (b : Nat) (rec : Loop), m.h id = some o ∧ o.gen = g ∧ m.at_ id = some (b, 0) ∧ m.w.heap[b]? = some (Obj.loop rec) ∧ rec.params.size = xs.length ∧
   RoundIn (Fw none) 0 P b rec.fn (roundTmps rec.params rec.tmps xs.toArray) rec.assign rec.body m.w (fun e w' => ∃ x m', e = .returned x ∧ m'.w = w' ∧ Back S m r x m')
 log : ∀ {f : FuncId} {vs : List V} {hp : Hp} {n c : Nat} {r : CR}, call f vs hp n c = some r → Tops hp n → LogOK hp n c r
 ok : ∀ {f : FuncId} {vs : List V} {hp : Hp} {n c : Nat} {r : CR}, call f vs hp n c = some r → Tops hp n → ∀ {S : Nat → Prop} {m : M} {xs : List Value}, m.h = hp.get → (m.iss = fun _ g => g < c) → Rel S m → RVs S m vs xs →
  Calls P f xs.toArray m.w (fun e w' => ∃ x m', e = .returned x ∧ m'.w = w' ∧ Back S m r x m')

/-! ### Values that hold no name -/

def V.shut1 : V → Bool
 | .d _ | .con _ | .full _ | .fn _ [] => true
 | _ => false
def V.shut2 : V → Bool
 | .agg cs => cs.all V.shut1
 | v => v.shut1
def V.shut : V → Bool
 | .tuple cs => cs.all V.shut2
 | v => v.shut2

theorem toD_noLook : ∀ (f : Nat) {v : V} {x : D} {r : List Nat}, toD noLook f v = some (x, r) → v.shut1 = true
 | 0, v, x, r, h => by cases v <;> simp_all [toD, V.shut1]
 | f + 1, v, x, r, h => by
  cases v <;> simp_all [toD, V.shut1]
  simp [live, noLook] at h

theorem close1_noLook {v w : V} {r : List Nat} (h : close1 noLook v = some (w, r)) : v.shut1 = true := by
 have gen : ∀ v, ofD (toD noLook depthD v) = some (w, r) → v.shut1 = true := by
  intro v h
  unfold ofD at h
  split at h
  ·rename_i x r hx; exact toD_noLook _ hx
  ·simp at h
 cases v with
 | con v => rfl
 | fn f cs => cases cs with
  | nil => rfl
  | cons c cs => simp only [close1] at h; exact gen _ h
 | _ => simp only [close1] at h; exact gen _ h

theorem closeVs_all {f : V → Option (V × List Nat)} {p : V → Bool} (hf : ∀ v w r, f v = some (w, r) → p v = true) : ∀ {vs ws : List V} {r : List Nat}, closeVs f vs = some (ws, r) → vs.all p = true
 | [], _, _, _ => rfl
 | v :: l, ws, r, h => by
  simp only [closeVs] at h
  split at h
  ·rename_i x a xs b h1 h2
   simp [hf _ _ _ h1]
   simpa using closeVs_all hf h2
  ·simp at h

theorem close_noLook {v w : V} {r : List Nat} (h : close noLook v = some (w, r)) : v.shut2 = true := by
 cases v with
 | agg cs =>
  simp only [close] at h
  split at h
  ·rename_i xs r hx
   simp only [V.shut2]
   exact closeVs_all (fun v w r h => close1_noLook h) hx
  ·simp at h
 | _ => simp only [close] at h; simpa only [V.shut2] using close1_noLook h

theorem closeT_noLook {v w : V} {r : List Nat} (h : closeT noLook v = some (w, r)) : v.shut = true := by
 cases v with
 | tuple cs =>
  simp only [closeT] at h
  split at h
  ·rename_i xs r hx
   simp only [V.shut]
   exact closeVs_all (fun v w r h => close_noLook h) hx
  ·simp at h
 | _ => simp only [closeT] at h; simpa only [V.shut] using close_noLook h

theorem toD_shut1 {look : Look} : ∀ (f : Nat) {v : V}, v.shut1 = true → toD look f v = toD noLook f v
 | 0, v, h => by cases v <;> simp_all [toD, V.shut1]
 | f + 1, v, h => by cases v <;> simp_all [toD, V.shut1]

theorem close1_noLook_any {look : Look} {v w : V} {r : List Nat} (h : close1 noLook v = some (w, r)) : close1 look v = some (w, r) := by
 have hs := close1_noLook h
 cases v with
 | con v => exact h
 | fn f cs => cases cs with
  | nil => exact h
  | cons c cs => simp [V.shut1] at hs
 | _ => simp only [close1] at h ⊢; rw [toD_shut1 _ hs]; exact h

theorem close_noLook_any {look : Look} {v w : V} {r : List Nat} (h : close noLook v = some (w, r)) : close look v = some (w, r) := by
 cases v with
 | agg cs =>
  simp only [close] at h ⊢
  split at h
  ·rename_i xs r hx
   rw [closeVs_loc hx (fun v w a g1 _ => close1_noLook_any g1)]; exact h
  ·simp at h
 | _ => simp only [close] at h ⊢; exact close1_noLook_any h

theorem close1_shut {look : Look} {v w : V} {r : List Nat} (h : close1 look v = some (w, r)) : w.shut1 = true := by
 unfold close1 at h
 split at h
 ·simp at h; obtain ⟨rfl, rfl⟩ := h; rfl
 ·simp at h; obtain ⟨rfl, rfl⟩ := h; rfl
 ·unfold ofD at h
  split at h
  ·simp at h; obtain ⟨rfl, rfl⟩ := h; rfl
  ·simp at h

theorem closeVs_shut {f : V → Option (V × List Nat)} {p : V → Bool} (hf : ∀ v w r, f v = some (w, r) → p w = true) : ∀ {vs ws : List V} {r : List Nat}, closeVs f vs = some (ws, r) → ws.all p = true
 | [], ws, _, h => by simp [closeVs] at h; obtain ⟨rfl, rfl⟩ := h; rfl
 | v :: l, ws, r, h => by
  simp only [closeVs] at h
  split at h
  ·rename_i x a xs b h1 h2
   simp at h; obtain ⟨rfl, rfl⟩ := h
   simp [hf _ _ _ h1]
   simpa using closeVs_shut hf h2
  ·simp at h

theorem V.shut2_of1 {v : V} (h : v.shut1 = true) : v.shut2 = true := by cases v <;> first | exact h | (simp [V.shut1] at h)
theorem close_shut {look : Look} {v w : V} {r : List Nat} (h : close look v = some (w, r)) : w.shut2 = true := by
 unfold close at h
 split at h
 ·split at h
  ·rename_i xs r hx
   simp at h; obtain ⟨rfl, rfl⟩ := h
   exact closeVs_shut (fun v w r h => close1_shut h) hx
  ·simp at h
 ·exact V.shut2_of1 (close1_shut h)

theorem closeA_noLook_any {look : Look} {v w : V} {r : List Nat} (h : closeA noLook v = some (w, r)) : closeA look v = some (w, r) := by
 unfold closeA at h ⊢
 split at h
 ·exact h
 ·exact close_noLook_any h

theorem closeA_shut {look : Look} {v w : V} {r : List Nat} (h : closeA look v = some (w, r)) : w.shut2 = true := by
 unfold closeA at h
 split at h
 ·simp at h; obtain ⟨rfl, rfl⟩ := h; rfl
 ·exact close_shut h

section
variable {S S' : Nat → Prop} {m m' : M}

theorem RV.shut1 [Gl] (k : ∀ x y, RD m.w (m.av S) x y → RD m'.w (m'.av S') x y) {v : V} {y : Value} (hs : v.shut1 = true) (h : RV S m v y) : RV S' m' v y := by
 cases h with
 | d h => exact .d (k _ _ h)
 | con => exact .con _
 | full h => exact .full (k _ _ h)
 | @fn f caps vs hl h =>
  cases caps with
  | nil => exact .fn hl (fun j x y hx => by simp at hx)
  | cons c cs => simp [V.shut1] at hs
 | _ => simp [V.shut1] at hs

theorem RV.shut2 [Gl] (k : ∀ x y, RD m.w (m.av S) x y → RD m'.w (m'.av S') x y) {v : V} {y : Value} (hs : v.shut2 = true) (h : RV S m v y) : RV S' m' v y := by
 cases v with
 | agg cs =>
  cases h with
  | agg hl h =>
   simp only [V.shut2, List.all_eq_true] at hs
   exact .agg hl fun j x y hx hy => (h j x y hx hy).shut1 k (hs x (List.mem_of_getElem? hx))
 | _ => exact RV.shut1 k hs h

theorem RV.shut [Gl] (k : ∀ x y, RD m.w (m.av S) x y → RD m'.w (m'.av S') x y) {v : V} {y : Value} (hs : v.shut = true) (h : RV S m v y) : RV S' m' v y := by
 cases v with
 | tuple cs =>
  cases h with
  | tuple hl h =>
   simp only [V.shut, List.all_eq_true] at hs
   exact .tuple hl fun j x y hx hy => (h j x y hx hy).shut2 k (hs x (List.mem_of_getElem? hx))
 | _ => exact RV.shut2 k hs h

theorem RD.flat [Gl] {w w' : World} {av av' : Nat → Prop} {x : D} {y : Value} (hx : x.flat = true) (h : RD w av x y) : RD w' av' x y := by
 cases h with
 | bool b => exact .bool b
 | int k n => exact .int k n
 | str s l h => exact .str s l h
 | _ => simp [D.flat] at hx

theorem RV.flat1 [Gl] {v : V} {y : Value} (hs : v.flat1 = true) (h : RV S m v y) : RV S' m' v y := by
 cases h with
 | d h => exact .d (h.flat hs)
 | con => exact .con _
 | _ => simp [V.flat1] at hs

theorem RV.flat2 [Gl] {v : V} {y : Value} (hs : v.flat2 = true) (h : RV S m v y) : RV S' m' v y := by
 cases v with
 | agg cs =>
  cases h with
  | agg hl h =>
   simp only [V.flat2, List.all_eq_true] at hs
   exact .agg hl fun j x y hx hy => (h j x y hx hy).flat1 (hs x (List.mem_of_getElem? hx))
 | _ => exact RV.flat1 hs h

theorem RV.flat [Gl] {v : V} {y : Value} (hs : v.flat = true) (h : RV S m v y) : RV S' m' v y := by
 cases v with
 | tuple cs =>
  cases h with
  | tuple hl h =>
   simp only [V.flat, List.all_eq_true] at hs
   exact .tuple hl fun j x y hx hy => (h j x y hx hy).flat2 (hs x (List.mem_of_getElem? hx))
 | _ => exact RV.flat2 hs h

/-- Some objects are let go. -/
theorem Rel.less [Gl] (hR : Rel S m) {h' : Nat → Option Ob} (hh : ∀ id o, h' id = some o → m.h id = some o) :
  Rel S { m with h := h' } ∧ Evo S m { m with h := h' } := by
 have e : Evo S m { m with h := h' } := {
  dfr := fun _ h => h
  lps := fun _ r h => ⟨r, h⟩
  rest := ⟨rfl, rfl⟩
  iss := fun _ _ h => h
  size := Nat.le_refl _
  shape := fun b cs T fz h => ⟨cs, fz, h, rfl⟩
  keepS := fun b h _ => rfl
  keep := fun b h hn => ⟨fun hx => hn (by
   rcases hx with hx | ⟨id, o, x, h1, h2, h3⟩
   ·exact .inl hx
   ·exact .inr ⟨id, o, x, hh _ _ h1, h2, h3⟩), rfl⟩
  live := fun id o h _ => ⟨o, hh _ _ h, rfl, rfl, Nat.le_refl _, rfl⟩
  old := fun id o b x h1 h2 _ => ⟨o, x, hh _ _ h1, h2⟩ }
 refine ⟨⟨fun g => (hR.glob g).mono e, fun id o h => hR.iss id o (hh _ _ h), fun id o h => hR.none_ id o (hh _ _ h), fun id o b base ho ha => ?_, fun i j oi oj b x y hi hj => hR.inj i j oi oj b x y (hh _ _ hi) (hh _ _ hj), hR.sub⟩, e⟩
 exact hR.other e (hh _ _ ho) ha rfl

end

/-! ### The names of a callee's objects among the caller's -/

theorem hupd_fun {F : Nat → Option Ob} : ∀ {l : List (Nat × Ob)}, (∀ p ∈ l, F p.1 = some p.2) → ∀ (h : Nat → Option Ob) (id : Nat), hupd h l id = if id ∈ l.map (·.1) then F id else h id
 | [], _, h, id => by simp [hupd]
 | (k, o) :: r, hF, h, id => by
  simp only [hupd]
  rw [hupd_fun (fun p hp => hF p (by simp [hp]))]
  have hk := hF (k, o) (by simp)
  by_cases hm : id ∈ r.map (·.1)
  ·rw [if_pos hm, if_pos (by simp only [List.map_cons, List.mem_cons]; exact .inr hm)]
  ·rw [if_neg hm]
   by_cases hid : id = k
   ·subst hid; simp [upd]; exact hk.symm
   ·rw [upd_ne _ _ hid, if_neg (by simp only [List.map_cons, List.mem_cons, not_or]; exact ⟨hid, hm⟩)]

theorem mem_wrOf {look : Look} : ∀ {l : List Nat} {p : Nat × Ob}, p ∈ wrOf look l ↔ p.1 ∈ l ∧ look p.1 = some p.2
 | [], p => by simp [wrOf]
 | id :: r, p => by
  simp only [wrOf]
  cases h : look id with
  | none =>
   simp only [mem_wrOf, List.mem_cons]
   constructor
   ·rintro ⟨h1, h2⟩; exact ⟨.inr h1, h2⟩
   ·rintro ⟨h1 | h1, h2⟩
    ·rw [h1, h] at h2; cases h2
    ·exact ⟨h1, h2⟩
  | some o =>
   simp only [List.mem_cons, mem_wrOf]
   constructor
   ·rintro (rfl | ⟨h1, h2⟩)
    ·exact ⟨.inl rfl, h⟩
    ·exact ⟨.inr h1, h2⟩
   ·rintro ⟨h1 | h1, h2⟩
    ·left; obtain ⟨a, b⟩ := p; simp only at h1 h2; subst h1; rw [h] at h2; cases h2; rfl
    ·exact .inr ⟨h1, h2⟩

theorem keys_wrOf {look : Look} {l : List Nat} {id : Nat} : id ∈ (wrOf look l).map (·.1) ↔ id ∈ l ∧ ∃ o, look id = some o := by
 simp only [List.mem_map]
 constructor
 ·rintro ⟨p, hp, rfl⟩; obtain ⟨h1, h2⟩ := mem_wrOf.1 hp; exact ⟨h1, p.2, h2⟩
 ·rintro ⟨h1, o, h2⟩; exact ⟨(id, o), mem_wrOf.2 ⟨h1, h2⟩, rfl⟩

theorem hupd_wrOf {look : Look} (h : Nat → Option Ob) (l : List Nat) (id : Nat) : hupd h (wrOf look l) id = if id ∈ l ∧ (look id).isSome = true then look id else h id := by
 rw [hupd_fun (F := look) (fun p hp => (mem_wrOf.1 hp).2)]
 by_cases hc : id ∈ l ∧ (look id).isSome = true
 ·rw [if_pos hc, if_pos (keys_wrOf.2 ⟨hc.1, Option.isSome_iff_exists.1 hc.2⟩)]
 ·rw [if_neg hc, if_neg (fun h => hc ⟨(keys_wrOf.1 h).1, Option.isSome_iff_exists.2 (keys_wrOf.1 h).2⟩)]

theorem shiftVs_eq (n c : Nat) : ∀ l : List V, shiftVs n c l = l.map (shiftV n c)
 | [] => by simp [shiftVs]
 | v :: r => by simp [shiftVs, shiftVs_eq n c r]

def shiftO (n c : Nat) (o : Ob) : Ob := ⟨o.gen + c, o.ro, shiftVs n c o.cells⟩

/-- The callee's objects beside the caller's. -/
def beside (n c : Nat) (h0 h1 : Nat → Option Ob) : Nat → Option Ob := fun id =>
 if n ≤ id ∧ (h0 (id - n)).isSome = true then (h0 (id - n)).map (shiftO n c) else h1 id

theorem hupd_shiftH {n c N : Nat} {hp : Hp} (ht : Tops hp N) (h : Nat → Option Ob) : hupd h (shiftH n c (wrOf hp.get (List.range N))) = beside n c hp.get h := by
 funext id
 rw [hupd_fun (F := fun id => if n ≤ id then (hp.get (id - n)).map (shiftO n c) else none)]
 ·unfold beside
  have hkey : id ∈ (shiftH n c (wrOf hp.get (List.range N))).map (·.1) ↔ n ≤ id ∧ (hp.get (id - n)).isSome = true := by
   simp only [shiftH, List.map_map, List.mem_map, Function.comp]
   constructor
   ·rintro ⟨p, hp', rfl⟩
    obtain ⟨h1, h2⟩ := mem_wrOf.1 hp'
    simp [h2]
   ·rintro ⟨h1, h2⟩
    obtain ⟨o, ho⟩ := Option.isSome_iff_exists.1 h2
    refine ⟨(id - n, o), mem_wrOf.2 ⟨?_, ho⟩, by simp; omega⟩
    rw [List.mem_range]
    rcases Nat.lt_or_ge (id - n) N with h | h
    ·exact h
    ·rw [ht _ h] at ho; cases ho
  by_cases hc : n ≤ id ∧ (hp.get (id - n)).isSome = true
  ·rw [if_pos hc, if_pos (hkey.2 hc), if_pos hc.1]
  ·rw [if_neg hc, if_neg (fun h => hc (hkey.1 h))]
 ·intro p hp'
  simp only [shiftH, List.mem_map] at hp'
  obtain ⟨q, hq, rfl⟩ := hp'
  obtain ⟨h1, h2⟩ := mem_wrOf.1 hq
  simp [h2, shiftO]

theorem shiftO_kind (n c : Nat) (o : Ob) : kindL (shiftO n c o).cells = kindL o.cells := by
 unfold shiftO
 rw [shiftVs_eq]
 cases h : o.cells with
 | nil => rfl
 | cons a r =>
  cases r with
  | nil => cases a <;> rfl
  | cons b s => cases a <;> rfl

section
variable {S : Nat → Prop} {m : M}

/-- The callee's memory laid beside the caller's. -/
def besideM (n c k : Nat) (m1 m0 : M) : M where
 at_ := fun id => if n ≤ id ∧ (m0.h (id - n)).isSome = true then m0.at_ (id - n) else m1.at_ id
 h := beside n c m0.h m1.h
 iss := fun id g => m1.iss id g ∨ (c ≤ g ∧ g < c + k)
 w := m0.w

/-- What a callee that sees no object of the caller's has done. -/
structure Apart [Gl] (S : Nat → Prop) (m1 m0 : M) (k : Nat) : Prop where
 rel : Rel (m1.av S) m0
 iss : m0.iss = fun _ g => g < k
 size : m1.w.heap.size ≤ m0.w.heap.size
 row : ∀ b, b < m1.w.heap.size → m0.w.heap[b]? = m1.w.heap[b]?
 new : ∀ id o b x, m0.h id = some o → m0.at_ id = some (b, x) → m1.w.heap.size ≤ b
 rest : m0.w.os = m1.w.os ∧ m0.w.output = m1.w.output ∧ ∀ a, a.block < m1.w.heap.size → m0.w.frozen? a = m1.w.frozen? a

theorem Rel.av_lt [Gl] (hR : Rel S m) {b : Nat} (h : m.av S b) : b < m.w.heap.size := by
 rcases h with h | ⟨id, o, x, h1, h2, h3⟩
 ·exact hR.sub b h
 ·obtain ⟨ob0, hr⟩ := (hR.obj id o b x h1 h3).2.some
  exact block_lt hr

theorem beside_get {n c : Nat} {h0 h1 : Nat → Option Ob} {id : Nat} {o : Ob} (h : beside n c h0 h1 id = some o) :
  (n ≤ id ∧ ∃ o0, h0 (id - n) = some o0 ∧ o = shiftO n c o0) ∨ (¬ (n ≤ id ∧ (h0 (id - n)).isSome = true) ∧ h1 id = some o) := by
 unfold beside at h
 split at h
 ·rename_i hc
  obtain ⟨o0, ho⟩ := Option.isSome_iff_exists.1 hc.2
  rw [ho] at h; simp at h
  exact .inl ⟨hc.1, o0, ho, h.symm⟩
 ·rename_i hc; exact .inr ⟨hc, h⟩

theorem besideM_av {n c k : Nat} {m1 m0 : M} {b : Nat} (h : (besideM n c k m1 m0).av S b) : m0.av (m1.av S) b := by
 rcases h with h | ⟨id, o, x, h1, h2, h3⟩
 ·exact .inl (.inl h)
 ·rcases beside_get h1 with ⟨hn, o0, ho, rfl⟩ | ⟨hn, ho⟩
  ·simp only [besideM] at h3
   rw [if_pos ⟨hn, by simp [ho]⟩] at h3
   exact .inr ⟨id - n, o0, x, ho, h2, h3⟩
  ·simp only [besideM] at h3
   rw [if_neg hn] at h3
   exact .inl (.inr ⟨id, o, x, ho, h2, h3⟩)

theorem RV.shift [Gl] {n c k : Nat} {m1 m0 : M} (h1 : Rel S m1) (ha : Apart S m1 m0 k) (hf : ∀ id g, c ≤ g → g < c + k → ¬ m1.iss id g) {v : V} {y : Value} (h : RV (m1.av S) m0 v y) :
  RV S (besideM n c k m1 m0) (shiftV n c v) y := by
 have kd : ∀ x y, RD m0.w (m0.av (m1.av S)) x y → RD (besideM n c k m1 m0).w ((besideM n c k m1 m0).av S) x y :=
  fun x y h => h.mono fun b _ hb => ⟨fun hx => hb (besideM_av hx), rfl⟩
 have lists : ∀ {cs : List V} {vs : Array Value}, cs.length = vs.size → (∀ (j : Nat) (x : V) (y : Value), cs[j]? = some x → vs[j]? = some y → RV S (besideM n c k m1 m0) (shiftV n c x) y) →
   (shiftVs n c cs).length = vs.size ∧ ∀ (j : Nat) (x : V) (y : Value), (shiftVs n c cs)[j]? = some x → vs[j]? = some y → RV S (besideM n c k m1 m0) x y := by
  intro cs vs hl ih
  rw [shiftVs_eq]
  refine ⟨by simpa using hl, fun j x y hx hy => ?_⟩
  rw [List.getElem?_map] at hx
  cases hc : cs[j]? with
  | none => simp [hc] at hx
  | some z => simp [hc] at hx; subst hx; exact ih j z y hc hy
 have obj : ∀ (id g : Nat), m0.iss id g → ∀ o, (besideM n c k m1 m0).h (id + n) = some o → o.gen = g + c → ∃ o0, m0.h id = some o0 ∧ o = shiftO n c o0 ∧ o0.gen = g ∧ (besideM n c k m1 m0).at_ (id + n) = m0.at_ id := by
  intro id g hi o ho hg
  rcases beside_get ho with ⟨hn, o0, h0, rfl⟩ | ⟨hn, h0⟩
  ·rw [Nat.add_sub_cancel] at h0
   refine ⟨o0, h0, rfl, by simp only [shiftO] at hg; omega, ?_⟩
   simp [besideM, h0]
  ·have := h1.iss _ _ h0
   rw [ha.iss] at hi
   exact absurd this (by rw [hg]; exact hf _ _ (by omega) (by omega))
 induction h with
 | any v => simp only [shiftV]; exact .any v
 | undef => simp only [shiftV]; exact .undef
 | d h => simp only [shiftV]; exact .d (kd _ _ h)
 | con v => simp only [shiftV]; exact .con v
 | full h => simp only [shiftV]; exact .full (kd _ _ h)
 | agg hl h ih => simp only [shiftV]; exact .agg (lists hl ih).1 (lists hl ih).2
 | @ptr id g off v g1 g2 g3 =>
  simp only [shiftV]
  refine .ptr (.inr ?_) g2 fun o ho hg => ?_
  ·rw [ha.iss] at g1; omega
  ·obtain ⟨o0, q1, rfl, q2, q3⟩ := obj id g g1 o ho hg
   obtain ⟨q6, b, base, q4, q5⟩ := g3 o0 q1 q2
   exact ⟨(shiftO_kind n c o0).trans q6, b, base, q3.trans q4, q5⟩
 | @it id g v g1 g2 g3 =>
  simp only [shiftV]
  refine .it (.inr ?_) g2 fun o ho hg => ?_
  ·rw [ha.iss] at g1; omega
  ·obtain ⟨o0, q1, rfl, q2, q3⟩ := obj id g g1 o ho hg
   obtain ⟨q6, b, q4, q5⟩ := g3 o0 q1 q2
   exact ⟨(shiftO_kind n c o0).trans q6, b, q3.trans q4, q5⟩
 | @mp id g v g1 g2 g3 =>
  simp only [shiftV]
  refine .mp (.inr ?_) g2 fun o ho hg => ?_
  ·rw [ha.iss] at g1; omega
  ·obtain ⟨o0, q1, rfl, q2, q3⟩ := obj id g g1 o ho hg
   obtain ⟨q6, b, q4, q5⟩ := g3 o0 q1 q2
   exact ⟨(shiftO_kind n c o0).trans q6, b, q3.trans q4, q5⟩
 | @osl id g off len sz cap v g1 g2 g3 =>
  simp only [shiftV]
  refine .osl (.inr ?_) g2 fun o ho hg => ?_
  ·rw [ha.iss] at g1; omega
  ·obtain ⟨o0, q1, rfl, q2, q3⟩ := obj id g g1 o ho hg
   obtain ⟨q6, this⟩ := g3 o0 q1 q2
   refine ⟨(shiftO_kind n c o0).trans q6, ?_⟩
   unfold OslOK at this ⊢
   rw [q3]
   have hl : (shiftO n c o0).cells.length = o0.cells.length := by simp [shiftO, shiftVs_eq]
   rw [hl]
   exact this
 | vref f hf' hr =>
  simp only [shiftV]
  exact .vref f (fun j d hj => ⟨fun hx => (hf' j d hj).1 (besideM_av hx), (hf' j d hj).2⟩) (fun j d hj => kd _ _ (hr j d hj))
 | fn hl h ih => simp only [shiftV]; exact .fn (lists hl ih).1 (lists hl ih).2
 | tuple hl h ih => simp only [shiftV]; exact .tuple (lists hl ih).1 (lists hl ih).2
 | ifc h ih => simp only [shiftV]; exact .ifc ih
 | mv h ih => simp only [shiftV]; exact .mv ih
 | @yd id g v g1 g2 g3 =>
  simp only [shiftV]
  refine .yd (.inr ?_) g2 fun o ho hg => ?_
  ·rw [ha.iss] at g1; omega
  ·obtain ⟨o0, q1, rfl, q2, q3⟩ := obj id g g1 o ho hg
   obtain ⟨q6, b, q4, q5⟩ := g3 o0 q1 q2
   exact ⟨(shiftO_kind n c o0).trans q6, b, q3.trans q4, q5⟩

theorem shiftE_get (n c : Nat) : ∀ (e : Env) (t : Nat), Env.get (shiftE n c e) t = shiftV n c (Env.get e t)
 | [], t => by simp only [shiftE, Env.get, shiftV]
 | (k, v) :: r, t => by
  simp only [shiftE, Env.get]
  cases Nat.beq k t with
  | true => rfl
  | false => exact shiftE_get n c r t

theorem shiftV_one (n c : Nat) (v : V) : (shiftV n c v).one = v.one := by cases v <;> simp [shiftV, V.one]

theorem besideM_ok [Gl] {n c k : Nat} {m1 m0 : M} (h1 : Rel S m1) (ha : Apart S m1 m0 k) (hf : ∀ id g, c ≤ g → g < c + k → ¬ m1.iss id g) :
  Rel S (besideM n c k m1 m0) ∧ Evo S m1 (besideM n c k m1 m0) := by
 have at1 : ∀ {id : Nat}, ¬ (n ≤ id ∧ (m0.h (id - n)).isSome = true) → (besideM n c k m1 m0).at_ id = m1.at_ id := fun h => by simp only [besideM]; rw [if_neg h]
 have at0 : ∀ {id : Nat} {o0 : Ob}, n ≤ id → m0.h (id - n) = some o0 → (besideM n c k m1 m0).at_ id = m0.at_ (id - n) := fun hn ho => by simp only [besideM]; rw [if_pos ⟨hn, by simp [ho]⟩]
 have lt1 : ∀ {id : Nat} {o : Ob} {b x : Nat}, m1.h id = some o → m1.at_ id = some (b, x) → b < m1.w.heap.size := fun ho hx => by
  obtain ⟨ob0, hr⟩ := (h1.obj _ _ _ _ ho hx).2.some
  exact block_lt hr
 have e : Evo S m1 (besideM n c k m1 m0) := {
  dfr := fun b h => by show m0.w.heap[b]? = _; rw [ha.row b (block_lt h)]; exact h
  lps := fun b r h => ⟨r, by show m0.w.heap[b]? = _; rw [ha.row b (block_lt h)]; exact h⟩
  rest := ⟨ha.rest.1, ha.rest.2.1⟩
  iss := fun id g h => .inl h
  size := ha.size
  shape := fun b cs T fz h => ⟨cs, fz, by show m0.w.heap[b]? = _; rw [ha.row b (block_lt h)]; exact h, rfl⟩
  keepS := fun b h _ => ha.row b h
  keep := fun b hb hn => ⟨fun hx => by
   rcases hx with hx | ⟨id, o, x, g1, g2, g3⟩
   ·exact hn (.inl hx)
   ·rcases beside_get g1 with ⟨q1, o0, q2, rfl⟩ | ⟨q1, q2⟩
    ·rw [at0 q1 q2] at g3
     have := ha.new _ _ _ _ q2 g3
     omega
    ·rw [at1 q1] at g3
     exact hn (.inr ⟨id, o, x, q2, g2, g3⟩), ha.row b hb⟩
  live := fun id o' ho hg => by
   rcases beside_get ho with ⟨q1, o0, q2, rfl⟩ | ⟨q1, q2⟩
   ·have := ha.rel.iss _ _ q2
    rw [ha.iss] at this
    exact absurd hg (hf _ _ (by simp [shiftO]) (by simp [shiftO]; omega))
   ·exact ⟨o', q2, rfl, at1 q1, Nat.le_refl _, rfl⟩
  old := fun id o b x ho hx hb => by
   rcases beside_get ho with ⟨q1, o0, q2, rfl⟩ | ⟨q1, q2⟩
   ·rw [at0 q1 q2] at hx
    have := ha.new _ _ _ _ q2 hx
    omega
   ·rw [at1 q1] at hx; exact ⟨o, x, q2, hx⟩ }
 refine ⟨⟨fun g => (h1.glob g).mono e, fun id o ho => ?_, fun id o ho hx => ?_, fun id o b base ho hx => ?_, fun i j oi oj b x y hi hj hx hy => ?_, fun b hb => Nat.lt_of_lt_of_le (h1.sub b hb) ha.size⟩, e⟩
 ·rcases beside_get ho with ⟨q1, o0, q2, rfl⟩ | ⟨q1, q2⟩
  ·have := ha.rel.iss _ _ q2
   rw [ha.iss] at this
   exact .inr (by simp [shiftO]; omega)
  ·exact .inl (h1.iss _ _ q2)
 ·rcases beside_get ho with ⟨q1, o0, q2, rfl⟩ | ⟨q1, q2⟩
  ·rw [at0 q1 q2] at hx
   have := ha.rel.none_ _ _ q2 hx
   simp [shiftO, this, shiftVs]
  ·rw [at1 q1] at hx; exact h1.none_ _ _ q2 hx
 ·rcases beside_get ho with ⟨q1, o0, q2, rfl⟩ | ⟨q1, q2⟩
  ·rw [at0 q1 q2] at hx
   obtain ⟨g1, gr⟩ := ha.rel.obj _ _ _ _ q2 hx
   refine ⟨fun hS => g1 (.inl hS), ?_⟩
   have gr0 := gr
   unfold RowAt at gr
   split at gr
   ·rename_i s pos hcs
    have : (shiftO n c o0).cells = [.itc s pos] := by simp [shiftO, hcs, shiftVs, shiftV]
    rw [this]; exact gr
   ·rename_i ks vs bs clock hcs
    have : (shiftO n c o0).cells = [.mpc ks (shiftVs n c vs) bs clock] := by simp [shiftO, hcs, shiftVs, shiftV]
    rw [this]
    obtain ⟨gb, es, ge, gm⟩ := gr
    refine ⟨gb, es, ge, gm.lk, by rw [shiftVs_eq]; simpa using gm.lv, gm.lb, fun j k x hk hx => (gm.key j k x hk hx).mono fun b _ hb => ⟨fun hx => hb (besideM_av hx), rfl⟩, fun j v x hv hx => ?_, gm.born⟩
    rw [shiftVs_eq, List.getElem?_map] at hv
    cases hc : vs[j]? with
    | none => simp [hc] at hv
    | some u => simp [hc] at hv; subst hv; exact (gm.val j u x hc hx).shift h1 ha hf
   ·rename_i ks vs clock hcs
    have : (shiftO n c o0).cells = [.mpa ks (shiftVs n c vs) clock] := by simp [shiftO, hcs, shiftVs, shiftV]
    rw [this]
    obtain ⟨gb, es, ge, gm⟩ := gr
    refine ⟨gb, es, ge, gm.lk, by rw [shiftVs_eq]; simpa using gm.lv, fun j k x hk hx => ?_, fun j v x hv hx => ?_⟩
    ·have h9 := (gm.key j k x hk hx).shift (n := n) h1 ha hf
     have e9 : ∀ l : List D, shiftVs n c (l.map .d) = l.map .d := fun l => by
      induction l with
      | nil => rfl
      | cons a r ih => simp only [List.map_cons, shiftVs, shiftV, ih]
     simp only [shiftV, e9] at h9
     exact h9
    ·rw [shiftVs_eq, List.getElem?_map] at hv
     cases hc : vs[j]? with
     | none => simp [hc] at hv
     | some u => simp [hc] at hv; subst hv; exact (gm.val j u x hc hx).shift h1 ha hf
   ·rename_i ks vs clock hcs
    have : (shiftO n c o0).cells = [.mpq ks (shiftVs n c vs) clock] := by simp [shiftO, hcs, shiftVs, shiftV]
    rw [this]
    obtain ⟨gb, es, ge, ks', vs', bs', gm, gq⟩ := gr
    refine ⟨gb, es, ge, ks', shiftVs n c vs', bs', ⟨gm.lk, by rw [shiftVs_eq]; simpa using gm.lv, gm.lb, fun j k x hk hx => (gm.key j k x hk hx).mono fun b _ hb => ⟨fun hx => hb (besideM_av hx), rfl⟩, fun j v x hv hx => ?_, gm.born⟩, by rw [shiftVs_eq, shiftVs_eq]; exact gq.map _⟩
    rw [shiftVs_eq, List.getElem?_map] at hv
    cases hc : vs'[j]? with
    | none => simp [hc] at hv
    | some u => simp [hc] at hv; subst hv; exact (gm.val j u x hc hx).shift h1 ha hf
   ·rename_i mid mg since seen last hcs
    have : (shiftO n c o0).cells = [.itm (mid + n) (mg + c) since seen last] := by simp [shiftO, hcs, shiftVs, shiftV]
    rw [this]
    obtain ⟨gb, bm, ge, gm⟩ := gr
    exact ⟨gb, bm, ge, gm.shift h1 ha hf⟩
   ·rename_i st pend fid env ps asg body hcs
    have : (shiftO n c o0).cells = [.lp st pend fid (shiftE n c env) ps asg body] := by simp [shiftO, hcs, shiftVs, shiftV]
    rw [this]
    obtain ⟨gb, r, ge, gm⟩ := gr
    exact ⟨gb, r, ge, gm.st, gm.pend, gm.ps, gm.asg, gm.body, fun t => by rw [shiftE_get]; exact (gm.env t).shift h1 ha hf, gm.ok⟩
   obtain ⟨cs, T, fz, g2, g3, g4, g5⟩ := gr
   refine CellsAt.row ⟨cs, T, fz, g2, g3, by simpa [shiftO, shiftVs_eq] using g4, fun j v hv => ?_⟩
   simp only [shiftO, shiftVs_eq, List.getElem?_map] at hv
   cases hc : o0.cells[j]? with
   | none => simp [hc] at hv
   | some u =>
    simp [hc] at hv; subst hv
    obtain ⟨t1, z, t2, t3⟩ := g5 j u hc
    exact ⟨(shiftV_one n c u).trans t1, z, t2, t3.shift h1 ha hf⟩
  ·rw [at1 q1] at hx
   exact h1.other e q2 hx (ha.row b (lt1 q2 hx))
 ·rcases beside_get hi with ⟨p1, o0, p2, rfl⟩ | ⟨p1, p2⟩ <;> rcases beside_get hj with ⟨q1, o1, q2, rfl⟩ | ⟨q1, q2⟩
  ·rw [at0 p1 p2] at hx; rw [at0 q1 q2] at hy
   have := ha.rel.inj _ _ _ _ b x y p2 q2 hx hy
   omega
  ·rw [at0 p1 p2] at hx; rw [at1 q1] at hy
   have h3 := ha.new _ _ _ _ p2 hx
   have h4 := lt1 q2 hy
   omega
  ·rw [at1 p1] at hx; rw [at0 q1 q2] at hy
   have h3 := ha.new _ _ _ _ q2 hy
   have h4 := lt1 p2 hx
   omega
  ·rw [at1 p1] at hx; rw [at1 q1] at hy
   exact h1.inj _ _ _ _ b x y p2 q2 hx hy

/-- Memory that a callee sees that is handed data alone. -/
def bareM (w : World) : M := ⟨fun _ => none, fun _ => none, fun _ g => g < 0, w⟩

theorem bareM_av {T : Nat → Prop} {w : World} {b : Nat} : (bareM w).av T b ↔ T b := by
 constructor
 ·rintro (h | ⟨id, o, x, h1, _⟩)
  ·exact h
  ·simp [bareM] at h1
 ·exact .inl

theorem bareM_glob [Gl] {S : Nat → Prop} {m : M} (hR : Rel S m) (g : Nat) : RV (m.av S) (bareM m.w) (Gl.gv g) (.pointer (some ⟨g, 0, none⟩)) := by
 have h := hR.glob g
 rcases Gl.ok g with hg | ⟨ds, hg⟩
 ·rw [hg]; exact .any _
 ·rw [hg] at h ⊢
  cases h with
  | vref f h1 h2 =>
   refine .vref f (fun j d hd => ⟨fun hb => (h1 j d hd).1 (bareM_av.1 hb), (h1 j d hd).2⟩) fun j d hd => ?_
   exact (h2 j d hd).mono fun b _ hb => ⟨fun hx => hb (bareM_av.1 hx), rfl⟩

theorem bareM_rel [Gl] {T : Nat → Prop} {w : World} (hgl : ∀ g, RV T (bareM w) (Gl.gv g) (.pointer (some ⟨g, 0, none⟩))) (h : ∀ b, T b → b < w.heap.size) : Rel T (bareM w) :=
 ⟨hgl, fun id o h => by simp [bareM] at h, fun id o h => by simp [bareM] at h, fun id o b base h => by simp [bareM] at h, fun i j oi oj b x y h => by simp [bareM] at h, h⟩

theorem apart_of [Gl] {m1 m0 : M} {k : Nat} (h1 : Rel S m1) (h2 : Rel (m1.av S) m0) (h3 : Evo (m1.av S) (bareM m1.w) m0) (h4 : m0.iss = fun _ g => g < k) : Apart S m1 m0 k := by
 have row : ∀ b, b < m1.w.heap.size → m0.w.heap[b]? = m1.w.heap[b]? := fun b hb => by
  by_cases hS : m1.av S b
  ·exact h3.keepS b hb hS
  ·exact (h3.keep b hb (fun h => hS (bareM_av.1 h))).2
 refine ⟨h2, h4, h3.size, row, fun id o b x ho hx => ?_, h3.rest.1, h3.rest.2, fun a ha => by simp [World.frozen?, row _ ha]⟩
 ·rcases Nat.lt_or_ge b m1.w.heap.size with h | h
  ·obtain ⟨o0, y, g1, _⟩ := h3.old id o b x ho hx h
   simp [bareM] at g1
  ·exact h

/-- What has come back from a call to which the memory was handed. -/
theorem Back.after [Gl] {S : Nat → Prop} {m m' : M} {hp : Hp} {n c : Nat} {r0 : CR} {x : Value} (hb : Back S m r0 x m') (hh : m.h = hp.get) (hi : m.iss = fun _ g => g < c) (ht : Tops hp n) (hl : LogOK hp n c r0) :
  After S m c ⟨r0.v, wrOf r0.hp.get (r0.wl ++ (List.range (r0.n - n)).map (n + ·)), [], r0.n - n, r0.c - c, true⟩ x m' := by
 obtain ⟨k1, k2, k3, k4, k5⟩ := hb
 obtain ⟨l1, l2, l3, l4, l5⟩ := hl
 refine ⟨k1, k2, k3, ?_, ?_⟩
 ·rw [k4]
  funext id
  rw [hupd_wrOf, hh]
  by_cases hm : id ∈ r0.wl ++ (List.range (r0.n - n)).map (n + ·)
  ·cases hg : r0.hp.get id with
   | some o => simp [hm]
   | none =>
    simp
    rcases Nat.lt_or_ge id n with hlt | hge
    ·exact (l5 id hlt hg).symm
    ·exact (ht id hge).symm
  ·rw [if_neg (fun h => hm h.1)]
   simp only [List.mem_append, List.mem_map, List.mem_range, not_or, not_exists, not_and] at hm
   rcases Nat.lt_or_ge id n with hlt | hge
   ·exact l4 id hlt hm.1
   ·rw [ht id hge]
    refine l3 id ?_
    rcases Nat.lt_or_ge id r0.n with h1 | h1
    ·exact absurd (show n + (id - n) = id by omega) (hm.2 (id - n) (by omega))
    ·exact h1
 ·rw [k5, hi]
  funext id g
  apply propext
  show g < r0.c ↔ g < c ∨ (c ≤ g ∧ g < c + (r0.c - c))
  omega

/-- A call does what the abstract machine says. -/
theorem callR_sound [Gl] {cfg : Cfg} {call : CallF} (hc : CallOK P call) {hp : Hp} {n c : Nat} {f : FuncId} {vs : List V} {xs : List Value} {r : Res} (h : callR cfg call hp n c f vs = some r) (ht : Tops hp n)
  (hag : Agree hp.get m.h r.rd) (hall : r.all = true → m.h = hp.get ∧ m.iss = fun _ g => g < c) (hf : Fresh m c r.dc) (hR : Rel S m) (hv : RVs S m vs xs) :
  Calls P f xs.toArray m.w (fun e w' => ∃ x m', e = .returned x ∧ m'.w = w' ∧ After S m c r x m') := by
 unfold callR at h
 split at h
 ·rename_i ws ids hcl
  split at h
  ·rename_i r0 hr0
   -- the arguments, closed
   have hids : r.rd = ids := by
    split at h <;> (simp only [Option.some.injEq] at h; subst h; rfl)
   rw [hids] at hag
   have hro : roOf hp.get ids = roOf m.h ids := roOf_loc hag
   have hcl' : closeArgs m.h vs = some (ws, ids) := by
    by_cases hthr : cfg.thr f = true
    ·rw [if_pos hthr] at hcl
     exact closeVs_loc hcl fun v w a g1 g2 => closeA_noLook_any g1
    ·rw [if_neg hthr] at hcl
     exact closeVs_loc hcl fun v w a g1 g2 => closeA_loc g1 (hag.mono g2)
   obtain ⟨m1, e1, hb⟩ := ros hR ids
   have hws : RVs S m1 ws xs := closeVs_sound (fun g1 g2 g3 => closeA_sound hR g1 g2 hb g3) hcl' hv (fun i hi => hi)
   have hsh : ws.all V.shut2 = true := closeVs_shut (fun v w r h => closeA_shut h) hcl'
   have hws0 : RVs (m1.av S) (bareM m1.w) ws xs := by
    refine ⟨hws.1, fun j a b ha hb' => (hws.2 j a b ha hb').shut2 (fun x y g => ?_) (List.all_eq_true.1 hsh a (List.mem_of_getElem? ha))⟩
    exact g.mono fun b _ hn => ⟨fun hx => hn (bareM_av.1 hx), rfl⟩
   have hcall := hc.ok hr0 (fun _ _ => rfl) (S := m1.av S) (m := bareM m1.w) rfl rfl (bareM_rel (bareM_glob hb.rel) fun b hb' => hb.rel.av_lt hb') hws0
   rw [show (bareM m1.w).w = m.w from hb.w] at hcall
   refine Calls.mono hcall ?_
   rintro e w' ⟨x, m0, rfl, rfl, k1, k2, k3, k4, k5⟩
   have ha := apart_of hb.rel k1 k2 k5
   split at h
   ·rename_i q hq
    simp only [Option.some.injEq] at h; subst h
    cases hfl : r0.v.flat with
    | true =>
     obtain ⟨g1, g2⟩ := hR.grown (w' := m0.w) (by rw [← hb.w]; exact ha.size) (fun b hb' => by rw [← hb.w] at hb' ⊢; exact ha.row b hb') (by rw [← hb.w]; exact ha.rest)
     exact ⟨x, { m with w := m0.w }, rfl, rfl, g1, g2, k3.flat hfl, by simp [hfl, hupd], (iss_zero m c).symm⟩
    | false =>
     obtain ⟨g1, g2⟩ := hb.rel.grown ha.size ha.row ha.rest
     refine ⟨x, { m1 with w := m0.w }, rfl, rfl, g1, hb.evo.trans g2, k3.shut (fun x y g => ?_) (closeT_noLook hq), ?_, ?_⟩
     ·exact g.mono fun b _ hn => ⟨fun hx => hn (.inl hx), rfl⟩
     ·simp only [hfl]; rw [hro]; exact e1
     ·simp only [hb.iss]; exact (iss_zero m c).symm
   ·simp only [Option.some.injEq] at h; subst h
    have hf1 : ∀ id g, c ≤ g → g < c + r0.c → ¬ m1.iss id g := fun id g q1 q2 => by rw [hb.iss]; exact hf id g q1 q2
    obtain ⟨g1, g2⟩ := besideM_ok (n := n) hb.rel ha hf1
    refine ⟨x, besideM n c r0.c m1 m0, rfl, rfl, g1, hb.evo.trans g2, k3.shift hb.rel ha hf1, ?_, ?_⟩
    ·show beside n c m0.h m1.h = _
     rw [hupd_append, hro, ← e1, hupd_shiftH (hc.log hr0 (fun _ _ => rfl)).top, k4]
    ·show (fun id g => m1.iss id g ∨ _) = _
     rw [hb.iss]
  ·simp at h
 ·rename_i hcl
  split at h
  ·rename_i r0 hr0
   simp only [Option.some.injEq] at h; subst h
   obtain ⟨hh, hi⟩ := hall rfl
   refine Calls.mono (hc.ok hr0 ht hh hi hR hv) ?_
   rintro e w' ⟨x, m', rfl, rfl, k1, k2, k3, k4, k5⟩
   exact ⟨x, m', rfl, rfl, Back.after ⟨k1, k2, k3, k4, k5⟩ hh hi ht (hc.log hr0 ht)⟩
  ·simp at h

end

end Go.Ac
end

section
namespace Go.Ac
variable {P : Program}

/-- What an operation does hangs on its operands alone. -/
theorem step_congr [Gl] {fz fs : Bool} {ρ ρ' : Operand → V} {look : Look} {n c : Nat} {op : Op} (h : ∀ x ∈ op.operands, ρ x = ρ' x) : step P fz fs ρ look n c op = step P fz fs ρ' look n c op := by
 have pairs : ∀ ps : Array (Nat × Operand), (∀ x ∈ (ps.toList.map (·.2)).toArray, ρ x = ρ' x) → (ps.toList.map fun p => (p.1, ρ p.2)) = ps.toList.map fun p => (p.1, ρ' p.2) := fun ps hp =>
  List.map_congr_left fun p hm => by rw [hp p.2 (by simp only [List.mem_toArray]; exact List.mem_map_of_mem hm)]
 cases op <;> simp only [Op.operands] at h <;> simp only [step]
 case build t ps => rw [pairs ps h]
 case buildSlice t n ps => rw [pairs ps h]
 case makeFunc fn first caps =>
  cases fn <;> try rfl
  simp only [step]
  have h1 : ∀ x, x ∈ first.toList → ρ x = ρ' x := fun x hx => h x (by simp at hx ⊢; exact .inl hx)
  have h2 : ∀ x, x ∈ caps.toList → ρ x = ρ' x := fun x hx => h x (by simp at hx ⊢; exact .inr hx)
  split
  ·rw [List.map_congr_left (f := ρ) (g := ρ') fun x hx => h2 x hx]
  ·rename_i x hf hc
   rw [h1 x (by rw [hf]; simp)]
  ·rfl
 case call cl =>
  obtain ⟨callee, args, ts⟩ := cl
  cases callee <;> try rfl
  simp only [step]
  rw [List.map_congr_left (f := ρ) (g := ρ') (l := args.toList) fun x hx => h x (by simp [Call.operands] at hx ⊢; exact hx)]
 case makeMap t q => cases q <;> rfl
 case next x b => cases b <;> simp_all
 case slice t x lo hi mx => cases lo <;> cases hi <;> cases mx <;> simp_all
 all_goals (first | rfl | (simp_all; done))

/-- The values of the slots that an operation looks at. -/
def EnvAt [Gl] (S : Nat → Prop) (m : M) (e : Env) (a : Act) (ts : List Nat) : Prop := ∀ t ∈ ts, RV S m (e.get t) (a.tmps.getD t undef)

section
variable {S : Nat → Prop} {m : M}

theorem opdSlots_of {o : Oper} {all : List Oper} {t : Nat} (h : Operand.tmp t ∈ o.op.operands) : t ∈ opdSlots o all :=
 List.mem_append_left _ (List.mem_filterMap.2 ⟨.tmp t, by simpa using h, rfl⟩)

theorem evalV_RV [Gl] {e : Env} {a : Act} {ts : List Nat} (hR : Rel S m) (he : EnvAt S m e a ts) {x : Operand} (hx : ∀ t, x = .tmp t → t ∈ ts) : RV S m (evalV e x) (a.eval x) := by
 cases x with
 | tmp t => exact he t (hx t rfl)
 | const v => exact constV_RV v
 | global g => exact hR.glob g
 | func f => exact .fn rfl (fun j x y hx => by simp at hx)

theorem undef_not_bool (b : Bool) : undef ≠ Value.bool b := by unfold undef; intro h; cases h

theorem wantedV_sound [Gl] {ops : Array Oper} {o : Oper} {e : Env} {a : Act} {b : Bool} (h : wantedV ops.toList e o = some b) (he : EnvAt S m e a (opdSlots o ops.toList)) :
  Region.wanted o (yielded ops a.tmps) = b := by
 unfold wantedV at h
 unfold Region.wanted
 cases hg : o.guard with
 | none => simp [hg] at h; subst h; rfl
 | some gw =>
  obtain ⟨j, want⟩ := gw
  simp only [hg, Array.getElem?_toList] at h
  cases hj : ops[j]? with
  | none => simp [hj] at h
  | some g =>
   simp only [hj] at h
   cases hd : g.dst with
   | none => simp [hd] at h
   | some d =>
    simp only [hd] at h
    have hsl : d ∈ opdSlots o ops.toList := List.mem_append_right _ (by simp [hg, hj, hd])
    have hr := he d hsl
    have hy : yielded ops a.tmps j = match a.tmps[d]? with | some (.bool b) => some b | _ => none := by simp [yielded, hj, hd]; rfl
    simp only [hy]
    split at h
    ·rename_i q hq
     simp at h; subst h
     rw [hq] at hr
     cases hr with
     | d hr =>
      cases htd : a.tmps[d]? with
      | none =>
       have : a.tmps.getD d undef = undef := by simp [htd]
       rw [this] at hr
       generalize hu : undef = u at hr
       cases hr
       exact absurd hu (undef_not_bool _)
      | some v =>
       have : a.tmps.getD d undef = v := by simp [htd]
       rw [this] at hr
       cases hr
       simp
    ·rename_i hq
     simp at h; subst h
     rw [hq] at hr
     cases htd : a.tmps[d]? with
     | none => simp
     | some v =>
      have : a.tmps.getD d undef = v := by simp [htd]
      rw [this] at hr
      cases hr
      simp [undef]
    ·simp at h

/-- No function of the program carries the one name that is met otherwise. -/
def NoCount (P : Program) : Prop := ∀ (f : FuncId) (fn : Func), P.funcs[f]? = some fn → fn.body.isSome = true → (fn.name == "runtime.NumGoroutine") = false

theorem callFunc_run (hN : NoCount P) {f : FuncId} {fn : Func} {args : Array Value} {w : World} (hf : P.funcs[f]? = some fn) (hb : fn.body.isSome = true) : (callFunc f args).run P w = .ok (.enter f args) w := by
 have h1 := hN f fn hf hb
 have h2 : fn.body.isNone = false := by cases hbb : fn.body <;> simp_all
 unfold callFunc
 simp only [program, bind, Sem.bind, Sem.run, hf, h1, h2]
 simp [pure, Sem.run]

/-- A call of a function value. -/
theorem call_run (hN : NoCount P) {σ : Operand → Value} {dst : Option Tmp} {fo : Operand} {args : Array Operand} {ts : Array TypeId} {ty : TypeId} {pos : String} {af : Array Edge} {gd : Option (Nat × Bool)} {f : FuncId} {caps : Array Value} {fn : Func} {w : World}
  (hσ : σ fo = .func (.func f) #[] caps) (hf : P.funcs[f]? = some fn) (hb : fn.body.isSome = true) :
  (execOp σ ⟨dst, .call ⟨.value fo, args, ts⟩, ty, pos, af, gd⟩).run P w = .ok (.enter f (args.map σ ++ caps)) w := by
 simp only [execOp, resolve, hσ, Deferred.ofValue, invoke, Sem.run_bind, Sem.run_pure, Result.andThen_ok]
 rw [show (#[] : Array Value) ++ args.map σ = args.map σ by simp]
 exact callFunc_run hN hf hb

end

/-- A call of a loop's yield. -/
theorem yield_run {σ : Operand → Value} {dst : Option Tmp} {fo : Operand} {args : Array Operand} {ts : Array TypeId} {ty : TypeId} {pos : String} {af : Array Edge} {gd : Option (Nat × Bool)} {b : Nat} {rec : Loop} {w : World}
  (hσ : σ fo = .func (.yield b) #[] #[]) (hb : w.heap[b]? = some (Obj.loop rec)) (hp : rec.params.size = args.size) :
  (execOp σ ⟨dst, .call ⟨.value fo, args, ts⟩, ty, pos, af, gd⟩).run P w = .ok (.round b rec.fn (roundTmps rec.params rec.tmps (args.map σ)) rec.assign rec.body) w := by
 have h1 : b < w.heap.size := block_lt hb
 have h2 : w.heap[b] = Obj.loop rec := (Array.getElem?_eq_some_iff.1 hb).2
 simp only [execOp, resolve, hσ, Deferred.ofValue, invoke, Sem.run_bind, Sem.run_pure, Result.andThen_ok]
 simp [Instr.yield, Instr.getLoop, getObj, Sem.run, Result.andThen, h1, h2, hp, roundTmps]

/-- A call has a body to run. -/
def Bodies (P : Program) (call : CallF) : Prop := ∀ {f : FuncId} {vs : List V} {hp : Hp} {n c : Nat} {r : CR}, call f vs hp n c = some r → ∃ fn, P.funcs[f]? = some fn ∧ fn.body.isSome = true

/-- Calls that are taken as one operation do what that operation does. -/
def PrimOK [Gl] (P : Program) (cfg : Cfg) : Prop := ∀ (f : FuncId) (p : PK), cfg.prim f = some p → (∃ fn, P.funcs[f]? = some fn ∧ fn.body.isSome = true) ∧
 ∀ {S : Nat → Prop} {m : M} {n c : Nat} {vs : List V} {xs : List Value} {r : Res}, primV m.h n c p vs = some r → Rel S m → Fresh m c r.dc → (r.all = true → (∃ hp : Hp, m.h = hp.get ∧ Tops hp n) ∧ m.iss = fun _ g => g < c) → RVs S m vs xs →
  Calls P f xs.toArray m.w (fun e w' => ∃ x m', e = .returned x ∧ m'.w = w' ∧ After S m c r x m')

structure Pre [Gl] (P : Program) (cfg : Cfg) : Prop where
 nc : NoCount P
 prim : PrimOK P cfg

theorem callR_body {cfg : Cfg} {call : CallF} (hB : Bodies P call) {hp : Hp} {n c : Nat} {f : FuncId} {vs : List V} {r : Res} (h : callR cfg call hp n c f vs = some r) : ∃ fn, P.funcs[f]? = some fn ∧ fn.body.isSome = true := by
 unfold callR at h
 split at h <;> (split at h <;> first | (rename_i r0 hr0; exact hB hr0) | (simp at h; done))

section
variable {S : Nat → Prop} {m : M}

theorem methV_loc {l k : Look} {t : TypeId} {v : V} {name : String} {q : FuncId × V × List Nat} (h : methV P l t v name = some q) (ha : Agree l k q.2.2) : methV P k t v name = some q := by
 unfold methV at h ⊢
 split at h
 ·split at h
  ·split at h
   ·exact h
   ·split at h
    ·simp only [Option.map_eq_some_iff] at h ⊢
     obtain ⟨r, hr, rfl⟩ := h
     exact ⟨r, loadV_loc hr ha, rfl⟩
    ·simp at h
   ·simp at h
  ·simp at h
 ·simp at h

theorem meth_run [Gl] {t : TypeId} {v x : V} {name : String} {f : FuncId} {rd : List Nat} {y : Value} (h : methV P m.h t v name = some (f, x, rd)) (hR : Rel S m) (hv : RV S m v y) :
  ∃ z, (method (P.types.size + Made.depth) t y name).run P m.w = .ok (f, z) m.w ∧ RV S m x z := by
 have hsz : P.types.size + Made.depth = (P.types.size + 99) + 1 := rfl
 unfold methV at h
 split at h
 ·rename_i info hinfo
  split at h
  ·rename_i mt hmt
   split at h
   ·rename_i f0 e hp hf hu
    simp only [Option.some.injEq, Prod.mk.injEq] at h
    obtain ⟨rfl, rfl, rfl⟩ := h
    refine ⟨y, ?_, hv⟩
    rw [hsz, method]
    simp [typeInfo, hinfo, hmt, hp, follow, hf, receiverAt, run_underlying hu, Place.get]
   ·rename_i f0 e hp hf hu
    split at h
    ·rename_i i hi
     simp only [Option.map_eq_some_iff, Prod.mk.injEq] at h
     obtain ⟨r, hr, rfl, rfl, rfl⟩ := h
     obtain ⟨z, g1, g2⟩ := loadV_sound (c := 0) hi hr rfl hR hv
     have hpt : ∃ ad, y = .pointer (some ad) := by
      unfold loadV at hr
      split at hr
      ·rename_i id g off
       cases hlv : live m.h id g with
       | none => simp [hlv] at hr
       | some o =>
        obtain ⟨_, _, b, base, _, rfl⟩ := hv.ptr_live hlv
        exact ⟨_, rfl⟩
      ·cases hv with | vref f hf hr => exact ⟨_, rfl⟩
      ·simp at hr
     obtain ⟨ad, rfl⟩ := hpt
     refine ⟨z, ?_, g2.2.2.1⟩
     have g3 : (loadVar e ad).run P m.w = .ok z m.w := by simpa [Instr.loadAt, Instr.sureAddr] using g1
     rw [hsz, method]
     have hpe : mt.path = #[] := by
      cases hh : mt.path; rw [hh] at hp; simp only at hp; rw [hp]
     have hw : ∀ nm : String, (Builtin.ssaWrapNilChk_ #[t] t #[.pointer (some ad), strVal "", strVal nm]).run P m.w = .ok (.pointer (some ad)) m.w := fun _ => rfl
     simp [typeInfo, hinfo, hmt, hp, hpe, follow, hf, receiverAt, run_underlying hu, Place.get, hw, asAddr, g3]
    ·simp at h
   ·simp at h
  ·simp at h
 ·simp at h

/-- One operation, wanted or not. -/
theorem opW_sound [Gl] {oR : Option Nat} {cfg : Cfg} (hN : Pre P cfg) {fid rid : Nat} {call : CallF} (hc : CallOK P call) (hB : Bodies P call) {ops : Array Oper} {o : Oper} {s : St} {r : Res} {i : Nat} {a : Act}
  (hi : ops[i]? = some o) (h : opW P cfg fid rid call ops.toList o s = some r) (ht : Tops s.hp s.n) (hag : Agree s.hp.get m.h r.rd)
  (hall : r.all = true → m.h = s.hp.get ∧ m.iss = fun _ g => g < s.c) (hf : Fresh m s.c r.dc) (hR : Rel S m) (he : EnvAt S m s.env a (opdSlots o ops.toList))
  {Q : Exit → Act → World → Prop} {K : Act → World → Prop} (hK : ∀ x m', After S m s.c r x m' → K (a.put o.dst x) m'.w) : wpOpIn (Fw oR) 0 P ops Q i K a m.w := by
 unfold wpOpIn
 simp only [hi]
 unfold opW at h
 split at h
 ·rename_i hw
  rw [if_pos (wantedV_sound hw he)]
  refine ⟨fun _ _ => trivial, ?_⟩
  split at h
  ·rename_i q hq
   split at h
   ·simp only [Option.some.injEq] at h; subst h
    unfold opR at hq
    split at hq
    ·rename_i fo args ts ho
     split at hq
     ·rename_i f caps hfo
      have hslot : ∀ x ∈ o.op.operands, RV S m (evalV s.env x) (a.eval x) := fun x hx => evalV_RV hR he fun t ht => by subst ht; exact opdSlots_of hx
      have hfv : RV S m (evalV s.env fo) (a.eval fo) := hslot fo (by rw [ho]; simp [Op.operands, Call.operands])
      rw [hfo] at hfv
      have hbd : ∃ fn, P.funcs[f]? = some fn ∧ fn.body.isSome = true := by
       split at hq
       ·rename_i p hp; exact (hN.prim f p hp).1
       ·exact callR_body hB hq
      obtain ⟨fn, hfn, hbody⟩ := hbd
      generalize hv : a.eval fo = v at hfv
      cases hfv with
      | @fn _ _ cs hl hcs =>
       have hrun : (execOp a.eval o).run P m.w = .ok (.enter f (args.map a.eval ++ cs)) m.w := by
        obtain ⟨dst, op, ty, pos, af, gd⟩ := o
        simp only at ho; subst ho
        exact call_run hN.nc hv hfn hbody
       rw [Oper.semAt_eq _ _ _ (fun c hc => by rw [ho] at hc; cases hc), hrun, Oper.uponIn_enter]
       refine ⟨fun h => by simp [Fw, Fence.wide] at h, callsIn_Fw.2 ?_⟩
       have hvs : RVs S m (args.toList.map (evalV s.env) ++ caps) (args.toList.map a.eval ++ cs.toList) := by
        refine RVs.append ?_ ⟨by simpa using hl, fun j x y hx hy => hcs j x y hx (by simpa using hy)⟩
        refine ⟨by simp, fun j x y hx hy => ?_⟩
        rw [List.getElem?_map] at hx hy
        cases hj : args.toList[j]? with
        | none => simp [hj] at hx
        | some z =>
         simp [hj] at hx hy; subst hx; subst hy
         exact hslot z (by rw [ho]; simp only [Op.operands, Call.operands]; simp; exact .inr (by simpa using List.mem_of_getElem? hj))
       have : Calls P f (args.toList.map a.eval ++ cs.toList).toArray m.w (fun e w' => ∃ x m', e = .returned x ∧ m'.w = w' ∧ After S m s.c q x m') := by
        split at hq
        ·rename_i p hp; exact (hN.prim f p hp).2 (primV_loc hq hag) hR hf (fun ha => ⟨⟨s.hp, (hall ha).1, ht⟩, (hall ha).2⟩) hvs
        ·exact callR_sound hc hq ht hag hall hf hR hvs
       rw [show (args.toList.map a.eval ++ cs.toList).toArray = args.map a.eval ++ cs by apply Array.ext'; simp] at this
       refine Calls.mono this ?_
       rintro e w' ⟨x, m', rfl, rfl, hA⟩
       exact hK x m' hA
     ·rename_i id g hfo
      have hslot : ∀ x ∈ o.op.operands, RV S m (evalV s.env x) (a.eval x) := fun x hx => evalV_RV hR he fun t ht => by subst ht; exact opdSlots_of hx
      have hfv : RV S m (evalV s.env fo) (a.eval fo) := hslot fo (by rw [ho]; simp [Op.operands, Call.operands])
      rw [hfo] at hfv
      unfold yieldR at hq
      split at hq
      ·rename_i r0 hr0
       simp only [Option.some.injEq] at hq; subst hq
       obtain ⟨hh, hi⟩ := hall rfl
       have hvs : RVs S m (args.toList.map (evalV s.env)) (args.toList.map a.eval) := by
        refine ⟨by simp, fun j x y hx hy => ?_⟩
        rw [List.getElem?_map] at hx hy
        cases hj : args.toList[j]? with
        | none => simp [hj] at hx
        | some z =>
         simp [hj] at hx hy; subst hx; subst hy
         exact hslot z (by rw [ho]; simp only [Op.operands, Call.operands]; simp; exact .inr (by simpa using List.mem_of_getElem? hj))
       obtain ⟨ob, b, rec, q1, q2, q3, q4, q5, q6⟩ := hc.yok hr0 ht hh hi hR hvs
       generalize hv : a.eval fo = v at hfv
       cases hfv with
       | yd h1 h2 h3 =>
        obtain ⟨_, b', hb', rfl⟩ := h3 ob q1 q2
        rw [q3] at hb'
        simp only [Option.some.injEq, Prod.mk.injEq, and_true] at hb'
        subst hb'
        have hrun : (execOp a.eval o).run P m.w = .ok (.round b rec.fn (roundTmps rec.params rec.tmps (args.map a.eval)) rec.assign rec.body) m.w := by
         obtain ⟨dst, op, ty, pos, af, gd⟩ := o
         simp only at ho; subst ho
         exact yield_run hv q4 (by simpa using q5)
        rw [Oper.semAt_eq _ _ _ (fun c hc => by rw [ho] at hc; cases hc), hrun, Oper.uponIn_round]
        refine ⟨fun h => by simp [Fw, Fence.wide] at h, ?_⟩
        rw [show (args.toList.map a.eval).toArray = args.map a.eval by apply Array.ext'; simp] at q6
        refine RoundIn.mono (roundIn_Fw q6) ?_
        rintro e w' ⟨x, m', rfl, rfl, hA⟩
        exact hK x m' (hA.after hh hi ht (hc.ylog hr0 ht))
      ·simp at hq
     ·rename_i f x hfo
      have hslot : ∀ x ∈ o.op.operands, RV S m (evalV s.env x) (a.eval x) := fun x hx => evalV_RV hR he fun t ht => by subst ht; exact opdSlots_of hx
      have hfv : RV S m (evalV s.env fo) (a.eval fo) := hslot fo (by rw [ho]; simp [Op.operands, Call.operands])
      rw [hfo] at hfv
      obtain ⟨fn, hfn, hbody⟩ := callR_body hB hq
      generalize hv : a.eval fo = v at hfv
      cases hfv with
      | @mv _ _ y hy =>
       have hrun : (execOp a.eval o).run P m.w = .ok (.enter f (#[y] ++ args.map a.eval)) m.w := by
        obtain ⟨dst, op, ty, pos, af, gd⟩ := o
        simp only at ho; subst ho
        simp only [execOp, resolve, hv, Deferred.ofValue, invoke, Sem.run_bind, Sem.run_pure, Result.andThen_ok]
        rw [show #[y] ++ args.map a.eval ++ #[] = #[y] ++ args.map a.eval by simp]
        exact callFunc_run hN.nc hfn hbody
       rw [Oper.semAt_eq _ _ _ (fun c hc => by rw [ho] at hc; cases hc), hrun, Oper.uponIn_enter]
       refine ⟨fun h => by simp [Fw, Fence.wide] at h, callsIn_Fw.2 ?_⟩
       have hvs : RVs S m (x :: args.toList.map (evalV s.env)) (y :: args.toList.map a.eval) := by
        refine .cons hy ⟨by simp, fun j x y hx hy => ?_⟩
        rw [List.getElem?_map] at hx hy
        cases hj : args.toList[j]? with
        | none => simp [hj] at hx
        | some z =>
         simp [hj] at hx hy; subst hx; subst hy
         exact hslot z (by rw [ho]; simp only [Op.operands, Call.operands]; simp; exact .inr (by simpa using List.mem_of_getElem? hj))
       have := callR_sound hc hq ht hag hall hf hR hvs
       rw [show (y :: args.toList.map a.eval).toArray = #[y] ++ args.map a.eval by apply Array.ext'; simp] at this
       refine Calls.mono this ?_
       rintro e w' ⟨x, m', rfl, rfl, hA⟩
       exact hK x m' hA
     ·simp at hq
    ·rename_i rv name args ts ho
     have hslot : ∀ x ∈ o.op.operands, RV S m (evalV s.env x) (a.eval x) := fun x hx => evalV_RV hR he fun t ht => by subst ht; exact opdSlots_of hx
     unfold invokeR at hq
     split at hq
     ·rename_i t v hrv
      split at hq
      ·rename_i f x rd hm
       split at hq
       ·rename_i q0 hq0
        simp only [Option.some.injEq] at hq; subst hq
        have hfv : RV S m (evalV s.env rv) (a.eval rv) := hslot rv (by rw [ho]; simp [Op.operands, Call.operands])
        rw [hrv] at hfv
        obtain ⟨fn, hfn, hbody⟩ := callR_body hB hq0
        generalize hv : a.eval rv = av at hfv
        cases hfv with
        | @ifc _ _ y hy =>
         obtain ⟨z, hz, hz2⟩ := meth_run (P := P) (methV_loc hm (hag.mono fun i hi => List.mem_append_left _ hi)) hR hy
         have hrun : (execOp a.eval o).run P m.w = .ok (.enter f (#[z] ++ args.map a.eval)) m.w := by
          obtain ⟨dst, op, ty, pos, af, gd⟩ := o
          simp only at ho; subst ho
          have e0 : (#[Value.iface t y] ++ args.map a.eval)[0]? = some (Value.iface t y) := by rw [Array.getElem?_append_left (by simp)]; rfl
          have e1 : (#[Value.iface t y] ++ args.map a.eval).extract 1 (#[Value.iface t y] ++ args.map a.eval).size = args.map a.eval := by
           apply Array.ext'; simp [List.take_of_length_le]
          simp only [execOp, resolve, hv, invoke, Sem.run_bind, Sem.run_pure, Result.andThen_ok, e0, e1, callMethod, run_program, hz]
          exact callFunc_run hN.nc hfn hbody
         rw [Oper.semAt_eq _ _ _ (fun c hc => by rw [ho] at hc; cases hc), hrun, Oper.uponIn_enter]
         refine ⟨fun h => by simp [Fw, Fence.wide] at h, callsIn_Fw.2 ?_⟩
         have hvs : RVs S m (x :: args.toList.map (evalV s.env)) (z :: args.toList.map a.eval) := by
          refine .cons hz2 ⟨by simp, fun j x y hx hy => ?_⟩
          rw [List.getElem?_map] at hx hy
          cases hj : args.toList[j]? with
          | none => simp [hj] at hx
          | some z =>
           simp [hj] at hx hy; subst hx; subst hy
           exact hslot z (by rw [ho]; simp only [Op.operands, Call.operands]; simp; exact .inr (by simpa using List.mem_of_getElem? hj))
         have := callR_sound hc hq0 ht (hag.mono fun i hi => List.mem_append_right _ hi) hall hf hR hvs
         rw [show (z :: args.toList.map a.eval).toArray = #[z] ++ args.map a.eval by apply Array.ext'; simp] at this
         refine Calls.mono this ?_
         rintro e w' ⟨x, m', rfl, rfl, hA⟩
         exact hK x m' hA
       ·simp at hq
      ·simp at hq
     ·simp at hq
    ·rename_i hno _
     classical
     let ρ : Operand → V := fun x => if x ∈ o.op.operands then evalV s.env x else .any
     have hst : step P (cfg.fz fid rid).1 (cfg.fz fid rid).2 ρ m.h s.n s.c o.op = some q := by
      rw [← step_loc hq hag]
      exact step_congr fun x hx => by simp [ρ, hx]
     have hρ : ∀ x, RV S m (ρ x) (a.eval x) := fun x => by
      by_cases hx : x ∈ o.op.operands
      ·simp only [ρ, if_pos hx]; exact evalV_RV hR he fun t ht => by subst ht; exact opdSlots_of hx
      ·simp only [ρ, if_neg hx]; exact .any _
     obtain ⟨x, m', hg, hA⟩ := step_sound hst (fun _ => rfl) hρ hR hf
     rw [Oper.semAt_eq _ _ _ (fun c hc => by rw [hc] at hq; simp [step] at hq)]
     rcases hg with hg | ⟨hg, rfl⟩
     ·rw [hg, Oper.uponIn_value]; exact hK x m' hA
     ·rw [hg, Oper.uponIn_skip]; exact hK _ m' hA
   ·simp at h
  ·simp at h
 ·rename_i hw
  simp only [Option.some.injEq] at h; subst h
  rw [if_neg (by rw [wantedV_sound hw he]; simp)]
  exact ⟨fun _ _ => trivial, hK undef m (After.quiet hR .undef)⟩
 ·simp at h

end

end Go.Ac
end
