/- The abstract machine: values, the relation of abstract values to the model's values, and its stability under change of memory. No conditions. -/
import Derived.Calls
import Derived.Orders
import Derived.Laws.World
import Derived.Laws.Sem
import Derived.Laws.Cells
import Derived.Laws.Append
import GoSem.ClaimData
import Derived.Laws.Tables
import Derived.Laws.Slices
set_option linter.unusedVariables false
set_option linter.unusedSimpArgs false
section
namespace Go.Ab

/-- Data: what never changes. A row is the cells of one element. -/
inductive D where
  | bool (b : Bool)
  | int (k : IntKind) (n : Int)
  | str (s : List UInt8)
  | slice (rows : List (List D))
  deriving Inhabited

/-- Values at run time. -/
inductive V where
  | any
  | undef
  | d (x : D)
  | con (v : Value)
  | full (rows : List (List D))
  | agg (cs : List V)
  | ptr (id g off : Nat)
  | osl (id g off len sz : Nat) (cap : Option Nat)
  | vref (cells : List D)
  | fn (f : FuncId) (caps : List V)
  | tuple (vs : List V)
  deriving Inhabited

/-- An object of the local memory. -/
structure Ob where
  gen : Nat
  ro : Bool
  cells : List V
  deriving Inhabited

/-- May it lie in one cell? -/
def V.one : V → Bool
  | .any | .undef | .agg _ | .tuple _ => false
  | .con v => v.oneCell'
  | _ => true

/-- A value stands for data, over memory outside 'av'. -/
inductive RD (w : World) (av : Nat → Prop) : D → Value → Prop
  | bool (b : Bool) : RD w av (.bool b) (.bool b)
  | int (k : IntKind) (n : Int) : RD w av (.int k n) (.int k n)
  | str (s : ByteArray) (l : List UInt8) (h : s.data.toList = l) : RD w av (.str l) (.string s)
  | empty (a : Option Addr) (cap : Nat) (h : cap ≤ maxLen) : RD w av (.slice []) (.slice a 0 cap)
  | slice (rows : List (List D)) (b off cap sz : Nat) (hlen : rows.length ≤ cap) (hcap : cap ≤ maxLen) (hsz : ∀ (i : Nat) (r : List D), rows[i]? = some r → r.length = sz)
      (f : Nat → Nat → Value)
      (hf : ∀ (i j : Nat) (r : List D) (d : D), rows[i]? = some r → r[j]? = some d → ¬ av b ∧ w.cell? ⟨b, off + (i * sz + j), none⟩ = some (f i j))
      (hr : ∀ (i j : Nat) (r : List D) (d : D), rows[i]? = some r → r[j]? = some d → RD w av d (f i j)) :
      RD w av (.slice rows) (.slice (some ⟨b, off, none⟩) rows.length cap)

/-- The state of memory: where the objects lie, what they hold, which names have been given out, the world. -/
structure M where
  at_ : Nat → Option (Nat × Nat)
  h : Nat → Option Ob
  iss : Nat → Nat → Prop
  w : World

/-- The blocks that data may not lie in. -/
def M.av (S : Nat → Prop) (m : M) (b : Nat) : Prop := S b ∨ ∃ id o x, m.h id = some o ∧ o.ro = false ∧ m.at_ id = some (b, x)

/-- What a live slice of an object says of its value. -/
def OslOK (m : M) (o : Ob) (id off len sz : Nat) (cap : Option Nat) (v : Value) : Prop :=
  match m.at_ id with
  | none => len = 0 ∧ off = 0 ∧ cap = none ∧ ∃ a, v = .slice a 0 0
  | some (b, base) => ∃ p k, v = .slice (some p) len k ∧ (p = ⟨b, base + off, none⟩ ∨ (len = 0 ∧ k = 0)) ∧ off + len * sz ≤ o.cells.length ∧ len ≤ k ∧ k ≤ maxLen ∧
      (∃ (cs : Array Value) (T : TypeId) (fz : Nat × Nat), m.w.heap[b]? = some (Obj.cells cs T fz) ∧ base + off + k * sz ≤ cs.size) ∧
      match cap with
      | some q => k = q ∧ off + q * sz ≤ o.cells.length
      | none => True

inductive RV (S : Nat → Prop) (m : M) : V → Value → Prop
  | any (v : Value) : RV S m .any v
  | undef : RV S m .undef undef
  | d {x : D} {v : Value} (h : RD m.w (m.av S) x v) : RV S m (.d x) v
  | con (v : Value) : RV S m (.con v) v
  | full {rows : List (List D)} {a : Option Addr} (h : RD m.w (m.av S) (.slice rows) (.slice a rows.length rows.length)) : RV S m (.full rows) (.slice a rows.length rows.length)
  | agg {cs : List V} {vs : Array Value} (hl : cs.length = vs.size) (h : ∀ (j : Nat) (x : V) (y : Value), cs[j]? = some x → vs[j]? = some y → RV S m x y) : RV S m (.agg cs) (.agg vs)
  | ptr {id g off : Nat} {v : Value} (h1 : m.iss id g) (h2 : v.oneCell' = true)
      (h : ∀ o, m.h id = some o → o.gen = g → ∃ b base, m.at_ id = some (b, base) ∧ v = .pointer (some ⟨b, base + off, none⟩)) : RV S m (.ptr id g off) v
  | osl {id g off len sz : Nat} {cap : Option Nat} {v : Value} (h1 : m.iss id g) (h2 : v.oneCell' = true)
      (h : ∀ o, m.h id = some o → o.gen = g → OslOK m o id off len sz cap v) : RV S m (.osl id g off len sz cap) v
  | vref {cells : List D} {b off : Nat} (f : Nat → Value) (hf : ∀ (j : Nat) (d : D), cells[j]? = some d → ¬ m.av S b ∧ m.w.cell? ⟨b, off + j, none⟩ = some (f j))
      (hr : ∀ (j : Nat) (d : D), cells[j]? = some d → RD m.w (m.av S) d (f j)) : RV S m (.vref cells) (.pointer (some ⟨b, off, none⟩))
  | fn {f : FuncId} {caps : List V} {vs : Array Value} (hl : caps.length = vs.size) (h : ∀ (j : Nat) (x : V) (y : Value), caps[j]? = some x → vs[j]? = some y → RV S m x y) :
      RV S m (.fn f caps) (.func (.func f) #[] vs)
  | tuple {cs : List V} {vs : Array Value} (hl : cs.length = vs.size) (h : ∀ (j : Nat) (x : V) (y : Value), cs[j]? = some x → vs[j]? = some y → RV S m x y) : RV S m (.tuple cs) (.tuple vs)

/-- The objects lie where they are said to lie, and hold what they are said to hold. -/
structure Rel (S : Nat → Prop) (m : M) : Prop where
  iss : ∀ id o, m.h id = some o → m.iss id o.gen
  none_ : ∀ id o, m.h id = some o → m.at_ id = none → o.cells = []
  obj : ∀ id o b base, m.h id = some o → m.at_ id = some (b, base) → ¬ S b ∧ ∃ (cs : Array Value) (T : TypeId) (fz : Nat × Nat), m.w.heap[b]? = some (Obj.cells cs T fz) ∧ fz.2 ≤ fz.1 ∧
    base + o.cells.length ≤ cs.size ∧ ∀ (j : Nat) (v : V), o.cells[j]? = some v → v.one = true ∧ ∃ x, cs[base + j]? = some x ∧ RV S m v x
  inj : ∀ i j oi oj b x y, m.h i = some oi → m.h j = some oj → m.at_ i = some (b, x) → m.at_ j = some (b, y) → i = j
  sub : ∀ b, S b → b < m.w.heap.size

/-- How memory may change. -/
structure Evo (S : Nat → Prop) (m m' : M) : Prop where
  iss : ∀ id g, m.iss id g → m'.iss id g
  size : m.w.heap.size ≤ m'.w.heap.size
  shape : ∀ (b : Nat) (cs : Array Value) (T : TypeId) (fz : Nat × Nat), m.w.heap[b]? = some (Obj.cells cs T fz) → ∃ (cs2 : Array Value) (fz2 : Nat × Nat), m'.w.heap[b]? = some (Obj.cells cs2 T fz2) ∧ cs2.size = cs.size
  keepS : ∀ b, b < m.w.heap.size → S b → m'.w.heap[b]? = m.w.heap[b]?
  keep : ∀ b, b < m.w.heap.size → ¬ m.av S b → ¬ m'.av S b ∧ m'.w.heap[b]? = m.w.heap[b]?
  live : ∀ id o', m'.h id = some o' → m.iss id o'.gen → ∃ o, m.h id = some o ∧ o.gen = o'.gen ∧ m'.at_ id = m.at_ id ∧ o.cells.length ≤ o'.cells.length
  old : ∀ id o b x, m'.h id = some o → m'.at_ id = some (b, x) → b < m.w.heap.size → ∃ o0 y, m.h id = some o0 ∧ m.at_ id = some (b, y)
  rest : m'.w.os = m.w.os ∧ m'.w.output = m.w.output ∧ ∀ a, m'.w.frozen? a = m.w.frozen? a

theorem Evo.refl (S : Nat → Prop) (m : M) : Evo S m m :=
  ⟨fun _ _ h => h, Nat.le_refl _, fun _ cs _ fz h => ⟨cs, fz, h, rfl⟩, fun _ _ _ => rfl, fun _ _ h => ⟨h, rfl⟩, fun _ o' h _ => ⟨o', h, rfl, rfl, Nat.le_refl _⟩, fun _ o _ x h1 h2 _ => ⟨o, x, h1, h2⟩, ⟨rfl, rfl, fun _ => rfl⟩⟩

theorem Evo.trans {S : Nat → Prop} {a b c : M} (h : Evo S a b) (k : Evo S b c) : Evo S a c where
  iss id g x := k.iss _ _ (h.iss _ _ x)
  size := Nat.le_trans h.size k.size
  shape x cs T fz hx := by
    obtain ⟨cs1, f1, h1, h2⟩ := h.shape x cs T fz hx
    obtain ⟨cs2, f2, h3, h4⟩ := k.shape x cs1 T f1 h1
    exact ⟨cs2, f2, h3, h4.trans h2⟩
  keepS x hx hs := (k.keepS x (Nat.lt_of_lt_of_le hx h.size) hs).trans (h.keepS x hx hs)
  keep x hx hn := by
    obtain ⟨h1, h2⟩ := h.keep x hx hn
    obtain ⟨h3, h4⟩ := k.keep x (Nat.lt_of_lt_of_le hx h.size) h1
    exact ⟨h3, h4.trans h2⟩
  live id o' ho hg := by
    obtain ⟨o1, a1, a2, a3, a4⟩ := k.live id o' ho (h.iss _ _ hg)
    obtain ⟨o2, b1, b2, b3, b4⟩ := h.live id o1 a1 (a2 ▸ hg)
    exact ⟨o2, b1, b2.trans a2, a3.trans b3, Nat.le_trans b4 a4⟩
  old id o x y ho ha hb := by
    obtain ⟨o1, z, h1, h2⟩ := k.old id o x y ho ha (Nat.lt_of_lt_of_le hb h.size)
    exact h.old id o1 x z h1 h2 hb
  rest := ⟨k.rest.1.trans h.rest.1, k.rest.2.1.trans h.rest.2.1, fun a => (k.rest.2.2 a).trans (h.rest.2.2 a)⟩

theorem RD.mono {w w' : World} {av av' : Nat → Prop} {x : D} {v : Value} (h : RD w av x v)
    (k : ∀ b, b < w.heap.size → ¬ av b → ¬ av' b ∧ w'.heap[b]? = w.heap[b]?) : RD w' av' x v := by
  induction h with
  | bool b => exact .bool b
  | int k n => exact .int k n
  | str s l h => exact .str s l h
  | empty a cap h => exact .empty a cap h
  | slice rows b off cap sz hlen hcap hsz f hf hr ih =>
    refine .slice rows b off cap sz hlen hcap hsz f (fun i j r d h1 h2 => ?_) ih
    obtain ⟨h3, h4⟩ := hf i j r d h1 h2
    have hlt : b < w.heap.size := World.block_lt_of_cell? w _ h4
    obtain ⟨h5, h6⟩ := k b hlt h3
    refine ⟨h5, ?_⟩
    rw [← h4]; simp [World.cell?, h6]

theorem OslOK.mono {S : Nat → Prop} {m m' : M} {o o' : Ob} {id off len sz : Nat} {cap : Option Nat} {v : Value} (h : OslOK m o id off len sz cap v)
    (e : Evo S m m') (ha : m'.at_ id = m.at_ id) (hl : o.cells.length ≤ o'.cells.length) : OslOK m' o' id off len sz cap v := by
  unfold OslOK at *
  rw [ha]
  cases hid : m.at_ id with
  | none => simpa [hid] using h
  | some p =>
    obtain ⟨b, base⟩ := p
    simp only [hid] at h ⊢
    obtain ⟨p, k, h1, h0, h2, h3, h4, ⟨cs, T, fz, h5, h6⟩, h7⟩ := h
    obtain ⟨cs', fz', h8, h9⟩ := e.shape b cs T fz h5
    refine ⟨p, k, h1, h0, by omega, h3, h4, ⟨cs', T, fz', h8, by omega⟩, ?_⟩
    cases cap with
    | none => trivial
    | some q => exact ⟨h7.1, by have := h7.2; omega⟩

theorem RV.mono {S : Nat → Prop} {m m' : M} {x : V} {v : Value} (h : RV S m x v) (e : Evo S m m') : RV S m' x v := by
  induction h with
  | any v => exact .any v
  | undef => exact .undef
  | d h => exact .d (h.mono e.keep)
  | con v => exact .con v
  | full h => exact .full (h.mono e.keep)
  | agg hl h ih => exact .agg hl ih
  | ptr h1 h2 h =>
    refine .ptr (e.iss _ _ h1) h2 fun o' ho hg => ?_
    obtain ⟨o, a1, a2, a3, a4⟩ := e.live _ o' ho (hg ▸ h1)
    rw [a3]
    exact h o a1 (a2.trans hg)
  | osl h1 h2 h =>
    refine .osl (e.iss _ _ h1) h2 fun o' ho hg => ?_
    obtain ⟨o, a1, a2, a3, a4⟩ := e.live _ o' ho (hg ▸ h1)
    exact (h o a1 (a2.trans hg)).mono e a3 a4
  | vref f hf hr =>
    refine .vref f (fun j d hj => ?_) fun j d hj => (hr j d hj).mono e.keep
    obtain ⟨h3, h4⟩ := hf j d hj
    obtain ⟨h5, h6⟩ := e.keep _ (World.block_lt_of_cell? m.w _ h4) h3
    refine ⟨h5, ?_⟩
    rw [← h4]; simp [World.cell?, h6]
  | fn hl h ih => exact .fn hl ih
  | tuple hl h ih => exact .tuple hl ih

theorem RD.one {w : World} {av : Nat → Prop} {x : D} {v : Value} (h : RD w av x v) : v.oneCell' = true := by
  cases h <;> rfl

theorem RV.one {S : Nat → Prop} {m : M} {x : V} {v : Value} (h : RV S m x v) (hx : x.one = true) : v.oneCell' = true := by
  cases h with
  | any v => simp [V.one] at hx
  | undef => simp [V.one] at hx
  | d h => exact h.one
  | con v => simpa [V.one] using hx
  | full h => exact h.one
  | agg hl h => simp [V.one] at hx
  | ptr h1 h2 h => exact h2
  | osl h1 h2 h => exact h2
  | vref f hf hr => rfl
  | fn hl h => rfl
  | tuple hl h => simp [V.one] at hx

end Go.Ab
end

section
/- The abstract machine: how it runs. No conditions. -/
namespace Go.Ab

/-! ### Types -/

inductive TK where
  | bool
  | int (k : IntKind)
  | str
  | slice (e esz eby : Nat)
  | struct (fs : List (Nat × Nat × Bool))
  | array (n e esz : Nat) (eagg : Bool)
  | ptr
  | other
  deriving Inhabited

structure TI where
  k : TK
  size : Nat
  bytes : Nat
  zero : Option (List V)
  deriving Inhabited

def TI.agg (i : TI) : Bool := match i.k with | .struct _ | .array .. => true | _ => false

def constV1 : Value → V
  | .bool b => .d (.bool b)
  | .int k n => .d (.int k n)
  | .string s => .d (.str s.data.toList)
  | .slice none 0 0 => .full []
  | v => .con v

def constV : Value → V
  | .agg cs => .agg (cs.toList.map constV1)
  | v => constV1 v

def aggT (P : Program) (t : TypeId) : Bool := match P.underlying t with | some (.struct _) | some (.array ..) => true | _ => false

def mkFields (P : Program) : List Field → Option (List (Nat × Nat × Bool))
  | [] => some []
  | f :: r => match P.info? f.type, P.underlying f.type, mkFields P r with
    | some j, some _, some l => some ((f.offset, j.size, aggT P f.type) :: l)
    | _, _, _ => none

def mkTK (P : Program) : TypeDesc → Option TK
  | .bool => some .bool
  | .int k => some (.int k)
  | .string => some .str
  | .slice e => (P.info? e).map fun j => .slice e j.size (match j.zero with | some z => if z.cells.size = j.size then j.bytes else 0 | none => 0)
  | .struct fs => (mkFields P fs.toList).map .struct
  | .array n e => match P.info? e, P.underlying e with | some j, some _ => some (.array n e j.size (aggT P e)) | _, _ => none
  | .pointer _ => some .ptr
  | _ => some .other

def mkTI (P : Program) (t : TypeId) : Option TI :=
  match P.info? t, P.underlying t with
  | some i, some d => (mkTK P d).map fun k => { k, size := i.size, bytes := i.bytes, zero := i.zero.map fun v => v.cells.toList.map constV1 }
  | _, _ => none

/-! ### The frame and the memory -/

abbrev Env := List (Nat × V)

def Env.get : Env → Nat → V
  | [], _ => .any
  | (k, v) :: r, t => match Nat.beq k t with | true => v | false => Env.get r t

def Env.keep (e : Env) : List Nat → Env
  | [] => []
  | t :: r => (t, e.get t) :: Env.keep e r

abbrev Hp := List (Nat × Ob)

def Hp.get : Hp → Nat → Option Ob
  | [], _ => none
  | (k, o) :: r, t => match Nat.beq k t with | true => some o | false => Hp.get r t

def Hp.set : Hp → Nat → Ob → Hp
  | [], t, o => [(t, o)]
  | (k, p) :: r, t, o => match Nat.beq k t with | true => (k, o) :: r | false => (k, p) :: Hp.set r t o

def Hp.sets (h : Hp) : List (Nat × Ob) → Hp
  | [] => h
  | (k, o) :: r => Hp.sets (Hp.set h k o) r

/-- Only the names below n stay. -/
def Hp.trunc (n : Nat) : Hp → Hp
  | [] => []
  | (k, o) :: r => match Nat.blt k n with | true => (k, o) :: Hp.trunc n r | false => Hp.trunc n r

/-- The frame; the memory; the next name and the next mark; the names below n0 are the caller's: which of them have been written. -/
structure St where
  env : Env
  hp : Hp
  n : Nat
  c : Nat
  n0 : Nat
  wl : List Nat
  deriving Inhabited

/-- What an operation does: its value, what it writes, what it has looked at, how many names and marks it has given out; has it looked at everything? -/
structure Res where
  v : V
  wr : List (Nat × Ob)
  rd : List Nat
  dn : Nat
  dc : Nat
  all : Bool := false

def ret (v : V) : Option Res := some ⟨v, [], [], 0, 0, false⟩
def retR (v : V) (r : Nat) : Option Res := some ⟨v, [], [r], 0, 0, false⟩

def evalV (e : Env) : Operand → V
  | .tmp t => e.get t
  | .const v => constV v
  | .global _ => .any
  | .func f => .fn f []

abbrev Look := Nat → Option Ob

def live (look : Look) (id g : Nat) : Option Ob :=
  match look id with
  | some o => match Nat.beq o.gen g with | true => some o | false => none
  | none => none

/-- The cells of a value that may be stored. -/
def cellsV : V → Option (List V)
  | .agg cs => if cs.all V.one then some cs else none
  | v => if v.one then some [v] else none

/-- A value read from cells. -/
def readV (i : TI) (cs : List V) : Option V :=
  match i.agg with
  | true => match Nat.beq (cs.take i.size).length i.size with | true => some (.agg (cs.take i.size)) | false => none
  | false => cs.head?

def loadV (look : Look) (i : TI) : V → Option Res
  | .ptr id g off => match live look id g with
    | some o => (readV i (o.cells.drop off)).bind fun v => retR v id
    | none => none
  | .vref ds => (readV i (ds.map .d)).bind ret
  | _ => none

def newV (n c : Nat) (cs : List V) : Option Res := some ⟨.ptr n c 0, [(n, ⟨c, false, cs⟩)], [], 1, 1, false⟩

/-- Part of an aggregate. -/
def partV (agg : Bool) (cs : List V) (off size : Nat) : Option V :=
  match agg with
  | true => some (.agg ((cs.drop off).take size))
  | false => cs[off]?

def fillV (place : Nat → Option (Nat × Nat)) : List V → List (Nat × V) → Option (List V)
  | cs, [] => some cs
  | cs, (i, x) :: r => match place i, cellsV x with
    | some (off, size), some xs => match Nat.beq xs.length size, Nat.ble (off + xs.length) cs.length with
      | true, true => fillV place (cs.take off ++ xs ++ cs.drop (off + xs.length)) r
      | _, _ => none
    | _, _ => none

def chunk (sz : Nat) : Nat → List D → List (List D)
  | 0, _ => []
  | n + 1, l => l.take sz :: chunk sz n (l.drop sz)

def toDs (f : V → Option (D × List Nat)) : List V → Option (List D × List Nat)
  | [] => some ([], [])
  | v :: r => match f v, toDs f r with
    | some (x, a), some (xs, b) => some (x :: xs, a ++ b)
    | _, _ => none

/-- Data out of a value: what it looks at is told. -/
def toD (look : Look) : Nat → V → Option (D × List Nat)
  | _, .d x => some (x, [])
  | _, .full rows => some (.slice rows, [])
  | f + 1, .osl id g off len sz _ => match live look id g with
    | some o => match Nat.ble (off + len * sz) o.cells.length, toDs (toD look f) ((o.cells.drop off).take (len * sz)) with
      | true, some (ds, r) => some (.slice (chunk sz len ds), id :: r)
      | _, _ => none
    | none => none
  | _, _ => none

def closeVs (f : V → Option (V × List Nat)) : List V → Option (List V × List Nat)
  | [] => some ([], [])
  | v :: r => match f v, closeVs f r with
    | some (x, a), some (xs, b) => some (x :: xs, a ++ b)
    | _, _ => none

def depthD : Nat := 4611686018427387904

def ofD : Option (D × List Nat) → Option (V × List Nat)
  | some (x, r) => some (.d x, r)
  | none => none

/-- A value without names of objects. -/
def close1 (look : Look) : V → Option (V × List Nat)
  | .con v => some (.con v, [])
  | .fn f [] => some (.fn f [], [])
  | v => ofD (toD look depthD v)

def close (look : Look) : V → Option (V × List Nat)
  | .agg cs => match closeVs (close1 look) cs with | some (xs, r) => some (.agg xs, r) | none => none
  | v => close1 look v

def closeT (look : Look) : V → Option (V × List Nat)
  | .tuple cs => match closeVs (close look) cs with | some (xs, r) => some (.tuple xs, r) | none => none
  | v => close look v

def D.flat : D → Bool
  | .slice _ => false
  | _ => true

def V.flat1 : V → Bool
  | .d x => x.flat
  | .con _ => true
  | _ => false

def V.flat2 : V → Bool
  | .agg cs => cs.all V.flat1
  | v => v.flat1

def V.flat : V → Bool
  | .tuple cs => cs.all V.flat2
  | v => v.flat2

def roOf (look : Look) : List Nat → List (Nat × Ob)
  | [] => []
  | id :: r => match look id with | some o => (id, { o with ro := true }) :: roOf look r | none => roOf look r

/-- A slice of an object made data; all else as it is. -/
def cl1 (look : Look) (fz : Bool) : V → Option (V × List Nat)
  | .osl id g off len sz cap => match fz with | true => close1 look (.osl id g off len sz cap) | false => some (.osl id g off len sz cap, [])
  | v => some (v, [])

def cl2 (look : Look) (fz : Bool) : V → Option (V × List Nat)
  | .agg cs => match closeVs (cl1 look fz) cs with | some (xs, r) => some (.agg xs, r) | none => none
  | v => cl1 look fz v

def storeV (look : Look) (fz : Bool) (i : TI) (p x : V) : Option Res :=
  match p, cellsV x with
  | .ptr id g off, some xs => match live look id g, closeVs (cl1 look fz) xs with
    | some o, some (ys, ids) => match o.ro, Nat.beq xs.length i.size, Nat.ble (off + i.size) o.cells.length, ids.any (Nat.beq id) with
      | false, true, true, false => some ⟨.undef, roOf look ids ++ [(id, ⟨g, false, o.cells.take off ++ ys ++ o.cells.drop (off + i.size)⟩)], id :: ids, 0, 0, false⟩
      | _, _, _, _ => none
    | _, _ => none
  | _, _ => none

/-! ### Operations -/

def intBin (op : BinOp) (k : IntKind) (a b : Int) : Option D :=
  match op with
  | .add => some (.int k (k.wrap (a + b)))
  | .sub => some (.int k (k.wrap (a - b)))
  | .mul => some (.int k (k.wrap (a * b)))
  | .quo => if b = 0 then none else some (.int k (k.wrap (a.tdiv b)))
  | .rem => if b = 0 then none else some (.int k (a.tmod b))
  | .and => some (.int k (k.wrap (BitVec.ofInt k.bits a &&& BitVec.ofInt k.bits b).toNat))
  | .or => some (.int k (k.wrap (BitVec.ofInt k.bits a ||| BitVec.ofInt k.bits b).toNat))
  | .xor => some (.int k (k.wrap (BitVec.ofInt k.bits a ^^^ BitVec.ofInt k.bits b).toNat))
  | .andNot => some (.int k (k.wrap (BitVec.ofInt k.bits a &&& ~~~BitVec.ofInt k.bits b).toNat))
  | .eql => some (.bool (a == b))
  | .neq => some (.bool (a != b))
  | .lss => some (.bool (decide (a < b)))
  | .leq => some (.bool (decide (a ≤ b)))
  | .gtr => some (.bool (decide (a > b)))
  | .geq => some (.bool (decide (a ≥ b)))
  | _ => none

def strBin (op : BinOp) (a b : List UInt8) : Option D :=
  match op with
  | .eql => some (.bool (a == b))
  | .neq => some (.bool (!(a == b)))
  | _ => none

def binV (op : BinOp) : V → V → Option V
  | .d (.int k a), .d (.int k' b) =>
    match op with
    | .shl => if b < 0 then none else some (.d (.int k (k.wrap (a * 2 ^ (min b.toNat k.bits)))))
    | .shr => if b < 0 then none else some (.d (.int k (a.fdiv (2 ^ (min b.toNat k.bits)))))
    | _ => if k = k' then (intBin op k a b).map .d else none
  | .d (.str a), .d (.str b) => (strBin op a b).map .d
  | _, _ => none

def boolBin (op : BinOp) (a b : Bool) : Option V :=
  match op with
  | .eql => some (.d (.bool (a == b)))
  | .neq => some (.d (.bool (!(a == b))))
  | _ => none

def unV (op : UnOp) : V → Option V
  | .d (.bool b) => match op with | .not => some (.d (.bool !b)) | _ => none
  | .d (.int k n) => match op with | .neg => some (.d (.int k (k.wrap (0 - n)))) | _ => none
  | _ => none

def idx (i : Int) (len : Nat) : Option Nat := if 0 ≤ i ∧ i < len then some i.toNat else none

def indexRows (rows : List (List D)) (sz i : Nat) : Option Res :=
  match rows[i]? with
  | some r => match Nat.beq r.length sz with | true => ret (.vref r) | false => none
  | none => none

def indexAddrV (look : Look) (i : TI) (x ix : V) : Option Res :=
  match ix with
  | .d (.int _ j) =>
    match i.k, x with
    | .slice _ sz _, .d (.slice rows) => (idx j rows.length).bind (indexRows rows sz)
    | .slice _ sz _, .full rows => (idx j rows.length).bind (indexRows rows sz)
    | .slice _ sz _, .osl id g off len sz' _ => match live look id g, Nat.beq sz sz' with
      | some _, true => (idx j len).bind fun q => retR (.ptr id g (off + q * sz)) id
      | _, _ => none
    | .array n _ sz _, .ptr id g off => match live look id g with
      | some _ => (idx j n).bind fun q => retR (.ptr id g (off + q * sz)) id
      | none => none
    | _, _ => none
  | _ => none

def indexV (i : TI) (x ix : V) : Option Res :=
  match ix with
  | .d (.int _ j) =>
    match i.k, x with
    | .str, .d (.str s) => (idx j s.length).bind fun q => match s[q]? with | some b => ret (.d (.int .u8 b.toNat)) | none => none
    | .array n _ sz agg, .agg cs => (idx j n).bind fun q => (partV agg cs (q * sz) sz).bind ret
    | _, _ => none
  | _ => none

/-- The cells of what is appended, or copied: how many elements, which cells, what has been looked at. -/
def rowsOf (look : Look) (sz : Nat) : V → Option (Nat × List V × List Nat)
  | .d (.slice rows) => if rows.all (fun r => Nat.beq r.length sz) then some (rows.length, rows.flatten.map .d, []) else none
  | .full rows => if rows.all (fun r => Nat.beq r.length sz) then some (rows.length, rows.flatten.map .d, []) else none
  | .osl id g off len sz' _ => match live look id g, Nat.beq sz sz' with
    | some o, true => match Nat.ble (off + len * sz) o.cells.length with
      | true => some (len, (o.cells.drop off).take (len * sz), [id])
      | false => none
    | _, _ => none
  | _ => none

/-- May a slice of this many elements of this many bytes be made? -/
def fitsB (n by_ : Nat) : Bool := Nat.ble 1 by_ && Nat.ble (n * by_) 140737488355328

def appendV (look : Look) (n c : Nat) (i : TI) (s x : V) : Option Res :=
  match i.k with
  | .slice _ sz by_ =>
    match rowsOf look sz x with
    | some (m, xs, rx) =>
      match s with
      | .full rows =>
        match rows.all (fun r => Nat.beq r.length sz), fitsB (rows.length + m) by_, rows.isEmpty || Nat.blt 0 m with
        | true, true, true => some ⟨.osl n c 0 (rows.length + m) sz none, [(n, ⟨c, false, rows.flatten.map .d ++ xs⟩)], rx, 1, 1, false⟩
        | _, _, _ => none
      | .osl id g off len sz' cap =>
        match live look id g, Nat.beq sz sz' with
        | some o, true =>
          match fitsB (len + m) by_, Nat.ble (off + len * sz) o.cells.length with
          | true, true =>
            match cap with
            | some q => match Nat.ble (len + m) q, o.ro, Nat.ble (off + q * sz) o.cells.length with
              | true, false, true => some ⟨.osl id g off (len + m) sz (some q), [(id, ⟨g, false, o.cells.take (off + len * sz) ++ xs ++ o.cells.drop (off + (len + m) * sz)⟩)], id :: rx, 0, 0, false⟩
              | false, _, _ => some ⟨.osl n c 0 (len + m) sz none, [(n, ⟨c, false, (o.cells.drop off).take (len * sz) ++ xs⟩)], id :: rx, 1, 1, false⟩
              | _, _, _ => none
            | none => match o.ro with
              | false => some ⟨.osl id c 0 (len + m) sz none, [(id, ⟨c, false, (o.cells.drop off).take (len * sz) ++ xs⟩)], id :: rx, 0, 1, false⟩
              | true => none
          | _, _ => none
        | _, _ => none
      | _ => none
    | none => none
  | _ => none

def lenV (look : Look) (i : TI) : V → Option Res
  | .d (.str s) => match i.k with | .str => ret (.d (.int .i64 s.length)) | _ => none
  | .d (.slice rows) => match i.k with | .slice .. => ret (.d (.int .i64 rows.length)) | _ => none
  | .full rows => match i.k with | .slice .. => ret (.d (.int .i64 rows.length)) | _ => none
  | .osl id g _ len _ _ => match i.k, live look id g with | .slice .., some _ => retR (.d (.int .i64 len)) id | _, _ => none
  | _ => none

def copyV (look : Look) (i : TI) (s x : V) : Option Res :=
  match i.k, s with
  | .slice _ sz _, .osl id g off len sz' _ =>
    match rowsOf look sz x, live look id g, Nat.beq sz sz' with
    | some (m, xs, rx), some o, true =>
      match o.ro, Nat.ble (off + len * sz) o.cells.length with
      | false, true =>
        some ⟨.d (.int .i64 ((min m len : Nat) : Int)), [(id, ⟨g, false, o.cells.take off ++ xs.take (min m len * sz) ++ o.cells.drop (off + min m len * sz)⟩)], id :: rx, 0, 0, false⟩
      | _, _ => none
    | _, _, _ => none
  | _, _ => none

def makeV (n c : Nat) (i : TI) (ei : Option TI) (l q : V) : Option Res :=
  match i.k, l, q with
  | .slice _ sz by_, .d (.int .i64 l), .d (.int .i64 q) =>
    match ei with
    | some ei => match ei.zero with
      | some z =>
        if 0 ≤ l ∧ l ≤ q ∧ q ≤ 9223372036854775807 ∧ fitsB q.toNat by_ = true ∧ z.length = sz ∧ 0 < sz ∧ z.all V.one = true then
          some ⟨.osl n c 0 l.toNat sz (some q.toNat), [(n, ⟨c, false, (List.replicate q.toNat z).flatten⟩)], [], 1, 1, false⟩
        else none
      | none => none
    | none => none
  | _, _, _ => none

def bnd (v : Option V) (dflt : Nat) : Option Nat :=
  match v with
  | none => some dflt
  | some (.d (.int _ i)) => if 0 ≤ i then some i.toNat else none
  | some _ => none

def sliceV (look : Look) (i : TI) (x : V) (lo hi mx : Option V) : Option Res :=
  match i.k, x with
  | .str, .d (.str s) => match mx, bnd lo 0, bnd hi s.length with
    | none, some l, some h => if l ≤ h ∧ h ≤ s.length then ret (.d (.str ((s.take h).drop l))) else none
    | _, _, _ => none
  | .slice _ sz _, .d (.slice rows) => match bnd lo 0, bnd hi rows.length, mx with
    | some l, some h, none => if l ≤ h ∧ h ≤ rows.length ∧ rows.all (fun r => Nat.beq r.length sz) = true then ret (.d (.slice ((rows.take h).drop l))) else none
    | some l, some h, some m => match bnd (some m) 0 with
      | some m => if l ≤ h ∧ h = m ∧ m ≤ rows.length ∧ rows.all (fun r => Nat.beq r.length sz) = true then ret (.full ((rows.take h).drop l)) else none
      | none => none
    | _, _, _ => none
  | .slice _ sz _, .full rows => match bnd lo 0, bnd hi rows.length, mx with
    | some l, some h, none => if l ≤ h ∧ h ≤ rows.length ∧ rows.all (fun r => Nat.beq r.length sz) = true then ret (if h = rows.length then .full (rows.drop l) else .d (.slice ((rows.take h).drop l))) else none
    | _, _, _ => none
  | .slice _ sz _, .osl id g off len sz' cap => match live look id g, Nat.beq sz sz', bnd lo 0, bnd hi len, mx with
    | some _, true, some l, some h, none =>
      if l ≤ h ∧ h ≤ cap.getD len then retR (.osl id g (off + l * sz) (h - l) sz (cap.map (· - l))) id else none
    | some o, true, some l, some h, some m => match bnd (some m) 0 with
      | some m => if l ≤ h ∧ h ≤ m ∧ m ≤ cap.getD len then retR (.osl id g (off + l * sz) (h - l) sz (if o.cells.isEmpty then none else some (m - l))) id else none
      | none => none
    | _, _, _, _, _ => none
  | _, _ => none

def convV (i j : TI) : V → Option V
  | .d (.int k n) => match j.k with | .int q => some (.d (.int q (q.wrap n))) | _ => none
  | .d (.str s) => match i.k, j.k with | .str, .str => some (.d (.str s)) | _, _ => none
  | _ => none

def fieldV (i : TI) (f : Nat) : V → Option Res
  | .agg cs => match i.k with
    | .struct fs => match fs[f]? with
      | some (off, size, agg) => (partV agg cs off size).bind ret
      | none => none
    | _ => none
  | _ => none

def fieldAddrV (look : Look) (i : TI) (f : Nat) (x : V) : Option Res :=
  match i.k with
  | .struct fs => match fs[f]? with
    | some (off, size, _) => match Nat.beq size 0 with
      | true => none
      | false => match x with
        | .ptr id g o => match live look id g with | some _ => retR (.ptr id g (o + off)) id | none => none
        | .vref ds => ret (.vref (ds.drop off))
        | _ => none
    | none => none
  | _ => none

def builtinV (P : Program) (look : Look) (n c : Nat) (b : Builtin) (ts : List TypeId) (vs : List V) : Option Res :=
  match b, ts, vs with
  | .len, [t], [x] => (mkTI P t).bind fun i => lenV look i x
  | .append, [t, u], [s, x] => if t = u then (mkTI P t).bind fun i => appendV look n c i s x else none
  | .copy, [t, u], [s, x] => if t = u then (mkTI P t).bind fun i => copyV look i s x else none
  | _, _, _ => none

/-- The parts of a slice: its slices made data. -/
def closeParts (look : Look) (fz : Bool) : List (Nat × V) → Option (List (Nat × V) × List Nat)
  | [] => some ([], [])
  | (i, x) :: r => match cl2 look fz x, closeParts look fz r with
    | some (y, a), some (ys, b) => some ((i, y) :: ys, a ++ b)
    | _, _ => none

/-- One operation that calls no function of Go's. -/
def step (P : Program) (fz fs : Bool) (ρ : Operand → V) (look : Look) (n c : Nat) : Op → Option Res
  | .move x | .assign x => ret (ρ x)
  | .pick q a b => match ρ q with | .d (.bool true) => ret (ρ a) | .d (.bool false) => ret (ρ b) | _ => none
  | .alloc t => match mkTI P t with
    | some i => match i.zero with
      | some z => if z.all V.one = true then newV n c z else none
      | none => none
    | none => none
  | .box _ x => (cellsV (ρ x)).bind (newV n c)
  | .build t ps => match mkTI P t with
    | some i => match i.zero, i.k with
      | some z, .struct fs => if z.all V.one = true then (fillV (fun j => (fs[j]?).map fun f => (f.1, f.2.1)) z (ps.toList.map fun p => (p.1, ρ p.2))).bind fun cs => ret (.agg cs) else none
      | some z, .array _ _ sz _ => if z.all V.one = true then (fillV (fun j => some (j * sz, sz)) z (ps.toList.map fun p => (p.1, ρ p.2))).bind fun cs => ret (.agg cs) else none
      | _, _ => none
    | none => none
  | .buildSlice t len ps => match mkTI P t with
    | some i => match i.k with
      | .slice e sz _ => match mkTI P e with
        | some j => match j.zero with
          | some z => if z.length = sz ∧ z.all V.one = true ∧ 0 < sz ∧ len * sz ≤ 16777216 then
              match closeParts look fz (ps.toList.map fun p => (p.1, ρ p.2)) with
              | some (qs, ids) => (fillV (fun j => some (j * sz, sz)) (List.replicate len z).flatten qs).bind fun cs =>
                some ⟨.osl n c 0 len sz (some len), roOf look ids ++ [(n, ⟨c, false, cs⟩)], ids, 1, 1, false⟩
              | none => none
            else none
          | none => none
        | none => none
      | _ => none
    | none => none
  | .load t a => (mkTI P t).bind fun i => loadV look i (ρ a)
  | .store t a x => (mkTI P t).bind fun i => storeV look fs i (ρ a) (ρ x)
  | .binOp op t x y _ => match ρ x, ρ y with
    | .d (.bool a), .d (.bool b) => match mkTI P t with
      | some i => match i.k with | .bool => (boolBin op a b).bind ret | _ => none
      | none => none
    | u, v => (binV op u v).bind ret
  | .unOp op _ x => (unV op (ρ x)).bind ret
  | .convert s t x => match mkTI P s, mkTI P t with
    | some i, some j => (convV i j (ρ x)).bind ret
    | _, _ => none
  | .makeFunc (.func f) first caps => if first.isEmpty then ret (.fn f (caps.toList.map ρ)) else none
  | .makeSlice t l q => match mkTI P t with
    | some i => match i.k with | .slice e _ _ => makeV n c i (mkTI P e) (ρ l) (ρ q) | _ => none
    | none => none
  | .slice t x lo hi mx => if mx.isSome = true ∧ hi.isSome = false then none else (mkTI P t).bind fun i => sliceV look i (ρ x) (lo.map ρ) (hi.map ρ) (mx.map ρ)
  | .fieldAddr t x f => (mkTI P t).bind fun i => fieldAddrV look i f (ρ x)
  | .field t x f => (mkTI P t).bind fun i => fieldV i f (ρ x)
  | .indexAddr t x ix => (mkTI P t).bind fun i => indexAddrV look i (ρ x) (ρ ix)
  | .index t x ix => (mkTI P t).bind fun i => indexV i (ρ x) (ρ ix)
  | .extract t ix => match ρ t with
    | .tuple vs => vs[ix]?.bind ret
    | _ => none
  | .call ⟨.builtin b, args, ts⟩ => builtinV P look n c b ts.toList (args.toList.map ρ)
  | _ => none

/-! ### Calls, regions, code -/

/-- What a call gives; wl: which of the caller's objects it has written. -/
structure CR where
  v : V
  hp : Hp
  n : Nat
  c : Nat
  wl : List Nat
  deriving Inhabited

abbrev CallF := FuncId → List V → Hp → Nat → Nat → Option CR

/-- What a reader of the code lays beside it: which functions take and hand back objects; which keep objects inside objects; which slots are wanted behind a region; which nil slices become objects there. -/
structure Cfg where
  thr : FuncId → Bool
  own : FuncId → Bool
  fz : FuncId → Nat → Bool × Bool
  keep : FuncId → Nat → Option (List Nat)
  mat : FuncId → Nat → List (Nat × Option Nat × Nat)

def noLook : Look := fun _ => none

def closeArgs (look : Look) (vs : List V) : Option (List V × List Nat) := closeVs (close look) vs

mutual
/-- Names and marks moved. -/
def shiftV (n c : Nat) : V → V
  | .ptr id g off => .ptr (id + n) (g + c) off
  | .osl id g off len sz cap => .osl (id + n) (g + c) off len sz cap
  | .agg cs => .agg (shiftVs n c cs)
  | .tuple cs => .tuple (shiftVs n c cs)
  | .fn f cs => .fn f (shiftVs n c cs)
  | v => v
def shiftVs (n c : Nat) : List V → List V
  | [] => []
  | v :: r => shiftV n c v :: shiftVs n c r
end

def shiftH (n c : Nat) (h : Hp) : Hp := h.map fun p => (p.1 + n, ⟨p.2.gen + c, p.2.ro, shiftVs n c p.2.cells⟩)

def wrOf (look : Look) : List Nat → List (Nat × Ob)
  | [] => []
  | id :: r => match look id with | some o => (id, o) :: wrOf look r | none => wrOf look r

/-- A call: by data alone where the arguments allow it; else with the memory handed on. -/
def callR (cfg : Cfg) (call : CallF) (hp : Hp) (n c : Nat) (f : FuncId) (vs : List V) : Option Res :=
  match closeArgs (if cfg.thr f then noLook else hp.get) vs with
  | some (ws, ids) => match call f ws [] 0 0 with
    | some r => match closeT noLook r.v with
      | some _ => some ⟨r.v, if r.v.flat then [] else roOf hp.get ids, ids, 0, 0, false⟩
      | none => some ⟨shiftV n c r.v, roOf hp.get ids ++ shiftH n c (wrOf r.hp.get (List.range r.n)), ids, r.n, r.c, false⟩
    | none => none
  | none => match call f vs hp n c with
    | some r => some ⟨r.v, wrOf r.hp.get (r.wl ++ (List.range (r.n - n)).map (n + ·)), [], r.n - n, r.c - c, true⟩
    | none => none

def addNew (n0 : Nat) (wl : List Nat) : List (Nat × Ob) → List Nat
  | [] => wl
  | (k, _) :: r => match Nat.blt k n0 with
    | true => match wl.any (Nat.beq k) with | true => addNew n0 wl r | false => addNew n0 (k :: wl) r
    | false => addNew n0 wl r

def St.put (s : St) (dst : Option Nat) (r : Res) : St :=
  { env := match dst with | some d => (d, r.v) :: s.env | none => s.env, hp := s.hp.sets r.wr, n := s.n + r.dn, c := s.c + r.dc, n0 := s.n0, wl := addNew s.n0 s.wl r.wr }

/-- What an operation does in a state. -/
def opR (P : Program) (cfg : Cfg) (fid : FuncId) (rid : Nat) (call : CallF) (o : Oper) (s : St) : Option Res :=
  match o.op with
  | .call ⟨.value fo, args, _⟩ => match evalV s.env fo with
    | .fn f caps => callR cfg call s.hp s.n s.c f (args.toList.map (evalV s.env) ++ caps)
    | _ => none
  | op => step P (cfg.fz fid rid).1 (cfg.fz fid rid).2 (evalV s.env) s.hp.get s.n s.c op

/-- Is the operation wanted? (None: it can't be told.) -/
def wantedV (ops : List Oper) (e : Env) (o : Oper) : Option Bool :=
  match o.guard with
  | none => some true
  | some (j, want) => match ops[j]? with
    | some g => match g.dst with
      | some d => match e.get d with
        | .d (.bool b) => some (b == want)
        | .undef => some false
        | _ => none
      | none => none
    | none => none

def skipR : Res := ⟨.undef, [], [], 0, 0, false⟩

/-- One operation, wanted or not. -/
def opW (P : Program) (cfg : Cfg) (fid : FuncId) (rid : Nat) (call : CallF) (all : List Oper) (o : Oper) (s : St) : Option Res :=
  match wantedV all s.env o with
  | some true => match opR P cfg fid rid call o s with
    | some q => if q.wr.all (fun p => Nat.blt p.1 (s.n + q.dn)) then some q else none
    | none => none
  | some false => some skipR
  | none => none

def runOps (P : Program) (cfg : Cfg) (fid : FuncId) (rid : Nat) (call : CallF) (all : List Oper) : List Oper → St → Option St
  | [], s => some s
  | o :: r, s => match opW P cfg fid rid call all o s with
    | some q => runOps P cfg fid rid call all r (s.put o.dst q)
    | none => none

/-! The check of a region that draws its order. -/

structure Tr where
  rd : List Nat
  wr : List Nat
  sl : List Nat
  ds : Option Nat
  all : Bool
  dc : Nat

def opdSlots (o : Oper) (all : List Oper) : List Nat :=
  (o.op.operands.toList.filterMap fun | .tmp t => some t | _ => none) ++
  (match o.guard with | some (g, _) => (all[g]?.bind (·.dst)).toList | none => [])

def disj (a b : List Nat) : Bool := a.all fun x => b.all fun y => !(Nat.beq x y)

/-- The transitive closure of the edges that bind. -/
def anc (all : List Oper) : List (List Nat) :=
  all.foldl (fun acc o => acc ++ [o.after.toList.foldl (fun s e => if Region.binds .any e then e.on :: (acc.getD e.on [] ++ s) else s) []]) []

def apartT (a b : Tr) : Bool :=
  disj a.wr (b.rd ++ b.wr) && disj b.wr a.rd && (!a.all || (b.wr.isEmpty && Nat.beq b.dc 0)) && (!b.all || (a.wr.isEmpty && Nat.beq a.dc 0)) &&
  (match a.ds with | some d => !(b.sl.contains d) && !(b.ds == some d) | none => true) && (match b.ds with | some d => !(a.sl.contains d) | none => true)

def trOf (o : Oper) (all : List Oper) (q : Res) : Tr := ⟨q.rd, q.wr.map (·.1), opdSlots o all, o.dst, q.all, q.dc⟩

/-- The order of the text is an order of the edges that bind. -/
def orderOK (all : List Oper) : Bool := all.zipIdx.all fun p => p.1.after.toList.all fun e => !(Region.binds .any e) || Nat.blt e.on p.2

def checkOps (P : Program) (cfg : Cfg) (fid : FuncId) (rid : Nat) (call : CallF) (all : List Oper) : List Oper → List (List Nat) → List Tr → St → Bool
  | o :: r, a :: ancs, tr, s => match opW P cfg fid rid call all o s with
    | some q => (tr.zipIdx.all fun p => a.contains p.2 || apartT p.1 (trOf o all q)) && checkOps P cfg fid rid call all r ancs (tr ++ [trOf o all q]) (s.put o.dst q)
    | none => false
  | [], [], _, _ => true
  | _, _, _, _ => false

/-- A nil slice becomes an object that is still empty: in a slot, or in a cell of the object that a slot points to. -/
def matOne (s : St) (p : Nat × Option Nat × Nat) : St :=
  match p.2.1 with
  | none => match s.env.get p.1 with
    | .full [] => { s with env := (p.1, .osl s.n s.c 0 0 p.2.2 none) :: s.env, hp := s.hp.set s.n ⟨s.c, false, []⟩, n := s.n + 1, c := s.c + 1 }
    | _ => s
  | some j => match s.env.get p.1 with
    | .ptr id g 0 => match live s.hp.get id g with
      | some o => match o.ro, o.cells[j]? with
        | false, some (.full []) => { s with hp := (s.hp.set s.n ⟨s.c, false, []⟩).set id ⟨g, false, o.cells.set j (.osl s.n s.c 0 0 p.2.2 none)⟩, n := s.n + 1, c := s.c + 1, wl := addNew s.n0 s.wl [(id, o)] }
        | _, _ => s
      | none => s
    | _ => s

def mats (s : St) : List (Nat × Option Nat × Nat) → St
  | [] => s
  | p :: r => mats (matOne s p) r

inductive Ex where
  | normal
  | exit (id : Nat)
  | ret
  deriving DecidableEq, Inhabited

def keepSt (s : St) : Option (List Nat) → St
  | some l => { s with env := s.env.keep l }
  | none => s

def runRegion (P : Program) (cfg : Cfg) (call : CallF) (fid id : Nat) (ops : Array Oper) (draw : Bool) (s : St) : Option St :=
  match (if draw then orderOK ops.toList && checkOps P cfg fid id call ops.toList ops.toList (anc ops.toList) [] s else true) with
  | false => none
  | true => match runOps P cfg fid id call ops.toList ops.toList s with
    | some s => some (keepSt (mats s (cfg.mat fid id)) (cfg.keep fid id))
    | none => none

/-- The results of a function. -/
def resultV (P : Program) (s : St) : ResultVar → Option V
  | .tmp t => some (s.env.get t)
  | .cell a t => (mkTI P t).bind fun i => (loadV s.hp.get i (s.env.get a)).map (·.v)

def resultsV (P : Program) (s : St) : List ResultVar → Option (List V)
  | [] => some []
  | r :: l => match resultV P s r, resultsV P s l with | some v, some vs => some (v :: vs) | _, _ => none

def tup : List V → V
  | [v] => v
  | vs => .tuple vs

/-- What a caller is handed. -/
def finish (thr : Bool) (n : Nat) (s : St) (v : V) : Option CR :=
  match (if thr then none else closeT s.hp.get v) with
  | some (w, ids) => if (w.flat || ids.all (fun i => Nat.ble n i)) = true then some ⟨w, Hp.trunc n s.hp, n, s.c, s.wl⟩ else none
  | none => some ⟨v, s.hp, s.n, s.c, s.wl⟩

def envOf : Nat → List V → Env
  | _, [] => []
  | k, v :: r => (k, v) :: envOf (k + 1) r

def enter (vs : List V) (hp : Hp) (n c : Nat) : St := ⟨envOf 0 vs, hp, n, c, n, []⟩

/-- A function's result, once its body has run. -/
def leave (P : Program) (cfg : Cfg) (f : FuncId) (fn : Func) (n : Nat) : Option (Ex × St) → Option CR
  | some (.normal, s) | some (.ret, s) => match resultsV P s fn.results.toList with
    | some rs => finish (cfg.thr f) n s (tup rs)
    | none => none
  | _ => none

/-- Every operation writes a slot that is there. -/
def codeOK (N : Nat) : Code → Bool
  | .region _ ops _ => ops.toList.all fun o => match o.dst with | some d => Nat.blt d N | none => true
  | .seq a b => codeOK N a && codeOK N b
  | .cond _ a b => codeOK N a && codeOK N b
  | .block _ b => codeOK N b
  | .loop b => codeOK N b
  | .scope b => codeOK N b
  | _ => true

/-- A call, the code's run given. -/
def callBy (P : Program) (cfg : Cfg) (run : FuncId → Code → St → Option (Ex × St)) : CallF := fun f vs hp n c =>
  match P.funcs[f]? with
  | some fn => match fn.body with
    | some body => match Nat.ble vs.length fn.ntmps && codeOK fn.ntmps body with
      | true => leave P cfg f fn n (run f body (enter vs hp n c))
      | false => none
    | none => none
  | none => none

/-- Code, with fuel. -/
def execF (P : Program) (cfg : Cfg) : Nat → FuncId → Code → St → Option (Ex × St)
  | 0, _, _, _ => none
  | k + 1, fid, c, s =>
    match c with
    | .skip => some (.normal, s)
    | .label _ => some (.normal, s)
    | .ret => some (.ret, s)
    | .exit id => some (.exit id, s)
    | .seq a b => match execF P cfg k fid a s with
      | some (.normal, s) => execF P cfg k fid b s
      | r => r
    | .cond q a b => match evalV s.env q with
      | .d (.bool true) => execF P cfg k fid a s
      | .d (.bool false) => execF P cfg k fid b s
      | _ => none
    | .block id b => match execF P cfg k fid b s with
      | some (.exit i, s) => if i = id then some (.normal, s) else some (.exit i, s)
      | r => r
    | .loop b => match execF P cfg k fid b s with
      | some (.normal, t) => execF P cfg k fid (.loop b) (if cfg.own fid then t else { t with hp := Hp.trunc s.n t.hp, n := s.n })
      | r => r
    | .region id ops draw => (runRegion P cfg (callBy P cfg (execF P cfg k)) fid id ops draw s).map fun s => (.normal, s)
    | _ => none

def callF (P : Program) (cfg : Cfg) (k : Nat) : CallF := callBy P cfg (execF P cfg k)

end Go.Ab
end

section
/- The abstract machine: how memory is read and changed. No conditions. -/
namespace Go.Ab

def upd {α : Type} (f : Nat → α) (k : Nat) (v : α) : Nat → α := fun i => if i = k then v else f i
@[simp] theorem upd_same {α : Type} (f : Nat → α) (k : Nat) (v : α) : upd f k v k = v := by simp [upd]
theorem upd_ne {α : Type} (f : Nat → α) {k j : Nat} (v : α) (h : j ≠ k) : upd f k v j = f j := by simp [upd, h]

def hupd (h : Nat → Option Ob) : List (Nat × Ob) → Nat → Option Ob
  | [] => h
  | (k, o) :: r => hupd (upd h k (some o)) r

theorem beq_ff {a b : Nat} (h : a ≠ b) : Nat.beq a b = false := by
  cases hb : Nat.beq a b with
  | false => rfl
  | true => exact absurd (Nat.eq_of_beq_eq_true hb) h

theorem hp_get_set (h : Hp) (k : Nat) (o : Ob) : (Hp.set h k o).get = upd h.get k (some o) := by
  funext i
  induction h with
  | nil =>
    simp only [Hp.set, Hp.get, upd]
    by_cases hi : i = k
    · subst hi; simp
    · have : Nat.beq k i = false := beq_ff (Ne.symm hi)
      simp [this, hi]
  | cons p r ih =>
    obtain ⟨j, q⟩ := p
    simp only [Hp.set]
    cases hjk : Nat.beq j k with
    | true =>
      have hjk' : j = k := Nat.eq_of_beq_eq_true hjk
      subst hjk'
      simp only [Hp.get, upd]
      by_cases hi : i = j
      · subst hi; simp
      · have : Nat.beq j i = false := beq_ff (Ne.symm hi)
        simp [this, hi]
    | false =>
      simp only [Hp.get]
      rw [ih]
      have hjk' : j ≠ k := fun h => by subst h; simp at hjk
      cases hji : Nat.beq j i with
      | true =>
        have hji' : j = i := Nat.eq_of_beq_eq_true hji
        subst hji'
        simp [upd, hjk']
      | false => simp [upd, hji]

theorem hp_get_sets (wr : List (Nat × Ob)) : ∀ h : Hp, (Hp.sets h wr).get = hupd h.get wr := by
  induction wr with
  | nil => intro h; rfl
  | cons p r ih => intro h; obtain ⟨k, o⟩ := p; simp only [Hp.sets, hupd]; rw [ih, hp_get_set]

/-! ### Lists of values -/

def RVs (S : Nat → Prop) (m : M) (vs : List V) (xs : List Value) : Prop :=
  vs.length = xs.length ∧ ∀ (j : Nat) (v : V) (x : Value), vs[j]? = some v → xs[j]? = some x → RV S m v x

theorem RVs.nil {S : Nat → Prop} {m : M} : RVs S m [] [] := ⟨rfl, fun _ _ _ h => by simp at h⟩
theorem RVs.cons {S : Nat → Prop} {m : M} {v : V} {x : Value} {vs : List V} {xs : List Value} (h : RV S m v x) (hs : RVs S m vs xs) : RVs S m (v :: vs) (x :: xs) := by
  refine ⟨by simp [hs.1], fun j a b ha hb => ?_⟩
  cases j with
  | zero => simp at ha hb; subst ha; subst hb; exact h
  | succ j => simp at ha hb; exact hs.2 j a b ha hb
theorem RVs.head {S : Nat → Prop} {m : M} {v : V} {x : Value} {vs : List V} {xs : List Value} (h : RVs S m (v :: vs) (x :: xs)) : RV S m v x := h.2 0 v x rfl rfl
theorem RVs.tail {S : Nat → Prop} {m : M} {v : V} {x : Value} {vs : List V} {xs : List Value} (h : RVs S m (v :: vs) (x :: xs)) : RVs S m vs xs :=
  ⟨by have := h.1; simpa using this, fun j a b ha hb => h.2 (j + 1) a b (by simpa using ha) (by simpa using hb)⟩
theorem RVs.cases {S : Nat → Prop} {m : M} {v : V} {vs : List V} {ys : List Value} (h : RVs S m (v :: vs) ys) : ∃ x xs, ys = x :: xs ∧ RV S m v x ∧ RVs S m vs xs := by
  cases ys with
  | nil => have := h.1; simp at this
  | cons x xs => exact ⟨x, xs, rfl, h.head, h.tail⟩
theorem RVs.take {S : Nat → Prop} {m : M} {vs : List V} {xs : List Value} (h : RVs S m vs xs) (n : Nat) : RVs S m (vs.take n) (xs.take n) := by
  refine ⟨by simp [h.1], fun j a b ha hb => ?_⟩
  rw [List.getElem?_take] at ha hb
  by_cases hj : j < n
  · simp [hj] at ha hb; exact h.2 j a b ha hb
  · simp [hj] at ha
theorem RVs.drop {S : Nat → Prop} {m : M} {vs : List V} {xs : List Value} (h : RVs S m vs xs) (n : Nat) : RVs S m (vs.drop n) (xs.drop n) := by
  refine ⟨by simp [h.1], fun j a b ha hb => ?_⟩
  rw [List.getElem?_drop] at ha hb
  exact h.2 _ a b ha hb
theorem RVs.append {S : Nat → Prop} {m : M} {vs us : List V} {xs ys : List Value} (h : RVs S m vs xs) (k : RVs S m us ys) : RVs S m (vs ++ us) (xs ++ ys) := by
  refine ⟨by simp [h.1, k.1], fun j a b ha hb => ?_⟩
  rw [List.getElem?_append] at ha hb
  by_cases hj : j < vs.length
  · rw [if_pos hj] at ha; rw [if_pos (h.1 ▸ hj)] at hb; exact h.2 j a b ha hb
  · rw [if_neg hj] at ha; rw [if_neg (h.1 ▸ hj)] at hb; rw [h.1] at ha; exact k.2 _ a b ha hb
theorem RVs.mono {S : Nat → Prop} {m m' : M} {vs : List V} {xs : List Value} (h : RVs S m vs xs) (e : Evo S m m') : RVs S m' vs xs :=
  ⟨h.1, fun j a b ha hb => (h.2 j a b ha hb).mono e⟩
theorem RVs.get {S : Nat → Prop} {m : M} {vs : List V} {xs : List Value} (h : RVs S m vs xs) {j : Nat} {v : V} (hv : vs[j]? = some v) : ∃ x, xs[j]? = some x ∧ RV S m v x := by
  have hj : j < xs.length := by
    rw [← h.1]; exact (List.getElem?_eq_some_iff.1 hv).1
  exact ⟨xs[j], by simp [hj], h.2 j v _ hv (by simp [hj])⟩
theorem RVs.map_d {S : Nat → Prop} {m : M} {ds : List D} {xs : List Value} (hl : ds.length = xs.length)
    (h : ∀ (j : Nat) (d : D) (x : Value), ds[j]? = some d → xs[j]? = some x → RD m.w (m.av S) d x) : RVs S m (ds.map .d) xs := by
  refine ⟨by simp [hl], fun j v x hv hx => ?_⟩
  rw [List.getElem?_map] at hv
  cases hd : ds[j]? with
  | none => simp [hd] at hv
  | some d => simp [hd] at hv; subst hv; exact .d (h j d x hd hx)
theorem RVs.ones {S : Nat → Prop} {m : M} {vs : List V} {xs : List Value} (h : RVs S m vs xs) (ho : vs.all V.one = true) : ∀ x ∈ xs, x.oneCell' = true := by
  intro x hx
  obtain ⟨j, hj⟩ := List.mem_iff_getElem?.1 hx
  have hlt : j < vs.length := by rw [h.1]; exact (List.getElem?_eq_some_iff.1 hj).1
  have hv : vs[j]? = some vs[j] := by simp [hlt]
  exact (h.2 j _ x hv hj).one (List.all_eq_true.1 ho _ (List.getElem_mem hlt))

/-! ### Reading an object -/

theorem addr_add (b o n : Nat) : (⟨b, o, none⟩ : Addr).add n = ⟨b, o + n, none⟩ := by
  unfold Addr.add; split
  · rename_i h; subst h; simp
  · rfl

theorem cell_of_row {w : World} {b : Nat} {cs : Array Value} {T : TypeId} {fz : Nat × Nat} (h : w.heap[b]? = some (Obj.cells cs T fz)) (j : Nat) :
    w.cell? ⟨b, j, none⟩ = cs[j]? := by simp [World.cell?, h]

/-- The cells of an object, in memory. -/
theorem Rel.vals {S : Nat → Prop} {m : M} (hR : Rel S m) {id : Nat} {o : Ob} {b base : Nat} (ho : m.h id = some o) (ha : m.at_ id = some (b, base)) :
    ∃ xs, RVs S m o.cells xs ∧ o.cells.all V.one = true ∧ ∀ (j : Nat) (x : Value), xs[j]? = some x → m.w.cell? ⟨b, base + j, none⟩ = some x := by
  obtain ⟨_, cs, T, fz, hrow, _, hsz, hc⟩ := hR.obj id o b base ho ha
  refine ⟨(cs.toList.drop base).take o.cells.length, ⟨?_, fun j v x hv hx => ?_⟩, ?_, fun j x hx => ?_⟩
  · simp; omega
  · obtain ⟨_, y, hy, hRV⟩ := hc j v hv
    rw [List.getElem?_take] at hx
    split at hx
    · rw [List.getElem?_drop] at hx; simp [hy] at hx; subst hx; exact hRV
    · simp at hx
  · rw [List.all_eq_true]
    intro v hv
    obtain ⟨j, hj⟩ := List.mem_iff_getElem?.1 hv
    exact (hc j v hj).1
  · rw [List.getElem?_take] at hx
    split at hx
    · rw [List.getElem?_drop] at hx; rw [cell_of_row hrow]; simpa using hx
    · simp at hx

theorem live_spec {look : Look} {id g : Nat} {o : Ob} (h : live look id g = some o) : look id = some o ∧ o.gen = g := by
  unfold live at h
  cases hl : look id with
  | none => simp [hl] at h
  | some p =>
    simp only [hl] at h
    cases hb : Nat.beq p.gen g with
    | false => simp [hb] at h
    | true => simp [hb] at h; subst h; exact ⟨rfl, Nat.eq_of_beq_eq_true hb⟩

/-- A live pointer. -/
theorem RV.ptr_live {S : Nat → Prop} {m : M} {id g off : Nat} {v : Value} {o : Ob} (h : RV S m (.ptr id g off) v) (hl : live m.h id g = some o) :
    m.h id = some o ∧ o.gen = g ∧ ∃ b base, m.at_ id = some (b, base) ∧ v = .pointer (some ⟨b, base + off, none⟩) := by
  obtain ⟨h1, h2⟩ := live_spec hl
  cases h with
  | ptr _ _ h => exact ⟨h1, h2, h o h1 h2⟩

theorem RV.osl_live {S : Nat → Prop} {m : M} {id g off len sz : Nat} {cap : Option Nat} {v : Value} {o : Ob} (h : RV S m (.osl id g off len sz cap) v) (hl : live m.h id g = some o) :
    m.h id = some o ∧ o.gen = g ∧ OslOK m o id off len sz cap v := by
  obtain ⟨h1, h2⟩ := live_spec hl
  cases h with
  | osl _ _ h => exact ⟨h1, h2, h o h1 h2⟩

/-! ### Changing memory -/

/-- What an operation has done: the value, and memory behind it. -/
def After (S : Nat → Prop) (m : M) (c : Nat) (r : Res) (x : Value) (m' : M) : Prop :=
  Rel S m' ∧ Evo S m m' ∧ RV S m' r.v x ∧ m'.h = hupd m.h r.wr ∧ m'.iss = (fun id g => m.iss id g ∨ (c ≤ g ∧ g < c + r.dc))

/-- The names and marks that are given out are new. -/
def Fresh (m : M) (c dc : Nat) : Prop := ∀ id g, c ≤ g → g < c + dc → ¬ m.iss id g

theorem iss_zero (m : M) (c : Nat) : (fun id g => m.iss id g ∨ (c ≤ g ∧ g < c + 0)) = m.iss := by
  funext id g; apply propext; constructor
  · rintro (h | h)
    · exact h
    · omega
  · exact .inl

theorem After.quiet {S : Nat → Prop} {m : M} {c : Nat} {v : V} {rd : List Nat} {x : Value} {al : Bool} (hR : Rel S m) (hv : RV S m v x) : After S m c ⟨v, [], rd, 0, 0, al⟩ x m :=
  ⟨hR, .refl S m, hv, rfl, (iss_zero m c).symm⟩

/-- Objects that are not touched stay as they are. -/
theorem Rel.other {S : Nat → Prop} {m m' : M} (hR : Rel S m) (e : Evo S m m') {id : Nat} {o : Ob} {b base : Nat} (ho : m.h id = some o) (ha : m.at_ id = some (b, base))
    (hrow : m'.w.heap[b]? = m.w.heap[b]?) :
    ¬ S b ∧ ∃ (cs : Array Value) (T : TypeId) (fz : Nat × Nat), m'.w.heap[b]? = some (Obj.cells cs T fz) ∧ fz.2 ≤ fz.1 ∧
      base + o.cells.length ≤ cs.size ∧ ∀ (j : Nat) (v : V), o.cells[j]? = some v → v.one = true ∧ ∃ x, cs[base + j]? = some x ∧ RV S m' v x := by
  obtain ⟨h1, cs, T, fz, h2, h3, h4, h5⟩ := hR.obj id o b base ho ha
  refine ⟨h1, cs, T, fz, by rw [hrow]; exact h2, h3, h4, fun j v hv => ?_⟩
  obtain ⟨h6, x, h7, h8⟩ := h5 j v hv
  exact ⟨h6, x, h7, h8.mono e⟩

theorem block_lt {w : World} {b : Nat} {o : Obj} (h : w.heap[b]? = some o) : b < w.heap.size := (Array.getElem?_eq_some_iff.1 h).1

/-- A write into an object: its row is replaced. -/
theorem write_obj {S : Nat → Prop} {m : M} (hR : Rel S m) {id : Nat} {o o' : Ob} {b base base' dc c : Nat} {cs cs' : Array Value} {T : TypeId} {fz : Nat × Nat} {w' : World}
    (ho : m.h id = some o) (ha : m.at_ id = some (b, base)) (hro : o.ro = false) (hrow : m.w.heap[b]? = some (Obj.cells cs T fz))
    (hw : w'.heap = (m.w.setRow b cs').heap) (hsz : cs'.size = cs.size) (hb : base' + o'.cells.length ≤ cs'.size)
    (hg : (o'.gen = o.gen ∧ base' = base ∧ o.cells.length ≤ o'.cells.length ∧ dc = 0) ∨ (¬ m.iss id o'.gen ∧ o'.gen = c ∧ dc = 1))
    (hc : ∀ (j : Nat) (v : V), o'.cells[j]? = some v → v.one = true ∧ ∃ x, cs'[base' + j]? = some x ∧ RV S m v x) (hrest : w'.os = m.w.os ∧ w'.output = m.w.output := by exact ⟨rfl, rfl⟩) :
    ∃ m' : M, m'.w = w' ∧ m'.h = upd m.h id (some o') ∧ m'.at_ = upd m.at_ id (some (b, base')) ∧ m'.iss = (fun i g => m.iss i g ∨ (c ≤ g ∧ g < c + dc)) ∧ Rel S m' ∧ Evo S m m' := by
  obtain ⟨hS, cs0, T0, fz0, hrow0, hfz, hsz0, hc0⟩ := hR.obj id o b base ho ha
  rw [hrow] at hrow0
  obtain ⟨rfl, rfl, rfl⟩ : cs = cs0 ∧ T = T0 ∧ fz = fz0 := by simpa using hrow0
  let m' : M := { at_ := upd m.at_ id (some (b, base')), h := upd m.h id (some o'), iss := fun i g => m.iss i g ∨ (c ≤ g ∧ g < c + dc), w := w' }
  have hsame : w'.heap[b]? = some (Obj.cells cs' T fz) := by rw [hw]; exact setRow_heap m.w b cs cs' T fz hrow
  have hother : ∀ k, k ≠ b → w'.heap[k]? = m.w.heap[k]? := fun k hk => by rw [hw]; exact setRow_other m.w b k cs' hk
  have hsize : w'.heap.size = m.w.heap.size := by rw [hw]; simp
  have hav : m.av S b := .inr ⟨id, o, base, ho, hro, ha⟩
  have hav' : ∀ k, m'.av S k → m.av S k := by
    rintro k (h | ⟨i, q, x, h1, h2, h3⟩)
    · exact .inl h
    · by_cases hi : i = id
      · subst hi
        simp only [m', upd_same, Option.some.injEq, Prod.mk.injEq] at h1 h3
        exact h3.1 ▸ hav
      · simp only [m', upd_ne _ _ hi] at h1 h3
        exact .inr ⟨i, q, x, h1, h2, h3⟩
  have e : Evo S m m' := {
    rest := ⟨hrest.1, hrest.2, fun a => by
      show w'.frozen? a = m.w.frozen? a
      by_cases hb2 : a.block = b
      · simp [World.frozen?, hb2, hsame, hrow]
      · simp [World.frozen?, hother _ hb2]⟩
    iss := fun i g h => .inl h
    size := by show m.w.heap.size ≤ w'.heap.size; omega
    shape := fun k ks T1 f1 hk => by
      by_cases hkb : k = b
      · subst hkb
        rw [hrow] at hk
        obtain ⟨rfl, rfl, rfl⟩ : cs = ks ∧ T = T1 ∧ fz = f1 := by injection hk with h; injection h with h1 h2 h3; exact ⟨h1, h2, h3⟩
        exact ⟨cs', fz, hsame, hsz⟩
      · exact ⟨ks, f1, by show w'.heap[k]? = _; rw [hother k hkb]; exact hk, rfl⟩
    keepS := fun k _ hs => hother k (fun h => hS (h ▸ hs))
    keep := fun k _ hn => ⟨fun h => hn (hav' k h), hother k (fun h => hn (h ▸ hav))⟩
    live := fun i q hq hi => by
      by_cases hid : i = id
      · subst hid
        simp only [m', upd_same, Option.some.injEq] at hq
        subst hq
        rcases hg with ⟨g1, g2, g3, _⟩ | ⟨g1, _⟩
        · exact ⟨o, ho, g1.symm, by simp [m', ha, g2], g3⟩
        · exact absurd hi g1
      · simp only [m', upd_ne _ _ hid] at hq ⊢
        exact ⟨q, hq, rfl, trivial, Nat.le_refl _⟩
    old := fun i q k x h1 h2 hk => by
      by_cases hid : i = id
      · subst hid
        simp only [m', upd_same, Option.some.injEq, Prod.mk.injEq] at h2
        exact ⟨o, base, ho, by rw [ha, h2.1]⟩
      · simp only [m', upd_ne _ _ hid] at h1 h2
        exact ⟨q, x, h1, h2⟩ }
  refine ⟨m', rfl, rfl, rfl, rfl, ⟨?_, ?_, ?_, ?_, ?_⟩, e⟩
  · intro i q hq
    by_cases hid : i = id
    · subst hid
      simp only [m', upd_same, Option.some.injEq] at hq
      subst hq
      rcases hg with ⟨g1, _⟩ | ⟨_, g2, g3⟩
      · exact .inl (g1 ▸ hR.iss i o ho)
      · exact .inr ⟨by omega, by omega⟩
    · simp only [m', upd_ne _ _ hid] at hq
      exact .inl (hR.iss i q hq)
  · intro i q hq hn
    by_cases hid : i = id
    · subst hid; simp [m'] at hn
    · simp only [m', upd_ne _ _ hid] at hq hn
      exact hR.none_ i q hq hn
  · intro i q k x hq hk
    by_cases hid : i = id
    · subst hid
      simp only [m', upd_same, Option.some.injEq, Prod.mk.injEq] at hq hk
      obtain ⟨rfl, rfl⟩ := hk
      subst hq
      refine ⟨hS, cs', T, fz, hsame, hfz, hb, fun j v hv => ?_⟩
      obtain ⟨h1, x, h2, h3⟩ := hc j v hv
      exact ⟨h1, x, h2, h3.mono e⟩
    · simp only [m', upd_ne _ _ hid] at hq hk
      refine hR.other e hq hk (hother k fun h => hid ?_)
      subst h
      exact hR.inj i id q o k x base hq ho hk ha
  · intro i j oi oj k x y hi hj hx hy
    by_cases h1 : i = id
    · by_cases h2 : j = id
      · rw [h1, h2]
      · subst h1
        simp only [m', upd_same, upd_ne _ _ h2, Option.some.injEq, Prod.mk.injEq] at hi hj hx hy
        exact hR.inj i j o oj b base y ho hj ha (hx.1 ▸ hy)
    · by_cases h2 : j = id
      · subst h2
        simp only [m', upd_same, upd_ne _ _ h1, Option.some.injEq, Prod.mk.injEq] at hi hj hx hy
        exact hR.inj i j oi o b x base hi ho (hy.1 ▸ hx) ha
      · simp only [m', upd_ne _ _ h1, upd_ne _ _ h2] at hi hj hx hy
        exact hR.inj i j oi oj k x y hi hj hx hy
  · intro k hk
    have := hR.sub k hk
    show k < w'.heap.size
    omega

/-- A new row for an object: a new one, or one that moves. -/
theorem alloc_obj {S : Nat → Prop} {m : M} (hR : Rel S m) {id : Nat} {o' : Ob} {dc c : Nat} {cs' : Array Value} {T : TypeId} {w' : World}
    (hw : w'.heap = m.w.heap.push (Obj.cells cs' T (0, 0))) (hb : o'.cells.length ≤ cs'.size)
    (hg : ¬ m.iss id o'.gen) (hgc : o'.gen = c) (hdc : dc = 1)
    (hc : ∀ (j : Nat) (v : V), o'.cells[j]? = some v → v.one = true ∧ ∃ x, cs'[j]? = some x ∧ RV S m v x) (hrest : w'.os = m.w.os ∧ w'.output = m.w.output := by exact ⟨rfl, rfl⟩) :
    ∃ m' : M, m'.w = w' ∧ m'.h = upd m.h id (some o') ∧ m'.at_ = upd m.at_ id (some (m.w.heap.size, 0)) ∧ m'.iss = (fun i g => m.iss i g ∨ (c ≤ g ∧ g < c + dc)) ∧ Rel S m' ∧ Evo S m m' := by
  let m' : M := { at_ := upd m.at_ id (some (m.w.heap.size, 0)), h := upd m.h id (some o'), iss := fun i g => m.iss i g ∨ (c ≤ g ∧ g < c + dc), w := w' }
  have hnew : w'.heap[m.w.heap.size]? = some (Obj.cells cs' T (0, 0)) := by rw [hw]; simp
  have hother : ∀ k, k < m.w.heap.size → w'.heap[k]? = m.w.heap[k]? := fun k hk => by rw [hw, Array.getElem?_push_lt hk]; simp [hk]
  have hsize : w'.heap.size = m.w.heap.size + 1 := by rw [hw]; simp
  have e : Evo S m m' := {
    rest := ⟨hrest.1, hrest.2, fun a => by
      show w'.frozen? a = m.w.frozen? a
      by_cases hb2 : a.block < m.w.heap.size
      · simp [World.frozen?, hother _ hb2]
      · have h0 : m.w.heap[a.block]? = none := by simp; omega
        by_cases hb3 : a.block = m.w.heap.size
        · have h1 : w'.heap[a.block]? = some (Obj.cells cs' T (0, 0)) := by rw [hb3]; exact hnew
          simp [World.frozen?, h0, h1]
        · have h1 : w'.heap[a.block]? = none := by simp; omega
          simp [World.frozen?, h0, h1]⟩
    iss := fun i g h => .inl h
    size := by show m.w.heap.size ≤ w'.heap.size; omega
    shape := fun k ks T1 f1 hk => ⟨ks, f1, by show w'.heap[k]? = _; rw [hother k (block_lt hk)]; exact hk, rfl⟩
    keepS := fun k hk _ => hother k hk
    keep := fun k hk hn => by
      refine ⟨?_, hother k hk⟩
      rintro (h | ⟨i, q, x, h1, h2, h3⟩)
      · exact hn (.inl h)
      · by_cases hi : i = id
        · subst hi
          simp only [m', upd_same, Option.some.injEq, Prod.mk.injEq] at h1 h3
          omega
        · simp only [m', upd_ne _ _ hi] at h1 h3
          exact hn (.inr ⟨i, q, x, h1, h2, h3⟩)
    live := fun i q hq hi => by
      by_cases hid : i = id
      · subst hid
        simp only [m', upd_same, Option.some.injEq] at hq
        subst hq
        exact absurd hi hg
      · simp only [m', upd_ne _ _ hid] at hq ⊢
        exact ⟨q, hq, rfl, trivial, Nat.le_refl _⟩
    old := fun i q k x h1 h2 hk => by
      by_cases hid : i = id
      · subst hid
        simp only [m', upd_same, Option.some.injEq, Prod.mk.injEq] at h2
        omega
      · simp only [m', upd_ne _ _ hid] at h1 h2
        exact ⟨q, x, h1, h2⟩ }
  refine ⟨m', rfl, rfl, rfl, rfl, ⟨?_, ?_, ?_, ?_, ?_⟩, e⟩
  · intro i q hq
    by_cases hid : i = id
    · subst hid
      simp only [m', upd_same, Option.some.injEq] at hq
      subst hq
      exact .inr ⟨by omega, by omega⟩
    · simp only [m', upd_ne _ _ hid] at hq
      exact .inl (hR.iss i q hq)
  · intro i q hq hn
    by_cases hid : i = id
    · subst hid; simp [m'] at hn
    · simp only [m', upd_ne _ _ hid] at hq hn
      exact hR.none_ i q hq hn
  · intro i q k x hq hk
    by_cases hid : i = id
    · subst hid
      simp only [m', upd_same, Option.some.injEq, Prod.mk.injEq] at hq hk
      obtain ⟨rfl, rfl⟩ := hk
      subst hq
      refine ⟨fun h => ?_, cs', T, (0, 0), hnew, Nat.le_refl _, by omega, fun j v hv => ?_⟩
      · have := hR.sub _ h; omega
      · obtain ⟨h1, x, h2, h3⟩ := hc j v hv
        exact ⟨h1, x, by simpa using h2, h3.mono e⟩
    · simp only [m', upd_ne _ _ hid] at hq hk
      obtain ⟨_, cs0, T0, fz0, hrow0, _⟩ := hR.obj i q k x hq hk
      exact hR.other e hq hk (hother k (block_lt hrow0))
  · intro i j oi oj k x y hi hj hx hy
    by_cases h1 : i = id
    · by_cases h2 : j = id
      · rw [h1, h2]
      · subst h1
        simp only [m', upd_same, upd_ne _ _ h2, Option.some.injEq, Prod.mk.injEq] at hi hj hx hy
        obtain ⟨_, cs0, T0, fz0, hrow0, _⟩ := hR.obj j oj k y hj hy
        have := block_lt hrow0
        omega
    · by_cases h2 : j = id
      · subst h2
        simp only [m', upd_same, upd_ne _ _ h1, Option.some.injEq, Prod.mk.injEq] at hi hj hx hy
        obtain ⟨_, cs0, T0, fz0, hrow0, _⟩ := hR.obj i oi k x hi hx
        have := block_lt hrow0
        omega
      · simp only [m', upd_ne _ _ h1, upd_ne _ _ h2] at hi hj hx hy
        exact hR.inj i j oi oj k x y hi hj hx hy
  · intro k hk
    have := hR.sub k hk
    show k < w'.heap.size
    omega

/-- An object that is still empty and lies nowhere. -/
theorem virt_obj {S : Nat → Prop} {m : M} (hR : Rel S m) {id : Nat} {o' : Ob} {dc c : Nat} (hcells : o'.cells = []) (hg : ¬ m.iss id o'.gen) (hgc : o'.gen = c) (hdc : dc = 1) :
    ∃ m' : M, m'.w = m.w ∧ m'.h = upd m.h id (some o') ∧ m'.at_ = upd m.at_ id none ∧ m'.iss = (fun i g => m.iss i g ∨ (c ≤ g ∧ g < c + dc)) ∧ Rel S m' ∧ Evo S m m' := by
  let m' : M := { at_ := upd m.at_ id none, h := upd m.h id (some o'), iss := fun i g => m.iss i g ∨ (c ≤ g ∧ g < c + dc), w := m.w }
  have e : Evo S m m' := {
    rest := ⟨rfl, rfl, fun _ => rfl⟩
    iss := fun i g h => .inl h
    size := Nat.le_refl _
    shape := fun k ks T1 f1 hk => ⟨ks, f1, hk, rfl⟩
    keepS := fun k hk _ => rfl
    keep := fun k hk hn => by
      refine ⟨?_, rfl⟩
      rintro (h | ⟨i, q, x, h1, h2, h3⟩)
      · exact hn (.inl h)
      · by_cases hi : i = id
        · subst hi; simp [m'] at h3
        · simp only [m', upd_ne _ _ hi] at h1 h3
          exact hn (.inr ⟨i, q, x, h1, h2, h3⟩)
    live := fun i q hq hi => by
      by_cases hid : i = id
      · subst hid
        simp only [m', upd_same, Option.some.injEq] at hq
        subst hq
        exact absurd hi hg
      · simp only [m', upd_ne _ _ hid] at hq ⊢
        exact ⟨q, hq, rfl, trivial, Nat.le_refl _⟩
    old := fun i q k x h1 h2 hk => by
      by_cases hid : i = id
      · subst hid; simp [m'] at h2
      · simp only [m', upd_ne _ _ hid] at h1 h2
        exact ⟨q, x, h1, h2⟩ }
  refine ⟨m', rfl, rfl, rfl, rfl, ⟨?_, ?_, ?_, ?_, ?_⟩, e⟩
  · intro i q hq
    by_cases hid : i = id
    · subst hid
      simp only [m', upd_same, Option.some.injEq] at hq
      subst hq
      exact .inr ⟨by omega, by omega⟩
    · simp only [m', upd_ne _ _ hid] at hq
      exact .inl (hR.iss i q hq)
  · intro i q hq hn
    by_cases hid : i = id
    · subst hid
      simp only [m', upd_same, Option.some.injEq] at hq
      subst hq; exact hcells
    · simp only [m', upd_ne _ _ hid] at hq hn
      exact hR.none_ i q hq hn
  · intro i q k x hq hk
    by_cases hid : i = id
    · subst hid; simp [m'] at hk
    · simp only [m', upd_ne _ _ hid] at hq hk
      exact hR.other e hq hk rfl
  · intro i j oi oj k x y hi hj hx hy
    by_cases h1 : i = id
    · subst h1; simp [m'] at hx
    · by_cases h2 : j = id
      · subst h2; simp [m'] at hy
      · simp only [m', upd_ne _ _ h1, upd_ne _ _ h2] at hi hj hx hy
        exact hR.inj i j oi oj k x y hi hj hx hy
  · exact hR.sub

/-- An object that is only read from here on. -/
theorem ro_obj {S : Nat → Prop} {m : M} (hR : Rel S m) {id : Nat} {o : Ob} (ho : m.h id = some o) :
    ∃ m' : M, m'.w = m.w ∧ m'.h = upd m.h id (some { o with ro := true }) ∧ m'.at_ = m.at_ ∧ m'.iss = m.iss ∧ Rel S m' ∧ Evo S m m' := by
  let m' : M := { at_ := m.at_, h := upd m.h id (some { o with ro := true }), iss := m.iss, w := m.w }
  have hget : ∀ i q, m'.h i = some q → ∃ p, m.h i = some p ∧ p.gen = q.gen ∧ p.cells = q.cells ∧ (q.ro = false → p.ro = false) := by
    intro i q hq
    by_cases hid : i = id
    · subst hid
      simp only [m', upd_same, Option.some.injEq] at hq
      subst hq
      exact ⟨o, ho, rfl, rfl, fun h => by simp at h⟩
    · simp only [m', upd_ne _ _ hid] at hq
      exact ⟨q, hq, rfl, rfl, fun h => h⟩
  have e : Evo S m m' := {
    rest := ⟨rfl, rfl, fun _ => rfl⟩
    iss := fun i g h => h
    size := Nat.le_refl _
    shape := fun k ks T1 f1 hk => ⟨ks, f1, hk, rfl⟩
    keepS := fun k hk _ => rfl
    keep := fun k hk hn => by
      refine ⟨?_, rfl⟩
      rintro (h | ⟨i, q, x, h1, h2, h3⟩)
      · exact hn (.inl h)
      · obtain ⟨p, p1, p2, p3, p4⟩ := hget i q h1
        exact hn (.inr ⟨i, p, x, p1, p4 h2, h3⟩)
    live := fun i q hq hi => by
      obtain ⟨p, p1, p2, p3, p4⟩ := hget i q hq
      exact ⟨p, p1, p2, rfl, by rw [p3]; exact Nat.le_refl _⟩
    old := fun i q k x h1 h2 hk => by
      obtain ⟨p, p1, _⟩ := hget i q h1
      exact ⟨p, x, p1, h2⟩ }
  refine ⟨m', rfl, rfl, rfl, rfl, ⟨?_, ?_, ?_, ?_, ?_⟩, e⟩
  · intro i q hq
    obtain ⟨p, p1, p2, p3, p4⟩ := hget i q hq
    exact p2 ▸ hR.iss i p p1
  · intro i q hq hn
    obtain ⟨p, p1, p2, p3, p4⟩ := hget i q hq
    exact p3 ▸ hR.none_ i p p1 hn
  · intro i q k x hq hk
    obtain ⟨p, p1, p2, p3, p4⟩ := hget i q hq
    have := hR.other e p1 hk rfl
    rw [p3] at this
    exact this
  · intro i j oi oj k x y hi hj hx hy
    obtain ⟨p, p1, _⟩ := hget i oi hi
    obtain ⟨q, q1, _⟩ := hget j oj hj
    exact hR.inj i j p q k x y p1 q1 hx hy
  · exact hR.sub

end Go.Ab
end

section
/- The abstract machine: each operation does in the model what the abstract machine says. No conditions. -/
set_option linter.unusedVariables false
set_option linter.unusedSimpArgs false
namespace Go.Ab
variable {P : Program} {S : Nat → Prop} {m : M}

/-! ### Types -/

theorem mkTI_spec {t : TypeId} {i : TI} (h : mkTI P t = some i) : ∃ inf d, P.info? t = some inf ∧ P.underlying t = some d ∧ mkTK P d = some i.k ∧ i.size = inf.size ∧ i.bytes = inf.bytes ∧
    i.zero = inf.zero.map (fun v => v.cells.toList.map constV1) := by
  unfold mkTI at h
  cases hi : P.info? t with
  | none => simp [hi] at h
  | some inf =>
    cases hu : P.underlying t with
    | none => simp [hi, hu] at h
    | some d =>
      simp only [hi, hu, Option.map_eq_some_iff] at h
      obtain ⟨k, hk, rfl⟩ := h
      exact ⟨inf, d, rfl, rfl, hk, rfl, rfl, rfl⟩

theorem mkTK_slice {d : TypeDesc} {e sz by_ : Nat} (h : mkTK P d = some (.slice e sz by_)) : d = .slice e ∧ ∃ j, P.info? e = some j ∧ j.size = sz ∧ (1 ≤ by_ → j.bytes = by_ ∧ ∃ z, j.zero = some z ∧ z.cells.size = sz) := by
  cases d <;> simp only [mkTK] at h <;> try (simp at h; done)
  case slice e' =>
    simp only [Option.map_eq_some_iff] at h
    obtain ⟨j, hj, hk⟩ := h
    injection hk with h1 h2 h3
    subst h1; subst h2
    refine ⟨rfl, j, hj, rfl, fun hb => ?_⟩
    cases hz : j.zero with
    | none => simp [hz] at h3; omega
    | some z =>
      simp only [hz] at h3
      split at h3
      · rename_i hs; exact ⟨h3, z, rfl, hs⟩
      · omega
  case array n e' =>
    split at h <;> simp at h

theorem mkTK_str {d : TypeDesc} (h : mkTK P d = some .str) : d = .string := by
  cases d <;> simp only [mkTK] at h <;> try (simp at h; done)
  case string => rfl
  case array n e' => split at h <;> simp at h

theorem mkTK_bool {d : TypeDesc} (h : mkTK P d = some .bool) : d = .bool := by
  cases d <;> simp only [mkTK] at h <;> try (simp at h; done)
  case bool => rfl
  case array n e' => split at h <;> simp at h

theorem mkTK_int {d : TypeDesc} {k : IntKind} (h : mkTK P d = some (.int k)) : d = .int k := by
  cases d <;> simp only [mkTK] at h <;> try (simp at h; done)
  case int k' => simp at h; rw [h]
  case array n e' => split at h <;> simp at h

theorem mkTK_struct {d : TypeDesc} {l : List (Nat × Nat × Bool)} (h : mkTK P d = some (.struct l)) : ∃ fs, d = .struct fs ∧ mkFields P fs.toList = some l := by
  cases d <;> simp only [mkTK] at h <;> try (simp at h; done)
  case struct fs =>
    simp only [Option.map_eq_some_iff] at h
    obtain ⟨j, hj, hk⟩ := h
    injection hk with h1
    subst h1
    exact ⟨fs, rfl, hj⟩
  case array n e' => split at h <;> simp at h

theorem mkTK_array {d : TypeDesc} {n e sz : Nat} {ag : Bool} (h : mkTK P d = some (.array n e sz ag)) : d = .array n e ∧ ∃ j u, P.info? e = some j ∧ P.underlying e = some u ∧ j.size = sz ∧ aggT P e = ag := by
  cases d <;> simp only [mkTK] at h <;> try (simp at h; done)
  case array n' e' =>
    split at h
    · rename_i j u hj hu
      simp at h
      obtain ⟨rfl, rfl, h1, h2⟩ := h
      exact ⟨rfl, j, u, hj, hu, h1, h2⟩
    · simp at h

theorem mkFields_get : ∀ {fs : List Field} {l : List (Nat × Nat × Bool)}, mkFields P fs = some l → ∀ {f : Nat} {off size : Nat} {ag : Bool}, l[f]? = some (off, size, ag) →
    ∃ fd j u, fs[f]? = some fd ∧ P.info? fd.type = some j ∧ P.underlying fd.type = some u ∧ fd.offset = off ∧ j.size = size ∧ aggT P fd.type = ag
  | [], l, h, f, off, size, ag, hl => by simp [mkFields] at h; subst h; simp at hl
  | fd :: fs, l, h, f, off, size, ag, hl => by
    simp only [mkFields] at h
    split at h
    · rename_i j u l' hj hu hl'
      simp at h
      subst h
      cases f with
      | zero => simp at hl; obtain ⟨h1, h2, h3⟩ := hl; exact ⟨fd, j, u, rfl, hj, hu, h1, h2, h3⟩
      | succ f => simp at hl; obtain ⟨fd', j', u', h1, h2⟩ := mkFields_get hl' hl; exact ⟨fd', j', u', by simpa using h1, h2⟩
    · simp at h

theorem run_isAgg {t : TypeId} {d : TypeDesc} (h : P.underlying t = some d) (w : World) : (isAgg t).run P w = .ok (aggT P t) w := by
  unfold isAgg aggT
  simp only [Sem.run_bind, run_underlying h, Result.andThen_ok, h]
  cases d <;> rfl

theorem agg_eq {t : TypeId} {i : TI} (h : mkTI P t = some i) : i.agg = aggT P t := by
  obtain ⟨inf, d, h1, h2, h3, _⟩ := mkTI_spec h
  unfold TI.agg aggT
  rw [h2]
  cases d <;> simp only [mkTK] at h3 <;> try (simp at h3; rw [← h3]; done)
  case slice e => simp only [Option.map_eq_some_iff] at h3; obtain ⟨j, _, h4⟩ := h3; rw [← h4]
  case struct fs => simp only [Option.map_eq_some_iff] at h3; obtain ⟨j, _, h4⟩ := h3; rw [← h4]
  case array n e => split at h3 <;> simp at h3; rw [← h3]

theorem run_sizeOf' {t : TypeId} {inf : TypeInfo} (h : P.info? t = some inf) (w : World) : (sizeOf t).run P w = .ok inf.size w := by
  simp [sizeOf, typeInfo, h]

/-! ### Constants -/

theorem constV1_RV (v : Value) : RV S m (constV1 v) v := by
  unfold constV1
  split
  · exact .d (.bool _)
  · exact .d (.int _ _)
  · exact .d (.str _ _ rfl)
  · exact .full (rows := []) (.empty none 0 (Nat.zero_le _))
  · exact .con _

theorem constVs_RVs (vs : List Value) : RVs S m (vs.map constV1) vs := by
  refine ⟨by simp, fun j v x hv hx => ?_⟩
  rw [List.getElem?_map, hx] at hv
  simp at hv; subst hv
  exact constV1_RV x

theorem constV_RV (v : Value) : RV S m (constV v) v := by
  unfold constV
  split
  · rename_i cs
    exact .agg (by simp) fun j x y hx hy => (constVs_RVs cs.toList).2 j x y hx (by simpa using hy)
  · exact constV1_RV v

theorem RVs.agg {cs : List V} {xs : List Value} (h : RVs S m cs xs) : RV S m (.agg cs) (.agg xs.toArray) :=
  .agg (by simp [h.1]) fun j x y hx hy => h.2 j x y hx (by simpa using hy)

theorem RV.agg_vals {cs : List V} {v : Value} (h : RV S m (.agg cs) v) : ∃ xs : List Value, v = .agg xs.toArray ∧ RVs S m cs xs := by
  cases h with
  | agg hl h => rename_i vs; exact ⟨vs.toList, by simp, by simp [hl], fun j x y hx hy => h j x y hx (by simpa using hy)⟩

theorem RV.tuple_vals {cs : List V} {v : Value} (h : RV S m (.tuple cs) v) : ∃ xs : List Value, v = .tuple xs.toArray ∧ RVs S m cs xs := by
  cases h with
  | tuple hl h => rename_i vs; exact ⟨vs.toList, by simp, by simp [hl], fun j x y hx hy => h j x y hx (by simpa using hy)⟩

/-- The cells of a value that may be stored. -/
theorem cellsV_spec {x : V} {xs : List V} {v : Value} (h : cellsV x = some xs) (hv : RV S m x v) : ∃ ys : List Value, v.cells = ys.toArray ∧ RVs S m xs ys ∧ xs.all V.one = true := by
  have vc : ∀ v : Value, v.oneCell' = true → v.cells = #[v] := by intro v hv; cases v <;> first | rfl | simp [Value.oneCell'] at hv
  cases x
  case agg cs =>
    simp only [cellsV] at h
    split at h
    · rename_i hall
      simp at h; subst h
      obtain ⟨ys, rfl, hys⟩ := hv.agg_vals
      exact ⟨ys, rfl, hys, hall⟩
    · simp at h
  all_goals
    simp only [cellsV] at h
    split at h
    · rename_i h1
      simp only [Option.some.injEq] at h; subst h
      exact ⟨[v], by simp [vc v (hv.one h1)], .cons hv .nil, by simp only [List.all_cons, List.all_nil, Bool.and_true]; exact h1⟩
    · simp at h

/-! ### Loading -/

theorem readV_spec {i : TI} {cs : List V} {v : V} {xs : List Value} {b o : Nat} {t : TypeId} {w : World} (hi : mkTI P t = some i) (h : readV i cs = some v) (hv : RVs S m cs xs)
    (hc : ∀ (j : Nat) (x : Value), xs[j]? = some x → w.cell? ⟨b, o + j, none⟩ = some x) :
    ∃ x, (loadVar t ⟨b, o, none⟩).run P w = .ok x w ∧ RV S m v x := by
  obtain ⟨inf, d, h1, h2, h3, h4, _⟩ := mkTI_spec hi
  have ha := agg_eq hi
  unfold readV at h
  cases hag : i.agg with
  | true =>
    simp only [hag] at h
    split at h
    · rename_i hb
      have hlen := Nat.eq_of_beq_eq_true hb
      simp at h; subst h
      have hl : (xs.take i.size).length = inf.size := by
        have := (hv.take i.size).1
        omega
      refine ⟨.agg (xs.take i.size).toArray, ?_, (hv.take i.size).agg⟩
      have hld := run_loadCells_list (P := P) w ⟨b, o, none⟩ (xs.take i.size) (fun j x hx => by
        rw [addr_add]
        rw [List.getElem?_take] at hx
        split at hx
        · exact hc j x hx
        · simp at hx)
      rw [hl] at hld
      simp [loadVar, run_isAgg h2, ← ha, hag, run_sizeOf' h1, hld]
    · simp at h
  | false =>
    simp only [hag] at h
    cases cs with
    | nil => simp at h
    | cons c cs =>
      simp at h; subst h
      obtain ⟨x, ys, rfl, hx, _⟩ := hv.cases
      refine ⟨x, ?_, hx⟩
      have h0 := hc 0 x rfl
      simp only [Nat.add_zero] at h0
      simp [loadVar, run_isAgg h2, ← ha, hag, h0]

theorem loadV_sound {look : Look} {i : TI} {t : TypeId} {p : V} {v : Value} {r : Res} {c : Nat} (hi : mkTI P t = some i) (h : loadV look i p = some r) (hl : look = m.h) (hR : Rel S m) (hv : RV S m p v) :
    ∃ x, (Instr.loadAt t v).run P m.w = .ok x m.w ∧ After S m c r x m := by
  unfold loadV at h
  split at h
  · rename_i id g off
    cases hlv : live look id g with
    | none => simp [hlv] at h
    | some o =>
      simp only [hlv, Option.bind_eq_some_iff] at h
      obtain ⟨y, hy, hr⟩ := h
      simp [retR] at hr; subst hr
      obtain ⟨ho, _, b, base, hat, rfl⟩ := hv.ptr_live (hl ▸ hlv)
      obtain ⟨xs, hxs, _, hc⟩ := hR.vals ho hat
      obtain ⟨x, hx1, hx2⟩ := readV_spec (w := m.w) (b := b) (o := base + off) hi hy (hxs.drop off) (fun j x hx => by
        rw [List.getElem?_drop] at hx
        have := hc _ x hx
        rwa [← Nat.add_assoc] at this)
      refine ⟨x, ?_, After.quiet hR hx2⟩
      simp [Instr.loadAt, Instr.sureAddr, hx1]
  · rename_i ds
    simp only [Option.bind_eq_some_iff] at h
    obtain ⟨y, hy, hr⟩ := h
    simp [ret] at hr; subst hr
    cases hv with
    | vref f hf hr =>
      rename_i b off
      obtain ⟨x, hx1, hx2⟩ := readV_spec (S := S) (m := m) (w := m.w) (b := b) (o := off) (xs := (List.range ds.length).map f) hi hy
        (RVs.map_d (by simp) (fun j d x hd hx => by
          have hj : j < ds.length := (List.getElem?_eq_some_iff.1 hd).1
          simp [hj] at hx
          subst hx
          exact hr j d hd))
        (fun j x hx => by
          have hj : j < ds.length := by
            have := (List.getElem?_eq_some_iff.1 hx).1
            simpa using this
          simp [hj] at hx
          subst hx
          exact (hf j ds[j] (by simp [hj])).2)
      refine ⟨x, ?_, After.quiet hR hx2⟩
      simp [Instr.loadAt, Instr.sureAddr, hx1]
  · simp at h

/-! ### Storing -/

def splice (cs : Array Value) (o : Nat) (xs : List Value) : Array Value := (cs.toList.take o ++ xs ++ cs.toList.drop (o + xs.length)).toArray

theorem splice_size {cs : Array Value} {o : Nat} {xs : List Value} (h : o + xs.length ≤ cs.size) : (splice cs o xs).size = cs.size := by
  simp [splice]; omega

theorem splice_get {cs : Array Value} {o : Nat} {xs : List Value} (h : o + xs.length ≤ cs.size) (j : Nat) :
    (splice cs o xs)[j]? = if j < o then cs[j]? else if j < o + xs.length then xs[j - o]? else cs[j]? := by
  simp only [splice, List.getElem?_toArray, List.append_assoc]
  rw [List.getElem?_append]
  have hl : (List.take o cs.toList).length = o := by simp; omega
  rw [hl]
  split
  · simp [*]
  · rw [List.getElem?_append]
    split
    · rename_i h1 h2; rw [if_pos (by omega)]
    · rename_i h1 h2
      rw [if_neg (by omega), List.getElem?_drop]
      rw [show o + xs.length + (j - o - xs.length) = j by omega]; simp

theorem run_storeCells_mid (b o : Nat) (T : TypeId) (fz : Nat × Nat) (hfz : fz.2 ≤ fz.1) : ∀ (xs : List Value) (i : Nat) (cs : Array Value) (w : World), w.heap[b]? = some (Obj.cells cs T fz) → o + i + xs.length ≤ cs.size →
    (∀ v ∈ xs, v.oneCell' = true) → (storeCells ⟨b, o, none⟩ xs i).run P w = .ok () (w.setRow b (splice cs (o + i) xs))
  | [], i, cs, w, hg, hl, _ => by
    have : splice cs (o + i) [] = cs := by simp [splice]
    rw [this]
    have hlt : b < w.heap.size := (Array.getElem?_eq_some_iff.1 hg).1
    have hv : w.heap[b] = .cells cs T fz := (Array.getElem?_eq_some_iff.1 hg).2
    simp only [storeCells]
    show Result.ok () w = _
    congr 1
    unfold World.setRow
    cases w with
    | mk heap tape drawn os output =>
      congr 1
      apply Array.ext
      · simp
      · intro k h1 h2
        simp only [Array.getElem_modify]
        split
        · rename_i hk; subst hk; simp at hv; simp [hv]
        · rfl
  | v :: rest, i, cs, w, hg, hl, h1 => by
    have hi : o + i < cs.size := by simp at hl; omega
    have hcell : w.cell? ⟨b, o + i, none⟩ = some cs[o + i] := by simp [World.cell?, hg, hi]
    have hfro : w.frozen? ⟨b, o + i, none⟩ = false := by simp [World.frozen?, hg]; omega
    have hst : (store ((⟨b, o, none⟩ : Addr).add i) v).run P w = .ok () (w.setRow b (cs.setIfInBounds (o + i) v)) := by
      rw [addr_add, run_store P w _ v _ (h1 v (by simp)), hcell]
      simp [hfro, setCell_eq_setRow w b (o + i) cs T fz v hg]
    have ih := run_storeCells_mid b o T fz hfz rest (i + 1) (cs.setIfInBounds (o + i) v) (w.setRow b (cs.setIfInBounds (o + i) v)) (setRow_heap w b cs _ T fz hg) (by simp at hl ⊢; omega) (fun x hx => h1 x (by simp [hx]))
    simp only [storeCells, Sem.run_bind, hst, Result.andThen_ok, ih, setRow_setRow]
    congr 2
    apply Array.ext_getElem?
    intro k
    have e1 : o + (i + 1) + rest.length ≤ (cs.setIfInBounds (o + i) v).size := by simp at hl ⊢; omega
    have e2 : o + i + (v :: rest).length ≤ cs.size := hl
    rw [splice_get e1, splice_get e2]
    simp only [List.length_cons, Array.getElem?_setIfInBounds]
    by_cases hk : k < o + i
    · simp [hk, show k < o + (i + 1) by omega, show ¬ (o + i = k) by omega]
    · by_cases hk2 : k = o + i
      · subst hk2
        simp [hi, show ¬ (o + i < o + i) by omega, show o + i < o + (i + 1) by omega]
      · simp only [hk, if_false, show ¬ (k < o + (i + 1)) by omega, show ¬ (o + i = k) by omega]
        by_cases hk3 : k < o + i + (rest.length + 1)
        · rw [if_pos (by omega), if_pos hk3, show k - (o + i) = (k - (o + (i + 1))) + 1 by omega]; simp
        · rw [if_neg (by omega), if_neg hk3]

end Go.Ab
end

section
/- The abstract machine: data out of objects; stores. No conditions. -/
set_option linter.unusedVariables false
set_option linter.unusedSimpArgs false
namespace Go.Ab
variable {P : Program} {S : Nat → Prop} {m : M}

theorem hupd_append (a b : List (Nat × Ob)) : ∀ h : Nat → Option Ob, hupd h (a ++ b) = hupd (hupd h a) b := by
  induction a with
  | nil => intro h; rfl
  | cons p r ih => intro h; obtain ⟨k, o⟩ := p; exact ih _

/-- Memory in which some objects are only read from now on. -/
structure RoBy (S : Nat → Prop) (m m' : M) (ids : List Nat) : Prop where
  evo : Evo S m m'
  rel : Rel S m'
  w : m'.w = m.w
  at_ : m'.at_ = m.at_
  iss : m'.iss = m.iss
  h : ∀ id, m'.h id = m.h id ∨ ∃ o, m.h id = some o ∧ m'.h id = some { o with ro := true }
  ro : ∀ id ∈ ids, ∀ o, m'.h id = some o → o.ro = true
  not : ∀ id, id ∉ ids → m'.h id = m.h id

theorem ros_from : ∀ (ids : List Nat) (all : List Nat) (m1 : M), RoBy S m m1 all → ∃ m', m'.h = hupd m1.h (roOf m.h ids) ∧ RoBy S m m' (all ++ ids)
  | [], all, m1, h1 => ⟨m1, rfl, by simpa using h1⟩
  | id :: r, all, m1, h1 => by
    simp only [roOf]
    cases hid : m.h id with
    | none =>
      obtain ⟨m', h2, h3⟩ := ros_from r all m1 h1
      refine ⟨m', h2, ⟨h3.evo, h3.rel, h3.w, h3.at_, h3.iss, h3.h, ?_, ?_⟩⟩
      · intro i hi o ho
        simp only [List.mem_append, List.mem_cons] at hi
        rcases hi with hi | rfl | hi
        · exact h3.ro i (by simp [hi]) o ho
        · rcases h3.h i with h | ⟨o', h, _⟩
          · rw [h, hid] at ho; simp at ho
          · rw [hid] at h; simp at h
        · exact h3.ro i (by simp [hi]) o ho
      · intro i hi
        simp only [List.mem_append, List.mem_cons, not_or] at hi
        exact h3.not i (by simp [hi.1, hi.2.2])
    | some o =>
      have hm1 : ∃ o1, m1.h id = some o1 ∧ ({ o1 with ro := true } : Ob) = { o with ro := true } := by
        rcases h1.h id with h | ⟨o', h, h'⟩
        · exact ⟨o, by rw [h, hid], rfl⟩
        · rw [hid] at h; injection h with h; subst h; exact ⟨_, h', rfl⟩
      obtain ⟨o1, ho1, heq⟩ := hm1
      obtain ⟨m2, e1, e2, e3, e4, e5, e6⟩ := ro_obj h1.rel ho1
      have h2 : RoBy S m m2 (all ++ [id]) := by
        refine ⟨h1.evo.trans e6, e5, e1.trans h1.w, e3.trans h1.at_, e4.trans h1.iss, fun i => ?_, fun i hi q hq => ?_, fun i hi => ?_⟩
        · by_cases hi : i = id
          · subst hi; exact .inr ⟨o, hid, by rw [e2]; simp [heq]⟩
          · rw [e2, upd_ne _ _ hi]; exact h1.h i
        · by_cases hid' : i = id
          · subst hid'; rw [e2] at hq; simp at hq; subst hq; rfl
          · rw [e2, upd_ne _ _ hid'] at hq
            exact h1.ro i (by simpa [hid'] using hi) q hq
        · simp at hi
          rw [e2, upd_ne _ _ hi.2]; exact h1.not i hi.1
      obtain ⟨m', h3, h4⟩ := ros_from r (all ++ [id]) m2 h2
      refine ⟨m', ?_, by simpa using h4⟩
      rw [h3, e2]
      simp only [hupd, heq]

theorem ros (hR : Rel S m) (ids : List Nat) : ∃ m', m'.h = hupd m.h (roOf m.h ids) ∧ RoBy S m m' ids := by
  obtain ⟨m', h1, h2⟩ := ros_from (S := S) (m := m) ids [] m ⟨.refl S m, hR, rfl, rfl, rfl, fun _ => .inl rfl, fun _ h => by simp at h, fun _ _ => rfl⟩
  exact ⟨m', h1, by simpa using h2⟩

theorem RoBy.free {m' : M} {ids : List Nat} (hR : Rel S m) (hb : RoBy S m m' ids) {id : Nat} {o : Ob} {b base : Nat} (hid : id ∈ ids) (ho : m.h id = some o) (ha : m.at_ id = some (b, base)) : ¬ m'.av S b := by
  rintro (h | ⟨i, q, x, h1, h2, h3⟩)
  · exact (hR.obj id o b base ho ha).1 h
  · rw [hb.at_] at h3
    have hq : ∃ p, m.h i = some p := by
      rcases hb.h i with h | ⟨p, h, _⟩
      · exact ⟨q, h ▸ h1⟩
      · exact ⟨p, h⟩
    obtain ⟨p, hp⟩ := hq
    have := hR.inj i id p o b x base hp ho h3 ha
    subst this
    have := hb.ro i hid q h1
    rw [this] at h2; cases h2

theorem chunk_length (sz : Nat) : ∀ (n : Nat) (l : List D), (chunk sz n l).length = n
  | 0, _ => rfl
  | n + 1, l => by simp [chunk, chunk_length sz n]

theorem chunk_get (sz : Nat) : ∀ (n : Nat) (l : List D) (i : Nat), i < n → (chunk sz n l)[i]? = some ((l.drop (i * sz)).take sz)
  | n + 1, l, 0, _ => by simp [chunk]
  | n + 1, l, i + 1, h => by
    simp only [chunk, List.getElem?_cons_succ]
    rw [chunk_get sz n (l.drop sz) i (by omega), List.drop_drop]
    congr 3
    rw [Nat.succ_mul]; omega

theorem toDs_spec {f : V → Option (D × List Nat)} : ∀ {vs : List V} {ds : List D} {ids : List Nat}, toDs f vs = some (ds, ids) →
    ds.length = vs.length ∧ ∀ (j : Nat) (v : V), vs[j]? = some v → ∃ d a, ds[j]? = some d ∧ f v = some (d, a) ∧ ∀ i ∈ a, i ∈ ids
  | [], ds, ids, h => by simp [toDs] at h; obtain ⟨rfl, rfl⟩ := h; exact ⟨rfl, fun j v hv => by simp at hv⟩
  | v :: r, ds, ids, h => by
    simp only [toDs] at h
    split at h
    · rename_i x a xs b h1 h2
      simp at h; obtain ⟨rfl, rfl⟩ := h
      obtain ⟨h3, h4⟩ := toDs_spec h2
      refine ⟨by simp [h3], fun j u hu => ?_⟩
      cases j with
      | zero => simp at hu; subst hu; exact ⟨x, a, rfl, h1, fun i hi => by simp [hi]⟩
      | succ j =>
        simp at hu
        obtain ⟨d, q, h5, h6, h7⟩ := h4 j u hu
        exact ⟨d, q, by simpa using h5, h6, fun i hi => by simp [h7 i hi]⟩
    · simp at h

theorem toD_sound (hR : Rel S m) : ∀ (f : Nat) {v : V} {x : D} {ids : List Nat} {y : Value}, toD m.h f v = some (x, ids) → RV S m v y → ∀ {m' : M} {all : List Nat}, RoBy S m m' all → (∀ i ∈ ids, i ∈ all) →
    RD m'.w (m'.av S) x y := by
  intro f
  induction f with
  | zero =>
    intro v x ids y h hv m' all hb hi
    cases v <;> simp only [toD] at h <;> try (simp at h; done)
    case d x' => simp at h; obtain ⟨rfl, rfl⟩ := h; cases hv with | d h => exact h.mono hb.evo.keep
    case full rows => simp at h; obtain ⟨rfl, rfl⟩ := h; cases hv with | full h => exact h.mono hb.evo.keep
  | succ f ih =>
    intro v x ids y h hv m' all hb hi
    cases v <;> simp only [toD] at h <;> try (simp at h; done)
    case d x' => simp at h; obtain ⟨rfl, rfl⟩ := h; cases hv with | d h => exact h.mono hb.evo.keep
    case full rows => simp at h; obtain ⟨rfl, rfl⟩ := h; cases hv with | full h => exact h.mono hb.evo.keep
    case osl id g off len sz cap =>
      cases hl : live m.h id g with
      | none => simp [hl] at h
      | some o =>
        simp only [hl] at h
        split at h
        · rename_i ds r hble hds
          simp at h; obtain ⟨rfl, rfl⟩ := h
          have hle : off + len * sz ≤ o.cells.length := Nat.le_of_ble_eq_true hble
          obtain ⟨ho, _, hok⟩ := hv.osl_live hl
          unfold OslOK at hok
          cases hat : m.at_ id with
          | none =>
            simp only [hat] at hok
            obtain ⟨rfl, _, _, a, rfl⟩ := hok
            simp only [chunk]
            exact .empty a 0 (Nat.zero_le _)
          | some p =>
            obtain ⟨b, base⟩ := p
            simp only [hat] at hok
            obtain ⟨p, k, rfl, hp, h2, h3, h4, _⟩ := hok
            rcases hp with rfl | ⟨rfl, rfl⟩
            · have hfree := hb.free hR (hi id (by simp)) ho hat
              obtain ⟨xs, hxs, _, hc⟩ := hR.vals ho hat
              obtain ⟨hdl, hdg⟩ := toDs_spec hds
              have hsub := (hxs.drop off).take (len * sz)
              have hlen : ((o.cells.drop off).take (len * sz)).length = len * sz := by simp; omega
              have hcl := chunk_length sz len ds
              have key : ∀ (i j : Nat) (row : List D) (d : D), (chunk sz len ds)[i]? = some row → row[j]? = some d → i < len ∧ j < sz ∧ ds[i * sz + j]? = some d := by
                intro i j row d h5 h6
                have hil : i < len := by rw [← hcl]; exact (List.getElem?_eq_some_iff.1 h5).1
                rw [chunk_get sz len ds i hil] at h5
                injection h5 with h5; subst h5
                rw [List.getElem?_take] at h6
                split at h6
                · rw [List.getElem?_drop] at h6; exact ⟨hil, by assumption, h6⟩
                · simp at h6
              have val : ∀ (q : Nat) (d : D), ds[q]? = some d → ∃ v y a, ((o.cells.drop off).take (len * sz))[q]? = some v ∧ xs[off + q]? = some y ∧ RV S m v y ∧ toD m.h f v = some (d, a) ∧ ∀ i ∈ a, i ∈ r := by
                intro q d hd
                have hq : q < ds.length := (List.getElem?_eq_some_iff.1 hd).1
                rw [hdl] at hq
                have hv' : ((o.cells.drop off).take (len * sz))[q]? = some ((o.cells.drop off).take (len * sz))[q] := List.getElem?_eq_getElem hq
                obtain ⟨d', a, g1, g2, g3⟩ := hdg q _ hv'
                rw [hd] at g1; injection g1 with g1; subst g1
                obtain ⟨y, hy1, hy2⟩ := hsub.get hv'
                refine ⟨_, y, a, hv', ?_, hy2, g2, g3⟩
                rw [List.getElem?_take] at hy1
                split at hy1
                · rw [List.getElem?_drop] at hy1; exact hy1
                · simp at hy1
              have := RD.slice (w := m'.w) (av := m'.av S) (chunk sz len ds) b (base + off) k sz (by rw [hcl]; exact h3) h4 (fun i row hrow => by
                  have hil : i < len := by rw [← hcl]; exact (List.getElem?_eq_some_iff.1 hrow).1
                  rw [chunk_get sz len ds i hil] at hrow
                  injection hrow with hrow; subst hrow
                  simp
                  have : (i + 1) * sz ≤ len * sz := Nat.mul_le_mul_right _ hil
                  rw [Nat.succ_mul] at this
                  omega)
                (fun i j => (xs[off + (i * sz + j)]?).getD undef)
                (fun i j row d h5 h6 => by
                  obtain ⟨k1, k2, k3⟩ := key i j row d h5 h6
                  obtain ⟨v, y, a, g1, g2, _⟩ := val _ d k3
                  refine ⟨hfree, ?_⟩
                  rw [hb.w, g2, Nat.add_assoc]
                  exact hc _ _ g2)
                (fun i j row d h5 h6 => by
                  obtain ⟨k1, k2, k3⟩ := key i j row d h5 h6
                  obtain ⟨v, y, a, g1, g2, g3, g4, g5⟩ := val _ d k3
                  rw [g2]
                  exact ih g4 g3 hb (fun i hi' => hi i (by simp [g5 i hi'])))
              rw [hcl] at this
              exact this
            · simp only [chunk]
              exact .empty (some p) 0 (Nat.zero_le _)
        · simp at h

theorem close1_sound (hR : Rel S m) {v w : V} {ids : List Nat} {y : Value} (h : close1 m.h v = some (w, ids)) (hv : RV S m v y) {m' : M} {all : List Nat} (hb : RoBy S m m' all) (hi : ∀ i ∈ ids, i ∈ all) : RV S m' w y := by
  unfold close1 at h
  split at h
  · simp at h; obtain ⟨rfl, rfl⟩ := h; exact hv.mono hb.evo
  · simp at h; obtain ⟨rfl, rfl⟩ := h; exact hv.mono hb.evo
  · unfold ofD at h
    split at h
    · rename_i x r hx
      simp at h; obtain ⟨rfl, rfl⟩ := h
      exact .d (toD_sound hR depthD hx hv hb hi)
    · simp at h

theorem closeVs_sound {f : V → Option (V × List Nat)} {m' : M} {all : List Nat}
    (hf : ∀ {v w : V} {ids : List Nat} {y : Value}, f v = some (w, ids) → RV S m v y → (∀ i ∈ ids, i ∈ all) → RV S m' w y) :
    ∀ {vs ws : List V} {ids : List Nat} {ys : List Value}, closeVs f vs = some (ws, ids) → RVs S m vs ys → (∀ i ∈ ids, i ∈ all) → RVs S m' ws ys
  | [], ws, ids, ys, h, hv, hi => by
    simp [closeVs] at h; obtain ⟨rfl, rfl⟩ := h
    have := hv.1; simp at this
    have : ys = [] := List.length_eq_zero_iff.1 (by simp [← this])
    subst this; exact .nil
  | v :: r, ws, ids, ys, h, hv, hi => by
    simp only [closeVs] at h
    split at h
    · rename_i x a xs b h1 h2
      simp at h; obtain ⟨rfl, rfl⟩ := h
      obtain ⟨y, ys', rfl, hy, hys⟩ := hv.cases
      exact .cons (hf h1 hy fun i hi' => hi i (by simp [hi'])) (closeVs_sound hf h2 hys fun i hi' => hi i (by simp [hi']))
    · simp at h

theorem close_sound (hR : Rel S m) {v w : V} {ids : List Nat} {y : Value} (h : close m.h v = some (w, ids)) (hv : RV S m v y) {m' : M} {all : List Nat} (hb : RoBy S m m' all) (hi : ∀ i ∈ ids, i ∈ all) : RV S m' w y := by
  unfold close at h
  split at h
  · split at h
    · rename_i cs xs r hx
      simp at h; obtain ⟨rfl, rfl⟩ := h
      obtain ⟨ys, rfl, hys⟩ := hv.agg_vals
      exact (closeVs_sound (fun g1 g2 g3 => close1_sound hR g1 g2 hb g3) hx hys hi).agg
    · simp at h
  · exact close1_sound hR h hv hb hi

theorem RVs.tuple {cs : List V} {xs : List Value} (h : RVs S m cs xs) : RV S m (.tuple cs) (.tuple xs.toArray) :=
  .tuple (by simp [h.1]) fun j x y hx hy => h.2 j x y hx (by simpa using hy)

theorem closeT_sound (hR : Rel S m) {v w : V} {ids : List Nat} {y : Value} (h : closeT m.h v = some (w, ids)) (hv : RV S m v y) {m' : M} {all : List Nat} (hb : RoBy S m m' all) (hi : ∀ i ∈ ids, i ∈ all) : RV S m' w y := by
  unfold closeT at h
  split at h
  · split at h
    · rename_i cs xs r hx
      simp at h; obtain ⟨rfl, rfl⟩ := h
      obtain ⟨ys, rfl, hys⟩ := hv.tuple_vals
      exact (closeVs_sound (fun g1 g2 g3 => close_sound hR g1 g2 hb g3) hx hys hi).tuple
    · simp at h
  · exact close_sound hR h hv hb hi

theorem close1_one {look : Look} {v w : V} {ids : List Nat} (h : close1 look v = some (w, ids)) (ho : v.one = true) : w.one = true := by
  unfold close1 at h
  split at h
  · simp at h; obtain ⟨rfl, rfl⟩ := h; exact ho
  · simp at h; obtain ⟨rfl, rfl⟩ := h; exact ho
  · unfold ofD at h
    split at h
    · simp at h; obtain ⟨rfl, rfl⟩ := h; rfl
    · simp at h

theorem cl1_sound (hR : Rel S m) {fz : Bool} {v w : V} {ids : List Nat} {y : Value} (h : cl1 m.h fz v = some (w, ids)) (hv : RV S m v y) {m' : M} {all : List Nat} (hb : RoBy S m m' all) (hi : ∀ i ∈ ids, i ∈ all) : RV S m' w y := by
  unfold cl1 at h
  split at h
  · split at h
    · exact close1_sound hR h hv hb hi
    · simp at h; obtain ⟨rfl, rfl⟩ := h; exact hv.mono hb.evo
  · simp at h; obtain ⟨rfl, rfl⟩ := h; exact hv.mono hb.evo

theorem cl2_sound (hR : Rel S m) {fz : Bool} {v w : V} {ids : List Nat} {y : Value} (h : cl2 m.h fz v = some (w, ids)) (hv : RV S m v y) {m' : M} {all : List Nat} (hb : RoBy S m m' all) (hi : ∀ i ∈ ids, i ∈ all) : RV S m' w y := by
  unfold cl2 at h
  split at h
  · split at h
    · rename_i cs xs r hx
      simp at h; obtain ⟨rfl, rfl⟩ := h
      obtain ⟨ys, rfl, hys⟩ := hv.agg_vals
      exact (closeVs_sound (fun g1 g2 g3 => cl1_sound hR g1 g2 hb g3) hx hys hi).agg
    · simp at h
  · exact cl1_sound hR h hv hb hi

theorem cl1_one {look : Look} {fz : Bool} {v w : V} {ids : List Nat} (h : cl1 look fz v = some (w, ids)) (ho : v.one = true) : w.one = true := by
  unfold cl1 at h
  split at h
  · split at h
    · exact close1_one h ho
    · simp at h; obtain ⟨rfl, rfl⟩ := h; exact ho
  · simp at h; obtain ⟨rfl, rfl⟩ := h; exact ho

theorem closeVs_length {f : V → Option (V × List Nat)} : ∀ {vs ws : List V} {ids : List Nat}, closeVs f vs = some (ws, ids) → ws.length = vs.length
  | [], ws, ids, h => by simp [closeVs] at h; obtain ⟨rfl, rfl⟩ := h; rfl
  | v :: r, ws, ids, h => by
    simp only [closeVs] at h
    split at h
    · rename_i x a xs b h1 h2
      simp at h; obtain ⟨rfl, rfl⟩ := h
      simp [closeVs_length h2]
    · simp at h

theorem closeVs_one {look : Look} {fz : Bool} : ∀ {vs ws : List V} {ids : List Nat}, closeVs (cl1 look fz) vs = some (ws, ids) → vs.all V.one = true → ws.all V.one = true
  | [], ws, ids, h, _ => by simp [closeVs] at h; obtain ⟨rfl, rfl⟩ := h; rfl
  | v :: r, ws, ids, h, ho => by
    simp only [closeVs] at h
    split at h
    · rename_i x a xs b h1 h2
      simp at h; obtain ⟨rfl, rfl⟩ := h
      simp only [List.all_cons, Bool.and_eq_true] at ho ⊢
      exact ⟨cl1_one h1 ho.1, closeVs_one h2 ho.2⟩
    · simp at h

end Go.Ab
end
