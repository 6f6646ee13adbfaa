/- The abstract machine: values, the relation of abstract values to the model's values, and its stability under change of memory. No conditions. -/
import Derived.Calls
import Derived.Orders
import Derived.Laws.World
import Derived.Laws.Sem
import Derived.Laws.Cells
import Derived.Laws.Append
import GoSem.ClaimData
set_option linter.unusedVariables false
set_option linter.unusedSimpArgs false
namespace Go.Ac
theorem jn {a b : Prop} (x : a) (y : b) : a ∧ b := And.intro x y

/-- Data: what never changes. A row is the cells of one element. -/
inductive D where
 | bool (b : Bool)
 | int (k : IntKind) (n : Int)
 | str (s : List UInt8)
 | slice (rows : List (List D))
 | sym (k : Nat)
 deriving Inhabited

/-- Values at run time. -/
inductive V where
 | any
 | undef
 | d (x : D)
 | con (v : Value)
 | full (rows : List (List D))
 | agg (cs : List V)
 | ptr (id g off : Nat)
 | osl (id g off len sz : Nat) (cap : Option Nat)
 | vref (cells : List D)
 | fn (f : FuncId) (caps : List V)
 | tuple (vs : List V)
 | it (id g : Nat)
 | mp (id g : Nat)
 | itc (s : List UInt8) (pos : Nat)
 | mpc (ks : List D) (vs : List V) (bs : List Nat) (clock : Nat)
 | mpa (ks : List (List D)) (vs : List V) (clock : Nat)
 | mpq (ks : List D) (vs : List V) (clock : Nat)
 | itm (mid mg since : Nat) (seen : List Nat) (last : Nat)
 | ifc (t : Nat) (v : V)
 | mv (f : FuncId) (v : V)
 | yd (id g : Nat)
 | lp (st : Nat) (pend : Option Code) (fid : Nat) (env : List (Nat × V)) (ps : List Nat) (assign body : Code)
 deriving Inhabited

abbrev Env := List (Nat × V)

def Env.get : Env → Nat → V
 | [], _ => .any
 | (k, v) :: r, t => match Nat.beq k t with | true => v | false => Env.get r t

/-- What a package-level variable reads as: it is only read. -/
class Gl where
 gv : Nat → V
 ok : ∀ g, gv g = .any ∨ ∃ ds, gv g = .vref ds
 sy : Nat → D
 sn : Nat → Option Nat := fun _ => none
 sk : Nat → Option IntKind := fun _ => none
 snOK : ∀ k n, sn k = some n → ∃ s, sy k = .str s ∧ s.length = n := by intro k n h; cases h
 skOK : ∀ k q, sk k = some q → ∃ n, sy k = .int q n := by intro k q h; cases h

/-- The kind of an object: cells; the iterator of a string; a map. -/
def kindL : List V → Nat
 | [.itc ..] => 1
 | [.mpc ..] => 2
 | [.mpa ..] => 2
 | [.mpq ..] => 2
 | [.itm ..] => 1
 | [.lp ..] => 3
 | _ => 0

/-- An object of the local memory. -/
structure Ob where
 gen : Nat
 ro : Bool
 cells : List V
 deriving Inhabited

/-- May it lie in one cell? -/
def V.one : V → Bool
 | .any | .undef | .agg _ | .tuple _ | .itc .. | .mpc .. | .mpa .. | .mpq .. | .itm .. | .lp .. => false
 | .con v => v.oneCell'
 | _ => true

/-- A value stands for data, over memory outside 'av'. -/
inductive RD [Gl] (w : World) (av : Nat → Prop) : D → Value → Prop
 | bool (b : Bool) : RD w av (.bool b) (.bool b)
 | int (k : IntKind) (n : Int) : RD w av (.int k n) (.int k n)
 | str (s : ByteArray) (l : List UInt8) (h : s.data.toList = l) : RD w av (.str l) (.string s)
 | empty (a : Option Addr) (cap : Nat) (h : cap ≤ maxLen) : RD w av (.slice []) (.slice a 0 cap)
 | slice (rows : List (List D)) (b off cap sz : Nat) (hlen : rows.length ≤ cap) (hcap : cap ≤ maxLen) (hsz : ∀ (i : Nat) (r : List D), rows[i]? = some r → r.length = sz)
   (f : Nat → Nat → Value)
   (hf : ∀ (i j : Nat) (r : List D) (d : D), rows[i]? = some r → r[j]? = some d → ¬ av b ∧ w.cell? ⟨b, off + (i * sz + j), none⟩ = some (f i j))
   (hr : ∀ (i j : Nat) (r : List D) (d : D), rows[i]? = some r → r[j]? = some d → RD w av d (f i j)) :
   RD w av (.slice rows) (.slice (some ⟨b, off, none⟩) rows.length cap)
 | sym (k : Nat) {v : Value} (h : RD w av (Gl.sy k) v) : RD w av (.sym k) v

/-- The state of memory: where the objects lie, what they hold, which names have been given out, the world. -/
structure M where
 at_ : Nat → Option (Nat × Nat)
 h : Nat → Option Ob
 iss : Nat → Nat → Prop
 w : World

/-- The blocks that data may not lie in. -/
def M.av (S : Nat → Prop) (m : M) (b : Nat) : Prop := S b ∨ ∃ id o x, m.h id = some o ∧ o.ro = false ∧ m.at_ id = some (b, x)

/-- What a live slice of an object says of its value. -/
def OslOK (m : M) (o : Ob) (id off len sz : Nat) (cap : Option Nat) (v : Value) : Prop :=
 match m.at_ id with
 | none => len = 0 ∧ off = 0 ∧ cap = none ∧ ∃ a, v = .slice a 0 0
 | some (b, base) => ∃ p k, v = .slice (some p) len k ∧ (p = ⟨b, base + off, none⟩ ∨ (len = 0 ∧ k = 0)) ∧ off + len * sz ≤ o.cells.length ∧ len ≤ k ∧ k ≤ maxLen ∧
   (∃ (cs : Array Value) (T : TypeId) (fz : Nat × Nat), m.w.heap[b]? = some (Obj.cells cs T fz) ∧ base + off + k * sz ≤ cs.size) ∧
   match cap with
   | some q => k = q ∧ off + q * sz ≤ o.cells.length
   | none => True

inductive RV [Gl] (S : Nat → Prop) (m : M) : V → Value → Prop
 | any (v : Value) : RV S m .any v
 | undef : RV S m .undef undef
 | d {x : D} {v : Value} (h : RD m.w (m.av S) x v) : RV S m (.d x) v
 | con (v : Value) : RV S m (.con v) v
 | full {rows : List (List D)} {a : Option Addr} (h : RD m.w (m.av S) (.slice rows) (.slice a rows.length rows.length)) : RV S m (.full rows) (.slice a rows.length rows.length)
 | agg {cs : List V} {vs : Array Value} (hl : cs.length = vs.size) (h : ∀ (j : Nat) (x : V) (y : Value), cs[j]? = some x → vs[j]? = some y → RV S m x y) : RV S m (.agg cs) (.agg vs)
 | ptr {id g off : Nat} {v : Value} (h1 : m.iss id g) (h2 : v.oneCell' = true)
   (h : ∀ o, m.h id = some o → o.gen = g → kindL o.cells = 0 ∧ ∃ b base, m.at_ id = some (b, base) ∧ v = .pointer (some ⟨b, base + off, none⟩)) : RV S m (.ptr id g off) v
 | osl {id g off len sz : Nat} {cap : Option Nat} {v : Value} (h1 : m.iss id g) (h2 : v.oneCell' = true)
   (h : ∀ o, m.h id = some o → o.gen = g → kindL o.cells = 0 ∧ OslOK m o id off len sz cap v) : RV S m (.osl id g off len sz cap) v
 | it {id g : Nat} {v : Value} (h1 : m.iss id g) (h2 : v.oneCell' = true)
   (h : ∀ o, m.h id = some o → o.gen = g → kindL o.cells = 1 ∧ ∃ b, m.at_ id = some (b, 0) ∧ v = .pointer (some ⟨b, 0, none⟩)) : RV S m (.it id g) v
 | mp {id g : Nat} {v : Value} (h1 : m.iss id g) (h2 : v.oneCell' = true)
   (h : ∀ o, m.h id = some o → o.gen = g → kindL o.cells = 2 ∧ ∃ b, m.at_ id = some (b, 0) ∧ v = .map (some b)) : RV S m (.mp id g) v
 | vref {cells : List D} {b off : Nat} (f : Nat → Value) (hf : ∀ (j : Nat) (d : D), cells[j]? = some d → ¬ m.av S b ∧ m.w.cell? ⟨b, off + j, none⟩ = some (f j))
   (hr : ∀ (j : Nat) (d : D), cells[j]? = some d → RD m.w (m.av S) d (f j)) : RV S m (.vref cells) (.pointer (some ⟨b, off, none⟩))
 | fn {f : FuncId} {caps : List V} {vs : Array Value} (hl : caps.length = vs.size) (h : ∀ (j : Nat) (x : V) (y : Value), caps[j]? = some x → vs[j]? = some y → RV S m x y) :
   RV S m (.fn f caps) (.func (.func f) #[] vs)
 | tuple {cs : List V} {vs : Array Value} (hl : cs.length = vs.size) (h : ∀ (j : Nat) (x : V) (y : Value), cs[j]? = some x → vs[j]? = some y → RV S m x y) : RV S m (.tuple cs) (.tuple vs)
 | ifc {t : Nat} {x : V} {y : Value} (h : RV S m x y) : RV S m (.ifc t x) (.iface t y)
 | mv {f : FuncId} {x : V} {y : Value} (h : RV S m x y) : RV S m (.mv f x) (.func (.func f) #[y] #[])
 | yd {id g : Nat} {v : Value} (h1 : m.iss id g) (h2 : v.oneCell' = true)
   (h : ∀ o, m.h id = some o → o.gen = g → kindL o.cells = 3 ∧ ∃ b, m.at_ id = some (b, 0) ∧ v = .func (.yield b) #[] #[]) : RV S m (.yd id g) v

/-- Every operation writes a slot that is there. -/
def plainOp : Op → Bool
 | .defer _ => false
 | _ => true
def codeOKb (nr : Bool) (N : Nat) : Code → Bool
 | .region _ ops _ => ops.toList.all fun o => plainOp o.op && match o.dst with | some d => Nat.blt d N | none => true
 | .seq a b => codeOKb nr N a && codeOKb nr N b
 | .cond _ a b => codeOKb nr N a && codeOKb nr N b
 | .block _ b => codeOKb nr N b
 | .loop b => codeOKb nr N b
 | .scope b => codeOKb nr N b
 | .rangeFunc _ ps a b => !nr && ps.toList.all (fun t => Nat.blt t N) && codeOKb false N a && codeOKb false N b
 | _ => true
abbrev codeOK (N : Nat) (c : Code) : Bool := codeOKb false N c

/-- The state of a loop over a function. -/
def loopN : LoopState → Nat
 | .ready => 0
 | .busy => 1
 | .done => 2
 | .exhausted => 3

/-- A row of cells holds the cells of an object. -/
def CellsAt [Gl] (S : Nat → Prop) (m : M) (l : List V) (b base : Nat) : Prop :=
 ∃ (cs : Array Value) (T : TypeId) (fz : Nat × Nat), m.w.heap[b]? = some (Obj.cells cs T fz) ∧ (fz.2 = fz.1 ∨ cs.size ≤ fz.1) ∧
  base + l.length ≤ cs.size ∧ ∀ (j : Nat) (v : V), l[j]? = some v → v.one = true ∧ ∃ x, cs[base + j]? = some x ∧ RV S m v x

/-- The iterator of a string. -/
def IterAt (m : M) (s : List UInt8) (pos b base : Nat) : Prop := base = 0 ∧ ∃ t : ByteArray, m.w.heap[b]? = some (Obj.stringIter t pos) ∧ t.data.toList = s

/-- The entries of a map. -/
structure MapAt [Gl] (S : Nat → Prop) (m : M) (ks : List D) (vs : List V) (bs : List Nat) (es : Array MapEntry) : Prop where
 lk : ks.length = es.size
 lv : vs.length = es.size
 lb : bs.length = es.size
 key : ∀ (j : Nat) (k : D) (e : MapEntry), ks[j]? = some k → es[j]? = some e → RD m.w (m.av S) k e.key
 val : ∀ (j : Nat) (v : V) (e : MapEntry), vs[j]? = some v → es[j]? = some e → RV S m v e.val
 born : ∀ (j : Nat) (n : Nat) (e : MapEntry), bs[j]? = some n → es[j]? = some e → e.born = n

/-- The same of a map whose keys are structs. -/
structure MapAAt [Gl] (S : Nat → Prop) (m : M) (ks : List (List D)) (vs : List V) (es : Array MapEntry) : Prop where
 lk : ks.length = es.size
 lv : vs.length = es.size
 key : ∀ (j : Nat) (k : List D) (e : MapEntry), ks[j]? = some k → es[j]? = some e → RV S m (.agg (k.map .d)) e.key
 val : ∀ (j : Nat) (v : V) (e : MapEntry), vs[j]? = some v → es[j]? = some e → RV S m v e.val

/-- Are two keys two? -/
def keyEq : D → D → Option Bool
 | .int k a, .int q b => if k = q then some (a == b) else none
 | .str a, .str b => some (a == b)
 | .bool a, .bool b => some (a == b)
 | _, _ => none

/-- The entries in another order; the keys are all of one kind, and different. -/
structure QP (ks : List D) (vs : List V) (ks' : List D) (vs' : List V) : Prop where
 perm : (ks'.zip vs').Perm (ks.zip vs)
 l : ks.length = vs.length
 l' : ks'.length = vs'.length
 ap : ks.Pairwise fun a b => keyEq a b = some false

/-- The record of a loop over a function. -/
structure LoopAt [Gl] (S : Nat → Prop) (m : M) (st : Nat) (pend : Option Code) (fid : Nat) (env : Env) (ps : List Nat) (assign body : Code) (r : Loop) : Prop where
 st : loopN r.state = st
 pend : r.pending = pend
 ps : r.params = ps.toArray
 asg : r.assign = assign
 body : r.body = body
 env : ∀ t, RV S m (env.get t) (r.tmps.getD t undef)
 ok : codeOK r.tmps.size r.assign = true ∧ codeOK r.tmps.size r.body = true ∧ ∀ t, t ∈ r.params.toList → t < r.tmps.size

/-- What lies in memory at an object's place. -/
def RowAt [Gl] (S : Nat → Prop) (m : M) (l : List V) (b base : Nat) : Prop :=
 match l with
 | [.itc s pos] => IterAt m s pos b base
 | [.mpc ks vs bs clock] => base = 0 ∧ ∃ es, m.w.heap[b]? = some (Obj.map es clock) ∧ MapAt S m ks vs bs es
 | [.mpa ks vs clock] => base = 0 ∧ ∃ es, m.w.heap[b]? = some (Obj.map es clock) ∧ MapAAt S m ks vs es
 | [.mpq ks vs clock] => base = 0 ∧ ∃ es, m.w.heap[b]? = some (Obj.map es clock) ∧ ∃ ks' vs' bs', MapAt S m ks' vs' bs' es ∧ QP ks vs ks' vs'
 | [.itm mid mg since seen last] => base = 0 ∧ ∃ bm, m.w.heap[b]? = some (Obj.mapIter (some bm) since seen.toArray last) ∧ RV S m (.mp mid mg) (.map (some bm))
 | [.lp st pend fid env ps assign body] => base = 0 ∧ ∃ r, m.w.heap[b]? = some (Obj.loop r) ∧ LoopAt S m st pend fid env ps assign body r
 | _ => CellsAt S m l b base

/-- The objects lie where they are said to lie, and hold what they are said to hold. -/
structure Rel [Gl] (S : Nat → Prop) (m : M) : Prop where
 glob : ∀ g, RV S m (Gl.gv g) (.pointer (some ⟨g, 0, none⟩))
 iss : ∀ id o, m.h id = some o → m.iss id o.gen
 none_ : ∀ id o, m.h id = some o → m.at_ id = none → o.cells = []
 obj : ∀ id o b base, m.h id = some o → m.at_ id = some (b, base) → ¬ S b ∧ RowAt S m o.cells b base
 inj : ∀ i j oi oj b x y, m.h i = some oi → m.h j = some oj → m.at_ i = some (b, x) → m.at_ j = some (b, y) → i = j
 sub : ∀ b, S b → b < m.w.heap.size

/-- How memory may change. -/
structure Evo (S : Nat → Prop) (m m' : M) : Prop where
 iss : ∀ id g, m.iss id g → m'.iss id g
 size : m.w.heap.size ≤ m'.w.heap.size
 shape : ∀ (b : Nat) (cs : Array Value) (T : TypeId) (fz : Nat × Nat), m.w.heap[b]? = some (Obj.cells cs T fz) → ∃ (cs2 : Array Value) (fz2 : Nat × Nat), m'.w.heap[b]? = some (Obj.cells cs2 T fz2) ∧ cs2.size = cs.size
 keepS : ∀ b, b < m.w.heap.size → S b → m'.w.heap[b]? = m.w.heap[b]?
 keep : ∀ b, b < m.w.heap.size → ¬ m.av S b → ¬ m'.av S b ∧ m'.w.heap[b]? = m.w.heap[b]?
 live : ∀ id o', m'.h id = some o' → m.iss id o'.gen → ∃ o, m.h id = some o ∧ o.gen = o'.gen ∧ m'.at_ id = m.at_ id ∧ o.cells.length ≤ o'.cells.length ∧ kindL o'.cells = kindL o.cells
 old : ∀ id o b x, m'.h id = some o → m'.at_ id = some (b, x) → b < m.w.heap.size → ∃ o0 y, m.h id = some o0 ∧ m.at_ id = some (b, y)
 rest : m'.w.os = m.w.os ∧ m'.w.output = m.w.output
 dfr : ∀ (b : Nat), m.w.heap[b]? = some (Obj.deferred (some [])) → m'.w.heap[b]? = some (Obj.deferred (some []))
 lps : ∀ (b : Nat) (r : Loop), m.w.heap[b]? = some (Obj.loop r) → ∃ r' : Loop, m'.w.heap[b]? = some (Obj.loop r')

theorem Evo.refl (S : Nat → Prop) (m : M) : Evo S m m :=
 ⟨fun _ _ h => h, Nat.le_refl _, fun _ cs _ fz h => ⟨cs, fz, h, rfl⟩, fun _ _ _ => rfl, fun _ _ h => ⟨h, rfl⟩, fun _ o' h _ => ⟨o', h, rfl, rfl, Nat.le_refl _, rfl⟩, fun _ o _ x h1 h2 _ => ⟨o, x, h1, h2⟩, ⟨rfl, rfl⟩, fun _ h => h, fun _ r h => ⟨r, h⟩⟩

theorem Evo.trans {S : Nat → Prop} {a b c : M} (h : Evo S a b) (k : Evo S b c) : Evo S a c where
 iss id g x := k.iss _ _ (h.iss _ _ x)
 size := Nat.le_trans h.size k.size
 shape x cs T fz hx := by
  obtain ⟨cs1, f1, h1, h2⟩ := h.shape x cs T fz hx
  obtain ⟨cs2, f2, h3, h4⟩ := k.shape x cs1 T f1 h1
  exact ⟨cs2, f2, h3, h4.trans h2⟩
 keepS x hx hs := (k.keepS x (Nat.lt_of_lt_of_le hx h.size) hs).trans (h.keepS x hx hs)
 keep x hx hn := by
  obtain ⟨h1, h2⟩ := h.keep x hx hn
  obtain ⟨h3, h4⟩ := k.keep x (Nat.lt_of_lt_of_le hx h.size) h1
  exact ⟨h3, h4.trans h2⟩
 live id o' ho hg := by
  obtain ⟨o1, a1, a2, a3, a4, a5⟩ := k.live id o' ho (h.iss _ _ hg)
  obtain ⟨o2, b1, b2, b3, b4, b5⟩ := h.live id o1 a1 (a2 ▸ hg)
  exact ⟨o2, b1, b2.trans a2, a3.trans b3, Nat.le_trans b4 a4, a5.trans b5⟩
 old id o x y ho ha hb := by
  obtain ⟨o1, z, h1, h2⟩ := k.old id o x y ho ha (Nat.lt_of_lt_of_le hb h.size)
  exact h.old id o1 x z h1 h2 hb
 rest := ⟨k.rest.1.trans h.rest.1, k.rest.2.trans h.rest.2⟩
 dfr x hx := k.dfr x (h.dfr x hx)
 lps x r hx := by
  obtain ⟨r1, h1⟩ := h.lps x r hx
  exact k.lps x r1 h1

theorem RD.mono [Gl] {w w' : World} {av av' : Nat → Prop} {x : D} {v : Value} (h : RD w av x v)
  (k : ∀ b, b < w.heap.size → ¬ av b → ¬ av' b ∧ w'.heap[b]? = w.heap[b]?) : RD w' av' x v := by
 induction h with
 | bool b => exact .bool b
 | int k n => exact .int k n
 | str s l h => exact .str s l h
 | empty a cap h => exact .empty a cap h
 | slice rows b off cap sz hlen hcap hsz f hf hr ih =>
  refine .slice rows b off cap sz hlen hcap hsz f (fun i j r d h1 h2 => ?_) ih
  obtain ⟨h3, h4⟩ := hf i j r d h1 h2
  have hlt : b < w.heap.size := World.block_lt_of_cell? w _ h4
  obtain ⟨h5, h6⟩ := k b hlt h3
  refine ⟨h5, ?_⟩
  rw [← h4]; simp [World.cell?, h6]
 | sym k h ih => exact .sym k ih

theorem OslOK.mono {S : Nat → Prop} {m m' : M} {o o' : Ob} {id off len sz : Nat} {cap : Option Nat} {v : Value} (h : OslOK m o id off len sz cap v)
  (e : Evo S m m') (ha : m'.at_ id = m.at_ id) (hl : o.cells.length ≤ o'.cells.length) : OslOK m' o' id off len sz cap v := by
 unfold OslOK at *
 rw [ha]
 cases hid : m.at_ id with
 | none => simpa [hid] using h
 | some p =>
  obtain ⟨b, base⟩ := p
  simp only [hid] at h ⊢
  obtain ⟨p, k, h1, h0, h2, h3, h4, ⟨cs, T, fz, h5, h6⟩, h7⟩ := h
  obtain ⟨cs', fz', h8, h9⟩ := e.shape b cs T fz h5
  refine ⟨p, k, h1, h0, by omega, h3, h4, ⟨cs', T, fz', h8, by omega⟩, ?_⟩
  cases cap with
  | none => trivial
  | some q => exact ⟨h7.1, by have := h7.2; omega⟩

theorem RV.mono [Gl] {S : Nat → Prop} {m m' : M} {x : V} {v : Value} (h : RV S m x v) (e : Evo S m m') : RV S m' x v := by
 induction h with
 | any v => exact .any v
 | undef => exact .undef
 | d h => exact .d (h.mono e.keep)
 | con v => exact .con v
 | full h => exact .full (h.mono e.keep)
 | agg hl h ih => exact .agg hl ih
 | ptr h1 h2 h =>
  refine .ptr (e.iss _ _ h1) h2 fun o' ho hg => ?_
  obtain ⟨o, a1, a2, a3, a4, a5⟩ := e.live _ o' ho (hg ▸ h1)
  rw [a3, a5]
  exact h o a1 (a2.trans hg)
 | osl h1 h2 h =>
  refine .osl (e.iss _ _ h1) h2 fun o' ho hg => ?_
  obtain ⟨o, a1, a2, a3, a4, a5⟩ := e.live _ o' ho (hg ▸ h1)
  rw [a5]
  exact ⟨(h o a1 (a2.trans hg)).1, (h o a1 (a2.trans hg)).2.mono e a3 a4⟩
 | it h1 h2 h =>
  refine .it (e.iss _ _ h1) h2 fun o' ho hg => ?_
  obtain ⟨o, a1, a2, a3, a4, a5⟩ := e.live _ o' ho (hg ▸ h1)
  rw [a3, a5]
  exact h o a1 (a2.trans hg)
 | mp h1 h2 h =>
  refine .mp (e.iss _ _ h1) h2 fun o' ho hg => ?_
  obtain ⟨o, a1, a2, a3, a4, a5⟩ := e.live _ o' ho (hg ▸ h1)
  rw [a3, a5]
  exact h o a1 (a2.trans hg)
 | vref f hf hr =>
  refine .vref f (fun j d hj => ?_) fun j d hj => (hr j d hj).mono e.keep
  obtain ⟨h3, h4⟩ := hf j d hj
  obtain ⟨h5, h6⟩ := e.keep _ (World.block_lt_of_cell? m.w _ h4) h3
  refine ⟨h5, ?_⟩
  rw [← h4]; simp [World.cell?, h6]
 | fn hl h ih => exact .fn hl ih
 | tuple hl h ih => exact .tuple hl ih
 | ifc h ih => exact .ifc ih
 | mv h ih => exact .mv ih
 | yd h1 h2 h =>
  refine .yd (e.iss _ _ h1) h2 fun o' ho hg => ?_
  obtain ⟨o, a1, a2, a3, a4, a5⟩ := e.live _ o' ho (hg ▸ h1)
  rw [a3, a5]
  exact h o a1 (a2.trans hg)

theorem LoopAt.mono [Gl] {S : Nat → Prop} {m m' : M} {st : Nat} {pend : Option Code} {fid : Nat} {env : Env} {ps : List Nat} {assign body : Code} {r : Loop} (h : LoopAt S m st pend fid env ps assign body r) (e : Evo S m m') : LoopAt S m' st pend fid env ps assign body r :=
 ⟨h.st, h.pend, h.ps, h.asg, h.body, fun t => (h.env t).mono e, h.ok⟩

theorem RD.one [Gl] {w : World} {av : Nat → Prop} {x : D} {v : Value} (h : RD w av x v) : v.oneCell' = true := by
 induction h with
 | sym k h ih => exact ih
 | _ => rfl

theorem RV.one [Gl] {S : Nat → Prop} {m : M} {x : V} {v : Value} (h : RV S m x v) (hx : x.one = true) : v.oneCell' = true := by
 cases h with
 | any v => simp [V.one] at hx
 | undef => simp [V.one] at hx
 | d h => exact h.one
 | con v => simpa [V.one] using hx
 | full h => exact h.one
 | agg hl h => simp [V.one] at hx
 | ptr h1 h2 h => exact h2
 | osl h1 h2 h => exact h2
 | vref f hf hr => rfl
 | fn hl h => rfl
 | tuple hl h => simp [V.one] at hx
 | it h1 h2 h => exact h2
 | mp h1 h2 h => exact h2
 | ifc h => rfl
 | mv h => rfl
 | yd h1 h2 h => exact h2

theorem kind_of_one {l : List V} (h : ∀ (j : Nat) (v : V), l[j]? = some v → v.one = true) : kindL l = 0 := by
 unfold kindL
 split
 ·have := h 0 _ rfl; simp [V.one] at this
 ·have := h 0 _ rfl; simp [V.one] at this
 ·have := h 0 _ rfl; simp [V.one] at this
 ·have := h 0 _ rfl; simp [V.one] at this
 ·have := h 0 _ rfl; simp [V.one] at this
 ·have := h 0 _ rfl; simp [V.one] at this
 ·rfl

theorem rowAt_cells [Gl] {S : Nat → Prop} {m : M} {l : List V} {b base : Nat} (hk : kindL l = 0) : RowAt S m l b base = CellsAt S m l b base := by
 cases l with
 | nil => rfl
 | cons a r =>
  cases r with
  | nil => cases a <;> first | rfl | (simp [kindL] at hk; done)
  | cons c s => cases a <;> rfl

theorem CellsAt.kind [Gl] {S : Nat → Prop} {m : M} {l : List V} {b base : Nat} (h : CellsAt S m l b base) : kindL l = 0 := by
 obtain ⟨cs, T, fz, _, _, _, h⟩ := h
 exact kind_of_one fun j v hv => (h j v hv).1

theorem CellsAt.row [Gl] {S : Nat → Prop} {m : M} {l : List V} {b base : Nat} (h : CellsAt S m l b base) : RowAt S m l b base := by
 rw [rowAt_cells h.kind]; exact h

end Go.Ac
