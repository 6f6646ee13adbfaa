/- The abstract machine: how it runs. No conditions. -/
import Derived.Test.YtkimfnammkljoaaGreatDoorAcA
set_option linter.unusedVariables false
set_option linter.unusedSimpArgs false
namespace Go.Ac

/-! ### Types -/

inductive TK where
 | bool
 | int (k : IntKind)
 | str
 | slice (e esz eby : Nat)
 | struct (fs : List (Nat × Nat × Bool))
 | array (n e esz : Nat) (eagg : Bool)
 | ptr
 | map (k e : Nat)
 | iface
 | other
 deriving Inhabited

structure TI where
 k : TK
 size : Nat
 bytes : Nat
 zero : Option (List V)
 deriving Inhabited

def TI.agg (i : TI) : Bool := match i.k with | .struct _ | .array .. => true | _ => false

def constV1 : Value → V
 | .bool b => .d (.bool b)
 | .int k n => .d (.int k n)
 | .string s => .d (.str s.data.toList)
 | .slice none 0 0 => .full []
 | v => .con v

def constV : Value → V
 | .agg cs => .agg (cs.toList.map constV1)
 | v => constV1 v

def aggT (P : Program) (t : TypeId) : Bool := match P.underlying t with | some (.struct _) | some (.array ..) => true | _ => false

def mkFields (P : Program) : List Field → Option (List (Nat × Nat × Bool))
 | [] => some []
 | f :: r => match P.info? f.type, P.underlying f.type, mkFields P r with
  | some j, some _, some l => some ((f.offset, j.size, aggT P f.type) :: l)
  | _, _, _ => none

def mkTK (P : Program) : TypeDesc → Option TK
 | .bool => some .bool
 | .int k => some (.int k)
 | .string => some .str
 | .slice e => (P.info? e).map fun j => .slice e j.size (match j.zero with | some z => if z.cells.size = j.size then j.bytes else 0 | none => 0)
 | .struct fs => (mkFields P fs.toList).map .struct
 | .array n e => match P.info? e, P.underlying e with | some j, some _ => some (.array n e j.size (aggT P e)) | _, _ => none
 | .pointer _ => some .ptr
 | .map k e => some (.map k e)
 | .interface _ => some .iface
 | _ => some .other

def mkTI (P : Program) (t : TypeId) : Option TI :=
 match P.info? t, P.underlying t with
 | some i, some d => (mkTK P d).map fun k => { k, size := i.size, bytes := i.bytes, zero := i.zero.map fun v => v.cells.toList.map constV1 }
 | _, _ => none

/-! ### The frame and the memory -/

def Env.keep (e : Env) : List Nat → Env
 | [] => []
 | t :: r => (t, e.get t) :: Env.keep e r

abbrev Hp := List (Nat × Ob)

def Hp.get : Hp → Nat → Option Ob
 | [], _ => none
 | (k, o) :: r, t => match Nat.beq k t with | true => some o | false => Hp.get r t

def Hp.set : Hp → Nat → Ob → Hp
 | [], t, o => [(t, o)]
 | (k, p) :: r, t, o => match Nat.beq k t with | true => (k, o) :: r | false => (k, p) :: Hp.set r t o

def Hp.sets (h : Hp) : List (Nat × Ob) → Hp
 | [] => h
 | (k, o) :: r => Hp.sets (Hp.set h k o) r

/-- Only the names below n stay. -/
def Hp.trunc (n : Nat) : Hp → Hp
 | [] => []
 | (k, o) :: r => match Nat.blt k n with | true => (k, o) :: Hp.trunc n r | false => Hp.trunc n r

/-- The frame; the memory; the next name and the next mark; the names below n0 are the caller's: which of them have been written. -/
structure St where
 env : Env
 hp : Hp
 n : Nat
 c : Nat
 n0 : Nat
 wl : List Nat
 deriving Inhabited

/-- What an operation does: its value, what it writes, what it has looked at, how many names and marks it has given out; has it looked at everything? -/
structure Res where
 v : V
 wr : List (Nat × Ob)
 rd : List Nat
 dn : Nat
 dc : Nat
 all : Bool := false

def ret (v : V) : Option Res := some ⟨v, [], [], 0, 0, false⟩
def retR (v : V) (r : Nat) : Option Res := some ⟨v, [], [r], 0, 0, false⟩

def evalV [Gl] (e : Env) : Operand → V
 | .tmp t => e.get t
 | .const v => constV v
 | .global g => Gl.gv g
 | .func f => .fn f []

abbrev Look := Nat → Option Ob

def live (look : Look) (id g : Nat) : Option Ob :=
 match look id with
 | some o => match Nat.beq o.gen g with | true => some o | false => none
 | none => none

/-- The cells of a value that may be stored. -/
def cellsV : V → Option (List V)
 | .agg cs => if cs.all V.one then some cs else none
 | v => if v.one then some [v] else none

/-- A value read from cells. -/
def readV (i : TI) (cs : List V) : Option V :=
 match i.agg with
 | true => match Nat.beq (cs.take i.size).length i.size with | true => some (.agg (cs.take i.size)) | false => none
 | false => cs.head?

def loadV (look : Look) (i : TI) : V → Option Res
 | .ptr id g off => match live look id g with
  | some o => (readV i (o.cells.drop off)).bind fun v => retR v id
  | none => none
 | .vref ds => (readV i (ds.map .d)).bind ret
 | _ => none

def newV (n c : Nat) (cs : List V) : Option Res := some ⟨.ptr n c 0, [(n, ⟨c, false, cs⟩)], [], 1, 1, false⟩

/-- Part of an aggregate. -/
def partV (agg : Bool) (cs : List V) (off size : Nat) : Option V :=
 match agg with
 | true => some (.agg ((cs.drop off).take size))
 | false => cs[off]?

def fillV (place : Nat → Option (Nat × Nat)) : List V → List (Nat × V) → Option (List V)
 | cs, [] => some cs
 | cs, (i, x) :: r => match place i, cellsV x with
  | some (off, size), some xs => match Nat.beq xs.length size, Nat.ble (off + xs.length) cs.length with
   | true, true => fillV place (cs.take off ++ xs ++ cs.drop (off + xs.length)) r
   | _, _ => none
  | _, _ => none

def chunk (sz : Nat) : Nat → List D → List (List D)
 | 0, _ => []
 | n + 1, l => l.take sz :: chunk sz n (l.drop sz)

def toDs (f : V → Option (D × List Nat)) : List V → Option (List D × List Nat)
 | [] => some ([], [])
 | v :: r => match f v, toDs f r with
  | some (x, a), some (xs, b) => some (x :: xs, a ++ b)
  | _, _ => none

/-- Data out of a value: what it looks at is told. -/
def toD (look : Look) : Nat → V → Option (D × List Nat)
 | _, .d x => some (x, [])
 | _, .full rows => some (.slice rows, [])
 | f + 1, .osl id g off len sz _ => match live look id g with
  | some o => match Nat.ble (off + len * sz) o.cells.length, toDs (toD look f) ((o.cells.drop off).take (len * sz)) with
   | true, some (ds, r) => some (.slice (chunk sz len ds), id :: r)
   | _, _ => none
  | none => none
 | _, _ => none

def closeVs (f : V → Option (V × List Nat)) : List V → Option (List V × List Nat)
 | [] => some ([], [])
 | v :: r => match f v, closeVs f r with
  | some (x, a), some (xs, b) => some (x :: xs, a ++ b)
  | _, _ => none

def depthD : Nat := 4611686018427387904

def ofD : Option (D × List Nat) → Option (V × List Nat)
 | some (x, r) => some (.d x, r)
 | none => none

/-- A value without names of objects. -/
def close1 (look : Look) : V → Option (V × List Nat)
 | .con v => some (.con v, [])
 | .fn f [] => some (.fn f [], [])
 | v => ofD (toD look depthD v)

def close (look : Look) : V → Option (V × List Nat)
 | .agg cs => match closeVs (close1 look) cs with | some (xs, r) => some (.agg xs, r) | none => none
 | v => close1 look v

def closeT (look : Look) : V → Option (V × List Nat)
 | .tuple cs => match closeVs (close look) cs with | some (xs, r) => some (.tuple xs, r) | none => none
 | v => close look v

def D.flat : D → Bool
 | .slice _ | .sym _ => false
 | _ => true

def V.flat1 : V → Bool
 | .d x => x.flat
 | .con _ => true
 | _ => false

def V.flat2 : V → Bool
 | .agg cs => cs.all V.flat1
 | v => v.flat1

def V.flat : V → Bool
 | .tuple cs => cs.all V.flat2
 | v => v.flat2

def roOf (look : Look) : List Nat → List (Nat × Ob)
 | [] => []
 | id :: r => match look id with | some o => (id, { o with ro := true }) :: roOf look r | none => roOf look r

/-- A slice of an object made data; all else as it is. -/
def cl1 (look : Look) (fz : Bool) : V → Option (V × List Nat)
 | .osl id g off len sz cap => match fz with | true => close1 look (.osl id g off len sz cap) | false => some (.osl id g off len sz cap, [])
 | v => some (v, [])

def cl2 (look : Look) (fz : Bool) : V → Option (V × List Nat)
 | .agg cs => match closeVs (cl1 look fz) cs with | some (xs, r) => some (.agg xs, r) | none => none
 | v => cl1 look fz v

def storeV (look : Look) (fz : Bool) (i : TI) (p x : V) : Option Res :=
 match p, cellsV x with
 | .ptr id g off, some xs => match live look id g, closeVs (cl1 look fz) xs with
  | some o, some (ys, ids) => match o.ro, Nat.beq xs.length i.size, Nat.ble (off + i.size) o.cells.length, ids.any (Nat.beq id) with
   | false, true, true, false => some ⟨.undef, roOf look ids ++ [(id, ⟨g, false, o.cells.take off ++ ys ++ o.cells.drop (off + i.size)⟩)], id :: ids, 0, 0, false⟩
   | _, _, _, _ => none
  | _, _ => none
 | _, _ => none

/-! ### Operations -/

def intBin (op : BinOp) (k : IntKind) (a b : Int) : Option D :=
 match op with
 | .add => some (.int k (k.wrap (a + b)))
 | .sub => some (.int k (k.wrap (a - b)))
 | .mul => some (.int k (k.wrap (a * b)))
 | .quo => if b = 0 then none else some (.int k (k.wrap (a.tdiv b)))
 | .rem => if b = 0 then none else some (.int k (a.tmod b))
 | .and => some (.int k (k.wrap (BitVec.ofInt k.bits a &&& BitVec.ofInt k.bits b).toNat))
 | .or => some (.int k (k.wrap (BitVec.ofInt k.bits a ||| BitVec.ofInt k.bits b).toNat))
 | .xor => some (.int k (k.wrap (BitVec.ofInt k.bits a ^^^ BitVec.ofInt k.bits b).toNat))
 | .andNot => some (.int k (k.wrap (BitVec.ofInt k.bits a &&& ~~~BitVec.ofInt k.bits b).toNat))
 | .eql => some (.bool (a == b))
 | .neq => some (.bool (a != b))
 | .lss => some (.bool (decide (a < b)))
 | .leq => some (.bool (decide (a ≤ b)))
 | .gtr => some (.bool (decide (a > b)))
 | .geq => some (.bool (decide (a ≥ b)))
 | _ => none

def strBin (op : BinOp) (a b : List UInt8) : Option D :=
 match op with
 | .eql => some (.bool (a == b))
 | .neq => some (.bool (!(a == b)))
 | .add => if a.length + b.length ≤ 9223372036854775807 then some (.str (a ++ b)) else none
 | .lss => some (.bool (Op.bytesLess a b))
 | .leq => some (.bool (Op.bytesLess a b || a == b))
 | .gtr => some (.bool (!(Op.bytesLess a b || a == b)))
 | .geq => some (.bool (!Op.bytesLess a b))
 | _ => none

def binV (op : BinOp) : V → V → Option V
 | .d (.int k a), .d (.int k' b) =>
  match op with
  | .shl => if b < 0 then none else some (.d (.int k (k.wrap (a * 2 ^ (min b.toNat k.bits)))))
  | .shr => if b < 0 then none else some (.d (.int k (a.fdiv (2 ^ (min b.toNat k.bits)))))
  | _ => if k = k' then (intBin op k a b).map .d else none
 | .d (.str a), .d (.str b) => (strBin op a b).map .d
 | _, _ => none

def boolBin (op : BinOp) (a b : Bool) : Option V :=
 match op with
 | .eql => some (.d (.bool (a == b)))
 | .neq => some (.d (.bool (!(a == b))))
 | _ => none

def unV (op : UnOp) : V → Option V
 | .d (.bool b) => match op with | .not => some (.d (.bool !b)) | _ => none
 | .d (.int k n) => match op with | .neg => some (.d (.int k (k.wrap (0 - n)))) | _ => none
 | _ => none

/-- Less than, by both numbers at once: it ends before the end of the second is known. -/
def ltB : Nat → Nat → Bool
 | _, 0 => false
 | 0, _ + 1 => true
 | n + 1, m + 1 => ltB n m
theorem ltB_iff : ∀ (n m : Nat), ltB n m = true ↔ n < m
 | n, 0 => by unfold ltB; simp
 | 0, m + 1 => by unfold ltB; simp
 | n + 1, m + 1 => by unfold ltB; rw [ltB_iff n m]; omega
def decIdx (i : Int) (len : Nat) : Decidable (0 ≤ i ∧ i < (len : Int)) :=
 match i with
 | .ofNat q => match h : ltB q len with
  | true => .isTrue ⟨Int.natCast_nonneg q, Int.ofNat_lt.2 ((ltB_iff q len).1 h)⟩
  | false => .isFalse fun hh => by
   have := (ltB_iff q len).2 (Int.ofNat_lt.1 hh.2)
   rw [h] at this
   cases this
 | .negSucc q => .isFalse fun hh => absurd hh.1 (by omega)
def idx (i : Int) (len : Nat) : Option Nat := @ite _ (0 ≤ i ∧ i < (len : Int)) (decIdx i len) (some i.toNat) none

def indexRows (rows : List (List D)) (sz i : Nat) : Option Res :=
 match rows[i]? with
 | some r => match Nat.beq r.length sz with | true => ret (.vref r) | false => none
 | none => none

def indexAddrV (look : Look) (i : TI) (x ix : V) : Option Res :=
 match ix with
 | .d (.int _ j) =>
  match i.k, x with
  | .slice _ sz _, .d (.slice rows) => (idx j rows.length).bind (indexRows rows sz)
  | .slice _ sz _, .full rows => (idx j rows.length).bind (indexRows rows sz)
  | .slice _ sz _, .osl id g off len sz' _ => match live look id g, Nat.beq sz sz' with
   | some _, true => (idx j len).bind fun q => retR (.ptr id g (off + q * sz)) id
   | _, _ => none
  | .array n _ sz _, .ptr id g off => match live look id g with
   | some _ => (idx j n).bind fun q => retR (.ptr id g (off + q * sz)) id
   | none => none
  | .array n _ sz _, .vref ds => (idx j n).bind fun q => ret (.vref (ds.drop (q * sz)))
  | _, _ => none
 | _ => none

def indexV (i : TI) (x ix : V) : Option Res :=
 match ix with
 | .d (.int _ j) =>
  match i.k, x with
  | .str, .d (.str s) => (idx j s.length).bind fun q => match s[q]? with | some b => ret (.d (.int .u8 b.toNat)) | none => none
  | .array n _ sz agg, .agg cs => (idx j n).bind fun q => (partV agg cs (q * sz) sz).bind ret
  | _, _ => none
 | _ => none

/-- The cells of what is appended, or copied: how many elements, which cells, what has been looked at. -/
def rowsOf (look : Look) (sz : Nat) : V → Option (Nat × List V × List Nat)
 | .d (.slice rows) => if rows.all (fun r => Nat.beq r.length sz) then some (rows.length, rows.flatten.map .d, []) else none
 | .full rows => if rows.all (fun r => Nat.beq r.length sz) then some (rows.length, rows.flatten.map .d, []) else none
 | .osl id g off len sz' _ => match live look id g, Nat.beq sz sz' with
  | some o, true => match Nat.ble (off + len * sz) o.cells.length with
   | true => some (len, (o.cells.drop off).take (len * sz), [id])
   | false => none
  | _, _ => none
 | _ => none

/-- May a slice of this many elements of this many bytes be made? -/
def fitsB (n by_ : Nat) : Bool := Nat.ble 1 by_ && Nat.ble (n * by_) 140737488355328

def appendV (look : Look) (n c : Nat) (i : TI) (s x : V) : Option Res :=
 match i.k with
 | .slice _ sz by_ =>
  match rowsOf look sz x with
  | some (m, xs, rx) =>
   match s with
   | .full rows =>
    match rows.all (fun r => Nat.beq r.length sz), fitsB (rows.length + m) by_, rows.isEmpty || Nat.blt 0 m with
    | true, true, true => some ⟨.osl n c 0 (rows.length + m) sz none, [(n, ⟨c, false, rows.flatten.map .d ++ xs⟩)], rx, 1, 1, false⟩
    | _, _, _ => none
   | .osl id g off len sz' cap =>
    match live look id g, Nat.beq sz sz' with
    | some o, true =>
     match fitsB (len + m) by_, Nat.ble (off + len * sz) o.cells.length with
     | true, true =>
      match cap with
      | some q => match Nat.ble (len + m) q, o.ro, Nat.ble (off + q * sz) o.cells.length with
       | true, false, true => some ⟨.osl id g off (len + m) sz (some q), [(id, ⟨g, false, o.cells.take (off + len * sz) ++ xs ++ o.cells.drop (off + (len + m) * sz)⟩)], id :: rx, 0, 0, false⟩
       | false, _, _ => some ⟨.osl n c 0 (len + m) sz none, [(n, ⟨c, false, (o.cells.drop off).take (len * sz) ++ xs⟩)], id :: rx, 1, 1, false⟩
       | _, _, _ => none
      | none => match o.ro with
       | false => some ⟨.osl id c 0 (len + m) sz none, [(id, ⟨c, false, (o.cells.drop off).take (len * sz) ++ xs⟩)], id :: rx, 0, 1, false⟩
       | true => none
     | _, _ => none
    | _, _ => none
   | _ => none
  | none => none
 | _ => none

def lenV [Gl] (look : Look) (i : TI) : V → Option Res
 | .d (.str s) => match i.k with | .str => ret (.d (.int .i64 s.length)) | _ => none
 | .d (.sym k) => match i.k, Gl.sn k with | .str, some n => ret (.d (.int .i64 n)) | _, _ => none
 | .d (.slice rows) => match i.k with | .slice .. => ret (.d (.int .i64 rows.length)) | _ => none
 | .full rows => match i.k with | .slice .. => ret (.d (.int .i64 rows.length)) | _ => none
 | .osl id g _ len _ _ => match i.k, live look id g with | .slice .., some _ => retR (.d (.int .i64 len)) id | _, _ => none
 | .con (.map none) => match i.k with | .map .. => ret (.d (.int .i64 0)) | _ => none
 | .mp id g => match i.k, live look id g with
  | .map .., some o => match o.cells with | [.mpc ks _ _ _] => retR (.d (.int .i64 ks.length)) id | [.mpq ks _ _] => retR (.d (.int .i64 ks.length)) id | _ => none
  | _, _ => none
 | _ => none

def capV (look : Look) (i : TI) : V → Option Res
 | .full rows => match i.k with | .slice .. => ret (.d (.int .i64 rows.length)) | _ => none
 | .osl id g _ _ _ (some q) => match i.k, live look id g with | .slice .., some _ => retR (.d (.int .i64 q)) id | _, _ => none
 | _ => none

def maxI (mx : Bool) : IntKind → Int → List V → Option Res
 | k, a, [] => ret (.d (.int k a))
 | k, a, .d (.int _ b) :: r => maxI mx k (match mx with | true => if b > a then b else a | false => if b < a then b else a) r
 | _, _, _ => none

def maxV (mx : Bool) : List V → Option Res
 | .d (.int k a) :: r => maxI mx k a r
 | _ => none

/-- append(s, make([]T, m)...) -/
def appendNV (n c : Nat) (i : TI) (ei : Option TI) (s x : V) : Option Res :=
 match i.k, s, x, ei with
 | .slice _ sz by_, .full [], .d (.int .i64 m), some ei => match ei.zero with
  | some z => if 0 < m ∧ fitsB m.toNat by_ = true ∧ m ≤ 9223372036854775807 ∧ z.length = sz ∧ 0 < sz ∧ z.all V.one = true then
    some ⟨.osl n c 0 m.toNat sz none, [(n, ⟨c, false, (List.replicate m.toNat z).flatten⟩)], [], 1, 1, false⟩ else none
  | none => none
 | _, _, _, _ => none

/-- append(b, s...) of a text. -/
def strRow (l : List UInt8) : List V := l.map fun b => .d (.int .u8 (b.toNat : Int))
def appendSV (look : Look) (n c : Nat) (i : TI) (s x : V) : Option Res :=
 match i.k, x with
 | .slice _ sz by_, .d (.str l) => match Nat.beq sz 1 with
  | true => match s with
   | .full rows =>
    match rows.all (fun r => Nat.beq r.length sz), fitsB (rows.length + l.length) by_, rows.isEmpty || Nat.blt 0 l.length with
    | true, true, true => some ⟨.osl n c 0 (rows.length + l.length) sz none, [(n, ⟨c, false, rows.flatten.map .d ++ strRow l⟩)], [], 1, 1, false⟩
    | _, _, _ => none
   | .osl id g off len sz' cap =>
    match live look id g, Nat.beq sz sz' with
    | some o, true =>
     match fitsB (len + l.length) by_, Nat.ble (off + len * sz) o.cells.length with
     | true, true =>
      match cap with
      | some q => match Nat.ble (len + l.length) q, o.ro, Nat.ble (off + q * sz) o.cells.length with
       | true, false, true => some ⟨.osl id g off (len + l.length) sz (some q), [(id, ⟨g, false, o.cells.take (off + len * sz) ++ strRow l ++ o.cells.drop (off + (len + l.length) * sz)⟩)], [id], 0, 0, false⟩
       | false, _, _ => some ⟨.osl n c 0 (len + l.length) sz none, [(n, ⟨c, false, (o.cells.drop off).take (len * sz) ++ strRow l⟩)], [id], 1, 1, false⟩
       | _, _, _ => none
      | none => match o.ro with
       | false => some ⟨.osl id c 0 (len + l.length) sz none, [(id, ⟨c, false, (o.cells.drop off).take (len * sz) ++ strRow l⟩)], [id], 0, 1, false⟩
       | true => none
     | _, _ => none
    | _, _ => none
   | _ => none
  | false => none
 | _, _ => none

def copyV (look : Look) (i : TI) (s x : V) : Option Res :=
 match i.k, s with
 | .slice _ sz _, .osl id g off len sz' _ =>
  match rowsOf look sz x, live look id g, Nat.beq sz sz' with
  | some (m, xs, rx), some o, true =>
   match o.ro, Nat.ble (off + len * sz) o.cells.length with
   | false, true =>
    some ⟨.d (.int .i64 ((min m len : Nat) : Int)), [(id, ⟨g, false, o.cells.take off ++ xs.take (min m len * sz) ++ o.cells.drop (off + min m len * sz)⟩)], id :: rx, 0, 0, false⟩
   | _, _ => none
  | _, _, _ => none
 | _, _ => none

def makeV (n c : Nat) (i : TI) (ei : Option TI) (l q : V) : Option Res :=
 match i.k, l, q with
 | .slice _ sz by_, .d (.int .i64 l), .d (.int .i64 q) =>
  match ei with
  | some ei => match ei.zero with
   | some z =>
    if 0 ≤ l ∧ l ≤ q ∧ q ≤ 9223372036854775807 ∧ fitsB q.toNat by_ = true ∧ z.length = sz ∧ 0 < sz ∧ z.all V.one = true then
     some ⟨.osl n c 0 l.toNat sz (some q.toNat), [(n, ⟨c, false, (List.replicate q.toNat z).flatten⟩)], [], 1, 1, false⟩
    else none
   | none => none
  | none => none
 | _, _, _ => none

/-- Is the second operand a nil that is written out? -/
def nilOpd : Operand → Bool
 | .const (.pointer none) | .const (.map none) | .const (.slice none _ _) | .const .nilIface => true
 | _ => false

/-- Is a value nil? What has been looked at. -/
def nilV (look : Look) (k : TK) (y : Operand) (x : V) : Option (Bool × List Nat) :=
 match k, y with
 | .ptr, .const (.pointer none) => match x with
  | .con (.pointer none) => some (true, [])
  | .ptr id g _ => match live look id g with | some _ => some (false, [id]) | none => none
  | .vref _ => some (false, [])
  | _ => none
 | .map _ _, .const (.map none) => match x with
  | .con (.map none) => some (true, [])
  | .mp id g => match live look id g with | some _ => some (false, [id]) | none => none
  | _ => none
 | .slice _ _ _, .const (.slice none _ _) => match x with
  | .d (.slice (_ :: _)) => some (false, [])
  | .osl id g _ len _ _ => match live look id g, Nat.blt 0 len with | some _, true => some (false, [id]) | _, _ => none
  | _ => none
 | .iface, .const .nilIface => match x with
  | .con .nilIface => some (true, [])
  | _ => none
 | _, _ => none

def isEq : BinOp → Option Bool
 | .eql => some true
 | .neq => some false
 | _ => none

def nilR (look : Look) (op : BinOp) (k : TK) (y : Operand) (x : V) : Option Res :=
 match isEq op, nilV look k y x with
 | some e, some (b, rd) => some ⟨.d (.bool (b == e)), [], rd, 0, 0, false⟩
 | _, _ => none

def checkNil (look : Look) : V → Option Res
 | .ptr id g off => match live look id g with | some _ => retR (.ptr id g off) id | none => none
 | .vref ds => ret (.vref ds)
 | .fn f cs => ret (.fn f cs)
 | _ => none

/-! Strings, letter by letter. -/

def rangeV (n c : Nat) (i : TI) : V → Option Res
 | .d (.str s) => match i.k with | .str => some ⟨.it n c, [(n, ⟨c, false, [.itc s 0]⟩)], [], 1, 1, false⟩ | _ => none
 | _ => none

/-- An iterator over a map. -/
def rangeMV (look : Look) (n c : Nat) : V → Option Res
 | .mp id g => match live look id g with
  | some o => match o.cells with
   | [.mpc _ _ _ clock] => some ⟨.it n c, [(n, ⟨c, false, [.itm id g clock [] clock]⟩)], [id], 1, 1, false⟩
   | _ => none
  | none => none
 | _ => none

def isMapK : TK → Bool
 | .map .. => true
 | _ => false

def nextV (look : Look) : V → Option Res
 | .it id g => match live look id g with
  | some o => match o.ro, o.cells with
   | false, [.itc s pos] =>
    match Nat.blt pos s.length with
    | true => match Utf8.decode ⟨s.toArray⟩ pos with
     | (r, w) => some ⟨.tuple [.d (.bool true), .d (.int .i64 pos), .d (.int .i32 r)], [(id, ⟨g, false, [.itc s (pos + w)]⟩)], [id], 0, 0, false⟩
    | false => some ⟨.tuple [.d (.bool false)], [], [id], 0, 0, false⟩
   | _, _ => none
  | none => none
 | _ => none

/-! Maps. -/

def findV (k : D) : List D → Nat → Option (Option Nat)
 | [], _ => some none
 | q :: r, j => match keyEq k q with
  | some true => some (some j)
  | some false => findV k r (j + 1)
  | none => none

/-- May this be a key of that type? -/
def keyOK : TK → D → Bool
 | .int k, .int q _ => decide (k = q)
 | .str, .str _ => true
 | .bool, .bool _ => true
 | _, _ => false

def zeroT (P : Program) (t : TypeId) : Option V :=
 match P.info? t with
 | some i => i.zero.map constV
 | none => none

/-- Is it a type of interfaces? -/
def isIface (P : Program) (t : TypeId) : Option Bool := match P.underlying t with | some (.interface _) => some true | some _ => some false | none => none

/-- A value of an interface is asked for its concrete type. -/
def assertV (z : Option V) (t : TypeId) (ok : Bool) : V → Option Res
 | .ifc u v => match Nat.beq u t with
  | true => match ok with | true => ret (.tuple [v, .d (.bool true)]) | false => ret v
  | false => match ok, z with | true, some z => ret (.tuple [z, .d (.bool false)]) | _, _ => none
 | .con .nilIface => match ok, z with | true, some z => ret (.tuple [z, .d (.bool false)]) | _, _ => none
 | _ => none

def lookRes (ok : Bool) (v : V) (b : Bool) : V := match ok with | true => .tuple [v, .d (.bool b)] | false => v

def lookupV (look : Look) (ki : TI) (zz : Option V) (m k : V) (ok : Bool) : Option Res :=
 match k, zz with
 | .d k, some z => match keyOK ki.k k with
  | true => match m with
   | .con (.map none) => ret (lookRes ok z false)
   | .mp id g => match live look id g with
    | some o => match o.cells with
     | [.mpc ks vs _ _] => match findV k ks 0 with
      | some (some j) => match vs[j]? with | some v => retR (lookRes ok v true) id | none => none
      | some none => retR (lookRes ok z false) id
      | none => none
     | [.mpq ks vs _] => match findV k ks 0 with
      | some (some j) => match vs[j]? with | some v => retR (lookRes ok v true) id | none => none
      | some none => retR (lookRes ok z false) id
      | none => none
     | _ => none
    | none => none
   | _ => none
  | false => none
 | _, _ => none

def insertV (look : Look) (ki : TI) (m k x : V) : Option Res :=
 match k, m with
 | .d k, .mp id g => match keyOK ki.k k, live look id g with
  | true, some o => match o.ro, o.cells with
   | false, [.mpc ks vs bs c] => match findV k ks 0 with
    | some (some j) => some ⟨.undef, [(id, ⟨g, false, [.mpc ks (vs.set j x) bs c]⟩)], [id], 0, 0, false⟩
    | some none => some ⟨.undef, [(id, ⟨g, false, [.mpc (ks ++ [k]) (vs ++ [x]) (bs ++ [c]) (c + 1)]⟩)], [id], 0, 0, false⟩
    | none => none
   | false, [.mpq ks vs c] => match findV k ks 0 with
    | some (some j) => some ⟨.undef, [(id, ⟨g, false, [.mpq ks (vs.set j x) c]⟩)], [id], 0, 0, false⟩
    | some none => some ⟨.undef, [(id, ⟨g, false, [.mpq (ks ++ [k]) (vs ++ [x]) (c + 1)]⟩)], [id], 0, 0, false⟩
    | none => none
   | _, _ => none
  | _, _ => none
 | _, _ => none

/-- The entry with that key goes. -/
def deleteV (look : Look) (ki : TI) (m k : V) : Option Res :=
 match k, m with
 | .d k, .mp id g => match keyOK ki.k k, live look id g with
  | true, some o => match o.ro, o.cells with
   | false, [.mpc ks vs bs c] => match findV k ks 0 with
    | some (some j) => some ⟨.tuple [], [(id, ⟨g, false, [.mpc (ks.eraseIdx j) (vs.eraseIdx j) (bs.eraseIdx j) c]⟩)], [id], 0, 0, false⟩
    | some none => some ⟨.tuple [], [(id, ⟨g, false, [.mpc ks vs bs c]⟩)], [id], 0, 0, false⟩
    | none => none
   | _, _ => none
  | _, _ => none
 | _, _ => none

/-- A slice's elements become zero. -/
def clearV (look : Look) (i : TI) (ei : Option TI) (s : V) : Option Res :=
 match i.k, s, ei with
 | .slice _ sz _, .osl id g off len sz' _, some ei => match ei.zero, live look id g, Nat.beq sz sz' with
  | some z, some o, true => match o.ro, Nat.ble (off + len * sz) o.cells.length, Nat.beq z.length sz && z.all V.one with
   | false, true, true => some ⟨.tuple [], [(id, ⟨g, false, o.cells.take off ++ (List.replicate len z).flatten ++ o.cells.drop (off + len * sz)⟩)], [id], 0, 0, false⟩
   | _, _, _ => none
  | _, _, _ => none
 | _, _, _ => none

/-- The entry with that key; it is made if there is none. -/
def entryV (look : Look) (ki : TI) (zz : Option V) (m k : V) : Option Res :=
 match k, m, zz with
 | .d k, .mp id g, some z => match keyOK ki.k k, live look id g with
  | true, some o => match o.ro, o.cells with
   | false, [.mpc ks vs bs c] => match findV k ks 0 with
    | some (some j) => match vs[j]?, bs[j]? with
     | some v, some b => some ⟨.tuple [v, .d (.int .i64 b)], [(id, ⟨g, false, [.mpc ks vs bs c]⟩)], [id], 0, 0, false⟩
     | _, _ => none
    | some none => some ⟨.tuple [z, .d (.int .i64 c)], [(id, ⟨g, false, [.mpc (ks ++ [k]) (vs ++ [z]) (bs ++ [c]) (c + 1)]⟩)], [id], 0, 0, false⟩
    | none => none
   | _, _ => none
  | _, _ => none
 | _, _, _ => none

def findB (b : Int) : List Nat → Nat → Option Nat
 | [], _ => none
 | n :: r, j => match decide ((n : Int) = b) with | true => some j | false => findB b r (j + 1)

/-- The key and the value of the entry that an iterator has come to. -/
def entryItV (look : Look) : V → Option Res
 | .it id g => match live look id g with
  | some o => match o.cells with
   | [.itm mid mg _ seen last] => match seen.getLast?, live look mid mg with
    | some b, some q => match q.cells with
     | [.mpc ks vs bs clock] => match decide (clock = last), findB b bs 0 with
      | true, some j => match ks[j]?, vs[j]? with
       | some k, some v => some ⟨.tuple [.d k, v], [], [id, mid], 0, 0, false⟩
       | _, _ => none
      | _, _ => none
     | _ => none
    | _, _ => none
   | _ => none
  | none => none
 | _ => none

/-- A value into the entry with that mark. -/
def stampV (look : Look) (m k x : V) : Option Res :=
 match k, m with
 | .d (.int _ b), .mp id g => match live look id g with
  | some o => match o.ro, o.cells with
   | false, [.mpc ks vs bs c] => match findB b bs 0 with
    | some j => some ⟨.undef, [(id, ⟨g, false, [.mpc ks (vs.set j x) bs c]⟩)], [id], 0, 0, false⟩
    | none => none
   | _, _ => none
  | none => none
 | _, _ => none

def makeMapV (n c : Nat) : Option Res := some ⟨.mp n c, [(n, ⟨c, false, [.mpc [] [] [] 0]⟩)], [], 1, 1, false⟩

def bnd (v : Option V) (dflt : Nat) : Option Nat :=
 match v with
 | none => some dflt
 | some (.d (.int _ i)) => if 0 ≤ i then some i.toNat else none
 | some _ => none

def sliceV (look : Look) (i : TI) (x : V) (lo hi mx : Option V) : Option Res :=
 match i.k, x with
 | .str, .d (.str s) => match mx, bnd lo 0, bnd hi s.length with
  | none, some l, some h => if l ≤ h ∧ h ≤ s.length then ret (.d (.str ((s.take h).drop l))) else none
  | _, _, _ => none
 | .slice _ sz _, .d (.slice rows) => match bnd lo 0, bnd hi rows.length, mx with
  | some l, some h, none => if l ≤ h ∧ h ≤ rows.length ∧ rows.all (fun r => Nat.beq r.length sz) = true then ret (.d (.slice ((rows.take h).drop l))) else none
  | some l, some h, some m => match bnd (some m) 0 with
   | some m => if l ≤ h ∧ h = m ∧ m ≤ rows.length ∧ rows.all (fun r => Nat.beq r.length sz) = true then ret (.full ((rows.take h).drop l)) else none
   | none => none
  | _, _, _ => none
 | .slice _ sz _, .full rows => match bnd lo 0, bnd hi rows.length, mx with
  | some l, some h, none => if l ≤ h ∧ h ≤ rows.length ∧ rows.all (fun r => Nat.beq r.length sz) = true then ret (if h = rows.length then .full (rows.drop l) else .d (.slice ((rows.take h).drop l))) else none
  | _, _, _ => none
 | .slice _ sz _, .osl id g off len sz' cap => match live look id g, Nat.beq sz sz', bnd lo 0, bnd hi len, mx with
  | some _, true, some l, some h, none =>
   if l ≤ h ∧ h ≤ cap.getD len then retR (.osl id g (off + l * sz) (h - l) sz (cap.map (· - l))) id else none
  | some o, true, some l, some h, some m => match bnd (some m) 0 with
   | some m => if l ≤ h ∧ h ≤ m ∧ m ≤ cap.getD len then retR (.osl id g (off + l * sz) (h - l) sz (if o.cells.isEmpty then none else some (m - l))) id else none
   | none => none
  | _, _, _, _, _ => none
 | .array n _ sz _, .ptr id g off => match live look id g, bnd lo 0, bnd hi n, mx with
  | some o, some l, some h, none => if l ≤ h ∧ h ≤ n ∧ n ≤ 16777216 ∧ off + n * sz ≤ o.cells.length then retR (.osl id g (off + l * sz) (h - l) sz (some (n - l))) id else none
  | _, _, _, _ => none
 | .array n _ sz _, .vref ds => match lo, hi, mx with
  | none, none, none => if n ≤ 16777216 ∧ n * sz ≤ ds.length then ret (.d (.slice ((List.range n).map fun i => (ds.drop (i * sz)).take sz))) else none
  | _, _, _ => none
 | _, _ => none

def convV (i j : TI) : V → Option V
 | .d (.int k n) => match j.k with | .int q => some (.d (.int q (q.wrap n))) | _ => none
 | .d (.str s) => match i.k, j.k with | .str, .str => some (.d (.str s)) | _, _ => none
 | _ => none

def byteV : V → Option UInt8
 | .d (.int .u8 n) => some (UInt8.ofNat n.toNat)
 | _ => none

def toBytes : List V → Option (List UInt8)
 | [] => some []
 | v :: r => match byteV v, toBytes r with | some b, some l => some (b :: l) | _, _ => none

/-- A list of bytes as a text. -/
def bytesV (P : Program) (look : Look) (e sz : Nat) (x : V) : Option Res :=
 match Nat.beq sz 1, (mkTI P e).map TI.k with
 | true, some (.int .u8) => match rowsOf look 1 x with
  | some (_, xs, rd) => match toBytes xs with | some s => some ⟨.d (.str s), [], rd, 0, 0, false⟩ | none => none
  | none => none
 | _, _ => none

/-- A text as a list of bytes, which is only read. -/
def strBytes (P : Program) (e sz : Nat) (x : V) : Option Res :=
 match Nat.beq sz 1, (mkTI P e).map TI.k, x with
 | true, some (.int .u8), .d (.str l) => if l.length ≤ 140737488355328 then ret (.d (.slice (l.map fun b => [.int .u8 (b.toNat : Int)]))) else none
 | _, _, _ => none

def convL (P : Program) (look : Look) (i j : TI) (x : V) : Option Res :=
 match i.k, j.k with
 | .str, .slice e sz _ => strBytes P e sz x
 | .slice e sz _, .str => bytesV P look e sz x
 | _, _ => (convV i j x).bind ret

def bothSl : TK → TK → Bool
 | .slice .., .slice .. => true
 | _, _ => false

/-- A list of bytes made a list of bytes: its row is marked as that of a text. -/
def frzV (P : Program) (look : Look) (st : Bool) (i : TI) (x : V) : Option Res :=
 match st, i.k, x with
 | true, .slice e sz _, .osl id g off len sz' cap => match Nat.beq sz 1, (mkTI P e).map TI.k, live look id g with
  | true, some (.int .u8), some o => match o.ro, Nat.blt 0 len with
   | false, true => some ⟨.osl id g off len sz' cap, [(id, ⟨g, false, o.cells⟩)], [id], 0, 0, false⟩
   | _, _ => none
  | _, _, _ => none
 | _, _, _ => none

def fieldV (i : TI) (f : Nat) : V → Option Res
 | .agg cs => match i.k with
  | .struct fs => match fs[f]? with
   | some (off, size, agg) => (partV agg cs off size).bind ret
   | none => none
  | _ => none
 | _ => none

def fieldAddrV (look : Look) (i : TI) (f : Nat) (x : V) : Option Res :=
 match i.k with
 | .struct fs => match fs[f]? with
  | some (off, size, _) => match Nat.beq size 0 with
   | true => none
   | false => match x with
    | .ptr id g o => match live look id g with | some _ => retR (.ptr id g (o + off)) id | none => none
    | .vref ds => ret (.vref (ds.drop off))
    | _ => none
  | none => none
 | _ => none

def builtinV [Gl] (P : Program) (look : Look) (n c : Nat) (b : Builtin) (ts : List TypeId) (vs : List V) : Option Res :=
 match b, ts, vs with
 | .len, [t], [x] => (mkTI P t).bind fun i => lenV look i x
 | .append, [t, u], [s, x] => if t = u then (mkTI P t).bind fun i => appendV look n c i s x else
   match mkTI P t, mkTI P u with
   | some i, some j => match i.k, j.k with
    | .slice e _ _, .int _ => appendNV n c i (mkTI P e) s x
    | .slice _ _ _, .str => appendSV look n c i s x
    | _, _ => none
   | _, _ => none
 | .cap, [t], [x] => (mkTI P t).bind fun i => capV look i x
 | .max, _, vs => maxV true vs
 | .min, _, vs => maxV false vs
 | .copy, [t, u], [s, x] => if t = u then (mkTI P t).bind fun i => copyV look i s x else none
 | .clear, [t], [s] => (mkTI P t).bind fun i => match i.k with
  | .slice e _ _ => clearV look i (mkTI P e) s
  | _ => none
 | .delete, t :: _, [m, k] => (mkTI P t).bind fun i => match i.k with
  | .map kt _ => (mkTI P kt).bind fun ki => deleteV look ki m k
  | _ => none
 | _, _, _ => none

/-- The parts of a slice: its slices made data. -/
def closeParts (look : Look) (fz : Bool) : List (Nat × V) → Option (List (Nat × V) × List Nat)
 | [] => some ([], [])
 | (i, x) :: r => match cl2 look fz x, closeParts look fz r with
  | some (y, a), some (ys, b) => some ((i, y) :: ys, a ++ b)
  | _, _ => none

/-! Structs of scalars, compared cell by cell. -/
inductive SK where | bool | int | str
def scalarT (P : Program) (t : TypeId) : Option SK := match P.underlying t with | some .bool => some .bool | some (.int _) => some .int | some .string => some .str | _ => none
def eqCell [Gl] : SK → D → D → Option Bool
 | .int, .int k a, .int k' b => if k = k' then some (decide (a = b)) else none
 | .str, .str a, .str b => some (a == b)
 | .bool, .bool a, .bool b => some (a == b)
 | .int, .sym a, .sym b => match Nat.beq a b, Gl.sk a with | true, some _ => some true | _, _ => none
 | _, _, _ => none
def eqRow [Gl] : List (Nat × SK) → List V → List V → Option Bool
 | [], _, _ => some true
 | o :: r, as, bs => match as[o.1]?, bs[o.1]? with
  | some (.d a), some (.d b) => match eqCell o.2 a b with | some true => eqRow r as bs | x => x
  | _, _ => none
def fieldOffs (P : Program) : List Field → Option (List (Nat × SK))
 | [] => some []
 | f :: r => match f.name == "_", scalarT P f.type, fieldOffs P r with
  | false, some k, some l => some ((f.offset, k) :: l)
  | _, _, _ => none
def structOffs (P : Program) (t : TypeId) : Option (List (Nat × SK)) := match P.underlying t with
 | some (.struct fs) => match P.stoodInHeld t, P.eqGuardType P.depth t with | false, false => fieldOffs P fs.toList | _, _ => none
 | _ => none

/-! Maps whose keys are structs of scalars. -/
def rowD : List V → Option (List D)
 | [] => some []
 | .d x :: r => (rowD r).map (x :: ·)
 | _ => none
def findA [Gl] (l : List (Nat × SK)) (k : List V) : List (List D) → Nat → Option (Option Nat)
 | [], _ => some none
 | q :: r, j => match eqRow l k (q.map .d) with
  | some true => some (some j)
  | some false => findA l k r (j + 1)
  | none => none
def rowOK (l : List (Nat × SK)) (k : List V) : Bool := l.all fun o => Nat.blt o.1 k.length
def lookupA [Gl] (look : Look) (l : List (Nat × SK)) (z : V) (m : V) (k : List V) (ok : Bool) : Option Res :=
 match m with
 | .mp id g => match live look id g with
  | some o => match o.cells with
   | [.mpa ks vs _] => match rowOK l k, findA l k ks 0 with
    | true, some (some j) => match vs[j]? with | some v => retR (lookRes ok v true) id | none => none
    | true, some none => retR (lookRes ok z false) id
    | _, _ => none
   | _ => none
  | none => none
 | _ => none
def insertA [Gl] (look : Look) (l : List (Nat × SK)) (m : V) (k : List V) (x : V) : Option Res :=
 match m, rowD k with
 | .mp id g, some kd => match live look id g with
  | some o => match o.ro, o.cells with
   | false, [.mpa ks vs c] => match rowOK l k, findA l k ks 0 with
    | true, some none => some ⟨.undef, [(id, ⟨g, false, [.mpa (ks ++ [kd]) (vs ++ [x]) (c + 1)]⟩)], [id], 0, 0, false⟩
    | _, _ => none
   | _, _ => none
  | none => none
 | _, _ => none
def makeMapA (n c : Nat) : Option Res := some ⟨.mp n c, [(n, ⟨c, false, [.mpa [] [] 0]⟩)], [], 1, 1, false⟩

/-- One operation that calls no function of Go's. -/
def step [Gl] (P : Program) (fz fs : Bool) (ρ : Operand → V) (look : Look) (n c : Nat) : Op → Option Res
 | .move x | .assign x => ret (ρ x)
 | .pick q a b => match ρ q with | .d (.bool true) => ret (ρ a) | .d (.bool false) => ret (ρ b) | _ => none
 | .alloc t => match mkTI P t with
  | some i => match i.zero with
   | some z => if z.all V.one = true then newV n c z else none
   | none => none
  | none => none
 | .box _ x => (cellsV (ρ x)).bind (newV n c)
 | .build t ps => match mkTI P t with
  | some i => match i.zero, i.k with
   | some z, .struct fl => if z.all V.one = true then match fs with
     | false => (fillV (fun j => (fl[j]?).map fun f => (f.1, f.2.1)) z (ps.toList.map fun p => (p.1, ρ p.2))).bind fun cs => ret (.agg cs)
     | true => match closeParts look true (ps.toList.map fun p => (p.1, ρ p.2)) with
      | some (qs, ids) => (fillV (fun j => (fl[j]?).map fun f => (f.1, f.2.1)) z qs).bind fun cs => some ⟨.agg cs, roOf look ids, ids, 0, 0, false⟩
      | none => none
     else none
   | some z, .array _ _ sz _ => if z.all V.one = true then (fillV (fun j => some (j * sz, sz)) z (ps.toList.map fun p => (p.1, ρ p.2))).bind fun cs => ret (.agg cs) else none
   | _, _ => none
  | none => none
 | .buildSlice t len ps => match mkTI P t with
  | some i => match i.k with
   | .slice e sz _ => match mkTI P e with
    | some j => match j.zero with
     | some z => if z.length = sz ∧ z.all V.one = true ∧ 0 < sz ∧ len * sz ≤ 16777216 then
       match closeParts look fz (ps.toList.map fun p => (p.1, ρ p.2)) with
       | some (qs, ids) => (fillV (fun j => some (j * sz, sz)) (List.replicate len z).flatten qs).bind fun cs =>
        some ⟨.osl n c 0 len sz (some len), roOf look ids ++ [(n, ⟨c, false, cs⟩)], ids, 1, 1, false⟩
       | none => none
      else none
     | none => none
    | none => none
   | _ => none
  | none => none
 | .load t a => (mkTI P t).bind fun i => loadV look i (ρ a)
 | .store t a x => (mkTI P t).bind fun i => storeV look fs i (ρ a) (ρ x)
 | .nilCheck x => checkNil look (ρ x)
 | .range t x => (mkTI P t).bind fun i => match isMapK i.k with | true => rangeMV look n c (ρ x) | false => rangeV n c i (ρ x)
 | .entry x => entryItV look (ρ x)
 | .next x true => nextV look (ρ x)
 | .makeMap t none => match mkTI P t with
  | some i => match i.k with | .map kt _ => (match structOffs P kt with | some _ => makeMapA n c | none => makeMapV n c) | _ => none
  | none => none
 | .lookup t x k ok => match mkTI P t with
  | some i => match i.k with
   | .map kt et => match structOffs P kt, ρ k, zeroT P et with
    | some l, .agg ks, some z => lookupA look l z (ρ x) ks ok
    | _, k, z => match mkTI P kt with
     | some ki => lookupV look ki z (ρ x) k ok
     | none => none
   | _ => none
  | none => none
 | .mapUpdate t m k x | .insert t m k x => match mkTI P t with
  | some i => match i.k with
   | .map kt _ => match structOffs P kt, ρ k with
    | some l, .agg ks => insertA look l (ρ m) ks (ρ x)
    | _, k => (mkTI P kt).bind fun ki => insertV look ki (ρ m) k (ρ x)
   | _ => none
  | none => none
 | .mapEntry t m k => match mkTI P t with
  | some i => match i.k with
   | .map kt et => (mkTI P kt).bind fun ki => entryV look ki (zeroT P et) (ρ m) (ρ k)
   | _ => none
  | none => none
 | .entryStore _ m k x => stampV look (ρ m) (ρ k) (ρ x)
 | .binOp op t x y _ => match nilOpd y with
  | true => (mkTI P t).bind fun i => nilR look op i.k y (ρ x)
  | false => match ρ x, ρ y with
  | .d (.bool a), .d (.bool b) => match mkTI P t with
   | some i => match i.k with | .bool => (boolBin op a b).bind ret | _ => none
   | none => none
  | .agg as, .agg bs => match isEq op, structOffs P t with
   | some e, some l => match eqRow l as bs with | some q => ret (.d (.bool (q == e))) | none => none
   | _, _ => none
  | u, v => (binV op u v).bind ret
 | .unOp op _ x => (unV op (ρ x)).bind ret
 | .convert s t x => match mkTI P s, mkTI P t with
  | some i, some j => match bothSl i.k j.k with
   | true => frzV P look (s == t) i (ρ x)
   | false => convL P look i j (ρ x)
  | _, _ => none
 | .makeFunc (.func f) first caps => match first.toList, caps.toList with
  | [], l => ret (.fn f (l.map ρ))
  | [x], [] => ret (.mv f (ρ x))
  | _, _ => none
 | .makeInterface t x => match isIface P t with | some false => ret (.ifc t (ρ x)) | _ => none
 | .typeAssert x _ t ok => match isIface P t with | some false => assertV (zeroT P t) t ok (ρ x) | _ => none
 | .makeSlice t l q => match mkTI P t with
  | some i => match i.k with | .slice e _ _ => makeV n c i (mkTI P e) (ρ l) (ρ q) | _ => none
  | none => none
 | .slice t x lo hi mx => if mx.isSome = true ∧ hi.isSome = false then none else (mkTI P t).bind fun i => sliceV look i (ρ x) (lo.map ρ) (hi.map ρ) (mx.map ρ)
 | .fieldAddr t x f => (mkTI P t).bind fun i => fieldAddrV look i f (ρ x)
 | .field t x f => (mkTI P t).bind fun i => fieldV i f (ρ x)
 | .indexAddr t x ix => (mkTI P t).bind fun i => indexAddrV look i (ρ x) (ρ ix)
 | .index t x ix => (mkTI P t).bind fun i => indexV i (ρ x) (ρ ix)
 | .extract t ix => match ρ t with
  | .tuple vs => vs[ix]?.bind ret
  | _ => none
 | .call ⟨.builtin b, args, ts⟩ => builtinV P look n c b ts.toList (args.toList.map ρ)
 | _ => none

/-! ### Calls, regions, code -/

/-- What a call gives; wl: which of the caller's objects it has written. -/
structure CR where
 v : V
 hp : Hp
 n : Nat
 c : Nat
 wl : List Nat
 deriving Inhabited

/-- How a function is called; how a loop's yield is called. -/
structure CallF where
 fn : FuncId → List V → Hp → Nat → Nat → Option CR
 yd : Nat → Nat → List V → Hp → Nat → Nat → Option CR
instance : CoeFun CallF (fun _ => FuncId → List V → Hp → Nat → Nat → Option CR) := ⟨CallF.fn⟩

/-- How a call is one operation: a known one; a table: by its arguments, which objects it looks at, and what it does. -/
inductive PK where
 | std (a b : Nat)
 | dat (T : List V → Option V)
 | tab (g : List V → Option (List Nat × (List (Option Ob) → Nat → Nat → Option Res)))

/-- What a reader of the code lays beside it: which functions take and hand back objects; which keep objects inside objects; which slots are wanted behind a region; which nil slices become objects there. -/
structure Cfg where
 prim : FuncId → Option PK
 thr : FuncId → Bool
 own : FuncId → Bool
 fz : FuncId → Nat → Bool × Bool
 keep : FuncId → Nat → Option (List Nat)
 mat : FuncId → Nat → List (Nat × Option Nat × Nat)

def noLook : Look := fun _ => none

/-- An argument: nil stays nil. -/
def closeA (look : Look) : V → Option (V × List Nat)
 | .full rows => some (.full rows, [])
 | v => close look v

def closeArgs (look : Look) (vs : List V) : Option (List V × List Nat) := closeVs (closeA look) vs

mutual
/-- Names and marks moved. -/
def shiftV (n c : Nat) : V → V
 | .ptr id g off => .ptr (id + n) (g + c) off
 | .it id g => .it (id + n) (g + c)
 | .mp id g => .mp (id + n) (g + c)
 | .mpc ks vs bs k => .mpc ks (shiftVs n c vs) bs k
 | .mpa ks vs k => .mpa ks (shiftVs n c vs) k
 | .mpq ks vs k => .mpq ks (shiftVs n c vs) k
 | .itm mid mg since seen last => .itm (mid + n) (mg + c) since seen last
 | .osl id g off len sz cap => .osl (id + n) (g + c) off len sz cap
 | .agg cs => .agg (shiftVs n c cs)
 | .tuple cs => .tuple (shiftVs n c cs)
 | .fn f cs => .fn f (shiftVs n c cs)
 | .ifc t v => .ifc t (shiftV n c v)
 | .mv f v => .mv f (shiftV n c v)
 | .yd id g => .yd (id + n) (g + c)
 | .lp st pend fid env ps asg body => .lp st pend fid (shiftE n c env) ps asg body
 | v => v
def shiftVs (n c : Nat) : List V → List V
 | [] => []
 | v :: r => shiftV n c v :: shiftVs n c r
def shiftE (n c : Nat) : List (Nat × V) → List (Nat × V)
 | [] => []
 | (k, v) :: r => (k, shiftV n c v) :: shiftE n c r
end

def shiftH (n c : Nat) (h : Hp) : Hp := h.map fun p => (p.1 + n, ⟨p.2.gen + c, p.2.ro, shiftVs n c p.2.cells⟩)

def wrOf (look : Look) : List Nat → List (Nat × Ob)
 | [] => []
 | id :: r => match look id with | some o => (id, o) :: wrOf look r | none => wrOf look r

/-- A copy of a slice: a new object. -/
def cloneV (look : Look) (n c sz by_ : Nat) (x : V) : Option Res :=
 match rowsOf look sz x with
 | some (m, xs, rx) => match fitsB m by_ with
  | true => some ⟨.osl n c 0 m sz none, [(n, ⟨c, false, xs⟩)], rx, 1, 1, false⟩
  | false => none
 | none => none

/-- The place of a byte in a text; -1: nowhere. -/
def idxByte (s : List UInt8) (b : Int) : Int := match s.findIdx? (fun x => x == b.toNat.toUInt8) with | some i => (i : Int) | none => -1

/-- How often a byte stands in a text. -/
def cntByte (s : List UInt8) (b : UInt8) : Int := ((s.count b : Nat) : Int)

def primS (look : Look) (n c : Nat) (p : Nat × Nat) : List V → Option Res
 | [x] => cloneV look n c p.1 p.2 x
 | [.d (.str s), .d (.int .u8 b)] => match p with | (0, 0) => ret (.d (.int .i64 (idxByte s b))) | _ => none
 | [.d (.str s), .d (.str [b])] => match p with | (1, 0) => if s.length ≤ 9223372036854775807 then ret (.d (.int .i64 (cntByte s b))) else none | _ => none
 | _ => none

def primV (look : Look) (n c : Nat) (p : PK) (vs : List V) : Option Res :=
 match p with
 | .std a b => primS look n c (a, b) vs
 | .dat T => match closeArgs look vs with
  | some (ws, ids) => match T ws with
   | some v => some ⟨v, roOf look ids, ids, 0, 0, false⟩
   | none => none
  | none => none
 | .tab g => match g vs with
  | some (ids, k) => match k (ids.map look) n c with
   | some r => some { r with rd := ids }
   | none => none
  | none => none

/-- A call: by data alone where the arguments allow it; else with the memory handed on. -/
def callR (cfg : Cfg) (call : CallF) (hp : Hp) (n c : Nat) (f : FuncId) (vs : List V) : Option Res :=
 match closeArgs (if cfg.thr f then noLook else hp.get) vs with
 | some (ws, ids) => match call f ws [] 0 0 with
  | some r => match closeT noLook r.v with
   | some _ => some ⟨r.v, if r.v.flat then [] else roOf hp.get ids, ids, 0, 0, false⟩
   | none => some ⟨shiftV n c r.v, roOf hp.get ids ++ shiftH n c (wrOf r.hp.get (List.range r.n)), ids, r.n, r.c, false⟩
  | none => none
 | none => match call f vs hp n c with
  | some r => some ⟨r.v, wrOf r.hp.get (r.wl ++ (List.range (r.n - n)).map (n + ·)), [], r.n - n, r.c - c, true⟩
  | none => none

def addNew (n0 : Nat) (wl : List Nat) : List (Nat × Ob) → List Nat
 | [] => wl
 | (k, _) :: r => match Nat.blt k n0 with
  | true => match wl.any (Nat.beq k) with | true => addNew n0 wl r | false => addNew n0 (k :: wl) r
  | false => addNew n0 wl r

def St.put (s : St) (dst : Option Nat) (r : Res) : St :=
 { env := match dst with | some d => (d, r.v) :: s.env | none => s.env, hp := s.hp.sets r.wr, n := s.n + r.dn, c := s.c + r.dc, n0 := s.n0, wl := addNew s.n0 s.wl r.wr }


/-- A call of a loop's yield: the memory is handed on. -/
def yieldR (call : CallF) (hp : Hp) (n c : Nat) (id g : Nat) (vs : List V) : Option Res :=
 match call.yd id g vs hp n c with
 | some r => some ⟨r.v, wrOf r.hp.get (r.wl ++ (List.range (r.n - n)).map (n + ·)), [], r.n - n, r.c - c, true⟩
 | none => none

/-- The method of that name of a pointer's type; what it is handed first. -/
def methV (P : Program) (look : Look) (t : TypeId) (v : V) (name : String) : Option (FuncId × V × List Nat) :=
 match P.info? t with
 | some info => match info.methods.find? (·.name == name) with
  | some m => match m.path.toList, m.func, P.underlying t with
   | [], some (f, true), some (.pointer _) => some (f, v, [])
   | [], some (f, false), some (.pointer e) => match mkTI P e with
    | some i => (loadV look i v).map fun r => (f, r.v, r.rd)
    | none => none
   | _, _, _ => none
  | none => none
 | none => none

/-- A call through an interface. -/
def invokeR (P : Program) (cfg : Cfg) (call : CallF) (hp : Hp) (n c : Nat) (recv : V) (name : String) (args : List V) : Option Res :=
 match recv with
 | .ifc t v => match methV P hp.get t v name with
  | some (f, x, rd) => match callR cfg call hp n c f (x :: args) with
   | some q => some { q with rd := rd ++ q.rd }
   | none => none
  | none => none
 | _ => none

/-- What an operation does in a state. -/
def opR [Gl] (P : Program) (cfg : Cfg) (fid : FuncId) (rid : Nat) (call : CallF) (o : Oper) (s : St) : Option Res :=
 match o.op with
 | .call ⟨.value fo, args, _⟩ => match evalV s.env fo with
  | .fn f caps => match cfg.prim f with
   | some p => primV s.hp.get s.n s.c p (args.toList.map (evalV s.env) ++ caps)
   | none => callR cfg call s.hp s.n s.c f (args.toList.map (evalV s.env) ++ caps)
  | .yd id g => yieldR call s.hp s.n s.c id g (args.toList.map (evalV s.env))
  | .mv f x => callR cfg call s.hp s.n s.c f (x :: args.toList.map (evalV s.env))
  | _ => none
 | .call ⟨.invoke rv name, args, _⟩ => invokeR P cfg call s.hp s.n s.c (evalV s.env rv) name (args.toList.map (evalV s.env))
 | op => step P (cfg.fz fid rid).1 (cfg.fz fid rid).2 (evalV s.env) s.hp.get s.n s.c op

/-- Is the operation wanted? (None: it can't be told.) -/
def wantedV (ops : List Oper) (e : Env) (o : Oper) : Option Bool :=
 match o.guard with
 | none => some true
 | some (j, want) => match ops[j]? with
  | some g => match g.dst with
   | some d => match e.get d with
    | .d (.bool b) => some (b == want)
    | .undef => some false
    | _ => none
   | none => none
  | none => none

def skipR : Res := ⟨.undef, [], [], 0, 0, false⟩

/-- One operation, wanted or not. -/
def opW [Gl] (P : Program) (cfg : Cfg) (fid : FuncId) (rid : Nat) (call : CallF) (all : List Oper) (o : Oper) (s : St) : Option Res :=
 match wantedV all s.env o with
 | some true => match opR P cfg fid rid call o s with
  | some q => if q.wr.all (fun p => Nat.blt p.1 (s.n + q.dn)) then some q else none
  | none => none
 | some false => some skipR
 | none => none

def runOps [Gl] (P : Program) (cfg : Cfg) (fid : FuncId) (rid : Nat) (call : CallF) (all : List Oper) : List Oper → St → Option St
 | [], s => some s
 | o :: r, s => match opW P cfg fid rid call all o s with
  | some q => runOps P cfg fid rid call all r (s.put o.dst q)
  | none => none

/-! The check of a region that draws its order. -/

structure Tr where
 rd : List Nat
 wr : List Nat
 sl : List Nat
 ds : Option Nat
 all : Bool
 dc : Nat

def opdSlots (o : Oper) (all : List Oper) : List Nat :=
 (o.op.operands.toList.filterMap fun | .tmp t => some t | _ => none) ++
 (match o.guard with | some (g, _) => (all[g]?.bind (·.dst)).toList | none => [])

def disj (a b : List Nat) : Bool := a.all fun x => b.all fun y => !(Nat.beq x y)

/-- The transitive closure of the edges that bind. -/
def anc (all : List Oper) : List (List Nat) :=
 all.foldl (fun acc o => acc ++ [o.after.toList.foldl (fun s e => if Region.binds .any e then e.on :: (acc.getD e.on [] ++ s) else s) []]) []

/-- The last operation but one makes an object, and all else comes before the last: then it may be made at any time. -/
def lateOK (all : List Oper) : Bool := match all.length with
 | k + 2 => match all[k]? with
  | some o => match o.op with
   | .alloc _ => match o.guard, o.dst with
    | none, some d => (all.take k).all (fun p => !(opdSlots p all).contains d && !(p.dst == some d)) && (List.range (k + 1)).all (fun i => ((anc all).getD (k + 1) []).contains i)
    | _, _ => false
   | _ => false
  | none => false
 | _ => false

/-- What lies before an operation, as far as it matters. -/
def ancL (all : List Oper) : List (List Nat) := match lateOK all with
 | true => (anc all).set (all.length - 2) (List.range (all.length - 2))
 | false => anc all

def apartT (a b : Tr) : Bool :=
 disj a.wr (b.rd ++ b.wr) && disj b.wr a.rd && (!a.all || (b.wr.isEmpty && Nat.beq b.dc 0)) && (!b.all || (a.wr.isEmpty && Nat.beq a.dc 0)) &&
 (match a.ds with | some d => !(b.sl.contains d) && !(b.ds == some d) | none => true) && (match b.ds with | some d => !(a.sl.contains d) | none => true)

def trOf (o : Oper) (all : List Oper) (q : Res) : Tr := ⟨q.rd, q.wr.map (·.1), opdSlots o all, o.dst, q.all, q.dc⟩

/-- The order of the text is an order of the edges that bind. -/
def orderOK (all : List Oper) : Bool := all.zipIdx.all fun p => p.1.after.toList.all fun e => !(Region.binds .any e) || Nat.blt e.on p.2

def checkOps [Gl] (P : Program) (cfg : Cfg) (fid : FuncId) (rid : Nat) (call : CallF) (all : List Oper) : List Oper → List (List Nat) → List Tr → St → Bool
 | o :: r, a :: ancs, tr, s => match opW P cfg fid rid call all o s with
  | some q => (tr.zipIdx.all fun p => a.contains p.2 || apartT p.1 (trOf o all q)) && checkOps P cfg fid rid call all r ancs (tr ++ [trOf o all q]) (s.put o.dst q)
  | none => false
 | [], [], _, _ => true
 | _, _, _, _ => false

/-- A nil slice becomes an object that is still empty: in a slot, or in a cell of the object that a slot points to. -/
def matOne (s : St) (p : Nat × Option Nat × Nat) : St :=
 match p.2.1 with
 | none => match s.env.get p.1 with
  | .full [] => { s with env := (p.1, .osl s.n s.c 0 0 p.2.2 none) :: s.env, hp := s.hp.set s.n ⟨s.c, false, []⟩, n := s.n + 1, c := s.c + 1 }
  | _ => s
 | some j => match s.env.get p.1 with
  | .ptr id g 0 => match live s.hp.get id g with
   | some o => match o.ro, o.cells[j]? with
    | false, some (.full []) => { s with hp := (s.hp.set s.n ⟨s.c, false, []⟩).set id ⟨g, false, o.cells.set j (.osl s.n s.c 0 0 p.2.2 none)⟩, n := s.n + 1, c := s.c + 1, wl := addNew s.n0 s.wl [(id, o)] }
    | _, _ => s
   | none => s
  | _ => s

def mats (s : St) : List (Nat × Option Nat × Nat) → St
 | [] => s
 | p :: r => mats (matOne s p) r

inductive Ex where
 | normal
 | exit (id : Nat)
 | ret
 deriving DecidableEq, Inhabited

def keepSt (s : St) : Option (List Nat) → St
 | some l => { s with env := s.env.keep l }
 | none => s

def runRegion [Gl] (P : Program) (cfg : Cfg) (call : CallF) (fid id : Nat) (ops : Array Oper) (draw : Bool) (s : St) : Option St :=
 match (if draw then orderOK ops.toList && checkOps P cfg fid id call ops.toList ops.toList (ancL ops.toList) [] s else true) with
 | false => none
 | true => match runOps P cfg fid id call ops.toList ops.toList s with
  | some s => some (keepSt (mats s (cfg.mat fid id)) (cfg.keep fid id))
  | none => none

/-- The results of a function. -/
def resultV (P : Program) (s : St) : ResultVar → Option V
 | .tmp t => some (s.env.get t)
 | .cell a t => (mkTI P t).bind fun i => (loadV s.hp.get i (s.env.get a)).map (·.v)

def resultsV (P : Program) (s : St) : List ResultVar → Option (List V)
 | [] => some []
 | r :: l => match resultV P s r, resultsV P s l with | some v, some vs => some (v :: vs) | _, _ => none

def tup : List V → V
 | [v] => v
 | vs => .tuple vs

/-- What a caller is handed. -/
def finish (thr : Bool) (n : Nat) (s : St) (v : V) : Option CR :=
 match (if thr then none else closeT s.hp.get v) with
 | some (w, ids) => if (w.flat || ids.all (fun i => Nat.ble n i)) = true then some ⟨w, Hp.trunc n s.hp, n, s.c, s.wl⟩ else none
 | none => some ⟨v, s.hp, s.n, s.c, s.wl⟩

def envOf : Nat → List V → Env
 | _, [] => []
 | k, v :: r => (k, v) :: envOf (k + 1) r

def enter (vs : List V) (hp : Hp) (n c : Nat) : St := ⟨envOf 0 vs, hp, n, c, n, []⟩

/-- A function's result, once its body has run. -/
def leave (P : Program) (cfg : Cfg) (f : FuncId) (fn : Func) (n : Nat) : Option (Ex × St) → Option CR
 | some (.normal, s) | some (.ret, s) => match resultsV P s fn.results.toList with
  | some rs => finish (cfg.thr f) n s (tup rs)
  | none => none
 | _ => none

/-! Deferred calls. -/

/-- Operations that call nobody. -/
def simpleOp : Op → Bool
 | .move _ | .assign _ | .alloc _ | .extract .. | .store .. | .load .. | .typeAssert .. | .makeFunc .. | .fieldAddr .. => true
 | _ => false

/-- A region that makes a closure and defers it: the region without the deferring; the closure's slot. -/
def deferOf : Code → Option (Nat × Oper × Operand)
 | .region id ops false => match ops.toList with
  | [mk, ⟨none, .defer ⟨.value fo, args, _⟩, _, _, _, none⟩] => match args.toList, mk.guard, simpleOp mk.op with
   | [], none, true => some (id, mk, fo)
   | _, _, _ => none
  | _ => none
 | _ => none

def spineOK (N : Nat) : Code → Bool
 | .seq a b => match deferOf a with
  | some (id, mk, _) => codeOK N (.region id #[mk] false) && codeOK N b
  | none => codeOK N a && spineOK N b
 | _ => false

def noCall : CallF := ⟨fun _ _ _ _ _ => none, fun _ _ _ _ _ _ => none⟩

/-- A function's body that defers one call, where it stands: what has been deferred. -/
def runD [Gl] (P : Program) (cfg : Cfg) (run : FuncId → Code → St → Option (Ex × St)) (f : FuncId) : Code → St → Option (Ex × St × Option (FuncId × List V))
 | .seq a b, s => match deferOf a with
  | some (id, mk, fo) => match runRegion P cfg noCall f id #[mk] false s with
   | some s1 => match evalV s1.env fo with
    | .fn g caps => match run f b s1 with
     | some (e, s2) => some (e, s2, some (g, caps))
     | none => none
    | _ => none
   | none => none
  | none => match run f a s with
   | some (.normal, s1) => runD P cfg run f b s1
   | some (e, s1) => some (e, s1, none)
   | none => none
 | _, _ => none

/-- A deferred function's body that asks at once what it recovers: while its caller returns, that is nothing. -/
def unRec : Code → Option (Nat × Array Oper × Code)
 | .seq (.region id ops false) rest => match ops.toList with
  | ⟨some d, .call ⟨.builtin .recover, _, _⟩, ty, pos, af, none⟩ :: r => match r.all fun o => simpleOp o.op with
   | true => some (id, (⟨some d, .move (.const .nilIface), ty, pos, af, none⟩ :: r).toArray, rest)
   | false => none
  | _ => none
 | _ => none

/-- What a deferred function does, while its caller returns. -/
def defF [Gl] (P : Program) (cfg : Cfg) (run : FuncId → Code → St → Option (Ex × St)) (g : FuncId) (caps : List V) (s : St) : Option St :=
 match P.funcs[g]? with
 | some gn => match gn.body with
  | some gb => match unRec gb with
   | some (id, ops, rest) => match Nat.ble caps.length gn.ntmps && codeOKb true gn.ntmps (.seq (.region id ops false) rest) && gn.results.toList.isEmpty with
    | true => match runRegion P cfg noCall g id ops false (enter caps s.hp s.n s.c) with
     | some t1 => match run g rest t1 with
      | some (.normal, t) | some (.ret, t) => some { env := s.env, hp := t.hp, n := t.n, c := t.c, n0 := s.n0, wl := addNew s.n0 s.wl (t.wl.map fun i => (i, default)) }
      | _ => none
     | none => none
    | false => none
   | none => none
  | none => none
 | none => none

/-- A call of a function that defers a call. -/
def callDf [Gl] (P : Program) (cfg : Cfg) (run : FuncId → Code → St → Option (Ex × St)) (f : FuncId) (fn : Func) (body : Code) (vs : List V) (hp : Hp) (n c : Nat) : Option CR :=
 match Nat.ble vs.length fn.ntmps && spineOK fn.ntmps body with
 | true => match runD P cfg run f body (enter vs hp n c) with
  | some (e, s, none) => leave P cfg f fn n (some (e, s))
  | some (e, s, some (g, caps)) => match e with
   | .exit _ => none
   | _ => match defF P cfg run g caps s with
    | some s' => leave P cfg f fn n (some (.ret, s'))
    | none => none
  | none => none
 | false => none

/-- A call, the code's run given. -/
def callFn [Gl] (P : Program) (cfg : Cfg) (run : FuncId → Code → St → Option (Ex × St)) (f : FuncId) (vs : List V) (hp : Hp) (n c : Nat) : Option CR :=
 match P.funcs[f]? with
 | some fn => match fn.body with
  | some body => match Nat.ble vs.length fn.ntmps && codeOK fn.ntmps body with
   | true => leave P cfg f fn n (run f body (enter vs hp n c))
   | false => callDf P cfg run f fn body vs hp n c
  | none => none
 | none => none

def putEs (e : Env) : List Nat → List V → Env
 | t :: ts, v :: vs => putEs ((t, v) :: e) ts vs
 | _, _ => e

/-- How a round has ended: what yield hands back; the loop's state; the jump that is pending. -/
def endR' : Ex → Bool × Nat × Option Code
 | .normal => (true, 0, none)
 | .exit i => (false, 2, some (.exit i))
 | .ret => (false, 2, some .ret)

/-- An object's cells are written anew. -/
def St.lset (s : St) (id : Nat) (o : Ob) : St := { s with hp := s.hp.set id o, wl := addNew s.n0 s.wl [(id, o)] }

/-- A round of a loop over a function. -/
def callYd (run : FuncId → Code → St → Option (Ex × St)) (id g : Nat) (vs : List V) (hp : Hp) (n c : Nat) : Option CR :=
 match live hp.get id g with
 | some ⟨_, false, [.lp 0 none fid env ps asg body]⟩ => match Nat.beq vs.length ps.length with
  | true => match run fid asg ⟨putEs env ps vs, hp, n, c, n, []⟩ with
   | some (.normal, s1) => match live s1.hp.get id g with
    | some ⟨_, false, [.lp 0 none fid1 env1 ps1 asg1 body1]⟩ => match run fid body (s1.lset id ⟨g, false, [.lp 1 none fid1 env1 ps1 asg1 body1]⟩) with
     | some (e, s2) => match live s2.hp.get id g with
      | some ⟨_, false, [.lp 1 none fid2 env2 ps2 asg2 body2]⟩ =>
       let s3 := s2.lset id ⟨g, false, [.lp (endR' e).2.1 (endR' e).2.2 fid2 env2 ps2 asg2 body2]⟩
       some ⟨.d (.bool (endR' e).1), s3.hp, s3.n, s3.c, s3.wl⟩
      | _ => none
     | none => none
    | _ => none
   | _ => none
  | false => none
 | _ => none

def callBy [Gl] (P : Program) (cfg : Cfg) (run : FuncId → Code → St → Option (Ex × St)) : CallF := ⟨callFn P cfg run, callYd run⟩

/-! Loops over a map: in any order. -/

/-- A loop whose first operation hands out a map's next entry: the region, its operations, the iterator's slot, the slot of what is handed out, the rest. -/
def nextLoop : Code → Option (Nat × Array Oper × Nat × Nat × Code)
 | .seq (.region r ops false) rest => match (ops[0]? : Option Oper) with
  | some (Oper.mk (some d) (.next (.tmp t) false) _ _ _ none) => some (r, ops, t, d, rest)
  | _ => none
 | _ => none

/-- The region once the entry has been handed out. -/
def handed (ops : Array Oper) (d : Nat) : Array Oper := ops.setIfInBounds 0 ⟨some d, .move (.tmp d), 0, "", #[], none⟩

structure Itr where
 id : Nat
 g : Nat
 mid : Nat
 mg : Nat
 since : Nat
 seen : List Nat
 ks : List D
 vs : List V
 bs : List Nat

/-- The iterator in a slot, and its map, which has taken in nothing since. -/
def itAt (s : St) (t : Nat) : Option Itr :=
 match s.env.get t with
 | .it id g => match live s.hp.get id g with
  | some o => match o.ro, o.cells with
   | false, [.itm mid mg since seen last] => match live s.hp.get mid mg with
    | some q => match q.cells with
     | [.mpc ks vs bs clock] => match decide (clock = since), decide (last = since), bs.all (fun b => decide (b < since)), decide bs.Nodup, Nat.blt id s.n with
      | true, true, true, true, true => some ⟨id, g, mid, mg, since, seen, ks, vs, bs⟩
      | _, _, _, _, _ => none
     | _ => none
    | none => none
   | _, _ => none
  | none => none
 | _ => none

def todo (I : Itr) : List Nat := I.bs.filter fun b => !I.seen.contains b
def overR : Res := ⟨.tuple [.d (.bool false)], [], [], 0, 0, false⟩
def pickR (I : Itr) (b : Nat) : Option Res :=
 match findB b I.bs 0 with
 | some j => match I.ks[j]?, I.vs[j]? with
  | some k, some v => some ⟨.tuple [.d (.bool true), .d k, v], [(I.id, ⟨I.g, false, [.itm I.mid I.mg I.since (I.seen ++ [b]) I.since]⟩)], [], 0, 0, false⟩
  | _, _ => none
 | none => none
def roundR (reg : St → Option St) (run : St → Option (Ex × St)) (s : St) : Option (Ex × St) := match reg s with | some t => run t | none => none

/-- The rounds, in one order. -/
def runOrd (reg : St → Option St) (run : St → Option (Ex × St)) (own : Bool) (t d : Nat) : List Nat → St → Option (Ex × St)
 | [], s => match itAt s t with
  | some I => match (todo I).isEmpty with
   | true => match roundR reg run (s.put (some d) overR) with
    | some (.normal, _) => none
    | r => r
   | false => none
  | none => none
 | b :: l, s => match itAt s t with
  | some I => match (b :: l).isPerm (todo I), pickR I b with
   | true, some q => match roundR reg run (s.put (some d) q) with
    | some (.normal, u) => runOrd reg run own t d l (if own then u else { u with hp := Hp.trunc s.n u.hp, n := s.n })
    | r => r
   | _, _ => none
  | none => none

/-- An object of which less is known: a map whose entries stand in an order that is not told. -/
def ObLe (q o : Ob) : Prop := q = o ∨ ∃ ks vs bs c ks2 vs2, q.cells = [.mpc ks vs bs c] ∧ o = ⟨q.gen, q.ro, [.mpq ks2 vs2 c]⟩ ∧ QP ks2 vs2 ks vs
def loosen (o : Ob) : Ob := match o.cells with
 | [.mpc ks vs _ c] => ⟨o.gen, o.ro, [.mpq ks vs c]⟩
 | _ => o

/-- The second state says no more than the first, with as many marks, or more; it knows all of the caller's objects. -/
structure LeSt (y x : St) : Prop where
 env : ∀ t, x.env.get t = y.env.get t ∨ x.env.get t = .any
 hpo : ∀ id, id < y.n0 → x.hp.get id = y.hp.get id
 hp : ∀ id o, x.hp.get id = some o → ∃ q, y.hp.get id = some q ∧ ObLe q o
 top : ∀ id, x.n ≤ id → x.hp.get id = none
 n : x.n0 ≤ x.n
 n0 : y.n0 = x.n0
 c : y.c ≤ x.c
 wl : ∀ i, i ∈ y.wl → i ∈ x.wl

/-- All but one name. -/
def Hp.drop (k : Nat) : Hp → Hp
 | [] => []
 | (j, o) :: r => match Nat.beq j k with | true => Hp.drop k r | false => (j, o) :: Hp.drop k r

/-- What is the same in all orders. -/
noncomputable def agreeE (f : List Nat → Option (Ex × St)) (l : List Nat) (e : Ex) (s : St) : Env :=
 s.env.filter fun p => @decide (∀ q : List Nat, q.isPerm l = true → ∀ y, f q = some (e, y) → y.env.get p.1 = s.env.get p.1) (Classical.propDecidable _)

/-- The objects; of a map whose entries do not stand in the same order in all orders of rounds, the order is not told. -/
noncomputable def agreeH (f : List Nat → Option (Ex × St)) (l : List Nat) (e : Ex) (s : St) (h : Hp) : Hp :=
 h.map fun p => @ite _ (∀ q : List Nat, q.isPerm l = true → ∀ y, f q = some (e, y) → y.hp.get p.1 = s.hp.get p.1) (Classical.propDecidable _) p (p.1, loosen p.2)

/-- What is kept of a state after the rounds: the slots as they were, or, at a return, those that are the same in all orders; the objects that were there, but not the iterator. -/
noncomputable def ordSt (s0 : St) (it : Nat) (f : List Nat → Option (Ex × St)) (l : List Nat) (e : Ex) (s : St) (C : Nat) : St :=
 { env := match e with | .ret => agreeE f l e s | _ => s0.env, hp := agreeH f l e s (Hp.drop it (Hp.trunc s0.n s.hp)), n := s0.n, c := C, n0 := s.n0, wl := s.wl }

/-- In every order the rounds come to the same, as far as it is kept. -/
def bndOrd (f : List Nat → Option (Ex × St)) (l : List Nat) (e : Ex) (x : St) : Prop := ∀ p : List Nat, p.isPerm l = true → ∃ y, f p = some (e, y) ∧ LeSt y x

/-- The least number of a kind. -/
theorem least_ex {p : Nat → Prop} (h : ∃ n, p n) : ∃ n, p n ∧ ∀ m, p m → n ≤ m := by
 obtain ⟨n, hn⟩ := h
 induction n using Nat.strongRecOn with
 | ind n ih =>
  rcases Classical.em (∃ m, m < n ∧ p m) with ⟨m, hm, hp⟩ | hno
  ·exact ih m hm hp
  ·exact ⟨n, hn, fun m hp => Nat.le_of_not_lt fun hl => hno ⟨m, hl, hp⟩⟩
noncomputable def least {p : Nat → Prop} (h : ∃ n, p n) : Nat := Classical.choose (least_ex h)
theorem least_spec {p : Nat → Prop} (h : ∃ n, p n) : p (least h) := (Classical.choose_spec (least_ex h)).1
theorem least_le {p : Nat → Prop} (h : ∃ n, p n) {m : Nat} (hm : p m) : least h ≤ m := (Classical.choose_spec (least_ex h)).2 m hm

/-- The rounds, if they come to the same in every order. -/
noncomputable def allOrd (s0 : St) (it : Nat) (f : List Nat → Option (Ex × St)) (l : List Nat) : Option (Ex × St) :=
 match f l with
 | some (e, s) => @dite _ (∃ C, bndOrd f l e (ordSt s0 it f l e s C)) (Classical.propDecidable _) (fun h => some (e, ordSt s0 it f l e s (least h))) (fun _ => none)
 | none => none

/-- Behind the call of the function that is ranged over: the loop's record is let go; the pending jump is what is done next. -/
def afterRange (s : St) (r : CR) : Option (Ex × St) :=
 match live r.hp.get s.n s.c with
 | some ⟨_, false, [.lp st pend _ _ _ _ _]⟩ => match Nat.beq st 1 with
  | true => none
  | false =>
   let t : St := { env := s.env, hp := Hp.drop s.n r.hp, n := r.n, c := r.c, n0 := s.n0, wl := addNew s.n0 s.wl (r.wl.map fun i => (i, default)) }
   match pend with
   | none => some (.normal, t)
   | some .ret => some (.ret, t)
   | some (.exit i) => some (.exit i, t)
   | some _ => none
 | _ => none

/-- A loop over a function. -/
def rangeR (call : CallF) (fid : Nat) (g : V) (ps : List Nat) (asg body : Code) (s : St) : Option (Ex × St) :=
 match g with
 | .fn f caps => match call.fn f (.yd s.n s.c :: caps) (s.hp.set s.n ⟨s.c, false, [.lp 0 none fid s.env ps asg body]⟩) (s.n + 1) (s.c + 1) with
  | some r => afterRange s r
  | none => none
 | _ => none

/-- Code, with fuel. -/
noncomputable def execF [Gl] (P : Program) (cfg : Cfg) : Nat → FuncId → Code → St → Option (Ex × St)
 | 0, _, _, _ => none
 | k + 1, fid, c, s =>
  match c with
  | .skip => some (.normal, s)
  | .label _ => some (.normal, s)
  | .ret => some (.ret, s)
  | .exit id => some (.exit id, s)
  | .seq a b => match execF P cfg k fid a s with
   | some (.normal, s) => execF P cfg k fid b s
   | r => r
  | .cond q a b => match evalV s.env q with
   | .d (.bool true) => execF P cfg k fid a s
   | .d (.bool false) => execF P cfg k fid b s
   | _ => none
  | .block id b => match execF P cfg k fid b s with
   | some (.exit i, s) => if i = id then some (.normal, s) else some (.exit i, s)
   | r => r
  | .loop b => match nextLoop b with
   | none => match execF P cfg k fid b s with
    | some (.normal, t) => execF P cfg k fid (.loop b) (if cfg.own fid then t else { t with hp := Hp.trunc s.n t.hp, n := s.n })
    | r => r
   | some (r, ops, t, d, rest) => match itAt s t with
    | some I => allOrd s I.id (fun p => runOrd (runRegion P cfg (callBy P cfg (execF P cfg k)) fid r (handed ops d) false) (execF P cfg k fid rest) (cfg.own fid) t d p s) (todo I)
    | none => none
  | .region id ops draw => (runRegion P cfg (callBy P cfg (execF P cfg k)) fid id ops draw s).map fun s => (.normal, s)
  | .rangeFunc g ps asg body => rangeR (callBy P cfg (execF P cfg k)) fid (evalV s.env g) ps.toList asg body s
  | _ => none

noncomputable def callF [Gl] (P : Program) (cfg : Cfg) (k : Nat) : CallF := callBy P cfg (execF P cfg k)

end Go.Ac
