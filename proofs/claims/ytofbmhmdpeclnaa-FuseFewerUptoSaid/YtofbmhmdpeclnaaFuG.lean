/- The simp set of the walks; expressions and statements by their parts. -/
import Derived.Test.YtofbmhmdpeclnaaAbHnM
import Derived.Test.YtofbmhmdpeclnaaFuE
set_option linter.unusedVariables false
set_option linter.unusedSimpArgs false
namespace Go.Ab
open Go.Proofs

def X.k : X → Int | .mk k _ _ _ _ _ => k
def X.o : X → Int | .mk _ o _ _ _ _ => o
def X.t : X → Int | .mk _ _ t _ _ _ => t
def X.v : X → Int | .mk _ _ _ v _ _ => v
def X.nm : X → List UInt8 | .mk _ _ _ _ n _ => n
def X.args : X → List X | .mk _ _ _ _ _ l => l
def Y.k : Y → Int | .mk k _ _ _ _ _ _ => k
def Y.nm : Y → List UInt8 | .mk _ n _ _ _ _ _ => n
def Y.t : Y → Int | .mk _ _ t _ _ _ _ => t
def Y.r : Y → X | .mk _ _ _ r _ _ _ => r
def Y.outs : Y → List (List UInt8) | .mk _ _ _ _ o _ _ => o
def Y.args : Y → List X | .mk _ _ _ _ _ a _ => a
def Y.brs : Y → List (List Y) | .mk _ _ _ _ _ _ b => b

theorem X.eta (x : X) : x = .mk x.k x.o x.t x.v x.nm x.args := by cases x; rfl
theorem Y.eta (y : Y) : y = .mk y.k y.nm y.t y.r y.outs y.args y.brs := by cases y; rfl

theorem X.cells_eq (x : X) : x.cells = [.int .i64 x.k, .int .i64 x.o, .int .i64 x.t, .int .i64 x.v, .str x.nm, .slice (encX x.args)] := by cases x; simp [X.cells, ni, X.k, X.o, X.t, X.v, X.nm, X.args]
theorem Y.cells_eq (y : Y) : y.cells = [.int .i64 y.k, .str y.nm, .int .i64 y.t, .int .i64 y.r.k, .int .i64 y.r.o, .int .i64 y.r.t, .int .i64 y.r.v, .str y.r.nm, .slice (encX y.r.args), .slice (encN y.outs), .slice (encX y.args), .slice (encB y.brs)] := by
  cases y; simp [Y.cells, X.cells_eq, ni, Y.k, Y.nm, Y.t, Y.r, Y.outs, Y.args, Y.brs]

theorem X.cells_len (x : X) : x.cells.length = 6 := by rw [X.cells_eq]; rfl
theorem Y.cells_len (y : Y) : y.cells.length = 12 := by rw [Y.cells_eq]; rfl

theorem nbeq_self (n : Nat) : Nat.beq n n = true := Nat.beq_refl n

/-- Zero values. -/
def z34 : List V := [.d (.int .i64 0), .d (.int .i64 0), .d (.int .i64 0), .d (.int .i64 0), .d (.str []), .full []]
def z38 : List V := [.d (.int .i64 0), .d (.str []), .d (.int .i64 0), .d (.int .i64 0), .d (.int .i64 0), .d (.int .i64 0), .d (.int .i64 0), .d (.str []), .full [], .full [], .full [], .full []]
theorem z34_eq : zOf 34 = some z34 := by kernel_rfl
theorem z38_eq : zOf 38 = some z38 := by kernel_rfl
theorem z9_eq : zOf 9 = some [.d (.str [])] := by kernel_rfl
theorem z22_eq : zOf 22 = some [.full []] := by kernel_rfl
theorem fz_Hn (f r : Nat) : Hn.cfg.fz f r = Hn.fz f r := rfl
theorem own_Hn (f : Nat) : Hn.cfg.own f = Hn.own f := rfl
theorem keep_Hn (f r : Nat) : Hn.cfg.keep f r = Hn.keep f r := rfl
theorem mat_Hn (f r : Nat) : Hn.cfg.mat f r = Hn.mat f r := rfl

attribute [simp] opP opP0 wantedP step retR live nbeq_self newV cellsV V.one storeV cl1 roOf z34_eq z38_eq z34 z38 z9_eq z22_eq fz_Hn Hn.fz Hp.get Hp.set Hp.sets addNew idx_lt builtinV
theorem encY_at {l : List Y} {i : Nat} {y : Y} (h : l[i]? = some y) : (encY l)[i]? = some y.cells := by rw [encY_map]; simp [h]
theorem encX_at {l : List X} {i : Nat} {y : X} (h : l[i]? = some y) : (encX l)[i]? = some y.cells := by rw [encX_map]; simp [h]
theorem encB_at {l : List (List Y)} {i : Nat} {y : List Y} (h : l[i]? = some y) : (encB l)[i]? = some [.slice (encY y)] := by rw [encB_map]; simp [h]
theorem encN_at {l : List (List UInt8)} {i : Nat} {y : List UInt8} (h : l[i]? = some y) : (encN l)[i]? = some [.str y] := by unfold encN; simp [h]
theorem Y.sz_eq (y : Y) : y.sz = szS y.nm + y.r.sz + szN y.outs + szX y.args + szB y.brs + 12 := by cases y; simp [Y.sz, Y.nm, Y.r, Y.outs, Y.args, Y.brs]
theorem X.sz_eq (x : X) : x.sz = szS x.nm + szX x.args + 6 := by cases x; simp [X.sz, X.nm, X.args]

attribute [simp] Hp.trunc_zero nblt_eq Hp.get_set_self Hp.trunc cut own_Hn Hn.own
theorem rowsOf_osl (look : Look) (sz id g off len sz' : Nat) (cap : Option Nat) : rowsOf look sz (.osl id g off len sz' cap) = match live look id g, Nat.beq sz sz' with
    | some o, true => match Nat.ble (off + len * sz) o.cells.length with
      | true => some (len, (o.cells.drop off).take (len * sz), [id])
      | false => none
    | _, _ => none := rfl
attribute [simp] endR keepSt mats matOne keep_Hn mat_Hn Hn.keep Hn.mat callD rowsOf_osl appendV encY_len encB_len encX_len encN_len

end Go.Ab
