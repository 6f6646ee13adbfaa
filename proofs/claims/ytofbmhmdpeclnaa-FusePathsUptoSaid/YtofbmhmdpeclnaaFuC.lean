/- Statements and expressions as data. -/
import Derived.Test.YtofbmhmdpeclnaaFuB
set_option linter.unusedVariables false
set_option linter.unusedSimpArgs false
namespace Go.Ab
open Go.Proofs

/-- An expression. -/
inductive X where
  | mk (k o t v : Int) (nm : List UInt8) (args : List X)

/-- A statement. -/
inductive Y where
  | mk (k : Int) (nm : List UInt8) (t : Int) (r : X) (outs : List (List UInt8)) (args : List X) (brs : List (List Y))

def ni (n : Int) : D := .int .i64 n

mutual
def X.cells : X → List D
  | .mk k o t v nm args => [ni k, ni o, ni t, ni v, .str nm, .slice (encX args)]
def encX : List X → List (List D)
  | [] => []
  | x :: r => x.cells :: encX r
end

def encN (l : List (List UInt8)) : List (List D) := l.map fun s => [.str s]

mutual
def Y.cells : Y → List D
  | .mk k nm t r outs args brs => [ni k, .str nm, ni t] ++ r.cells ++ [.slice (encN outs), .slice (encX args), .slice (encB brs)]
def encY : List Y → List (List D)
  | [] => []
  | y :: r => y.cells :: encY r
def encB : List (List Y) → List (List D)
  | [] => []
  | b :: r => [.slice (encY b)] :: encB r
end

theorem encX_map : ∀ l : List X, encX l = l.map X.cells
  | [] => by simp [encX]
  | x :: r => by simp [encX, encX_map r]
theorem encY_map : ∀ l : List Y, encY l = l.map Y.cells
  | [] => by simp [encY]
  | x :: r => by simp [encY, encY_map r]
theorem encB_map : ∀ l : List (List Y), encB l = l.map fun b => [.slice (encY b)]
  | [] => by simp [encB]
  | x :: r => by simp [encB, encB_map r]

theorem idx_lt {i n : Nat} (h : i < n) : idx (i : Int) n = some i := by
  unfold idx
  rw [if_pos ⟨by omega, by omega⟩]
  simp

def dY (l : List Y) : V := .d (.slice (encY l))
def dI (n : Int) : V := .d (.int .i64 n)

/-! ### Sizes -/
def szS (s : List UInt8) : Nat := s.length + 1
def szN : List (List UInt8) → Nat
  | [] => 0
  | s :: r => szS s + szN r
mutual
def X.sz : X → Nat
  | .mk _ _ _ _ nm args => szS nm + szX args + 6
def szX : List X → Nat
  | [] => 0
  | x :: r => x.sz + szX r
end
mutual
def Y.sz : Y → Nat
  | .mk _ nm _ r outs args brs => szS nm + r.sz + szN outs + szX args + szB brs + 12
def szY : List Y → Nat
  | [] => 0
  | y :: r => y.sz + szY r
def szB : List (List Y) → Nat
  | [] => 0
  | b :: r => szY b + 1 + szB r
end

theorem len_szY : ∀ l : List Y, l.length ≤ szY l
  | [] => by simp
  | y :: r => by cases y; have := len_szY r; simp [szY, Y.sz]; omega
theorem len_szB : ∀ l : List (List Y), l.length ≤ szB l
  | [] => by simp
  | y :: r => by have := len_szB r; simp [szB]; omega
theorem len_szX : ∀ l : List X, l.length ≤ szX l
  | [] => by simp
  | y :: r => by cases y; have := len_szX r; simp [szX, X.sz]; omega
theorem len_szN : ∀ l : List (List UInt8), l.length ≤ szN l
  | [] => by simp
  | y :: r => by have := len_szN r; simp [szN, szS]; omega
theorem mem_szY : ∀ {l : List Y} {y : Y}, y ∈ l → y.sz ≤ szY l
  | y :: r, z, h => by
    simp only [List.mem_cons] at h
    simp only [szY]
    rcases h with rfl | h
    · omega
    · have := mem_szY h; omega
theorem mem_szB : ∀ {l : List (List Y)} {b : List Y}, b ∈ l → szY b < szB l
  | y :: r, z, h => by
    simp only [List.mem_cons] at h
    simp only [szB]
    rcases h with rfl | h
    · omega
    · have := mem_szB h; omega
theorem mem_szX : ∀ {l : List X} {y : X}, y ∈ l → y.sz ≤ szX l
  | y :: r, z, h => by
    simp only [List.mem_cons] at h
    simp only [szX]
    rcases h with rfl | h
    · omega
    · have := mem_szX h; omega

/-- The bound that all data keep to. -/
def MX : Nat := 4611686018427387904

theorem wrap_id {n : Int} (h : -9223372036854775808 ≤ n) (h' : n ≤ 9223372036854775807) : IntKind.i64.wrap n = n := by
  simp [IntKind.wrap, IntKind.signed, IntKind.bits]
  omega

theorem encY_get {l : List Y} {i : Nat} (h : i < l.length) : (encY l)[i]? = some (l[i]).cells := by rw [encY_map]; simp [h]
theorem encB_get {l : List (List Y)} {i : Nat} (h : i < l.length) : (encB l)[i]? = some [.slice (encY l[i])] := by rw [encB_map]; simp [h]
theorem encX_get {l : List X} {i : Nat} (h : i < l.length) : (encX l)[i]? = some (l[i]).cells := by rw [encX_map]; simp [h]
theorem encY_len (l : List Y) : (encY l).length = l.length := by rw [encY_map]; simp
theorem encB_len (l : List (List Y)) : (encB l).length = l.length := by rw [encB_map]; simp
theorem encX_len (l : List X) : (encX l).length = l.length := by rw [encX_map]; simp

end Go.Ab
