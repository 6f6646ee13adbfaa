/- The table of operations, as the row lists it. -/
import Derived.Test.YtofhhkkncaoneaaDoorAcBM
import Derived.Test.YtofhhkkncaoneaaDoorAcDM
import Derived.Test.YtofhhkkncaoneaaDoorAcGM
import Derived.Test.YtofhhkkncaoneaaDoorAcJM
import Derived.Test.YtofhhkkncaoneaaDoorAcMM
import Derived.Test.YtofhhkkncaoneaaDoorAcSM
import Derived.Test.YtofhhkkncaoneaaDoorAcXM
import Derived.Test.YtofhhkkncaoneaaDoorAcUcM
import Derived.Test.YtofhhkkncaoneaaDoorAcThM
import Derived.Test.YtofhhkkncaoneaaDoorCpBM
import Derived.Test.YtofhhkkncaoneaaDoorCrR
import Derived.WalkKit
import Derived.ProofKit
import Derived.OpenShut
import Derived.JoinedCond
import Derived.Below
import Derived.Deep.DeepHandedRow
import Derived.Lib.LaidTab
import Derived.Calls
import Derived.Orders
import Derived.Laws.World
import Derived.Laws.Sem
import Derived.Laws.Cells
import Derived.Laws.Append
import GoSem.ClaimData
import Derived.Laws.Tables
import Derived.Laws.Slices
import Derived.Laws.Strings
import Derived.Laws.Small
import Derived.KernelRfl
import Derived.Test.YtofhhkkncaoneaaDoorChecked
import Derived.Test.YtofhhkkncaoneaaDoorRows
import Derived.Deep.Slices
import Derived.ChangeArms
import Derived.RowKit3
import Derived.ReadAgain
import Derived.ChangeStays
set_option linter.unusedVariables false
set_option linter.unusedSimpArgs false
set_option maxRecDepth 4000
set_option linter.unusedSimpArgs false
set_option linter.unusedVariables false
namespace Go.Ac
open Go.Proofs Go.ChangeShapes Go.WideShapes Go.RowKit

section
variable {H : Type} {enc : TypeId × Value → H} {w : World} {sp : Nat → Bool} {held : Bool}
theorem c86 : Tryd.prog.cellsOf 86 = 4 := by kernel_rfl
theorem c88 : Tryd.prog.cellsOf 88 = 6 := by kernel_rfl
theorem c100 : Tryd.prog.cellsOf 100 = 66 := by kernel_rfl
theorem RDs.chunks (sz : Nat) : ∀ (rows : List (List D)) (cs : List Value), cs.length = rows.length * sz → (∀ (i : Nat) r, rows[i]? = some r → RDs w r ((cs.drop (i * sz)).take sz)) → RDs w rows.flatten cs
  | [], cs, hl, _ => by
    have : cs = [] := List.eq_nil_of_length_eq_zero (by simpa using hl)
    subst this
    exact ⟨rfl, fun j d v h _ => by simp at h⟩
  | r :: rows, cs, hl, h => by
    have h0 := h 0 r rfl
    rw [Nat.zero_mul, List.drop_zero] at h0
    have hlen : cs.length = rows.length * sz + sz := by rw [hl, List.length_cons, Nat.add_mul, Nat.one_mul]
    have ih := RDs.chunks sz rows (cs.drop sz) (by rw [List.length_drop]; omega) fun i q hq => by
      have := h (i + 1) q (by simpa using hq)
      rw [List.drop_drop]
      rwa [Nat.add_mul, Nat.one_mul, Nat.add_comm] at this
    have := RDs.app h0 ih
    rwa [List.take_append_drop] at this
/-- One operation's row. -/
theorem row88 {f : Nat} {cs : List Value} {x : DataW H × List MemPlace} (h : DataW.trod enc Tryd.prog w 0 sp held f 88 cs = some x) {s : List UInt8} {a b c d n : Int} (hx : x.1 = .agg [.lit (.string s), .agg [.lit (.int .i64 a), .lit (.int .i64 b), .lit (.int .i64 c), .lit (.int .i64 d)], .lit (.int .i64 n)]) :
    RDs w [.str s, .int .i64 a, .int .i64 b, .int .i64 c, .int .i64 d, .int .i64 n] cs := by
  obtain ⟨ys, m, rfl, rfl, hl, hyl, hy⟩ := DataW.trod_struct Tryd.underlying88 h
  rw [c88] at hl
  match cs, hl with
  | [v0, v1, v2, v3, v4, v5], _ =>
  have hy3 : ys.length = 3 := hyl
  match ys, hy3 with
  | [y0, y1, y2], _ =>
  have h0 := hy 0 _ rfl
  have h1 := hy 1 _ rfl
  have h2 := hy 2 _ rfl
  simp [cz3, c9, c86] at h0 h1 h2
  obtain ⟨s0, e0, rfl, _⟩ := DataW.trod_string Tryd.underlying9 h0
  obtain ⟨n2, e2, rfl, _⟩ := DataW.trod_int Tryd.underlying3 h2
  obtain ⟨xs, m1, rfl, rfl, hl1, hxl, hx1⟩ := DataW.trod_array Tryd.underlying86 h1
  match xs, hxl with
  | [x0, x1, x2, x3], _ =>
  have g0 := hx1 0 (by omega)
  have g1 := hx1 1 (by omega)
  have g2 := hx1 2 (by omega)
  have g3 := hx1 3 (by omega)
  simp [cz3] at g0 g1 g2 g3
  obtain ⟨m0, q0, rfl, _⟩ := DataW.trod_int Tryd.underlying3 g0
  obtain ⟨m1', q1, rfl, _⟩ := DataW.trod_int Tryd.underlying3 g1
  obtain ⟨m2, q2, rfl, _⟩ := DataW.trod_int Tryd.underlying3 g2
  obtain ⟨m3, q3, rfl, _⟩ := DataW.trod_int Tryd.underlying3 g3
  simp only [List.cons.injEq, and_true] at e0 e2 q0 q1 q2 q3
  subst e0 e2 q0 q1 q2 q3
  simp at hx
  obtain ⟨rfl, ⟨rfl, rfl, rfl, rfl⟩, rfl⟩ := hx
  exact RDs.app (d1 := [_]) (v1 := [_]) (.one (.str _ _ (by simp))) (RDs.app (d1 := [_]) (v1 := [_]) (.one (.int _ _)) (RDs.app (d1 := [_]) (v1 := [_]) (.one (.int _ _)) (RDs.app (d1 := [_]) (v1 := [_]) (.one (.int _ _)) (RDs.app (d1 := [_]) (v1 := [_]) (.one (.int _ _)) (.one (.int _ _))))))
def rowD (p : List UInt8 × Int × Int × Int × Int × Int) : List D := [.str p.1, .int .i64 p.2.1, .int .i64 p.2.2.1, .int .i64 p.2.2.2.1, .int .i64 p.2.2.2.2.1, .int .i64 p.2.2.2.2.2]
def rowW (p : List UInt8 × Int × Int × Int × Int × Int) : DataW H := .agg [.lit (.string p.1), .agg [.lit (.int .i64 p.2.1), .lit (.int .i64 p.2.2.1), .lit (.int .i64 p.2.2.2.1), .lit (.int .i64 p.2.2.2.2.1)], .lit (.int .i64 p.2.2.2.2.2)]
def opsL : List (List UInt8 × Int × Int × Int × Int × Int) := [([], 0, 0, 0, 0, 0), ([108, 111, 97, 100], 1, 3, 0, 0, 0), ([109, 111, 118, 101], 1, 1, 0, 0, 0), ([114, 101, 97, 100], 1, 2, 0, 0, 0), ([119, 114, 105, 116, 101], 2, 1, 0, 0, 0), ([117, 110, 97, 114, 121], 1, 1, 5, 0, 1), ([97, 112, 112, 108, 121], 1, 1, 1, 5, 2), ([106, 117, 109, 112], 0, 4, 0, 0, 0), ([122, 101, 114, 111], 1, 4, 0, 0, 0), ([99, 97, 108, 108], 6, 7, 8, 9, 0), ([114, 101, 115, 101, 116], 6, 7, 0, 0, 0)]
theorem ops_rows : opsTab = (opsL.map rowD).flatten := by rfl
theorem laid_rows : (Go.Proofs.YtofhhkkncaoneaaDoor.Rows.laid_synchrony_asm_operations : DataW H) = .agg (opsL.map rowW) := by rfl
theorem tab_cells {f : Nat} {cs : List Value} {p : List MemPlace} (h : DataW.trod enc Tryd.prog w 0 sp held f 100 cs = some (Go.Proofs.YtofhhkkncaoneaaDoor.Rows.laid_synchrony_asm_operations, p)) : RDs w opsTab cs := by
  obtain ⟨xs, m, rfl, hx, hl, hxl, hi⟩ := DataW.trod_array Tryd.underlying100 h
  rw [laid_rows] at hx
  have hx1 : opsL.map rowW = xs.map (·.1) := by
    have := congrArg Prod.fst hx
    simpa using this
  rw [ops_rows]
  refine RDs.chunks 6 _ cs (by rw [hl, c100]; rfl) fun i r hr => ?_
  rw [List.getElem?_map, Option.map_eq_some_iff] at hr
  obtain ⟨q, hq, rfl⟩ := hr
  have hi11 : i < 11 := (List.getElem?_eq_some_iff.1 hq).1
  have h1 := hi i hi11
  rw [c88] at h1
  have h2 : (xs.map (·.1))[i]? = some (rowW q) := by rw [← hx1, List.getElem?_map, hq]; rfl
  rw [List.getElem?_map, Option.map_eq_some_iff] at h2
  obtain ⟨y, hy, hy2⟩ := h2
  rw [hy] at h1
  exact row88 h1 hy2
end
theorem gTab : Tryd.prog.globalNamed "synchrony/asm.operations" = some 0 := by kernel_rfl
theorem gTabType : (Tryd.prog.globals[0]?).map (·.type) = some 100 := by kernel_rfl
/-- What the row's list gives. -/
theorem table {W : World} (h : laidMet Tryd.prog [("synchrony/asm.operations", Go.Proofs.YtofhhkkncaoneaaDoor.Rows.laid_synchrony_asm_operations)] W) : ∃ cs : List Value, RDs W opsTab cs ∧ ∀ i, W.cell? ⟨0, i, none⟩ = cs[i]? := by
  obtain ⟨ps, ⟨g', t', cs, fuel, p, q, hg', ht', hvar, hd, _, _⟩, _⟩ := h
  obtain rfl := Option.some.inj (gTab.symm.trans hg')
  obtain rfl := Option.some.inj (gTabType.symm.trans ht')
  refine ⟨cs.toList, tab_cells hd, fun i => ?_⟩
  rw [World.var?_cell hg' hvar i]
  simp
end Go.Ac
