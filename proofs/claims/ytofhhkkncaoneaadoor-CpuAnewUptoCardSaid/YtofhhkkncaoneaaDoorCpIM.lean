/- The check's small functions. -/
import Derived.Test.YtofhhkkncaoneaaDoorAcBM
import Derived.Test.YtofhhkkncaoneaaDoorAcDM
import Derived.Test.YtofhhkkncaoneaaDoorAcGM
import Derived.Test.YtofhhkkncaoneaaDoorAcJM
import Derived.Test.YtofhhkkncaoneaaDoorAcMM
import Derived.Test.YtofhhkkncaoneaaDoorAcSM
import Derived.Test.YtofhhkkncaoneaaDoorAcXM
import Derived.Test.YtofhhkkncaoneaaDoorAcUcM
import Derived.Test.YtofhhkkncaoneaaDoorCpBM
import Derived.Test.YtofhhkkncaoneaaDoorCpDM
import Derived.Test.YtofhhkkncaoneaaDoorCpE
import Derived.Calls
import Derived.Orders
import Derived.Laws.World
import Derived.Laws.Sem
import Derived.Laws.Cells
import Derived.Laws.Append
import GoSem.ClaimData
import Derived.Laws.Tables
import Derived.Laws.Slices
import Derived.Laws.Strings
import Derived.Laws.Small
import Derived.Test.YtofhhkkncaoneaaDoorChecked
import Derived.KernelRfl
set_option linter.unusedVariables false
set_option linter.unusedSimpArgs false
section
set_option maxRecDepth 4000
set_option linter.unusedSimpArgs false
set_option linter.unusedVariables false
namespace Go.Ac
open Go.Proofs

/-- May a value be an operand? -/
def okA (k v : Int) : Bool := if k = 1 then decide (v = 0) || decide (v = 1) else if k = 3 then true else decide (-32768 ≤ v) && decide (v ≤ 32767)
def okL (op : Int) (l : List Int) : Bool := l.all (okA (opK op))
def apV (op : Int) (l : List Int) : Int × Int := if okL op l then (resI op (l.getD 0 0) (l.getD (l.length - 1) 0), 0) else (0, 14)

theorem int_bne (a b : Int) : (a != b) = !decide (a = b) := by
  by_cases h : a = b <;> simp [h]
theorem all_take_succ {α : Type} {p : α → Bool} {l : List α} {i : Nat} {x : α} (h : l[i]? = some x) : (l.take (i + 1)).all p = ((l.take i).all p && p x) := by
  have : l.take (i + 1) = l.take i ++ [x] := by
    rw [List.take_add_one, h]; rfl
  rw [this, List.all_append]; simp
theorem not_all {α : Type} {p : α → Bool} {l : List α} {x : α} (hm : x ∈ l) (hx : p x = false) : l.all p = false := by
  rw [List.all_eq_false]; exact ⟨x, hm, by simp [hx]⟩

set_option maxHeartbeats 4000000 in
theorem apply_den (op : Int) (hop : IsOp op) (l : List Int) (hl : l.length = ar op) : den Tryd.prog Cp.cfg 70 [dI op, dL l] = some (.tuple [dI (apV op l).1, dI (apV op l).2]) := by
  have hg := group_den hop
  have har : ar op = 1 ∨ ar op = 2 := by unfold ar; split <;> simp
  have hk0 : ¬ opK op = 0 := by rcases opK_cases op with h | h | h | h <;> omega
  have hin := in_den
  simp only [dI, dB] at hg hin
  refine den_wp Tryd.func70 rfl (by kernel_rfl) rfl rfl ?_
  have hk0' : (opK op == 0) = false := by simp [hk0]
  repeat (first
    | apply WP.seq
    | (apply WP.reg
       case hR => dsimp only [prepL, prepO, List.map, List.getElem?_cons_succ, List.getElem?_cons_zero]; exact Is.rfl
       case hr =>
         repeat (first
           | (apply RT.op (h := by simp [dI, dL, hg, hk0']; exact Is.rfl) (he := by (try dsimp only [putEnv]) <;> exact rfl))
           | (apply RT.call (hg := by simp; exact Is.rfl) (hfo := by simp; exact Is.rfl) (hpr := by exact Is.rfl) (hvs := by simp [dI, dL, hg, hk0']; exact Is.rfl) (hcl := by simp [dI, dL, hg, hk0']; exact Is.rfl) (hd := by simp [dI, dL, hg, hk0']; exact Is.rfl) (hwr := by simp [dI, dL, hg, hk0']; exact Is.rfl) (hlt := by simp [Is]) (he := by (try dsimp only [putEnv]) <;> exact rfl) (hh := by simp; exact Is.rfl) (hw := by simp; exact Is.rfl))
           | (apply RT.wr (h := by simp [dI, dL, hg, hk0']; exact Is.rfl) (he := by (try dsimp only [putEnv]) <;> exact rfl) (hh := by simp [dI, dL, hg, hk0']; exact Is.rfl) (hn := by exact Is.rfl) (hc := by exact Is.rfl) (hw := by simp; exact Is.rfl)))
         exact RT.nil
       case hc => (show _ = _; kernel_rfl)
       case ht => simp [dI, dL, hg, hk0']; exact Is.rfl)
    | apply WP.block
    | apply WP.skip
    | apply WP.exit
    | apply WP.ret
    | refine WP.condT rfl ?_
    | refine WP.condF rfl ?_)
  show WP _ _ _ _ _ _
  refine WP.cond _ rfl (fun hb => ?_) (fun hb => ?_)
  · simp [hl] at hb
  clear hb
  repeat (first
    | apply WP.seq
    | (apply WP.reg
       case hR => dsimp only [prepL, prepO, List.map, List.getElem?_cons_succ, List.getElem?_cons_zero]; exact Is.rfl
       case hr =>
         repeat (first
           | (apply RT.op (h := by simp; exact Is.rfl) (he := by (try dsimp only [putEnv]) <;> exact rfl))
           | (apply RT.call (hg := by simp; exact Is.rfl) (hfo := by simp; exact Is.rfl) (hpr := by exact Is.rfl) (hvs := by simp; exact Is.rfl) (hcl := by simp; exact Is.rfl) (hd := by simp; exact Is.rfl) (hwr := by simp; exact Is.rfl) (hlt := by simp [Is]) (he := by (try dsimp only [putEnv]) <;> exact rfl) (hh := by simp; exact Is.rfl) (hw := by simp; exact Is.rfl))
           | (apply RT.wr (h := by simp; exact Is.rfl) (he := by (try dsimp only [putEnv]) <;> exact rfl) (hh := by simp; exact Is.rfl) (hn := by exact Is.rfl) (hc := by exact Is.rfl) (hw := by simp; exact Is.rfl)))
         exact RT.nil
       case hc => (show _ = _; kernel_rfl)
       case ht => simp; exact Is.rfl)
    | apply WP.block
    | apply WP.skip
    | apply WP.exit
    | apply WP.ret)
  apply WP.loop' (I := fun d s => ∃ i : Nat, i + d = l.length ∧ (l.take i).all (okA (opK op)) = true ∧ SE [(0, dI op), (1, dL l), (6, dI (opK op)), (7, dI (ar op)), (25, dL l), (26, dI l.length), (27, dI i)] [] 0 s) (d := l.length)
  · exact ⟨0, by simp, by simp, SE.mk (by simp [dI, dL, hl]) rfl⟩
  rintro d _ ⟨i, hi, hno, c, rfl⟩
  repeat (first
    | apply WP.seq
    | (apply WP.reg
       case hR => dsimp only [prepL, prepO, List.map, List.getElem?_cons_succ, List.getElem?_cons_zero]; exact Is.rfl
       case hr =>
         repeat (first
           | (apply RT.op (h := by simp [dI, dL]; exact Is.rfl) (he := by (try dsimp only [putEnv]) <;> exact rfl))
           | (apply RT.call (hg := by simp; exact Is.rfl) (hfo := by simp; exact Is.rfl) (hpr := by exact Is.rfl) (hvs := by simp [dI, dL]; exact Is.rfl) (hcl := by simp [dI, dL]; exact Is.rfl) (hd := by simp [dI, dL]; exact Is.rfl) (hwr := by simp [dI, dL]; exact Is.rfl) (hlt := by simp [Is]) (he := by (try dsimp only [putEnv]) <;> exact rfl) (hh := by simp; exact Is.rfl) (hw := by simp; exact Is.rfl))
           | (apply RT.wr (h := by simp [dI, dL]; exact Is.rfl) (he := by (try dsimp only [putEnv]) <;> exact rfl) (hh := by simp [dI, dL]; exact Is.rfl) (hn := by exact Is.rfl) (hc := by exact Is.rfl) (hw := by simp; exact Is.rfl)))
         exact RT.nil
       case hc => (show _ = _; kernel_rfl)
       case ht => simp [dI, dL]; exact Is.rfl)
    | apply WP.block
    | apply WP.skip
    | apply WP.exit
    | apply WP.ret)
  show WP _ _ _ _ _ _
  refine WP.cond _ rfl (fun hb => ?_) (fun hb => ?_)
  · simp at hb
    have hb' : i < l.length := hb
    obtain ⟨v, hv, hvm, hix⟩ := at_lt hb'
    have hv' := encI_at hv
    have hw := w_succ hb' (by omega)
    have hts := all_take_succ (p := okA (opK op)) hv
    have good : okA (opK op) v = true → (if okL op l then (resI op (l.getD 0 0) (l.getD (l.length - 1) 0), (0:Int)) else (0, 14)) = apV op l := fun _ => rfl
    have bad : okA (opK op) v = false → apV op l = (0, 14) := fun h => by
      have : okL op l = false := not_all hvm h
      unfold apV; rw [this]; rfl
    repeat (first
      | apply WP.seq
      | (apply WP.reg
         case hR => dsimp only [prepL, prepO, List.map, List.getElem?_cons_succ, List.getElem?_cons_zero]; exact Is.rfl
         case hr =>
           repeat (first
             | (apply RT.op (h := by simp [hix, hv', dL]; exact Is.rfl) (he := by (try dsimp only [putEnv]) <;> exact rfl))
             | (apply RT.call (hg := by simp; exact Is.rfl) (hfo := by simp; exact Is.rfl) (hpr := by exact Is.rfl) (hvs := by simp [hix, hv', dL]; exact Is.rfl) (hcl := by simp [hix, hv', dL]; exact Is.rfl) (hd := by simp [hix, hv', dL]; exact Is.rfl) (hwr := by simp [hix, hv', dL]; exact Is.rfl) (hlt := by simp [Is]) (he := by (try dsimp only [putEnv]) <;> exact rfl) (hh := by simp; exact Is.rfl) (hw := by simp; exact Is.rfl))
             | (apply RT.wr (h := by simp [hix, hv', dL]; exact Is.rfl) (he := by (try dsimp only [putEnv]) <;> exact rfl) (hh := by simp [hix, hv', dL]; exact Is.rfl) (hn := by exact Is.rfl) (hc := by exact Is.rfl) (hw := by simp; exact Is.rfl)))
           exact RT.nil
         case hc => (show _ = _; kernel_rfl)
         case ht => simp [hix, hv', dL]; exact Is.rfl)
      | apply WP.block
      | apply WP.skip
      | apply WP.exit
      | apply WP.ret)
    rcases opK_cases op with hk | hk | hk | hk
    · by_cases h0 : v = 0
      · subst h0
        repeat (first
          | apply WP.seq
          | (apply WP.reg
             case hR => dsimp only [prepL, prepO, List.map, List.getElem?_cons_succ, List.getElem?_cons_zero]; exact Is.rfl
             case hr =>
               repeat (first
                 | (apply RT.op (h := by simp [hk]; exact Is.rfl) (he := by (try dsimp only [putEnv]) <;> exact rfl))
                 | (apply RT.call (hg := by simp; exact Is.rfl) (hfo := by simp; exact Is.rfl) (hpr := by exact Is.rfl) (hvs := by simp [hk]; exact Is.rfl) (hcl := by simp [hk]; exact Is.rfl) (hd := by simp [hk]; exact Is.rfl) (hwr := by simp [hk]; exact Is.rfl) (hlt := by simp [Is]) (he := by (try dsimp only [putEnv]) <;> exact rfl) (hh := by simp; exact Is.rfl) (hw := by simp; exact Is.rfl))
                 | (apply RT.wr (h := by simp [hk]; exact Is.rfl) (he := by (try dsimp only [putEnv]) <;> exact rfl) (hh := by simp [hk]; exact Is.rfl) (hn := by exact Is.rfl) (hc := by exact Is.rfl) (hw := by simp; exact Is.rfl)))
               exact RT.nil
             case hc => (show _ = _; kernel_rfl)
             case ht => simp [hk]; exact Is.rfl)
          | apply WP.block
          | apply WP.skip
          | apply WP.exit
          | apply WP.ret
          | refine WP.condT rfl ?_
          | refine WP.condF rfl ?_)
        refine loop_next (by simp; exact Is.rfl) ?_
        exact ⟨d - 1, by omega, i + 1, by omega, by rw [hts, hno, hk]; rfl, SE.mk (by simp [dI, hw, dL, hk]) rfl⟩
      · by_cases h1 : v = 1
        · subst h1
          repeat (first
            | apply WP.seq
            | (apply WP.reg
               case hR => dsimp only [prepL, prepO, List.map, List.getElem?_cons_succ, List.getElem?_cons_zero]; exact Is.rfl
               case hr =>
                 repeat (first
                   | (apply RT.op (h := by simp [hk]; exact Is.rfl) (he := by (try dsimp only [putEnv]) <;> exact rfl))
                   | (apply RT.call (hg := by simp; exact Is.rfl) (hfo := by simp; exact Is.rfl) (hpr := by exact Is.rfl) (hvs := by simp [hk]; exact Is.rfl) (hcl := by simp [hk]; exact Is.rfl) (hd := by simp [hk]; exact Is.rfl) (hwr := by simp [hk]; exact Is.rfl) (hlt := by simp [Is]) (he := by (try dsimp only [putEnv]) <;> exact rfl) (hh := by simp; exact Is.rfl) (hw := by simp; exact Is.rfl))
                   | (apply RT.wr (h := by simp [hk]; exact Is.rfl) (he := by (try dsimp only [putEnv]) <;> exact rfl) (hh := by simp [hk]; exact Is.rfl) (hn := by exact Is.rfl) (hc := by exact Is.rfl) (hw := by simp; exact Is.rfl)))
                 exact RT.nil
               case hc => (show _ = _; kernel_rfl)
               case ht => simp [hk]; exact Is.rfl)
            | apply WP.block
            | apply WP.skip
            | apply WP.exit
            | apply WP.ret
            | refine WP.condT rfl ?_
            | refine WP.condF rfl ?_)
          refine loop_next (by simp; exact Is.rfl) ?_
          exact ⟨d - 1, by omega, i + 1, by omega, by rw [hts, hno, hk]; rfl, SE.mk (by simp [dI, hw, dL, hk]) rfl⟩
        · repeat (first
            | apply WP.seq
            | (apply WP.reg
               case hR => dsimp only [prepL, prepO, List.map, List.getElem?_cons_succ, List.getElem?_cons_zero]; exact Is.rfl
               case hr =>
                 repeat (first
                   | (apply RT.op (h := by simp [hk, h0, h1, int_bne]; exact Is.rfl) (he := by (try dsimp only [putEnv]) <;> exact rfl))
                   | (apply RT.call (hg := by simp; exact Is.rfl) (hfo := by simp; exact Is.rfl) (hpr := by exact Is.rfl) (hvs := by simp [hk, h0, h1, int_bne]; exact Is.rfl) (hcl := by simp [hk, h0, h1, int_bne]; exact Is.rfl) (hd := by simp [hk, h0, h1, int_bne]; exact Is.rfl) (hwr := by simp [hk, h0, h1, int_bne]; exact Is.rfl) (hlt := by simp [Is]) (he := by (try dsimp only [putEnv]) <;> exact rfl) (hh := by simp; exact Is.rfl) (hw := by simp; exact Is.rfl))
                   | (apply RT.wr (h := by simp [hk, h0, h1, int_bne]; exact Is.rfl) (he := by (try dsimp only [putEnv]) <;> exact rfl) (hh := by simp [hk, h0, h1, int_bne]; exact Is.rfl) (hn := by exact Is.rfl) (hc := by exact Is.rfl) (hw := by simp; exact Is.rfl)))
                 exact RT.nil
               case hc => (show _ = _; kernel_rfl)
               case ht => simp [hk, h0, h1, int_bne]; exact Is.rfl)
            | apply WP.block
            | apply WP.skip
            | apply WP.exit
            | apply WP.ret
            | refine WP.condT rfl ?_
            | refine WP.condF rfl ?_)
          rw [bad (by rw [hk]; simp [okA, h0, h1])]
          show retQ _ _ _ _ _
          exact ⟨.inr rfl, _, _, rfl, rfl⟩
    · cases hr : (decide (-32768 ≤ v) && decide (v ≤ 32767)) with
      | true =>
        have hin' := hin v
        rw [hr] at hin'
        repeat (first
          | apply WP.seq
          | (apply WP.reg
             case hR => dsimp only [prepL, prepO, List.map, List.getElem?_cons_succ, List.getElem?_cons_zero]; exact Is.rfl
             case hr =>
               repeat (first
                 | (apply RT.op (h := by simp [hk, hin']; exact Is.rfl) (he := by (try dsimp only [putEnv]) <;> exact rfl))
                 | (apply RT.call (hg := by simp; exact Is.rfl) (hfo := by simp; exact Is.rfl) (hpr := by exact Is.rfl) (hvs := by simp [hk, hin']; exact Is.rfl) (hcl := by simp [hk, hin']; exact Is.rfl) (hd := by simp [hk, hin']; exact Is.rfl) (hwr := by simp [hk, hin']; exact Is.rfl) (hlt := by simp [Is]) (he := by (try dsimp only [putEnv]) <;> exact rfl) (hh := by simp; exact Is.rfl) (hw := by simp; exact Is.rfl))
                 | (apply RT.wr (h := by simp [hk, hin']; exact Is.rfl) (he := by (try dsimp only [putEnv]) <;> exact rfl) (hh := by simp [hk, hin']; exact Is.rfl) (hn := by exact Is.rfl) (hc := by exact Is.rfl) (hw := by simp; exact Is.rfl)))
               exact RT.nil
             case hc => (show _ = _; kernel_rfl)
             case ht => simp [hk, hin']; exact Is.rfl)
          | apply WP.block
          | apply WP.skip
          | apply WP.exit
          | apply WP.ret
          | refine WP.condT rfl ?_
          | refine WP.condF rfl ?_)
        refine loop_next (by simp; exact Is.rfl) ?_
        exact ⟨d - 1, by omega, i + 1, by omega, by rw [hts, hno, hk]; simp [okA]; simpa using hr, SE.mk (by simp [dI, hw, dL, hk]) rfl⟩
      | false =>
        have hin' := hin v
        rw [hr] at hin'
        repeat (first
          | apply WP.seq
          | (apply WP.reg
             case hR => dsimp only [prepL, prepO, List.map, List.getElem?_cons_succ, List.getElem?_cons_zero]; exact Is.rfl
             case hr =>
               repeat (first
                 | (apply RT.op (h := by simp [hk, hin']; exact Is.rfl) (he := by (try dsimp only [putEnv]) <;> exact rfl))
                 | (apply RT.call (hg := by simp; exact Is.rfl) (hfo := by simp; exact Is.rfl) (hpr := by exact Is.rfl) (hvs := by simp [hk, hin']; exact Is.rfl) (hcl := by simp [hk, hin']; exact Is.rfl) (hd := by simp [hk, hin']; exact Is.rfl) (hwr := by simp [hk, hin']; exact Is.rfl) (hlt := by simp [Is]) (he := by (try dsimp only [putEnv]) <;> exact rfl) (hh := by simp; exact Is.rfl) (hw := by simp; exact Is.rfl))
                 | (apply RT.wr (h := by simp [hk, hin']; exact Is.rfl) (he := by (try dsimp only [putEnv]) <;> exact rfl) (hh := by simp [hk, hin']; exact Is.rfl) (hn := by exact Is.rfl) (hc := by exact Is.rfl) (hw := by simp; exact Is.rfl)))
               exact RT.nil
             case hc => (show _ = _; kernel_rfl)
             case ht => simp [hk, hin']; exact Is.rfl)
          | apply WP.block
          | apply WP.skip
          | apply WP.exit
          | apply WP.ret
          | refine WP.condT rfl ?_
          | refine WP.condF rfl ?_)
        rw [bad (by rw [hk]; simp only [okA]; simpa using hr)]
        show retQ _ _ _ _ _
        exact ⟨.inr rfl, _, _, rfl, rfl⟩
    · repeat (first
        | apply WP.seq
        | (apply WP.reg
           case hR => dsimp only [prepL, prepO, List.map, List.getElem?_cons_succ, List.getElem?_cons_zero]; exact Is.rfl
           case hr =>
             repeat (first
               | (apply RT.op (h := by simp [hk]; exact Is.rfl) (he := by (try dsimp only [putEnv]) <;> exact rfl))
               | (apply RT.call (hg := by simp; exact Is.rfl) (hfo := by simp; exact Is.rfl) (hpr := by exact Is.rfl) (hvs := by simp [hk]; exact Is.rfl) (hcl := by simp [hk]; exact Is.rfl) (hd := by simp [hk]; exact Is.rfl) (hwr := by simp [hk]; exact Is.rfl) (hlt := by simp [Is]) (he := by (try dsimp only [putEnv]) <;> exact rfl) (hh := by simp; exact Is.rfl) (hw := by simp; exact Is.rfl))
               | (apply RT.wr (h := by simp [hk]; exact Is.rfl) (he := by (try dsimp only [putEnv]) <;> exact rfl) (hh := by simp [hk]; exact Is.rfl) (hn := by exact Is.rfl) (hc := by exact Is.rfl) (hw := by simp; exact Is.rfl)))
             exact RT.nil
           case hc => (show _ = _; kernel_rfl)
           case ht => simp [hk]; exact Is.rfl)
        | apply WP.block
        | apply WP.skip
        | apply WP.exit
        | apply WP.ret
        | refine WP.condT rfl ?_
        | refine WP.condF rfl ?_)
      refine loop_next (by simp; exact Is.rfl) ?_
      exact ⟨d - 1, by omega, i + 1, by omega, by rw [hts, hno, hk]; rfl, SE.mk (by simp [dI, hw, dL, hk]) rfl⟩
    · cases hr : (decide (-32768 ≤ v) && decide (v ≤ 32767)) with
      | true =>
        have hin' := hin v
        rw [hr] at hin'
        repeat (first
          | apply WP.seq
          | (apply WP.reg
             case hR => dsimp only [prepL, prepO, List.map, List.getElem?_cons_succ, List.getElem?_cons_zero]; exact Is.rfl
             case hr =>
               repeat (first
                 | (apply RT.op (h := by simp [hk, hin']; exact Is.rfl) (he := by (try dsimp only [putEnv]) <;> exact rfl))
                 | (apply RT.call (hg := by simp; exact Is.rfl) (hfo := by simp; exact Is.rfl) (hpr := by exact Is.rfl) (hvs := by simp [hk, hin']; exact Is.rfl) (hcl := by simp [hk, hin']; exact Is.rfl) (hd := by simp [hk, hin']; exact Is.rfl) (hwr := by simp [hk, hin']; exact Is.rfl) (hlt := by simp [Is]) (he := by (try dsimp only [putEnv]) <;> exact rfl) (hh := by simp; exact Is.rfl) (hw := by simp; exact Is.rfl))
                 | (apply RT.wr (h := by simp [hk, hin']; exact Is.rfl) (he := by (try dsimp only [putEnv]) <;> exact rfl) (hh := by simp [hk, hin']; exact Is.rfl) (hn := by exact Is.rfl) (hc := by exact Is.rfl) (hw := by simp; exact Is.rfl)))
               exact RT.nil
             case hc => (show _ = _; kernel_rfl)
             case ht => simp [hk, hin']; exact Is.rfl)
          | apply WP.block
          | apply WP.skip
          | apply WP.exit
          | apply WP.ret
          | refine WP.condT rfl ?_
          | refine WP.condF rfl ?_)
        refine loop_next (by simp; exact Is.rfl) ?_
        exact ⟨d - 1, by omega, i + 1, by omega, by rw [hts, hno, hk]; simp [okA]; simpa using hr, SE.mk (by simp [dI, hw, dL, hk]) rfl⟩
      | false =>
        have hin' := hin v
        rw [hr] at hin'
        repeat (first
          | apply WP.seq
          | (apply WP.reg
             case hR => dsimp only [prepL, prepO, List.map, List.getElem?_cons_succ, List.getElem?_cons_zero]; exact Is.rfl
             case hr =>
               repeat (first
                 | (apply RT.op (h := by simp [hk, hin']; exact Is.rfl) (he := by (try dsimp only [putEnv]) <;> exact rfl))
                 | (apply RT.call (hg := by simp; exact Is.rfl) (hfo := by simp; exact Is.rfl) (hpr := by exact Is.rfl) (hvs := by simp [hk, hin']; exact Is.rfl) (hcl := by simp [hk, hin']; exact Is.rfl) (hd := by simp [hk, hin']; exact Is.rfl) (hwr := by simp [hk, hin']; exact Is.rfl) (hlt := by simp [Is]) (he := by (try dsimp only [putEnv]) <;> exact rfl) (hh := by simp; exact Is.rfl) (hw := by simp; exact Is.rfl))
                 | (apply RT.wr (h := by simp [hk, hin']; exact Is.rfl) (he := by (try dsimp only [putEnv]) <;> exact rfl) (hh := by simp [hk, hin']; exact Is.rfl) (hn := by exact Is.rfl) (hc := by exact Is.rfl) (hw := by simp; exact Is.rfl)))
               exact RT.nil
             case hc => (show _ = _; kernel_rfl)
             case ht => simp [hk, hin']; exact Is.rfl)
          | apply WP.block
          | apply WP.skip
          | apply WP.exit
          | apply WP.ret
          | refine WP.condT rfl ?_
          | refine WP.condF rfl ?_)
        rw [bad (by rw [hk]; simp only [okA]; simpa using hr)]
        show retQ _ _ _ _ _
        exact ⟨.inr rfl, _, _, rfl, rfl⟩
  · simp at hb
    have hil : i = l.length := by omega
    have hall : okL op l = true := by unfold okL; rw [← hno, hil, List.take_length]
    obtain ⟨x, hx⟩ : ∃ x, l[0]? = some x := ⟨l[0]'(by omega), by simp⟩
    obtain ⟨y, hy⟩ : ∃ y, l[l.length - 1]? = some y := ⟨l[l.length - 1]'(by omega), by simp⟩
    have hx' := encI_at hx
    have hy' := encI_at hy
    have hres : apV op l = (resI op x y, 0) := by
      unfold apV; rw [hall]; simp [List.getD, hx, hy]
    rw [hres]
    have i0 : idx 0 (ar op) = some 0 := by have := idx_lt (i := 0) (n := ar op) (by omega); simpa using this
    have i1 : idx ((ar op : Int) - 1) (ar op) = some (ar op - 1) := by
      have := idx_lt (i := ar op - 1) (n := ar op) (by omega)
      rwa [show ((ar op - 1 : Nat) : Int) = (ar op : Int) - 1 by omega] at this
    have w1 : IntKind.i64.wrap ((ar op : Int) - 1) = (ar op : Int) - 1 := by rw [w_id'] <;> omega
    rw [hl] at hy'
    repeat (first
      | apply WP.seq
      | (apply WP.reg
         case hR => dsimp only [prepL, prepO, List.map, List.getElem?_cons_succ, List.getElem?_cons_zero]; exact Is.rfl
         case hr =>
           repeat (first
             | (apply RT.op (h := by simp [dL, hl, i0, i1, w1, hx', hy']; exact Is.rfl) (he := by (try dsimp only [putEnv]) <;> exact rfl))
             | (apply RT.call (hg := by simp; exact Is.rfl) (hfo := by simp; exact Is.rfl) (hpr := by exact Is.rfl) (hvs := by simp [dL, hl, i0, i1, w1, hx', hy']; exact Is.rfl) (hcl := by simp [dL, hl, i0, i1, w1, hx', hy']; exact Is.rfl) (hd := by simp [dL, hl, i0, i1, w1, hx', hy']; exact Is.rfl) (hwr := by simp [dL, hl, i0, i1, w1, hx', hy']; exact Is.rfl) (hlt := by simp [Is]) (he := by (try dsimp only [putEnv]) <;> exact rfl) (hh := by simp; exact Is.rfl) (hw := by simp; exact Is.rfl))
             | (apply RT.wr (h := by simp [dL, hl, i0, i1, w1, hx', hy']; exact Is.rfl) (he := by (try dsimp only [putEnv]) <;> exact rfl) (hh := by simp [dL, hl, i0, i1, w1, hx', hy']; exact Is.rfl) (hn := by exact Is.rfl) (hc := by exact Is.rfl) (hw := by simp; exact Is.rfl)))
           exact RT.nil
         case hc => (show _ = _; kernel_rfl)
         case ht => simp [dL, hl, i0, i1, w1, hx', hy']; exact Is.rfl)
      | apply WP.block
      | apply WP.skip
      | apply WP.exit
      | apply WP.ret)
    show WP _ _ _ _ _ _
    refine WP.cond _ rfl (fun hb => ?_) (fun hb => ?_)
    · have hk : opK op = 2 := by simpa using hb
      have hc := compute_den op x y hk
      simp only [dI] at hc
      repeat (first
        | apply WP.seq
        | (apply WP.reg
           case hR => dsimp only [prepL, prepO, List.map, List.getElem?_cons_succ, List.getElem?_cons_zero]; exact Is.rfl
           case hr =>
             repeat (first
               | (apply RT.op (h := by simp [hc]; exact Is.rfl) (he := by (try dsimp only [putEnv]) <;> exact rfl))
               | (apply RT.call (hg := by simp; exact Is.rfl) (hfo := by simp; exact Is.rfl) (hpr := by exact Is.rfl) (hvs := by simp [hc]; exact Is.rfl) (hcl := by simp [hc]; exact Is.rfl) (hd := by simp [hc]; exact Is.rfl) (hwr := by simp [hc]; exact Is.rfl) (hlt := by simp [Is]) (he := by (try dsimp only [putEnv]) <;> exact rfl) (hh := by simp; exact Is.rfl) (hw := by simp; exact Is.rfl))
               | (apply RT.wr (h := by simp [hc]; exact Is.rfl) (he := by (try dsimp only [putEnv]) <;> exact rfl) (hh := by simp [hc]; exact Is.rfl) (hn := by exact Is.rfl) (hc := by exact Is.rfl) (hw := by simp; exact Is.rfl)))
             exact RT.nil
           case hc => (show _ = _; kernel_rfl)
           case ht => simp [hc]; exact Is.rfl)
        | apply WP.block
        | apply WP.skip
        | apply WP.exit
        | apply WP.ret
        | refine WP.condT rfl ?_
        | refine WP.condF rfl ?_)
      show retQ _ _ _ _ _
      exact ⟨.inr rfl, _, _, rfl, by simp only [resI, if_pos hk]; rfl⟩
    · have hk : ¬ opK op = 2 := by simpa using hb
      have hh := holds_den op x y hop hk
      have ht := truth_den (hldI op x y)
      simp only [dI, dB] at hh ht
      repeat (first
        | apply WP.seq
        | (apply WP.reg
           case hR => dsimp only [prepL, prepO, List.map, List.getElem?_cons_succ, List.getElem?_cons_zero]; exact Is.rfl
           case hr =>
             repeat (first
               | (apply RT.op (h := by simp [hh, ht]; exact Is.rfl) (he := by (try dsimp only [putEnv]) <;> exact rfl))
               | (apply RT.call (hg := by simp; exact Is.rfl) (hfo := by simp; exact Is.rfl) (hpr := by exact Is.rfl) (hvs := by simp [hh, ht]; exact Is.rfl) (hcl := by simp [hh, ht]; exact Is.rfl) (hd := by simp [hh, ht]; exact Is.rfl) (hwr := by simp [hh, ht]; exact Is.rfl) (hlt := by simp [Is]) (he := by (try dsimp only [putEnv]) <;> exact rfl) (hh := by simp; exact Is.rfl) (hw := by simp; exact Is.rfl))
               | (apply RT.wr (h := by simp [hh, ht]; exact Is.rfl) (he := by (try dsimp only [putEnv]) <;> exact rfl) (hh := by simp [hh, ht]; exact Is.rfl) (hn := by exact Is.rfl) (hc := by exact Is.rfl) (hw := by simp; exact Is.rfl)))
             exact RT.nil
           case hc => (show _ = _; kernel_rfl)
           case ht => simp [hh, ht]; exact Is.rfl)
        | apply WP.block
        | apply WP.skip
        | apply WP.exit
        | apply WP.ret
        | refine WP.condT rfl ?_
        | refine WP.condF rfl ?_)
      show retQ _ _ _ _ _
      exact ⟨.inr rfl, _, _, rfl, by simp only [resI, if_neg hk]; rfl⟩
end Go.Ac
end

section
set_option maxRecDepth 4000
set_option linter.unusedSimpArgs false
set_option linter.unusedVariables false
namespace Go.Ac
open Go.Proofs

theorem int_beq (a b : Int) : (a == b) = decide (a = b) := by
  by_cases h : a = b <;> simp [h]

/-- The machine's operator. -/
def apR (op : Int) (l : List Int) : Int := (apV op l).1
theorem mapply_den (op : Int) (hop : IsOp op) (l : List Int) (hl : l.length = ar op) : den Tryd.prog Cp.cfg 55 [dI op, dL l] = some (dI (apR op l)) := by
  have h := apply_den op hop l hl
  refine den_wp Tryd.func55 rfl (by kernel_rfl) rfl rfl ?_
  simp only [dI, dL] at h
  repeat (first
    | apply WP.seq
    | (apply WP.reg
       case hR => dsimp only [prepL, prepO, List.map, List.getElem?_cons_succ, List.getElem?_cons_zero]; exact Is.rfl
       case hr =>
         repeat (first
           | (apply RT.op (h := by simp [dI, dL, h]; exact Is.rfl) (he := by (try dsimp only [putEnv]) <;> exact rfl))
           | (apply RT.call (hg := by simp; exact Is.rfl) (hfo := by simp; exact Is.rfl) (hpr := by exact Is.rfl) (hvs := by simp [dI, dL, h]; exact Is.rfl) (hcl := by simp [dI, dL, h]; exact Is.rfl) (hd := by simp [dI, dL, h]; exact Is.rfl) (hwr := by simp [dI, dL, h]; exact Is.rfl) (hlt := by simp [Is]) (he := by (try dsimp only [putEnv]) <;> exact rfl) (hh := by simp; exact Is.rfl) (hw := by simp; exact Is.rfl))
           | (apply RT.wr (h := by simp [dI, dL, h]; exact Is.rfl) (he := by (try dsimp only [putEnv]) <;> exact rfl) (hh := by simp [dI, dL, h]; exact Is.rfl) (hn := by exact Is.rfl) (hc := by exact Is.rfl) (hw := by simp; exact Is.rfl)))
         exact RT.nil
       case hc => (show _ = _; kernel_rfl)
       case ht => simp [dI, dL, h]; exact Is.rfl)
    | apply WP.block
    | apply WP.skip
    | apply WP.exit
    | apply WP.ret
    | refine WP.condT rfl ?_
    | refine WP.condF rfl ?_)
  show retQ _ _ _ _ _
  exact ⟨.inr rfl, _, _, rfl, rfl⟩
end Go.Ac
end

section
set_option maxRecDepth 4000
set_option linter.unusedSimpArgs false
set_option linter.unusedVariables false
namespace Go.Ac
open Go.Proofs

def outE (n : Int) : Bool := decide (n < 1) || decide (n > 16)
def outW (n : Int) : Bool := decide (n < -32768) || decide (n > 32767)

theorem outE_den (v : Int) : den Tryd.prog Cp.cfg 37 [dI v] = some (dB (outE v)) := by
  refine den_wp Tryd.func37 rfl (by kernel_rfl) rfl rfl ?_
  by_cases h0 : v < 1
  · repeat (first
      | apply WP.seq
      | (apply WP.reg
         case hR => dsimp only [prepL, prepO, List.map, List.getElem?_cons_succ, List.getElem?_cons_zero]; exact Is.rfl
         case hr =>
           repeat (first
             | (apply RT.op (h := by simp [dI, h0]; exact Is.rfl) (he := by (try dsimp only [putEnv]) <;> exact rfl))
             | (apply RT.call (hg := by simp; exact Is.rfl) (hfo := by simp; exact Is.rfl) (hpr := by exact Is.rfl) (hvs := by simp [dI, h0]; exact Is.rfl) (hcl := by simp [dI, h0]; exact Is.rfl) (hd := by simp [dI, h0]; exact Is.rfl) (hwr := by simp [dI, h0]; exact Is.rfl) (hlt := by simp [Is]) (he := by (try dsimp only [putEnv]) <;> exact rfl) (hh := by simp; exact Is.rfl) (hw := by simp; exact Is.rfl))
             | (apply RT.wr (h := by simp [dI, h0]; exact Is.rfl) (he := by (try dsimp only [putEnv]) <;> exact rfl) (hh := by simp [dI, h0]; exact Is.rfl) (hn := by exact Is.rfl) (hc := by exact Is.rfl) (hw := by simp; exact Is.rfl)))
           exact RT.nil
         case hc => (show _ = _; kernel_rfl)
         case ht => simp [dI, h0]; exact Is.rfl)
      | apply WP.block
      | apply WP.skip
      | apply WP.exit
      | apply WP.ret
      | refine WP.condT rfl ?_
      | refine WP.condF rfl ?_)
    show retQ _ _ _ _ _
    exact ⟨.inr rfl, _, _, rfl, by simp [outE, h0]; rfl⟩
  · by_cases h1 : v > 16
    · repeat (first
        | apply WP.seq
        | (apply WP.reg
           case hR => dsimp only [prepL, prepO, List.map, List.getElem?_cons_succ, List.getElem?_cons_zero]; exact Is.rfl
           case hr =>
             repeat (first
               | (apply RT.op (h := by simp [dI, h0, h1]; exact Is.rfl) (he := by (try dsimp only [putEnv]) <;> exact rfl))
               | (apply RT.call (hg := by simp; exact Is.rfl) (hfo := by simp; exact Is.rfl) (hpr := by exact Is.rfl) (hvs := by simp [dI, h0, h1]; exact Is.rfl) (hcl := by simp [dI, h0, h1]; exact Is.rfl) (hd := by simp [dI, h0, h1]; exact Is.rfl) (hwr := by simp [dI, h0, h1]; exact Is.rfl) (hlt := by simp [Is]) (he := by (try dsimp only [putEnv]) <;> exact rfl) (hh := by simp; exact Is.rfl) (hw := by simp; exact Is.rfl))
               | (apply RT.wr (h := by simp [dI, h0, h1]; exact Is.rfl) (he := by (try dsimp only [putEnv]) <;> exact rfl) (hh := by simp [dI, h0, h1]; exact Is.rfl) (hn := by exact Is.rfl) (hc := by exact Is.rfl) (hw := by simp; exact Is.rfl)))
             exact RT.nil
           case hc => (show _ = _; kernel_rfl)
           case ht => simp [dI, h0, h1]; exact Is.rfl)
        | apply WP.block
        | apply WP.skip
        | apply WP.exit
        | apply WP.ret
        | refine WP.condT rfl ?_
        | refine WP.condF rfl ?_)
      show retQ _ _ _ _ _
      exact ⟨.inr rfl, _, _, rfl, by simp [outE, h1]; rfl⟩
    · repeat (first
        | apply WP.seq
        | (apply WP.reg
           case hR => dsimp only [prepL, prepO, List.map, List.getElem?_cons_succ, List.getElem?_cons_zero]; exact Is.rfl
           case hr =>
             repeat (first
               | (apply RT.op (h := by simp [dI, h0, h1]; exact Is.rfl) (he := by (try dsimp only [putEnv]) <;> exact rfl))
               | (apply RT.call (hg := by simp; exact Is.rfl) (hfo := by simp; exact Is.rfl) (hpr := by exact Is.rfl) (hvs := by simp [dI, h0, h1]; exact Is.rfl) (hcl := by simp [dI, h0, h1]; exact Is.rfl) (hd := by simp [dI, h0, h1]; exact Is.rfl) (hwr := by simp [dI, h0, h1]; exact Is.rfl) (hlt := by simp [Is]) (he := by (try dsimp only [putEnv]) <;> exact rfl) (hh := by simp; exact Is.rfl) (hw := by simp; exact Is.rfl))
               | (apply RT.wr (h := by simp [dI, h0, h1]; exact Is.rfl) (he := by (try dsimp only [putEnv]) <;> exact rfl) (hh := by simp [dI, h0, h1]; exact Is.rfl) (hn := by exact Is.rfl) (hc := by exact Is.rfl) (hw := by simp; exact Is.rfl)))
             exact RT.nil
           case hc => (show _ = _; kernel_rfl)
           case ht => simp [dI, h0, h1]; exact Is.rfl)
        | apply WP.block
        | apply WP.skip
        | apply WP.exit
        | apply WP.ret
        | refine WP.condT rfl ?_
        | refine WP.condF rfl ?_)
      show retQ _ _ _ _ _
      exact ⟨.inr rfl, _, _, rfl, by simp [outE, h0, h1]; rfl⟩

theorem outW_den (v : Int) : den Tryd.prog Cp.cfg 48 [dI v] = some (dB (outW v)) := by
  refine den_wp Tryd.func48 rfl (by kernel_rfl) rfl rfl ?_
  by_cases h0 : v < -32768
  · repeat (first
      | apply WP.seq
      | (apply WP.reg
         case hR => dsimp only [prepL, prepO, List.map, List.getElem?_cons_succ, List.getElem?_cons_zero]; exact Is.rfl
         case hr =>
           repeat (first
             | (apply RT.op (h := by simp [dI, h0]; exact Is.rfl) (he := by (try dsimp only [putEnv]) <;> exact rfl))
             | (apply RT.call (hg := by simp; exact Is.rfl) (hfo := by simp; exact Is.rfl) (hpr := by exact Is.rfl) (hvs := by simp [dI, h0]; exact Is.rfl) (hcl := by simp [dI, h0]; exact Is.rfl) (hd := by simp [dI, h0]; exact Is.rfl) (hwr := by simp [dI, h0]; exact Is.rfl) (hlt := by simp [Is]) (he := by (try dsimp only [putEnv]) <;> exact rfl) (hh := by simp; exact Is.rfl) (hw := by simp; exact Is.rfl))
             | (apply RT.wr (h := by simp [dI, h0]; exact Is.rfl) (he := by (try dsimp only [putEnv]) <;> exact rfl) (hh := by simp [dI, h0]; exact Is.rfl) (hn := by exact Is.rfl) (hc := by exact Is.rfl) (hw := by simp; exact Is.rfl)))
           exact RT.nil
         case hc => (show _ = _; kernel_rfl)
         case ht => simp [dI, h0]; exact Is.rfl)
      | apply WP.block
      | apply WP.skip
      | apply WP.exit
      | apply WP.ret
      | refine WP.condT rfl ?_
      | refine WP.condF rfl ?_)
    show retQ _ _ _ _ _
    exact ⟨.inr rfl, _, _, rfl, by simp [outW, h0]; rfl⟩
  · by_cases h1 : v > 32767
    · repeat (first
        | apply WP.seq
        | (apply WP.reg
           case hR => dsimp only [prepL, prepO, List.map, List.getElem?_cons_succ, List.getElem?_cons_zero]; exact Is.rfl
           case hr =>
             repeat (first
               | (apply RT.op (h := by simp [dI, h0, h1]; exact Is.rfl) (he := by (try dsimp only [putEnv]) <;> exact rfl))
               | (apply RT.call (hg := by simp; exact Is.rfl) (hfo := by simp; exact Is.rfl) (hpr := by exact Is.rfl) (hvs := by simp [dI, h0, h1]; exact Is.rfl) (hcl := by simp [dI, h0, h1]; exact Is.rfl) (hd := by simp [dI, h0, h1]; exact Is.rfl) (hwr := by simp [dI, h0, h1]; exact Is.rfl) (hlt := by simp [Is]) (he := by (try dsimp only [putEnv]) <;> exact rfl) (hh := by simp; exact Is.rfl) (hw := by simp; exact Is.rfl))
               | (apply RT.wr (h := by simp [dI, h0, h1]; exact Is.rfl) (he := by (try dsimp only [putEnv]) <;> exact rfl) (hh := by simp [dI, h0, h1]; exact Is.rfl) (hn := by exact Is.rfl) (hc := by exact Is.rfl) (hw := by simp; exact Is.rfl)))
             exact RT.nil
           case hc => (show _ = _; kernel_rfl)
           case ht => simp [dI, h0, h1]; exact Is.rfl)
        | apply WP.block
        | apply WP.skip
        | apply WP.exit
        | apply WP.ret
        | refine WP.condT rfl ?_
        | refine WP.condF rfl ?_)
      show retQ _ _ _ _ _
      exact ⟨.inr rfl, _, _, rfl, by simp [outW, h1]; rfl⟩
    · repeat (first
        | apply WP.seq
        | (apply WP.reg
           case hR => dsimp only [prepL, prepO, List.map, List.getElem?_cons_succ, List.getElem?_cons_zero]; exact Is.rfl
           case hr =>
             repeat (first
               | (apply RT.op (h := by simp [dI, h0, h1]; exact Is.rfl) (he := by (try dsimp only [putEnv]) <;> exact rfl))
               | (apply RT.call (hg := by simp; exact Is.rfl) (hfo := by simp; exact Is.rfl) (hpr := by exact Is.rfl) (hvs := by simp [dI, h0, h1]; exact Is.rfl) (hcl := by simp [dI, h0, h1]; exact Is.rfl) (hd := by simp [dI, h0, h1]; exact Is.rfl) (hwr := by simp [dI, h0, h1]; exact Is.rfl) (hlt := by simp [Is]) (he := by (try dsimp only [putEnv]) <;> exact rfl) (hh := by simp; exact Is.rfl) (hw := by simp; exact Is.rfl))
               | (apply RT.wr (h := by simp [dI, h0, h1]; exact Is.rfl) (he := by (try dsimp only [putEnv]) <;> exact rfl) (hh := by simp [dI, h0, h1]; exact Is.rfl) (hn := by exact Is.rfl) (hc := by exact Is.rfl) (hw := by simp; exact Is.rfl)))
             exact RT.nil
           case hc => (show _ = _; kernel_rfl)
           case ht => simp [dI, h0, h1]; exact Is.rfl)
        | apply WP.block
        | apply WP.skip
        | apply WP.exit
        | apply WP.ret
        | refine WP.condT rfl ?_
        | refine WP.condF rfl ?_)
      show retQ _ _ _ _ _
      exact ⟨.inr rfl, _, _, rfl, by simp [outW, h0, h1]; rfl⟩

def idxP (p : Int → Bool) (l : List Int) : Int := match l.findIdx? p with | some i => (i : Int) | none => -1
theorem idxP_some {p : Int → Bool} {l : List Int} {i : Nat} {v : Int} (h : (l.take i).all (fun v => !p v) = true) (hi : l[i]? = some v) (hv : p v = true) : idxP p l = i := by
  obtain ⟨hl, he⟩ := List.getElem?_eq_some_iff.1 hi
  have : l.findIdx? p = some i := by
    rw [List.findIdx?_eq_some_iff_getElem]
    refine ⟨hl, by rw [he]; exact hv, fun j hj => ?_⟩
    have hm : l[j] ∈ l.take i := List.mem_take_iff_getElem.2 ⟨j, by omega, rfl⟩
    simpa using List.all_eq_true.1 h _ hm
  unfold idxP; rw [this]
theorem idxP_none {p : Int → Bool} {l : List Int} (h : (l.take l.length).all (fun v => !p v) = true) : idxP p l = -1 := by
  rw [List.take_length] at h
  have h' : ∀ x, x ∈ l → p x = false := fun x hx => by simpa using List.all_eq_true.1 h x hx
  unfold idxP; rw [List.findIdx?_eq_none_iff.2 h']
theorem idxP_any (p : Int → Bool) (l : List Int) : decide (idxP p l ≥ 0) = l.any p := by
  unfold idxP
  cases h : l.findIdx? p with
  | none =>
    have h' := List.findIdx?_eq_none_iff.1 h
    rw [show l.any p = false from by rw [List.any_eq_false]; intro x hx; simp [h' x hx]]
    rfl
  | some i =>
    obtain ⟨hl, hp, _⟩ := List.findIdx?_eq_some_iff_getElem.1 h
    rw [show l.any p = true from List.any_eq_true.2 ⟨_, List.getElem_mem hl, hp⟩]
    simp

set_option maxHeartbeats 1000000 in
theorem index_outE (l : List Int) (hl : l.length ≤ MX) : den Tryd.prog Cp.cfg 43 [dL l, .fn 37 []] = some (dI (idxP outE l)) := by
  have hf := outE_den
  simp only [dI, dB] at hf
  unfold MX at hl
  refine den_wp Tryd.func43 rfl (by kernel_rfl) rfl rfl ?_
  repeat (first
    | apply WP.seq
    | (apply WP.reg
       case hR => dsimp only [prepL, prepO, List.map, List.getElem?_cons_succ, List.getElem?_cons_zero]; exact Is.rfl
       case hr =>
         repeat (first
           | (apply RT.op (h := by simp [dL]; exact Is.rfl) (he := by (try dsimp only [putEnv]) <;> exact rfl))
           | (apply RT.call (hg := by simp; exact Is.rfl) (hfo := by simp; exact Is.rfl) (hpr := by exact Is.rfl) (hvs := by simp [dL]; exact Is.rfl) (hcl := by simp [dL]; exact Is.rfl) (hd := by simp [dL]; exact Is.rfl) (hwr := by simp [dL]; exact Is.rfl) (hlt := by simp [Is]) (he := by (try dsimp only [putEnv]) <;> exact rfl) (hh := by simp; exact Is.rfl) (hw := by simp; exact Is.rfl))
           | (apply RT.wr (h := by simp [dL]; exact Is.rfl) (he := by (try dsimp only [putEnv]) <;> exact rfl) (hh := by simp [dL]; exact Is.rfl) (hn := by exact Is.rfl) (hc := by exact Is.rfl) (hw := by simp; exact Is.rfl)))
         exact RT.nil
       case hc => (show _ = _; kernel_rfl)
       case ht => simp [dL]; exact Is.rfl)
    | apply WP.block
    | apply WP.skip
    | apply WP.exit
    | apply WP.ret)
  apply WP.loop' (I := fun d s => ∃ i : Nat, i + d = l.length ∧ (l.take i).all (fun v => !outE v) = true ∧ SE [(0, dL l), (1, .fn 37 []), (7, dI l.length), (8, dI i)] [] 0 s) (d := l.length)
  · exact ⟨0, by simp, by simp, SE.mk (by simp [dI, dL]) rfl⟩
  rintro d _ ⟨i, hi, hno, c, rfl⟩
  repeat (first
    | apply WP.seq
    | (apply WP.reg
       case hR => dsimp only [prepL, prepO, List.map, List.getElem?_cons_succ, List.getElem?_cons_zero]; exact Is.rfl
       case hr =>
         repeat (first
           | (apply RT.op (h := by simp [dI, dL]; exact Is.rfl) (he := by (try dsimp only [putEnv]) <;> exact rfl))
           | (apply RT.call (hg := by simp; exact Is.rfl) (hfo := by simp; exact Is.rfl) (hpr := by exact Is.rfl) (hvs := by simp [dI, dL]; exact Is.rfl) (hcl := by simp [dI, dL]; exact Is.rfl) (hd := by simp [dI, dL]; exact Is.rfl) (hwr := by simp [dI, dL]; exact Is.rfl) (hlt := by simp [Is]) (he := by (try dsimp only [putEnv]) <;> exact rfl) (hh := by simp; exact Is.rfl) (hw := by simp; exact Is.rfl))
           | (apply RT.wr (h := by simp [dI, dL]; exact Is.rfl) (he := by (try dsimp only [putEnv]) <;> exact rfl) (hh := by simp [dI, dL]; exact Is.rfl) (hn := by exact Is.rfl) (hc := by exact Is.rfl) (hw := by simp; exact Is.rfl)))
         exact RT.nil
       case hc => (show _ = _; kernel_rfl)
       case ht => simp [dI, dL]; exact Is.rfl)
    | apply WP.block
    | apply WP.skip
    | apply WP.exit
    | apply WP.ret)
  show WP _ _ _ _ _ _
  refine WP.cond _ rfl (fun hb => ?_) (fun hb => ?_)
  · simp at hb
    have hb' : i < l.length := hb
    obtain ⟨v, hv, hvm, hix⟩ := at_lt hb'
    have hv' := encI_at hv
    have hw := w_succ hb' (by omega)
    have hts := all_take_succ (p := fun v => !outE v) hv
    cases hp : outE v with
    | true =>
      have hfv := hf v
      rw [hp] at hfv
      repeat (first
        | apply WP.seq
        | (apply WP.reg
           case hR => dsimp only [prepL, prepO, List.map, List.getElem?_cons_succ, List.getElem?_cons_zero]; exact Is.rfl
           case hr =>
             repeat (first
               | (apply RT.op (h := by simp [hix, hv', dL, hfv]; exact Is.rfl) (he := by (try dsimp only [putEnv]) <;> exact rfl))
               | (apply RT.call (hg := by simp; exact Is.rfl) (hfo := by simp; exact Is.rfl) (hpr := by exact Is.rfl) (hvs := by simp [hix, hv', dL, hfv]; exact Is.rfl) (hcl := by simp [hix, hv', dL, hfv]; exact Is.rfl) (hd := by simp [hix, hv', dL, hfv]; exact Is.rfl) (hwr := by simp [hix, hv', dL, hfv]; exact Is.rfl) (hlt := by simp [Is]) (he := by (try dsimp only [putEnv]) <;> exact rfl) (hh := by simp; exact Is.rfl) (hw := by simp; exact Is.rfl))
               | (apply RT.wr (h := by simp [hix, hv', dL, hfv]; exact Is.rfl) (he := by (try dsimp only [putEnv]) <;> exact rfl) (hh := by simp [hix, hv', dL, hfv]; exact Is.rfl) (hn := by exact Is.rfl) (hc := by exact Is.rfl) (hw := by simp; exact Is.rfl)))
             exact RT.nil
           case hc => (show _ = _; kernel_rfl)
           case ht => simp [hix, hv', dL, hfv]; exact Is.rfl)
        | apply WP.block
        | apply WP.skip
        | apply WP.exit
        | apply WP.ret
        | refine WP.condT rfl ?_
        | refine WP.condF rfl ?_)
      rw [idxP_some hno hv hp]
      show retQ _ _ _ _ _
      exact ⟨.inr rfl, _, _, rfl, rfl⟩
    | false =>
      have hfv := hf v
      rw [hp] at hfv
      repeat (first
        | apply WP.seq
        | (apply WP.reg
           case hR => dsimp only [prepL, prepO, List.map, List.getElem?_cons_succ, List.getElem?_cons_zero]; exact Is.rfl
           case hr =>
             repeat (first
               | (apply RT.op (h := by simp [hix, hv', dL, hfv]; exact Is.rfl) (he := by (try dsimp only [putEnv]) <;> exact rfl))
               | (apply RT.call (hg := by simp; exact Is.rfl) (hfo := by simp; exact Is.rfl) (hpr := by exact Is.rfl) (hvs := by simp [hix, hv', dL, hfv]; exact Is.rfl) (hcl := by simp [hix, hv', dL, hfv]; exact Is.rfl) (hd := by simp [hix, hv', dL, hfv]; exact Is.rfl) (hwr := by simp [hix, hv', dL, hfv]; exact Is.rfl) (hlt := by simp [Is]) (he := by (try dsimp only [putEnv]) <;> exact rfl) (hh := by simp; exact Is.rfl) (hw := by simp; exact Is.rfl))
               | (apply RT.wr (h := by simp [hix, hv', dL, hfv]; exact Is.rfl) (he := by (try dsimp only [putEnv]) <;> exact rfl) (hh := by simp [hix, hv', dL, hfv]; exact Is.rfl) (hn := by exact Is.rfl) (hc := by exact Is.rfl) (hw := by simp; exact Is.rfl)))
             exact RT.nil
           case hc => (show _ = _; kernel_rfl)
           case ht => simp [hix, hv', dL, hfv]; exact Is.rfl)
        | apply WP.block
        | apply WP.skip
        | apply WP.exit
        | apply WP.ret
        | refine WP.condT rfl ?_
        | refine WP.condF rfl ?_)
      refine loop_next (by simp [hw]; exact Is.rfl) ?_
      exact ⟨d - 1, by omega, i + 1, by omega, by rw [hts, hno, hp]; rfl, SE.mk (by simp [dI, hw, dL]) rfl⟩
  · simp at hb
    have hil : i = l.length := by omega
    subst hil
    rw [idxP_none hno]
    repeat (first
      | apply WP.seq
      | (apply WP.reg
         case hR => dsimp only [prepL, prepO, List.map, List.getElem?_cons_succ, List.getElem?_cons_zero]; exact Is.rfl
         case hr =>
           repeat (first
             | (apply RT.op (h := by simp; exact Is.rfl) (he := by (try dsimp only [putEnv]) <;> exact rfl))
             | (apply RT.call (hg := by simp; exact Is.rfl) (hfo := by simp; exact Is.rfl) (hpr := by exact Is.rfl) (hvs := by simp; exact Is.rfl) (hcl := by simp; exact Is.rfl) (hd := by simp; exact Is.rfl) (hwr := by simp; exact Is.rfl) (hlt := by simp [Is]) (he := by (try dsimp only [putEnv]) <;> exact rfl) (hh := by simp; exact Is.rfl) (hw := by simp; exact Is.rfl))
             | (apply RT.wr (h := by simp; exact Is.rfl) (he := by (try dsimp only [putEnv]) <;> exact rfl) (hh := by simp; exact Is.rfl) (hn := by exact Is.rfl) (hc := by exact Is.rfl) (hw := by simp; exact Is.rfl)))
           exact RT.nil
         case hc => (show _ = _; kernel_rfl)
         case ht => simp; exact Is.rfl)
      | apply WP.block
      | apply WP.skip
      | apply WP.exit
      | apply WP.ret)
    show retQ _ _ _ _ _
    exact ⟨.inr rfl, _, _, rfl, rfl⟩
theorem contains_outE (l : List Int) (hl : l.length ≤ MX) : den Tryd.prog Cp.cfg 36 [dL l, .fn 37 []] = some (dB (l.any outE)) := by
  have h := index_outE l hl
  simp only [dI, dL] at h
  rw [← idxP_any]
  refine den_wp Tryd.func36 rfl (by kernel_rfl) rfl rfl ?_
  repeat (first
    | apply WP.seq
    | (apply WP.reg
       case hR => dsimp only [prepL, prepO, List.map, List.getElem?_cons_succ, List.getElem?_cons_zero]; exact Is.rfl
       case hr =>
         repeat (first
           | (apply RT.op (h := by simp [dL, h]; exact Is.rfl) (he := by (try dsimp only [putEnv]) <;> exact rfl))
           | (apply RT.call (hg := by simp; exact Is.rfl) (hfo := by simp; exact Is.rfl) (hpr := by exact Is.rfl) (hvs := by simp [dL, h]; exact Is.rfl) (hcl := by simp [dL, h]; exact Is.rfl) (hd := by simp [dL, h]; exact Is.rfl) (hwr := by simp [dL, h]; exact Is.rfl) (hlt := by simp [Is]) (he := by (try dsimp only [putEnv]) <;> exact rfl) (hh := by simp; exact Is.rfl) (hw := by simp; exact Is.rfl))
           | (apply RT.wr (h := by simp [dL, h]; exact Is.rfl) (he := by (try dsimp only [putEnv]) <;> exact rfl) (hh := by simp [dL, h]; exact Is.rfl) (hn := by exact Is.rfl) (hc := by exact Is.rfl) (hw := by simp; exact Is.rfl)))
         exact RT.nil
       case hc => (show _ = _; kernel_rfl)
       case ht => simp [dL, h]; exact Is.rfl)
    | apply WP.block
    | apply WP.skip
    | apply WP.exit
    | apply WP.ret)
  show retQ _ _ _ _ _
  exact ⟨.inr rfl, _, _, rfl, rfl⟩

set_option maxHeartbeats 1000000 in
theorem index_outW (l : List Int) (hl : l.length ≤ MX) : den Tryd.prog Cp.cfg 43 [dL l, .fn 48 []] = some (dI (idxP outW l)) := by
  have hf := outW_den
  simp only [dI, dB] at hf
  unfold MX at hl
  refine den_wp Tryd.func43 rfl (by kernel_rfl) rfl rfl ?_
  repeat (first
    | apply WP.seq
    | (apply WP.reg
       case hR => dsimp only [prepL, prepO, List.map, List.getElem?_cons_succ, List.getElem?_cons_zero]; exact Is.rfl
       case hr =>
         repeat (first
           | (apply RT.op (h := by simp [dL]; exact Is.rfl) (he := by (try dsimp only [putEnv]) <;> exact rfl))
           | (apply RT.call (hg := by simp; exact Is.rfl) (hfo := by simp; exact Is.rfl) (hpr := by exact Is.rfl) (hvs := by simp [dL]; exact Is.rfl) (hcl := by simp [dL]; exact Is.rfl) (hd := by simp [dL]; exact Is.rfl) (hwr := by simp [dL]; exact Is.rfl) (hlt := by simp [Is]) (he := by (try dsimp only [putEnv]) <;> exact rfl) (hh := by simp; exact Is.rfl) (hw := by simp; exact Is.rfl))
           | (apply RT.wr (h := by simp [dL]; exact Is.rfl) (he := by (try dsimp only [putEnv]) <;> exact rfl) (hh := by simp [dL]; exact Is.rfl) (hn := by exact Is.rfl) (hc := by exact Is.rfl) (hw := by simp; exact Is.rfl)))
         exact RT.nil
       case hc => (show _ = _; kernel_rfl)
       case ht => simp [dL]; exact Is.rfl)
    | apply WP.block
    | apply WP.skip
    | apply WP.exit
    | apply WP.ret)
  apply WP.loop' (I := fun d s => ∃ i : Nat, i + d = l.length ∧ (l.take i).all (fun v => !outW v) = true ∧ SE [(0, dL l), (1, .fn 48 []), (7, dI l.length), (8, dI i)] [] 0 s) (d := l.length)
  · exact ⟨0, by simp, by simp, SE.mk (by simp [dI, dL]) rfl⟩
  rintro d _ ⟨i, hi, hno, c, rfl⟩
  repeat (first
    | apply WP.seq
    | (apply WP.reg
       case hR => dsimp only [prepL, prepO, List.map, List.getElem?_cons_succ, List.getElem?_cons_zero]; exact Is.rfl
       case hr =>
         repeat (first
           | (apply RT.op (h := by simp [dI, dL]; exact Is.rfl) (he := by (try dsimp only [putEnv]) <;> exact rfl))
           | (apply RT.call (hg := by simp; exact Is.rfl) (hfo := by simp; exact Is.rfl) (hpr := by exact Is.rfl) (hvs := by simp [dI, dL]; exact Is.rfl) (hcl := by simp [dI, dL]; exact Is.rfl) (hd := by simp [dI, dL]; exact Is.rfl) (hwr := by simp [dI, dL]; exact Is.rfl) (hlt := by simp [Is]) (he := by (try dsimp only [putEnv]) <;> exact rfl) (hh := by simp; exact Is.rfl) (hw := by simp; exact Is.rfl))
           | (apply RT.wr (h := by simp [dI, dL]; exact Is.rfl) (he := by (try dsimp only [putEnv]) <;> exact rfl) (hh := by simp [dI, dL]; exact Is.rfl) (hn := by exact Is.rfl) (hc := by exact Is.rfl) (hw := by simp; exact Is.rfl)))
         exact RT.nil
       case hc => (show _ = _; kernel_rfl)
       case ht => simp [dI, dL]; exact Is.rfl)
    | apply WP.block
    | apply WP.skip
    | apply WP.exit
    | apply WP.ret)
  show WP _ _ _ _ _ _
  refine WP.cond _ rfl (fun hb => ?_) (fun hb => ?_)
  · simp at hb
    have hb' : i < l.length := hb
    obtain ⟨v, hv, hvm, hix⟩ := at_lt hb'
    have hv' := encI_at hv
    have hw := w_succ hb' (by omega)
    have hts := all_take_succ (p := fun v => !outW v) hv
    cases hp : outW v with
    | true =>
      have hfv := hf v
      rw [hp] at hfv
      repeat (first
        | apply WP.seq
        | (apply WP.reg
           case hR => dsimp only [prepL, prepO, List.map, List.getElem?_cons_succ, List.getElem?_cons_zero]; exact Is.rfl
           case hr =>
             repeat (first
               | (apply RT.op (h := by simp [hix, hv', dL, hfv]; exact Is.rfl) (he := by (try dsimp only [putEnv]) <;> exact rfl))
               | (apply RT.call (hg := by simp; exact Is.rfl) (hfo := by simp; exact Is.rfl) (hpr := by exact Is.rfl) (hvs := by simp [hix, hv', dL, hfv]; exact Is.rfl) (hcl := by simp [hix, hv', dL, hfv]; exact Is.rfl) (hd := by simp [hix, hv', dL, hfv]; exact Is.rfl) (hwr := by simp [hix, hv', dL, hfv]; exact Is.rfl) (hlt := by simp [Is]) (he := by (try dsimp only [putEnv]) <;> exact rfl) (hh := by simp; exact Is.rfl) (hw := by simp; exact Is.rfl))
               | (apply RT.wr (h := by simp [hix, hv', dL, hfv]; exact Is.rfl) (he := by (try dsimp only [putEnv]) <;> exact rfl) (hh := by simp [hix, hv', dL, hfv]; exact Is.rfl) (hn := by exact Is.rfl) (hc := by exact Is.rfl) (hw := by simp; exact Is.rfl)))
             exact RT.nil
           case hc => (show _ = _; kernel_rfl)
           case ht => simp [hix, hv', dL, hfv]; exact Is.rfl)
        | apply WP.block
        | apply WP.skip
        | apply WP.exit
        | apply WP.ret
        | refine WP.condT rfl ?_
        | refine WP.condF rfl ?_)
      rw [idxP_some hno hv hp]
      show retQ _ _ _ _ _
      exact ⟨.inr rfl, _, _, rfl, rfl⟩
    | false =>
      have hfv := hf v
      rw [hp] at hfv
      repeat (first
        | apply WP.seq
        | (apply WP.reg
           case hR => dsimp only [prepL, prepO, List.map, List.getElem?_cons_succ, List.getElem?_cons_zero]; exact Is.rfl
           case hr =>
             repeat (first
               | (apply RT.op (h := by simp [hix, hv', dL, hfv]; exact Is.rfl) (he := by (try dsimp only [putEnv]) <;> exact rfl))
               | (apply RT.call (hg := by simp; exact Is.rfl) (hfo := by simp; exact Is.rfl) (hpr := by exact Is.rfl) (hvs := by simp [hix, hv', dL, hfv]; exact Is.rfl) (hcl := by simp [hix, hv', dL, hfv]; exact Is.rfl) (hd := by simp [hix, hv', dL, hfv]; exact Is.rfl) (hwr := by simp [hix, hv', dL, hfv]; exact Is.rfl) (hlt := by simp [Is]) (he := by (try dsimp only [putEnv]) <;> exact rfl) (hh := by simp; exact Is.rfl) (hw := by simp; exact Is.rfl))
               | (apply RT.wr (h := by simp [hix, hv', dL, hfv]; exact Is.rfl) (he := by (try dsimp only [putEnv]) <;> exact rfl) (hh := by simp [hix, hv', dL, hfv]; exact Is.rfl) (hn := by exact Is.rfl) (hc := by exact Is.rfl) (hw := by simp; exact Is.rfl)))
             exact RT.nil
           case hc => (show _ = _; kernel_rfl)
           case ht => simp [hix, hv', dL, hfv]; exact Is.rfl)
        | apply WP.block
        | apply WP.skip
        | apply WP.exit
        | apply WP.ret
        | refine WP.condT rfl ?_
        | refine WP.condF rfl ?_)
      refine loop_next (by simp [hw]; exact Is.rfl) ?_
      exact ⟨d - 1, by omega, i + 1, by omega, by rw [hts, hno, hp]; rfl, SE.mk (by simp [dI, hw, dL]) rfl⟩
  · simp at hb
    have hil : i = l.length := by omega
    subst hil
    rw [idxP_none hno]
    repeat (first
      | apply WP.seq
      | (apply WP.reg
         case hR => dsimp only [prepL, prepO, List.map, List.getElem?_cons_succ, List.getElem?_cons_zero]; exact Is.rfl
         case hr =>
           repeat (first
             | (apply RT.op (h := by simp; exact Is.rfl) (he := by (try dsimp only [putEnv]) <;> exact rfl))
             | (apply RT.call (hg := by simp; exact Is.rfl) (hfo := by simp; exact Is.rfl) (hpr := by exact Is.rfl) (hvs := by simp; exact Is.rfl) (hcl := by simp; exact Is.rfl) (hd := by simp; exact Is.rfl) (hwr := by simp; exact Is.rfl) (hlt := by simp [Is]) (he := by (try dsimp only [putEnv]) <;> exact rfl) (hh := by simp; exact Is.rfl) (hw := by simp; exact Is.rfl))
             | (apply RT.wr (h := by simp; exact Is.rfl) (he := by (try dsimp only [putEnv]) <;> exact rfl) (hh := by simp; exact Is.rfl) (hn := by exact Is.rfl) (hc := by exact Is.rfl) (hw := by simp; exact Is.rfl)))
           exact RT.nil
         case hc => (show _ = _; kernel_rfl)
         case ht => simp; exact Is.rfl)
      | apply WP.block
      | apply WP.skip
      | apply WP.exit
      | apply WP.ret)
    show retQ _ _ _ _ _
    exact ⟨.inr rfl, _, _, rfl, rfl⟩
theorem contains_outW (l : List Int) (hl : l.length ≤ MX) : den Tryd.prog Cp.cfg 36 [dL l, .fn 48 []] = some (dB (l.any outW)) := by
  have h := index_outW l hl
  simp only [dI, dL] at h
  rw [← idxP_any]
  refine den_wp Tryd.func36 rfl (by kernel_rfl) rfl rfl ?_
  repeat (first
    | apply WP.seq
    | (apply WP.reg
       case hR => dsimp only [prepL, prepO, List.map, List.getElem?_cons_succ, List.getElem?_cons_zero]; exact Is.rfl
       case hr =>
         repeat (first
           | (apply RT.op (h := by simp [dL, h]; exact Is.rfl) (he := by (try dsimp only [putEnv]) <;> exact rfl))
           | (apply RT.call (hg := by simp; exact Is.rfl) (hfo := by simp; exact Is.rfl) (hpr := by exact Is.rfl) (hvs := by simp [dL, h]; exact Is.rfl) (hcl := by simp [dL, h]; exact Is.rfl) (hd := by simp [dL, h]; exact Is.rfl) (hwr := by simp [dL, h]; exact Is.rfl) (hlt := by simp [Is]) (he := by (try dsimp only [putEnv]) <;> exact rfl) (hh := by simp; exact Is.rfl) (hw := by simp; exact Is.rfl))
           | (apply RT.wr (h := by simp [dL, h]; exact Is.rfl) (he := by (try dsimp only [putEnv]) <;> exact rfl) (hh := by simp [dL, h]; exact Is.rfl) (hn := by exact Is.rfl) (hc := by exact Is.rfl) (hw := by simp; exact Is.rfl)))
         exact RT.nil
       case hc => (show _ = _; kernel_rfl)
       case ht => simp [dL, h]; exact Is.rfl)
    | apply WP.block
    | apply WP.skip
    | apply WP.exit
    | apply WP.ret)
  show retQ _ _ _ _ _
  exact ⟨.inr rfl, _, _, rfl, rfl⟩
end Go.Ac
end
