/- slices.Concat of two lists. -/
import Derived.Test.YtofhhkkncaoneaaDoorAcBM
import Derived.Test.YtofhhkkncaoneaaDoorAcDM
import Derived.Test.YtofhhkkncaoneaaDoorAcGM
import Derived.Test.YtofhhkkncaoneaaDoorAcJM
import Derived.Test.YtofhhkkncaoneaaDoorAcMM
import Derived.Test.YtofhhkkncaoneaaDoorAcSM
import Derived.Test.YtofhhkkncaoneaaDoorAcXM
import Derived.Test.YtofhhkkncaoneaaDoorAcUcM
import Derived.Test.YtofhhkkncaoneaaDoorCpBM
import Derived.Test.YtofhhkkncaoneaaDoorCpDM
import Derived.Test.YtofhhkkncaoneaaDoorCpIM
import Derived.Test.YtofhhkkncaoneaaDoorCpK
import Derived.Calls
import Derived.Orders
import Derived.Laws.World
import Derived.Laws.Sem
import Derived.Laws.Cells
import Derived.Laws.Append
import GoSem.ClaimData
import Derived.Laws.Tables
import Derived.Laws.Slices
import Derived.Laws.Strings
import Derived.Laws.Small
import Derived.Test.YtofhhkkncaoneaaDoorChecked
import Derived.KernelRfl
import Derived.Lib.RuneCount
set_option linter.unusedVariables false
set_option linter.unusedSimpArgs false
section
set_option maxRecDepth 4000
set_option linter.unusedSimpArgs false
set_option linter.unusedVariables false
namespace Go.Ac
open Go.Proofs

/-- Memories that agree below a bound. -/
def Ag (n : Nat) (hp hp' : Hp) : Prop := ∀ id, id < n → hp'.get id = hp.get id
theorem Ag.refl (n : Nat) (hp : Hp) : Ag n hp hp := fun _ _ => rfl
theorem Ag.trunc {n : Nat} {hp hp' : Hp} (h : Ag n hp hp') : Ag n hp (Hp.trunc n hp') := fun id hi => (Hp.get_trunc hp' n id hi).trans (h id hi)
theorem Ag.set {n : Nat} {hp hp' : Hp} {o : Ob} (h : Ag n hp hp') : Ag n hp (hp'.set n o) := fun id hi => (Hp.get_set_ne hp' n id o (by omega)).trans (h id hi)
def SQ (e : Env) (hp : Hp) (n n0 : Nat) (s : St) : Prop := ∃ hp' c, Ag n hp hp' ∧ s = ⟨e, hp', n, c, n0, []⟩

theorem badT_quiet (im : Im) (t : Int) (ht : t ≤ 9223372036854775807) (hp : Hp) (n c id g : Nat) (hg : hp.get id = some ⟨g, false, im.cells.map .d⟩) (hn : id < n) : Quiet Tryd.prog Cp.cfg 46 [dI t, .ptr id g 0] hp n c (.bool (!typOK im.enums t)) := by
  have h := typ_den im t ht
  simp only [Im.cells, List.map_cons, List.map_nil, dI, dB, aM] at h hg
  refine quiet_wp Tryd.func46 rfl (by kernel_rfl) rfl ?_
  repeat (first
    | apply WP.seq
    | (apply WP.reg
       case hR => dsimp only [prepL, prepO, List.map, List.getElem?_cons_succ, List.getElem?_cons_zero]; exact Is.rfl
       case hr =>
         repeat (first
           | (apply RT.op (h := by simp [envOf, dI, hg, h]; exact Is.rfl) (he := by (try dsimp only [putEnv]) <;> exact rfl))
           | (apply RT.call (hg := by simp; exact Is.rfl) (hfo := by simp; exact Is.rfl) (hpr := by exact Is.rfl) (hvs := by simp [envOf, dI, hg, h]; exact Is.rfl) (hcl := by simp [envOf, dI, hg, h]; exact Is.rfl) (hd := by simp [envOf, dI, hg, h]; exact Is.rfl) (hwr := by simp [envOf, dI, hg, h]; exact Is.rfl) (hlt := by simp [Is]) (he := by (try dsimp only [putEnv]) <;> exact rfl) (hh := by simp; exact Is.rfl) (hw := by simp; exact Is.rfl))
           | (apply RT.callQ (hg := by simp; exact Is.rfl) (hfo := by simp; exact Is.rfl) (hpr := by exact Is.rfl) (hvs := by simp [envOf, dI, hg, h]; exact Is.rfl) (hcl := by simp [envOf, dI, hg, h]; exact Is.rfl) (hd := by simp [envOf, dI, hg, h]; exact Is.rfl) (he := by (try dsimp only [putEnv]) <;> exact rfl))
           | (apply RT.wr (h := by simp [envOf, dI, hg, h]; exact Is.rfl) (he := by (try dsimp only [putEnv]) <;> exact rfl) (hh := by simp [envOf, dI, hg, h]; exact Is.rfl) (hn := by exact Is.rfl) (hc := by exact Is.rfl) (hw := by simp; exact Is.rfl)))
         exact RT.nil
       case hc => (show _ = _; kernel_rfl)
       case ht => simp [envOf, dI, hg, h]; exact Is.rfl)
    | apply WP.block
    | apply WP.skip
    | apply WP.exit
    | apply WP.ret)
  exact ⟨.inr rfl, rfl, _, rfl, rfl⟩

theorem indexT (im : Im) (l : List Int) (hl : l.length ≤ MX) (hi : ∀ t, t ∈ l → t ≤ 9223372036854775807) (hp : Hp) (n c id g : Nat) (hg : hp.get id = some ⟨g, false, im.cells.map .d⟩) (hn : id < n) : Quiet Tryd.prog Cp.cfg 43 [dL l, .fn 46 [.ptr id g 0]] hp n c (.int .i64 (idxP (fun t => !typOK im.enums t) l)) := by
  unfold MX at hl
  refine quiet_wp Tryd.func43 rfl (by kernel_rfl) rfl ?_
  repeat (first
    | apply WP.seq
    | (apply WP.reg
       case hR => dsimp only [prepL, prepO, List.map, List.getElem?_cons_succ, List.getElem?_cons_zero]; exact Is.rfl
       case hr =>
         repeat (first
           | (apply RT.op (h := by simp [envOf, dL]; exact Is.rfl) (he := by (try dsimp only [putEnv]) <;> exact rfl))
           | (apply RT.call (hg := by simp; exact Is.rfl) (hfo := by simp; exact Is.rfl) (hpr := by exact Is.rfl) (hvs := by simp [envOf, dL]; exact Is.rfl) (hcl := by simp [envOf, dL]; exact Is.rfl) (hd := by simp [envOf, dL]; exact Is.rfl) (hwr := by simp [envOf, dL]; exact Is.rfl) (hlt := by simp [Is]) (he := by (try dsimp only [putEnv]) <;> exact rfl) (hh := by simp; exact Is.rfl) (hw := by simp; exact Is.rfl))
           | (apply RT.callQ (hg := by simp; exact Is.rfl) (hfo := by simp; exact Is.rfl) (hpr := by exact Is.rfl) (hvs := by simp [envOf, dL]; exact Is.rfl) (hcl := by simp [envOf, dL]; exact Is.rfl) (hd := by simp [envOf, dL]; exact Is.rfl) (he := by (try dsimp only [putEnv]) <;> exact rfl))
           | (apply RT.wr (h := by simp [envOf, dL]; exact Is.rfl) (he := by (try dsimp only [putEnv]) <;> exact rfl) (hh := by simp [envOf, dL]; exact Is.rfl) (hn := by exact Is.rfl) (hc := by exact Is.rfl) (hw := by simp; exact Is.rfl)))
         exact RT.nil
       case hc => (show _ = _; kernel_rfl)
       case ht => simp [envOf, dL]; exact Is.rfl)
    | apply WP.block
    | apply WP.skip
    | apply WP.exit
    | apply WP.ret)
  apply WP.loop' (I := fun d s => ∃ i : Nat, i + d = l.length ∧ (l.take i).all (fun v => !!typOK im.enums v) = true ∧ SQ [(0, dL l), (1, .fn 46 [.ptr id g 0]), (7, dI l.length), (8, dI i)] hp n n s) (d := l.length)
  · exact ⟨0, by simp, by simp, _, _, Ag.refl n hp, st_eq (by simp [dL, dI]) rfl⟩
  rintro d _ ⟨i, hii, hno, hp', c1, hag, rfl⟩
  repeat (first
    | apply WP.seq
    | (apply WP.reg
       case hR => dsimp only [prepL, prepO, List.map, List.getElem?_cons_succ, List.getElem?_cons_zero]; exact Is.rfl
       case hr =>
         repeat (first
           | (apply RT.op (h := by simp [dI, dL]; exact Is.rfl) (he := by (try dsimp only [putEnv]) <;> exact rfl))
           | (apply RT.call (hg := by simp; exact Is.rfl) (hfo := by simp; exact Is.rfl) (hpr := by exact Is.rfl) (hvs := by simp [dI, dL]; exact Is.rfl) (hcl := by simp [dI, dL]; exact Is.rfl) (hd := by simp [dI, dL]; exact Is.rfl) (hwr := by simp [dI, dL]; exact Is.rfl) (hlt := by simp [Is]) (he := by (try dsimp only [putEnv]) <;> exact rfl) (hh := by simp; exact Is.rfl) (hw := by simp; exact Is.rfl))
           | (apply RT.callQ (hg := by simp; exact Is.rfl) (hfo := by simp; exact Is.rfl) (hpr := by exact Is.rfl) (hvs := by simp [dI, dL]; exact Is.rfl) (hcl := by simp [dI, dL]; exact Is.rfl) (hd := by simp [dI, dL]; exact Is.rfl) (he := by (try dsimp only [putEnv]) <;> exact rfl))
           | (apply RT.wr (h := by simp [dI, dL]; exact Is.rfl) (he := by (try dsimp only [putEnv]) <;> exact rfl) (hh := by simp [dI, dL]; exact Is.rfl) (hn := by exact Is.rfl) (hc := by exact Is.rfl) (hw := by simp; exact Is.rfl)))
         exact RT.nil
       case hc => (show _ = _; kernel_rfl)
       case ht => simp [dI, dL]; exact Is.rfl)
    | apply WP.block
    | apply WP.skip
    | apply WP.exit
    | apply WP.ret)
  show WP _ _ _ _ _ _
  refine WP.cond _ rfl (fun hb => ?_) (fun hb => ?_)
  · simp at hb
    have hb' : i < l.length := hb
    obtain ⟨v, hv, hvm, hix⟩ := at_lt hb'
    have hv' := encI_at hv
    have hw := w_succ hb' (by omega)
    have hts := all_take_succ (p := fun v => !!typOK im.enums v) hv
    have h3 := fun c => badT_quiet im v (hi v hvm) hp' n c id g (by rw [hag id hn, hg]) hn
    obtain ⟨h5, h6, h4⟩ := Quiet.fn h3
    simp only [dI] at h4
    repeat (first
      | apply WP.seq
      | (apply WP.reg
         case hR => dsimp only [prepL, prepO, List.map, List.getElem?_cons_succ, List.getElem?_cons_zero]; exact Is.rfl
         case hr =>
           repeat (first
             | (apply RT.op (h := by simp [hix, hv', dL, h4]; exact Is.rfl) (he := by (try dsimp only [putEnv]) <;> exact rfl))
             | (apply RT.call (hg := by simp; exact Is.rfl) (hfo := by simp; exact Is.rfl) (hpr := by exact Is.rfl) (hvs := by simp [hix, hv', dL, h4]; exact Is.rfl) (hcl := by simp [hix, hv', dL, h4]; exact Is.rfl) (hd := by simp [hix, hv', dL, h4]; exact Is.rfl) (hwr := by simp [hix, hv', dL, h4]; exact Is.rfl) (hlt := by simp [Is]) (he := by (try dsimp only [putEnv]) <;> exact rfl) (hh := by simp; exact Is.rfl) (hw := by simp; exact Is.rfl))
             | (apply RT.callQ (hg := by simp; exact Is.rfl) (hfo := by simp; exact Is.rfl) (hpr := by exact Is.rfl) (hvs := by simp [hix, hv', dL, h4]; exact Is.rfl) (hcl := by simp [hix, hv', dL, h4]; exact Is.rfl) (hd := by simp [hix, hv', dL, h4]; exact Is.rfl) (he := by (try dsimp only [putEnv]) <;> exact rfl))
             | (apply RT.wr (h := by simp [hix, hv', dL, h4]; exact Is.rfl) (he := by (try dsimp only [putEnv]) <;> exact rfl) (hh := by simp [hix, hv', dL, h4]; exact Is.rfl) (hn := by exact Is.rfl) (hc := by exact Is.rfl) (hw := by simp; exact Is.rfl)))
           exact RT.nil
         case hc => (show _ = _; kernel_rfl)
         case ht => simp [hix, hv', dL, h4]; exact Is.rfl)
      | apply WP.block
      | apply WP.skip
      | apply WP.exit
      | apply WP.ret)
    show WP _ _ _ _ _ _
    refine WP.cond _ rfl (fun hb => ?_) (fun hb => ?_)
    · repeat (first
        | apply WP.seq
        | (apply WP.reg
           case hR => dsimp only [prepL, prepO, List.map, List.getElem?_cons_succ, List.getElem?_cons_zero]; exact Is.rfl
           case hr =>
             repeat (first
               | (apply RT.op (h := by simp; exact Is.rfl) (he := by (try dsimp only [putEnv]) <;> exact rfl))
               | (apply RT.call (hg := by simp; exact Is.rfl) (hfo := by simp; exact Is.rfl) (hpr := by exact Is.rfl) (hvs := by simp; exact Is.rfl) (hcl := by simp; exact Is.rfl) (hd := by simp; exact Is.rfl) (hwr := by simp; exact Is.rfl) (hlt := by simp [Is]) (he := by (try dsimp only [putEnv]) <;> exact rfl) (hh := by simp; exact Is.rfl) (hw := by simp; exact Is.rfl))
               | (apply RT.callQ (hg := by simp; exact Is.rfl) (hfo := by simp; exact Is.rfl) (hpr := by exact Is.rfl) (hvs := by simp; exact Is.rfl) (hcl := by simp; exact Is.rfl) (hd := by simp; exact Is.rfl) (he := by (try dsimp only [putEnv]) <;> exact rfl))
               | (apply RT.wr (h := by simp; exact Is.rfl) (he := by (try dsimp only [putEnv]) <;> exact rfl) (hh := by simp; exact Is.rfl) (hn := by exact Is.rfl) (hc := by exact Is.rfl) (hw := by simp; exact Is.rfl)))
             exact RT.nil
           case hc => (show _ = _; kernel_rfl)
           case ht => simp; exact Is.rfl)
        | apply WP.block
        | apply WP.skip
        | apply WP.exit
        | apply WP.ret)
      rw [idxP_some hno hv hb]
      exact ⟨.inr rfl, rfl, _, rfl, rfl⟩
    · repeat (first
        | apply WP.seq
        | (apply WP.reg
           case hR => dsimp only [prepL, prepO, List.map, List.getElem?_cons_succ, List.getElem?_cons_zero]; exact Is.rfl
           case hr =>
             repeat (first
               | (apply RT.op (h := by simp; exact Is.rfl) (he := by (try dsimp only [putEnv]) <;> exact rfl))
               | (apply RT.call (hg := by simp; exact Is.rfl) (hfo := by simp; exact Is.rfl) (hpr := by exact Is.rfl) (hvs := by simp; exact Is.rfl) (hcl := by simp; exact Is.rfl) (hd := by simp; exact Is.rfl) (hwr := by simp; exact Is.rfl) (hlt := by simp [Is]) (he := by (try dsimp only [putEnv]) <;> exact rfl) (hh := by simp; exact Is.rfl) (hw := by simp; exact Is.rfl))
               | (apply RT.callQ (hg := by simp; exact Is.rfl) (hfo := by simp; exact Is.rfl) (hpr := by exact Is.rfl) (hvs := by simp; exact Is.rfl) (hcl := by simp; exact Is.rfl) (hd := by simp; exact Is.rfl) (he := by (try dsimp only [putEnv]) <;> exact rfl))
               | (apply RT.wr (h := by simp; exact Is.rfl) (he := by (try dsimp only [putEnv]) <;> exact rfl) (hh := by simp; exact Is.rfl) (hn := by exact Is.rfl) (hc := by exact Is.rfl) (hw := by simp; exact Is.rfl)))
             exact RT.nil
           case hc => (show _ = _; kernel_rfl)
           case ht => simp; exact Is.rfl)
        | apply WP.block
        | apply WP.skip
        | apply WP.exit
        | apply WP.ret)
      refine loop_next (by simp [hw]; exact Is.rfl) ?_
      exact ⟨d - 1, by omega, i + 1, by omega, by rw [hts, hno]; simpa using hb, _, _, hag.trunc, st_eq (by simp [dI, dL, hw]) rfl⟩
  · simp at hb
    have hil : i = l.length := by omega
    subst hil
    repeat (first
      | apply WP.seq
      | (apply WP.reg
         case hR => dsimp only [prepL, prepO, List.map, List.getElem?_cons_succ, List.getElem?_cons_zero]; exact Is.rfl
         case hr =>
           repeat (first
             | (apply RT.op (h := by simp; exact Is.rfl) (he := by (try dsimp only [putEnv]) <;> exact rfl))
             | (apply RT.call (hg := by simp; exact Is.rfl) (hfo := by simp; exact Is.rfl) (hpr := by exact Is.rfl) (hvs := by simp; exact Is.rfl) (hcl := by simp; exact Is.rfl) (hd := by simp; exact Is.rfl) (hwr := by simp; exact Is.rfl) (hlt := by simp [Is]) (he := by (try dsimp only [putEnv]) <;> exact rfl) (hh := by simp; exact Is.rfl) (hw := by simp; exact Is.rfl))
             | (apply RT.callQ (hg := by simp; exact Is.rfl) (hfo := by simp; exact Is.rfl) (hpr := by exact Is.rfl) (hvs := by simp; exact Is.rfl) (hcl := by simp; exact Is.rfl) (hd := by simp; exact Is.rfl) (he := by (try dsimp only [putEnv]) <;> exact rfl))
             | (apply RT.wr (h := by simp; exact Is.rfl) (he := by (try dsimp only [putEnv]) <;> exact rfl) (hh := by simp; exact Is.rfl) (hn := by exact Is.rfl) (hc := by exact Is.rfl) (hw := by simp; exact Is.rfl)))
           exact RT.nil
         case hc => (show _ = _; kernel_rfl)
         case ht => simp; exact Is.rfl)
      | apply WP.block
      | apply WP.skip
      | apply WP.exit
      | apply WP.ret)
    rw [idxP_none hno]
    exact ⟨.inr rfl, rfl, _, rfl, rfl⟩
theorem containsT (im : Im) (l : List Int) (hl : l.length ≤ MX) (hi : ∀ t, t ∈ l → t ≤ 9223372036854775807) (hp : Hp) (n c id g : Nat) (hg : hp.get id = some ⟨g, false, im.cells.map .d⟩) (hn : id < n) : Quiet Tryd.prog Cp.cfg 36 [dL l, .fn 46 [.ptr id g 0]] hp n c (.bool (l.any (fun t => !typOK im.enums t))) := by
  obtain ⟨h5, h6, h4⟩ := Quiet.fn (fun c => indexT im l hl hi hp n c id g hg hn)
  simp only [dL] at h4
  rw [← idxP_any]
  refine quiet_wp Tryd.func36 rfl (by kernel_rfl) rfl ?_
  repeat (first
    | apply WP.seq
    | (apply WP.reg
       case hR => dsimp only [prepL, prepO, List.map, List.getElem?_cons_succ, List.getElem?_cons_zero]; exact Is.rfl
       case hr =>
         repeat (first
           | (apply RT.op (h := by simp [envOf, dL, h4]; exact Is.rfl) (he := by (try dsimp only [putEnv]) <;> exact rfl))
           | (apply RT.call (hg := by simp; exact Is.rfl) (hfo := by simp; exact Is.rfl) (hpr := by exact Is.rfl) (hvs := by simp [envOf, dL, h4]; exact Is.rfl) (hcl := by simp [envOf, dL, h4]; exact Is.rfl) (hd := by simp [envOf, dL, h4]; exact Is.rfl) (hwr := by simp [envOf, dL, h4]; exact Is.rfl) (hlt := by simp [Is]) (he := by (try dsimp only [putEnv]) <;> exact rfl) (hh := by simp; exact Is.rfl) (hw := by simp; exact Is.rfl))
           | (apply RT.callQ (hg := by simp; exact Is.rfl) (hfo := by simp; exact Is.rfl) (hpr := by exact Is.rfl) (hvs := by simp [envOf, dL, h4]; exact Is.rfl) (hcl := by simp [envOf, dL, h4]; exact Is.rfl) (hd := by simp [envOf, dL, h4]; exact Is.rfl) (he := by (try dsimp only [putEnv]) <;> exact rfl))
           | (apply RT.wr (h := by simp [envOf, dL, h4]; exact Is.rfl) (he := by (try dsimp only [putEnv]) <;> exact rfl) (hh := by simp [envOf, dL, h4]; exact Is.rfl) (hn := by exact Is.rfl) (hc := by exact Is.rfl) (hw := by simp; exact Is.rfl)))
         exact RT.nil
       case hc => (show _ = _; kernel_rfl)
       case ht => simp [envOf, dL, h4]; exact Is.rfl)
    | apply WP.block
    | apply WP.skip
    | apply WP.exit
    | apply WP.ret)
  exact ⟨.inr rfl, rfl, _, rfl, rfl⟩
end Go.Ac
end

section
set_option maxRecDepth 4000
set_option linter.unusedSimpArgs false
set_option linter.unusedVariables false
namespace Go.Ac
open Go.Proofs

theorem wo1 : IntKind.i64.wrap 1 = 1 := by rfl
theorem wo2 : IntKind.i64.wrap 2 = 2 := by rfl
def cI (l : List Int) : List V := l.map dI
theorem cI_len (l : List Int) : (cI l).length = l.length := by simp [cI]
theorem cI_app (a b : List Int) : cI (a ++ b) = cI a ++ cI b := by simp [cI]
theorem nble_d (a b : Nat) : Nat.ble a b = decide (a ≤ b) := by
  by_cases h : a ≤ b
  · rw [Nat.ble_eq_true_of_le h]; simp [h]
  · cases hb : Nat.ble a b with
    | false => simp [h]
    | true => exact absurd (Nat.le_of_ble_eq_true hb) h
theorem cI_flat : ∀ l : List Int, (encI l).flatten.map V.d = cI l
  | [] => rfl
  | x :: r => by
    have := cI_flat r
    show dI x :: List.map V.d (encI r).flatten = dI x :: cI r
    rw [this]
theorem encI_one (l : List Int) : (encI l).all (fun r => Nat.beq r.length 1) = true := by
  rw [List.all_eq_true]; intro r hr
  unfold encI at hr; obtain ⟨x, _, rfl⟩ := List.mem_map.1 hr; rfl
theorem rowsI (look : Look) (l : List Int) : rowsOf look 1 (.d (.slice (encI l))) = some (l.length, cI l, []) := by
  show (if ((encI l).all fun r => Nat.beq r.length 1) = true then some ((encI l).length, (encI l).flatten.map V.d, ([] : List Nat)) else none) = _
  rw [if_pos (encI_one l), cI_flat, encI_len]
theorem shiftVs_rep (n c : Nat) : ∀ m : Nat, shiftVs n c (List.replicate m (dI 0)) = List.replicate m (dI 0)
  | 0 => rfl
  | m + 1 => by rw [List.replicate_succ, shiftVs, shiftVs_rep n c m]; rfl
theorem chunkI : ∀ l : List Int, chunk 1 l.length (l.map ni) = encI l
  | [] => rfl
  | x :: r => by simp [chunk, encI, chunkI r]
theorem toDs_ci (look : Look) (f : Nat) : ∀ l : List Int, toDs (toD look f) (cI l) = some (l.map ni, [])
  | [] => rfl
  | x :: r => by
    have := toDs_ci look f r
    unfold cI at this ⊢
    simp only [List.map_cons]
    unfold toDs
    rw [this]
    have : toD look f (dI x) = some (ni x, []) := by cases f <;> rfl
    rw [this]; rfl
theorem toD_dep (look : Look) (id g off len sz : Nat) (cap : Option Nat) : toD look depthD (.osl id g off len sz cap) = match live look id g with
    | some o => match Nat.ble (off + len * sz) o.cells.length, toDs (toD look 4611686018427387903) ((o.cells.drop off).take (len * sz)) with
      | true, some (ds, r) => some (.slice (chunk sz len ds), id :: r)
      | _, _ => none
    | none => none := Eq.trans rfl rfl
theorem close_osl1 {look : Look} {id g : Nat} {ro : Bool} {cs : List V} {l : List Int} {cap : Option Nat} (hl : look id = some ⟨g, ro, cs⟩) (hc : cs.take l.length = cI l) (hn : l.length ≤ cs.length) : closeT look (.osl id g 0 l.length 1 cap) = some (dL l, [id]) := by
  show ofD (toD look depthD _) = _
  rw [toD_dep]
  have : live look id g = some ⟨g, ro, cs⟩ := by simp [live, hl]
  rw [this]
  simp only [Nat.zero_add, Nat.mul_one, List.drop_zero, hc, toDs_ci, chunkI, nble_d, hn, decide_true]
  rfl

theorem grow_lim (m : Nat) (h0 : 0 < m) (hm : m ≤ 1000000) : lim Tryd.prog Cp.cfg 60 [.full [], dI m] [] 0 0 = some ⟨.osl 0 0 0 0 1 none, [(0, ⟨0, false, List.replicate m (dI 0)⟩)], 1, 1, []⟩ := by
  have hw : IntKind.i64.wrap (m : Int) = m := by rw [w_id'] <;> omega
  have h1 : ((m : Int) < 0) = False := by simp
  have h2 : ((m : Int) > 0) = True := by simp; omega
  have h2' : (0 < m) = True := by simp; omega
  have wl0 : IntKind.i64.wrap 0 = 0 := by rfl
  have hfit : fitsB m 8 = true := by simp [fitsB]; omega
  have hmx : ((m : Int) ≤ 9223372036854775807) = True := by simp; omega
  have h := lim_wp (P := Tryd.prog) (cfg := Cp.cfg) (vs := [.full [], dI m]) (hp := []) (n := 0) (c := 0) (Q := fun v t => v = .osl 0 0 0 0 1 none ∧ t.hp = [(0, ⟨0, false, List.replicate m (dI 0)⟩)] ∧ t.n = 1 ∧ t.c = 1 ∧ t.wl = []) Tryd.func60 rfl (by kernel_rfl) (by
    repeat (first
      | apply WP.seq
      | (apply WP.reg
         case hR => dsimp only [prepL, prepO, List.map, List.getElem?_cons_succ, List.getElem?_cons_zero]; exact Is.rfl
         case hr =>
           repeat (first
             | (apply RT.op (h := by simp [envOf, dI, h1, h2, h2', hw, wl0, Int.sub_zero, hfit, hmx, h0, appendNV, z3_eq, z0, V.one]; exact Is.rfl) (he := by (try dsimp only [putEnv]) <;> exact rfl))
             | (apply RT.call (hg := by simp; exact Is.rfl) (hfo := by simp; exact Is.rfl) (hpr := by exact Is.rfl) (hvs := by simp [envOf, dI, h1, h2, h2', hw, wl0, Int.sub_zero, hfit, hmx, h0, appendNV, z3_eq, z0, V.one]; exact Is.rfl) (hcl := by simp [envOf, dI, h1, h2, h2', hw, wl0, Int.sub_zero, hfit, hmx, h0, appendNV, z3_eq, z0, V.one]; exact Is.rfl) (hd := by simp [envOf, dI, h1, h2, h2', hw, wl0, Int.sub_zero, hfit, hmx, h0, appendNV, z3_eq, z0, V.one]; exact Is.rfl) (hwr := by simp [envOf, dI, h1, h2, h2', hw, wl0, Int.sub_zero, hfit, hmx, h0, appendNV, z3_eq, z0, V.one]; exact Is.rfl) (hlt := by simp [Is]) (he := by (try dsimp only [putEnv]) <;> exact rfl) (hh := by simp; exact Is.rfl) (hw := by simp; exact Is.rfl))
             | (apply RT.callI (hg := by simp; exact Is.rfl) (hfo := by simp; exact Is.rfl) (hpr := by exact Is.rfl) (hvs := by simp [envOf, dI, h1, h2, h2', hw, wl0, Int.sub_zero, hfit, hmx, h0, appendNV, z3_eq, z0, V.one]; exact Is.rfl) (hcl := by simp [envOf, dI, h1, h2, h2', hw, wl0, Int.sub_zero, hfit, hmx, h0, appendNV, z3_eq, z0, V.one]; exact Is.rfl) (hd := hI1) (hne := hI2) (hw := hI3) (hwr := hI4) (he := by (try dsimp only [putEnv]) <;> exact rfl) (hn0 := by first | omega | simp))
             | (apply RT.wr (h := by simp [envOf, dI, h1, h2, h2', hw, wl0, Int.sub_zero, hfit, hmx, h0, appendNV, z3_eq, z0, V.one]; exact Is.rfl) (he := by (try dsimp only [putEnv]) <;> exact rfl) (hh := by simp [envOf, dI, h1, h2, h2', hw, wl0, Int.sub_zero, hfit, hmx, h0, appendNV, z3_eq, z0, V.one]; exact Is.rfl) (hn := by exact Is.rfl) (hc := by exact Is.rfl) (hw := by simp; exact Is.rfl)))
           exact RT.nil
         case hc => (show _ = _; kernel_rfl)
         case ht => simp [envOf, dI, h1, h2, h2', hw, wl0, Int.sub_zero, hfit, hmx, h0, appendNV, z3_eq, z0, V.one]; exact Is.rfl)
      | apply WP.block
      | apply WP.skip
      | apply WP.exit
      | apply WP.ret
      | refine WP.condT rfl ?_
      | refine WP.condF rfl ?_)
    exact ⟨.inr rfl, _, rfl, .inl rfl, rfl, rfl, rfl, rfl, rfl⟩)
  obtain ⟨v, t, h, h3, h4, h5, h6, h7⟩ := h
  rw [h, h3, h4, h5, h6, h7]

theorem concat_nil : den Tryd.prog Cp.cfg 45 [.d (.slice [[.slice []], [.slice []]])] = some (dL []) := den_k 100 (fun k => by kernel_rfl) rfl

def pre2 (a b : List Int) : Nat → List Int | 0 => [] | 1 => a | _ => a ++ b
set_option maxHeartbeats 2000000 in
theorem concat_den (a b : List Int) (ha : a.length ≤ 400000) (hb : b.length ≤ 400000) : den Tryd.prog Cp.cfg 45 [.d (.slice [[.slice (encI a)], [.slice (encI b)]])] = some (dL (a ++ b)) := by
  by_cases hz : a.length + b.length = 0
  · have h1 : a = [] := List.eq_nil_of_length_eq_zero (by omega)
    have h2 : b = [] := List.eq_nil_of_length_eq_zero (by omega)
    subst h1; subst h2
    exact concat_nil
  have hI1 := grow_lim (a.length + b.length) (by omega) (by omega)
  have hI2 : closeT noLook (CR.mk (.osl 0 0 0 0 1 none) [(0, ⟨0, false, List.replicate (a.length + b.length) (dI 0)⟩)] 1 1 []).v = none := rfl
  have wa : IntKind.i64.wrap (a.length : Int) = a.length := by rw [w_id'] <;> omega
  have wb : IntKind.i64.wrap ((a.length : Int) + b.length) = (a.length : Int) + b.length := by rw [w_id'] <;> omega
  have na : ((a.length : Int) < 0) = False := by simp
  have nb : ((a.length : Int) + b.length < 0) = False := by simp; omega
  have fa : fitsB a.length 8 = true := by simp [fitsB]; omega
  have fb : fitsB (a.length + b.length) 8 = true := by simp [fitsB]; omega
  refine den_wp Tryd.func45 rfl (by kernel_rfl) rfl rfl ?_
  repeat (first
    | apply WP.seq
    | (apply WP.reg
       case hR => dsimp only [prepL, prepO, List.map, List.getElem?_cons_succ, List.getElem?_cons_zero]; exact Is.rfl
       case hr =>
         repeat (first
           | (apply RT.op (h := by simp; exact Is.rfl) (he := by (try dsimp only [putEnv]) <;> exact rfl))
           | (apply RT.call (hg := by simp; exact Is.rfl) (hfo := by simp; exact Is.rfl) (hpr := by exact Is.rfl) (hvs := by simp; exact Is.rfl) (hcl := by simp; exact Is.rfl) (hd := by simp; exact Is.rfl) (hwr := by simp; exact Is.rfl) (hlt := by simp [Is]) (he := by (try dsimp only [putEnv]) <;> exact rfl) (hh := by simp; exact Is.rfl) (hw := by simp; exact Is.rfl))
           | (apply RT.callI (hg := by simp; exact Is.rfl) (hfo := by simp; exact Is.rfl) (hpr := by exact Is.rfl) (hvs := by simp; exact Is.rfl) (hcl := by simp; exact Is.rfl) (hd := hI1) (hne := hI2) (hw := hI3) (hwr := hI4) (he := by (try dsimp only [putEnv]) <;> exact rfl) (hn0 := by first | omega | simp))
           | (apply RT.wr (h := by simp; exact Is.rfl) (he := by (try dsimp only [putEnv]) <;> exact rfl) (hh := by simp; exact Is.rfl) (hn := by exact Is.rfl) (hc := by exact Is.rfl) (hw := by simp; exact Is.rfl)))
         exact RT.nil
       case hc => (show _ = _; kernel_rfl)
       case ht => simp; exact Is.rfl)
    | apply WP.block
    | apply WP.skip
    | apply WP.exit
    | apply WP.ret)
  apply WP.loop' (I := fun D s => ∃ i : Nat, i + D = 2 ∧ SE [(0, .d (.slice [[.slice (encI a)], [.slice (encI b)]])), (3, dI (pre2 a b i).length), (9, .d (.slice [[.slice (encI a)], [.slice (encI b)]])), (10, dI 2), (11, dI i)] [] 0 s) (d := 2)
  · exact ⟨0, by simp, SE.mk (by simp [dI, pre2]) rfl⟩
  rintro D _ ⟨i, hi, cc, rfl⟩
  have hi' : i = 0 ∨ i = 1 ∨ i = 2 := by omega
  rcases hi' with rfl | rfl | rfl
  · repeat (first
      | apply WP.seq
      | (apply WP.reg
         case hR => dsimp only [prepL, prepO, List.map, List.getElem?_cons_succ, List.getElem?_cons_zero]; exact Is.rfl
         case hr =>
           repeat (first
             | (apply RT.op (h := by simp [dI, pre2, wa, na]; exact Is.rfl) (he := by (try dsimp only [putEnv]) <;> exact rfl))
             | (apply RT.call (hg := by simp; exact Is.rfl) (hfo := by simp; exact Is.rfl) (hpr := by exact Is.rfl) (hvs := by simp [dI, pre2, wa, na]; exact Is.rfl) (hcl := by simp [dI, pre2, wa, na]; exact Is.rfl) (hd := by simp [dI, pre2, wa, na]; exact Is.rfl) (hwr := by simp [dI, pre2, wa, na]; exact Is.rfl) (hlt := by simp [Is]) (he := by (try dsimp only [putEnv]) <;> exact rfl) (hh := by simp; exact Is.rfl) (hw := by simp; exact Is.rfl))
             | (apply RT.callI (hg := by simp; exact Is.rfl) (hfo := by simp; exact Is.rfl) (hpr := by exact Is.rfl) (hvs := by simp [dI, pre2, wa, na]; exact Is.rfl) (hcl := by simp [dI, pre2, wa, na]; exact Is.rfl) (hd := hI1) (hne := hI2) (hw := hI3) (hwr := hI4) (he := by (try dsimp only [putEnv]) <;> exact rfl) (hn0 := by first | omega | simp))
             | (apply RT.wr (h := by simp [dI, pre2, wa, na]; exact Is.rfl) (he := by (try dsimp only [putEnv]) <;> exact rfl) (hh := by simp [dI, pre2, wa, na]; exact Is.rfl) (hn := by exact Is.rfl) (hc := by exact Is.rfl) (hw := by simp; exact Is.rfl)))
           exact RT.nil
         case hc => (show _ = _; kernel_rfl)
         case ht => simp [dI, pre2, wa, na]; exact Is.rfl)
      | apply WP.block
      | apply WP.skip
      | apply WP.exit
      | apply WP.ret
      | refine WP.condT rfl ?_
      | refine WP.condF rfl ?_)
    refine loop_next (by simp; exact Is.rfl) ?_
    exact ⟨1, by omega, 1, by omega, SE.mk (by simp [dI, pre2, wa]; rfl) rfl⟩
  · repeat (first
      | apply WP.seq
      | (apply WP.reg
         case hR => dsimp only [prepL, prepO, List.map, List.getElem?_cons_succ, List.getElem?_cons_zero]; exact Is.rfl
         case hr =>
           repeat (first
             | (apply RT.op (h := by simp [dI, pre2, wb, nb]; exact Is.rfl) (he := by (try dsimp only [putEnv]) <;> exact rfl))
             | (apply RT.call (hg := by simp; exact Is.rfl) (hfo := by simp; exact Is.rfl) (hpr := by exact Is.rfl) (hvs := by simp [dI, pre2, wb, nb]; exact Is.rfl) (hcl := by simp [dI, pre2, wb, nb]; exact Is.rfl) (hd := by simp [dI, pre2, wb, nb]; exact Is.rfl) (hwr := by simp [dI, pre2, wb, nb]; exact Is.rfl) (hlt := by simp [Is]) (he := by (try dsimp only [putEnv]) <;> exact rfl) (hh := by simp; exact Is.rfl) (hw := by simp; exact Is.rfl))
             | (apply RT.callI (hg := by simp; exact Is.rfl) (hfo := by simp; exact Is.rfl) (hpr := by exact Is.rfl) (hvs := by simp [dI, pre2, wb, nb]; exact Is.rfl) (hcl := by simp [dI, pre2, wb, nb]; exact Is.rfl) (hd := hI1) (hne := hI2) (hw := hI3) (hwr := hI4) (he := by (try dsimp only [putEnv]) <;> exact rfl) (hn0 := by first | omega | simp))
             | (apply RT.wr (h := by simp [dI, pre2, wb, nb]; exact Is.rfl) (he := by (try dsimp only [putEnv]) <;> exact rfl) (hh := by simp [dI, pre2, wb, nb]; exact Is.rfl) (hn := by exact Is.rfl) (hc := by exact Is.rfl) (hw := by simp; exact Is.rfl)))
           exact RT.nil
         case hc => (show _ = _; kernel_rfl)
         case ht => simp [dI, pre2, wb, nb]; exact Is.rfl)
      | apply WP.block
      | apply WP.skip
      | apply WP.exit
      | apply WP.ret
      | refine WP.condT rfl ?_
      | refine WP.condF rfl ?_)
    refine loop_next (by simp; exact Is.rfl) ?_
    exact ⟨0, by omega, 2, by omega, SE.mk (by simp [dI, pre2, wb]; rfl) rfl⟩
  · have hI3 : shiftV 0 cc (CR.mk (.osl 0 0 0 0 1 none) [(0, ⟨0, false, List.replicate (a.length + b.length) (dI 0)⟩)] 1 1 []).v = .osl 0 cc 0 0 1 none := by simp [shiftV]
    have hI4 : shiftH 0 cc (wrOf (CR.mk (.osl 0 0 0 0 1 none) [(0, ⟨0, false, List.replicate (a.length + b.length) (dI 0)⟩)] 1 1 []).hp.get (List.range (CR.mk (.osl 0 0 0 0 1 none) [(0, ⟨0, false, List.replicate (a.length + b.length) (dI 0)⟩)] 1 1 []).n)) = [(0, ⟨cc, false, List.replicate (a.length + b.length) (dI 0)⟩)] := by
      simp [shiftH, wrOf, List.range_succ, shiftVs_rep]
    simp only [dI, Int.natCast_add] at hI1
    repeat (first
      | apply WP.seq
      | (apply WP.reg
         case hR => dsimp only [prepL, prepO, List.map, List.getElem?_cons_succ, List.getElem?_cons_zero]; exact Is.rfl
         case hr =>
           repeat (first
             | (apply RT.op (h := by simp [dI, pre2]; exact Is.rfl) (he := by (try dsimp only [putEnv]) <;> exact rfl))
             | (apply RT.call (hg := by simp; exact Is.rfl) (hfo := by simp; exact Is.rfl) (hpr := by exact Is.rfl) (hvs := by simp [dI, pre2]; exact Is.rfl) (hcl := by simp [dI, pre2]; exact Is.rfl) (hd := by simp [dI, pre2]; exact Is.rfl) (hwr := by simp [dI, pre2]; exact Is.rfl) (hlt := by simp [Is]) (he := by (try dsimp only [putEnv]) <;> exact rfl) (hh := by simp; exact Is.rfl) (hw := by simp; exact Is.rfl))
             | (apply RT.callI (hg := by simp; exact Is.rfl) (hfo := by simp; exact Is.rfl) (hpr := by exact Is.rfl) (hvs := by simp [dI, pre2]; exact Is.rfl) (hcl := by simp [dI, pre2]; exact Is.rfl) (hd := hI1) (hne := hI2) (hw := hI3) (hwr := hI4) (he := by (try dsimp only [putEnv]) <;> exact rfl) (hn0 := by first | omega | simp))
             | (apply RT.wr (h := by simp [dI, pre2]; exact Is.rfl) (he := by (try dsimp only [putEnv]) <;> exact rfl) (hh := by simp [dI, pre2]; exact Is.rfl) (hn := by exact Is.rfl) (hc := by exact Is.rfl) (hw := by simp; exact Is.rfl)))
           exact RT.nil
         case hc => (show _ = _; kernel_rfl)
         case ht => simp [dI, pre2]; exact Is.rfl)
      | apply WP.block
      | apply WP.skip
      | apply WP.exit
      | apply WP.ret
      | refine WP.condT rfl ?_
      | refine WP.condF rfl ?_)
    apply WP.loop' (I := fun D s => ∃ i : Nat, i + D = 2 ∧ ∃ g c cs, cs.take (pre2 a b i).length = cI (pre2 a b i) ∧ (pre2 a b i).length ≤ cs.length ∧ s = ⟨[(6, .osl 0 g 0 (pre2 a b i).length 1 none), (25, .d (.slice [[.slice (encI a)], [.slice (encI b)]])), (26, dI 2), (27, dI i)], [(0, ⟨g, false, cs⟩)], 1, c, 0, []⟩) (d := 2)
    · exact ⟨0, by simp, _, _, _, rfl, Nat.zero_le _, rfl⟩
    rintro D _ ⟨i, hi, g, c, cs, hct, hle, rfl⟩
    have hi' : i = 0 ∨ i = 1 ∨ i = 2 := by omega
    rcases hi' with rfl | rfl | rfl
    · simp only [pre2, List.length_nil] at hct hle ⊢
      repeat (first
        | apply WP.seq
        | (apply WP.reg
           case hR => dsimp only [prepL, prepO, List.map, List.getElem?_cons_succ, List.getElem?_cons_zero]; exact Is.rfl
           case hr =>
             repeat (first
               | (apply RT.op (h := by simp [dI, rowsI, nble_d, fa]; exact Is.rfl) (he := by (try dsimp only [putEnv]) <;> exact rfl))
               | (apply RT.call (hg := by simp; exact Is.rfl) (hfo := by simp; exact Is.rfl) (hpr := by exact Is.rfl) (hvs := by simp [dI, rowsI, nble_d, fa]; exact Is.rfl) (hcl := by simp [dI, rowsI, nble_d, fa]; exact Is.rfl) (hd := by simp [dI, rowsI, nble_d, fa]; exact Is.rfl) (hwr := by simp [dI, rowsI, nble_d, fa]; exact Is.rfl) (hlt := by simp [Is]) (he := by (try dsimp only [putEnv]) <;> exact rfl) (hh := by simp; exact Is.rfl) (hw := by simp; exact Is.rfl))
               | (apply RT.callI (hg := by simp; exact Is.rfl) (hfo := by simp; exact Is.rfl) (hpr := by exact Is.rfl) (hvs := by simp [dI, rowsI, nble_d, fa]; exact Is.rfl) (hcl := by simp [dI, rowsI, nble_d, fa]; exact Is.rfl) (hd := hI1) (hne := hI2) (hw := hI3) (hwr := hI4) (he := by (try dsimp only [putEnv]) <;> exact rfl) (hn0 := by first | omega | simp))
               | (apply RT.wr (h := by simp [dI, rowsI, nble_d, fa]; exact Is.rfl) (he := by (try dsimp only [putEnv]) <;> exact rfl) (hh := by simp [dI, rowsI, nble_d, fa]; exact Is.rfl) (hn := by exact Is.rfl) (hc := by exact Is.rfl) (hw := by simp; exact Is.rfl)))
             exact RT.nil
           case hc => (show _ = _; kernel_rfl)
           case ht => simp [dI, rowsI, nble_d, fa]; exact Is.rfl)
        | apply WP.block
        | apply WP.skip
        | apply WP.exit
        | apply WP.ret
        | refine WP.condT rfl ?_
        | refine WP.condF rfl ?_)
      refine loop_next (by simp; exact Is.rfl) ?_
      exact ⟨1, by omega, 1, by omega, c, _, cI a, List.take_of_length_le (by simp [pre2, cI]), by simp [pre2, cI], st_eq (by simp [pre2, dI, wo1]) (by simp)⟩
    · simp only [pre2] at hct hle ⊢
      repeat (first
        | apply WP.seq
        | (apply WP.reg
           case hR => dsimp only [prepL, prepO, List.map, List.getElem?_cons_succ, List.getElem?_cons_zero]; exact Is.rfl
           case hr =>
             repeat (first
               | (apply RT.op (h := by simp [dI, rowsI, nble_d, fb, hct, hle]; exact Is.rfl) (he := by (try dsimp only [putEnv]) <;> exact rfl))
               | (apply RT.call (hg := by simp; exact Is.rfl) (hfo := by simp; exact Is.rfl) (hpr := by exact Is.rfl) (hvs := by simp [dI, rowsI, nble_d, fb, hct, hle]; exact Is.rfl) (hcl := by simp [dI, rowsI, nble_d, fb, hct, hle]; exact Is.rfl) (hd := by simp [dI, rowsI, nble_d, fb, hct, hle]; exact Is.rfl) (hwr := by simp [dI, rowsI, nble_d, fb, hct, hle]; exact Is.rfl) (hlt := by simp [Is]) (he := by (try dsimp only [putEnv]) <;> exact rfl) (hh := by simp; exact Is.rfl) (hw := by simp; exact Is.rfl))
               | (apply RT.callI (hg := by simp; exact Is.rfl) (hfo := by simp; exact Is.rfl) (hpr := by exact Is.rfl) (hvs := by simp [dI, rowsI, nble_d, fb, hct, hle]; exact Is.rfl) (hcl := by simp [dI, rowsI, nble_d, fb, hct, hle]; exact Is.rfl) (hd := hI1) (hne := hI2) (hw := hI3) (hwr := hI4) (he := by (try dsimp only [putEnv]) <;> exact rfl) (hn0 := by first | omega | simp))
               | (apply RT.wr (h := by simp [dI, rowsI, nble_d, fb, hct, hle]; exact Is.rfl) (he := by (try dsimp only [putEnv]) <;> exact rfl) (hh := by simp [dI, rowsI, nble_d, fb, hct, hle]; exact Is.rfl) (hn := by exact Is.rfl) (hc := by exact Is.rfl) (hw := by simp; exact Is.rfl)))
             exact RT.nil
           case hc => (show _ = _; kernel_rfl)
           case ht => simp [dI, rowsI, nble_d, fb, hct, hle]; exact Is.rfl)
        | apply WP.block
        | apply WP.skip
        | apply WP.exit
        | apply WP.ret
        | refine WP.condT rfl ?_
        | refine WP.condF rfl ?_)
      refine loop_next (by simp; exact Is.rfl) ?_
      exact ⟨0, by omega, 2, by omega, c, _, cI a ++ cI b, (List.take_of_length_le (by simp [pre2, cI])).trans (cI_app a b).symm, by simp [pre2, cI], st_eq (by simp [pre2, dI, wo2]) (by simp)⟩
    · repeat (first
        | apply WP.seq
        | (apply WP.reg
           case hR => dsimp only [prepL, prepO, List.map, List.getElem?_cons_succ, List.getElem?_cons_zero]; exact Is.rfl
           case hr =>
             repeat (first
               | (apply RT.op (h := by simp [dI]; exact Is.rfl) (he := by (try dsimp only [putEnv]) <;> exact rfl))
               | (apply RT.call (hg := by simp; exact Is.rfl) (hfo := by simp; exact Is.rfl) (hpr := by exact Is.rfl) (hvs := by simp [dI]; exact Is.rfl) (hcl := by simp [dI]; exact Is.rfl) (hd := by simp [dI]; exact Is.rfl) (hwr := by simp [dI]; exact Is.rfl) (hlt := by simp [Is]) (he := by (try dsimp only [putEnv]) <;> exact rfl) (hh := by simp; exact Is.rfl) (hw := by simp; exact Is.rfl))
               | (apply RT.callI (hg := by simp; exact Is.rfl) (hfo := by simp; exact Is.rfl) (hpr := by exact Is.rfl) (hvs := by simp [dI]; exact Is.rfl) (hcl := by simp [dI]; exact Is.rfl) (hd := hI1) (hne := hI2) (hw := hI3) (hwr := hI4) (he := by (try dsimp only [putEnv]) <;> exact rfl) (hn0 := by first | omega | simp))
               | (apply RT.wr (h := by simp [dI]; exact Is.rfl) (he := by (try dsimp only [putEnv]) <;> exact rfl) (hh := by simp [dI]; exact Is.rfl) (hn := by exact Is.rfl) (hc := by exact Is.rfl) (hw := by simp; exact Is.rfl)))
             exact RT.nil
           case hc => (show _ = _; kernel_rfl)
           case ht => simp [dI]; exact Is.rfl)
        | apply WP.block
        | apply WP.skip
        | apply WP.exit
        | apply WP.ret
        | refine WP.condT rfl ?_
        | refine WP.condF rfl ?_)
      show retQ _ _ _ _ _
      exact ⟨.inr rfl, _, [0], rfl, close_osl1 (l := a ++ b) (ro := false) (cs := cs) rfl hct hle⟩
end Go.Ac
end
