/- The plain machine. -/
import Derived.Test.YtofhhkkncaoneaaDoorAcBM
import Derived.Test.YtofhhkkncaoneaaDoorAcDM
import Derived.Test.YtofhhkkncaoneaaDoorAcGM
import Derived.Test.YtofhhkkncaoneaaDoorAcJM
import Derived.Test.YtofhhkkncaoneaaDoorAcMM
import Derived.Test.YtofhhkkncaoneaaDoorAcOM
import Derived.Test.YtofhhkkncaoneaaDoorAcSM
import Derived.Test.YtofhhkkncaoneaaDoorAcXM
import Derived.Test.YtofhhkkncaoneaaDoorAcUcM
import Derived.Test.YtofhhkkncaoneaaDoorCpBM
import Derived.Test.YtofhhkkncaoneaaDoorCrR
import Derived.Test.YtofhhkkncaoneaaDoorCrS
import Derived.Test.YtofhhkkncaoneaaDoorCpDM
import Derived.Test.YtofhhkkncaoneaaDoorCpIM
import Derived.Test.YtofhhkkncaoneaaDoorCpJ
import Derived.Test.YtofhhkkncaoneaaDoorCpK
import Derived.Test.YtofhhkkncaoneaaDoorCpL
import Derived.Test.YtofhhkkncaoneaaDoorCpLB
import Derived.Test.YtofhhkkncaoneaaDoorCpM
import Derived.Test.YtofhhkkncaoneaaDoorCpOM
import Derived.Calls
import Derived.Orders
import Derived.Laws.World
import Derived.Laws.Sem
import Derived.Laws.Cells
import Derived.Laws.Append
import GoSem.ClaimData
import Derived.Laws.Tables
import Derived.Laws.Slices
import Derived.Laws.Strings
import Derived.Laws.Small
import Derived.Test.YtofhhkkncaoneaaDoorChecked
import Derived.KernelRfl
import Derived.Lib.RuneCount
import Derived.Test.YtofhhkkncaoneaaDoorRows
import Derived.Deep.Slices
import Derived.ChangeArms
import Derived.RowKit3
import Derived.ReadAgain
import Derived.ChangeStays
import Derived.WalkKit
import Derived.ProofKit
import Derived.OpenShut
import Derived.JoinedCond
import Derived.Below
import Derived.Deep.DeepHandedRow
import Derived.Lib.LaidTab
set_option linter.unusedVariables false
set_option linter.unusedSimpArgs false
section
set_option maxRecDepth 4000
set_option linter.unusedSimpArgs false
set_option linter.unusedVariables false
namespace Go.Ac
open Go.Proofs

set_option maxHeartbeats 1000000 in
theorem form_no (r : Rt) (at_ : Int) (i : I) (h : ¬ IsO i.op) : den Tryd.prog Cp.cfg 49 [aR r, dI at_, aI i] = some (dB false) := by
  have hk := unknown_den h
  simp only [dI, dB, List.map_cons, List.map_nil] at hk
  refine den_wp Tryd.func49 rfl (by kernel_rfl) rfl rfl ?_
  repeat (first
    | apply WP.seq
    | (apply WP.reg
       case hR => dsimp only [prepL, prepO, List.map, List.getElem?_cons_succ, List.getElem?_cons_zero]; exact Is.rfl
       case hr =>
         repeat (first
           | (apply RT.op (h := by simp [dI, aR, aI, I.cells, Rt.cells, hk]; exact Is.rfl) (he := by (try dsimp only [putEnv]) <;> exact rfl))
           | (apply RT.call (hg := by simp; exact Is.rfl) (hfo := by simp; exact Is.rfl) (hpr := by exact Is.rfl) (hvs := by simp [dI, aR, aI, I.cells, Rt.cells, hk]; exact Is.rfl) (hcl := by simp [dI, aR, aI, I.cells, Rt.cells, hk]; exact Is.rfl) (hd := by simp [dI, aR, aI, I.cells, Rt.cells, hk]; exact Is.rfl) (hwr := by simp [dI, aR, aI, I.cells, Rt.cells, hk]; exact Is.rfl) (hlt := by simp [Is]) (he := by (try dsimp only [putEnv]) <;> exact rfl) (hh := by simp; exact Is.rfl) (hw := by simp; exact Is.rfl))
           | (apply RT.callQ (hg := by simp; exact Is.rfl) (hfo := by simp; exact Is.rfl) (hpr := by exact Is.rfl) (hvs := by simp [dI, aR, aI, I.cells, Rt.cells, hk]; exact Is.rfl) (hcl := by simp [dI, aR, aI, I.cells, Rt.cells, hk]; exact Is.rfl) (hd := by simp [dI, aR, aI, I.cells, Rt.cells, hk]; exact Is.rfl) (he := by (try dsimp only [putEnv]) <;> exact rfl))
           | (apply RT.wr (h := by simp [dI, aR, aI, I.cells, Rt.cells, hk]; exact Is.rfl) (he := by (try dsimp only [putEnv]) <;> exact rfl) (hh := by simp [dI, aR, aI, I.cells, Rt.cells, hk]; exact Is.rfl) (hn := by exact Is.rfl) (hc := by exact Is.rfl) (hw := by simp; exact Is.rfl)))
         exact RT.nil
       case hc => (show _ = _; kernel_rfl)
       case ht => simp [dI, aR, aI, I.cells, Rt.cells, hk]; exact Is.rfl)
    | apply WP.block
    | apply WP.skip
    | apply WP.exit
    | apply WP.ret
    | refine WP.condT rfl ?_
    | refine WP.condF rfl ?_)
  show retQ _ _ _ _ _
  exact ⟨.inr rfl, _, _, rfl, rfl⟩
def isO (op : Int) : Bool := decide (1 ≤ op) && decide (op ≤ 10)
theorem isO_iff (op : Int) : isO op = true ↔ IsO op := by
  unfold isO IsO; simp; omega
def stepE (rs : List Rt) (k : Nat) (r : Rt) (at_ : Nat) (i : I) : Int := if isO i.op && formB at_ r.code.length i then (if rangB rs k r i then 0 else 14) else 5
def codeE (f : Nat → I → Int) : Nat → List I → Int
  | _, [] => 0
  | j, i :: l => if f j i = 0 then codeE f (j + 1) l else f j i
def c1 (r : Rt) : Prop := (64 : Int) < (if r.inn.length < r.out.length then (r.out.length : Int) else r.inn.length)
def c2 (r : Rt) : Prop := (16384 : Int) < r.ini.length
def c3 (r : Rt) : Prop := (32768 : Int) < (if (r.code.length : Int) < r.regs then r.regs else r.code.length)
instance (r : Rt) : Decidable (c1 r) := by unfold c1; infer_instance
instance (r : Rt) : Decidable (c2 r) := by unfold c2; infer_instance
instance (r : Rt) : Decidable (c3 r) := by unfold c3; infer_instance
theorem codeE_step {f : Nat → I → Int} {l : List I} {j : Nat} {i : I} (h : l[j]? = some i) : codeE f j (l.drop j) = if f j i = 0 then codeE f (j + 1) (l.drop (j + 1)) else f j i := by
  obtain ⟨hl, he⟩ := List.getElem?_eq_some_iff.1 h
  rw [List.drop_eq_getElem_cons hl, he]; rfl
theorem form_all (r : Rt) (at_ : Int) (i : I) : den Tryd.prog Cp.cfg 49 [aR r, dI at_, aI i] = some (dB (isO i.op && formB at_ r.code.length i)) := by
  cases h : isO i.op with
  | true => exact form_den r at_ i ((isO_iff _).1 h)
  | false => exact form_no r at_ i fun h' => by rw [(isO_iff _).2 h'] at h; cases h
def bigE (r : Rt) : Bool := decide (c1 r) || decide (c2 r) || decide (c3 r)
def oneE (im : Im) (k : Nat) (r : Rt) : Int :=
  if nameOK r.nm = false then 6 else if bigE r then 3 else if (r.inn ++ r.out).any (fun t => !typOK im.enums t) then 10 else if r.regs < (r.inn.length : Int) + r.out.length then 9 else if r.ini.any outW then 14
  else codeE (stepE im.rs k r) 0 r.code
/-- What a routine's words keep to. -/
structure RtOK (r : Rt) : Prop where
  sz : r.sz ≤ MB
  inn : ∀ t, t ∈ r.inn → t ≤ 9223372036854775807
  out : ∀ t, t ∈ r.out → t ≤ 9223372036854775807
  regs : r.regs ≤ 9223372036854775807
set_option maxHeartbeats 4000000 in
theorem one_den (im : Im) (k : Nat) (r : Rt) (hr : im.rs[k]? = some r) (hs : im.sz ≤ MB) (hok : RtOK r) : den Tryd.prog Cp.cfg 38 [aM im, dI k] = some (dI (oneE im k r)) := by
  have hkl : k < im.rs.length := by rcases Nat.lt_or_ge k im.rs.length with h | h; exact h; rw [List.getElem?_eq_none h] at hr; cases hr
  have hix := idx_lt hkl
  have hr' := encR_at hr
  have hsz := hok.sz
  have hrl := im.len_rs
  unfold Rt.sz MB at hsz
  unfold MB at hs
  have hn := name_den r.nm (by unfold MX; omega)
  simp only [dI, dB, dS] at hn
  refine den_wp Tryd.func38 rfl (by kernel_rfl) rfl rfl ?_
  unfold oneE
  cases h0 : nameOK r.nm with
  | false =>
    rw [h0] at hn
    repeat (first
      | apply WP.seq
      | (apply WP.reg
         case hR => dsimp only [prepL, prepO, List.map, List.getElem?_cons_succ, List.getElem?_cons_zero]; exact Is.rfl
         case hr =>
           repeat (first
             | (apply RT.op (h := by simp [dI, aM, Im.cells, Rt.cells, hix, hr', hn]; exact Is.rfl) (he := by (try dsimp only [putEnv]) <;> exact rfl))
             | (apply RT.call (hg := by simp; exact Is.rfl) (hfo := by simp; exact Is.rfl) (hpr := by exact Is.rfl) (hvs := by simp [dI, aM, Im.cells, Rt.cells, hix, hr', hn]; exact Is.rfl) (hcl := by simp [dI, aM, Im.cells, Rt.cells, hix, hr', hn]; exact Is.rfl) (hd := by simp [dI, aM, Im.cells, Rt.cells, hix, hr', hn]; exact Is.rfl) (hwr := by simp [dI, aM, Im.cells, Rt.cells, hix, hr', hn]; exact Is.rfl) (hlt := by simp [Is]) (he := by (try dsimp only [putEnv]) <;> exact rfl) (hh := by simp; exact Is.rfl) (hw := by simp; exact Is.rfl))
             | (apply RT.callQ (hg := by simp; exact Is.rfl) (hfo := by simp; exact Is.rfl) (hpr := by exact Is.rfl) (hvs := by simp [dI, aM, Im.cells, Rt.cells, hix, hr', hn]; exact Is.rfl) (hcl := by simp [dI, aM, Im.cells, Rt.cells, hix, hr', hn]; exact Is.rfl) (hd := by simp [dI, aM, Im.cells, Rt.cells, hix, hr', hn]; exact Is.rfl) (he := by (try dsimp only [putEnv]) <;> exact rfl))
             | (apply RT.wr (h := by simp [dI, aM, Im.cells, Rt.cells, hix, hr', hn]; exact Is.rfl) (he := by (try dsimp only [putEnv]) <;> exact rfl) (hh := by simp [dI, aM, Im.cells, Rt.cells, hix, hr', hn]; exact Is.rfl) (hn := by exact Is.rfl) (hc := by exact Is.rfl) (hw := by simp; exact Is.rfl)))
           exact RT.nil
         case hc => (show _ = _; kernel_rfl)
         case ht => simp [dI, aM, Im.cells, Rt.cells, hix, hr', hn]; exact Is.rfl)
      | apply WP.block
      | apply WP.skip
      | apply WP.exit
      | apply WP.ret
      | refine WP.condT rfl ?_
      | refine WP.condF rfl ?_)
    show retQ _ _ _ _ _
    exact ⟨.inr rfl, _, _, rfl, rfl⟩
  | true =>
    rw [h0] at hn
    rw [if_neg (by simp)]
    repeat (first
      | apply WP.seq
      | (apply WP.reg
         case hR => dsimp only [prepL, prepO, List.map, List.getElem?_cons_succ, List.getElem?_cons_zero]; exact Is.rfl
         case hr =>
           repeat (first
             | (apply RT.op (h := by simp [dI, aM, Im.cells, Rt.cells, hix, hr', hn]; exact Is.rfl) (he := by (try dsimp only [putEnv]) <;> exact rfl))
             | (apply RT.call (hg := by simp; exact Is.rfl) (hfo := by simp; exact Is.rfl) (hpr := by exact Is.rfl) (hvs := by simp [dI, aM, Im.cells, Rt.cells, hix, hr', hn]; exact Is.rfl) (hcl := by simp [dI, aM, Im.cells, Rt.cells, hix, hr', hn]; exact Is.rfl) (hd := by simp [dI, aM, Im.cells, Rt.cells, hix, hr', hn]; exact Is.rfl) (hwr := by simp [dI, aM, Im.cells, Rt.cells, hix, hr', hn]; exact Is.rfl) (hlt := by simp [Is]) (he := by (try dsimp only [putEnv]) <;> exact rfl) (hh := by simp; exact Is.rfl) (hw := by simp; exact Is.rfl))
             | (apply RT.callQ (hg := by simp; exact Is.rfl) (hfo := by simp; exact Is.rfl) (hpr := by exact Is.rfl) (hvs := by simp [dI, aM, Im.cells, Rt.cells, hix, hr', hn]; exact Is.rfl) (hcl := by simp [dI, aM, Im.cells, Rt.cells, hix, hr', hn]; exact Is.rfl) (hd := by simp [dI, aM, Im.cells, Rt.cells, hix, hr', hn]; exact Is.rfl) (he := by (try dsimp only [putEnv]) <;> exact rfl))
             | (apply RT.wr (h := by simp [dI, aM, Im.cells, Rt.cells, hix, hr', hn]; exact Is.rfl) (he := by (try dsimp only [putEnv]) <;> exact rfl) (hh := by simp [dI, aM, Im.cells, Rt.cells, hix, hr', hn]; exact Is.rfl) (hn := by exact Is.rfl) (hc := by exact Is.rfl) (hw := by simp; exact Is.rfl)))
           exact RT.nil
         case hc => (show _ = _; kernel_rfl)
         case ht => simp [dI, aM, Im.cells, Rt.cells, hix, hr', hn]; exact Is.rfl)
      | apply WP.block
      | apply WP.skip
      | apply WP.exit
      | apply WP.ret)
    show WP _ _ _ _ _ _
    refine WP.cond _ rfl (fun hb => ?_) (fun hb => ?_)
    · simp at hb
    clear hb
    have fin3 : bigE r = true → (if bigE r = true then (3 : Int) else if (r.inn ++ r.out).any (fun t => !typOK im.enums t) = true then 10 else if r.regs < (r.inn.length : Int) + r.out.length then 9 else if r.ini.any outW = true then 14 else codeE (stepE im.rs k r) 0 r.code) = 3 := fun h => by rw [if_pos h]
    by_cases q1 : c1 r
    · rw [fin3 (by simp [bigE, q1])]
      unfold c1 at q1
      have q1' : ((64 : Int) < (if r.inn.length < r.out.length then (r.out.length : Int) else r.inn.length)) = True := by simp only [q1]
      repeat (first
        | apply WP.seq
        | (apply WP.reg
           case hR => dsimp only [prepL, prepO, List.map, List.getElem?_cons_succ, List.getElem?_cons_zero]; exact Is.rfl
           case hr =>
             repeat (first
               | (apply RT.op (h := by simp [maxV, maxI, q1']; exact Is.rfl) (he := by (try dsimp only [putEnv]) <;> exact rfl))
               | (apply RT.call (hg := by simp; exact Is.rfl) (hfo := by simp; exact Is.rfl) (hpr := by exact Is.rfl) (hvs := by simp [maxV, maxI, q1']; exact Is.rfl) (hcl := by simp [maxV, maxI, q1']; exact Is.rfl) (hd := by simp [maxV, maxI, q1']; exact Is.rfl) (hwr := by simp [maxV, maxI, q1']; exact Is.rfl) (hlt := by simp [Is]) (he := by (try dsimp only [putEnv]) <;> exact rfl) (hh := by simp; exact Is.rfl) (hw := by simp; exact Is.rfl))
               | (apply RT.callQ (hg := by simp; exact Is.rfl) (hfo := by simp; exact Is.rfl) (hpr := by exact Is.rfl) (hvs := by simp [maxV, maxI, q1']; exact Is.rfl) (hcl := by simp [maxV, maxI, q1']; exact Is.rfl) (hd := by simp [maxV, maxI, q1']; exact Is.rfl) (he := by (try dsimp only [putEnv]) <;> exact rfl))
               | (apply RT.wr (h := by simp [maxV, maxI, q1']; exact Is.rfl) (he := by (try dsimp only [putEnv]) <;> exact rfl) (hh := by simp [maxV, maxI, q1']; exact Is.rfl) (hn := by exact Is.rfl) (hc := by exact Is.rfl) (hw := by simp; exact Is.rfl)))
             exact RT.nil
           case hc => (show _ = _; kernel_rfl)
           case ht => simp [maxV, maxI, q1']; exact Is.rfl)
        | apply WP.block
        | apply WP.skip
        | apply WP.exit
        | apply WP.ret
        | refine WP.condT rfl ?_
        | refine WP.condF rfl ?_)
      show retQ _ _ _ _ _
      exact ⟨.inr rfl, _, _, rfl, rfl⟩
    by_cases q2 : c2 r
    · rw [fin3 (by simp [bigE, q2])]
      unfold c1 at q1
      unfold c2 at q2
      have q1' : ((64 : Int) < (if r.inn.length < r.out.length then (r.out.length : Int) else r.inn.length)) = False := by simp only [q1]
      have q2' : (16384 < r.ini.length) = True := by simp; omega
      have q2'' : ((16384 : Int) < r.ini.length) = True := by simp; omega
      repeat (first
        | apply WP.seq
        | (apply WP.reg
           case hR => dsimp only [prepL, prepO, List.map, List.getElem?_cons_succ, List.getElem?_cons_zero]; exact Is.rfl
           case hr =>
             repeat (first
               | (apply RT.op (h := by simp [maxV, maxI, q1', q2', q2'']; exact Is.rfl) (he := by (try dsimp only [putEnv]) <;> exact rfl))
               | (apply RT.call (hg := by simp; exact Is.rfl) (hfo := by simp; exact Is.rfl) (hpr := by exact Is.rfl) (hvs := by simp [maxV, maxI, q1', q2', q2'']; exact Is.rfl) (hcl := by simp [maxV, maxI, q1', q2', q2'']; exact Is.rfl) (hd := by simp [maxV, maxI, q1', q2', q2'']; exact Is.rfl) (hwr := by simp [maxV, maxI, q1', q2', q2'']; exact Is.rfl) (hlt := by simp [Is]) (he := by (try dsimp only [putEnv]) <;> exact rfl) (hh := by simp; exact Is.rfl) (hw := by simp; exact Is.rfl))
               | (apply RT.callQ (hg := by simp; exact Is.rfl) (hfo := by simp; exact Is.rfl) (hpr := by exact Is.rfl) (hvs := by simp [maxV, maxI, q1', q2', q2'']; exact Is.rfl) (hcl := by simp [maxV, maxI, q1', q2', q2'']; exact Is.rfl) (hd := by simp [maxV, maxI, q1', q2', q2'']; exact Is.rfl) (he := by (try dsimp only [putEnv]) <;> exact rfl))
               | (apply RT.wr (h := by simp [maxV, maxI, q1', q2', q2'']; exact Is.rfl) (he := by (try dsimp only [putEnv]) <;> exact rfl) (hh := by simp [maxV, maxI, q1', q2', q2'']; exact Is.rfl) (hn := by exact Is.rfl) (hc := by exact Is.rfl) (hw := by simp; exact Is.rfl)))
             exact RT.nil
           case hc => (show _ = _; kernel_rfl)
           case ht => simp [maxV, maxI, q1', q2', q2'']; exact Is.rfl)
        | apply WP.block
        | apply WP.skip
        | apply WP.exit
        | apply WP.ret
        | refine WP.condT rfl ?_
        | refine WP.condF rfl ?_)
      show retQ _ _ _ _ _
      exact ⟨.inr rfl, _, _, rfl, rfl⟩
    by_cases q3 : c3 r
    · rw [fin3 (by simp [bigE, q3])]
      unfold c1 at q1
      unfold c2 at q2
      unfold c3 at q3
      have q1' : ((64 : Int) < (if r.inn.length < r.out.length then (r.out.length : Int) else r.inn.length)) = False := by simp only [q1]
      have q2' : (16384 < r.ini.length) = False := by simp; omega
      have q2'' : ((16384 : Int) < r.ini.length) = False := by simp; omega
      have q3' : ((32768 : Int) < (if (r.code.length : Int) < r.regs then r.regs else r.code.length)) = True := by simp only [q3]
      repeat (first
        | apply WP.seq
        | (apply WP.reg
           case hR => dsimp only [prepL, prepO, List.map, List.getElem?_cons_succ, List.getElem?_cons_zero]; exact Is.rfl
           case hr =>
             repeat (first
               | (apply RT.op (h := by simp [maxV, maxI, q1', q2', q2'', q3']; exact Is.rfl) (he := by (try dsimp only [putEnv]) <;> exact rfl))
               | (apply RT.call (hg := by simp; exact Is.rfl) (hfo := by simp; exact Is.rfl) (hpr := by exact Is.rfl) (hvs := by simp [maxV, maxI, q1', q2', q2'', q3']; exact Is.rfl) (hcl := by simp [maxV, maxI, q1', q2', q2'', q3']; exact Is.rfl) (hd := by simp [maxV, maxI, q1', q2', q2'', q3']; exact Is.rfl) (hwr := by simp [maxV, maxI, q1', q2', q2'', q3']; exact Is.rfl) (hlt := by simp [Is]) (he := by (try dsimp only [putEnv]) <;> exact rfl) (hh := by simp; exact Is.rfl) (hw := by simp; exact Is.rfl))
               | (apply RT.callQ (hg := by simp; exact Is.rfl) (hfo := by simp; exact Is.rfl) (hpr := by exact Is.rfl) (hvs := by simp [maxV, maxI, q1', q2', q2'', q3']; exact Is.rfl) (hcl := by simp [maxV, maxI, q1', q2', q2'', q3']; exact Is.rfl) (hd := by simp [maxV, maxI, q1', q2', q2'', q3']; exact Is.rfl) (he := by (try dsimp only [putEnv]) <;> exact rfl))
               | (apply RT.wr (h := by simp [maxV, maxI, q1', q2', q2'', q3']; exact Is.rfl) (he := by (try dsimp only [putEnv]) <;> exact rfl) (hh := by simp [maxV, maxI, q1', q2', q2'', q3']; exact Is.rfl) (hn := by exact Is.rfl) (hc := by exact Is.rfl) (hw := by simp; exact Is.rfl)))
             exact RT.nil
           case hc => (show _ = _; kernel_rfl)
           case ht => simp [maxV, maxI, q1', q2', q2'', q3']; exact Is.rfl)
        | apply WP.block
        | apply WP.skip
        | apply WP.exit
        | apply WP.ret
        | refine WP.condT rfl ?_
        | refine WP.condF rfl ?_)
      show retQ _ _ _ _ _
      exact ⟨.inr rfl, _, _, rfl, rfl⟩
    have hbg : ¬ bigE r = true := by simp [bigE, q1, q2, q3]
    rw [if_neg hbg]
    clear fin3
    unfold c1 at q1
    unfold c2 at q2
    unfold c3 at q3
    have q1' : ((64 : Int) < (if r.inn.length < r.out.length then (r.out.length : Int) else r.inn.length)) = False := by simp only [q1]
    have q2' : (16384 < r.ini.length) = False := by simp; omega
    have q2'' : ((16384 : Int) < r.ini.length) = False := by simp; omega
    have q3' : ((32768 : Int) < (if (r.code.length : Int) < r.regs then r.regs else r.code.length)) = False := by simp only [q3]
    have hcat := concat_den r.inn r.out (by omega) (by omega)
    simp only [dL] at hcat
    repeat (first
      | apply WP.seq
      | (apply WP.reg
         case hR => dsimp only [prepL, prepO, List.map, List.getElem?_cons_succ, List.getElem?_cons_zero]; exact Is.rfl
         case hr =>
           repeat (first
             | (apply RT.op (h := by simp [maxV, maxI, q1', q2', q2'', q3', hcat]; exact Is.rfl) (he := by (try dsimp only [putEnv]) <;> exact rfl))
             | (apply RT.call (hg := by simp; exact Is.rfl) (hfo := by simp; exact Is.rfl) (hpr := by exact Is.rfl) (hvs := by simp [maxV, maxI, q1', q2', q2'', q3', hcat]; exact Is.rfl) (hcl := by simp [maxV, maxI, q1', q2', q2'', q3', hcat]; exact Is.rfl) (hd := by simp [maxV, maxI, q1', q2', q2'', q3', hcat]; exact Is.rfl) (hwr := by simp [maxV, maxI, q1', q2', q2'', q3', hcat]; exact Is.rfl) (hlt := by simp [Is]) (he := by (try dsimp only [putEnv]) <;> exact rfl) (hh := by simp; exact Is.rfl) (hw := by simp; exact Is.rfl))
             | (apply RT.callQ (hg := by simp; exact Is.rfl) (hfo := by simp; exact Is.rfl) (hpr := by exact Is.rfl) (hvs := by simp [maxV, maxI, q1', q2', q2'', q3', hcat]; exact Is.rfl) (hcl := by simp [maxV, maxI, q1', q2', q2'', q3', hcat]; exact Is.rfl) (hd := by simp [maxV, maxI, q1', q2', q2'', q3', hcat]; exact Is.rfl) (he := by (try dsimp only [putEnv]) <;> exact rfl))
             | (apply RT.wr (h := by simp [maxV, maxI, q1', q2', q2'', q3', hcat]; exact Is.rfl) (he := by (try dsimp only [putEnv]) <;> exact rfl) (hh := by simp [maxV, maxI, q1', q2', q2'', q3', hcat]; exact Is.rfl) (hn := by exact Is.rfl) (hc := by exact Is.rfl) (hw := by simp; exact Is.rfl)))
           exact RT.nil
         case hc => (show _ = _; kernel_rfl)
         case ht => simp [maxV, maxI, q1', q2', q2'', q3', hcat]; exact Is.rfl)
      | apply WP.block
      | apply WP.skip
      | apply WP.exit
      | apply WP.ret
      | refine WP.condT rfl ?_
      | refine WP.condF rfl ?_)
    obtain ⟨h5, h6, h4⟩ := Quiet.fn (fun c => containsT im (r.inn ++ r.out) (by unfold MX; simp; omega) (fun t ht => by rcases List.mem_append.1 ht with h | h; exact hok.inn t h; exact hok.out t h) [(0, ⟨0, false, im.cells.map .d⟩), (1, ⟨1, false, r.cells.map .d⟩), (2, ⟨2, true, [.d (.slice (encI r.inn)), .d (.slice (encI r.out))]⟩)] 3 c 0 0 rfl (by omega))
    simp only [dL, Im.cells, Rt.cells, List.map_cons, List.map_nil] at h4
    have hcw := contains_outW r.ini (by unfold MX; omega)
    simp only [dL, dB] at hcw
    cases ht : (r.inn ++ r.out).any (fun t => !typOK im.enums t) with
    | true =>
      rw [ht] at h4
      repeat (first
        | apply WP.seq
        | (apply WP.reg
           case hR => dsimp only [prepL, prepO, List.map, List.getElem?_cons_succ, List.getElem?_cons_zero]; exact Is.rfl
           case hr =>
             repeat (first
               | (apply RT.op (h := by simp [hcat, toD_dep, toDs, nble_d, chunk, h4]; exact Is.rfl) (he := by (try dsimp only [putEnv]) <;> exact rfl))
               | (apply RT.call (hg := by simp; exact Is.rfl) (hfo := by simp; exact Is.rfl) (hpr := by exact Is.rfl) (hvs := by simp [hcat, toD_dep, toDs, nble_d, chunk, h4]; exact Is.rfl) (hcl := by simp [hcat, toD_dep, toDs, nble_d, chunk, h4]; exact Is.rfl) (hd := by simp [hcat, toD_dep, toDs, nble_d, chunk, h4]; exact Is.rfl) (hwr := by simp [hcat, toD_dep, toDs, nble_d, chunk, h4]; exact Is.rfl) (hlt := by simp [Is]) (he := by (try dsimp only [putEnv]) <;> exact rfl) (hh := by simp; exact Is.rfl) (hw := by simp; exact Is.rfl))
               | (apply RT.callQ (hg := by simp; exact Is.rfl) (hfo := by simp; exact Is.rfl) (hpr := by exact Is.rfl) (hvs := by simp [hcat, toD_dep, toDs, nble_d, chunk, h4]; exact Is.rfl) (hcl := by simp [hcat, toD_dep, toDs, nble_d, chunk, h4]; exact Is.rfl) (hd := by simp [hcat, toD_dep, toDs, nble_d, chunk, h4]; exact Is.rfl) (he := by (try dsimp only [putEnv]) <;> exact rfl))
               | (apply RT.wr (h := by simp [hcat, toD_dep, toDs, nble_d, chunk, h4]; exact Is.rfl) (he := by (try dsimp only [putEnv]) <;> exact rfl) (hh := by simp [hcat, toD_dep, toDs, nble_d, chunk, h4]; exact Is.rfl) (hn := by exact Is.rfl) (hc := by exact Is.rfl) (hw := by simp; exact Is.rfl)))
             exact RT.nil
           case hc => (show _ = _; kernel_rfl)
           case ht => simp [hcat, toD_dep, toDs, nble_d, chunk, h4]; exact Is.rfl)
        | apply WP.block
        | apply WP.skip
        | apply WP.exit
        | apply WP.ret
        | refine WP.condT rfl ?_
        | refine WP.condF rfl ?_)
      show retQ _ _ _ _ _
      exact ⟨.inr rfl, _, _, rfl, rfl⟩
    | false =>
      rw [ht] at h4
      rw [if_neg (by simp)]
      have hws : IntKind.i64.wrap ((r.inn.length : Int) + r.out.length) = (r.inn.length : Int) + r.out.length := by rw [w_id'] <;> omega
      by_cases q4 : r.regs < (r.inn.length : Int) + r.out.length
      · rw [if_pos q4]
        have q4' : (r.regs < (r.inn.length : Int) + r.out.length) = True := by simp [q4]
        repeat (first
          | apply WP.seq
          | (apply WP.reg
             case hR => dsimp only [prepL, prepO, List.map, List.getElem?_cons_succ, List.getElem?_cons_zero]; exact Is.rfl
             case hr =>
               repeat (first
                 | (apply RT.op (h := by simp [hcat, toD_dep, toDs, nble_d, chunk, h4, hws, q4']; exact Is.rfl) (he := by (try dsimp only [putEnv]) <;> exact rfl))
                 | (apply RT.call (hg := by simp; exact Is.rfl) (hfo := by simp; exact Is.rfl) (hpr := by exact Is.rfl) (hvs := by simp [hcat, toD_dep, toDs, nble_d, chunk, h4, hws, q4']; exact Is.rfl) (hcl := by simp [hcat, toD_dep, toDs, nble_d, chunk, h4, hws, q4']; exact Is.rfl) (hd := by simp [hcat, toD_dep, toDs, nble_d, chunk, h4, hws, q4']; exact Is.rfl) (hwr := by simp [hcat, toD_dep, toDs, nble_d, chunk, h4, hws, q4']; exact Is.rfl) (hlt := by simp [Is]) (he := by (try dsimp only [putEnv]) <;> exact rfl) (hh := by simp; exact Is.rfl) (hw := by simp; exact Is.rfl))
                 | (apply RT.callQ (hg := by simp; exact Is.rfl) (hfo := by simp; exact Is.rfl) (hpr := by exact Is.rfl) (hvs := by simp [hcat, toD_dep, toDs, nble_d, chunk, h4, hws, q4']; exact Is.rfl) (hcl := by simp [hcat, toD_dep, toDs, nble_d, chunk, h4, hws, q4']; exact Is.rfl) (hd := by simp [hcat, toD_dep, toDs, nble_d, chunk, h4, hws, q4']; exact Is.rfl) (he := by (try dsimp only [putEnv]) <;> exact rfl))
                 | (apply RT.wr (h := by simp [hcat, toD_dep, toDs, nble_d, chunk, h4, hws, q4']; exact Is.rfl) (he := by (try dsimp only [putEnv]) <;> exact rfl) (hh := by simp [hcat, toD_dep, toDs, nble_d, chunk, h4, hws, q4']; exact Is.rfl) (hn := by exact Is.rfl) (hc := by exact Is.rfl) (hw := by simp; exact Is.rfl)))
               exact RT.nil
             case hc => (show _ = _; kernel_rfl)
             case ht => simp [hcat, toD_dep, toDs, nble_d, chunk, h4, hws, q4']; exact Is.rfl)
          | apply WP.block
          | apply WP.skip
          | apply WP.exit
          | apply WP.ret
          | refine WP.condT rfl ?_
          | refine WP.condF rfl ?_)
        show retQ _ _ _ _ _
        exact ⟨.inr rfl, _, _, rfl, rfl⟩
      rw [if_neg q4]
      have q4' : (r.regs < (r.inn.length : Int) + r.out.length) = False := by simp only [q4]
      cases hi : r.ini.any outW with
      | true =>
        rw [hi] at hcw
        repeat (first
          | apply WP.seq
          | (apply WP.reg
             case hR => dsimp only [prepL, prepO, List.map, List.getElem?_cons_succ, List.getElem?_cons_zero]; exact Is.rfl
             case hr =>
               repeat (first
                 | (apply RT.op (h := by simp [hcat, toD_dep, toDs, nble_d, chunk, h4, hws, q4', hcw]; exact Is.rfl) (he := by (try dsimp only [putEnv]) <;> exact rfl))
                 | (apply RT.call (hg := by simp; exact Is.rfl) (hfo := by simp; exact Is.rfl) (hpr := by exact Is.rfl) (hvs := by simp [hcat, toD_dep, toDs, nble_d, chunk, h4, hws, q4', hcw]; exact Is.rfl) (hcl := by simp [hcat, toD_dep, toDs, nble_d, chunk, h4, hws, q4', hcw]; exact Is.rfl) (hd := by simp [hcat, toD_dep, toDs, nble_d, chunk, h4, hws, q4', hcw]; exact Is.rfl) (hwr := by simp [hcat, toD_dep, toDs, nble_d, chunk, h4, hws, q4', hcw]; exact Is.rfl) (hlt := by simp [Is]) (he := by (try dsimp only [putEnv]) <;> exact rfl) (hh := by simp; exact Is.rfl) (hw := by simp; exact Is.rfl))
                 | (apply RT.callQ (hg := by simp; exact Is.rfl) (hfo := by simp; exact Is.rfl) (hpr := by exact Is.rfl) (hvs := by simp [hcat, toD_dep, toDs, nble_d, chunk, h4, hws, q4', hcw]; exact Is.rfl) (hcl := by simp [hcat, toD_dep, toDs, nble_d, chunk, h4, hws, q4', hcw]; exact Is.rfl) (hd := by simp [hcat, toD_dep, toDs, nble_d, chunk, h4, hws, q4', hcw]; exact Is.rfl) (he := by (try dsimp only [putEnv]) <;> exact rfl))
                 | (apply RT.wr (h := by simp [hcat, toD_dep, toDs, nble_d, chunk, h4, hws, q4', hcw]; exact Is.rfl) (he := by (try dsimp only [putEnv]) <;> exact rfl) (hh := by simp [hcat, toD_dep, toDs, nble_d, chunk, h4, hws, q4', hcw]; exact Is.rfl) (hn := by exact Is.rfl) (hc := by exact Is.rfl) (hw := by simp; exact Is.rfl)))
               exact RT.nil
             case hc => (show _ = _; kernel_rfl)
             case ht => simp [hcat, toD_dep, toDs, nble_d, chunk, h4, hws, q4', hcw]; exact Is.rfl)
          | apply WP.block
          | apply WP.skip
          | apply WP.exit
          | apply WP.ret
          | refine WP.condT rfl ?_
          | refine WP.condF rfl ?_)
        show retQ _ _ _ _ _
        exact ⟨.inr rfl, _, _, rfl, rfl⟩
      | false =>
        rw [hi] at hcw
        rw [if_neg (by simp)]
        repeat (first
          | apply WP.seq
          | (apply WP.reg
             case hR => dsimp only [prepL, prepO, List.map, List.getElem?_cons_succ, List.getElem?_cons_zero]; exact Is.rfl
             case hr =>
               repeat (first
                 | (apply RT.op (h := by simp [hcat, toD_dep, toDs, nble_d, chunk, h4, hws, q4', hcw]; exact Is.rfl) (he := by (try dsimp only [putEnv]) <;> exact rfl))
                 | (apply RT.call (hg := by simp; exact Is.rfl) (hfo := by simp; exact Is.rfl) (hpr := by exact Is.rfl) (hvs := by simp [hcat, toD_dep, toDs, nble_d, chunk, h4, hws, q4', hcw]; exact Is.rfl) (hcl := by simp [hcat, toD_dep, toDs, nble_d, chunk, h4, hws, q4', hcw]; exact Is.rfl) (hd := by simp [hcat, toD_dep, toDs, nble_d, chunk, h4, hws, q4', hcw]; exact Is.rfl) (hwr := by simp [hcat, toD_dep, toDs, nble_d, chunk, h4, hws, q4', hcw]; exact Is.rfl) (hlt := by simp [Is]) (he := by (try dsimp only [putEnv]) <;> exact rfl) (hh := by simp; exact Is.rfl) (hw := by simp; exact Is.rfl))
                 | (apply RT.callQ (hg := by simp; exact Is.rfl) (hfo := by simp; exact Is.rfl) (hpr := by exact Is.rfl) (hvs := by simp [hcat, toD_dep, toDs, nble_d, chunk, h4, hws, q4', hcw]; exact Is.rfl) (hcl := by simp [hcat, toD_dep, toDs, nble_d, chunk, h4, hws, q4', hcw]; exact Is.rfl) (hd := by simp [hcat, toD_dep, toDs, nble_d, chunk, h4, hws, q4', hcw]; exact Is.rfl) (he := by (try dsimp only [putEnv]) <;> exact rfl))
                 | (apply RT.wr (h := by simp [hcat, toD_dep, toDs, nble_d, chunk, h4, hws, q4', hcw]; exact Is.rfl) (he := by (try dsimp only [putEnv]) <;> exact rfl) (hh := by simp [hcat, toD_dep, toDs, nble_d, chunk, h4, hws, q4', hcw]; exact Is.rfl) (hn := by exact Is.rfl) (hc := by exact Is.rfl) (hw := by simp; exact Is.rfl)))
               exact RT.nil
             case hc => (show _ = _; kernel_rfl)
             case ht => simp [hcat, toD_dep, toDs, nble_d, chunk, h4, hws, q4', hcw]; exact Is.rfl)
          | apply WP.block
          | apply WP.skip
          | apply WP.exit
          | apply WP.ret
          | refine WP.condT rfl ?_
          | refine WP.condF rfl ?_)
        apply WP.loop' (I := fun D s => ∃ j : Nat, j + D = r.code.length ∧ codeE (stepE im.rs k r) 0 r.code = codeE (stepE im.rs k r) j (r.code.drop j) ∧ SE [(1, dI k), (2, .ptr 0 0 0), (5, .ptr 1 1 0), (67, .d (.slice (encC r.code))), (68, dI r.code.length), (69, dI j)] [(0, ⟨0, false, im.cells.map .d⟩), (1, ⟨1, false, r.cells.map .d⟩), (2, ⟨2, true, [.d (.slice (encI r.inn)), .d (.slice (encI r.out))]⟩)] 3 s) (d := r.code.length)
        · exact ⟨0, by simp, rfl, SE.mk (by simp [dI]) (by simp [Im.cells, Rt.cells])⟩
        rintro D _ ⟨j, hj, hE, cc, rfl⟩
        clear h4 hcw hcat hn
        repeat (first
          | apply WP.seq
          | (apply WP.reg
             case hR => dsimp only [prepL, prepO, List.map, List.getElem?_cons_succ, List.getElem?_cons_zero]; exact Is.rfl
             case hr =>
               repeat (first
                 | (apply RT.op (h := by simp [dI]; exact Is.rfl) (he := by (try dsimp only [putEnv]) <;> exact rfl))
                 | (apply RT.call (hg := by simp; exact Is.rfl) (hfo := by simp; exact Is.rfl) (hpr := by exact Is.rfl) (hvs := by simp [dI]; exact Is.rfl) (hcl := by simp [dI]; exact Is.rfl) (hd := by simp [dI]; exact Is.rfl) (hwr := by simp [dI]; exact Is.rfl) (hlt := by simp [Is]) (he := by (try dsimp only [putEnv]) <;> exact rfl) (hh := by simp; exact Is.rfl) (hw := by simp; exact Is.rfl))
                 | (apply RT.callQ (hg := by simp; exact Is.rfl) (hfo := by simp; exact Is.rfl) (hpr := by exact Is.rfl) (hvs := by simp [dI]; exact Is.rfl) (hcl := by simp [dI]; exact Is.rfl) (hd := by simp [dI]; exact Is.rfl) (he := by (try dsimp only [putEnv]) <;> exact rfl))
                 | (apply RT.wr (h := by simp [dI]; exact Is.rfl) (he := by (try dsimp only [putEnv]) <;> exact rfl) (hh := by simp [dI]; exact Is.rfl) (hn := by exact Is.rfl) (hc := by exact Is.rfl) (hw := by simp; exact Is.rfl)))
               exact RT.nil
             case hc => (show _ = _; kernel_rfl)
             case ht => simp [dI]; exact Is.rfl)
          | apply WP.block
          | apply WP.skip
          | apply WP.exit
          | apply WP.ret)
        show WP _ _ _ _ _ _
        refine WP.cond _ rfl (fun hb => ?_) (fun hb => ?_)
        · simp at hb
          have hb' : j < r.code.length := hb
          obtain ⟨i, hi1, him, hix2⟩ := at_lt hb'
          have hi2 := encC_at hi1
          have hw := w_succ hb' (by omega)
          have hst := codeE_step (f := stepE im.rs k r) hi1
          rw [← hE] at hst
          have hF := form_all r j i
          simp only [aR, aI, Rt.cells, I.cells, List.map_cons, List.map_nil, dI, dB] at hF
          cases hf : (isO i.op && formB j r.code.length i) with
          | false =>
            rw [hf] at hF
            have h5' : stepE im.rs k r j i = 5 := by unfold stepE; rw [hf]; rfl
            rw [h5'] at hst
            rw [hst]
            repeat (first
              | apply WP.seq
              | (apply WP.reg
                 case hR => dsimp only [prepL, prepO, List.map, List.getElem?_cons_succ, List.getElem?_cons_zero]; exact Is.rfl
                 case hr =>
                   repeat (first
                     | (apply RT.op (h := by simp [dI, hix2, hi2, I.cells, Rt.cells, Im.cells, hF]; exact Is.rfl) (he := by (try dsimp only [putEnv]) <;> exact rfl))
                     | (apply RT.call (hg := by simp; exact Is.rfl) (hfo := by simp; exact Is.rfl) (hpr := by exact Is.rfl) (hvs := by simp [dI, hix2, hi2, I.cells, Rt.cells, Im.cells, hF]; exact Is.rfl) (hcl := by simp [dI, hix2, hi2, I.cells, Rt.cells, Im.cells, hF]; exact Is.rfl) (hd := by simp [dI, hix2, hi2, I.cells, Rt.cells, Im.cells, hF]; exact Is.rfl) (hwr := by simp [dI, hix2, hi2, I.cells, Rt.cells, Im.cells, hF]; exact Is.rfl) (hlt := by simp [Is]) (he := by (try dsimp only [putEnv]) <;> exact rfl) (hh := by simp; exact Is.rfl) (hw := by simp; exact Is.rfl))
                     | (apply RT.callQ (hg := by simp; exact Is.rfl) (hfo := by simp; exact Is.rfl) (hpr := by exact Is.rfl) (hvs := by simp [dI, hix2, hi2, I.cells, Rt.cells, Im.cells, hF]; exact Is.rfl) (hcl := by simp [dI, hix2, hi2, I.cells, Rt.cells, Im.cells, hF]; exact Is.rfl) (hd := by simp [dI, hix2, hi2, I.cells, Rt.cells, Im.cells, hF]; exact Is.rfl) (he := by (try dsimp only [putEnv]) <;> exact rfl))
                     | (apply RT.wr (h := by simp [dI, hix2, hi2, I.cells, Rt.cells, Im.cells, hF]; exact Is.rfl) (he := by (try dsimp only [putEnv]) <;> exact rfl) (hh := by simp [dI, hix2, hi2, I.cells, Rt.cells, Im.cells, hF]; exact Is.rfl) (hn := by exact Is.rfl) (hc := by exact Is.rfl) (hw := by simp; exact Is.rfl)))
                   exact RT.nil
                 case hc => (show _ = _; kernel_rfl)
                 case ht => simp [dI, hix2, hi2, I.cells, Rt.cells, Im.cells, hF]; exact Is.rfl)
              | apply WP.block
              | apply WP.skip
              | apply WP.exit
              | apply WP.ret
              | refine WP.condT rfl ?_
              | refine WP.condF rfl ?_)
            show retQ _ _ _ _ _
            exact ⟨.inr rfl, _, _, rfl, rfl⟩
          | true =>
            rw [hf] at hF
            have hO : IsO i.op := (isO_iff _).1 (by simp only [Bool.and_eq_true] at hf; exact hf.1)
            have hR := ranges_den im k r i hO hr (by unfold MX; omega) (by unfold MX; omega) hok.regs
            simp only [aM, aI, Im.cells, I.cells, List.map_cons, List.map_nil, dI, dB] at hR
            cases hg : rangB im.rs k r i with
            | false =>
              rw [hg] at hR
              have h5' : stepE im.rs k r j i = 14 := by unfold stepE; rw [hf, hg]; rfl
              rw [h5'] at hst
              rw [hst]
              repeat (first
                | apply WP.seq
                | (apply WP.reg
                   case hR => dsimp only [prepL, prepO, List.map, List.getElem?_cons_succ, List.getElem?_cons_zero]; exact Is.rfl
                   case hr =>
                     repeat (first
                       | (apply RT.op (h := by simp [dI, hix2, hi2, I.cells, Rt.cells, Im.cells, hF, hR]; exact Is.rfl) (he := by (try dsimp only [putEnv]) <;> exact rfl))
                       | (apply RT.call (hg := by simp; exact Is.rfl) (hfo := by simp; exact Is.rfl) (hpr := by exact Is.rfl) (hvs := by simp [dI, hix2, hi2, I.cells, Rt.cells, Im.cells, hF, hR]; exact Is.rfl) (hcl := by simp [dI, hix2, hi2, I.cells, Rt.cells, Im.cells, hF, hR]; exact Is.rfl) (hd := by simp [dI, hix2, hi2, I.cells, Rt.cells, Im.cells, hF, hR]; exact Is.rfl) (hwr := by simp [dI, hix2, hi2, I.cells, Rt.cells, Im.cells, hF, hR]; exact Is.rfl) (hlt := by simp [Is]) (he := by (try dsimp only [putEnv]) <;> exact rfl) (hh := by simp; exact Is.rfl) (hw := by simp; exact Is.rfl))
                       | (apply RT.callQ (hg := by simp; exact Is.rfl) (hfo := by simp; exact Is.rfl) (hpr := by exact Is.rfl) (hvs := by simp [dI, hix2, hi2, I.cells, Rt.cells, Im.cells, hF, hR]; exact Is.rfl) (hcl := by simp [dI, hix2, hi2, I.cells, Rt.cells, Im.cells, hF, hR]; exact Is.rfl) (hd := by simp [dI, hix2, hi2, I.cells, Rt.cells, Im.cells, hF, hR]; exact Is.rfl) (he := by (try dsimp only [putEnv]) <;> exact rfl))
                       | (apply RT.wr (h := by simp [dI, hix2, hi2, I.cells, Rt.cells, Im.cells, hF, hR]; exact Is.rfl) (he := by (try dsimp only [putEnv]) <;> exact rfl) (hh := by simp [dI, hix2, hi2, I.cells, Rt.cells, Im.cells, hF, hR]; exact Is.rfl) (hn := by exact Is.rfl) (hc := by exact Is.rfl) (hw := by simp; exact Is.rfl)))
                     exact RT.nil
                   case hc => (show _ = _; kernel_rfl)
                   case ht => simp [dI, hix2, hi2, I.cells, Rt.cells, Im.cells, hF, hR]; exact Is.rfl)
                | apply WP.block
                | apply WP.skip
                | apply WP.exit
                | apply WP.ret
                | refine WP.condT rfl ?_
                | refine WP.condF rfl ?_)
              show retQ _ _ _ _ _
              exact ⟨.inr rfl, _, _, rfl, rfl⟩
            | true =>
              rw [hg] at hR
              have h5' : stepE im.rs k r j i = 0 := by unfold stepE; rw [hf, hg]; rfl
              rw [h5'] at hst
              repeat (first
                | apply WP.seq
                | (apply WP.reg
                   case hR => dsimp only [prepL, prepO, List.map, List.getElem?_cons_succ, List.getElem?_cons_zero]; exact Is.rfl
                   case hr =>
                     repeat (first
                       | (apply RT.op (h := by simp [dI, hix2, hi2, I.cells, Rt.cells, Im.cells, hF, hR]; exact Is.rfl) (he := by (try dsimp only [putEnv]) <;> exact rfl))
                       | (apply RT.call (hg := by simp; exact Is.rfl) (hfo := by simp; exact Is.rfl) (hpr := by exact Is.rfl) (hvs := by simp [dI, hix2, hi2, I.cells, Rt.cells, Im.cells, hF, hR]; exact Is.rfl) (hcl := by simp [dI, hix2, hi2, I.cells, Rt.cells, Im.cells, hF, hR]; exact Is.rfl) (hd := by simp [dI, hix2, hi2, I.cells, Rt.cells, Im.cells, hF, hR]; exact Is.rfl) (hwr := by simp [dI, hix2, hi2, I.cells, Rt.cells, Im.cells, hF, hR]; exact Is.rfl) (hlt := by simp [Is]) (he := by (try dsimp only [putEnv]) <;> exact rfl) (hh := by simp; exact Is.rfl) (hw := by simp; exact Is.rfl))
                       | (apply RT.callQ (hg := by simp; exact Is.rfl) (hfo := by simp; exact Is.rfl) (hpr := by exact Is.rfl) (hvs := by simp [dI, hix2, hi2, I.cells, Rt.cells, Im.cells, hF, hR]; exact Is.rfl) (hcl := by simp [dI, hix2, hi2, I.cells, Rt.cells, Im.cells, hF, hR]; exact Is.rfl) (hd := by simp [dI, hix2, hi2, I.cells, Rt.cells, Im.cells, hF, hR]; exact Is.rfl) (he := by (try dsimp only [putEnv]) <;> exact rfl))
                       | (apply RT.wr (h := by simp [dI, hix2, hi2, I.cells, Rt.cells, Im.cells, hF, hR]; exact Is.rfl) (he := by (try dsimp only [putEnv]) <;> exact rfl) (hh := by simp [dI, hix2, hi2, I.cells, Rt.cells, Im.cells, hF, hR]; exact Is.rfl) (hn := by exact Is.rfl) (hc := by exact Is.rfl) (hw := by simp; exact Is.rfl)))
                     exact RT.nil
                   case hc => (show _ = _; kernel_rfl)
                   case ht => simp [dI, hix2, hi2, I.cells, Rt.cells, Im.cells, hF, hR]; exact Is.rfl)
                | apply WP.block
                | apply WP.skip
                | apply WP.exit
                | apply WP.ret
                | refine WP.condT rfl ?_
                | refine WP.condF rfl ?_)
              refine loop_next (by simp [hw]; exact Is.rfl) ?_
              exact ⟨D - 1, by omega, j + 1, by omega, by rw [hst]; rfl, SE.mk (by simp [dI, hw]) (by simp [Im.cells, Rt.cells])⟩
        · simp at hb
          have hE0 : codeE (stepE im.rs k r) 0 r.code = 0 := by rw [hE, List.drop_of_length_le hb]; rfl
          rw [hE0]
          repeat (first
            | apply WP.seq
            | (apply WP.reg
               case hR => dsimp only [prepL, prepO, List.map, List.getElem?_cons_succ, List.getElem?_cons_zero]; exact Is.rfl
               case hr =>
                 repeat (first
                   | (apply RT.op (h := by simp; exact Is.rfl) (he := by (try dsimp only [putEnv]) <;> exact rfl))
                   | (apply RT.call (hg := by simp; exact Is.rfl) (hfo := by simp; exact Is.rfl) (hpr := by exact Is.rfl) (hvs := by simp; exact Is.rfl) (hcl := by simp; exact Is.rfl) (hd := by simp; exact Is.rfl) (hwr := by simp; exact Is.rfl) (hlt := by simp [Is]) (he := by (try dsimp only [putEnv]) <;> exact rfl) (hh := by simp; exact Is.rfl) (hw := by simp; exact Is.rfl))
                   | (apply RT.callQ (hg := by simp; exact Is.rfl) (hfo := by simp; exact Is.rfl) (hpr := by exact Is.rfl) (hvs := by simp; exact Is.rfl) (hcl := by simp; exact Is.rfl) (hd := by simp; exact Is.rfl) (he := by (try dsimp only [putEnv]) <;> exact rfl))
                   | (apply RT.wr (h := by simp; exact Is.rfl) (he := by (try dsimp only [putEnv]) <;> exact rfl) (hh := by simp; exact Is.rfl) (hn := by exact Is.rfl) (hc := by exact Is.rfl) (hw := by simp; exact Is.rfl)))
                 exact RT.nil
               case hc => (show _ = _; kernel_rfl)
               case ht => simp; exact Is.rfl)
            | apply WP.block
            | apply WP.skip
            | apply WP.exit
            | apply WP.ret)
          show retQ _ _ _ _ _
          exact ⟨.inr rfl, _, _, rfl, rfl⟩
end Go.Ac
end

section
set_option maxRecDepth 4000
set_option linter.unusedSimpArgs false
set_option linter.unusedVariables false
namespace Go.Ac
open Go.Proofs Go.ChangeShapes Go.WideShapes Go.RowKit
open Go.Proofs.YtofhhkkncaoneaaDoor (Rows.uptoBulk Rows.uptoBulkAll Rows.uptoSmall Rows.laid_synchrony_asm_operations)

theorem noCount : NoCount Tryd.prog := by
  have h : (Tryd.prog.funcs.toList.all fun fn => !(fn.name == "runtime.NumGoroutine")) = true := by kernel_rfl
  intro f fn hf _
  rw [List.all_eq_true] at h
  have := h fn (List.mem_of_getElem? (by rw [Array.getElem?_toList]; exact hf))
  simpa using this
theorem preOK : Pre Tryd.prog Cp.cfg := ⟨noCount, primOK cloneOK⟩
theorem mixed : Tryd.prog.follows .mixedOrders = true := by kernel_rfl
abbrev m0 (W : World) : M := ⟨fun _ => none, fun _ => none, fun _ g => g < 0, W⟩
theorem RD.m0 {W : World} {d : D} {v : Value} (h : RD W noB d v) : RD (m0 W).w ((m0 W).av noB) d v := h.mono fun b _ hn => ⟨fun hx => by
  rcases hx with hx | ⟨id, o, x, hx, _⟩
  · exact hx
  · simp at hx, rfl⟩
theorem glob_ok {W : World} (h : laidMet Tryd.prog [("synchrony/asm.operations", Rows.laid_synchrony_asm_operations)] W) : ∀ g, RV noB (m0 W) (Gl.gv g) (.pointer (some ⟨g, 0, none⟩)) := fun g => by
  cases g with
  | zero =>
    obtain ⟨cs, hR, hc⟩ := table h
    refine RV.vref (cells := opsTab) (fun j => cs.getD j default) (fun j d hj => ⟨fun hx => ?_, ?_⟩) fun j d hj => ?_
    · rcases hx with hx | ⟨id, o, x, hx, _⟩
      · exact hx
      · simp at hx
    · have hjl : j < cs.length := by rw [← hR.1]; exact (List.getElem?_eq_some_iff.1 hj).1
      rw [Nat.zero_add]
      show W.cell? _ = _
      rw [hc j]
      simp [List.getD, hjl]
    · have hjl : j < cs.length := by rw [← hR.1]; exact (List.getElem?_eq_some_iff.1 hj).1
      have : cs[j]? = some (cs.getD j default) := by simp [List.getD, hjl]
      exact (hR.2 j d _ hj this).m0
  | succ g => exact .any _

/-- A call by data is a call of the model's. -/
theorem den_calls {f : FuncId} {ws : List V} {xs : List Value} {b : Bool} {W : World} (hL : laidMet Tryd.prog [("synchrony/asm.operations", Rows.laid_synchrony_asm_operations)] W) (hd : den Tryd.prog Cp.cfg f ws = some (.d (.bool b))) (hx : RVs noB (m0 W) ws xs) :
    Calls Tryd.prog f xs.toArray W fun e W' => e = .returned (.bool b) ∧ Grown W W' ∧ ∀ i, i < W.heap.size → W'.heap[i]? = W.heap[i]? := by
  unfold den at hd
  split at hd
  · rename_i r hr
    split at hd
    · simp only [Option.some.injEq] at hd
      obtain ⟨K, hK⟩ := lim_some hr
      have hok := (callF_ok Cp.cfg preOK mixed K).ok (hK K (Nat.le_refl _)) (fun id _ => rfl) (S := noB) (m := m0 W) (xs := xs) rfl rfl
        ⟨glob_ok hL, fun id o h => by simp at h, fun id o h => by simp at h, fun id o b base h => by simp at h, fun i j oi oj b x y h => by simp at h, fun b h => h.elim⟩ hx
      refine hok.mono fun e W' ⟨x, m', he, hw, hRel, hEvo, hRV, _, _⟩ => ?_
      rw [hd] at hRV
      have hx2 : x = .bool b := by
        cases hRV with
        | d h => cases h; rfl
      have hheap : ∀ i, i < W.heap.size → W'.heap[i]? = W.heap[i]? := fun i hi => by
        rw [← hw]
        refine (hEvo.keep i hi ?_).2
        rintro (h | ⟨id, o, x, h, _⟩)
        · exact h
        · simp at h
      refine ⟨by rw [he, hx2], ⟨⟨by rw [← hw]; exact hEvo.rest.1, by rw [← hw]; exact hEvo.rest.2.1, fun i hi => ?_⟩, fun a => by rw [← hw]; exact hEvo.rest.2.2 a, by rw [← hw]; exact hEvo.size⟩, hheap⟩
      rw [hheap i hi]
      exact (World.keptBut_refl W (fun _ => False)).2.2 i hi
    · simp at hd
  · simp at hd

theorem kids : Kids Tryd.prog (· < Tryd.prog.types.size) := kids_rows (by kernel_rfl) (by kernel_rfl)
theorem full : ∀ t e, t < Tryd.prog.types.size → Tryd.prog.underlying t = some (.slice e) → 0 < Tryd.prog.cellsOf e := slices_full_of Tryd.prog (by kernel_rfl)
theorem lt25 : 25 < Tryd.prog.types.size := of_decide_eq_true (by kernel_rfl)
theorem lt26 : 26 < Tryd.prog.types.size := of_decide_eq_true (by kernel_rfl)
theorem stay {H : Type} {enc : TypeId × Value → H} {W : World} {t : TypeId} {v : Value} {d : DataW H} {ps : List MemPlace} (ht : t < Tryd.prog.types.size) (h : DataW.Trod enc Tryd.prog W 0 (fun _ => true) true t v d ps) :
    ∀ (W' : World) (sp : Nat → Bool), (∀ i, i < W.heap.size → W'.heap[i]? = W.heap[i]?) → (∀ p ∈ ps, sp p.block = true) → DataW.Trod enc Tryd.prog W' 0 sp true t v d ps := fun W' sp hh hs => by
  obtain ⟨fuel, hf⟩ := h
  refine ⟨fuel, DataW.trod_stays kids (fun {t e} ht => full t e ht) (fun hh => by cases hh) ht hf (fun p hp => ?_) hs⟩
  have hlt := DataW.trod_lt fuel t _ _ hf p hp
  cases p with
  | cell b off => simp only [World.sameAt, World.cell?]; rw [hh b hlt]
  | map b => simp only [World.sameAt]; exact hh b hlt
section
variable {H : Type} {enc : TypeId × Value → H} {W : World} {r : Reach} {base : Nat} {v : Value} {d : DataW H} {ps : List MemPlace}
theorem open26 (hv : Value.okWide Tryd.prog W r base 26 v) (h : DataW.Trod enc Tryd.prog W 0 (fun _ => true) true 26 v d ps) : ∃ l : List (List Int), l.length ≤ Rows.uptoBulk d ∧ (∀ r ∈ l, r.length ≤ Rows.uptoBulk d) ∧ RV noB (m0 W) (.d (.slice (encL l))) v := by
  obtain ⟨a, len, cap, rfl⟩ := okWide_slice Tryd.underlying26 hv
  obtain ⟨fuel, hf⟩ := h
  obtain ⟨l, v', h1, h2, h3, h4⟩ := openRow hf
  have hv' : v' = .slice a len cap := by simpa [Value.cells] using h1.symm
  subst hv'
  exact ⟨l, h3, h4, .d h2.m0⟩
theorem open25 (hv : Value.okWide Tryd.prog W r base 25 v) (h : DataW.Trod enc Tryd.prog W 0 (fun _ => true) true 25 v d ps) : ∃ im : Im, im.sz ≤ Rows.uptoBulk d ∧ (∀ r ∈ im.rs, RtB r) ∧ RV noB (m0 W) (aM im) v := by
  obtain ⟨cs, rfl, hcs⟩ : ∃ cs, v = .agg cs ∧ cs.size = 2 := by
    unfold Value.okWide at hv
    rw [Tryd.underlying25] at hv
    obtain ⟨cs, h1, h2, _⟩ := hv
    exact ⟨cs, h1, by rw [h2, c25]⟩
  obtain ⟨fuel, hf⟩ := h
  obtain ⟨im, h1, h2, h3⟩ := openIm hf
  refine ⟨im, h2, h3, .agg (by simp [Im.cells, hcs]) fun j x y hx hy => ?_⟩
  rw [List.getElem?_map, Option.map_eq_some_iff] at hx
  obtain ⟨d, hd, rfl⟩ := hx
  exact .d (h1.2 j d y hd (by simpa [Value.cells] using hy)).m0
end
theorem rtOK_of {im : Im} (hs : im.sz ≤ MB) (h : ∀ r ∈ im.rs, RtB r) : ∀ r, r ∈ im.rs → RtOK r := fun r hr => by
  have h1 := Im.mem_rs hr
  obtain ⟨a, b, c⟩ := h r hr
  exact ⟨by omega, a, b, c⟩

/-- What a law of an image and two lists of rows comes to. -/
theorem contract3 {f : FuncId} {fn : Func} {spec : ChangeSpec} (hp : fn.params = #[25, 26, 26]) (hr : fn.resultTypes = #[4]) (hvars : spec.vars = []) (hspec : ∀ (H : Type) (d d' d'' : DataW H), spec.fn H [d, d', d''] = { results := [.lit (.bool true)], args := [d, d', d''] })
    (hden : ∀ (im : Im) (rows more : List (List Int)), im.sz ≤ MB → (∀ r, r ∈ im.rs → RtOK r) → rows.length ≤ MB → more.length ≤ MB → (∀ r ∈ rows, r.length ≤ 4194304) → (∀ r ∈ more, r.length ≤ 4194304) → den Tryd.prog Cp.cfg f [aM im, .d (.slice (encL rows)), .d (.slice (encL more))] = some (.d (.bool true)))
    (H : Type) (enc : TypeId × Value → H) (W : World) (base : Nat) (args : Array Value) (ds gs : List (DataW H)) (before : List MemPlace)
    (hval : ∀ (j : Nat) t v, fn.params[j]? = some t → args[j]? = some v → Value.okWide Tryd.prog W .any base t v)
    (hW : DataW.Whole enc Tryd.prog fn.params.toList spec.vars false W args.toList ds gs before) (hk : Rows.uptoSmall H (ds ++ gs) = true)
    (hL : laidMet Tryd.prog [("synchrony/asm.operations", Rows.laid_synchrony_asm_operations)] W) :
    Calls Tryd.prog f args W fun e W' => ∃ v, e = .returned v ∧ spec.post enc Tryd.prog fn false true false false W args v W' := by
  have hW' := hW
  obtain ⟨p, q, hA0, hV, rfl, hfz, hnd⟩ := hW
  have hA : DataW.TrodAll enc Tryd.prog W 0 (fun _ => true) true fn.params.toList args.toList ds p := hA0
  rw [hp] at hA hval
  obtain ⟨v0, vs0, d0, ds0, p0, q0, hargs, rfl, rfl, h0, r0⟩ := trodAll_cons hA
  obtain ⟨v1, vs1, d1, ds1, p1, q1, rfl, rfl, rfl, h1, r1⟩ := trodAll_cons r0
  obtain ⟨v2, vs2, d2, ds2, p2, q2, rfl, rfl, rfl, h2, r2⟩ := trodAll_cons r1
  obtain ⟨rfl, rfl, rfl⟩ := trodAll_nil r2
  obtain rfl : args = #[v0, v1, v2] := by cases args; simp_all
  rw [hvars] at hV
  obtain ⟨rfl, rfl⟩ := trodVars_none hV
  have hb : Rows.uptoBulk d0 + (Rows.uptoBulk d1 + Rows.uptoBulk d2) ≤ 1048576 := by
    have h1 := of_decide_eq_true hk
    simp only [List.append_nil, Rows.uptoBulkAll] at h1
    omega
  obtain ⟨im, hsz, hrb, hRV0⟩ := open25 (hval 0 25 v0 rfl rfl) h0
  obtain ⟨rows, hl1, hl1', hRV1⟩ := open26 (hval 1 26 v1 rfl rfl) h1
  obtain ⟨more, hl2, hl2', hRV2⟩ := open26 (hval 2 26 v2 rfl rfl) h2
  have hs : im.sz ≤ MB := by unfold MB; omega
  have hd := hden im rows more hs (rtOK_of hs hrb) (by unfold MB; omega) (by unfold MB; omega) (fun r hr => by have := hl1' r hr; omega) (fun r hr => by have := hl2' r hr; omega)
  refine (den_calls (xs := [v0, v1, v2]) hL hd ⟨rfl, fun j x y hx hy => ?_⟩).mono fun e W' ⟨he, hg, hh⟩ => ?_
  · match j with
    | 0 => simp at hx hy; subst hx; subst hy; exact hRV0
    | 1 => simp at hx hy; subst hx; subst hy; exact hRV1
    | 2 => simp at hx hy; subst hx; subst hy; exact hRV2
    | j + 3 => simp at hx
  subst he
  clear hA0
  simp only [List.append_nil] at hW'
  have hfn := hspec H d0 d1 d2
  refine ⟨_, rfl, post_of_same (pa := p0 ++ (p1 ++ (p2 ++ []))) (pv := []) (by simpa using hW') (fun _ _ _ => ?_) (fun sp hs => ?_) (fun _ _ => ?_) (by simp) (hg.frame _) hg.2.1 ?_⟩
  · rw [hr]
    show DataW.TrodAll enc Tryd.prog W' _ _ _ [4] [.bool true] (spec.fn H [d0, d1, d2]).results []
    rw [hfn]
    exact trodAll_cons_mk (shut_bool Tryd.underlying4 _) trodAll_mk0
  · rw [hp]
    show DataW.TrodAll enc Tryd.prog W' 0 sp true [25, 26, 26] [v0, v1, v2] (spec.fn H [d0, d1, d2]).args (p0 ++ (p1 ++ (p2 ++ [])))
    rw [hfn]
    exact trodAll_cons_mk (stay lt25 h0 W' sp hh fun p hp => hs p (by simp [hp])) (trodAll_cons_mk (stay lt26 h1 W' sp hh fun p hp => hs p (by simp [hp])) (trodAll_cons_mk (stay lt26 h2 W' sp hh fun p hp => hs p (by simp [hp])) trodAll_mk0))
  · show DataW.TrodVars enc Tryd.prog W' _ spec.vars (spec.fn H [d0, d1, d2]).vars []
    rw [hvars, hfn]
    exact rfl
  · exact ok_one hr rfl (okWide_bool_mk Tryd.underlying4 _)
end Go.Ac
end

section
set_option maxRecDepth 4000
set_option linter.unusedSimpArgs false
set_option linter.unusedVariables false
namespace Go.Ac
open Go.Proofs

/-! ### Instructions that have passed the check -/
inductive OkI (rs : List Rt) (k R M at_ L : Nat) : I → Prop
  | load (A : Nat) (b : Int) (hA : A < R) (h1 : -32768 ≤ b) (h2 : b ≤ 32767) : OkI rs k R M at_ L ⟨1, A, b, 0, 0⟩
  | move (A B : Nat) (hA : A < R) (hB : B < R) : OkI rs k R M at_ L ⟨2, A, B, 0, 0⟩
  | read (A B : Nat) (hA : A < R) (hB : B < M) : OkI rs k R M at_ L ⟨3, A, B, 0, 0⟩
  | write (A B : Nat) (hA : A < M) (hB : B < R) : OkI rs k R M at_ L ⟨4, A, B, 0, 0⟩
  | unary (A B : Nat) (c : Int) (hA : A < R) (hB : B < R) (hc : c = 1 ∨ c = 2) : OkI rs k R M at_ L ⟨5, A, B, c, 0⟩
  | apply (A B C : Nat) (d : Int) (hA : A < R) (hB : B < R) (hC : C < R) (h1 : 3 ≤ d) (h2 : d ≤ 16) : OkI rs k R M at_ L ⟨6, A, B, C, d⟩
  | jump (B : Nat) (h1 : at_ < B) (h2 : B ≤ L) : OkI rs k R M at_ L ⟨7, 0, B, 0, 0⟩
  | zero (A B : Nat) (hA : A < R) (h1 : at_ < B) (h2 : B ≤ L) : OkI rs k R M at_ L ⟨8, A, B, 0, 0⟩
  | call (A B C D : Nat) (q : Rt) (hq : rs[A]? = some q) (hA : A < k) (hB : B + q.ini.length ≤ M) (hC : C + q.inn.length ≤ R) (hD : D + q.out.length ≤ R) : OkI rs k R M at_ L ⟨9, A, B, C, D⟩
  | reset (A B : Nat) (q : Rt) (hq : rs[A]? = some q) (hA : A < k) (hB : B + q.ini.length ≤ M) : OkI rs k R M at_ L ⟨10, A, B, 0, 0⟩

def rtZ : Rt := ⟨[], [], [], 0, [], []⟩
/-! ### The machine -/
def putAt (l : List Int) (k : Nat) (xs : List Int) : List Int := l.take k ++ xs ++ l.drop (k + xs.length)
theorem putAt_len {l : List Int} {k : Nat} {xs : List Int} (h : k + xs.length ≤ l.length) : (putAt l k xs).length = l.length := by
  unfold putAt; simp; omega
abbrev CallM := Nat → Nat → List Int → List Int → List Int × List Int × Nat
def rgv (l : List Int) (x : Int) : Int := l.getD x.toNat 0
def rtAt (rs : List Rt) (a : Int) : Rt := rs.getD a.toNat rtZ
/-- Where it goes on, the registers, the memory, how many instructions more. -/
def stepM (rs : List Rt) (f : CallM) (base at_ : Nat) (i : I) (regs mem : List Int) : Nat × List Int × List Int × Nat :=
  if i.op = 1 then (at_ + 1, regs.set i.a.toNat i.b, mem, 0)
  else if i.op = 2 then (at_ + 1, regs.set i.a.toNat (rgv regs i.b), mem, 0)
  else if i.op = 3 then (at_ + 1, regs.set i.a.toNat (rgv mem (base + i.b)), mem, 0)
  else if i.op = 4 then (at_ + 1, regs, mem.set (base + i.a.toNat) (rgv regs i.b), 0)
  else if i.op = 5 then (at_ + 1, regs.set i.a.toNat (apR i.c [rgv regs i.b]), mem, 0)
  else if i.op = 6 then (at_ + 1, regs.set i.a.toNat (apR i.d [rgv regs i.b, rgv regs i.c]), mem, 0)
  else if i.op = 7 then (i.b.toNat, regs, mem, 0)
  else if i.op = 8 then (if rgv regs i.a = 0 then i.b.toNat else at_ + 1, regs, mem, 0)
  else if i.op = 9 then
    let o := f i.a.toNat (base + i.b.toNat) ((regs.drop i.c.toNat).take (rtAt rs i.a).inn.length) mem
    (at_ + 1, putAt regs i.d.toNat o.1, o.2.1, o.2.2)
  else (at_ + 1, regs, putAt mem (base + i.b.toNat) (rtAt rs i.a).ini, 0)
def loopM (rs : List Rt) (f : CallM) (r : Rt) (base : Nat) : Nat → Nat → List Int → List Int → Nat → List Int × List Int × Nat
  | 0, _, regs, mem, cnt => (regs, mem, cnt)
  | d + 1, at_, regs, mem, cnt => match r.code[at_]? with
    | none => (regs, mem, cnt)
    | some i => loopM rs f r base d (stepM rs f base at_ i regs mem).1 (stepM rs f base at_ i regs mem).2.1 (stepM rs f base at_ i regs mem).2.2.1 (cnt + 1 + (stepM rs f base at_ i regs mem).2.2.2)
def callM (rs : List Rt) : Nat → CallM
  | 0, _, _, _, mem => ([], mem, 0)
  | f + 1, k, base, ins, mem =>
    let r := rs.getD k rtZ
    let o := loopM rs (callM rs f) r base r.code.length 0 (ins ++ List.replicate (r.regs.toNat - ins.length) 0) mem 0
    ((o.1.drop r.inn.length).take r.out.length, o.2.1, o.2.2)

theorem loopM_end {rs : List Rt} {f : CallM} {r : Rt} {base at_ : Nat} (h : r.code.length ≤ at_) (regs mem : List Int) (cnt : Nat) : ∀ d, loopM rs f r base d at_ regs mem cnt = (regs, mem, cnt)
  | 0 => rfl
  | d + 1 => by simp only [loopM, List.getElem?_eq_none h]
theorem loopM_step {rs : List Rt} {f : CallM} {r : Rt} {base at_ : Nat} {i : I} (h : r.code[at_]? = some i) (regs mem : List Int) (cnt d : Nat) : loopM rs f r base (d + 1) at_ regs mem cnt = loopM rs f r base d (stepM rs f base at_ i regs mem).1 (stepM rs f base at_ i regs mem).2.1 (stepM rs f base at_ i regs mem).2.2.1 (cnt + 1 + (stepM rs f base at_ i regs mem).2.2.2) := by
  simp only [loopM, h]

/-- Routines that have passed the check. -/
structure OkR (rs : List Rt) (k : Nat) (r : Rt) : Prop where
  io : (r.inn.length : Int) + r.out.length ≤ r.regs
  hi : r.regs ≤ 32768
  code : ∀ at_ i, r.code[at_]? = some i → OkI rs k r.regs.toNat r.ini.length at_ r.code.length i
def OkM (rs : List Rt) : Prop := ∀ k r, rs[k]? = some r → OkR rs k r

/-- What a call keeps to. -/
def CallOk (rs : List Rt) (n : Nat) (f : CallM) : Prop := ∀ k q base ins mem, k < n → rs[k]? = some q → ins.length = q.inn.length → base + q.ini.length ≤ mem.length → (f k base ins mem).1.length = q.out.length ∧ (f k base ins mem).2.1.length = mem.length

theorem rtAt_nat {rs : List Rt} {A : Nat} {q : Rt} (h : rs[A]? = some q) : rtAt rs (A : Int) = q := by
  unfold rtAt; simp [List.getD, h]

theorem stepM_ok {rs : List Rt} {f : CallM} {k R M L base at_ : Nat} {i : I} {regs mem : List Int} (hi : OkI rs k R M at_ L i) (hf : CallOk rs k f) (hr : regs.length = R) (hm : base + M ≤ mem.length) (hat : at_ < L) :
    (stepM rs f base at_ i regs mem).2.1.length = R ∧ (stepM rs f base at_ i regs mem).2.2.1.length = mem.length ∧ at_ < (stepM rs f base at_ i regs mem).1 ∧ (stepM rs f base at_ i regs mem).1 ≤ L := by
  cases hi with
  | load A b hA h1 h2 => simp [stepM, hr]; omega
  | move A B hA hB => simp [stepM, hr]; omega
  | read A B hA hB => simp [stepM, hr]; omega
  | write A B hA hB => simp [stepM, hr]; omega
  | unary A B c hA hB hc => simp [stepM, hr]; omega
  | apply A B C d hA hB hC h1 h2 => simp [stepM, hr]; omega
  | jump B h1 h2 => simp [stepM, hr]; omega
  | zero A B hA h1 h2 => simp [stepM, hr]; split <;> omega
  | call A B C D q hq hA hB hC hD =>
    have hc := hf A q (base + B) ((regs.drop C).take q.inn.length) mem hA hq (by simp; omega) (by omega)
    have e : stepM rs f base at_ ⟨9, A, B, C, D⟩ regs mem = (at_ + 1, putAt regs D (f A (base + B) ((regs.drop C).take q.inn.length) mem).1, (f A (base + B) ((regs.drop C).take q.inn.length) mem).2.1, (f A (base + B) ((regs.drop C).take q.inn.length) mem).2.2) := by
      simp [stepM, rtAt_nat hq]
    rw [e]
    exact ⟨by rw [putAt_len (by rw [hc.1]; omega), hr], hc.2, by simp, by simp; omega⟩
  | reset A B q hq hA hB =>
    have e : stepM rs f base at_ ⟨10, A, B, 0, 0⟩ regs mem = (at_ + 1, regs, putAt mem (base + B) q.ini, 0) := by
      simp [stepM, rtAt_nat hq]
    rw [e]
    exact ⟨hr, by rw [putAt_len (by omega)], by simp, by simp; omega⟩

theorem loopM_ok {rs : List Rt} {f : CallM} {k : Nat} {r : Rt} {base : Nat} (hr : OkR rs k r) (hf : CallOk rs k f) : ∀ (d at_ : Nat) (regs mem : List Int) (cnt : Nat), regs.length = r.regs.toNat → base + r.ini.length ≤ mem.length →
    (loopM rs f r base d at_ regs mem cnt).1.length = r.regs.toNat ∧ (loopM rs f r base d at_ regs mem cnt).2.1.length = mem.length
  | 0, at_, regs, mem, cnt, h1, h2 => ⟨h1, rfl⟩
  | d + 1, at_, regs, mem, cnt, h1, h2 => by
    by_cases ha : at_ < r.code.length
    · have hi : r.code[at_]? = some r.code[at_] := by simp [ha]
      have hs := stepM_ok (base := base) (regs := regs) (mem := mem) (hr.code _ _ hi) hf h1 h2 ha
      rw [loopM_step hi]
      have ih := loopM_ok hr hf d (stepM rs f base at_ r.code[at_] regs mem).1 _ _ (cnt + 1 + (stepM rs f base at_ r.code[at_] regs mem).2.2.2) hs.1 (by rw [hs.2.1]; exact h2)
      exact ⟨ih.1, ih.2.trans hs.2.1⟩
    · rw [loopM_end (by omega)]
      exact ⟨h1, rfl⟩

theorem callM_ok {rs : List Rt} (h : OkM rs) : ∀ f, CallOk rs f (callM rs f)
  | 0 => fun k q base ins mem hk => by omega
  | f + 1 => fun k q base ins mem hk hq hi hm => by
    have hr := h k q hq
    have hio := hr.io
    have hg : rs.getD k rtZ = q := by simp [List.getD, hq]
    have hl := loopM_ok (base := base) hr (fun j q' b i m hj => callM_ok h f j q' b i m (by omega)) q.code.length 0 (ins ++ List.replicate (q.regs.toNat - ins.length) 0) mem 0 (by simp; omega) hm
    simp only [callM, hg]
    refine ⟨?_, hl.2⟩
    rw [List.length_take, List.length_drop, hl.1]
    omega
end Go.Ac
end
