/- The abstract machine: one operation of a region. No conditions. -/
import Derived.Test.YtofbmhmdpeclnaaAbO
set_option linter.unusedVariables false
set_option linter.unusedSimpArgs false
namespace Go.Ab
variable {P : Program}

/-- What an operation does hangs on its operands alone. -/
theorem step_congr {fz fs : Bool} {ρ ρ' : Operand → V} {look : Look} {n c : Nat} {op : Op} (h : ∀ x ∈ op.operands, ρ x = ρ' x) : step P fz fs ρ look n c op = step P fz fs ρ' look n c op := by
  have pairs : ∀ ps : Array (Nat × Operand), (∀ x ∈ (ps.toList.map (·.2)).toArray, ρ x = ρ' x) → (ps.toList.map fun p => (p.1, ρ p.2)) = ps.toList.map fun p => (p.1, ρ' p.2) := fun ps hp =>
    List.map_congr_left fun p hm => by rw [hp p.2 (by simp only [List.mem_toArray]; exact List.mem_map_of_mem hm)]
  cases op <;> simp only [Op.operands] at h <;> simp only [step]
  case build t ps => rw [pairs ps h]
  case buildSlice t n ps => rw [pairs ps h]
  case makeFunc fn first caps =>
    cases fn <;> try rfl
    simp only [step]
    rw [List.map_congr_left (f := ρ) (g := ρ') (l := caps.toList) fun x hx => h x (by simp at hx ⊢; exact .inr hx)]
  case call cl =>
    obtain ⟨callee, args, ts⟩ := cl
    cases callee <;> try rfl
    simp only [step]
    rw [List.map_congr_left (f := ρ) (g := ρ') (l := args.toList) fun x hx => h x (by simp [Call.operands] at hx ⊢; exact hx)]
  case slice t x lo hi mx => cases lo <;> cases hi <;> cases mx <;> simp_all
  all_goals (first | rfl | (simp_all; done))

/-- The values of the slots that an operation looks at. -/
def EnvAt (S : Nat → Prop) (m : M) (e : Env) (a : Act) (ts : List Nat) : Prop := ∀ t ∈ ts, RV S m (e.get t) (a.tmps.getD t undef)

section
variable {S : Nat → Prop} {m : M}

theorem opdSlots_of {o : Oper} {all : List Oper} {t : Nat} (h : Operand.tmp t ∈ o.op.operands) : t ∈ opdSlots o all :=
  List.mem_append_left _ (List.mem_filterMap.2 ⟨.tmp t, by simpa using h, rfl⟩)

theorem evalV_RV {e : Env} {a : Act} {ts : List Nat} (he : EnvAt S m e a ts) {x : Operand} (hx : ∀ t, x = .tmp t → t ∈ ts) : RV S m (evalV e x) (a.eval x) := by
  cases x with
  | tmp t => exact he t (hx t rfl)
  | const v => exact constV_RV v
  | global g => exact .any _
  | func f => exact .fn rfl (fun j x y hx => by simp at hx)

theorem undef_not_bool (b : Bool) : undef ≠ Value.bool b := by unfold undef; intro h; cases h

theorem wantedV_sound {ops : Array Oper} {o : Oper} {e : Env} {a : Act} {b : Bool} (h : wantedV ops.toList e o = some b) (he : EnvAt S m e a (opdSlots o ops.toList)) :
    Region.wanted o (yielded ops a.tmps) = b := by
  unfold wantedV at h
  unfold Region.wanted
  cases hg : o.guard with
  | none => simp [hg] at h; subst h; rfl
  | some gw =>
    obtain ⟨j, want⟩ := gw
    simp only [hg, Array.getElem?_toList] at h
    cases hj : ops[j]? with
    | none => simp [hj] at h
    | some g =>
      simp only [hj] at h
      cases hd : g.dst with
      | none => simp [hd] at h
      | some d =>
        simp only [hd] at h
        have hsl : d ∈ opdSlots o ops.toList := List.mem_append_right _ (by simp [hg, hj, hd])
        have hr := he d hsl
        have hy : yielded ops a.tmps j = match a.tmps[d]? with | some (.bool b) => some b | _ => none := by simp [yielded, hj, hd]; rfl
        simp only [hy]
        split at h
        · rename_i q hq
          simp at h; subst h
          rw [hq] at hr
          cases hr with
          | d hr =>
            cases htd : a.tmps[d]? with
            | none =>
              have : a.tmps.getD d undef = undef := by simp [htd]
              rw [this] at hr
              generalize hu : undef = u at hr
              cases hr
              exact absurd hu (undef_not_bool _)
            | some v =>
              have : a.tmps.getD d undef = v := by simp [htd]
              rw [this] at hr
              cases hr
              simp
        · rename_i hq
          simp at h; subst h
          rw [hq] at hr
          cases htd : a.tmps[d]? with
          | none => simp
          | some v =>
            have : a.tmps.getD d undef = v := by simp [htd]
            rw [this] at hr
            cases hr
            simp [undef]
        · simp at h

/-- No function of the program carries the one name that is met otherwise. -/
def NoCount (P : Program) : Prop := ∀ (f : FuncId) (fn : Func), P.funcs[f]? = some fn → fn.body.isSome = true → (fn.name == "runtime.NumGoroutine") = false

theorem callFunc_run (hN : NoCount P) {f : FuncId} {fn : Func} {args : Array Value} {w : World} (hf : P.funcs[f]? = some fn) (hb : fn.body.isSome = true) : (callFunc f args).run P w = .ok (.enter f args) w := by
  have h1 := hN f fn hf hb
  have h2 : fn.body.isNone = false := by cases hbb : fn.body <;> simp_all
  unfold callFunc
  simp only [program, bind, Sem.bind, Sem.run, hf, h1, h2]
  simp [pure, Sem.run]

/-- A call of a function value. -/
theorem call_run (hN : NoCount P) {σ : Operand → Value} {dst : Option Tmp} {fo : Operand} {args : Array Operand} {ts : Array TypeId} {ty : TypeId} {pos : String} {af : Array Edge} {gd : Option (Nat × Bool)} {f : FuncId} {caps : Array Value} {fn : Func} {w : World}
    (hσ : σ fo = .func (.func f) #[] caps) (hf : P.funcs[f]? = some fn) (hb : fn.body.isSome = true) :
    (execOp σ ⟨dst, .call ⟨.value fo, args, ts⟩, ty, pos, af, gd⟩).run P w = .ok (.enter f (args.map σ ++ caps)) w := by
  simp only [execOp, resolve, hσ, Deferred.ofValue, invoke, Sem.run_bind, Sem.run_pure, Result.andThen_ok]
  rw [show (#[] : Array Value) ++ args.map σ = args.map σ by simp]
  exact callFunc_run hN hf hb

end

/-- A call has a body to run. -/
def Bodies (P : Program) (call : CallF) : Prop := ∀ {f : FuncId} {vs : List V} {hp : Hp} {n c : Nat} {r : CR}, call f vs hp n c = some r → ∃ fn, P.funcs[f]? = some fn ∧ fn.body.isSome = true

theorem callR_body {cfg : Cfg} {call : CallF} (hB : Bodies P call) {hp : Hp} {n c : Nat} {f : FuncId} {vs : List V} {r : Res} (h : callR cfg call hp n c f vs = some r) : ∃ fn, P.funcs[f]? = some fn ∧ fn.body.isSome = true := by
  unfold callR at h
  split at h <;> (split at h <;> first | (rename_i r0 hr0; exact hB hr0) | (simp at h; done))

section
variable {S : Nat → Prop} {m : M}

/-- One operation, wanted or not. -/
theorem opW_sound (hN : NoCount P) {cfg : Cfg} {fid rid : Nat} {call : CallF} (hc : CallOK P call) (hB : Bodies P call) {ops : Array Oper} {o : Oper} {s : St} {r : Res} {i : Nat} {a : Act}
    (hi : ops[i]? = some o) (h : opW P cfg fid rid call ops.toList o s = some r) (ht : Tops s.hp s.n) (hag : Agree s.hp.get m.h r.rd)
    (hall : r.all = true → m.h = s.hp.get ∧ m.iss = fun _ g => g < s.c) (hf : Fresh m s.c r.dc) (hR : Rel S m) (he : EnvAt S m s.env a (opdSlots o ops.toList))
    {Q : Exit → Act → World → Prop} {K : Act → World → Prop} (hK : ∀ x m', After S m s.c r x m' → K (a.put o.dst x) m'.w) : wpOp P ops Q i K a m.w := by
  unfold wpOp
  simp only [hi]
  unfold opW at h
  split at h
  · rename_i hw
    rw [if_pos (wantedV_sound hw he)]
    refine .inl ?_
    split at h
    · rename_i q hq
      split at h
      · simp only [Option.some.injEq] at h; subst h
        unfold Oper.wp
        unfold opR at hq
        split at hq
        · rename_i fo args ts ho
          split at hq
          · rename_i f caps hfo
            have hslot : ∀ x ∈ o.op.operands, RV S m (evalV s.env x) (a.eval x) := fun x hx => evalV_RV he fun t ht => by subst ht; exact opdSlots_of hx
            have hfv : RV S m (evalV s.env fo) (a.eval fo) := hslot fo (by rw [ho]; simp [Op.operands, Call.operands])
            rw [hfo] at hfv
            obtain ⟨fn, hfn, hbody⟩ := callR_body hB hq
            generalize hv : a.eval fo = v at hfv
            cases hfv with
            | @fn _ _ cs hl hcs =>
              have hrun : (execOp a.eval o).run P m.w = .ok (.enter f (args.map a.eval ++ cs)) m.w := by
                obtain ⟨dst, op, ty, pos, af, gd⟩ := o
                simp only at ho; subst ho
                exact call_run hN hv hfn hbody
              rw [hrun, Oper.upon_enter]
              have hvs : RVs S m (args.toList.map (evalV s.env) ++ caps) (args.toList.map a.eval ++ cs.toList) := by
                refine RVs.append ?_ ⟨by simpa using hl, fun j x y hx hy => hcs j x y hx (by simpa using hy)⟩
                refine ⟨by simp, fun j x y hx hy => ?_⟩
                rw [List.getElem?_map] at hx hy
                cases hj : args.toList[j]? with
                | none => simp [hj] at hx
                | some z =>
                  simp [hj] at hx hy; subst hx; subst hy
                  exact hslot z (by rw [ho]; simp only [Op.operands, Call.operands]; simp; exact .inr (by simpa using List.mem_of_getElem? hj))
              have := callR_sound hc hq ht hag hall hf hR hvs
              rw [show (args.toList.map a.eval ++ cs.toList).toArray = args.map a.eval ++ cs by apply Array.ext'; simp] at this
              refine Calls.mono this ?_
              rintro e w' ⟨x, m', rfl, rfl, hA⟩
              exact hK x m' hA
          · simp at hq
        · rename_i hno
          classical
          let ρ : Operand → V := fun x => if x ∈ o.op.operands then evalV s.env x else .any
          have hst : step P (cfg.fz fid rid).1 (cfg.fz fid rid).2 ρ m.h s.n s.c o.op = some q := by
            rw [← step_loc hq hag]
            exact step_congr fun x hx => by simp [ρ, hx]
          have hρ : ∀ x, RV S m (ρ x) (a.eval x) := fun x => by
            by_cases hx : x ∈ o.op.operands
            · simp only [ρ, if_pos hx]; exact evalV_RV he fun t ht => by subst ht; exact opdSlots_of hx
            · simp only [ρ, if_neg hx]; exact .any _
          obtain ⟨x, m', hg, hA⟩ := step_sound hst hρ hR hf
          rcases hg with hg | ⟨hg, rfl⟩
          · rw [hg, Oper.upon_value]; exact hK x m' hA
          · rw [hg, Oper.upon_skip]; exact hK _ m' hA
      · simp at h
    · simp at h
  · rename_i hw
    simp only [Option.some.injEq] at h; subst h
    rw [if_neg (by rw [wantedV_sound hw he]; simp)]
    exact hK undef m (After.quiet hR .undef)
  · simp at h

end

end Go.Ab
