/- The abstract machine: code and calls do what the abstract machine says. No conditions. -/
import Derived.Test.YtofbmhmdpeclnaaAbT
set_option linter.unusedVariables false
set_option linter.unusedSimpArgs false
namespace Go.Ab
variable {P : Program}

def Ex.toExit : Ex → Exit
  | .normal => .normal
  | .exit id => .exit id
  | .ret => .ret

/-! ### Loops -/

def LoopWp (P : Program) (c : Code) (Q : Exit → Act → World → Prop) (a : Act) (w : World) : Prop :=
  ∀ (b : Frame) (k : List Item) (cs : List Frame), ∃ e a' w', Q e a' w' ∧ Arrives P (lone (b.at a (.code c :: .inLoop c :: k)) cs w) b k cs e a' w'

theorem LoopWp.wp {c : Code} {Q : Exit → Act → World → Prop} {a : Act} {w : World} (h : LoopWp P c Q a w) : (Code.loop c).wp P Q a w :=
  fun b k cs => let ⟨e, a', w', q, r⟩ := h b k cs; ⟨e, a', w', q, .of_steps (.one step_loop) r⟩

theorem LoopWp.round {c : Code} {Q : Exit → Act → World → Prop} {a : Act} {w : World} (h : c.wp P (Exit.then (LoopWp P c Q) Q) a w) : LoopWp P c Q a w := by
  intro b k cs
  obtain ⟨e, a₁, w₁, hq, harr⟩ := h b (.inLoop c :: k) cs
  cases e with
  | normal =>
    obtain ⟨e₂, a₂, w₂, hq₂, harr₂⟩ := hq b k cs
    exact ⟨e₂, a₂, w₂, hq₂, .of_steps (Steps.trans harr (.one step_inLoop)) harr₂⟩
  | exit id => exact ⟨_, a₁, w₁, hq, .pass (x := .inLoop c) rfl (fun _ _ => .inl (by simp)) harr⟩
  | goto l => exact ⟨_, a₁, w₁, hq, .pass (x := .inLoop c) rfl (fun _ _ => .inl (by simp)) harr⟩
  | ret => exact ⟨_, a₁, w₁, hq, .pass (x := .inLoop c) rfl (fun _ _ => .inl (by simp)) harr⟩
  | panic ch => exact ⟨_, a₁, w₁, hq, .pass (x := .inLoop c) rfl (fun _ _ => .inl (by simp)) harr⟩
  | outgrown => exact ⟨_, a₁, w₁, hq, .pass (x := .inLoop c) rfl (fun _ _ => .inl (by simp)) harr⟩

/-! ### Results -/

section
variable {S : Nat → Prop} {m : M} {s : St} {N : Nat} {a : Act}

theorem loadV_ptr {look : Look} {i : TI} {p : V} {v : Value} {r : Res} (h : loadV look i p = some r) (hl : look = m.h) (hv : RV S m p v) : ∃ ad, v = .pointer (some ad) := by
  unfold loadV at h
  split at h
  · rename_i id g off
    cases hlv : live look id g with
    | none => simp [hlv] at h
    | some o =>
      obtain ⟨_, _, b, base, _, rfl⟩ := hv.ptr_live (hl ▸ hlv)
      exact ⟨_, rfl⟩
  · cases hv with | vref f hf hr => exact ⟨_, rfl⟩
  · simp at h

def resultOf (tmps : Array Value) : ResultVar → Sem Value
  | .tmp t => pure (tmps.getD t undef)
  | .cell a t => do loadVar t (← asAddr (tmps.getD a undef))

theorem resultV_sound (h : RS S N s m a) {r : ResultVar} {v : V} (hr : resultV P s r = some v) : ∃ x, (resultOf a.tmps r).run P m.w = .ok x m.w ∧ RV S m v x := by
  cases r with
  | tmp t => simp [resultV] at hr; subst hr; exact ⟨_, rfl, h.env t⟩
  | cell q t =>
    simp only [resultV, Option.bind_eq_some_iff, Option.map_eq_some_iff] at hr
    obtain ⟨i, hi, y, hy, rfl⟩ := hr
    obtain ⟨x, g1, g2⟩ := loadV_sound (c := 0) hi hy h.h.symm h.rel (h.env q)
    obtain ⟨ad, had⟩ := loadV_ptr hy h.h.symm (h.env q)
    refine ⟨x, ?_, g2.2.2.1⟩
    rw [had] at g1
    simp only [resultOf, had, asAddr, Sem.run_bind, Sem.run_pure, Result.andThen_ok]
    simpa [Instr.loadAt, Instr.sureAddr] using g1

theorem resultsV_sound (h : RS S N s m a) : ∀ {l : List ResultVar} {vs : List V}, resultsV P s l = some vs → ∃ xs, (l.mapM (resultOf a.tmps)).run P m.w = .ok xs m.w ∧ RVs S m vs xs
  | [], vs, hr => by simp [resultsV] at hr; subst hr; exact ⟨[], by simp, .nil⟩
  | r :: l, vs, hr => by
    simp only [resultsV] at hr
    split at hr
    · rename_i v us h1 h2
      simp only [Option.some.injEq] at hr; subst hr
      obtain ⟨x, g1, g2⟩ := resultV_sound h h1
      obtain ⟨xs, g3, g4⟩ := resultsV_sound h h2
      exact ⟨x :: xs, by simp [List.mapM_cons, Sem.run_bind, g1, g3], .cons g2 g4⟩
    · simp at hr

theorem results_sound (h : RS S N s m a) {fn : Func} {rs : List V} (hr : resultsV P s fn.results.toList = some rs) : ∃ x, (results fn a.tmps).run P m.w = .ok x m.w ∧ RV S m (tup rs) x := by
  obtain ⟨xs, g1, g2⟩ := resultsV_sound h hr
  have e : results fn a.tmps = (do let vs ← fn.results.mapM (resultOf a.tmps); pure (if h : vs.size = 1 then vs[0] else .tuple vs)) := by
    unfold results
    congr 1
  have hrun : (fn.results.mapM (resultOf a.tmps)).run P m.w = .ok xs.toArray m.w := by
    rw [Array.mapM_eq_mapM_toList]
    simp [g1]
  rw [e]
  simp only [Sem.run_bind, hrun, Result.andThen_ok, Sem.run_pure]
  refine ⟨_, rfl, ?_⟩
  cases rs with
  | nil =>
    have : xs = [] := List.length_eq_zero_iff.1 (by rw [← g2.1]; rfl)
    subst this
    exact g2.tuple
  | cons v r =>
    obtain ⟨x, ys, rfl, k1, k2⟩ := g2.cases
    cases r with
    | nil =>
      have : ys = [] := List.length_eq_zero_iff.1 (by rw [← k2.1]; rfl)
      subst this
      simpa [tup] using k1
    | cons u r =>
      obtain ⟨y, zs, rfl, k3, k4⟩ := k2.cases
      simp only [tup]
      rw [dif_neg (by simp)]
      exact g2.tuple

/-- The objects that a loop's round has made are let go. -/
theorem trunc_sound (h : RS S N s m a) {n : Nat} (hn : s.n0 ≤ n) : ∃ m', m'.w = m.w ∧ RS S N { s with hp := Hp.trunc n s.hp, n := n } m' a ∧ Evo S m m' := by
  obtain ⟨g1, g2⟩ := h.rel.less (h' := (Hp.trunc n s.hp).get) (fun id o ho => by
    rw [trunc_get] at ho
    split at ho
    · rw [h.h]; exact ho
    · cases ho)
  refine ⟨{ m with h := (Hp.trunc n s.hp).get }, rfl, ⟨rfl, h.iss, g1, fun t => (h.env t).mono g2, h.size, h.defers, fun id hid => ?_, hn⟩, g2⟩
  show (Hp.trunc n s.hp).get id = none
  rw [trunc_get, if_neg (by have : n ≤ id := hid; omega)]

/-- What a caller is handed. -/
theorem finish_sound (h : RS S N s m a) {thr : Bool} {n : Nat} {v : V} {x : Value} {r : CR} (hv : RV S m v x) (hr : finish thr n s v = some r) : ∃ m', m'.w = m.w ∧ Rel S m' ∧ Evo S m m' ∧ RV S m' r.v x ∧ m'.h = r.hp.get ∧ m'.iss = fun _ g => g < r.c := by
  unfold finish at hr
  split at hr
  · rename_i w ids hcl
    have hcl' : closeT s.hp.get v = some (w, ids) := by
      cases thr with
      | true => simp at hcl
      | false => simpa using hcl
    split at hr
    · rename_i hok
      simp only [Option.some.injEq] at hr; subst hr
      obtain ⟨m1, e1, hb⟩ := ros h.rel ids
      have hw := closeT_sound h.rel (by rw [h.h]; exact hcl') hv hb (fun i hi => hi)
      cases hfl : w.flat with
      | true =>
        obtain ⟨g1, g2⟩ := h.rel.less (h' := (Hp.trunc n s.hp).get) (fun id o ho => by
          rw [trunc_get] at ho
          split at ho
          · rw [h.h]; exact ho
          · cases ho)
        exact ⟨{ m with h := (Hp.trunc n s.hp).get }, rfl, g1, g2, hw.flat hfl, rfl, h.iss⟩
      | false =>
        rw [hfl] at hok
        simp only [Bool.false_or] at hok
        have hsame : ∀ id, id < n → m1.h id = m.h id := fun id hid => hb.not id fun hm => by
          have := List.all_eq_true.1 hok id hm
          have := Nat.le_of_ble_eq_true this
          omega
        obtain ⟨g1, g2⟩ := hb.rel.less (h' := (Hp.trunc n s.hp).get) (fun id o ho => by
          rw [trunc_get] at ho
          split at ho
          · rename_i hlt; rw [hsame id hlt, h.h]; exact ho
          · cases ho)
        exact ⟨{ m1 with h := (Hp.trunc n s.hp).get }, hb.w, g1, hb.evo.trans g2, hw.mono g2, rfl, by show m1.iss = _; rw [hb.iss]; exact h.iss⟩
    · simp at hr
  · simp only [Option.some.injEq] at hr; subst hr
    exact ⟨m, rfl, h.rel, .refl S m, hv, h.h, h.iss⟩

end

theorem envOf_get : ∀ (vs : List V) (k t : Nat), (envOf k vs).get t = if k ≤ t then (vs[t - k]?).getD .any else .any
  | [], k, t => by simp [envOf, Env.get]
  | v :: r, k, t => by
    simp only [envOf, env_get_cons]
    by_cases h : t = k
    · subst h; simp
    · rw [upd_ne _ _ h, envOf_get r (k + 1) t]
      by_cases hk : k ≤ t
      · rw [if_pos hk, if_pos (by omega)]
        rw [show t - k = (t - (k + 1)) + 1 by omega]; simp
      · rw [if_neg hk, if_neg (by omega)]

theorem finish_log {s0 s : St} {thr : Bool} {v : V} {r : CR} {hp : Hp} {n c : Nat} {vs : List V} (hl : Log (enter vs hp n c) s) (hr : finish thr n s v = some r) (ht : Tops hp n) : LogOK hp n c r := by
  have top := hl.top (Nat.le_refl _) ht
  have wl : ∀ id, id < n → id ∉ s.wl → s.hp.get id = hp.get id := fun id hid hw => (hl.wl (Nat.le_refl _) id hid hw).2
  have stay : ∀ id, id < n → s.hp.get id = none → hp.get id = none := fun id hid hn => hl.stay (Nat.le_refl _) id hid hn
  unfold finish at hr
  split at hr
  · split at hr
    · simp only [Option.some.injEq] at hr; subst hr
      refine ⟨Nat.le_refl _, hl.c, fun id hid => ?_, fun id hid hw => ?_, fun id hid hn => ?_⟩
      · show (Hp.trunc n s.hp).get id = none
        rw [trunc_get, if_neg (by have : n ≤ id := hid; omega)]
      · show (Hp.trunc n s.hp).get id = _
        rw [trunc_get, if_pos hid]; exact wl id hid hw
      · have hn' : (Hp.trunc n s.hp).get id = none := hn
        rw [trunc_get, if_pos hid] at hn'; exact stay id hid hn'
    · simp at hr
  · simp only [Option.some.injEq] at hr; subst hr
    exact ⟨hl.n, hl.c, top, wl, stay⟩

/-! ### Code -/

def Sound (P : Program) (cfg : Cfg) (k : Nat) : Prop := ∀ {fid : FuncId} {c : Code} {s s' : St} {e : Ex}, execF P cfg k fid c s = some (e, s') → ∀ {S : Nat → Prop} {N : Nat} {m : M} {a : Act}, codeOK N c = true → RS S N s m a →
  ∀ {Q : Exit → Act → World → Prop}, (∀ m' a', RS S N s' m' a' → Evo S m m' → Q e.toExit a' m'.w) → c.wp P Q a m.w

def LoopSound (P : Program) (cfg : Cfg) (k : Nat) : Prop := ∀ {fid : FuncId} {c : Code} {s s' : St} {e : Ex}, execF P cfg k fid (.loop c) s = some (e, s') → ∀ {S : Nat → Prop} {N : Nat} {m : M} {a : Act}, codeOK N c = true → RS S N s m a →
  ∀ {Q : Exit → Act → World → Prop}, (∀ m' a', RS S N s' m' a' → Evo S m m' → Q e.toExit a' m'.w) → LoopWp P c Q a m.w

theorem callBy_inv {cfg : Cfg} {run : FuncId → Code → St → Option (Ex × St)} {f : FuncId} {vs : List V} {hp : Hp} {n c : Nat} {r : CR} (h : callBy P cfg run f vs hp n c = some r) :
    ∃ fn body e s rs, P.funcs[f]? = some fn ∧ fn.body = some body ∧ vs.length ≤ fn.ntmps ∧ codeOK fn.ntmps body = true ∧ run f body (enter vs hp n c) = some (e, s) ∧ (e = .normal ∨ e = .ret) ∧
      resultsV P s fn.results.toList = some rs ∧ finish (cfg.thr f) n s (tup rs) = some r := by
  unfold callBy at h
  split at h
  · rename_i fn hfn
    split at h
    · rename_i body hbody
      split at h
      · rename_i hok
        simp only [Bool.and_eq_true] at hok
        unfold leave at h
        split at h
        · rename_i s hs
          split at h
          · rename_i rs hrs; exact ⟨fn, body, .normal, s, rs, hfn, hbody, Nat.le_of_ble_eq_true hok.1, hok.2, hs, .inl rfl, hrs, h⟩
          · simp at h
        · rename_i s hs
          split at h
          · rename_i rs hrs; exact ⟨fn, body, .ret, s, rs, hfn, hbody, Nat.le_of_ble_eq_true hok.1, hok.2, hs, .inr rfl, hrs, h⟩
          · simp at h
        · simp at h
      · simp at h
    · simp at h
  · simp at h

theorem callBy_bodies {cfg : Cfg} {run : FuncId → Code → St → Option (Ex × St)} : Bodies P (callBy P cfg run) := by
  intro f vs hp n c r h
  obtain ⟨fn, body, e, s, rs, h1, h2, _⟩ := callBy_inv h
  exact ⟨fn, h1, by rw [h2]; rfl⟩

theorem callBy_ok {cfg : Cfg} {k : Nat} (hs : Sound P cfg k) : CallOK P (callBy P cfg (execF P cfg k)) where
  log := by
    intro f vs hp n c r h ht
    obtain ⟨fn, body, e, s, rs, h1, h2, h3, h4, h5, h6, h7, h8⟩ := callBy_inv h
    exact finish_log (s0 := s) (execF_log h5) h8 ht
  ok := by
    intro f vs hp n c r h ht S m xs hh hi hR hv
    obtain ⟨fn, body, e, s, rs, h1, h2, h3, h4, h5, h6, h7, h8⟩ := callBy_inv h
    refine calls_of_wp h1 h2 ?_
    have hlen : xs.length ≤ fn.ntmps := by rw [← hv.1]; exact h3
    have h0 : RS S fn.ntmps (enter vs hp n c) m { tmps := xs.toArray ++ Array.replicate (fn.ntmps - xs.toArray.size) undef, defers := [] } := by
      refine ⟨hh, hi, hR, fun t => ?_, by simp; omega, rfl, ht, Nat.le_refl _⟩
      show RV S m ((envOf 0 vs).get t) _
      rw [envOf_get, if_pos (Nat.zero_le t)]
      cases hvt : vs[t - 0]? with
      | none => exact .any _
      | some v =>
        simp only [Nat.sub_zero] at hvt
        have hlt : t < xs.length := by rw [← hv.1]; exact (List.getElem?_eq_some_iff.1 hvt).1
        have := hv.2 t v xs[t] hvt (by simp [hlt])
        have e : (xs.toArray ++ Array.replicate (fn.ntmps - xs.toArray.size) undef).getD t undef = xs[t] := by
          have h1 : t < xs.length + (fn.ntmps - xs.length) := by omega
          simp [Array.getD, Array.getElem_append, hlt, h1]
        show RV S m v ((xs.toArray ++ Array.replicate (fn.ntmps - xs.toArray.size) undef).getD t undef)
        rw [e]; exact this
    refine hs h5 h4 h0 fun m' a' k1 k2 => ?_
    obtain ⟨x, g1, g2⟩ := results_sound k1 h7
    obtain ⟨m2, q1, q2, q3, q4, q5, q6⟩ := finish_sound k1 g2 h8
    have hR' : ∃ x_1 m'_1, Ending.returned x = Ending.returned x_1 ∧ m'_1.w = m'.w ∧ Back S m r x_1 m'_1 := ⟨x, m2, rfl, q1, q2, k2.trans q3, q4, q5, q6⟩
    rcases h6 with rfl | rfl
    · exact ⟨k1.defers, x, g1, hR'⟩
    · exact ⟨k1.defers, x, g1, hR'⟩

theorem exec_sound (hN : NoCount P) (hm : P.follows .mixedOrders = true) (cfg : Cfg) : ∀ k, Sound P cfg k ∧ LoopSound P cfg k
  | 0 => ⟨fun {fid c s s' e} h => by simp [execF] at h, fun {fid c s s' e} h => by simp [execF] at h⟩
  | k + 1 => by
    obtain ⟨ihS, ihL⟩ := exec_sound hN hm cfg k
    have hLoop : LoopSound P cfg (k + 1) := by
      intro fid c s s' e h S N m a hok hr Q hQ
      simp only [execF] at h
      split at h
      · rename_i t ht
        refine LoopWp.round (ihS ht hok hr fun m1 a1 k1 k2 => ?_)
        show LoopWp P c Q a1 m1.w
        have hl := execF_log ht
        split at h
        · exact ihL h hok k1 fun m' a' q1 q2 => hQ m' a' q1 (k2.trans q2)
        · obtain ⟨m2, g1, g2, g3⟩ := trunc_sound k1 (n := s.n) (by rw [hl.n0]; exact hr.n0)
          rw [← g1]
          exact ihL h hok g2 fun m' a' q1 q2 => hQ m' a' q1 (k2.trans (g3.trans q2))
      · rename_i hne
        refine LoopWp.round (ihS h hok hr fun m1 a1 k1 k2 => ?_)
        have := hQ m1 a1 k1 k2
        cases e with
        | normal => exact absurd h (hne s')
        | exit id => exact this
        | ret => exact this
    refine ⟨?_, hLoop⟩
    intro fid c s s' e h S N m a hok hr Q hQ
    cases c <;> try (simp only [execF] at h; simp at h; done)
    case skip => simp only [execF] at h; simp at h; obtain ⟨rfl, rfl⟩ := h; exact wp_skip (hQ m a hr (.refl S m))
    case label l => simp only [execF] at h; simp at h; obtain ⟨rfl, rfl⟩ := h; exact wp_label (hQ m a hr (.refl S m))
    case ret => simp only [execF] at h; simp at h; obtain ⟨rfl, rfl⟩ := h; exact wp_ret (hQ m a hr (.refl S m))
    case exit id => simp only [execF] at h; simp at h; obtain ⟨rfl, rfl⟩ := h; exact wp_exit (hQ m a hr (.refl S m))
    case seq x y =>
      simp only [codeOK, Bool.and_eq_true] at hok
      simp only [execF] at h
      split at h
      · rename_i t ht
        refine wp_seq (ihS ht hok.1 hr fun m1 a1 k1 k2 => ?_)
        exact ihS h hok.2 k1 fun m' a' q1 q2 => hQ m' a' q1 (k2.trans q2)
      · rename_i hne
        refine wp_seq (ihS h hok.1 hr fun m1 a1 k1 k2 => ?_)
        have := hQ m1 a1 k1 k2
        cases e with
        | normal => exact absurd h (hne s')
        | exit id => exact this
        | ret => exact this
    case cond q x y =>
      simp only [codeOK, Bool.and_eq_true] at hok
      simp only [execF] at h
      have hq : RV S m (evalV s.env q) (a.eval q) := by
        have : EnvAt S m s.env a (match q with | .tmp t => [t] | _ => []) := fun t _ => hr.env t
        exact evalV_RV this fun t ht => by subst ht; simp
      split at h
      · rename_i hb
        rw [hb] at hq
        exact wp_cond_true hq.bool_inv (ihS h hok.1 hr hQ)
      · rename_i hb
        rw [hb] at hq
        exact wp_cond_false hq.bool_inv (ihS h hok.2 hr hQ)
      · simp at h
    case block id b =>
      simp only [codeOK] at hok
      simp only [execF] at h
      split at h
      · rename_i i t ht
        split at h
        · rename_i hid
          simp at h; obtain ⟨rfl, rfl⟩ := h
          refine wp_block (ihS ht hok hr fun m1 a1 k1 k2 => ?_)
          show (if i = id then _ else _)
          rw [if_pos hid]
          exact hQ m1 a1 k1 k2
        · rename_i hid
          simp at h; obtain ⟨rfl, rfl⟩ := h
          refine wp_block (ihS ht hok hr fun m1 a1 k1 k2 => ?_)
          show (if i = id then _ else _)
          rw [if_neg hid]
          exact hQ m1 a1 k1 k2
      · rename_i hne
        refine wp_block (ihS h hok hr fun m1 a1 k1 k2 => ?_)
        have := hQ m1 a1 k1 k2
        cases e with
        | normal => exact this
        | exit id' => exact absurd h (hne id' s')
        | ret => exact this
    case loop b => simp only [codeOK] at hok; exact (hLoop h hok hr hQ).wp
    case region id ops draw =>
      simp only [codeOK] at hok
      simp only [execF, Option.map_eq_some_iff] at h
      obtain ⟨t, ht, h⟩ := h
      simp at h; obtain ⟨rfl, rfl⟩ := h
      unfold runRegion at ht
      split at ht
      · simp at ht
      · rename_i hchk
        split at ht
        · rename_i u hu
          simp only [Option.some.injEq] at ht; subst ht
          refine region_ops hN hm (callBy_ok ihS) callBy_bodies hchk hu (fun i o d ho hd => ?_) hr fun m1 a1 k1 k2 => ?_
          · have := List.all_eq_true.1 hok o (by simpa using Array.mem_of_getElem? ho)
            rw [hd] at this
            simpa [Nat.blt_eq] using this
          · obtain ⟨m2, g1, g2, g3⟩ := mats_sound (cfg.mat fid id) k1
            rw [← g1]
            exact hQ m2 a1 (keepSt_sound g2 _) (k2.trans g3)
        · simp at ht

/-- A call does what the abstract machine says, whatever the fuel. -/
theorem callF_ok (hN : NoCount P) (hm : P.follows .mixedOrders = true) (cfg : Cfg) (k : Nat) : CallOK P (callF P cfg k) := callBy_ok (exec_sound hN hm cfg k).1

end Go.Ab
