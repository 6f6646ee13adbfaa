/- The abstract machine: a region's operations with their guards looked up beforehand. No conditions. -/
import Derived.Test.YtjkcpgkpmklcaaaGreatDoorAcTM
set_option linter.unusedVariables false
set_option linter.unusedSimpArgs false
section
namespace Go.Ac
variable {P : Program}

def Ex.toExit : Ex → Exit
 | .normal => .normal
 | .exit id => .exit id
 | .ret => .ret

/-! ### Loops -/

def LoopWp (P : Program) (c : Code) (Q : Exit → Act → World → Prop) (a : Act) (w : World) : Prop :=
 ∀ (b : Frame) (k : List Item) (cs : List Frame), ∃ e a' w', Q e a' w' ∧ Arrives P (lone (b.at a (.code c :: .inLoop c :: k)) cs w) b k cs e a' w'

theorem LoopWp.wp {c : Code} {Q : Exit → Act → World → Prop} {a : Act} {w : World} (h : LoopWp P c Q a w) : (Code.loop c).wp P Q a w :=
 fun b k cs => let ⟨e, a', w', q, r⟩ := h b k cs; ⟨e, a', w', q, .of_steps (.one step_loop) r⟩

theorem LoopWp.round {c : Code} {Q : Exit → Act → World → Prop} {a : Act} {w : World} (h : c.wp P (Exit.then (LoopWp P c Q) Q) a w) : LoopWp P c Q a w := by
 intro b k cs
 obtain ⟨e, a₁, w₁, hq, harr⟩ := h b (.inLoop c :: k) cs
 cases e with
 | normal =>
  obtain ⟨e₂, a₂, w₂, hq₂, harr₂⟩ := hq b k cs
  exact ⟨e₂, a₂, w₂, hq₂, .of_steps (Steps.trans harr (.one step_inLoop)) harr₂⟩
 | exit id => exact ⟨_, a₁, w₁, hq, .pass (x := .inLoop c) rfl (fun _ _ => .inl (by simp)) harr⟩
 | goto l => exact ⟨_, a₁, w₁, hq, .pass (x := .inLoop c) rfl (fun _ _ => .inl (by simp)) harr⟩
 | ret => exact ⟨_, a₁, w₁, hq, .pass (x := .inLoop c) rfl (fun _ _ => .inl (by simp)) harr⟩
 | panic ch => exact ⟨_, a₁, w₁, hq, .pass (x := .inLoop c) rfl (fun _ _ => .inl (by simp)) harr⟩
 | outgrown => exact ⟨_, a₁, w₁, hq, .pass (x := .inLoop c) rfl (fun _ _ => .inl (by simp)) harr⟩

/-! ### Results -/

section
variable {S : Nat → Prop} {m : M} {s : St} {N : Nat} {a : Act}

theorem loadV_ptr {look : Look} {i : TI} {p : V} {v : Value} {r : Res} (h : loadV look i p = some r) (hl : look = m.h) (hv : RV S m p v) : ∃ ad, v = .pointer (some ad) := by
 unfold loadV at h
 split at h
 ·rename_i id g off
  cases hlv : live look id g with
  | none => simp [hlv] at h
  | some o =>
   obtain ⟨_, _, b, base, _, rfl⟩ := hv.ptr_live (hl ▸ hlv)
   exact ⟨_, rfl⟩
 ·cases hv with | vref f hf hr => exact ⟨_, rfl⟩
 ·simp at h

def resultOf (tmps : Array Value) : ResultVar → Sem Value
 | .tmp t => pure (tmps.getD t undef)
 | .cell a t => do loadVar t (← asAddr (tmps.getD a undef))

theorem resultV_sound [Gl] (h : RS S N s m a) {r : ResultVar} {v : V} (hr : resultV P s r = some v) : ∃ x, (resultOf a.tmps r).run P m.w = .ok x m.w ∧ RV S m v x := by
 cases r with
 | tmp t => simp [resultV] at hr; subst hr; exact ⟨_, rfl, h.env t⟩
 | cell q t =>
  simp only [resultV, Option.bind_eq_some_iff, Option.map_eq_some_iff] at hr
  obtain ⟨i, hi, y, hy, rfl⟩ := hr
  obtain ⟨x, g1, g2⟩ := loadV_sound (c := 0) hi hy h.h.symm h.rel (h.env q)
  obtain ⟨ad, had⟩ := loadV_ptr hy h.h.symm (h.env q)
  refine ⟨x, ?_, g2.2.2.1⟩
  rw [had] at g1
  simp only [resultOf, had, asAddr, Sem.run_bind, Sem.run_pure, Result.andThen_ok]
  simpa [Instr.loadAt, Instr.sureAddr] using g1

theorem resultsV_sound [Gl] (h : RS S N s m a) : ∀ {l : List ResultVar} {vs : List V}, resultsV P s l = some vs → ∃ xs, (l.mapM (resultOf a.tmps)).run P m.w = .ok xs m.w ∧ RVs S m vs xs
 | [], vs, hr => by simp [resultsV] at hr; subst hr; exact ⟨[], by simp, .nil⟩
 | r :: l, vs, hr => by
  simp only [resultsV] at hr
  split at hr
  ·rename_i v us h1 h2
   simp only [Option.some.injEq] at hr; subst hr
   obtain ⟨x, g1, g2⟩ := resultV_sound h h1
   obtain ⟨xs, g3, g4⟩ := resultsV_sound h h2
   exact ⟨x :: xs, by simp [List.mapM_cons, Sem.run_bind, g1, g3], .cons g2 g4⟩
  ·simp at hr

theorem results_sound [Gl] (h : RS S N s m a) {fn : Func} {rs : List V} (hr : resultsV P s fn.results.toList = some rs) : ∃ x, (results fn a.tmps).run P m.w = .ok x m.w ∧ RV S m (tup rs) x := by
 obtain ⟨xs, g1, g2⟩ := resultsV_sound h hr
 have e : results fn a.tmps = (do let vs ← fn.results.mapM (resultOf a.tmps); pure (if h : vs.size = 1 then vs[0] else .tuple vs)) := by
  unfold results
  congr 1
 have hrun : (fn.results.mapM (resultOf a.tmps)).run P m.w = .ok xs.toArray m.w := by
  rw [Array.mapM_eq_mapM_toList]
  simp [g1]
 rw [e]
 simp only [Sem.run_bind, hrun, Result.andThen_ok, Sem.run_pure]
 refine ⟨_, rfl, ?_⟩
 cases rs with
 | nil =>
  have : xs = [] := List.length_eq_zero_iff.1 (by rw [← g2.1]; rfl)
  subst this
  exact g2.tuple
 | cons v r =>
  obtain ⟨x, ys, rfl, k1, k2⟩ := g2.cases
  cases r with
  | nil =>
   have : ys = [] := List.length_eq_zero_iff.1 (by rw [← k2.1]; rfl)
   subst this
   simpa [tup] using k1
  | cons u r =>
   obtain ⟨y, zs, rfl, k3, k4⟩ := k2.cases
   simp only [tup]
   rw [dif_neg (by simp)]
   exact g2.tuple

/-- The objects that a loop's round has made are let go. -/
theorem trunc_sound [Gl] (h : RS S N s m a) {n : Nat} (hn : s.n0 ≤ n) : ∃ m', m'.w = m.w ∧ RS S N { s with hp := Hp.trunc n s.hp, n := n } m' a ∧ Evo S m m' := by
 obtain ⟨g1, g2⟩ := h.rel.less (h' := (Hp.trunc n s.hp).get) (fun id o ho => by
  rw [trunc_get] at ho
  split at ho
  ·rw [h.h]; exact ho
  ·cases ho)
 refine ⟨{ m with h := (Hp.trunc n s.hp).get }, rfl, ⟨rfl, h.iss, g1, fun t => (h.env t).mono g2, h.size, h.defers, fun id hid => ?_, hn⟩, g2⟩
 show (Hp.trunc n s.hp).get id = none
 rw [trunc_get, if_neg (by have : n ≤ id := hid; omega)]

/-- What a caller is handed. -/
theorem finish_sound [Gl] (h : RS S N s m a) {thr : Bool} {n : Nat} {v : V} {x : Value} {r : CR} (hv : RV S m v x) (hr : finish thr n s v = some r) : ∃ m', m'.w = m.w ∧ Rel S m' ∧ Evo S m m' ∧ RV S m' r.v x ∧ m'.h = r.hp.get ∧ m'.iss = fun _ g => g < r.c := by
 unfold finish at hr
 split at hr
 ·rename_i w ids hcl
  have hcl' : closeT s.hp.get v = some (w, ids) := by
   cases thr with
   | true => simp at hcl
   | false => simpa using hcl
  split at hr
  ·rename_i hok
   simp only [Option.some.injEq] at hr; subst hr
   obtain ⟨m1, e1, hb⟩ := ros h.rel ids
   have hw := closeT_sound h.rel (by rw [h.h]; exact hcl') hv hb (fun i hi => hi)
   cases hfl : w.flat with
   | true =>
    obtain ⟨g1, g2⟩ := h.rel.less (h' := (Hp.trunc n s.hp).get) (fun id o ho => by
     rw [trunc_get] at ho
     split at ho
     ·rw [h.h]; exact ho
     ·cases ho)
    exact ⟨{ m with h := (Hp.trunc n s.hp).get }, rfl, g1, g2, hw.flat hfl, rfl, h.iss⟩
   | false =>
    rw [hfl] at hok
    simp only [Bool.false_or] at hok
    have hsame : ∀ id, id < n → m1.h id = m.h id := fun id hid => hb.not id fun hm => by
     have := List.all_eq_true.1 hok id hm
     have := Nat.le_of_ble_eq_true this
     omega
    obtain ⟨g1, g2⟩ := hb.rel.less (h' := (Hp.trunc n s.hp).get) (fun id o ho => by
     rw [trunc_get] at ho
     split at ho
     ·rename_i hlt; rw [hsame id hlt, h.h]; exact ho
     ·cases ho)
    exact ⟨{ m1 with h := (Hp.trunc n s.hp).get }, hb.w, g1, hb.evo.trans g2, hw.mono g2, rfl, by show m1.iss = _; rw [hb.iss]; exact h.iss⟩
  ·simp at hr
 ·simp only [Option.some.injEq] at hr; subst hr
  exact ⟨m, rfl, h.rel, .refl S m, hv, h.h, h.iss⟩

end

theorem envOf_get : ∀ (vs : List V) (k t : Nat), (envOf k vs).get t = if k ≤ t then (vs[t - k]?).getD .any else .any
 | [], k, t => by simp [envOf, Env.get]
 | v :: r, k, t => by
  simp only [envOf, env_get_cons]
  by_cases h : t = k
  ·subst h; simp
  ·rw [upd_ne _ _ h, envOf_get r (k + 1) t]
   by_cases hk : k ≤ t
   ·rw [if_pos hk, if_pos (by omega)]
    rw [show t - k = (t - (k + 1)) + 1 by omega]; simp
   ·rw [if_neg hk, if_neg (by omega)]

theorem finish_log {s0 s : St} {thr : Bool} {v : V} {r : CR} {hp : Hp} {n c : Nat} {vs : List V} (hl : Log (enter vs hp n c) s) (hr : finish thr n s v = some r) (ht : Tops hp n) : LogOK hp n c r := by
 have top := hl.top (Nat.le_refl _) ht
 have wl : ∀ id, id < n → id ∉ s.wl → s.hp.get id = hp.get id := fun id hid hw => (hl.wl (Nat.le_refl _) id hid hw).2
 have stay : ∀ id, id < n → s.hp.get id = none → hp.get id = none := fun id hid hn => hl.stay (Nat.le_refl _) id hid hn
 unfold finish at hr
 split at hr
 ·split at hr
  ·simp only [Option.some.injEq] at hr; subst hr
   refine ⟨Nat.le_refl _, hl.c, fun id hid => ?_, fun id hid hw => ?_, fun id hid hn => ?_⟩
   ·show (Hp.trunc n s.hp).get id = none
    rw [trunc_get, if_neg (by have : n ≤ id := hid; omega)]
   ·show (Hp.trunc n s.hp).get id = _
    rw [trunc_get, if_pos hid]; exact wl id hid hw
   ·have hn' : (Hp.trunc n s.hp).get id = none := hn
    rw [trunc_get, if_pos hid] at hn'; exact stay id hid hn'
  ·simp at hr
 ·simp only [Option.some.injEq] at hr; subst hr
  exact ⟨hl.n, hl.c, top, wl, stay⟩

/-! ### Code -/

def Sound [Gl] (P : Program) (cfg : Cfg) (k : Nat) : Prop := ∀ {fid : FuncId} {c : Code} {s s' : St} {e : Ex}, execF P cfg k fid c s = some (e, s') → ∀ {S : Nat → Prop} {N : Nat} {m : M} {a : Act}, codeOK N c = true → RS S N s m a →
 ∀ {Q : Exit → Act → World → Prop}, (∀ m' a', RS S N s' m' a' → Evo S m m' → Q e.toExit a' m'.w) → c.wp P Q a m.w

def LoopSound [Gl] (P : Program) (cfg : Cfg) (k : Nat) : Prop := ∀ {fid : FuncId} {c : Code} {s s' : St} {e : Ex}, execF P cfg k fid (.loop c) s = some (e, s') → ∀ {S : Nat → Prop} {N : Nat} {m : M} {a : Act}, codeOK N c = true → RS S N s m a →
 ∀ {Q : Exit → Act → World → Prop}, (∀ m' a', RS S N s' m' a' → Evo S m m' → Q e.toExit a' m'.w) → LoopWp P c Q a m.w

theorem callBy_inv {cfg : Cfg} {run : FuncId → Code → St → Option (Ex × St)} {f : FuncId} {vs : List V} {hp : Hp} {n c : Nat} {r : CR} (h : callBy P cfg run f vs hp n c = some r) :
  ∃ fn body e s rs, P.funcs[f]? = some fn ∧ fn.body = some body ∧ vs.length ≤ fn.ntmps ∧ codeOK fn.ntmps body = true ∧ run f body (enter vs hp n c) = some (e, s) ∧ (e = .normal ∨ e = .ret) ∧
   resultsV P s fn.results.toList = some rs ∧ finish (cfg.thr f) n s (tup rs) = some r := by
 unfold callBy at h
 split at h
 ·rename_i fn hfn
  split at h
  ·rename_i body hbody
   split at h
   ·rename_i hok
    simp only [Bool.and_eq_true] at hok
    unfold leave at h
    split at h
    ·rename_i s hs
     split at h
     ·rename_i rs hrs; exact ⟨fn, body, .normal, s, rs, hfn, hbody, Nat.le_of_ble_eq_true hok.1, hok.2, hs, .inl rfl, hrs, h⟩
     ·simp at h
    ·rename_i s hs
     split at h
     ·rename_i rs hrs; exact ⟨fn, body, .ret, s, rs, hfn, hbody, Nat.le_of_ble_eq_true hok.1, hok.2, hs, .inr rfl, hrs, h⟩
     ·simp at h
    ·simp at h
   ·simp at h
  ·simp at h
 ·simp at h

theorem callBy_bodies {cfg : Cfg} {run : FuncId → Code → St → Option (Ex × St)} : Bodies P (callBy P cfg run) := by
 intro f vs hp n c r h
 obtain ⟨fn, body, e, s, rs, h1, h2, _⟩ := callBy_inv h
 exact ⟨fn, h1, by rw [h2]; rfl⟩

theorem callBy_ok [Gl] {cfg : Cfg} {k : Nat} (hs : Sound P cfg k) : CallOK P (callBy P cfg (execF P cfg k)) where
 log := by
  intro f vs hp n c r h ht
  obtain ⟨fn, body, e, s, rs, h1, h2, h3, h4, h5, h6, h7, h8⟩ := callBy_inv h
  exact finish_log (s0 := s) (execF_log h5) h8 ht
 ok := by
  intro f vs hp n c r h ht S m xs hh hi hR hv
  obtain ⟨fn, body, e, s, rs, h1, h2, h3, h4, h5, h6, h7, h8⟩ := callBy_inv h
  refine calls_of_wp h1 h2 ?_
  have hlen : xs.length ≤ fn.ntmps := by rw [← hv.1]; exact h3
  have h0 : RS S fn.ntmps (enter vs hp n c) m { tmps := xs.toArray ++ Array.replicate (fn.ntmps - xs.toArray.size) undef, defers := [] } := by
   refine ⟨hh, hi, hR, fun t => ?_, by simp; omega, rfl, ht, Nat.le_refl _⟩
   show RV S m ((envOf 0 vs).get t) _
   rw [envOf_get, if_pos (Nat.zero_le t)]
   cases hvt : vs[t - 0]? with
   | none => exact .any _
   | some v =>
    simp only [Nat.sub_zero] at hvt
    have hlt : t < xs.length := by rw [← hv.1]; exact (List.getElem?_eq_some_iff.1 hvt).1
    have := hv.2 t v xs[t] hvt (by simp [hlt])
    have e : (xs.toArray ++ Array.replicate (fn.ntmps - xs.toArray.size) undef).getD t undef = xs[t] := by
     have h1 : t < xs.length + (fn.ntmps - xs.length) := by omega
     simp [Array.getD, Array.getElem_append, hlt, h1]
    show RV S m v ((xs.toArray ++ Array.replicate (fn.ntmps - xs.toArray.size) undef).getD t undef)
    rw [e]; exact this
  refine hs h5 h4 h0 fun m' a' k1 k2 => ?_
  obtain ⟨x, g1, g2⟩ := results_sound k1 h7
  obtain ⟨m2, q1, q2, q3, q4, q5, q6⟩ := finish_sound k1 g2 h8
  have hR' : ∃ x_1 m'_1, Ending.returned x = Ending.returned x_1 ∧ m'_1.w = m'.w ∧ Back S m r x_1 m'_1 := ⟨x, m2, rfl, q1, q2, k2.trans q3, q4, q5, q6⟩
  rcases h6 with rfl | rfl
  ·exact ⟨k1.defers, x, g1, hR'⟩
  ·exact ⟨k1.defers, x, g1, hR'⟩

/-! ### Loops over a map, in any order -/

section
variable {S : Nat → Prop} {m : M} {s : St} {N : Nat} {a : Act}

/-- A slot is written. -/
theorem RS.put [Gl] (h : RS S N s m a) {d : Nat} {q : Res} {x : Value} {m1 : M} (hA : After S m s.c q x m1) (hd : d < N) (hdn : q.dn = 0) (hwr : q.wr.all (fun p => Nat.blt p.1 s.n) = true) : RS S N (s.put (some d) q) m1 (a.put (some d) x) := by
 obtain ⟨k1, k2, k3, k4, k5⟩ := hA
 have hlog : Log s (s.put (some d) q) := Log.put (by rw [hdn]; exact hwr)
 refine ⟨?_, ?_, k1, fun t => ?_, by simp [Act.put, h.size], h.defers, hlog.top h.n0 h.top, ?_⟩
 ·rw [k4, h.h]; show _ = (s.hp.sets q.wr).get; rw [hp_get_sets]
 ·rw [k5, h.iss]; funext _ g; apply propext; show _ ↔ g < s.c + q.dc; omega
 ·show RV S m1 (Env.get ((d, q.v) :: s.env) t) _
  rw [env_get_cons]
  by_cases ht : t = d
  ·subst ht
   simp only [upd_same, Act.put]
   have : (a.tmps.setIfInBounds t x).getD t undef = x := by simp [h.size, hd]
   rw [this]; exact k3
  ·rw [upd_ne _ _ ht]
   simp only [Act.put]
   have : (a.tmps.setIfInBounds d x).getD t undef = a.tmps.getD t undef := by simp [Array.getElem?_setIfInBounds_ne (Ne.symm ht)]
   rw [this]; exact (h.env t).mono k2
 ·show s.n0 ≤ s.n + q.dn
  have := h.n0; omega

theorem wpOps_congr {ops ops' : Array Oper} {Q : Exit → Act → World → Prop} (hy : yielded ops = yielded ops') : ∀ (l : List Nat) (a : Act) (w : World), (∀ i, i ∈ l → ops[i]? = ops'[i]?) → wpOps P ops Q l a w = wpOps P ops' Q l a w
 | [], a, w, _ => rfl
 | i :: r, a, w, h => by
  have ih : wpOps P ops Q r = wpOps P ops' Q r := by funext a w; exact wpOps_congr hy r a w fun j hj => h j (List.mem_cons_of_mem _ hj)
  simp only [wpOps, h i (List.mem_cons_self ..), ih, hy]

theorem handed_size (ops : Array Oper) (d : Nat) : (handed ops d).size = ops.size := by simp [handed]
theorem handed_get {ops : Array Oper} {d i : Nat} (h : i ≠ 0) : (handed ops d)[i]? = ops[i]? := by
 unfold handed; rw [Array.getElem?_setIfInBounds_ne (Ne.symm h)]
theorem handed_zero {ops : Array Oper} {d : Nat} (h : 0 < ops.size) : (handed ops d)[0]? = some ⟨some d, .move (.tmp d), 0, "", #[], none⟩ := by
 unfold handed; simp [h]
theorem handed_yielded {ops : Array Oper} {d : Nat} {o : Oper} (h : ops[0]? = some o) (hd : o.dst = some d) : yielded ops = yielded (handed ops d) := by
 have h0 : 0 < ops.size := (Array.getElem?_eq_some_iff.1 h).1
 funext tmps i
 unfold yielded
 by_cases hi : i = 0
 ·subst hi
  rw [h, handed_zero h0]
  simp [hd]
 ·rw [handed_get hi]

/-- The first operation of a region whose entry has been handed out changes nothing. -/
theorem wpOps_first {ops : Array Oper} {d : Nat} {l : List Nat} {Q : Exit → Act → World → Prop} (h0 : ops[0]? = some ⟨some d, .move (.tmp d), 0, "", #[], none⟩) (hd : d < a.tmps.size) {w : World} (h : wpOps P ops Q (0 :: l) a w) : wpOps P ops Q l a w := by
 simp only [wpOps, h0] at h
 have hw : Region.wanted ⟨some d, .move (.tmp d), 0, "", #[], none⟩ (yielded ops a.tmps) = true := rfl
 rw [if_pos hw] at h
 have hput : a.put (some d) (a.eval (.tmp d)) = a := by
  obtain ⟨ts, df⟩ := a
  simp only [Act.put, Act.eval]
  congr 1
  have hd' : d < ts.size := hd
  have e : ts.getD d undef = ts[d] := by simp [Array.getD, hd']
  rw [e, Array.setIfInBounds_def, dif_pos hd']
  simp
 rcases h with h | ⟨h, _⟩
 ·have h' : wpOps P ops Q l (a.put (some d) (a.eval (.tmp d))) w := h
  rwa [hput] at h'
 ·exfalso
  have h1 := h.1
  have : ((execOp a.eval ⟨some d, .move (.tmp d), 0, "", #[], none⟩).runT P w #[]).2 = #[] := rfl
  rw [this] at h1
  simp at h1

variable {cfg : Cfg} {fid : FuncId} {k : Nat}

/-- A round, once the entry has been handed out. -/
theorem round_wp [Gl] (hN : Pre P cfg) (hc : CallOK P (callBy P cfg (execF P cfg k))) (hS : ∀ {s s' : St} {e : Ex} {m : M} {a : Act} {rest : Code}, execF P cfg k fid rest s = some (e, s') → codeOK N rest = true → RS S N s m a → ∀ {Q : Exit → Act → World → Prop}, (∀ m' a', RS S N s' m' a' → Evo S m m' → Q e.toExit a' m'.w) → rest.wp P Q a m.w)
  {rid t d : Nat} {ops : Array Oper} {rest : Code} {ty : TypeId} {pos : String} {af : Array Edge} (h0 : ops[0]? = some ⟨some d, .next (.tmp t) false, ty, pos, af, none⟩)
  (hok : codeOK N (.seq (.region rid ops false) rest) = true) (h : RS S N s m a) {q : Res} {x : Value} {m1 : M} (hA : After S m s.c q x m1) (hdn : q.dn = 0) (hwr : q.wr.all (fun p => Nat.blt p.1 s.n) = true)
  (hx : (Instr.next (a.eval (.tmp t)) false ty).run P m.w = .ok x m1.w) {e : Ex} {u : St}
  (hr : roundR (runRegion P cfg (callBy P cfg (execF P cfg k)) fid rid (handed ops d) false) (execF P cfg k fid rest) (s.put (some d) q) = some (e, u))
  {Q : Exit → Act → World → Prop} (hQ : ∀ m' a', RS S N u m' a' → Evo S m m' → Q e.toExit a' m'.w) : (Code.seq (.region rid ops false) rest).wp P Q a m.w := by
 have hpos : 0 < ops.size := (Array.getElem?_eq_some_iff.1 h0).1
 simp only [codeOK, Bool.and_eq_true] at hok
 have hdst : ∀ (i : Nat) (o : Oper) (d : Nat), ops[i]? = some o → o.dst = some d → d < N := fun i o d ho hd => by
  have := List.all_eq_true.1 hok.1 o (by simpa using Array.mem_of_getElem? ho)
  rw [hd] at this
  simpa [Nat.blt_eq] using this
 have hdN : d < N := hdst 0 _ d h0 rfl
 have h1 := h.put hA hdN hdn hwr
 unfold roundR at hr
 split at hr
 ·rename_i s2 hreg
  unfold runRegion at hreg
  simp only [Bool.false_eq_true, if_false] at hreg
  split at hreg
  ·rename_i u2 hu2
   simp only [Option.some.injEq] at hreg
   obtain ⟨σ, ρ, g0, g1, tr⟩ := runOps_trace hu2
   have g1' : σ (handed ops d).size = u2 := by simpa using g1
   refine wp_seq (wp_region ?_)
   have hrange : List.range ops.size = 0 :: List.range' 1 (ops.size - 1) := by
    rw [List.range_eq_range', show ops.size = (ops.size - 1) + 1 by omega, List.range'_succ]; simp
   rw [hrange, wpOps_cons]
   unfold wpOp
   simp only [h0]
   have hw : Region.wanted ⟨some d, .next (.tmp t) false, ty, pos, af, none⟩ (yielded ops a.tmps) = true := rfl
   rw [if_pos hw]
   refine .inl ?_
   unfold Oper.wp
   have hrun : (execOp a.eval ⟨some d, .next (.tmp t) false, ty, pos, af, none⟩).run P m.w = .ok (.value x) m1.w := by simp [execOp, hx]
   rw [hrun, Oper.upon_value]
   have hdst' : ∀ (i : Nat) (o : Oper) (e : Nat), (handed ops d)[i]? = some o → o.dst = some e → e < N := fun i o e ho he => by
    by_cases hi : i = 0
    ·subst hi
     rw [handed_zero hpos] at ho
     simp only [Option.some.injEq] at ho; subst ho
     simp at he; subst he; exact hdN
    ·rw [handed_get hi] at ho; exact hdst i o e ho he
   have hrest : wpOps P (handed ops d) (Exit.then (rest.wp P Q) Q) (List.range' 0 (handed ops d).size) (a.put (some d) x) m1.w := by
    refine text_ops hN hc callBy_bodies tr g0 h1.n0 h1.top hdst' (m0 := m1) (fun m' a' k1 k2 => ?_) (handed ops d).size 0 (by omega) (h1.start fun i hi => by simp)
    rw [g1'] at k1
    obtain ⟨m2, q1, q2, q3⟩ := mats_sound (cfg.mat fid rid) k1
    rw [← q1]
    have k3 := keepSt_sound q2 (cfg.keep fid rid)
    rw [hreg] at k3
    exact hS hr hok.2 k3 fun m' a' p1 p2 => hQ m' a' p1 (hA.2.1.trans (k2.trans (q3.trans p2)))
   rw [handed_size, show ops.size = (ops.size - 1) + 1 by omega, List.range'_succ] at hrest
   have := wpOps_first (handed_zero hpos) (by rw [h1.size]; exact hdN) hrest
   rw [wpOps_congr (handed_yielded h0 rfl) _ _ _ fun i hi => (handed_get (by have := List.mem_range'.1 hi; obtain ⟨j, _, rfl⟩ := this; omega)).symm]
   exact this
  ·cases hreg
 ·cases hr

/-- What the iterator is in the model. -/
theorem itAt_model [Gl] (h : RS S N s m a) {t : Nat} {I : Itr} (hI : itAt s t = some I) : ∃ (o : Ob) (b bm : Nat) (es : Array MapEntry), m.h I.id = some o ∧ o.gen = I.g ∧ o.ro = false ∧ (∃ last, o.cells = [.itm I.mid I.mg I.since I.seen last]) ∧ m.at_ I.id = some (b, 0) ∧ a.eval (.tmp t) = .pointer (some ⟨b, 0, none⟩) ∧
  m.w.heap[b]? = some (.mapIter (some bm) I.since I.seen.toArray I.since) ∧ m.w.heap[bm]? = some (.map es I.since) ∧ MapAt S m I.ks I.vs I.bs es ∧ RV S m (.mp I.mid I.mg) (.map (some bm)) := by
 obtain ⟨he, _, ⟨last, hl, hlast⟩, ⟨q, hq, hqc⟩, _, _⟩ := itAt_spec hI
 have hv := h.env t
 rw [he] at hv
 rw [← h.h] at hl hq
 obtain ⟨ho, hg, hk, b, hat, hval⟩ := hv.it_live hl
 have hrow := (h.rel.obj I.id _ b 0 ho hat).2
 obtain ⟨_, bm, hh, hmp⟩ := hrow
 obtain ⟨ho2, hg2, hk2, bm2, hat2, e2⟩ := hmp.mp_live hq
 have : bm = bm2 := by injection e2 with e2; injection e2
 subst this
 have hrow2 := (h.rel.obj I.mid q bm 0 ho2 hat2).2
 rw [hqc] at hrow2
 obtain ⟨_, es, hh2, hm⟩ := hrow2
 rw [hlast] at hh
 exact ⟨_, b, bm, es, ho, rfl, rfl, ⟨last, rfl⟩, hat, hval, hh, hh2, hm, hmp⟩
end

theorem perm_erase {b : Nat} {l : List Nat} (h : b ∈ l) : (b :: l.erase b).isPerm l = true := List.isPerm_iff.2 (List.perm_cons_erase h).symm

/-- More marks may be counted as given out, and less may be known. -/
theorem RS.raise [Gl] {S : Nat → Prop} {N : Nat} {m : M} {y x : St} {a : Act} (h : RS S N y m a) (hl : LeSt y x) : ∃ m', m'.w = m.w ∧ RS S N x m' a ∧ Evo S m m' := by
 obtain ⟨g1, g2⟩ := h.rel.less (h' := x.hp.get) (fun id o ho => by rw [h.h]; exact hl.hp id o ho)
 let m1 : M := { m with h := x.hp.get }
 let m' : M := { m1 with iss := fun _ g => g < x.c }
 have hiss : m1.iss = fun _ g => g < y.c := h.iss
 have e : Evo S m1 m' := {
  rest := ⟨rfl, rfl, fun _ _ => rfl⟩
  iss := fun i g hg => by rw [hiss] at hg; exact Nat.lt_of_lt_of_le hg hl.c
  size := Nat.le_refl _
  shape := fun k ks T1 f1 hk => ⟨ks, f1, hk, rfl⟩
  keepS := fun k hk _ => rfl
  keep := fun k hk hn => ⟨hn, rfl⟩
  live := fun i q hq hi => ⟨q, hq, rfl, rfl, Nat.le_refl _, rfl⟩
  old := fun i q k z h1 h2 hk => ⟨q, z, h1, h2⟩ }
 refine ⟨m', rfl, ⟨rfl, rfl, ⟨fun g => (g1.glob g).mono e, fun id o ho => e.iss _ _ (g1.iss id o ho), g1.none_, fun id o b base ho ha => ⟨(g1.obj id o b base ho ha).1, (g1.obj id o b base ho ha).2.mono e rfl⟩, g1.inj, g1.sub⟩, fun t => ?_, h.size, h.defers, fun id hid => hl.top id hid, hl.n⟩, g2.trans e⟩
 rcases hl.env t with ht | ht
 ·rw [ht]; exact (h.env t).mono (g2.trans e)
 ·rw [ht]; exact .any _

/-- The rounds of a loop over a map, in the order that the tape says. -/
theorem ord_wp [Gl] {cfg : Cfg} {fid : FuncId} {k : Nat} {S : Nat → Prop} {N : Nat} (hN : Pre P cfg) (hc : CallOK P (callBy P cfg (execF P cfg k))) (hS : ∀ {s s' : St} {e : Ex} {m : M} {a : Act} {rest : Code}, execF P cfg k fid rest s = some (e, s') → codeOK N rest = true → RS S N s m a → ∀ {Q : Exit → Act → World → Prop}, (∀ m' a', RS S N s' m' a' → Evo S m m' → Q e.toExit a' m'.w) → rest.wp P Q a m.w)
  {rid t d : Nat} {ops : Array Oper} {rest : Code} {ty : TypeId} {pos : String} {af : Array Edge} (h0 : ops[0]? = some ⟨some d, .next (.tmp t) false, ty, pos, af, none⟩)
  (hok : codeOK N (.seq (.region rid ops false) rest) = true) {own : Bool} {e : Ex} {s' : St} : ∀ (n : Nat) {s : St} {m : M} {a : Act} {I : Itr}, itAt s t = some I → (todo I).length = n → RS S N s m a →
   (∀ p : List Nat, p.isPerm (todo I) = true → ∃ y, runOrd (runRegion P cfg (callBy P cfg (execF P cfg k)) fid rid (handed ops d) false) (execF P cfg k fid rest) own t d p s = some (e, y) ∧ LeSt y s') →
   ∀ {Q : Exit → Act → World → Prop}, (∀ m' a', RS S N s' m' a' → Evo S m m' → Q e.toExit a' m'.w) → LoopWp P (.seq (.region rid ops false) rest) Q a m.w
 | n, s, m, a, I, hI, hn, hr, hp, Q, hQ => by
  obtain ⟨o, b, bm, es, ho, hog, horo, ⟨last, hoc⟩, hat, hval, hh, hh2, hm, hmp⟩ := itAt_model hr hI
  obtain ⟨_, hid, _, _, hold, hnd⟩ := itAt_spec hI
  have hbe : ∀ (j : Nat) (x : MapEntry), es[j]? = some x → I.bs[j]? = some x.born := fun j x hx => by
   have hj : j < es.size := (Array.getElem?_eq_some_iff.1 hx).1
   have hjb : j < I.bs.length := by rw [hm.lb]; exact hj
   have h1 : I.bs[j]? = some I.bs[j] := by simp [hjb]
   rw [h1, hm.born j _ x h1 hx]
  have hborn : ∀ x, x ∈ es.toList → x.born ∈ I.bs := fun x hx => by
   obtain ⟨j, hj⟩ := List.mem_iff_getElem?.1 hx
   exact List.mem_of_getElem? (hbe j x (by simpa using hj))
  rcases run_next_at (P := P) m.w ty b bm I.since I.seen.toArray es hh hh2 (fun x hx => hold _ (hborn x hx)) with ⟨hz, hrun⟩ | ⟨x, hx, dr, hrun⟩
  ·-- nothing is left
   have hnil : todo I = [] := by
    rw [List.eq_nil_iff_forall_not_mem]
    intro y hy
    unfold todo at hy
    rw [List.mem_filter] at hy
    obtain ⟨j, hj⟩ := List.mem_iff_getElem?.1 hy.1
    have hjb : j < I.bs.length := (List.getElem?_eq_some_iff.1 hj).1
    have hje : j < es.size := by rw [← hm.lb]; exact hjb
    have hej : es[j]? = some es[j] := by simp [hje]
    have hb1 := hbe j _ hej
    rw [hj] at hb1
    simp only [Option.some.injEq] at hb1
    have hmem : es[j] ∈ leftOf es I.seen.toArray := by
     unfold leftOf
     rw [Array.mem_filter]
     exact ⟨Array.getElem_mem hje, by rw [← hb1]; simpa using hy.2⟩
    have : leftOf es I.seen.toArray = #[] := Array.eq_empty_of_size_eq_zero hz
    rw [this] at hmem; simp at hmem
   obtain ⟨y, h1, hle⟩ := hp [] (by rw [hnil]; rfl)
   simp only [runOrd, hI] at h1
   rw [hnil] at h1
   simp only [List.isEmpty_nil] at h1
   split at h1
   ·cases h1
   ·rename_i hne
    have hA : After S m s.c overR (.tuple #[.bool false]) m := After.quiet hr.rel (.tuple rfl fun u y z hu hz => by
     rcases u with _ | u
     ·simp at hu hz; subst hu; subst hz; exact .d (.bool _)
     ·simp at hu)
    refine LoopWp.round (round_wp hN hc hS h0 hok hr hA rfl rfl (by rw [hval]; exact hrun) h1 fun m' a' k1 k2 => ?_)
    obtain ⟨m3, e1, e2, e3⟩ := k1.raise hle
    have := hQ m3 a' e2 (k2.trans e3)
    rw [e1] at this
    cases e with
    | normal => exact absurd h1 (hne y)
    | exit id => exact this
    | ret => exact this
  ·-- one entry comes out
   have hxl := mem_left hx
   obtain ⟨i, hi⟩ := List.mem_iff_getElem?.1 hxl.1
   have hi' : es[i]? = some x := by simpa using hi
   have hbi := hbe i x hi'
   have hmem : x.born ∈ todo I := by
    unfold todo
    rw [List.mem_filter]
    exact ⟨List.mem_of_getElem? hbi, by simpa using hxl.2⟩
   obtain ⟨y, h1, hle⟩ := hp (x.born :: (todo I).erase x.born) (perm_erase hmem)
   simp only [runOrd, hI, perm_erase hmem] at h1
   split at h1
   ·rename_i q _ hq
    obtain ⟨j, kd, v, hj, hk, hv, rfl⟩ := pickR_spec hq
    obtain ⟨i2, x2, g1, g2, g3, _⟩ := findB_first (es := es.toList) hj (by rw [hm.lb]; simp) (fun q n e h1 h2 => hm.born q n e h1 (by simpa using h2))
    rw [Nat.zero_add] at g1; subst g1
    have g2' : es[j]? = some x2 := by simpa using g2
    have hbj := hbe j x2 g2'
    have hij : i = j := by
     rw [g3] at hbj
     have l1 := (List.getElem?_eq_some_iff.1 hbi).1
     have l2 := (List.getElem?_eq_some_iff.1 hbj).1
     exact (List.getElem?_inj l1 hnd).1 (hbi.trans hbj.symm)
    subst hij
    rw [hi'] at g2'
    simp only [Option.some.injEq] at g2'; subst g2'
    obtain ⟨m1, w1, w2, w3, w4, w5, w6⟩ := write_sp (id := I.id) (o := o) (o' := ⟨I.g, false, [.itm I.mid I.mg I.since (I.seen ++ [x.born]) I.since]⟩) (b := b) (c := s.c) (ob := .mapIter (some bm) I.since I.seen.toArray I.since) (ob' := .mapIter (some bm) I.since (I.seen ++ [x.born]).toArray I.since)
     (w' := { m.w with drawn := m.w.drawn + dr, heap := m.w.heap.setIfInBounds b (.mapIter (some bm) I.since (I.seen ++ [x.born]).toArray I.since) })
     hr.rel ho hat horo hh trivial trivial rfl hog.symm (by rw [hoc]; rfl) (by rw [hoc]; simp) (fun m' e hm' => ⟨rfl, bm, hm', hmp.mono e⟩)
    have hA : After S m s.c ⟨.tuple [.d (.bool true), .d kd, v], [(I.id, ⟨I.g, false, [.itm I.mid I.mg I.since (I.seen ++ [x.born]) I.since]⟩)], [], 0, 0, false⟩ (.tuple #[.bool true, x.key, x.val]) m1 :=
     ⟨w5, w6, .tuple rfl fun u y z hu hz => by
      rcases u with _ | _ | _ | u
      ·simp at hu hz; subst hu; subst hz; exact .d (.bool _)
      ·simp at hu hz; subst hu; subst hz; exact .d ((hm.key i kd x hk hi').mono w6.keep)
      ·simp at hu hz; subst hu; subst hz; exact (hm.val i v x hv hi').mono w6
      ·simp at hu, by rw [w2]; rfl, by rw [w4]; exact (iss_zero m s.c).symm⟩
    have hrun' : (Instr.next (a.eval (.tmp t)) false ty).run P m.w = .ok (.tuple #[.bool true, x.key, x.val]) m1.w := by
     rw [hval, w1, hrun]; simp
    have hlt : ((todo I).erase x.born).length = (todo I).length - 1 := List.length_erase_of_mem hmem
    have hpos : 0 < (todo I).length := List.length_pos_of_mem hmem
    split at h1
    ·rename_i u hu
     refine LoopWp.round (round_wp hN hc hS h0 hok hr hA rfl (by simp [Nat.blt_eq, hid]) hrun' hu fun m' a' k1 k2 => ?_)
     show LoopWp P _ Q a' m'.w
     -- every other order that begins with this entry
     have hnext : ∀ l : List Nat, (x.born :: l).isPerm (todo I) = true → ∃ y, runOrd (runRegion P cfg (callBy P cfg (execF P cfg k)) fid rid (handed ops d) false) (execF P cfg k fid rest) own t d l (if own then u else { u with hp := Hp.trunc s.n u.hp, n := s.n }) = some (e, y) ∧ LeSt y s' := fun l hl => by
      obtain ⟨y2, h2, hle2⟩ := hp (x.born :: l) hl
      simp only [runOrd, hI, hl, hq, hu] at h2
      exact ⟨y2, h2, hle2⟩
     have hstep : ∀ {s2 : St} {m2 : M}, RS S N s2 m2 a' → Evo S m m2 → m2.w = m'.w → (if own then u else { u with hp := Hp.trunc s.n u.hp, n := s.n }) = s2 → LoopWp P (.seq (.region rid ops false) rest) Q a' m'.w := by
      intro s2 m2 hr2 he2 hw2 hs2
      rw [hs2] at hnext
      obtain ⟨y3, h3, _⟩ := hnext _ (perm_erase hmem)
      obtain ⟨I2, hI2, hperm⟩ : ∃ I2, itAt s2 t = some I2 ∧ ((todo I).erase x.born).isPerm (todo I2) = true := by
       cases hl : (todo I).erase x.born with
       | nil =>
        rw [hl] at h3
        simp only [runOrd] at h3
        split at h3
        ·rename_i I2 hI2
         split at h3
         ·rename_i hem
          refine ⟨I2, hI2, ?_⟩
          rw [List.isEmpty_iff.1 hem]; rfl
         ·cases h3
        ·cases h3
       | cons y l =>
        rw [hl] at h3
        simp only [runOrd] at h3
        split at h3
        ·rename_i I2 hI2
         split at h3
         ·rename_i q2 hpm _; exact ⟨I2, hI2, hpm⟩
         ·cases h3
        ·cases h3
      have hperm' := List.isPerm_iff.1 hperm
      rw [← hw2]
      refine ord_wp hN hc hS h0 hok (own := own) (e := e) (s' := s') (todo I2).length hI2 rfl hr2 (fun p hpp => hnext p ?_) fun m'' a'' p1 p2 => hQ m'' a'' p1 (he2.trans p2)
      have hpp' := List.isPerm_iff.1 hpp
      exact List.isPerm_iff.2 (((hpp'.trans hperm'.symm).cons x.born).trans (List.perm_cons_erase hmem).symm)
     cases how : own with
     | true => exact hstep k1 k2 rfl (by rw [how]; rfl)
     | false =>
      have hl := (Log.put (s := s) (dst := some d) (q := ⟨.tuple [.d (.bool true), .d kd, v], [(I.id, ⟨I.g, false, [.itm I.mid I.mg I.since (I.seen ++ [x.born]) I.since]⟩)], [], 0, 0, false⟩) (by simp [Nat.blt_eq]; omega))
      have hl2 : Log (s.put (some d) ⟨.tuple [.d (.bool true), .d kd, v], [(I.id, ⟨I.g, false, [.itm I.mid I.mg I.since (I.seen ++ [x.born]) I.since]⟩)], [], 0, 0, false⟩) u := by
       unfold roundR at hu
       split at hu
       ·rename_i s2 hs2; exact (runRegion_log hs2).trans (execF_log hu)
       ·cases hu
      obtain ⟨m2, g1, g2, g3⟩ := trunc_sound k1 (n := s.n) (by rw [(hl.trans hl2).n0]; exact hr.n0)
      exact hstep g2 (k2.trans g3) g1 (by rw [how]; rfl)
    ·rename_i hne
     refine LoopWp.round (round_wp hN hc hS h0 hok hr hA rfl (by simp [Nat.blt_eq, hid]) hrun' h1 fun m' a' k1 k2 => ?_)
     obtain ⟨m3, e1, e2, e3⟩ := k1.raise hle
     have := hQ m3 a' e2 (k2.trans e3)
     rw [e1] at this
     cases e with
     | normal => exact absurd h1 (hne y)
     | exit id => exact this
     | ret => exact this
   ·cases h1
 termination_by n => n
 decreasing_by
  subst hn
  have := hperm'.length_eq
  omega

theorem nextLoop_spec {c : Code} {r t d : Nat} {ops : Array Oper} {rest : Code} (h : nextLoop c = some (r, ops, t, d, rest)) : c = .seq (.region r ops false) rest ∧ ∃ ty pos af, ops[0]? = some ⟨some d, .next (.tmp t) false, ty, pos, af, none⟩ := by
 unfold nextLoop at h
 split at h
 ·split at h
  ·rename_i hz
   simp only [Option.some.injEq, Prod.mk.injEq] at h
   obtain ⟨rfl, rfl, rfl, rfl, rfl⟩ := h
   exact ⟨rfl, _, _, _, hz⟩
  ·cases h
 ·cases h

theorem exec_sound [Gl] (cfg : Cfg) (hN : Pre P cfg) (hm : P.follows .mixedOrders = true) : ∀ k, Sound P cfg k ∧ LoopSound P cfg k
 | 0 => ⟨fun {fid c s s' e} h => by simp [execF] at h, fun {fid c s s' e} h => by simp [execF] at h⟩
 | k + 1 => by
  obtain ⟨ihS, ihL⟩ := exec_sound cfg hN hm k
  have hLoop : LoopSound P cfg (k + 1) := by
   intro fid c s s' e h S N m a hok hr Q hQ
   simp only [execF] at h
   split at h
   ·split at h
    ·rename_i t ht
     refine LoopWp.round (ihS ht hok hr fun m1 a1 k1 k2 => ?_)
     show LoopWp P c Q a1 m1.w
     have hl := execF_log ht
     split at h
     ·exact ihL h hok k1 fun m' a' q1 q2 => hQ m' a' q1 (k2.trans q2)
     ·obtain ⟨m2, g1, g2, g3⟩ := trunc_sound k1 (n := s.n) (by rw [hl.n0]; exact hr.n0)
      rw [← g1]
      exact ihL h hok g2 fun m' a' q1 q2 => hQ m' a' q1 (k2.trans (g3.trans q2))
    ·rename_i hne
     refine LoopWp.round (ihS h hok hr fun m1 a1 k1 k2 => ?_)
     have := hQ m1 a1 k1 k2
     cases e with
     | normal => exact absurd h (hne s')
     | exit id => exact this
     | ret => exact this
   ·rename_i r ops t d rest hnx
    obtain ⟨rfl, ty, pos, af, h0⟩ := nextLoop_spec hnx
    split at h
    ·rename_i I hI
     exact ord_wp hN (callBy_ok ihS) (fun {s s' e m a rest} h1 h2 h3 {Q} h4 => ihS h1 h2 h3 h4) h0 hok _ hI rfl hr (allOrd_spec h).2 hQ
    ·cases h
  refine ⟨?_, hLoop⟩
  intro fid c s s' e h S N m a hok hr Q hQ
  cases c <;> try (simp only [execF] at h; simp at h; done)
  case skip => simp only [execF] at h; simp at h; obtain ⟨rfl, rfl⟩ := h; exact wp_skip (hQ m a hr (.refl S m))
  case label l => simp only [execF] at h; simp at h; obtain ⟨rfl, rfl⟩ := h; exact wp_label (hQ m a hr (.refl S m))
  case ret => simp only [execF] at h; simp at h; obtain ⟨rfl, rfl⟩ := h; exact wp_ret (hQ m a hr (.refl S m))
  case exit id => simp only [execF] at h; simp at h; obtain ⟨rfl, rfl⟩ := h; exact wp_exit (hQ m a hr (.refl S m))
  case seq x y =>
   simp only [codeOK, Bool.and_eq_true] at hok
   simp only [execF] at h
   split at h
   ·rename_i t ht
    refine wp_seq (ihS ht hok.1 hr fun m1 a1 k1 k2 => ?_)
    exact ihS h hok.2 k1 fun m' a' q1 q2 => hQ m' a' q1 (k2.trans q2)
   ·rename_i hne
    refine wp_seq (ihS h hok.1 hr fun m1 a1 k1 k2 => ?_)
    have := hQ m1 a1 k1 k2
    cases e with
    | normal => exact absurd h (hne s')
    | exit id => exact this
    | ret => exact this
  case cond q x y =>
   simp only [codeOK, Bool.and_eq_true] at hok
   simp only [execF] at h
   have hq : RV S m (evalV s.env q) (a.eval q) := by
    have : EnvAt S m s.env a (match q with | .tmp t => [t] | _ => []) := fun t _ => hr.env t
    exact evalV_RV hr.rel this fun t ht => by subst ht; simp
   split at h
   ·rename_i hb
    rw [hb] at hq
    exact wp_cond_true hq.bool_inv (ihS h hok.1 hr hQ)
   ·rename_i hb
    rw [hb] at hq
    exact wp_cond_false hq.bool_inv (ihS h hok.2 hr hQ)
   ·simp at h
  case block id b =>
   simp only [codeOK] at hok
   simp only [execF] at h
   split at h
   ·rename_i i t ht
    split at h
    ·rename_i hid
     simp at h; obtain ⟨rfl, rfl⟩ := h
     refine wp_block (ihS ht hok hr fun m1 a1 k1 k2 => ?_)
     show (if i = id then _ else _)
     rw [if_pos hid]
     exact hQ m1 a1 k1 k2
    ·rename_i hid
     simp at h; obtain ⟨rfl, rfl⟩ := h
     refine wp_block (ihS ht hok hr fun m1 a1 k1 k2 => ?_)
     show (if i = id then _ else _)
     rw [if_neg hid]
     exact hQ m1 a1 k1 k2
   ·rename_i hne
    refine wp_block (ihS h hok hr fun m1 a1 k1 k2 => ?_)
    have := hQ m1 a1 k1 k2
    cases e with
    | normal => exact this
    | exit id' => exact absurd h (hne id' s')
    | ret => exact this
  case loop b => simp only [codeOK] at hok; exact (hLoop h hok hr hQ).wp
  case region id ops draw =>
   simp only [codeOK] at hok
   simp only [execF, Option.map_eq_some_iff] at h
   obtain ⟨t, ht, h⟩ := h
   simp at h; obtain ⟨rfl, rfl⟩ := h
   unfold runRegion at ht
   split at ht
   ·simp at ht
   ·rename_i hchk
    split at ht
    ·rename_i u hu
     simp only [Option.some.injEq] at ht; subst ht
     refine region_ops hN hm (callBy_ok ihS) callBy_bodies hchk hu (fun i o d ho hd => ?_) hr fun m1 a1 k1 k2 => ?_
     ·have := List.all_eq_true.1 hok o (by simpa using Array.mem_of_getElem? ho)
      rw [hd] at this
      simpa [Nat.blt_eq] using this
     ·obtain ⟨m2, g1, g2, g3⟩ := mats_sound (cfg.mat fid id) k1
      rw [← g1]
      exact hQ m2 a1 (keepSt_sound g2 _) (k2.trans g3)
    ·simp at ht

/-- A call does what the abstract machine says, whatever the fuel. -/
theorem callF_ok [Gl] (cfg : Cfg) (hN : Pre P cfg) (hm : P.follows .mixedOrders = true) (k : Nat) : CallOK P (callF P cfg k) := callBy_ok (exec_sound cfg hN hm k).1

end Go.Ac
end

section
namespace Go.Ac
variable {P : Program}

section
variable {look : Look}

end

/-! ### What a call comes to -/

/-- A call, the fuel being enough. -/
def Ev [Gl] (P : Program) (cfg : Cfg) (f : FuncId) (vs : List V) (hp : Hp) (n c : Nat) (r : CR) : Prop := ∃ K, ∀ k, K ≤ k → callF P cfg k f vs hp n c = some r

open Classical in
/-- What a call comes to. -/
noncomputable def lim [Gl] (P : Program) (cfg : Cfg) : CallF := fun f vs hp n c => if h : ∃ r, Ev P cfg f vs hp n c r then some h.choose else none

section
variable {cfg : Cfg}

theorem Ev.unique [Gl] {f : FuncId} {vs : List V} {hp : Hp} {n c : Nat} {u v : CR} (h : Ev P cfg f vs hp n c u) (k : Ev P cfg f vs hp n c v) : u = v := by
 obtain ⟨K, hK⟩ := h
 obtain ⟨L, hL⟩ := k
 have h1 := hK (max K L) (Nat.le_max_left _ _)
 rw [hL (max K L) (Nat.le_max_right _ _)] at h1
 exact (Option.some.inj h1).symm

theorem lim_some [Gl] {f : FuncId} {vs : List V} {hp : Hp} {n c : Nat} {r : CR} (h : lim P cfg f vs hp n c = some r) : Ev P cfg f vs hp n c r := by
 unfold lim at h
 split at h
 ·rename_i hx
  simp only [Option.some.injEq] at h
  rw [← h]; exact hx.choose_spec
 ·simp at h

theorem lim_of [Gl] {f : FuncId} {vs : List V} {hp : Hp} {n c : Nat} {r : CR} (h : Ev P cfg f vs hp n c r) : lim P cfg f vs hp n c = some r := by
 have hx : ∃ r, Ev P cfg f vs hp n c r := ⟨r, h⟩
 unfold lim
 rw [dif_pos hx, hx.choose_spec.unique h]

theorem callR_lim [Gl] {hp : Hp} {n c : Nat} {f : FuncId} {vs : List V} {r : Res} (h : callR cfg (lim P cfg) hp n c f vs = some r) : ∃ K, ∀ k, K ≤ k → callR cfg (callF P cfg k) hp n c f vs = some r := by
 unfold callR at h
 split at h
 ·rename_i ws ids hcl
  split at h
  ·rename_i r0 hr0
   obtain ⟨K, hK⟩ := lim_some hr0
   refine ⟨K, fun k hk => ?_⟩
   unfold callR
   rw [hcl]
   simp only [hK k hk]
   exact h
  ·simp at h
 ·rename_i hcl
  split at h
  ·rename_i r0 hr0
   obtain ⟨K, hK⟩ := lim_some hr0
   refine ⟨K, fun k hk => ?_⟩
   unfold callR
   rw [hcl]
   simp only [hK k hk]
   exact h
  ·simp at h

variable {fid rid : Nat}

theorem opW_lim [Gl] {all : List Oper} {o : Oper} {s : St} {r : Res} (h : opW P cfg fid rid (lim P cfg) all o s = some r) : ∃ K, ∀ k, K ≤ k → opW P cfg fid rid (callF P cfg k) all o s = some r := by
 unfold opW at h
 split at h
 ·rename_i hw
  split at h
  ·rename_i q hq
   have : ∃ K, ∀ k, K ≤ k → opR P cfg fid rid (callF P cfg k) o s = some q := by
    unfold opR at hq
    split at hq
    ·rename_i fo args ts ho
     split at hq
     ·rename_i f caps hf
      split at hq
      ·rename_i p hp
       refine ⟨0, fun k hk => ?_⟩
       unfold opR
       rw [ho]
       simp only [hf, hp]
       exact hq
      ·rename_i hp
       obtain ⟨K, hK⟩ := callR_lim hq
       refine ⟨K, fun k hk => ?_⟩
       unfold opR
       rw [ho]
       simp only [hf, hp]
       exact hK k hk
     ·simp at hq
    ·rename_i hno
     refine ⟨0, fun k hk => ?_⟩
     unfold opR
     split
     ·rename_i fo args ts ho; exact absurd ho (hno fo args ts)
     ·exact hq
   obtain ⟨K, hK⟩ := this
   refine ⟨K, fun k hk => ?_⟩
   unfold opW
   rw [hw]
   simp only [hK k hk]
   exact h
  ·simp at h
 ·rename_i hw
  exact ⟨0, fun k hk => by unfold opW; rw [hw]; exact h⟩
 ·simp at h

theorem runOps_lim [Gl] {all : List Oper} : ∀ {l : List Oper} {s t : St}, runOps P cfg fid rid (lim P cfg) all l s = some t → ∃ K, ∀ k, K ≤ k → runOps P cfg fid rid (callF P cfg k) all l s = some t ∧
  ∀ ancs tr, checkOps P cfg fid rid (lim P cfg) all l ancs tr s = true → checkOps P cfg fid rid (callF P cfg k) all l ancs tr s = true
 | [], s, t, h => ⟨0, fun k _ => ⟨h, fun ancs tr hc => by cases ancs <;> exact hc⟩⟩
 | o :: r, s, t, h => by
  simp only [runOps] at h
  split at h
  ·rename_i q hq
   obtain ⟨K1, h1⟩ := opW_lim hq
   obtain ⟨K2, h2⟩ := runOps_lim h
   refine ⟨max K1 K2, fun k hk => ?_⟩
   have hop := h1 k (Nat.le_trans (Nat.le_max_left _ _) hk)
   obtain ⟨h3, h4⟩ := h2 k (Nat.le_trans (Nat.le_max_right _ _) hk)
   refine ⟨by simp only [runOps, hop, h3], fun ancs tr hc => ?_⟩
   cases ancs with
   | nil => simp [checkOps] at hc
   | cons a ancs =>
    simp only [checkOps, hq, hop, Bool.and_eq_true] at hc ⊢
    exact ⟨hc.1, h4 _ _ hc.2⟩
  ·simp at h

theorem region_lim [Gl] {ops : Array Oper} {draw : Bool} {s t : St} (h : runRegion P cfg (lim P cfg) fid rid ops draw s = some t) : ∃ K, ∀ k, K ≤ k → runRegion P cfg (callF P cfg k) fid rid ops draw s = some t := by
 unfold runRegion at h
 split at h
 ·simp at h
 ·rename_i hchk
  split at h
  ·rename_i u hu
   obtain ⟨K, hK⟩ := runOps_lim hu
   refine ⟨K, fun k hk => ?_⟩
   obtain ⟨h1, h2⟩ := hK k hk
   unfold runRegion
   have : (if draw = true then orderOK ops.toList && checkOps P cfg fid rid (callF P cfg k) ops.toList ops.toList (ancL ops.toList) [] s else true) = true := by
    cases draw with
    | false => rfl
    | true =>
     rw [if_pos rfl, Bool.and_eq_true] at hchk ⊢
     exact ⟨hchk.1, h2 _ _ hchk.2⟩
   rw [this, h1]
   exact h
  ·simp at h

/-! ### Calls by data -/

/-- A call of a function that takes and hands back data. -/
noncomputable def den [Gl] (P : Program) (cfg : Cfg) (f : FuncId) (ws : List V) : Option V :=
 match lim P cfg f ws [] 0 0 with
 | some r => match closeT noLook r.v with
  | some _ => some r.v
  | none => none
 | none => none

theorem den_of [Gl] {f : FuncId} {ws : List V} {r : CR} (he : Ev P cfg f ws [] 0 0 r) (hv : (closeT noLook r.v).isSome = true) : den P cfg f ws = some r.v := by
 unfold den
 rw [lim_of he]
 obtain ⟨q, hq⟩ := Option.isSome_iff_exists.1 hv
 simp only [hq]

def putEnv (e : Env) (dst : Option Nat) (v : V) : Env := match dst with | some d => (d, v) :: e | none => e

/-- The slots alone keep the operations of a region apart. -/
def slotsApart (a b : Tr) : Bool :=
 (match a.ds with | some d => !(b.sl.contains d) && !(b.ds == some d) | none => true) && (match b.ds with | some d => !(a.sl.contains d) | none => true)

def stillTr (o : Oper) (all : List Oper) : Tr := ⟨[], [], opdSlots o all, o.dst, false, 0⟩

def stillCheck (all : List Oper) : List Oper → List (List Nat) → List Tr → Bool
 | o :: r, a :: ancs, tr => (tr.zipIdx.all fun p => a.contains p.2 || slotsApart p.1 (stillTr o all)) && stillCheck all r ancs (tr ++ [stillTr o all])
 | [], [], _ => true
 | _, _, _ => false

def stillOK (ops : Array Oper) (draw : Bool) : Bool := !draw || (orderOK ops.toList && stillCheck ops.toList ops.toList (ancL ops.toList) [])

/-- Traces that differ in what has been looked at alone. -/
def Alike (a b : Tr) : Prop := a.wr = [] ∧ b.wr = [] ∧ a.all = false ∧ b.all = false ∧ a.sl = b.sl ∧ a.ds = b.ds ∧ a.dc = 0 ∧ b.dc = 0

theorem Alike.apart {a b a' b' : Tr} (ha : Alike a a') (hb : Alike b b') (h : slotsApart a b = true) : apartT a' b' = true := by
 obtain ⟨_, a2, _, a4, a5, a6, _, a8⟩ := ha
 obtain ⟨_, b2, _, b4, b5, b6, _, b8⟩ := hb
 unfold apartT
 unfold slotsApart at h
 rw [a5, a6, b5, b6] at h
 rw [a2, a4, b2, b4]
 simp only [disj, Bool.and_eq_true] at h ⊢
 generalize a'.ds = d1 at h ⊢
 generalize b'.ds = d2 at h ⊢
 cases d1 <;> cases d2 <;> simp_all

/-- Pointwise alike. -/
def Alikes : List Tr → List Tr → Prop
 | [], [] => True
 | a :: r, b :: l => Alike a b ∧ Alikes r l
 | _, _ => False

theorem Alikes.snoc : ∀ {r l : List Tr} {a b : Tr}, Alikes r l → Alike a b → Alikes (r ++ [a]) (l ++ [b])
 | [], [], a, b, _, h => ⟨h, trivial⟩
 | x :: r, y :: l, a, b, h, h' => ⟨h.1, Alikes.snoc h.2 h'⟩
 | [], _ :: _, _, _, h, _ => h.elim
 | _ :: _, [], _, _, h, _ => h.elim

theorem Alikes.all {p q : Tr → Nat → Bool} (hpq : ∀ a b i, Alike a b → p a i = true → q b i = true) : ∀ {r l : List Tr} {k : Nat}, Alikes r l → ((r.zipIdx k).all fun x => p x.1 x.2) = true → ((l.zipIdx k).all fun x => q x.1 x.2) = true
 | [], [], k, _, _ => rfl
 | x :: r, y :: l, k, h, h' => by
  simp only [List.zipIdx_cons, List.all_cons, Bool.and_eq_true] at h' ⊢
  exact ⟨hpq _ _ _ h.1 h'.1, Alikes.all hpq h.2 h'.2⟩
 | [], _ :: _, _, h, _ => h.elim
 | _ :: _, [], _, h, _ => h.elim

end

end Go.Ac
end

section
namespace Go.Ac
variable {P : Program} {cfg : Cfg} {fid : FuncId}

/-- Code comes to an end, with enough fuel. -/
def Runs [Gl] (P : Program) (cfg : Cfg) (fid : FuncId) (c : Code) (s : St) (e : Ex) (s' : St) : Prop := ∃ K, ∀ k, K ≤ k → execF P cfg k fid c s = some (e, s')

theorem fuel {p : Nat → Prop} {K : Nat} (h : ∀ k, K ≤ k → p (k + 1)) : ∃ K, ∀ k, K ≤ k → p k :=
 ⟨K + 1, fun k hk => by
  obtain ⟨j, rfl⟩ : ∃ j, k = j + 1 := ⟨k - 1, by omega⟩
  exact h j (by omega)⟩

section
variable {s t u : St} {e : Ex}

theorem Runs.skip [Gl] : Runs P cfg fid .skip s .normal s := fuel (K := 0) fun k _ => rfl
theorem Runs.ret [Gl] : Runs P cfg fid .ret s .ret s := fuel (K := 0) fun k _ => rfl
theorem Runs.exit [Gl] {i : Nat} : Runs P cfg fid (.exit i) s (.exit i) s := fuel (K := 0) fun k _ => rfl

theorem Runs.seq [Gl] {a b : Code} (h : Runs P cfg fid a s .normal t) (h' : Runs P cfg fid b t e u) : Runs P cfg fid (.seq a b) s e u := by
 obtain ⟨K, hK⟩ := h
 obtain ⟨L, hL⟩ := h'
 exact fuel (K := max K L) fun k hk => by
  simp only [execF]
  rw [hK k (Nat.le_trans (Nat.le_max_left _ _) hk)]
  exact hL k (Nat.le_trans (Nat.le_max_right _ _) hk)

theorem Runs.seq_out [Gl] {a b : Code} (h : Runs P cfg fid a s e t) (he : e ≠ .normal) : Runs P cfg fid (.seq a b) s e t := by
 obtain ⟨K, hK⟩ := h
 exact fuel (K := K) fun k hk => by
  simp only [execF]
  rw [hK k hk]
  cases e <;> first | rfl | exact absurd rfl he

theorem Runs.cond_true [Gl] {q : Operand} {a b : Code} (hq : evalV s.env q = .d (.bool true)) (h : Runs P cfg fid a s e t) : Runs P cfg fid (.cond q a b) s e t := by
 obtain ⟨K, hK⟩ := h
 exact fuel (K := K) fun k hk => by simp only [execF, hq]; exact hK k hk

theorem Runs.cond_false [Gl] {q : Operand} {a b : Code} (hq : evalV s.env q = .d (.bool false)) (h : Runs P cfg fid b s e t) : Runs P cfg fid (.cond q a b) s e t := by
 obtain ⟨K, hK⟩ := h
 exact fuel (K := K) fun k hk => by simp only [execF, hq]; exact hK k hk

theorem Runs.block [Gl] {i : Nat} {b : Code} (h : Runs P cfg fid b s e t) (he : ∀ j, e ≠ .exit j) : Runs P cfg fid (.block i b) s e t := by
 obtain ⟨K, hK⟩ := h
 exact fuel (K := K) fun k hk => by
  simp only [execF]
  rw [hK k hk]
  cases e with
  | normal => rfl
  | exit j => exact absurd rfl (he j)
  | ret => rfl

theorem Runs.block_exit [Gl] {i : Nat} {b : Code} (h : Runs P cfg fid b s (.exit i) t) : Runs P cfg fid (.block i b) s .normal t := by
 obtain ⟨K, hK⟩ := h
 exact fuel (K := K) fun k hk => by
  simp only [execF]
  rw [hK k hk]
  simp

theorem Runs.block_other [Gl] {i j : Nat} {b : Code} (h : Runs P cfg fid b s (.exit j) t) (hj : j ≠ i) : Runs P cfg fid (.block i b) s (.exit j) t := by
 obtain ⟨K, hK⟩ := h
 exact fuel (K := K) fun k hk => by
  simp only [execF]
  rw [hK k hk]
  simp [hj]

def cut (cfg : Cfg) (fid : FuncId) (s t : St) : St := if cfg.own fid then t else { t with hp := Hp.trunc s.n t.hp, n := s.n }

/-- A loop over a map is not run like another. -/
theorem next_none [Gl] {b : Code} {x : Nat × Array Oper × Nat × Nat × Code} (h : nextLoop b = some x) : ∀ (k : Nat) (s : St), execF P cfg k fid b s = none := by
 obtain ⟨r, ops, t, d, rest⟩ := x
 obtain ⟨rfl, ty, pos, af, h0⟩ := nextLoop_spec h
 intro k s
 cases k with
 | zero => rfl
 | succ k =>
  simp only [execF]
  cases k with
  | zero => rfl
  | succ k =>
   have hl : ops.toList = ⟨some d, .next (.tmp t) false, ty, pos, af, none⟩ :: ops.toList.tail := by
    cases ho : ops.toList with
    | nil =>
     have : ops = #[] := by apply Array.ext'; simpa using ho
     rw [this] at h0; simp at h0
    | cons a r =>
     have : ops.toList[0]? = some ⟨some d, .next (.tmp t) false, ty, pos, af, none⟩ := by simpa using h0
     rw [ho] at this
     simp at this
     rw [this]; rfl
   have hreg : runRegion P cfg (callBy P cfg (execF P cfg k)) fid r ops false s = none := by
    unfold runRegion
    simp only [Bool.false_eq_true, if_false]
    have : ∀ all, runOps P cfg fid r (callBy P cfg (execF P cfg k)) all ops.toList s = none := fun all => by
     rw [hl]
     simp only [runOps, opW, wantedV, opR, step]
    rw [this]
   simp only [execF, hreg, Option.map_none]

theorem Runs.round [Gl] {b : Code} (h : Runs P cfg fid b s .normal t) (h' : Runs P cfg fid (.loop b) (cut cfg fid s t) e u) : Runs P cfg fid (.loop b) s e u := by
 obtain ⟨K, hK⟩ := h
 obtain ⟨L, hL⟩ := h'
 have hn : nextLoop b = none := by
  cases hb : nextLoop b with
  | none => rfl
  | some x => have := hK K (Nat.le_refl _); rw [next_none hb] at this; cases this
 exact fuel (K := max K L) fun k hk => by
  simp only [execF, hn]
  rw [hK k (Nat.le_trans (Nat.le_max_left _ _) hk)]
  exact hL k (Nat.le_trans (Nat.le_max_right _ _) hk)

theorem Runs.loop_out [Gl] {b : Code} (h : Runs P cfg fid b s e t) (he : e ≠ .normal) : Runs P cfg fid (.loop b) s e t := by
 obtain ⟨K, hK⟩ := h
 have hn : nextLoop b = none := by
  cases hb : nextLoop b with
  | none => rfl
  | some x => have := hK K (Nat.le_refl _); rw [next_none hb] at this; cases this
 exact fuel (K := K) fun k hk => by
  simp only [execF, hn]
  rw [hK k hk]
  cases e <;> first | rfl | exact absurd rfl he

theorem Runs.region [Gl] {id : Nat} {ops : Array Oper} {draw : Bool} (h : ∃ K, ∀ k, K ≤ k → runRegion P cfg (callF P cfg k) fid id ops draw s = some t) : Runs P cfg fid (.region id ops draw) s .normal t := by
 obtain ⟨K, hK⟩ := h
 refine fuel (K := K) fun k hk => ?_
 have := hK k hk
 unfold callF at this
 simp only [execF, this]; rfl

end

theorem Runs.reg [Gl] {id : Nat} {ops : Array Oper} {draw : Bool} {s t : St} (h : runRegion P cfg (lim P cfg) fid id ops draw s = some t) : Runs P cfg fid (.region id ops draw) s .normal t := Runs.region (Go.Ac.region_lim h)

/-- A frame beside a memory. -/
def stH (e : Env) (hp : Hp) (n c : Nat) : St := ⟨e, hp, n, c, 0, []⟩

/-! ### Functions that touch no object -/

/-- A frame beside an empty memory. -/
def st (e : Env) : St := stH e [] 0 0

end Go.Ac
end

section
namespace Go.Ac
variable {P : Program} {cfg : Cfg} {fid : FuncId}

inductive Gd where
 | free
 | on (d : Nat) (want : Bool)
 | bad

structure PO where
 op : Op
 dst : Option Nat
 g : Gd

def prepO (all : List Oper) (o : Oper) : PO := ⟨o.op, o.dst, match o.guard with
 | none => .free
 | some (j, want) => match all[j]? with
  | some g => match g.dst with | some d => .on d want | none => .bad
  | none => .bad⟩

def wantedP (e : Env) : Gd → Option Bool
 | .free => some true
 | .on d want => match e.get d with
  | .d (.bool b) => some (b == want)
  | .undef => some false
  | _ => none
 | .bad => none

theorem wantedP_eq (all : List Oper) (e : Env) (o : Oper) : wantedP e (prepO all o).g = wantedV all e o := by
 unfold prepO wantedV
 cases o.guard with
 | none => rfl
 | some q =>
  obtain ⟨j, want⟩ := q
  simp only
  cases all[j]? with
  | none => rfl
  | some g => simp only; cases g.dst <;> rfl

end Go.Ac
end
