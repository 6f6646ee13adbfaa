/- The abstract machine: code and calls do what the abstract machine says. No conditions. -/
import Derived.Test.YtkimfnammkljoaaGreatDoorAcT
import Derived.RecoverIn
set_option linter.unusedVariables false
set_option linter.unusedSimpArgs false
namespace Go.Ac
variable {P : Program}

def Ex.toExit : Ex → Exit
 | .normal => .normal
 | .exit id => .exit id
 | .ret => .ret

/-! ### Loops -/

def LoopWp (P : Program) (oR : Option Nat) (c : Code) (Q : Exit → Act → World → Prop) (a : Act) (w : World) : Prop :=
 ∀ (b : Frame) (k : List Item) (cs : List Frame), b.roundOf = oR → ∃ e a' w', Q e a' w' ∧ ArrivesIn (Machine.fenced P (Fw oR)) P (lone (b.atR a (.code c :: .inLoop c :: k)) cs w) b k cs e a' w'

theorem LoopWp.wp {oR : Option Nat} {c : Code} {Q : Exit → Act → World → Prop} {a : Act} {w : World} (h : LoopWp P oR c Q a w) : (Code.loop c).wpIn (Fw oR) 0 P Q a w :=
 fun b k cs hb _ _ => let ⟨e, a', w', q, r⟩ := h b k cs hb; ⟨e, a', w', q, .of_steps (.one (fenced_Fw oR _) stepR_loop) r⟩

theorem LoopWp.round {oR : Option Nat} {c : Code} {Q : Exit → Act → World → Prop} {a : Act} {w : World} (h : c.wpIn (Fw oR) 0 P (Exit.then (LoopWp P oR c Q) Q) a w) : LoopWp P oR c Q a w := by
 intro b k cs hb
 obtain ⟨e, a₁, w₁, hq, harr⟩ := h b (.inLoop c :: k) cs hb trivial (room_Fw oR _)
 cases e with
 | normal =>
  obtain ⟨e₂, a₂, w₂, hq₂, harr₂⟩ := hq b k cs hb
  exact ⟨e₂, a₂, w₂, hq₂, .of_steps (StepsIn.trans harr (.one (fenced_Fw oR _) stepR_inLoop)) harr₂⟩
 | exit id => exact ⟨_, a₁, w₁, hq, .pass (x := .inLoop c) rfl (fun _ _ => .inl (by simp)) harr⟩
 | goto l => exact ⟨_, a₁, w₁, hq, .pass (x := .inLoop c) rfl (fun _ _ => .inl (by simp)) harr⟩
 | ret => exact ⟨_, a₁, w₁, hq, .pass (x := .inLoop c) rfl (fun _ _ => .inl (by simp)) harr⟩
 | panic ch => exact ⟨_, a₁, w₁, hq, .pass (x := .inLoop c) rfl (fun _ _ => .inl (by simp)) harr⟩
 | outgrown => exact ⟨_, a₁, w₁, hq, .pass (x := .inLoop c) rfl (fun _ _ => .inl (by simp)) harr⟩

/-! ### Results -/

section
variable {oR : Option Nat} {S : Nat → Prop} {B : Bs} {m : M} {s : St} {N : Nat} {a : Act}

theorem loadV_ptr [Gl] {look : Look} {i : TI} {p : V} {v : Value} {r : Res} (h : loadV look i p = some r) (hl : look = m.h) (hv : RV S m p v) : ∃ ad, v = .pointer (some ad) := by
 unfold loadV at h
 split at h
 ·rename_i id g off
  cases hlv : live look id g with
  | none => simp [hlv] at h
  | some o =>
   obtain ⟨_, _, b, base, _, rfl⟩ := hv.ptr_live (hl ▸ hlv)
   exact ⟨_, rfl⟩
 ·cases hv with | vref f hf hr => exact ⟨_, rfl⟩
 ·simp at h

def resultOf (tmps : Array Value) : ResultVar → Sem Value
 | .tmp t => pure (tmps.getD t undef)
 | .cell a t => do loadVar t (← asAddr (tmps.getD a undef))

theorem resultV_sound [Gl] (h : RS S B N s m a) {r : ResultVar} {v : V} (hr : resultV P s r = some v) : ∃ x, (resultOf a.tmps r).run P m.w = .ok x m.w ∧ RV S m v x := by
 cases r with
 | tmp t => simp [resultV] at hr; subst hr; exact ⟨_, rfl, h.env t⟩
 | cell q t =>
  simp only [resultV, Option.bind_eq_some_iff, Option.map_eq_some_iff] at hr
  obtain ⟨i, hi, y, hy, rfl⟩ := hr
  obtain ⟨x, g1, g2⟩ := loadV_sound (c := 0) hi hy h.h.symm h.rel (h.env q)
  obtain ⟨ad, had⟩ := loadV_ptr hy h.h.symm (h.env q)
  refine ⟨x, ?_, g2.2.2.1⟩
  rw [had] at g1
  simp only [resultOf, had, asAddr, Sem.run_bind, Sem.run_pure, Result.andThen_ok]
  simpa [Instr.loadAt, Instr.sureAddr] using g1

theorem resultsV_sound [Gl] (h : RS S B N s m a) : ∀ {l : List ResultVar} {vs : List V}, resultsV P s l = some vs → ∃ xs, (l.mapM (resultOf a.tmps)).run P m.w = .ok xs m.w ∧ RVs S m vs xs
 | [], vs, hr => by simp [resultsV] at hr; subst hr; exact ⟨[], by simp, .nil⟩
 | r :: l, vs, hr => by
  simp only [resultsV] at hr
  split at hr
  ·rename_i v us h1 h2
   simp only [Option.some.injEq] at hr; subst hr
   obtain ⟨x, g1, g2⟩ := resultV_sound h h1
   obtain ⟨xs, g3, g4⟩ := resultsV_sound h h2
   exact ⟨x :: xs, by simp [List.mapM_cons, Sem.run_bind, g1, g3], .cons g2 g4⟩
  ·simp at hr

theorem results_sound [Gl] (h : RS S B N s m a) {fn : Func} {rs : List V} (hr : resultsV P s fn.results.toList = some rs) : ∃ x, (results fn a.tmps).run P m.w = .ok x m.w ∧ RV S m (tup rs) x := by
 obtain ⟨xs, g1, g2⟩ := resultsV_sound h hr
 have e : results fn a.tmps = (do let vs ← fn.results.mapM (resultOf a.tmps); pure (if h : vs.size = 1 then vs[0] else .tuple vs)) := by
  unfold results
  congr 1
 have hrun : (fn.results.mapM (resultOf a.tmps)).run P m.w = .ok xs.toArray m.w := by
  rw [Array.mapM_eq_mapM_toList]
  simp [g1]
 rw [e]
 simp only [Sem.run_bind, hrun, Result.andThen_ok, Sem.run_pure]
 refine ⟨_, rfl, ?_⟩
 cases rs with
 | nil =>
  have : xs = [] := List.length_eq_zero_iff.1 (by rw [← g2.1]; rfl)
  subst this
  exact g2.tuple
 | cons v r =>
  obtain ⟨x, ys, rfl, k1, k2⟩ := g2.cases
  cases r with
  | nil =>
   have : ys = [] := List.length_eq_zero_iff.1 (by rw [← k2.1]; rfl)
   subst this
   simpa [tup] using k1
  | cons u r =>
   obtain ⟨y, zs, rfl, k3, k4⟩ := k2.cases
   simp only [tup]
   rw [dif_neg (by simp)]
   exact g2.tuple

/-- The objects that a loop's round has made are let go. -/
theorem trunc_sound [Gl] (h : RS S B N s m a) {n : Nat} (hn : s.n0 ≤ n) : ∃ m', m'.w = m.w ∧ RS S B N { s with hp := Hp.trunc n s.hp, n := n } m' a ∧ Evo S m m' := by
 obtain ⟨g1, g2⟩ := h.rel.less (h' := (Hp.trunc n s.hp).get) (fun id o ho => by
  rw [trunc_get] at ho
  split at ho
  ·rw [h.h]; exact ho
  ·cases ho)
 refine ⟨{ m with h := (Hp.trunc n s.hp).get }, rfl, ⟨rfl, h.iss, g1, fun t => (h.env t).mono g2, h.size, h.defers.mono g2, fun id hid => ?_, hn⟩, g2⟩
 show (Hp.trunc n s.hp).get id = none
 rw [trunc_get, if_neg (by have : n ≤ id := hid; omega)]

/-- What a caller is handed. -/
theorem finish_sound [Gl] (h : RS S B N s m a) {thr : Bool} {n : Nat} {v : V} {x : Value} {r : CR} (hv : RV S m v x) (hr : finish thr n s v = some r) : ∃ m', m'.w = m.w ∧ Rel S m' ∧ Evo S m m' ∧ RV S m' r.v x ∧ m'.h = r.hp.get ∧ m'.iss = fun _ g => g < r.c := by
 unfold finish at hr
 split at hr
 ·rename_i w ids hcl
  have hcl' : closeT s.hp.get v = some (w, ids) := by
   cases thr with
   | true => simp at hcl
   | false => simpa using hcl
  split at hr
  ·rename_i hok
   simp only [Option.some.injEq] at hr; subst hr
   obtain ⟨m1, e1, hb⟩ := ros h.rel ids
   have hw := closeT_sound h.rel (by rw [h.h]; exact hcl') hv hb (fun i hi => hi)
   cases hfl : w.flat with
   | true =>
    obtain ⟨g1, g2⟩ := h.rel.less (h' := (Hp.trunc n s.hp).get) (fun id o ho => by
     rw [trunc_get] at ho
     split at ho
     ·rw [h.h]; exact ho
     ·cases ho)
    exact ⟨{ m with h := (Hp.trunc n s.hp).get }, rfl, g1, g2, hw.flat hfl, rfl, h.iss⟩
   | false =>
    rw [hfl] at hok
    simp only [Bool.false_or] at hok
    have hsame : ∀ id, id < n → m1.h id = m.h id := fun id hid => hb.not id fun hm => by
     have := List.all_eq_true.1 hok id hm
     have := Nat.le_of_ble_eq_true this
     omega
    obtain ⟨g1, g2⟩ := hb.rel.less (h' := (Hp.trunc n s.hp).get) (fun id o ho => by
     rw [trunc_get] at ho
     split at ho
     ·rename_i hlt; rw [hsame id hlt, h.h]; exact ho
     ·cases ho)
    exact ⟨{ m1 with h := (Hp.trunc n s.hp).get }, hb.w, g1, hb.evo.trans g2, hw.mono g2, rfl, by show m1.iss = _; rw [hb.iss]; exact h.iss⟩
  ·simp at hr
 ·simp only [Option.some.injEq] at hr; subst hr
  exact ⟨m, rfl, h.rel, .refl S m, hv, h.h, h.iss⟩

end

theorem envOf_get : ∀ (vs : List V) (k t : Nat), (envOf k vs).get t = if k ≤ t then (vs[t - k]?).getD .any else .any
 | [], k, t => by simp [envOf, Env.get]
 | v :: r, k, t => by
  simp only [envOf, env_get_cons]
  by_cases h : t = k
  ·subst h; simp
  ·rw [upd_ne _ _ h, envOf_get r (k + 1) t]
   by_cases hk : k ≤ t
   ·rw [if_pos hk, if_pos (by omega)]
    rw [show t - k = (t - (k + 1)) + 1 by omega]; simp
   ·rw [if_neg hk, if_neg (by omega)]

/-! ### Code -/

/-- The record of the loop whose round this is. -/
def RndAt (oR : Option Nat) (m : M) : Prop := match oR with | none => True | some l => ∃ r : Loop, m.w.heap[l]? = some (Obj.loop r)
theorem RndAt.mono {oR : Option Nat} {S : Nat → Prop} {m m' : M} (h : RndAt oR m) (e : Evo S m m') : RndAt oR m' := by
 cases oR with
 | none => trivial
 | some l => obtain ⟨r, hr⟩ := h; exact e.lps l r hr
theorem RndAt.same {oR : Option Nat} {m m' : M} (h : RndAt oR m) (e : m'.w = m.w) : RndAt oR m' := by
 cases oR with
 | none => trivial
 | some l => obtain ⟨r, hr⟩ := h; exact ⟨r, by rw [e]; exact hr⟩

def Sound [Gl] (P : Program) (cfg : Cfg) (k : Nat) : Prop := ∀ {fid : FuncId} {c : Code} {s s' : St} {e : Ex}, execF P cfg k fid c s = some (e, s') → ∀ {oR : Option Nat} {S : Nat → Prop} {B : Bs} {N : Nat} {m : M} {a : Act}, codeOKb B.nr N c = true → RS S B N s m a → RndAt oR m →
 ∀ {Q : Exit → Act → World → Prop}, (∀ m' a', RS S B N s' m' a' → Evo S m m' → Q e.toExit a' m'.w) → c.wpIn (Fw oR) 0 P Q a m.w

def LoopSound [Gl] (P : Program) (cfg : Cfg) (k : Nat) : Prop := ∀ {fid : FuncId} {c : Code} {s s' : St} {e : Ex}, execF P cfg k fid (.loop c) s = some (e, s') → ∀ {oR : Option Nat} {S : Nat → Prop} {B : Bs} {N : Nat} {m : M} {a : Act}, codeOKb B.nr N c = true → RS S B N s m a → RndAt oR m →
 ∀ {Q : Exit → Act → World → Prop}, (∀ m' a', RS S B N s' m' a' → Evo S m m' → Q e.toExit a' m'.w) → LoopWp P oR c Q a m.w

theorem callBy_bodies [Gl] {cfg : Cfg} {run : FuncId → Code → St → Option (Ex × St)} : Bodies P (callBy P cfg run) := by
 intro f vs hp n c r h
 obtain ⟨fn, body, h1, h2, _⟩ := callBy_inv h
 exact ⟨fn, h1, by rw [h2]; rfl⟩

theorem RowAt.nd [Gl] {S : Nat → Prop} {m : M} {l : List V} {b base : Nat} (h : RowAt S m l b base) : ∀ ds, m.w.heap[b]? ≠ Option.some (Obj.deferred ds) := by
 intro ds hd
 unfold RowAt at h
 split at h
 ·obtain ⟨_, t, h1, _⟩ := h; rw [hd] at h1; injection h1 with h1; cases h1
 ·obtain ⟨_, es, h1, _⟩ := h; rw [hd] at h1; injection h1 with h1; cases h1
 ·obtain ⟨_, es, h1, _⟩ := h; rw [hd] at h1; injection h1 with h1; cases h1
 ·obtain ⟨_, es, h1, _⟩ := h; rw [hd] at h1; injection h1 with h1; cases h1
 ·obtain ⟨_, bm, h1, _⟩ := h; rw [hd] at h1; injection h1 with h1; cases h1
 ·obtain ⟨_, r, h1, _⟩ := h; rw [hd] at h1; injection h1 with h1; cases h1
 ·obtain ⟨cs, T, fz, h1, _⟩ := h; rw [hd] at h1; injection h1 with h1; cases h1

/-- Blocks of deferred calls are nobody's. -/
theorem Rel.shut [Gl] {S : Nat → Prop} {m : M} (hR : Rel S m) {w' : World} (hsz : w'.heap.size = m.w.heap.size) (hrow : ∀ (b : Nat), (∀ ds, m.w.heap[b]? ≠ some (Obj.deferred ds)) → w'.heap[b]? = m.w.heap[b]?) :
  Rel S { m with w := w' } ∧ Tr2 S S m { m with w := w' } := by
 have e : Tr2 S S m { m with w := w' } := {
  iss := fun _ _ h => h
  shape := fun b cs T fz h => ⟨cs, fz, by rw [hrow b (fun ds hd => by rw [h] at hd; cases hd)]; exact h, rfl⟩
  keep := fun b off y hn hy => by
   refine ⟨hn, ?_⟩
   have : w'.heap[b]? = m.w.heap[b]? := hrow b fun ds hd => by simp [World.cell?, hd] at hy
   rw [← hy]; simp [World.cell?, this]
  live := fun id o h _ => ⟨o, h, rfl, rfl, Nat.le_refl _, rfl⟩ }
 refine ⟨⟨fun g => (hR.glob g).tr2 e, hR.iss, hR.none_, fun id o b base ho ha => ?_, hR.inj, fun b hb => by show b < w'.heap.size; rw [hsz]; exact hR.sub b hb⟩, e⟩
 obtain ⟨h1, h2⟩ := hR.obj id o b base ho ha
 exact ⟨h1, h2.tr2 e (hrow b h2.nd)⟩

theorem Evo.shut {S : Nat → Prop} {m m' : M} (h : Evo S m m') {w' : World} (hsz : w'.heap.size = m'.w.heap.size) (hrow : ∀ b, b < m.w.heap.size → w'.heap[b]? = m'.w.heap[b]?) (hos : w'.os = m'.w.os ∧ w'.output = m'.w.output) : Evo S m { m' with w := w' } where
 iss := h.iss
 size := by show _ ≤ w'.heap.size; rw [hsz]; exact h.size
 shape b cs T fz hb := by
  obtain ⟨cs2, fz2, h1, h2⟩ := h.shape b cs T fz hb
  exact ⟨cs2, fz2, by show w'.heap[b]? = _; rw [hrow b (block_lt hb)]; exact h1, h2⟩
 keepS b hb hs := (hrow b hb).trans (h.keepS b hb hs)
 keep b hb hn := ⟨(h.keep b hb hn).1, (hrow b hb).trans (h.keep b hb hn).2⟩
 live := h.live
 old := h.old
 rest := ⟨hos.1.trans h.rest.1, hos.2.trans h.rest.2⟩
 dfr b hb := by show w'.heap[b]? = _; rw [hrow b (block_lt hb)]; exact h.dfr b hb
 lps b r hb := by
  obtain ⟨r', h1⟩ := h.lps b r hb
  exact ⟨r', by show w'.heap[b]? = _; rw [hrow b (block_lt hb)]; exact h1⟩

/-- An activation leaves: its loops' blocks are shut. -/
theorem leaves_marksD {fn : Func} {tmps : Array Value} {R : Ending → World → Prop} {D : List Deferred} : ∀ (rs : List Nat) (w : World), rs.Nodup → (∀ r, r ∈ rs → w.heap[r]? = some (Obj.deferred (some []))) →
  (∀ w' : World, (∀ b, b ∉ rs → w'.heap[b]? = w.heap[b]?) → w'.heap.size = w.heap.size → w'.os = w.os ∧ w'.output = w.output → LeavesInM (Fw none) 0 P fn tmps R D .returning w') →
  LeavesInM (Fw none) 0 P fn tmps R (rs.map mark ++ D) .returning w
 | [], w, _, _, h => h w (fun _ _ => rfl) rfl ⟨rfl, rfl⟩
 | r :: rs, w, hnd, hd, h => by
  have h0 := hd r (List.mem_cons_self ..)
  have hlt := block_lt h0
  have hnd' := List.nodup_cons.1 hnd
  refine ⟨by simp, .inl ⟨r, { w with heap := w.heap.setIfInBounds r (Obj.deferred none) }, rfl, ?_, ?_⟩⟩
  ·have h1 : w.heap[r] = Obj.deferred (some []) := (Array.getElem?_eq_some_iff.1 h0).2
   simp [Instr.takeDeferred, getObj, setObj, Sem.run, Result.andThen, hlt, h1]
  ·refine leaves_marksD rs _ hnd'.2 (fun q hq => ?_) fun w' h1 h2 h3 => ?_
   ·have : r ≠ q := fun e => hnd'.1 (e ▸ hq)
    show (w.heap.setIfInBounds r _)[q]? = _
    rw [Array.getElem?_setIfInBounds_ne this]
    exact hd q (List.mem_cons_of_mem _ hq)
   ·refine h w' (fun b hb => ?_) (h2.trans (by simp)) h3
    simp only [List.mem_cons, not_or] at hb
    rw [h1 b hb.2]
    show (w.heap.setIfInBounds r _)[b]? = _
    rw [Array.getElem?_setIfInBounds_ne (Ne.symm hb.1)]

theorem leaves_marks {fn : Func} {tmps : Array Value} {R : Ending → World → Prop} (rs : List Nat) (w : World) (hnd : rs.Nodup) (hd : ∀ r, r ∈ rs → w.heap[r]? = some (Obj.deferred (some [])))
  (h : ∀ w' : World, (∀ b, b ∉ rs → w'.heap[b]? = w.heap[b]?) → w'.heap.size = w.heap.size → w'.os = w.os ∧ w'.output = w.output → ∃ v, (results fn tmps).run P w' = .ok v w' ∧ R (.returned v) w') :
  LeavesInM (Fw none) 0 P fn tmps R (rs.map mark ++ []) .returning w := leaves_marksD rs w hnd hd h

theorem St.lset_log {s : St} {id : Nat} {o : Ob} (h : id < s.n) : Log s (s.lset id o) :=
 Log.put (dst := none) (q := ⟨.any, [(id, o)], [], 0, 0, false⟩) (by simp [Nat.blt_eq]; exact h)

section
variable {S : Nat → Prop} {B : Bs} {m : M} {s : St} {N : Nat} {a : Act}

/-- The record of a loop, where it lies; it may be written anew. -/
theorem Rel.loop [Gl] (hR : Rel S m) {id g g' st fid : Nat} {pend : Option Code} {env : Env} {ps : List Nat} {asg body : Code} (hl : live m.h id g = some ⟨g', false, [.lp st pend fid env ps asg body]⟩) :
  m.h id = some ⟨g, false, [.lp st pend fid env ps asg body]⟩ ∧ ∃ b r, m.at_ id = some (b, 0) ∧ m.w.heap[b]? = some (Obj.loop r) ∧ LoopAt S m st pend fid env ps asg body r := by
 obtain ⟨h1, h2⟩ := live_spec hl
 have h2' : g' = g := h2
 subst h2'
 refine ⟨h1, ?_⟩
 cases hat : m.at_ id with
 | none => have := hR.none_ id _ h1 hat; cases this
 | some p =>
  obtain ⟨b, base⟩ := p
  obtain ⟨_, h4⟩ := hR.obj id _ b base h1 hat
  obtain ⟨rfl, r, h5, h6⟩ := h4
  exact ⟨b, r, rfl, h5, h6⟩

theorem RS.lset [Gl] (h : RS S B N s m a) {id g st fid b : Nat} {pend : Option Code} {env : Env} {ps : List Nat} {asg body : Code} {r : Loop} (h1 : m.h id = some ⟨g, false, [.lp st pend fid env ps asg body]⟩)
  (h2 : m.at_ id = some (b, 0)) (h3 : m.w.heap[b]? = some (Obj.loop r)) (h4 : LoopAt S m st pend fid env ps asg body r) (st' : LoopState) (pend' : Option Code) :
  ∃ m', m'.w = { m.w with heap := m.w.heap.setIfInBounds b (Obj.loop { r with state := st', pending := pend' }) } ∧ RS S B N (s.lset id ⟨g, false, [.lp (loopN st') pend' fid env ps asg body]⟩) m' a ∧ Evo S m m' := by
 obtain ⟨m', w1, w2, w3, w4, w5, w6⟩ := write_sp (id := id) (o := ⟨g, false, [.lp st pend fid env ps asg body]⟩) (o' := ⟨g, false, [.lp (loopN st') pend' fid env ps asg body]⟩) (b := b) (c := 0) (ob := Obj.loop r) (ob' := Obj.loop { r with state := st', pending := pend' })
  (w' := { m.w with heap := m.w.heap.setIfInBounds b (Obj.loop { r with state := st', pending := pend' }) }) h.rel h1 h2 rfl h3 trivial trivial rfl rfl rfl (Nat.le_refl _)
  (fun m' e hm => ⟨rfl, _, hm, rfl, rfl, h4.ps, h4.asg, h4.body, fun t => (h4.env t).mono e, h4.ok⟩) ⟨rfl, rfl⟩ ⟨fun _ _ => ⟨_, rfl⟩, fun h => by cases h⟩
 have hlt : id < s.n := by
  rcases Nat.lt_or_ge id s.n with hl | hl
  ·exact hl
  ·have := h.top id hl
   rw [← h.h, h1] at this; cases this
 refine ⟨m', w1, ⟨?_, by rw [w4]; exact h.iss, w5, fun t => (h.env t).mono w6, h.size, h.defers.mono w6, (St.lset_log hlt).top h.n0 h.top, h.n0⟩, w6⟩
 rw [w2, h.h]; exact (hp_get_set _ _ _).symm

end

theorem putEs_RV [Gl] {S : Nat → Prop} {m : M} : ∀ (ps : List Nat) (vs : List V) (xs : List Value) (e : Env) (tmps : Array Value), (∀ t, RV S m (e.get t) (tmps.getD t undef)) → RVs S m vs xs → (∀ t, t ∈ ps → t < tmps.size) →
  (∀ t, RV S m ((putEs e ps vs).get t) (((ps.zip xs).foldl (fun tmps p => tmps.setIfInBounds p.1 p.2) tmps).getD t undef)) ∧ ((ps.zip xs).foldl (fun tmps p => tmps.setIfInBounds p.1 p.2) tmps).size = tmps.size
 | [], vs, xs, e, tmps, he, hv, hp => ⟨by simpa [putEs] using he, rfl⟩
 | p :: ps, [], xs, e, tmps, he, hv, hp => by
  have : xs = [] := List.length_eq_zero_iff.1 (by rw [← hv.1]; rfl)
  subst this
  exact ⟨by simpa [putEs] using he, rfl⟩
 | p :: ps, v :: vs, xs, e, tmps, he, hv, hp => by
  obtain ⟨x, ys, rfl, k1, k2⟩ := hv.cases
  have hpl := hp p (List.mem_cons_self ..)
  obtain ⟨g1, g2⟩ := putEs_RV ps vs ys ((p, v) :: e) (tmps.setIfInBounds p x) (fun t => by
   rw [env_get_cons]
   by_cases ht : t = p
   ·subst ht
    rw [upd_same]
    have : (tmps.setIfInBounds t x).getD t undef = x := by simp [hpl]
    rw [this]; exact k1
   ·rw [upd_ne _ _ ht]
    have : (tmps.setIfInBounds p x).getD t undef = tmps.getD t undef := by simp [Array.getElem?_setIfInBounds_ne (Ne.symm ht)]
    rw [this]; exact he t) k2 (fun t ht => by simpa using hp t (List.mem_cons_of_mem _ ht))
  exact ⟨by simpa [putEs] using g1, by simpa using g2⟩

theorem callYd_inv {run : FuncId → Code → St → Option (Ex × St)} {id g : Nat} {vs : List V} {hp : Hp} {n c : Nat} {r : CR} (h : callYd run id g vs hp n c = some r) :
  ∃ g0 fid env ps asg body s1 g1 fid1 env1 ps1 asg1 body1 e s2 g2 fid2 env2 ps2 asg2 body2,
   live hp.get id g = some ⟨g0, false, [.lp 0 none fid env ps asg body]⟩ ∧ vs.length = ps.length ∧ run fid asg ⟨putEs env ps vs, hp, n, c, n, []⟩ = some (.normal, s1) ∧
   live s1.hp.get id g = some ⟨g1, false, [.lp 0 none fid1 env1 ps1 asg1 body1]⟩ ∧ run fid body (s1.lset id ⟨g, false, [.lp 1 none fid1 env1 ps1 asg1 body1]⟩) = some (e, s2) ∧
   live s2.hp.get id g = some ⟨g2, false, [.lp 1 none fid2 env2 ps2 asg2 body2]⟩ ∧
   r = ⟨.d (.bool (endR' e).1), (s2.lset id ⟨g, false, [.lp (endR' e).2.1 (endR' e).2.2 fid2 env2 ps2 asg2 body2]⟩).hp, s2.n, s2.c, (s2.lset id ⟨g, false, [.lp (endR' e).2.1 (endR' e).2.2 fid2 env2 ps2 asg2 body2]⟩).wl⟩ := by
 unfold callYd at h
 split at h
 ·rename_i g0 fid env ps asg body h1
  split at h
  ·rename_i h2
   split at h
   ·rename_i s1 h3
    split at h
    ·rename_i g1 fid1 env1 ps1 asg1 body1 h4
     split at h
     ·rename_i e s2 h5
      split at h
      ·rename_i g2 fid2 env2 ps2 asg2 body2 h6
       simp only [Option.some.injEq] at h
       exact ⟨g0, fid, env, ps, asg, body, s1, g1, fid1, env1, ps1, asg1, body1, e, s2, g2, fid2, env2, ps2, asg2, body2, h1, Nat.eq_of_beq_eq_true h2, h3, h4, h5, h6, h.symm⟩
      ·simp at h
     ·simp at h
    ·simp at h
   ·simp at h
  ·simp at h
 ·simp at h

theorem callYd_of {run : FuncId → Code → St → Option (Ex × St)} {id g : Nat} {vs : List V} {hp : Hp} {n c g0 fid g1 fid1 g2 fid2 : Nat} {env env1 env2 : Env} {ps ps1 ps2 : List Nat} {asg body asg1 body1 asg2 body2 : Code} {s1 s2 : St} {e : Ex}
  (h1 : live hp.get id g = some ⟨g0, false, [.lp 0 none fid env ps asg body]⟩) (h2 : vs.length = ps.length) (h3 : run fid asg ⟨putEs env ps vs, hp, n, c, n, []⟩ = some (.normal, s1))
  (h4 : live s1.hp.get id g = some ⟨g1, false, [.lp 0 none fid1 env1 ps1 asg1 body1]⟩) (h5 : run fid body (s1.lset id ⟨g, false, [.lp 1 none fid1 env1 ps1 asg1 body1]⟩) = some (e, s2))
  (h6 : live s2.hp.get id g = some ⟨g2, false, [.lp 1 none fid2 env2 ps2 asg2 body2]⟩) :
  callYd run id g vs hp n c = some ⟨.d (.bool (endR' e).1), (s2.lset id ⟨g, false, [.lp (endR' e).2.1 (endR' e).2.2 fid2 env2 ps2 asg2 body2]⟩).hp, s2.n, s2.c, (s2.lset id ⟨g, false, [.lp (endR' e).2.1 (endR' e).2.2 fid2 env2 ps2 asg2 body2]⟩).wl⟩ := by
 unfold callYd
 rw [h1]
 have hb : Nat.beq vs.length ps.length = true := by rw [h2]; exact Nat.beq_refl _
 simp only [hb, h3, h4, h5, h6]
 rfl

theorem live_lt {hp : Hp} {n id g : Nat} {o : Ob} (ht : Tops hp n) (h : live hp.get id g = some o) : id < n := by
 rcases Nat.lt_or_ge id n with hl | hl
 ·exact hl
 ·have := (live_spec h).1
  rw [ht id hl] at this; cases this

theorem callYd_log [Gl] {cfg : Cfg} {k : Nat} [Gl] {id g : Nat} {vs : List V} {hp : Hp} {n c : Nat} {r : CR} (h : callYd (execF P cfg k) id g vs hp n c = some r) (ht : Tops hp n) : LogOK hp n c r := by
 obtain ⟨g0, fid, env, ps, asg, body, s1, g1, fid1, env1, ps1, asg1, body1, e, s2, g2, fid2, env2, ps2, asg2, body2, h1, h2, h3, h4, h5, h6, rfl⟩ := callYd_inv h
 have l1 := execF_log h3
 have t1 := l1.top (Nat.le_refl _) ht
 have l2 := l1.trans (St.lset_log (o := ⟨g, false, [.lp 1 none fid1 env1 ps1 asg1 body1]⟩) (live_lt t1 h4))
 have l3 := l2.trans (execF_log h5)
 have t3 := l3.top (Nat.le_refl _) ht
 have l4 := l3.trans (St.lset_log (o := ⟨g, false, [.lp (endR' e).2.1 (endR' e).2.2 fid2 env2 ps2 asg2 body2]⟩) (live_lt t3 h6))
 exact ⟨l4.n, l4.c, l4.top (Nat.le_refl _) ht, fun id hid hw => (l4.wl (Nat.le_refl _) id hid hw).2, fun id hid hn => l4.stay (Nat.le_refl _) id hid hn⟩

/-- A round does what the abstract machine says. -/
theorem callYd_ok [Gl] {cfg : Cfg} {k : Nat} (hs : Sound P cfg k) {id g : Nat} {vs : List V} {hp : Hp} {n c : Nat} {r : CR} (h : callYd (execF P cfg k) id g vs hp n c = some r) (ht : Tops hp n) {S : Nat → Prop} {m : M} {xs : List Value}
  (hh : m.h = hp.get) (hi : m.iss = fun _ g => g < c) (hR : Rel S m) (hv : RVs S m vs xs) :
  ∃ (o : Ob) (b : Nat) (rec : Loop), m.h id = some o ∧ o.gen = g ∧ m.at_ id = some (b, 0) ∧ m.w.heap[b]? = some (Obj.loop rec) ∧ rec.params.size = xs.length ∧
   RoundIn (Fw none) 0 P b rec.fn (roundTmps rec.params rec.tmps xs.toArray) rec.assign rec.body m.w (fun e w' => ∃ x m', e = .returned x ∧ m'.w = w' ∧ Back S m r x m') := by
 obtain ⟨g0, fid, env, ps, asg, body, s1, g1, fid1, env1, ps1, asg1, body1, e, s2, g2, fid2, env2, ps2, asg2, body2, h1, h2, h3, h4, h5, h6, rfl⟩ := callYd_inv h
 rw [← hh] at h1
 obtain ⟨k1, b, rec, k2, k3, k4⟩ := hR.loop h1
 refine ⟨_, b, rec, k1, rfl, k2, k3, by rw [k4.ps]; simp [← h2, hv.1], roundIn_of_wpIn trivial ?_⟩
 have hin : (Fw none).inRound b = Fw (some b) := rfl
 rw [hin, k4.asg, k4.body]
 have e0 : roundTmps rec.params rec.tmps xs.toArray = (ps.zip xs).foldl (fun tmps p => tmps.setIfInBounds p.1 p.2) rec.tmps := by
  unfold roundTmps
  rw [k4.ps, List.zip_toArray, List.foldl_toArray]
 obtain ⟨q1, q2⟩ := putEs_RV ps vs xs env rec.tmps k4.env hv (fun t ht => k4.ok.2.2 t (by rw [k4.ps]; simpa using ht))
 rw [e0]
 have r0 : RS S ⟨m.w.heap.size, [], false⟩ rec.tmps.size ⟨putEs env ps vs, hp, n, c, n, []⟩ m { tmps := (ps.zip xs).foldl (fun tmps p => tmps.setIfInBounds p.1 p.2) rec.tmps, defers := [] } :=
  ⟨hh, hi, hR, q1, q2, Marks.nil (Nat.le_refl _), ht, Nat.le_refl _⟩
 refine hs h3 (k4.asg ▸ k4.ok.1) r0 (show RndAt (some b) m from ⟨_, k3⟩) fun m1 a1 r1 v1 => ?_
 show ∃ w₂, _
 rw [← r1.h] at h4
 obtain ⟨k5, b1, rec1, k6, k7, k8⟩ := r1.rel.loop h4
 have hb1 : b1 = b := by
  obtain ⟨_, _, _, p3, _⟩ := v1.live id _ k5 (by have := hR.iss id _ k1; exact this)
  rw [k2, k6] at p3
  simpa using p3
 subst hb1
 obtain ⟨m2, w2, r2, v2⟩ := r1.lset k5 k6 k7 k8 .busy none
 have hlt1 : b1 < m1.w.heap.size := block_lt k7
 have hg1 : m1.w.heap[b1] = Obj.loop rec1 := (Array.getElem?_eq_some_iff.1 k7).2
 have hst1 : rec1.state = .ready := by
  have := k8.st
  cases hq : rec1.state <;> rw [hq] at this <;> first | rfl | cases this
 refine ⟨m2.w, ?_, ?_⟩
 ·rw [w2]
  have hp1 : rec1.pending = none := k8.pend
  simp [Instr.beginRound, Instr.getLoop, getObj, setObj, Sem.run, Result.andThen, hlt1, hg1, hst1, hp1]
 refine hs h5 (k4.body ▸ k4.ok.2.1) r2 ?_ fun m3 a3 r3 v3 => ?_
 ·exact RndAt.mono (oR := some b1) (RndAt.mono (oR := some b1) ⟨_, k3⟩ v1) v2
 rw [← r3.h] at h6
 obtain ⟨k9, b3, rec3, p1, p2, p3⟩ := r3.rel.loop h6
 have hb3 : b3 = b1 := by
  obtain ⟨_, _, _, z, _⟩ := ((v1.trans v2).trans v3).live id _ k9 (by have := hR.iss id _ k1; exact this)
  rw [k2, p1] at z
  simpa using z
 subst hb3
 have hlt3 : b3 < m3.w.heap.size := block_lt p2
 have hg3 : m3.w.heap[b3] = Obj.loop rec3 := (Array.getElem?_eq_some_iff.1 p2).2
 have fin : ∀ (st : LoopState) (jump : Option Code) (bb : Bool), endR' e = (bb, loopN st, jump) → (bb = jump.isNone) → (st = if jump.isNone then .ready else .done) →
   ∃ v w', (Instr.endRound b3 jump).run P m3.w = .ok v w' ∧ (∃ x m', Ending.returned v = .returned x ∧ m'.w = w' ∧ Back S m ⟨.d (.bool (endR' e).1), (s2.lset id ⟨g, false, [.lp (endR' e).2.1 (endR' e).2.2 fid2 env2 ps2 asg2 body2]⟩).hp, s2.n, s2.c, (s2.lset id ⟨g, false, [.lp (endR' e).2.1 (endR' e).2.2 fid2 env2 ps2 asg2 body2]⟩).wl⟩ x m') := by
  intro st jump bb he hbb hst
  obtain ⟨m4, w4, r4, v4⟩ := r3.lset k9 p1 p2 p3 st jump
  rw [he]
  refine ⟨.bool bb, m4.w, ?_, _, m4, rfl, rfl, r4.rel, ((v1.trans v2).trans v3).trans v4, .d (.bool _), r4.h, r4.iss⟩
  rw [w4, hst, hbb]
  simp [Instr.endRound, Instr.getLoop, getObj, setObj, Sem.run, Result.andThen, hlt3, hg3]
 cases e with
 | normal => exact fin .ready none true rfl rfl rfl
 | exit i => exact fin .done (some (.exit i)) false rfl rfl rfl
 | ret => exact fin .done (some .ret) false rfl rfl rfl

/-! ### Deferred calls -/

theorem simple_shape {ρ : Operand → Value} {o : Oper} (hs : simpleOp o.op = true) (w : World) :
  (∃ x w', (execOp ρ o).run P w = .ok (.value x) w') ∨ (∃ w', (execOp ρ o).run P w = .ok .skip w') ∨ ∃ q w', (execOp ρ o).run P w = .halt q w' := by
 have hv : ∀ s : Sem Value, (∃ x w', (s >>= fun x => pure (Next.value x)).run P w = .ok (.value x) w') ∨ (∃ w', (s >>= fun x => pure (Next.value x)).run P w = .ok .skip w') ∨ ∃ q w', (s >>= fun x => pure (Next.value x)).run P w = .halt q w' := fun s => by
  cases h : s.run P w with
  | ok x w' => exact .inl ⟨x, w', by simp [Sem.run_bind, h]⟩
  | halt q w' => exact .inr (.inr ⟨q, w', by simp [Sem.run_bind, h]⟩)
 have hu : ∀ s : Sem Unit, (∃ x w', (s >>= fun _ => pure Next.skip).run P w = .ok (.value x) w') ∨ (∃ w', (s >>= fun _ => pure Next.skip).run P w = .ok .skip w') ∨ ∃ q w', (s >>= fun _ => pure Next.skip).run P w = .halt q w' := fun s => by
  cases h : s.run P w with
  | ok x w' => exact .inr (.inl ⟨w', by simp [Sem.run_bind, h]⟩)
  | halt q w' => exact .inr (.inr ⟨q, w', by simp [Sem.run_bind, h]⟩)
 obtain ⟨dst, op, ty, pos, af, gd⟩ := o
 cases op <;> first | (simp [simpleOp] at hs; done) | exact hv _ | exact hu _ | exact .inl ⟨_, _, rfl⟩

/-- Asked at a region's normal end alone. -/
def Nq (K : Act → World → Prop) : Exit → Act → World → Prop
 | .normal, a, w => K a w
 | _, _, _ => False

theorem simple_nodefer {o : Oper} (hs : simpleOp o.op = true) : ∀ c, o.op ≠ .defer c := fun c h => by rw [h] at hs; cases hs

theorem simple_up {oR : Option Nat} {ops : Array Oper} {o : Oper} {i : Nat} {a : Act} {w : World} {K K2 : Act → World → Prop} (ho : ops[i]? = some o) (hs : simpleOp o.op = true) (hw : Region.wanted o (yielded ops a.tmps) = true)
  (h : wpOpIn (Fw oR) 0 P ops (Nq K2) i K a w) :
  (∃ x w', (execOp a.eval o).run P w = .ok (.value x) w' ∧ K (a.put o.dst x) w') ∨ (∃ w', (execOp a.eval o).run P w = .ok .skip w' ∧ K (a.put o.dst undef) w') := by
 unfold wpOpIn at h
 simp only [ho] at h
 rw [if_pos hw] at h
 have h2 := h.2
 rw [Oper.semAt_eq _ _ _ (simple_nodefer hs)] at h2
 rcases simple_shape (P := P) (ρ := a.eval) hs w with ⟨x, w', hr⟩ | ⟨w', hr⟩ | ⟨q, w', hr⟩
 ·rw [hr, Oper.uponIn_value] at h2; exact .inl ⟨x, w', hr, h2⟩
 ·rw [hr, Oper.uponIn_skip] at h2; exact .inr ⟨w', hr, h2⟩
 ·rw [hr] at h2
  cases q <;> simp [Oper.uponIn, Nq] at h2

theorem opsS_of {ops ops' : Array Oper} (hy : yielded ops = yielded ops') {K : Act → World → Prop} {Q2 : Exit → Act → List Frame → World → Prop} {cs : List Frame} (hK : ∀ a w, K a w → Q2 .normal a cs w) :
  ∀ (l : List Nat) {a : Act} {w : World}, (∀ i, i ∈ l → ops[i]? = ops'[i]?) → (∀ i o, i ∈ l → ops[i]? = some o → simpleOp o.op = true) → wpOpsIn (Fw none) 0 P ops' (Nq K) l a w → wpOpsSIn (Fw none) 0 P ops Q2 l a cs w
 | [], a, w, _, _, h => hK a w h
 | i :: l, a, w, he, hs, h => by
  have ih : ∀ {a w}, wpOpsIn (Fw none) 0 P ops' (Nq K) l a w → wpOpsSIn (Fw none) 0 P ops Q2 l a cs w := fun h => opsS_of hy hK l (fun j hj => he j (List.mem_cons_of_mem _ hj)) (fun j o hj => hs j o (List.mem_cons_of_mem _ hj)) h
  rw [wpOpsIn_cons] at h
  unfold wpOpsSIn
  have hei := he i (List.mem_cons_self ..)
  cases ho : ops[i]? with
  | none =>
   unfold wpOpIn at h
   rw [← hei, ho] at h
   exact ih h
  | some o =>
   refine ⟨fun _ _ => trivial, ?_⟩
   rw [hy]
   have hso := hs i o (List.mem_cons_self ..) ho
   rw [ho] at hei
   by_cases hw : Region.wanted o (yielded ops' a.tmps) = true
   ·rw [if_pos hw]
    rcases simple_up hei.symm hso hw h with ⟨x, w', hr, hk⟩ | ⟨w', hr, hk⟩ <;> rw [hr]
    ·exact ih hk
    ·exact ih hk
   ·rw [if_neg hw]
    unfold wpOpIn at h
    rw [← hei] at h
    simp only [if_neg hw] at h
    exact ih h.2

theorem unRec_spec {gb : Code} {id : Nat} {ops : Array Oper} {rest : Code} (h : unRec gb = some (id, ops, rest)) : ∃ (d : Nat) (args : Array Operand) (tys : Array TypeId) (ty : TypeId) (pos : String) (af : Array Edge) (r : List Oper),
  gb = .seq (.region id (⟨some d, .call ⟨.builtin .recover, args, tys⟩, ty, pos, af, none⟩ :: r).toArray false) rest ∧ ops = (⟨some d, .move (.const .nilIface), ty, pos, af, none⟩ :: r).toArray ∧ ∀ o, o ∈ r → simpleOp o.op = true := by
 unfold unRec at h
 split at h
 ·rename_i id0 ops0 rest0
  split at h
  ·rename_i d args tys ty pos af r hl
   split at h
   ·rename_i hall
    simp only [Option.some.injEq, Prod.mk.injEq] at h
    obtain ⟨rfl, rfl, rfl⟩ := h
    refine ⟨d, args, tys, ty, pos, af, r, ?_, rfl, fun o ho => List.all_eq_true.1 hall o ho⟩
    rw [← hl]
   ·simp at h
  ·simp at h
 ·simp at h

theorem noCall_ok [Gl] : CallOK P noCall := ⟨fun h => by simp [noCall] at h, fun h => by simp [noCall] at h, fun h => by simp [noCall] at h, fun h => by simp [noCall] at h⟩
theorem noCall_bodies : Bodies P noCall := fun h => by simp [noCall] at h

theorem enter_RS [Gl] {S : Nat → Prop} {m : M} {hp : Hp} {n c N : Nat} {vs : List V} {xs : Array Value} {b : Nat} {nr : Bool} (hb : b ≤ m.w.heap.size) (hh : m.h = hp.get) (hi : m.iss = fun _ g => g < c) (hR : Rel S m) (ht : Tops hp n) (hv : RVs S m vs xs.toList) (hlen : vs.length ≤ N) :
  RS S ⟨b, [], nr⟩ N (enter vs hp n c) m { tmps := xs ++ Array.replicate (N - xs.size) undef, defers := [] } := by
 have hxl : xs.size = vs.length := hv.1.symm
 refine ⟨hh, hi, hR, fun t => ?_, by simp; omega, Marks.nil (B := ⟨b, [], nr⟩) hb, ht, Nat.le_refl _⟩
 show RV S m ((envOf 0 vs).get t) _
 rw [envOf_get, if_pos (Nat.zero_le t)]
 cases hvt : vs[t - 0]? with
 | none => exact .any _
 | some v =>
  simp only [Nat.sub_zero] at hvt
  have hlt : t < xs.size := by rw [hxl]; exact (List.getElem?_eq_some_iff.1 hvt).1
  have := hv.2 t v xs[t] hvt (by simp [hlt])
  have e : (xs ++ Array.replicate (N - xs.size) undef).getD t undef = xs[t] := by
   have h1 : t < xs.size + (N - xs.size) := by omega
   simp [Array.getD, Array.getElem_append, hlt, h1]
  show RV S m v ((xs ++ Array.replicate (N - xs.size) undef).getD t undef)
  rw [e]; exact this

/-- A deferred function does what the abstract machine says. -/
theorem defF_sound [Gl] {cfg : Cfg} {k : Nat} (hN : Pre P cfg) (hs : Sound P cfg k) {g : FuncId} {caps : List V} {s s' : St} (h : defF P cfg (execF P cfg k) g caps s = some s') {S : Nat → Prop} {m : M} (hh : m.h = s.hp.get) (hi : m.iss = fun _ g => g < s.c) (hR : Rel S m) (ht : Tops s.hp s.n)
  {cs : Array Value} (hv : RVs S m caps cs.toList) :
  (∃ gn, P.funcs[g]? = some gn ∧ gn.body.isSome = true) ∧ CallsDIn (Fw none) 0 P g cs .returning m.w (fun e u' w' => u' = .returning ∧ ∃ x m', e = .returned x ∧ m'.w = w' ∧ Rel S m' ∧ Evo S m m' ∧ m'.h = s'.hp.get ∧ m'.iss = fun _ g => g < s'.c) := by
 obtain ⟨gn, gb, id, ops, rest, t1, e, t, h1, h2, h3, h4, h5, h6, h7, h8, h9, rfl⟩ := defF_inv h
 obtain ⟨d, args, tys, ty, pos, af, r, rfl, hopsN, hsim⟩ := unRec_spec h3
 refine ⟨⟨gn, h1, by rw [h2]; rfl⟩, callsDIn_of_wpSIn (F := Fw none) h1 h2 trivial fun c0 csx hu => wpSIn_seq (wpSIn_region ?_)⟩
 have r0 := enter_RS (nr := true) (N := gn.ntmps) (Nat.le_refl m.w.heap.size) hh hi hR ht hv h4
 simp only [codeOKb, Bool.and_eq_true] at h5
 unfold runRegion at h7
 simp only [Bool.false_eq_true, if_false] at h7
 split at h7
 ·rename_i u hu2
  simp only [Option.some.injEq] at h7
  obtain ⟨σ, ρ, g0, g1, tr⟩ := runOps_trace hu2
  have g1' : σ ops.size = u := by simpa using g1
  have hdst : ∀ (i : Nat) (o : Oper) (e : Nat), ops[i]? = some o → o.dst = some e → e < gn.ntmps := fun i o e ho he => by
   have := List.all_eq_true.1 h5.1 o (by simpa using Array.mem_of_getElem? ho)
   rw [he] at this
   simp only [Bool.and_eq_true, Nat.blt_eq] at this
   exact this.2
  let K : Act → World → Prop := fun a' w => ∃ m', m'.w = w ∧ RS S ⟨m.w.heap.size, [], true⟩ gn.ntmps u m' a' ∧ Evo S m m'
  have hops : wpOpsIn (Fw none) 0 P ops (Nq K) (List.range' 0 ops.size) { tmps := cs ++ Array.replicate (gn.ntmps - cs.size) undef, defers := [] } m.w :=
   text_ops hN noCall_ok noCall_bodies tr g0 r0.n0 r0.top hdst (m0 := m) (fun m' a' k1 k2 => by rw [g1'] at k1; exact ⟨m', rfl, k1, k2⟩) ops.size 0 (by omega) (r0.start fun i hi => by simp)
  have hK : ∀ a' w, K a' w → rest.wpSIn (Fw none) 0 P (bodyPostS P gn c0 csx (fun e u' w' => u' = .returning ∧ ∃ x m', e = .returned x ∧ m'.w = w' ∧ Rel S m' ∧ Evo S m m' ∧ m'.h = t.hp.get ∧ m'.iss = fun _ g => g < t.c)) a' (c0 :: csx) w := by
   rintro a' w ⟨m', rfl, k1, k2⟩
   obtain ⟨m2, q1, q2, q3⟩ := mats_sound (cfg.mat g id) k1
   rw [← q1]
   have k3 := keepSt_sound q2 (cfg.keep g id)
   rw [h7] at k3
   refine wpSIn_of_wpIn rfl (hs h8 h5.2 k3 (show RndAt none m2 from trivial) fun m3 a3 k4 k5 => ?_)
   obtain ⟨_, rs, d1, _, d2, _⟩ := k4.defers
   have hd : a3.defers = [] := by rw [d1, d2 rfl]; rfl
   obtain ⟨x, p1, p2⟩ := results_sound (fn := gn) k4 (rs := []) (by rw [h6]; rfl)
   have fin : bodyPostS P gn c0 csx (fun e u' w' => u' = .returning ∧ ∃ x m', e = .returned x ∧ m'.w = w' ∧ Rel S m' ∧ Evo S m m' ∧ m'.h = t.hp.get ∧ m'.iss = fun _ g => g < t.c) .ret a3 (c0 :: csx) m3.w :=
    ⟨hd, .returning, by rw [← hu], x, p1, rfl, x, m3, rfl, rfl, k4.rel, (k2.trans q3).trans k5, k4.h, k4.iss⟩
   rcases h9 with rfl | rfl
   ·exact fin
   ·exact fin
  have hsz : (⟨some d, .call ⟨.builtin .recover, args, tys⟩, ty, pos, af, none⟩ :: r).toArray.size = r.length + 1 := by simp
  have hszN : ops.size = r.length + 1 := by simp [hopsN]
  rw [hsz, List.range_eq_range', List.range'_succ]
  rw [hszN, List.range'_succ, wpOpsIn_cons] at hops
  unfold wpOpsSIn
  simp only [List.getElem?_toArray, List.getElem?_cons_zero]
  refine ⟨fun _ _ => trivial, ?_⟩
  rw [if_pos (show Region.wanted (⟨some d, .call ⟨.builtin .recover, args, tys⟩, ty, pos, af, none⟩ : Oper) _ = true from rfl)]
  have hrec : (execOp ({ tmps := cs ++ Array.replicate (gn.ntmps - cs.size) undef, defers := [] } : Act).eval ⟨some d, .call ⟨.builtin .recover, args, tys⟩, ty, pos, af, none⟩).run P m.w = .ok .recover m.w := by
   simp [execOp, resolve, invoke]
   rfl
  rw [hrec]
  have hnone : recoverD (c0 :: csx) = none := by simp [recoverD, hu]
  simp only [hnone]
  rcases simple_up (o := ⟨some d, .move (.const .nilIface), ty, pos, af, none⟩) (by simp [hopsN]) rfl rfl hops with ⟨x, w', hr, hk⟩ | ⟨w', hr, hk⟩
  ·have hx : (execOp ({ tmps := cs ++ Array.replicate (gn.ntmps - cs.size) undef, defers := [] } : Act).eval ⟨some d, .move (.const .nilIface), ty, pos, af, none⟩).run P m.w = .ok (.value .nilIface) m.w := rfl
   rw [hx] at hr
   simp only [Result.ok.injEq, Next.value.injEq] at hr
   obtain ⟨rfl, rfl⟩ := hr
   refine opsS_of (ops' := ops) ?_ hK _ ?_ ?_ hk
   ·funext tm i
    unfold yielded
    cases i with
    | zero => simp [hopsN]
    | succ i => simp [hopsN]
   ·intro i hi
    obtain ⟨j, _, rfl⟩ := List.mem_range'.1 hi
    simp [hopsN, Nat.add_comm 1]
   ·intro i o hi ho
    obtain ⟨j, _, rfl⟩ := List.mem_range'.1 hi
    simp [Nat.add_comm 1] at ho
    exact hsim o (List.mem_of_getElem? ho)
  ·have hx : (execOp ({ tmps := cs ++ Array.replicate (gn.ntmps - cs.size) undef, defers := [] } : Act).eval ⟨some d, .move (.const .nilIface), ty, pos, af, none⟩).run P m.w = .ok (.value .nilIface) m.w := rfl
   rw [hx] at hr
   simp at hr
 ·simp at h7

theorem deferOf_spec {c : Code} {id : Nat} {mk : Oper} {fo : Operand} (h : deferOf c = some (id, mk, fo)) : ∃ (tys : Array TypeId) (ty : TypeId) (pos : String) (af : Array Edge),
  c = .region id #[mk, ⟨none, .defer ⟨.value fo, #[], tys⟩, ty, pos, af, none⟩] false ∧ mk.guard = none ∧ simpleOp mk.op = true := by
 unfold deferOf at h
 split at h
 ·rename_i id0 ops0
  split at h
  ·rename_i mk0 fo0 args tys ty pos af hl
   split at h
   ·rename_i ha hg hs
    simp only [Option.some.injEq, Prod.mk.injEq] at h
    obtain ⟨rfl, rfl, rfl⟩ := h
    have hargs : args = #[] := by
     cases args; simp only at ha; rw [ha]
    subst hargs
    refine ⟨tys, ty, pos, af, ?_, hg, hs⟩
    congr 1
    apply Array.ext'
    rw [hl]
   ·simp at h
  ·simp at h
 ·simp at h

/-- What an activation hands back, once its deferred calls have been made. -/
theorem leave_sound [Gl] {cfg : Cfg} {f : FuncId} {fn : Func} {n : Nat} {e : Ex} {s : St} {r : CR} (h : leave P cfg f fn n (some (e, s)) = some r) {S : Nat → Prop} {m m' : M} {a' : Act} (k1 : RS S ⟨m.w.heap.size, [], false⟩ fn.ntmps s m' a') (k2 : Evo S m m') :
  LeavesInM (Fw none) 0 P fn a'.tmps (fun e w' => ∃ x m', e = .returned x ∧ m'.w = w' ∧ Back S m r x m') a'.defers .returning m'.w := by
 obtain ⟨_, rs0, h7, h8⟩ := leave_inv h
 obtain ⟨_, rs, d1, d2, _, d3⟩ := k1.defers
 rw [d1]
 refine leaves_marks rs m'.w d2 (fun r hr => (d3 r hr).2) fun w' e1 e2 e3 => ?_
 have hrow : ∀ b, (∀ ds, m'.w.heap[b]? ≠ some (Obj.deferred ds)) → w'.heap[b]? = m'.w.heap[b]? := fun b hb => e1 b fun hr => hb _ (d3 b hr).2
 obtain ⟨g1, g2⟩ := k1.rel.shut e2 hrow
 have k1' : RS S ⟨m.w.heap.size, [], false⟩ fn.ntmps s { m' with w := w' } { a' with defers := [] } := ⟨k1.h, k1.iss, g1, fun t => (k1.env t).tr2 g2, k1.size, Marks.nil (B := ⟨m.w.heap.size, [], false⟩) (by show _ ≤ w'.heap.size; rw [e2]; exact k2.size), k1.top, k1.n0⟩
 have k2' : Evo S m { m' with w := w' } := k2.shut e2 (fun b hb => e1 b fun hr => by have : m.w.heap.size ≤ b := (d3 b hr).1; omega) e3
 obtain ⟨x, g3, g4⟩ := results_sound k1' h7
 obtain ⟨m2, q1, q2, q3, q4, q5, q6⟩ := finish_sound k1' g4 h8
 exact ⟨x, g3, x, m2, rfl, q1, q2, k2'.trans q3, q4, q5, q6⟩

/-- A body that defers one call. -/
theorem runD_sound [Gl] {cfg : Cfg} {k : Nat} (hN : Pre P cfg) (hs : Sound P cfg k) {f : FuncId} {N b : Nat} {S : Nat → Prop} : ∀ {c : Code} {s s' : St} {e : Ex} {d : Option (FuncId × List V)}, runD P cfg (execF P cfg k) f c s = some (e, s', d) → spineOK N c = true →
  ∀ {m : M} {a : Act}, RS S ⟨b, [], false⟩ N s m a → ∀ {Q : Exit → Act → World → Prop},
   (∀ m' a', Evo S m m' → (d = none → RS S ⟨b, [], false⟩ N s' m' a') →
    (∀ g caps, d = some (g, caps) → ∃ (b' : Nat) (rs : List Nat) (cs : Array Value), RS S ⟨b', { target := .fn (.func g) cs, args := #[] } :: rs.map mark, false⟩ N s' m' a' ∧ RVs S m' caps cs.toList ∧ Marks ⟨b, [], false⟩ m' (rs.map mark) ∧ (∀ r, r ∈ rs → r < b') ∧ b ≤ b') → Q e.toExit a' m'.w) →
   c.wpIn (Fw none) 0 P Q a m.w := by
 intro c
 induction c with
 | seq x y ihx ihy =>
  intro s s' e d h hok m a hr Q hQ
  simp only [runD] at h
  simp only [spineOK] at hok
  split at h
  ·rename_i id mk fo hd
   rw [hd] at hok
   simp only [Bool.and_eq_true] at hok
   obtain ⟨tys, ty, pos, af, rfl, hgd, hsim⟩ := deferOf_spec hd
   split at h
   ·rename_i s1 h1
    split at h
    ·rename_i g caps hfo
     split at h
     ·rename_i e2 s2 h2
      simp only [Option.some.injEq, Prod.mk.injEq] at h; obtain ⟨rfl, rfl, rfl⟩ := h
      refine wpIn_seq (wpIn_region ?_)
      unfold runRegion at h1
      simp only [Bool.false_eq_true, if_false] at h1
      split at h1
      ·rename_i u hu2
       simp only [Option.some.injEq] at h1
       obtain ⟨σ, ρ, g0, g1, tr⟩ := runOps_trace hu2
       have g1' : σ (#[mk] : Array Oper).size = u := by simpa using g1
       have hdst : ∀ (i : Nat) (o : Oper) (e : Nat), (#[mk] : Array Oper)[i]? = some o → o.dst = some e → e < N := fun i o e ho he => by
        have := List.all_eq_true.1 hok.1 o (by simpa using Array.mem_of_getElem? ho)
        rw [he] at this
        simp only [Bool.and_eq_true, Nat.blt_eq] at this
        exact this.2
       let K : Act → World → Prop := fun a' w => ∃ m', m'.w = w ∧ RS S ⟨b, [], false⟩ N u m' a' ∧ Evo S m m'
       have hops : wpOpsIn (Fw none) 0 P #[mk] (Nq K) (List.range' 0 1) a m.w :=
        text_ops hN noCall_ok noCall_bodies tr g0 hr.n0 hr.top hdst (m0 := m) (fun m' a' k1 k2 => by rw [g1'] at k1; exact ⟨m', rfl, k1, k2⟩) 1 0 (by simp) (hr.start fun i hi => by simp)
       rw [show List.range' 0 1 = [0] from rfl, wpOpsIn_cons] at hops
       have hwm : ∀ y, Region.wanted mk y = true := fun y => by simp [Region.wanted, hgd]
       have rest : ∀ a1 w1, K a1 w1 → wpOpsIn (Fw none) 0 P #[mk, ⟨none, .defer ⟨.value fo, #[], tys⟩, ty, pos, af, none⟩] (Exit.then (y.wpIn (Fw none) 0 P Q) Q) [1] a1 w1 := by
        rintro a1 w1 ⟨m1, rfl, k1, k2⟩
        obtain ⟨m2, q1, q2, q3⟩ := mats_sound (cfg.mat f id) k1
        rw [← q1]
        have k3 := keepSt_sound q2 (cfg.keep f id)
        rw [h1] at k3
        have hq : RV S m2 (evalV s1.env fo) (a1.eval fo) := by
         have : EnvAt S m2 s1.env a1 (match fo with | .tmp t => [t] | _ => []) := fun t _ => k3.env t
         exact evalV_RV k3.rel this fun t ht => by subst ht; simp
        rw [hfo] at hq
        generalize hv : a1.eval fo = v at hq
        cases hq with
        | @fn _ _ cs hl hcs =>
         rw [wpOpsIn_cons]
         unfold wpOpIn
         simp only [show (#[mk, ⟨none, .defer ⟨.value fo, #[], tys⟩, ty, pos, af, none⟩] : Array Oper)[1]? = some ⟨none, .defer ⟨.value fo, #[], tys⟩, ty, pos, af, none⟩ from rfl]
         rw [if_pos (show Region.wanted (⟨none, .defer ⟨.value fo, #[], tys⟩, ty, pos, af, none⟩ : Oper) _ = true from rfl)]
         refine ⟨fun _ _ => trivial, ?_⟩
         have hrun : (execOp a1.eval ⟨none, .defer ⟨.value fo, #[], tys⟩, ty, pos, af, none⟩).run P m2.w = .ok (.defer { target := .fn (.func g) cs, args := #[] }) m2.w := by
          simp [execOp, resolve, hv, Deferred.ofValue]
         rw [show (Fw none).round = none from rfl, Oper.semAt_none, hrun, Oper.uponIn_defer]
         have hvs : RVs S m2 caps cs.toList := ⟨by simpa using hl, fun j x z hx hz => hcs j x z hx (by simpa using hz)⟩
         obtain ⟨hb0, rs, d1, d2, d4, d3⟩ := k3.defers
         simp only [List.append_nil] at d1
         have r4 : RS S ⟨m2.w.heap.size, { target := .fn (.func g) cs, args := #[] } :: rs.map mark, false⟩ N s1 m2 { a1 with defers := { target := .fn (.func g) cs, args := #[] } :: a1.defers } :=
          ⟨k3.h, k3.iss, k3.rel, k3.env, k3.size, by rw [d1]; exact Marks.nil (B := ⟨m2.w.heap.size, _, false⟩) (Nat.le_refl _), k3.top, k3.n0⟩
         refine hs h2 hok.2 r4 (show RndAt none m2 from trivial) fun m' a' p1 p2 => ?_
         refine hQ m' a' ((k2.trans q3).trans p2) (fun h => by cases h) fun g' caps' hg => ?_
         simp only [Option.some.injEq, Prod.mk.injEq] at hg
         obtain ⟨rfl, rfl⟩ := hg
         exact ⟨m2.w.heap.size, rs, cs, p1, ⟨hvs.1, fun j x z hx hz => (hvs.2 j x z hx hz).mono p2⟩, Marks.mono (S := S) ⟨hb0, rs, by simp, d2, fun h => (by cases h), d3⟩ p2, fun r hr => block_lt (d3 r hr).2, hb0⟩
       show wpOpsIn (Fw none) 0 P #[mk, ⟨none, .defer ⟨.value fo, #[], tys⟩, ty, pos, af, none⟩] _ [0, 1] a m.w
       rw [wpOpsIn_cons]
       unfold wpOpIn
       simp only [show (#[mk, ⟨none, .defer ⟨.value fo, #[], tys⟩, ty, pos, af, none⟩] : Array Oper)[0]? = some mk from rfl]
       rw [if_pos (hwm _)]
       refine ⟨fun _ _ => trivial, ?_⟩
       rw [Oper.semAt_eq _ _ _ (simple_nodefer hsim)]
       rcases simple_up (o := mk) rfl hsim (hwm _) hops with ⟨x, w', hrn, hk⟩ | ⟨w', hrn, hk⟩
       ·rw [hrn, Oper.uponIn_value]; exact rest _ _ hk
       ·rw [hrn, Oper.uponIn_skip]; exact rest _ _ hk
      ·simp at h1
     ·simp at h
    ·simp at h
   ·simp at h
  ·rename_i hd
   rw [hd] at hok
   simp only [Bool.and_eq_true] at hok
   split at h
   ·rename_i s1 h1
    refine wpIn_seq (hs h1 hok.1 hr (show RndAt none m from trivial) fun m1 a1 k1 k2 => ?_)
    exact ihy h hok.2 k1 fun m' a' q1 q2 q3 => hQ m' a' (k2.trans q1) q2 q3
   ·rename_i e1 s1 hne h1
    simp only [Option.some.injEq, Prod.mk.injEq] at h; obtain ⟨rfl, rfl, rfl⟩ := h
    refine wpIn_seq (hs h1 hok.1 hr (show RndAt none m from trivial) fun m1 a1 k1 k2 => ?_)
    have := hQ m1 a1 k2 (fun _ => k1) (fun _ _ h => by cases h)
    cases e1 with
    | normal => exact absurd rfl hne
    | exit id => exact this
    | ret => exact this
   ·simp at h
 | _ => intro s s' e d h; simp [runD] at h

theorem callBy_ok [Gl] {cfg : Cfg} {k : Nat} (hN : Pre P cfg) (hs : Sound P cfg k) : CallOK P (callBy P cfg (execF P cfg k)) where
 ylog := fun h ht => callYd_log h ht
 yok := fun h ht _ _ _ hh hi hR hv => callYd_ok hs h ht hh hi hR hv
 log := fun h ht => (callFn_log (P := P) (cfg := cfg) (run := execF P cfg k) (fun h => execF_log h) h).ok ht
 ok := by
  intro f vs hp n c r h ht S m xs hh hi hR hv
  obtain ⟨fn, body, h1, h2, h3, h4⟩ := callBy_inv h
  refine callsIn_Fw.1 (callsIn_of_wp_marks (F := Fw none) (n := 0) h1 h2 trivial ?_)
  have h0 := enter_RS (nr := false) (N := fn.ntmps) (xs := xs.toArray) (Nat.le_refl m.w.heap.size) hh hi hR ht (by simpa using hv) h3
  rcases h4 with ⟨h4, e, s, h5, h6⟩ | ⟨h4, e, s, d, h5, h6⟩
  ·refine hs h5 h4 h0 (show RndAt none m from trivial) fun m' a' k1 k2 => ?_
   have := leave_sound h6 k1 k2
   rcases (leave_inv h6).1 with rfl | rfl <;> exact this
  ·refine runD_sound hN hs h5 h4 h0 fun m' a' k2 k3 k4 => ?_
   rcases h6 with ⟨rfl, h6⟩ | ⟨g, caps, s', rfl, he, h7, h6⟩
   ·have := leave_sound h6 (k3 rfl) k2
    rcases (leave_inv h6).1 with rfl | rfl <;> exact this
   ·obtain ⟨b', rs1, cs, r1, r2, r3, r4, r5⟩ := k4 g caps rfl
    have fin : LeavesInM (Fw none) 0 P fn a'.tmps (fun e w' => ∃ x m', e = .returned x ∧ m'.w = w' ∧ Back S m r x m') a'.defers .returning m'.w := by
     obtain ⟨hb, rs, d1, d2, _, d3⟩ := r1.defers
     rw [d1]
     refine leaves_marksD rs m'.w d2 (fun r hr => (d3 r hr).2) fun w' e1 e2 e3 => ?_
     have hrow : ∀ b, (∀ ds, m'.w.heap[b]? ≠ some (Obj.deferred ds)) → w'.heap[b]? = m'.w.heap[b]? := fun b hb => e1 b fun hr => hb _ (d3 b hr).2
     obtain ⟨g1, g2⟩ := r1.rel.shut e2 hrow
     have hmk : Marks ⟨m.w.heap.size, [], false⟩ { m' with w := w' } (rs1.map mark) := by
      obtain ⟨q0, q1, q2, q3, q4, q5⟩ := r3
      have hq1 : q1 = rs1 := by
       have : q1.map mark = rs1.map mark := by rw [q2]; simp
       exact (List.map_inj_right (fun x y h => by unfold mark at h; injection h with h; injection h)).1 this
      subst hq1
      refine ⟨by show _ ≤ w'.heap.size; rw [e2]; exact q0, q1, by simp, q3, fun h => (by cases h), fun r hr => ⟨(q5 r hr).1, ?_⟩⟩
      show w'.heap[r]? = _
      rw [e1 r fun hm => by have := (d3 r hm).1; have := r4 r hr; simp only at *; omega]
      exact (q5 r hr).2
     have v2 : RVs S { m' with w := w' } caps cs.toList := ⟨r2.1, fun j x y hx hy => (r2.2 j x y hx hy).tr2 g2⟩
     have k2' : Evo S m { m' with w := w' } := k2.shut e2 (fun b hb => e1 b fun hr => by have : b' ≤ b := (d3 b hr).1; omega) e3
     obtain ⟨⟨gn, hgn, hgb⟩, hcd⟩ := defF_sound hN hs h7 (m := { m' with w := w' }) r1.h r1.iss g1 r1.top v2
     refine ⟨by simp, .inr ⟨fun h => by simp [Fw, Fence.wide] at h, .func g, cs, g, #[] ++ cs, rfl, ?_, fun _ _ => trivial, ?_⟩⟩
     ·simp only [invoke]
      exact callFunc_run hN.nc hgn hgb
     ·have ecs : (#[] ++ cs : Array Value) = cs := by simp
      rw [ecs]
      refine CallsDIn.mono hcd ?_
      rintro e9 u' w9 ⟨rfl, x, m3, rfl, rfl, p1, p2, p3, p4⟩
      have hlog := defF_log (P := P) (cfg := cfg) (run := execF P cfg k) (fun h => execF_log h) h7
      have r6 : RS S ⟨m.w.heap.size, [], false⟩ fn.ntmps s' m3 { a' with defers := rs1.map mark } :=
       ⟨p3, p4, p1, fun t => by
        obtain ⟨_, _, _, _, _, _, _, _, _, _, _, _, _, _, _, _, _, rfl⟩ := defF_inv h7
        exact ((r1.env t).tr2 g2).mono p2, r1.size, hmk.mono p2, hlog.top r1.n0 r1.top, by
        have := hlog.n0; have := hlog.n; have := r1.n0; omega⟩
      exact leave_sound h6 r6 (k2'.trans p2)
    rcases he with rfl | rfl <;> exact fin

section
variable {oR : Option Nat} {S : Nat → Prop} {B : Bs} {m : M} {s : St} {N : Nat} {a : Act}

/-- The record of a loop is laid. -/
theorem enter_sound [Gl] (hr : RS S B N s m a) (hro : RndAt oR m) (hnr : B.nr = false) (ps : Array Tmp) (asg body : Code) :
  ∃ (db : Nat) (mk : List Deferred) (m0 : M), m0.h = m.h ∧ m0.iss = m.iss ∧ Rel S m0 ∧ Evo S m m0 ∧ (∀ m', Evo S m0 m' → Marks B m' (mk ++ a.defers)) ∧
   ∀ fn, (Instr.enterLoop fn a.tmps ps asg body oR).run P m.w = .ok (m0.w.heap.size, mk) { m0.w with heap := m0.w.heap.push (Obj.loop { state := .ready, pending := none, fn, tmps := a.tmps, params := ps, assign := asg, body, defers := db }) } := by
 cases oR with
 | some l =>
  obtain ⟨r, h1⟩ := hro
  have hlt : l < m.w.heap.size := block_lt h1
  have hg : m.w.heap[l] = Obj.loop r := (Array.getElem?_eq_some_iff.1 h1).2
  refine ⟨r.defers, [], m, rfl, rfl, hr.rel, .refl S m, fun m' e => hr.defers.mono e, fun fn => ?_⟩
  simp [Instr.enterLoop, Instr.getLoop, getObj, newObj, Sem.run, Result.andThen, hlt, hg]
 | none =>
  obtain ⟨g1, g2⟩ := hr.rel.grown (w' := { m.w with heap := m.w.heap.push (Obj.deferred (some [])) }) (by simp) (fun b hb => by
   show (m.w.heap.push _)[b]? = _
   rw [Array.getElem?_push_lt hb]; simp [hb]) ⟨rfl, rfl, fun ad had => by
    simp [World.frozen?, Array.getElem?_push_lt had, had]⟩
  refine ⟨m.w.heap.size, [mark m.w.heap.size], { m with w := { m.w with heap := m.w.heap.push (Obj.deferred (some [])) } }, rfl, rfl, g1, g2, fun m' e => ?_, fun fn => ?_⟩
  ·obtain ⟨h0, rs, h1, h2, _, h3⟩ := hr.defers
   refine ⟨Nat.le_trans h0 (g2.trans e).size, m.w.heap.size :: rs, by rw [h1]; rfl, List.nodup_cons.2 ⟨fun hm => ?_, h2⟩, fun hb => by rw [hnr] at hb; (cases hb), fun r hm => ?_⟩
   ·have := block_lt (h3 _ hm).2; omega
   ·rcases List.mem_cons.1 hm with rfl | hm
    ·exact ⟨h0, e.dfr _ (by show (m.w.heap.push _)[_]? = _; simp)⟩
    ·exact ⟨(h3 r hm).1, (g2.trans e).dfr _ (h3 r hm).2⟩
  ·simp [Instr.enterLoop, newObj, Sem.run, Result.andThen, mark]
   exact ⟨rfl, rfl, rfl⟩

theorem range_wp [Gl] {call : CallF} (hN : NoCount P) (hc : CallOK P call) (hB : Bodies P call) {fid : Nat} {g : Operand} {ps : Array Tmp} {asg body : Code} {t : St} {e : Ex}
  (h : rangeR call fid (evalV s.env g) ps.toList asg body s = some (e, t)) (hok : codeOKb B.nr N (.rangeFunc g ps asg body) = true) (hr : RS S B N s m a) (hro : RndAt oR m)
  {Q : Exit → Act → World → Prop} (hQ : ∀ m' a', RS S B N t m' a' → Evo S m m' → Q e.toExit a' m'.w) : (Code.rangeFunc g ps asg body).wpIn (Fw oR) 0 P Q a m.w := by
 obtain ⟨f, caps, r, g0, st, pend, fid', env', ps', asg', body', hg, hcall, hlv, hst, hpend, rfl⟩ := rangeR_inv h
 have hq : RV S m (evalV s.env g) (a.eval g) := by
  have : EnvAt S m s.env a (match g with | .tmp t => [t] | _ => []) := fun t _ => hr.env t
  exact evalV_RV hr.rel this fun t ht => by subst ht; simp
 rw [hg] at hq
 generalize hv : a.eval g = v at hq
 cases hq with
 | @fn _ _ cs hl hcs =>
  obtain ⟨fn0, hfn, hbody⟩ := hB hcall
  simp only [codeOKb, Bool.and_eq_true, List.all_eq_true, Bool.not_eq_true'] at hok
  obtain ⟨db, mk, m0, a1, a2, a3, a4, a5, a6⟩ := enter_sound (P := P) hr hro hok.1.1.1 ps asg body
  refine wpIn_rangeFunc fun fn _ => ?_
  obtain ⟨m1, w1, w2, w3, w4, w5, w6⟩ := alloc_sp (S := S) (m := m0) a3 (id := s.n) (o' := ⟨s.c, false, [.lp 0 none fid s.env ps.toList asg body]⟩) (c := s.c)
   (ob := Obj.loop { state := .ready, pending := none, fn, tmps := a.tmps, params := ps, assign := asg, body, defers := db })
   (w' := { m0.w with heap := m0.w.heap.push (Obj.loop { state := .ready, pending := none, fn, tmps := a.tmps, params := ps, assign := asg, body, defers := db }) }) rfl trivial
   (by rw [a2, hr.iss]; show ¬ s.c < s.c; omega) rfl
   (fun m' e' hm => ⟨rfl, _, hm, rfl, rfl, by simp, rfl, rfl, fun t => (hr.env t).mono (a4.trans e'), by
    show codeOK a.tmps.size asg = true ∧ codeOK a.tmps.size body = true ∧ _
    rw [hr.size]
    exact ⟨hok.1.2, hok.2, fun t ht => by have := hok.1.1.2 t ht; rwa [Nat.blt_eq] at this⟩⟩)
  have e1 : Evo S m m1 := a4.trans w6
  have hh1 : m1.h = (s.hp.set s.n ⟨s.c, false, [.lp 0 none fid s.env ps.toList asg body]⟩).get := by rw [w2, a1, hr.h]; exact (hp_get_set _ _ _).symm
  have hi1 : m1.iss = fun _ g => g < s.c + 1 := by rw [w4, a2, hr.iss]; funext _ g; apply propext; show g < s.c ∨ _ ↔ _; omega
  have ht1 : Tops (s.hp.set s.n ⟨s.c, false, [.lp 0 none fid s.env ps.toList asg body]⟩) (s.n + 1) := fun id hid => by
   rw [hp_get_set, upd_ne _ _ (by omega)]; exact hr.top id (by omega)
  have hat1 : m1.at_ s.n = some (m0.w.heap.size, 0) := by rw [w3, upd_same]
  have hvs : RVs S m1 (.yd s.n s.c :: caps) (.func (.yield m0.w.heap.size) #[] #[] :: cs.toList) := by
   refine .cons (.yd (by rw [hi1]; show s.c < s.c + 1; omega) rfl fun o ho hgo => ⟨?_, _, hat1, rfl⟩) ⟨by simpa using hl, fun j x y hx hy => (hcs j x y hx (by simpa using hy)).mono e1⟩
   rw [w2, upd_same] at ho
   simp only [Option.some.injEq] at ho
   subst ho; rfl
  have hok1 := hc.ok hcall ht1 hh1 hi1 w5 hvs
  have hlog := hc.log hcall ht1
  refine ⟨m0.w.heap.size, mk, m1.w, { target := .fn (.func f) cs, args := #[] ++ #[.func (.yield m0.w.heap.size) #[] #[]] }, m1.w, f, (#[] ++ #[.func (.yield m0.w.heap.size) #[] #[]]) ++ cs, m1.w, ?_, ?_, fun _ _ => trivial, ?_, fun h => by simp [Fw, Fence.wide] at h, ?_⟩
  ·rw [w1]; exact a6 fn
  ·simp [resolve, hv, Deferred.ofValue]
   rfl
  ·simp only [invoke]
   exact callFunc_run hN hfn hbody
  ·have e0 : (Value.func (.yield m0.w.heap.size) #[] #[] :: cs.toList).toArray = (#[] ++ #[.func (.yield m0.w.heap.size) #[] #[]]) ++ cs := by
    apply Array.ext'; simp
   rw [e0] at hok1
   refine callsIn_Fw.2 (Calls.mono hok1 ?_)
   rintro e9 w9 ⟨x, m2, rfl, rfl, k1, k2, k3, k4, k5⟩
   have hlv2 : live m2.h s.n s.c = some ⟨g0, false, [.lp st pend fid' env' ps' asg' body']⟩ := by rw [k4]; exact hlv
   obtain ⟨q1, b2, rec2, q2, q3, q4⟩ := k1.loop hlv2
   have hb2 : b2 = m0.w.heap.size := by
    obtain ⟨_, _, _, z, _⟩ := k2.live s.n _ q1 (by rw [hi1]; show s.c < s.c + 1; omega)
    rw [hat1, q2] at z
    simpa using z
   subst hb2
   let s2 : St := { env := s.env, hp := r.hp, n := r.n, c := r.c, n0 := s.n0, wl := [] }
   have hln : s.n + 1 ≤ r.n := hlog.le_n
   have r2 : RS S B N s2 m2 { a with defers := mk ++ a.defers } := ⟨k4, k5, k1, fun t => ((hr.env t).mono e1).mono k2, hr.size, a5 m2 (w6.trans k2), hlog.top, by have := hr.n0; show s.n0 ≤ r.n; omega⟩
   obtain ⟨m3, p1, p2, p3⟩ := r2.lset q1 q2 q3 q4 .exhausted pend
   have hlt2 : m0.w.heap.size < m2.w.heap.size := block_lt q3
   have hg2 : m2.w.heap[m0.w.heap.size] = Obj.loop rec2 := (Array.getElem?_eq_some_iff.1 q3).2
   have hnb : ¬ rec2.state = LoopState.busy := by
    have := q4.st
    intro hs; rw [hs] at this; exact hst this.symm
   have hget : ∀ id o, (Hp.drop s.n r.hp).get id = some o → m3.h id = some o := fun id o ho => by
    rw [drop_get] at ho
    split at ho
    ·cases ho
    ·rename_i hne
     rw [p2.h]
     show (r.hp.set s.n _).get id = some o
     rw [hp_get_set, upd_ne _ _ hne]; exact ho
   obtain ⟨z1, z2⟩ := p2.rel.less hget
   have r4 : RS S B N { env := s.env, hp := Hp.drop s.n r.hp, n := r.n, c := r.c, n0 := s.n0, wl := addNew s.n0 s.wl (r.wl.map fun i => (i, default)) } { m3 with h := (Hp.drop s.n r.hp).get } { a with defers := mk ++ a.defers } :=
    ⟨rfl, p2.iss, z1, fun t => (p2.env t).mono z2, p2.size, p2.defers.mono z2, fun id hid => by
     show (Hp.drop s.n r.hp).get id = none
     rw [drop_get]
     split
     ·rfl
     ·exact hlog.top id hid, by have := hr.n0; show s.n0 ≤ r.n; omega⟩
   have ev : Evo S m { m3 with h := (Hp.drop s.n r.hp).get } := ((e1.trans k2).trans p3).trans z2
   refine ⟨rec2.pending, m3.w, ?_, ?_⟩
   ·rw [p1]
    simp [Instr.endLoop, Instr.getLoop, getObj, setObj, Sem.run, Result.andThen, hlt2, hg2, hnb]
    rw [q4.pend]
   ·rw [q4.pend, ← hpend]
    have hQ' := hQ _ _ r4 ev
    cases e with
    | normal => exact hQ'
    | exit i => exact wpIn_exit hQ'
    | ret => exact wpIn_ret hQ'

end

/-! ### Loops over a map, in any order -/

section
variable {oR : Option Nat} {S : Nat → Prop} {B : Bs} {m : M} {s : St} {N : Nat} {a : Act}

/-- A slot is written. -/
theorem RS.put [Gl] (h : RS S B N s m a) {d : Nat} {q : Res} {x : Value} {m1 : M} (hA : After S m s.c q x m1) (hd : d < N) (hdn : q.dn = 0) (hwr : q.wr.all (fun p => Nat.blt p.1 s.n) = true) : RS S B N (s.put (some d) q) m1 (a.put (some d) x) := by
 obtain ⟨k1, k2, k3, k4, k5⟩ := hA
 have hlog : Log s (s.put (some d) q) := Log.put (by rw [hdn]; exact hwr)
 refine ⟨?_, ?_, k1, fun t => ?_, by simp [Act.put, h.size], h.defers.mono k2, hlog.top h.n0 h.top, ?_⟩
 ·rw [k4, h.h]; show _ = (s.hp.sets q.wr).get; rw [hp_get_sets]
 ·rw [k5, h.iss]; funext _ g; apply propext; show _ ↔ g < s.c + q.dc; omega
 ·show RV S m1 (Env.get ((d, q.v) :: s.env) t) _
  rw [env_get_cons]
  by_cases ht : t = d
  ·subst ht
   simp only [upd_same, Act.put]
   have : (a.tmps.setIfInBounds t x).getD t undef = x := by simp [h.size, hd]
   rw [this]; exact k3
  ·rw [upd_ne _ _ ht]
   simp only [Act.put]
   have : (a.tmps.setIfInBounds d x).getD t undef = a.tmps.getD t undef := by simp [Array.getElem?_setIfInBounds_ne (Ne.symm ht)]
   rw [this]; exact (h.env t).mono k2
 ·show s.n0 ≤ s.n + q.dn
  have := h.n0; omega

theorem wpOps_congr {oR : Option Nat} {ops ops' : Array Oper} {Q : Exit → Act → World → Prop} (hy : yielded ops = yielded ops') : ∀ (l : List Nat) (a : Act) (w : World), (∀ i, i ∈ l → ops[i]? = ops'[i]?) → wpOpsIn (Fw oR) 0 P ops Q l a w = wpOpsIn (Fw oR) 0 P ops' Q l a w
 | [], a, w, _ => rfl
 | i :: r, a, w, h => by
  have ih : wpOpsIn (Fw oR) 0 P ops Q r = wpOpsIn (Fw oR) 0 P ops' Q r := by funext a w; exact wpOps_congr hy r a w fun j hj => h j (List.mem_cons_of_mem _ hj)
  simp only [wpOpsIn, h i (List.mem_cons_self ..), ih, hy]

theorem handed_size (ops : Array Oper) (d : Nat) : (handed ops d).size = ops.size := by simp [handed]
theorem handed_get {ops : Array Oper} {d i : Nat} (h : i ≠ 0) : (handed ops d)[i]? = ops[i]? := by
 unfold handed; rw [Array.getElem?_setIfInBounds_ne (Ne.symm h)]
theorem handed_zero {ops : Array Oper} {d : Nat} (h : 0 < ops.size) : (handed ops d)[0]? = some ⟨some d, .move (.tmp d), 0, "", #[], none⟩ := by
 unfold handed; simp [h]
theorem handed_yielded {ops : Array Oper} {d : Nat} {o : Oper} (h : ops[0]? = some o) (hd : o.dst = some d) : yielded ops = yielded (handed ops d) := by
 have h0 : 0 < ops.size := (Array.getElem?_eq_some_iff.1 h).1
 funext tmps i
 unfold yielded
 by_cases hi : i = 0
 ·subst hi
  rw [h, handed_zero h0]
  simp [hd]
 ·rw [handed_get hi]

/-- The first operation of a region whose entry has been handed out changes nothing. -/
theorem wpOps_first {oR : Option Nat} {ops : Array Oper} {d : Nat} {l : List Nat} {Q : Exit → Act → World → Prop} (h0 : ops[0]? = some ⟨some d, .move (.tmp d), 0, "", #[], none⟩) (hd : d < a.tmps.size) {w : World} (h : wpOpsIn (Fw oR) 0 P ops Q (0 :: l) a w) : wpOpsIn (Fw oR) 0 P ops Q l a w := by
 simp only [wpOpsIn, h0] at h
 have hw : Region.wanted ⟨some d, .move (.tmp d), 0, "", #[], none⟩ (yielded ops a.tmps) = true := rfl
 rw [if_pos hw] at h
 have hput : a.put (some d) (a.eval (.tmp d)) = a := by
  obtain ⟨ts, df⟩ := a
  simp only [Act.put, Act.eval]
  congr 1
  have hd' : d < ts.size := hd
  have e : ts.getD d undef = ts[d] := by simp [Array.getD, hd']
  rw [e, Array.setIfInBounds_def, dif_pos hd']
  simp
 have h2 := h.2
 rw [Oper.semAt_eq _ _ _ (fun c hc => by cases hc)] at h2
 have h' : wpOpsIn (Fw oR) 0 P ops Q l (a.put (some d) (a.eval (.tmp d))) w := h2
 rwa [hput] at h'

variable {cfg : Cfg} {fid : FuncId} {k : Nat}

/-- A round, once the entry has been handed out. -/
theorem round_wp [Gl] (hN : Pre P cfg) (hc : CallOK P (callBy P cfg (execF P cfg k))) (hS : ∀ {s s' : St} {e : Ex} {m : M} {a : Act} {rest : Code}, execF P cfg k fid rest s = some (e, s') → codeOKb B.nr N rest = true → RS S B N s m a → RndAt oR m → ∀ {Q : Exit → Act → World → Prop}, (∀ m' a', RS S B N s' m' a' → Evo S m m' → Q e.toExit a' m'.w) → rest.wpIn (Fw oR) 0 P Q a m.w)
  {rid t d : Nat} {ops : Array Oper} {rest : Code} {ty : TypeId} {pos : String} {af : Array Edge} (h0 : ops[0]? = some ⟨some d, .next (.tmp t) false, ty, pos, af, none⟩)
  (hok : codeOKb B.nr N (.seq (.region rid ops false) rest) = true) (h : RS S B N s m a) (hro : RndAt oR m) {q : Res} {x : Value} {m1 : M} (hA : After S m s.c q x m1) (hdn : q.dn = 0) (hwr : q.wr.all (fun p => Nat.blt p.1 s.n) = true)
  (hx : (Instr.next (a.eval (.tmp t)) false ty).run P m.w = .ok x m1.w) {e : Ex} {u : St}
  (hr : roundR (runRegion P cfg (callBy P cfg (execF P cfg k)) fid rid (handed ops d) false) (execF P cfg k fid rest) (s.put (some d) q) = some (e, u))
  {Q : Exit → Act → World → Prop} (hQ : ∀ m' a', RS S B N u m' a' → Evo S m m' → Q e.toExit a' m'.w) : (Code.seq (.region rid ops false) rest).wpIn (Fw oR) 0 P Q a m.w := by
 have hpos : 0 < ops.size := (Array.getElem?_eq_some_iff.1 h0).1
 simp only [codeOKb, Bool.and_eq_true] at hok
 have hdst : ∀ (i : Nat) (o : Oper) (d : Nat), ops[i]? = some o → o.dst = some d → d < N := fun i o d ho hd => by
  have := List.all_eq_true.1 hok.1 o (by simpa using Array.mem_of_getElem? ho)
  rw [hd] at this
  simp only [Bool.and_eq_true, Nat.blt_eq] at this
  exact this.2
 have hdN : d < N := hdst 0 _ d h0 rfl
 have h1 := h.put hA hdN hdn hwr
 unfold roundR at hr
 split at hr
 ·rename_i s2 hreg
  unfold runRegion at hreg
  simp only [Bool.false_eq_true, if_false] at hreg
  split at hreg
  ·rename_i u2 hu2
   simp only [Option.some.injEq] at hreg
   obtain ⟨σ, ρ, g0, g1, tr⟩ := runOps_trace hu2
   have g1' : σ (handed ops d).size = u2 := by simpa using g1
   refine wpIn_seq (wpIn_region ?_)
   have hrange : List.range ops.size = 0 :: List.range' 1 (ops.size - 1) := by
    rw [List.range_eq_range', show ops.size = (ops.size - 1) + 1 by omega, List.range'_succ]; simp
   rw [hrange, wpOpsIn_cons]
   unfold wpOpIn
   simp only [h0]
   have hw : Region.wanted ⟨some d, .next (.tmp t) false, ty, pos, af, none⟩ (yielded ops a.tmps) = true := rfl
   rw [if_pos hw]
   refine ⟨fun _ _ => trivial, ?_⟩
   rw [Oper.semAt_eq _ _ _ (fun c hc => by cases hc)]
   have hrun : (execOp a.eval ⟨some d, .next (.tmp t) false, ty, pos, af, none⟩).run P m.w = .ok (.value x) m1.w := by simp [execOp, hx]
   rw [hrun, Oper.uponIn_value]
   have hdst' : ∀ (i : Nat) (o : Oper) (e : Nat), (handed ops d)[i]? = some o → o.dst = some e → e < N := fun i o e ho he => by
    by_cases hi : i = 0
    ·subst hi
     rw [handed_zero hpos] at ho
     simp only [Option.some.injEq] at ho; subst ho
     simp at he; subst he; exact hdN
    ·rw [handed_get hi] at ho; exact hdst i o e ho he
   have hrest : wpOpsIn (Fw oR) 0 P (handed ops d) (Exit.then (rest.wpIn (Fw oR) 0 P Q) Q) (List.range' 0 (handed ops d).size) (a.put (some d) x) m1.w := by
    refine text_ops hN hc callBy_bodies tr g0 h1.n0 h1.top hdst' (m0 := m1) (fun m' a' k1 k2 => ?_) (handed ops d).size 0 (by omega) (h1.start fun i hi => by simp)
    rw [g1'] at k1
    obtain ⟨m2, q1, q2, q3⟩ := mats_sound (cfg.mat fid rid) k1
    rw [← q1]
    have k3 := keepSt_sound q2 (cfg.keep fid rid)
    rw [hreg] at k3
    exact hS hr hok.2 k3 (hro.mono (hA.2.1.trans (k2.trans q3))) fun m' a' p1 p2 => hQ m' a' p1 (hA.2.1.trans (k2.trans (q3.trans p2)))
   rw [handed_size, show ops.size = (ops.size - 1) + 1 by omega, List.range'_succ] at hrest
   have := wpOps_first (handed_zero hpos) (by rw [h1.size]; exact hdN) hrest
   rw [wpOps_congr (handed_yielded h0 rfl) _ _ _ fun i hi => (handed_get (by have := List.mem_range'.1 hi; obtain ⟨j, _, rfl⟩ := this; omega)).symm]
   exact this
  ·cases hreg
 ·cases hr

/-- What the iterator is in the model. -/
theorem itAt_model [Gl] (h : RS S B N s m a) {t : Nat} {I : Itr} (hI : itAt s t = some I) : ∃ (o : Ob) (b bm : Nat) (es : Array MapEntry), m.h I.id = some o ∧ o.gen = I.g ∧ o.ro = false ∧ (∃ last, o.cells = [.itm I.mid I.mg I.since I.seen last]) ∧ m.at_ I.id = some (b, 0) ∧ a.eval (.tmp t) = .pointer (some ⟨b, 0, none⟩) ∧
  m.w.heap[b]? = some (.mapIter (some bm) I.since I.seen.toArray I.since) ∧ m.w.heap[bm]? = some (.map es I.since) ∧ MapAt S m I.ks I.vs I.bs es ∧ RV S m (.mp I.mid I.mg) (.map (some bm)) := by
 obtain ⟨he, _, ⟨last, hl, hlast⟩, ⟨q, hq, hqc⟩, _, _⟩ := itAt_spec hI
 have hv := h.env t
 rw [he] at hv
 rw [← h.h] at hl hq
 obtain ⟨ho, hg, hk, b, hat, hval⟩ := hv.it_live hl
 have hrow := (h.rel.obj I.id _ b 0 ho hat).2
 obtain ⟨_, bm, hh, hmp⟩ := hrow
 obtain ⟨ho2, hg2, hk2, bm2, hat2, e2⟩ := hmp.mp_live hq
 have : bm = bm2 := by injection e2 with e2; injection e2
 subst this
 have hrow2 := (h.rel.obj I.mid q bm 0 ho2 hat2).2
 rw [hqc] at hrow2
 obtain ⟨_, es, hh2, hm⟩ := hrow2
 rw [hlast] at hh
 exact ⟨_, b, bm, es, ho, rfl, rfl, ⟨last, rfl⟩, hat, hval, hh, hh2, hm, hmp⟩
end

theorem perm_erase {b : Nat} {l : List Nat} (h : b ∈ l) : (b :: l.erase b).isPerm l = true := List.isPerm_iff.2 (List.perm_cons_erase h).symm

/-- More marks may be counted as given out, and less may be known. -/
theorem RS.raise [Gl] {S : Nat → Prop} {B : Bs} {N : Nat} {m : M} {y x : St} {a : Act} (h : RS S B N y m a) (hl : LeSt y x) : ∃ m', m'.w = m.w ∧ RS S B N x m' a ∧ Evo S m m' := by
 obtain ⟨g1, g2⟩ := h.rel.swap (h' := x.hp.get) (fun id o ho => by
  obtain ⟨q, hq, ho2⟩ := hl.hp id o ho
  exact ⟨q, by rw [h.h]; exact hq, ho2.swap⟩)
 let m1 : M := { m with h := x.hp.get }
 let m' : M := { m1 with iss := fun _ g => g < x.c }
 have hiss : m1.iss = fun _ g => g < y.c := h.iss
 have e : Evo S m1 m' := {
  dfr := fun _ h => h
  lps := fun _ r h => ⟨r, h⟩
  rest := ⟨rfl, rfl⟩
  iss := fun i g hg => by rw [hiss] at hg; exact Nat.lt_of_lt_of_le hg hl.c
  size := Nat.le_refl _
  shape := fun k ks T1 f1 hk => ⟨ks, f1, hk, rfl⟩
  keepS := fun k hk _ => rfl
  keep := fun k hk hn => ⟨hn, rfl⟩
  live := fun i q hq hi => ⟨q, hq, rfl, rfl, Nat.le_refl _, rfl⟩
  old := fun i q k z h1 h2 hk => ⟨q, z, h1, h2⟩ }
 refine ⟨m', rfl, ⟨rfl, rfl, ⟨fun g => (g1.glob g).mono e, fun id o ho => e.iss _ _ (g1.iss id o ho), g1.none_, fun id o b base ho ha => ⟨(g1.obj id o b base ho ha).1, (g1.obj id o b base ho ha).2.mono e rfl⟩, g1.inj, g1.sub⟩, fun t => ?_, h.size, h.defers.mono (g2.trans e), fun id hid => hl.top id hid, hl.n⟩, g2.trans e⟩
 rcases hl.env t with ht | ht
 ·rw [ht]; exact (h.env t).mono (g2.trans e)
 ·rw [ht]; exact .any _

/-- The rounds of a loop over a map, in the order that the tape says. -/
theorem ord_wp [Gl] {cfg : Cfg} {fid : FuncId} {k : Nat} {oR : Option Nat} {S : Nat → Prop} {B : Bs} {N : Nat} (hN : Pre P cfg) (hc : CallOK P (callBy P cfg (execF P cfg k))) (hS : ∀ {s s' : St} {e : Ex} {m : M} {a : Act} {rest : Code}, execF P cfg k fid rest s = some (e, s') → codeOKb B.nr N rest = true → RS S B N s m a → RndAt oR m → ∀ {Q : Exit → Act → World → Prop}, (∀ m' a', RS S B N s' m' a' → Evo S m m' → Q e.toExit a' m'.w) → rest.wpIn (Fw oR) 0 P Q a m.w)
  {rid t d : Nat} {ops : Array Oper} {rest : Code} {ty : TypeId} {pos : String} {af : Array Edge} (h0 : ops[0]? = some ⟨some d, .next (.tmp t) false, ty, pos, af, none⟩)
  (hok : codeOKb B.nr N (.seq (.region rid ops false) rest) = true) {own : Bool} {e : Ex} {s' : St} : ∀ (n : Nat) {s : St} {m : M} {a : Act} {I : Itr}, itAt s t = some I → (todo I).length = n → RS S B N s m a → RndAt oR m →
   (∀ p : List Nat, p.isPerm (todo I) = true → ∃ y, runOrd (runRegion P cfg (callBy P cfg (execF P cfg k)) fid rid (handed ops d) false) (execF P cfg k fid rest) own t d p s = some (e, y) ∧ LeSt y s') →
   ∀ {Q : Exit → Act → World → Prop}, (∀ m' a', RS S B N s' m' a' → Evo S m m' → Q e.toExit a' m'.w) → LoopWp P oR (.seq (.region rid ops false) rest) Q a m.w
 | n, s, m, a, I, hI, hn, hr, hro, hp, Q, hQ => by
  obtain ⟨o, b, bm, es, ho, hog, horo, ⟨last, hoc⟩, hat, hval, hh, hh2, hm, hmp⟩ := itAt_model hr hI
  obtain ⟨_, hid, _, _, hold, hnd⟩ := itAt_spec hI
  have hbe : ∀ (j : Nat) (x : MapEntry), es[j]? = some x → I.bs[j]? = some x.born := fun j x hx => by
   have hj : j < es.size := (Array.getElem?_eq_some_iff.1 hx).1
   have hjb : j < I.bs.length := by rw [hm.lb]; exact hj
   have h1 : I.bs[j]? = some I.bs[j] := by simp [hjb]
   rw [h1, hm.born j _ x h1 hx]
  have hborn : ∀ x, x ∈ es.toList → x.born ∈ I.bs := fun x hx => by
   obtain ⟨j, hj⟩ := List.mem_iff_getElem?.1 hx
   exact List.mem_of_getElem? (hbe j x (by simpa using hj))
  rcases run_next_at (P := P) m.w ty b bm I.since I.seen.toArray es hh hh2 (fun x hx => hold _ (hborn x hx)) with ⟨hz, hrun⟩ | ⟨x, hx, dr, hrun⟩
  ·-- nothing is left
   have hnil : todo I = [] := by
    rw [List.eq_nil_iff_forall_not_mem]
    intro y hy
    unfold todo at hy
    rw [List.mem_filter] at hy
    obtain ⟨j, hj⟩ := List.mem_iff_getElem?.1 hy.1
    have hjb : j < I.bs.length := (List.getElem?_eq_some_iff.1 hj).1
    have hje : j < es.size := by rw [← hm.lb]; exact hjb
    have hej : es[j]? = some es[j] := by simp [hje]
    have hb1 := hbe j _ hej
    rw [hj] at hb1
    simp only [Option.some.injEq] at hb1
    have hmem : es[j] ∈ leftOf es I.seen.toArray := by
     unfold leftOf
     rw [Array.mem_filter]
     exact ⟨Array.getElem_mem hje, by rw [← hb1]; simpa using hy.2⟩
    have : leftOf es I.seen.toArray = #[] := Array.eq_empty_of_size_eq_zero hz
    rw [this] at hmem; simp at hmem
   obtain ⟨y, h1, hle⟩ := hp [] (by rw [hnil]; rfl)
   simp only [runOrd, hI] at h1
   rw [hnil] at h1
   simp only [List.isEmpty_nil] at h1
   split at h1
   ·cases h1
   ·rename_i hne
    have hA : After S m s.c overR (.tuple #[.bool false]) m := After.quiet hr.rel (.tuple rfl fun u y z hu hz => by
     rcases u with _ | u
     ·simp at hu hz; subst hu; subst hz; exact .d (.bool _)
     ·simp at hu)
    refine LoopWp.round (round_wp hN hc hS h0 hok hr hro hA rfl rfl (by rw [hval]; exact hrun) h1 fun m' a' k1 k2 => ?_)
    obtain ⟨m3, e1, e2, e3⟩ := k1.raise hle
    have := hQ m3 a' e2 (k2.trans e3)
    rw [e1] at this
    cases e with
    | normal => exact absurd h1 (hne y)
    | exit id => exact this
    | ret => exact this
  ·-- one entry comes out
   have hxl := mem_left hx
   obtain ⟨i, hi⟩ := List.mem_iff_getElem?.1 hxl.1
   have hi' : es[i]? = some x := by simpa using hi
   have hbi := hbe i x hi'
   have hmem : x.born ∈ todo I := by
    unfold todo
    rw [List.mem_filter]
    exact ⟨List.mem_of_getElem? hbi, by simpa using hxl.2⟩
   obtain ⟨y, h1, hle⟩ := hp (x.born :: (todo I).erase x.born) (perm_erase hmem)
   simp only [runOrd, hI, perm_erase hmem] at h1
   split at h1
   ·rename_i q _ hq
    obtain ⟨j, kd, v, hj, hk, hv, rfl⟩ := pickR_spec hq
    obtain ⟨i2, x2, g1, g2, g3, _⟩ := findB_first (es := es.toList) hj (by rw [hm.lb]; simp) (fun q n e h1 h2 => hm.born q n e h1 (by simpa using h2))
    rw [Nat.zero_add] at g1; subst g1
    have g2' : es[j]? = some x2 := by simpa using g2
    have hbj := hbe j x2 g2'
    have hij : i = j := by
     rw [g3] at hbj
     have l1 := (List.getElem?_eq_some_iff.1 hbi).1
     have l2 := (List.getElem?_eq_some_iff.1 hbj).1
     exact (List.getElem?_inj l1 hnd).1 (hbi.trans hbj.symm)
    subst hij
    rw [hi'] at g2'
    simp only [Option.some.injEq] at g2'; subst g2'
    obtain ⟨m1, w1, w2, w3, w4, w5, w6⟩ := write_sp (id := I.id) (o := o) (o' := ⟨I.g, false, [.itm I.mid I.mg I.since (I.seen ++ [x.born]) I.since]⟩) (b := b) (c := s.c) (ob := .mapIter (some bm) I.since I.seen.toArray I.since) (ob' := .mapIter (some bm) I.since (I.seen ++ [x.born]).toArray I.since)
     (w' := { m.w with drawn := m.w.drawn + dr, heap := m.w.heap.setIfInBounds b (.mapIter (some bm) I.since (I.seen ++ [x.born]).toArray I.since) })
     hr.rel ho hat horo hh trivial trivial rfl hog.symm (by rw [hoc]; rfl) (by rw [hoc]; simp) (fun m' e hm' => ⟨rfl, bm, hm', hmp.mono e⟩)
    have hA : After S m s.c ⟨.tuple [.d (.bool true), .d kd, v], [(I.id, ⟨I.g, false, [.itm I.mid I.mg I.since (I.seen ++ [x.born]) I.since]⟩)], [], 0, 0, false⟩ (.tuple #[.bool true, x.key, x.val]) m1 :=
     ⟨w5, w6, .tuple rfl fun u y z hu hz => by
      rcases u with _ | _ | _ | u
      ·simp at hu hz; subst hu; subst hz; exact .d (.bool _)
      ·simp at hu hz; subst hu; subst hz; exact .d ((hm.key i kd x hk hi').mono w6.keep)
      ·simp at hu hz; subst hu; subst hz; exact (hm.val i v x hv hi').mono w6
      ·simp at hu, by rw [w2]; rfl, by rw [w4]; exact (iss_zero m s.c).symm⟩
    have hrun' : (Instr.next (a.eval (.tmp t)) false ty).run P m.w = .ok (.tuple #[.bool true, x.key, x.val]) m1.w := by
     rw [hval, w1, hrun]; simp
    have hlt : ((todo I).erase x.born).length = (todo I).length - 1 := List.length_erase_of_mem hmem
    have hpos : 0 < (todo I).length := List.length_pos_of_mem hmem
    split at h1
    ·rename_i u hu
     refine LoopWp.round (round_wp hN hc hS h0 hok hr hro hA rfl (by simp [Nat.blt_eq, hid]) hrun' hu fun m' a' k1 k2 => ?_)
     show LoopWp P oR _ Q a' m'.w
     -- every other order that begins with this entry
     have hnext : ∀ l : List Nat, (x.born :: l).isPerm (todo I) = true → ∃ y, runOrd (runRegion P cfg (callBy P cfg (execF P cfg k)) fid rid (handed ops d) false) (execF P cfg k fid rest) own t d l (if own then u else { u with hp := Hp.trunc s.n u.hp, n := s.n }) = some (e, y) ∧ LeSt y s' := fun l hl => by
      obtain ⟨y2, h2, hle2⟩ := hp (x.born :: l) hl
      simp only [runOrd, hI, hl, hq, hu] at h2
      exact ⟨y2, h2, hle2⟩
     have hstep : ∀ {s2 : St} {m2 : M}, RS S B N s2 m2 a' → Evo S m m2 → m2.w = m'.w → (if own then u else { u with hp := Hp.trunc s.n u.hp, n := s.n }) = s2 → LoopWp P oR (.seq (.region rid ops false) rest) Q a' m'.w := by
      intro s2 m2 hr2 he2 hw2 hs2
      rw [hs2] at hnext
      obtain ⟨y3, h3, _⟩ := hnext _ (perm_erase hmem)
      obtain ⟨I2, hI2, hperm⟩ : ∃ I2, itAt s2 t = some I2 ∧ ((todo I).erase x.born).isPerm (todo I2) = true := by
       cases hl : (todo I).erase x.born with
       | nil =>
        rw [hl] at h3
        simp only [runOrd] at h3
        split at h3
        ·rename_i I2 hI2
         split at h3
         ·rename_i hem
          refine ⟨I2, hI2, ?_⟩
          rw [List.isEmpty_iff.1 hem]; rfl
         ·cases h3
        ·cases h3
       | cons y l =>
        rw [hl] at h3
        simp only [runOrd] at h3
        split at h3
        ·rename_i I2 hI2
         split at h3
         ·rename_i q2 hpm _; exact ⟨I2, hI2, hpm⟩
         ·cases h3
        ·cases h3
      have hperm' := List.isPerm_iff.1 hperm
      rw [← hw2]
      refine ord_wp hN hc hS h0 hok (own := own) (e := e) (s' := s') (todo I2).length hI2 rfl hr2 (hro.mono he2) (fun p hpp => hnext p ?_) fun m'' a'' p1 p2 => hQ m'' a'' p1 (he2.trans p2)
      have hpp' := List.isPerm_iff.1 hpp
      exact List.isPerm_iff.2 (((hpp'.trans hperm'.symm).cons x.born).trans (List.perm_cons_erase hmem).symm)
     cases how : own with
     | true => exact hstep k1 k2 rfl (by rw [how]; rfl)
     | false =>
      have hl := (Log.put (s := s) (dst := some d) (q := ⟨.tuple [.d (.bool true), .d kd, v], [(I.id, ⟨I.g, false, [.itm I.mid I.mg I.since (I.seen ++ [x.born]) I.since]⟩)], [], 0, 0, false⟩) (by simp [Nat.blt_eq]; omega))
      have hl2 : Log (s.put (some d) ⟨.tuple [.d (.bool true), .d kd, v], [(I.id, ⟨I.g, false, [.itm I.mid I.mg I.since (I.seen ++ [x.born]) I.since]⟩)], [], 0, 0, false⟩) u := by
       unfold roundR at hu
       split at hu
       ·rename_i s2 hs2; exact (runRegion_log hs2).trans (execF_log hu)
       ·cases hu
      obtain ⟨m2, g1, g2, g3⟩ := trunc_sound k1 (n := s.n) (by rw [(hl.trans hl2).n0]; exact hr.n0)
      exact hstep g2 (k2.trans g3) g1 (by rw [how]; rfl)
    ·rename_i hne
     refine LoopWp.round (round_wp hN hc hS h0 hok hr hro hA rfl (by simp [Nat.blt_eq, hid]) hrun' h1 fun m' a' k1 k2 => ?_)
     obtain ⟨m3, e1, e2, e3⟩ := k1.raise hle
     have := hQ m3 a' e2 (k2.trans e3)
     rw [e1] at this
     cases e with
     | normal => exact absurd h1 (hne y)
     | exit id => exact this
     | ret => exact this
   ·cases h1
 termination_by n => n
 decreasing_by
  subst hn
  have := hperm'.length_eq
  omega

theorem nextLoop_spec {c : Code} {r t d : Nat} {ops : Array Oper} {rest : Code} (h : nextLoop c = some (r, ops, t, d, rest)) : c = .seq (.region r ops false) rest ∧ ∃ ty pos af, ops[0]? = some ⟨some d, .next (.tmp t) false, ty, pos, af, none⟩ := by
 unfold nextLoop at h
 split at h
 ·split at h
  ·rename_i hz
   simp only [Option.some.injEq, Prod.mk.injEq] at h
   obtain ⟨rfl, rfl, rfl, rfl, rfl⟩ := h
   exact ⟨rfl, _, _, _, hz⟩
  ·cases h
 ·cases h

theorem exec_sound [Gl] (cfg : Cfg) (hN : Pre P cfg) (hm : P.follows .mixedOrders = true) : ∀ k, Sound P cfg k ∧ LoopSound P cfg k
 | 0 => ⟨fun {fid c s s' e} h => by simp [execF] at h, fun {fid c s s' e} h => by simp [execF] at h⟩
 | k + 1 => by
  obtain ⟨ihS, ihL⟩ := exec_sound cfg hN hm k
  have hLoop : LoopSound P cfg (k + 1) := by
   intro fid c s s' e h oR S B N m a hok hr hro Q hQ
   simp only [execF] at h
   split at h
   ·split at h
    ·rename_i t ht
     refine LoopWp.round (ihS ht hok hr hro fun m1 a1 k1 k2 => ?_)
     show LoopWp P oR c Q a1 m1.w
     have hl := execF_log ht
     split at h
     ·exact ihL h hok k1 (hro.mono k2) fun m' a' q1 q2 => hQ m' a' q1 (k2.trans q2)
     ·obtain ⟨m2, g1, g2, g3⟩ := trunc_sound k1 (n := s.n) (by rw [hl.n0]; exact hr.n0)
      rw [← g1]
      exact ihL h hok g2 (hro.mono (k2.trans g3)) fun m' a' q1 q2 => hQ m' a' q1 (k2.trans (g3.trans q2))
    ·rename_i hne
     refine LoopWp.round (ihS h hok hr hro fun m1 a1 k1 k2 => ?_)
     have := hQ m1 a1 k1 k2
     cases e with
     | normal => exact absurd h (hne s')
     | exit id => exact this
     | ret => exact this
   ·rename_i r ops t d rest hnx
    obtain ⟨rfl, ty, pos, af, h0⟩ := nextLoop_spec hnx
    split at h
    ·rename_i I hI
     exact ord_wp hN (callBy_ok hN ihS) (fun {s s' e m a rest} h1 h2 h3 h5 {Q} h4 => ihS h1 h2 h3 h5 h4) h0 hok _ hI rfl hr hro (allOrd_spec h).2 hQ
    ·cases h
  refine ⟨?_, hLoop⟩
  intro fid c s s' e h oR S B N m a hok hr hro Q hQ
  cases c <;> try (simp only [execF] at h; simp at h; done)
  case skip => simp only [execF] at h; simp at h; obtain ⟨rfl, rfl⟩ := h; exact wpIn_skip (hQ m a hr (.refl S m))
  case label l => simp only [execF] at h; simp at h; obtain ⟨rfl, rfl⟩ := h; exact wpIn_label (hQ m a hr (.refl S m))
  case ret => simp only [execF] at h; simp at h; obtain ⟨rfl, rfl⟩ := h; exact wpIn_ret (hQ m a hr (.refl S m))
  case exit id => simp only [execF] at h; simp at h; obtain ⟨rfl, rfl⟩ := h; exact wpIn_exit (hQ m a hr (.refl S m))
  case seq x y =>
   simp only [codeOKb, Bool.and_eq_true] at hok
   simp only [execF] at h
   split at h
   ·rename_i t ht
    refine wpIn_seq (ihS ht hok.1 hr hro fun m1 a1 k1 k2 => ?_)
    exact ihS h hok.2 k1 (hro.mono k2) fun m' a' q1 q2 => hQ m' a' q1 (k2.trans q2)
   ·rename_i hne
    refine wpIn_seq (ihS h hok.1 hr hro fun m1 a1 k1 k2 => ?_)
    have := hQ m1 a1 k1 k2
    cases e with
    | normal => exact absurd h (hne s')
    | exit id => exact this
    | ret => exact this
  case cond q x y =>
   simp only [codeOKb, Bool.and_eq_true] at hok
   simp only [execF] at h
   have hq : RV S m (evalV s.env q) (a.eval q) := by
    have : EnvAt S m s.env a (match q with | .tmp t => [t] | _ => []) := fun t _ => hr.env t
    exact evalV_RV hr.rel this fun t ht => by subst ht; simp
   split at h
   ·rename_i hb
    rw [hb] at hq
    exact wpIn_cond_true hq.bool_inv (ihS h hok.1 hr hro hQ)
   ·rename_i hb
    rw [hb] at hq
    exact wpIn_cond_false hq.bool_inv (ihS h hok.2 hr hro hQ)
   ·simp at h
  case rangeFunc g ps asg body =>
   simp only [execF] at h
   exact range_wp hN.nc (callBy_ok hN ihS) callBy_bodies h hok hr hro hQ
  case block id b =>
   simp only [codeOKb] at hok
   simp only [execF] at h
   split at h
   ·rename_i i t ht
    split at h
    ·rename_i hid
     simp at h; obtain ⟨rfl, rfl⟩ := h
     refine wpIn_block (ihS ht hok hr hro fun m1 a1 k1 k2 => ?_)
     show (if i = id then _ else _)
     rw [if_pos hid]
     exact hQ m1 a1 k1 k2
    ·rename_i hid
     simp at h; obtain ⟨rfl, rfl⟩ := h
     refine wpIn_block (ihS ht hok hr hro fun m1 a1 k1 k2 => ?_)
     show (if i = id then _ else _)
     rw [if_neg hid]
     exact hQ m1 a1 k1 k2
   ·rename_i hne
    refine wpIn_block (ihS h hok hr hro fun m1 a1 k1 k2 => ?_)
    have := hQ m1 a1 k1 k2
    cases e with
    | normal => exact this
    | exit id' => exact absurd h (hne id' s')
    | ret => exact this
  case loop b => simp only [codeOKb] at hok; exact (hLoop h hok hr hro hQ).wp
  case region id ops draw =>
   simp only [codeOKb] at hok
   simp only [execF, Option.map_eq_some_iff] at h
   obtain ⟨t, ht, h⟩ := h
   simp at h; obtain ⟨rfl, rfl⟩ := h
   unfold runRegion at ht
   split at ht
   ·simp at ht
   ·rename_i hchk
    split at ht
    ·rename_i u hu
     simp only [Option.some.injEq] at ht; subst ht
     refine region_ops hN hm (callBy_ok hN ihS) callBy_bodies hchk hu (fun i o d ho hd => ?_) hr fun m1 a1 k1 k2 => ?_
     ·have := List.all_eq_true.1 hok o (by simpa using Array.mem_of_getElem? ho)
      rw [hd] at this
      simp only [Bool.and_eq_true, Nat.blt_eq] at this
      exact this.2
     ·obtain ⟨m2, g1, g2, g3⟩ := mats_sound (cfg.mat fid id) k1
      rw [← g1]
      exact hQ m2 a1 (keepSt_sound g2 _) (k2.trans g3)
    ·simp at ht

/-- A call does what the abstract machine says, whatever the fuel. -/
theorem callF_ok [Gl] (cfg : Cfg) (hN : Pre P cfg) (hm : P.follows .mixedOrders = true) (k : Nat) : CallOK P (callF P cfg k) := callBy_ok hN (exec_sound cfg hN hm k).1

end Go.Ac
