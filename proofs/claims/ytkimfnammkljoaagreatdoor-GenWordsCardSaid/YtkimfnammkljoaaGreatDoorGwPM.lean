/- The check of the form of a program whose word is none: it panics and recovers. Condition: the configuration's calls are right. -/
import Derived.Test.YtkimfnammkljoaaGreatDoorHeHM
set_option linter.unusedVariables false
set_option linter.unusedSimpArgs false
section
namespace Go.Ac
variable {P : Program} {cfg : Cfg}
/-- One panic, not recovered. -/
abbrev chn (x : Value) : List PanicEntry := [{ v := x, recovered := false }]
/-- The code panics with that value, in that state. -/
def PanC [Gl] (P : Program) (c : Code) (s : St) (v : V) (s' : St) : Prop :=
 ∀ {oR : Option Nat} {S : Nat → Prop} {B : Bs} {N : Nat} {m : M} {a : Act}, codeOKb B.nr N c = true → RS S B N s m a → RndAt oR m → ∀ {Q : Exit → Act → World → Prop},
  (∀ m' a' x, RS S B N s' m' a' → Evo S m m' → RV S m' v x → Q (.panic (chn x)) a' m'.w) → c.wpIn (Fw oR) 0 P Q a m.w
/-- The call panics with that value; the memory then. -/
def PanF [Gl] (P : Program) (f : FuncId) (vs : List V) (hp : Hp) (n c : Nat) (v : V) (hp' : Hp) (n' c' : Nat) : Prop :=
 ∀ {S : Nat → Prop} {m : M} {xs : List Value}, Tops hp n → m.h = hp.get → (m.iss = fun _ g => g < c) → Rel S m → RVs S m vs xs →
  Calls P f xs.toArray m.w (fun e w' => ∃ x m', e = .panicked (chn x) ∧ m'.w = w' ∧ Rel S m' ∧ Evo S m m' ∧ RV S m' v x ∧ m'.h = hp'.get ∧ (m'.iss = fun _ g => g < c') ∧ Tops hp' n')
/-- An operation panics. -/
def PanO [Gl] (P : Program) (o : Oper) (s : St) (v : V) (s' : St) : Prop :=
 ∀ {oR : Option Nat} {S : Nat → Prop} {B : Bs} {N : Nat} {m : M} {a : Act} {next : Act → World → Prop} {Q : Exit → Act → World → Prop}, RS S B N s m a →
  (∀ m' a' x, RS S B N s' m' a' → Evo S m m' → RV S m' v x → Q (.panic (chn x)) a' m'.w) → o.wpIn (Fw oR) 0 P a m.w next Q

theorem runs_sound [Gl] (hN : Pre P cfg) (hm : P.follows .mixedOrders = true) {fid : FuncId} {c : Code} {s s' : St} {e : Ex} (h : Runs P cfg fid c s e s') {oR : Option Nat} {S : Nat → Prop} {B : Bs} {N : Nat} {m : M} {a : Act} (hok : codeOKb B.nr N c = true) (hr : RS S B N s m a) (hro : RndAt oR m)
  {Q : Exit → Act → World → Prop} (hQ : ∀ m' a', RS S B N s' m' a' → Evo S m m' → Q e.toExit a' m'.w) : c.wpIn (Fw oR) 0 P Q a m.w := by
 obtain ⟨K, hK⟩ := h
 exact (exec_sound cfg hN hm K).1 (hK K (Nat.le_refl _)) hok hr hro hQ

theorem PanC.seq_l [Gl] {a b : Code} {s s' : St} {v : V} (h : PanC P a s v s') : PanC P (.seq a b) s v s' := by
 intro oR S B N m ac hok hr hro Q hQ
 simp only [codeOKb, Bool.and_eq_true] at hok
 exact wpIn_seq (h hok.1 hr hro fun m' a' x k1 k2 k3 => hQ m' a' x k1 k2 k3)
theorem PanC.seq_r [Gl] (hN : Pre P cfg) (hm : P.follows .mixedOrders = true) {fid : FuncId} {a b : Code} {s t s' : St} {v : V} (h1 : Runs P cfg fid a s .normal t) (h : PanC P b t v s') : PanC P (.seq a b) s v s' := by
 intro oR S B N m ac hok hr hro Q hQ
 simp only [codeOKb, Bool.and_eq_true] at hok
 exact wpIn_seq (runs_sound hN hm h1 hok.1 hr hro fun m1 a1 k1 k2 => h hok.2 k1 (hro.mono k2) fun m' a' x q1 q2 q3 => hQ m' a' x q1 (k2.trans q2) q3)
theorem PanC.cond_t [Gl] {q : Operand} {a b : Code} {s s' : St} {v : V} (hq : evalV s.env q = .d (.bool true)) (h : PanC P a s v s') : PanC P (.cond q a b) s v s' := by
 intro oR S B N m ac hok hr hro Q hQ
 simp only [codeOKb, Bool.and_eq_true] at hok
 have hv : RV S m (evalV s.env q) (ac.eval q) := by
  have : EnvAt S m s.env ac (match q with | .tmp t => [t] | _ => []) := fun t _ => hr.env t
  exact evalV_RV hr.rel this fun t ht => by subst ht; simp
 rw [hq] at hv
 exact wpIn_cond_true hv.bool_inv (h hok.1 hr hro hQ)
theorem PanC.block [Gl] {i : Nat} {b : Code} {s s' : St} {v : V} (h : PanC P b s v s') : PanC P (.block i b) s v s' := by
 intro oR S B N m ac hok hr hro Q hQ
 simp only [codeOKb] at hok
 exact wpIn_block (h hok hr hro fun m' a' x k1 k2 k3 => hQ m' a' x k1 k2 k3)
theorem PanC.loop [Gl] {b : Code} {s s' : St} {v : V} (h : PanC P b s v s') : PanC P (.loop b) s v s' := by
 intro oR S B N m ac hok hr hro Q hQ
 simp only [codeOKb] at hok
 exact (LoopWp.round (h hok hr hro fun m' a' x k1 k2 k3 => hQ m' a' x k1 k2 k3)).wp

/-! ### A region whose last operation panics -/
/-- In its place, an operation that does nothing. -/
def mvO (o : Oper) : Oper := match o.dst with
 | some d => { o with op := .move (.tmp d), guard := none }
 | none => { o with op := .move (.const .nilIface), guard := none }
theorem mvO_after (o : Oper) : (mvO o).after = o.after := by unfold mvO; cases o.dst <;> rfl
theorem mvO_dst (o : Oper) : (mvO o).dst = o.dst := by unfold mvO; cases h : o.dst <;> simp [h]
theorem mvO_guard (o : Oper) : (mvO o).guard = none := by unfold mvO; cases o.dst <;> rfl
def PnK (Q : Exit → Act → World → Prop) (K : Act → World → Prop) : Exit → Act → World → Prop
 | .normal, a, w => K a w
 | .exit i, a, w => Q (.exit i) a w
 | .goto l, a, w => Q (.goto l) a w
 | .ret, a, w => Q .ret a w
 | .panic ch, a, w => Q (.panic ch) a w
 | .outgrown, a, w => Q .outgrown a w
theorem upon_QK {F : Fence} {n : Nat} {o : Oper} {a : Act} {next : Act → World → Prop} {Q : Exit → Act → World → Prop} {K : Act → World → Prop} {r : Result Next} (h : o.uponIn F n P a next (PnK Q K) r) : o.uponIn F n P a next Q r := by
 unfold Oper.uponIn at h ⊢
 split at h <;> first
  | exact h
  | (refine ⟨h.1, CallsIn.mono h.2 fun e w' he => ?_⟩; cases e <;> exact he)
  | (refine ⟨h.1, RoundIn.mono h.2 fun e w' he => ?_⟩; cases e <;> exact he)
section
variable {F : Fence} {ops : Array Oper} {o : Oper} {k : Nat}
theorem mv_get (ho : ops[k]? = some o) : (ops.setIfInBounds k (mvO o))[k]? = some (mvO o) := by
 have := (Array.getElem?_eq_some_iff.1 ho).1
 simp [this]
theorem mv_ne {i : Nat} (h : i ≠ k) : (ops.setIfInBounds k (mvO o))[i]? = ops[i]? := by rw [Array.getElem?_setIfInBounds_ne (Ne.symm h)]
theorem mv_size : (ops.setIfInBounds k (mvO o)).size = ops.size := by simp
theorem mv_yielded (ho : ops[k]? = some o) : yielded (ops.setIfInBounds k (mvO o)) = yielded ops := by
 funext tmps i
 unfold yielded
 by_cases hi : i = k
 ·subst hi
  rw [mv_get ho, ho]
  simp [mvO_dst]
 ·rw [mv_ne hi]
/-- What the operation that does nothing leads to. -/
theorem mv_wp {oR : Option Nat} {a : Act} {next : Act → World → Prop} {Q : Exit → Act → World → Prop} {w : World} (h : (mvO o).wpIn (Fw oR) 0 P a w next Q) : next a w := by
 have h2 := h.2
 unfold mvO at h2
 cases hdd : o.dst with
 | none =>
  simp only [hdd] at h2
  rw [Oper.semAt_eq _ _ _ (fun c hc => by cases hc)] at h2
  have h3 : next (a.put none (a.eval (.const .nilIface))) w := h2
  exact h3
 | some d =>
  simp only [hdd] at h2
  rw [Oper.semAt_eq _ _ _ (fun c hc => by cases hc)] at h2
  have h3 : next (a.put (some d) (a.eval (.tmp d))) w := h2
  have hput : a.put (some d) (a.eval (.tmp d)) = a := by
   obtain ⟨ts, df⟩ := a
   simp only [Act.put, Act.eval]
   congr 1
   by_cases hd' : d < ts.size
   ·have e : ts.getD d undef = ts[d] := by simp [Array.getD, hd']
    rw [e, Array.setIfInBounds_def, dif_pos hd']
    simp
   ·rw [Array.setIfInBounds_def, dif_neg hd']
  rwa [hput] at h3
theorem wpOp_other {n : Nat} (ho : ops[k]? = some o) {i : Nat} (hi : i ≠ k) {Q : Exit → Act → World → Prop} {K : Act → World → Prop} {A B : Act → World → Prop} {a : Act} {w : World} (hAB : ∀ a w, A a w → B a w)
  (h : wpOpIn F n P (ops.setIfInBounds k (mvO o)) (PnK Q K) i A a w) : wpOpIn F n P ops Q i B a w := by
 refine wpOpIn_mono hAB ?_
 unfold wpOpIn at h ⊢
 rw [mv_ne hi, mv_yielded ho] at h
 split at h
 ·exact h
 ·split at h
  ·rename_i hw
   rw [if_pos hw]
   exact ⟨h.1, upon_QK h.2⟩
  ·rename_i hw
   rw [if_neg hw]
   exact h
theorem ready_mv (ho : ops[k]? = some o) (listed : Array Bool) : Region.ready .any (ops.setIfInBounds k (mvO o)) listed = Region.ready .any ops listed := by
 unfold Region.ready
 rw [mv_size]
 congr 1
 funext i
 by_cases hi : i = k
 ·subst hi
  rw [mv_get ho, ho]
  simp [mvO_after]
 ·rw [mv_ne hi]
/-- What the last operation must do, the others being done. -/
def EndO (P : Program) (oR : Option Nat) (o : Oper) (K : Act → World → Prop) (Q : Exit → Act → World → Prop) : Prop := ∀ a w (next : Act → World → Prop), K a w → o.wpIn (Fw oR) 0 P a w next Q
theorem swap_list {oR : Option Nat} (ho : ops[k]? = some o) (hg : o.guard = none) {K : Act → World → Prop} {Q : Exit → Act → World → Prop} (hE : EndO P oR o K Q) : ∀ (l : List Nat) (a : Act) (w : World), k ∉ l → (∀ a w, wpOpsIn (Fw oR) 0 P (ops.setIfInBounds k (mvO o)) (PnK Q K) [k] a w → K a w) →
  wpOpsIn (Fw oR) 0 P (ops.setIfInBounds k (mvO o)) (PnK Q K) (l ++ [k]) a w → wpOpsIn (Fw oR) 0 P ops Q (l ++ [k]) a w
 | [], a, w, _, hk, h => by
  have := hE a w (wpOpsIn (Fw oR) 0 P ops Q []) (hk a w h)
  rw [List.nil_append, wpOpsIn_cons]
  unfold wpOpIn
  rw [ho]
  simp only
  rw [if_pos (by unfold Region.wanted; rw [hg])]
  exact this
 | i :: l, a, w, hn, hk, h => by
  rw [List.cons_append, wpOpsIn_cons] at h ⊢
  exact wpOp_other ho (fun e => hn (e ▸ List.mem_cons_self ..)) (fun a w h => swap_list ho hg hE l a w (fun hm => hn (List.mem_cons_of_mem _ hm)) hk h) h
/-- The same in any order: the last operation needs all others. -/
theorem swap_any {oR : Option Nat} (ho : ops[k]? = some o) (hsz : ops.size = k + 1) (hg : o.guard = none)
  (hord : ∀ (i : Nat) (p : Oper), ops[i]? = some p → ∀ e ∈ p.after, Region.binds .any e = true → e.on < i)
  (hanc : ∀ (X : Nat → Bool), (∀ (i : Nat) (p : Oper), ops[i]? = some p → X i = true → ∀ e ∈ p.after, Region.binds .any e = true → X e.on = true) → (∀ e ∈ o.after, Region.binds .any e = true → X e.on = true) → ∀ i, i < k → X i = true)
  {K : Act → World → Prop} {Q : Exit → Act → World → Prop} (hE : EndO P oR o K Q) :
  ∀ (fuel : Nat) (listed : Array Bool) (L : List Nat) (a : Act) (w : World), listed.size = ops.size → listed.getD k false = false →
   (∀ (i : Nat) (p : Oper), ops[i]? = some p → listed.getD i false = true → ∀ e ∈ p.after, Region.binds .any e = true → listed.getD e.on false = true) →
   (∀ i, i < ops.size → listed.getD i false = false → i ∈ L) → L.length ≤ fuel → (∀ (fuel : Nat) (l2 : Array Bool) a w, (∀ i, i < ops.size → l2.getD i false = true) → l2.size = ops.size → wpAnyIn (Fw oR) 0 P .any (ops.setIfInBounds k (mvO o)) (PnK Q K) fuel l2 a w → K a w) →
   (∀ a w, wpOpIn (Fw oR) 0 P (ops.setIfInBounds k (mvO o)) (PnK Q K) k K a w → K a w) →
   wpAnyIn (Fw oR) 0 P .any (ops.setIfInBounds k (mvO o)) (PnK Q K) fuel listed a w → wpAnyIn (Fw oR) 0 P .any ops Q fuel listed a w := by
 have hk1 : k < ops.size := by omega
 intro fuel
 induction fuel with
 | zero =>
  intro listed L a w hs hk hcl hL hlen hall hmv h
  have hin := hL k hk1 hk
  have hL0 : L = [] := List.length_eq_zero_iff.1 (by omega)
  rw [hL0] at hin
  cases hin
 | succ fuel ih =>
  intro listed L a w hs hk hcl hL hlen hall hmv h
  obtain ⟨h0, h1⟩ := h
  rw [ready_mv ho] at h0 h1
  refine ⟨fun hr => ?_, fun i hi => ?_⟩
  ·exfalso
   -- the first that is not listed is ready
   have key : ∀ n, ∀ i, i < n → i < ops.size → listed.getD i false = true := by
    intro n
    induction n with
    | zero => intro i h; omega
    | succ n ih2 =>
     intro i hi hlt
     cases hgd : listed.getD i false with
     | true => rfl
     | false =>
      exfalso
      have : i ∈ Region.ready .any ops listed := by
       rw [mem_ready]
       refine ⟨?_, ops[i], by simp [hlt], fun e he hb => ?_⟩
       ·have h1 : i < listed.size := by omega
        simp [h1] at hgd ⊢; exact hgd
       ·have := hord i ops[i] (by simp [hlt]) e he hb
        exact ih2 e.on (by omega) (by omega)
      rw [hr] at this
      cases this
   rw [key (k + 1) k (by omega) hk1] at hk
   cases hk
  ·have hri := mem_ready.1 hi
   obtain ⟨hl0, p, hp, hpa⟩ := hri
   have hi1 : i < ops.size := (Array.getElem?_eq_some_iff.1 hp).1
   have h2 := h1 i hi
   by_cases hik : i = k
   ·subst hik
    rw [ho] at hp
    cases hp
    have hall2 : ∀ j, j < i → listed.getD j false = true := hanc (fun j => listed.getD j false) hcl hpa
    unfold wpOpIn
    rw [ho]
    simp only
    rw [if_pos (by unfold Region.wanted; rw [hg])]
    refine hE a w _ (hmv a w (wpOpIn_mono (fun a w hh => ?_) h2))
    refine hall fuel (listed.setIfInBounds i true) a w (fun j hj => ?_) (by simp [hs]) hh
    by_cases hji : j = i
    ·subst hji
     have : j < listed.size := by omega
     simp [this]
    ·rw [getD_set_ne false (by omega)]
     exact hall2 j (by omega)
   ·refine wpOp_other ho hik (fun a w hh => ih (listed.setIfInBounds i true) (L.erase i) a w (by simp [hs]) (by rw [getD_set_ne false (by omega)]; exact hk) (fun j q hq hlj e he hb => ?_) (fun j hj hlj => ?_) ?_ hall hmv hh) h2
    ·by_cases hei : e.on = i
     ·rw [hei]
      have : i < listed.size := by omega
      simp [this]
     ·rw [getD_set_ne false (by omega)]
      by_cases hji : j = i
      ·subst hji
       rw [hp] at hq; cases hq
       exact hpa e he hb
      ·rw [getD_set_ne false (by omega)] at hlj
       exact hcl j q hq hlj e he hb
    ·have hji : j ≠ i := by
      rintro rfl
      have : j < listed.size := by omega
      simp [this] at hlj
     rw [getD_set_ne false (by omega)] at hlj
     exact (List.mem_erase_of_ne hji).2 (hL j hj hlj)
    ·have hiL : i ∈ L := hL i hi1 (by
      have : i < listed.size := by omega
      simp [this] at hl0 ⊢; exact hl0)
     rw [List.length_erase_of_mem hiL]
     omega
end
/-- A region panics at its last operation. -/
theorem PanC.region [Gl] (hN : Pre P cfg) (hm : P.follows .mixedOrders = true) {fid : FuncId} {id : Nat} {ops : Array Oper} {draw : Bool} {o : Oper} {k : Nat} {s s1 s' : St} {v : V} (ho : ops[k]? = some o) (hsz : ops.size = k + 1) (hg : o.guard = none)
  (hr : Runs P cfg fid (.region id (ops.setIfInBounds k (mvO o)) draw) s .normal s1) (hm0 : cfg.mat fid id = []) (hk0 : cfg.keep fid id = none)
  (hanc : (!draw || (List.range k).all (fun i => ((anc ops.toList).getD k []).contains i)) = true) (hO : PanO P o s1 v s') : PanC P (.region id ops draw) s v s' := by
 intro oR S B N m ac hok hrs hro Q hQ
 obtain ⟨KK, hK⟩ := hr
 have h := hK (KK + 1) (Nat.le_succ _)
 simp only [execF, Option.map_eq_some_iff] at h
 obtain ⟨t, ht, h⟩ := h
 simp only [Prod.mk.injEq, true_and] at h
 subst h
 unfold runRegion at ht
 split at ht
 ·cases ht
 rename_i hchk
 split at ht
 ·rename_i u hu
  simp only [Option.some.injEq] at ht
  have hut : u = t := by rw [← ht, hm0, hk0]; rfl
  subst hut
  simp only [codeOKb] at hok
  have hdst : ∀ (i : Nat) (p : Oper) (d : Nat), (ops.setIfInBounds k (mvO o))[i]? = some p → p.dst = some d → d < N := fun i p d hp hd => by
   have key : ∀ q : Oper, ops[i]? = some q → q.dst = some d → d < N := fun q hq hqd => by
    have := List.all_eq_true.1 hok q (by simpa using Array.mem_of_getElem? hq)
    rw [hqd] at this
    simp only [Bool.and_eq_true, Nat.blt_eq] at this
    exact this.2
   by_cases hi : i = k
   ·subst hi
    rw [mv_get ho] at hp
    cases hp
    exact key o ho (by rw [← mvO_dst]; exact hd)
   ·rw [mv_ne hi] at hp
    exact key p hp hd
  let K : Act → World → Prop := fun a w => ∃ m', m'.w = w ∧ RS S B N u m' a ∧ Evo S m m'
  have hE : EndO P oR o K Q := by
   rintro a w next ⟨m', rfl, k1, k2⟩
   exact hO k1 fun m2 a2 x q1 q2 q3 => hQ m2 a2 x q1 (k2.trans q2) q3
  have hmv : ∀ a w, wpOpIn (Fw oR) 0 P (ops.setIfInBounds k (mvO o)) (PnK Q K) k K a w → K a w := fun a w hh => by
   unfold wpOpIn at hh
   rw [mv_get ho] at hh
   simp only at hh
   rw [if_pos (by unfold Region.wanted; rw [mvO_guard])] at hh
   exact mv_wp hh
  obtain ⟨σ, ρ, h0, h1, tr⟩ := runOps_trace hu
  have h1' : σ (ops.setIfInBounds k (mvO o)).size = u := by simpa using h1
  cases draw with
  | false =>
   have hl := text_ops hN (callBy_ok hN (exec_sound cfg hN hm KK).1) callBy_bodies tr h0 hrs.n0 hrs.top hdst (m0 := m) (oR := oR) (Q := PnK Q K) (fun m' a' k1 k2 => ⟨m', rfl, by rw [h1'] at k1; exact k1, k2⟩) (ops.setIfInBounds k (mvO o)).size 0 (by omega) (hrs.start fun i hi => by simp)
   rw [mv_size, hsz, ← List.range_eq_range', List.range_succ] at hl
   refine wpIn_region ?_
   rw [hsz, List.range_succ]
   refine swap_list ho hg hE _ _ _ (by simp) (fun a w hh => ?_) hl
   rw [wpOpsIn_cons] at hh
   exact hmv a w hh
  | true =>
   rw [if_pos rfl] at hchk
   have hchk2 : (orderOK (ops.setIfInBounds k (mvO o)).toList && checkOps P cfg fid id (callBy P cfg (execF P cfg KK)) (ops.setIfInBounds k (mvO o)).toList (ops.setIfInBounds k (mvO o)).toList (ancL (ops.setIfInBounds k (mvO o)).toList) [] s) = true := by simpa using hchk
   simp only [Bool.and_eq_true] at hchk2
   have hordM := orderOK_spec hchk2.1
   have hord : ∀ (i : Nat) (p : Oper), ops[i]? = some p → ∀ e ∈ p.after, Region.binds .any e = true → e.on < i := fun i p hp e he hb => by
    by_cases hi : i = k
    ·subst hi
     rw [ho] at hp; cases hp
     exact hordM _ _ (mv_get ho) e (by rw [mvO_after]; exact he) hb
    ·exact hordM i p (by rw [mv_ne hi]; exact hp) e he hb
   refine wpIn_region_any hm ?_
   obtain ⟨g1, g2⟩ := hrs.rel.grown (w' := { m.w with drawn := m.w.drawn + 1 }) (Nat.le_refl _) (fun _ _ => rfl) ⟨rfl, rfl, fun _ _ => rfl⟩
   have h' : RS S B N s { m with w := { m.w with drawn := m.w.drawn + 1 } } ac := ⟨hrs.h, hrs.iss, g1, fun t => (hrs.env t).mono g2, hrs.size, hrs.defers.mono g2, hrs.top, hrs.n0⟩
   have ha := any_ops hN (callBy_ok hN (exec_sound cfg hN hm KK).1) callBy_bodies tr h0 hrs.n0 hrs.top hdst hordM hchk2.2 (m0 := { m with w := { m.w with drawn := m.w.drawn + 1 } }) (oR := oR) (Q := PnK Q K)
    (fun m' a' k1 k2 => ⟨m', rfl, by rw [h1'] at k1; exact k1, g2.trans k2⟩) (ops.setIfInBounds k (mvO o)).size (Array.replicate (ops.setIfInBounds k (mvO o)).size false) (List.range (ops.setIfInBounds k (mvO o)).size) (m := { m with w := { m.w with drawn := m.w.drawn + 1 } }) (by simp) (fun i hi => by have hi := hi; simp only [mv_size] at hi; simp [hi])
    (fun i o ho hX => by
     have := (Array.getElem?_eq_some_iff.1 ho).1
     simp only [mv_size] at this
     simp [this] at hX) (fun i hi _ => by simpa using hi) (by simp) (h'.start fun i hi => by have hi := hi; simp only [mv_size] at hi; simp [hi])
   rw [mv_size] at ha
   refine swap_any ho hsz hg hord ?_ hE ops.size _ (List.range ops.size) _ _ (by simp) (by simp [hsz]) (fun i p hp hX => by
    have := (Array.getElem?_eq_some_iff.1 hp).1
    simp [this] at hX) (fun i hi _ => by simp [hi]) (by simp) (fun fuel l2 a w hall hs2 hh => ?_) hmv ha
   ·intro X hX hXo i hi
    simp only [Bool.not_true, Bool.false_or, List.all_eq_true, List.mem_range] at hanc
    have hin := hanc i hi
    obtain ⟨hlen, hsp⟩ := anc_spec (X := X) ops.toList (fun j p hp hXj e he hb => hX j p (by simpa using hp) hXj e (by simpa using he) hb)
    have hk2 : k < (anc ops.toList).length := by rw [hlen]; simp; omega
    have ha2 : (anc ops.toList)[k]? = some ((anc ops.toList)[k]) := by simp [hk2]
    refine hsp k o _ (by simpa using ho) ha2 (fun e he hb => hXo e (by simpa using he) hb) i ?_
    have e3 : (anc ops.toList).getD k [] = (anc ops.toList)[k] := by simp [List.getD, hk2]
    rw [e3] at hin
    simpa using hin
   ·have hrd : Region.ready .any (ops.setIfInBounds k (mvO o)) l2 = [] := by
     cases hr : Region.ready .any (ops.setIfInBounds k (mvO o)) l2 with
     | nil => rfl
     | cons j r =>
      exfalso
      have hj := mem_ready.1 (show j ∈ Region.ready .any (ops.setIfInBounds k (mvO o)) l2 by rw [hr]; exact List.mem_cons_self ..)
      obtain ⟨hj1, p, hp, _⟩ := hj
      have hlt := (Array.getElem?_eq_some_iff.1 hp).1
      rw [mv_size] at hlt
      have := hall j hlt
      have hl2 : j < l2.size := by omega
      simp [hl2] at hj1 this
      rw [hj1] at this; cases this
    cases fuel with
    | zero => exact hh.2
    | succ f => exact hh.1 hrd
 ·cases ht
/-! ### Operations that panic -/
theorem RS.slot [Gl] {S : Nat → Prop} {B : Bs} {N : Nat} {s : St} {m : M} {a : Act} (h : RS S B N s m a) (x : Operand) : RV S m (evalV s.env x) (a.eval x) := by
 have : EnvAt S m s.env a (match x with | .tmp t => [t] | _ => []) := fun t _ => h.env t
 exact evalV_RV h.rel this fun t ht => by subst ht; simp
theorem PanO.panic [Gl] {o : Oper} {s : St} {x : Operand} {t : Nat} {y : V} (hop : o.op = .panic x) (hv : evalV s.env x = .ifc t y) : PanO P o s (.ifc t y) s := by
 intro oR S B N m a next Q hr hQ
 have hx := hr.slot x
 rw [hv] at hx
 generalize hz : a.eval x = z at hx
 cases hx with
 | @ifc _ _ z hh =>
  refine ⟨fun _ _ => trivial, ?_⟩
  rw [Oper.semAt_eq _ _ _ (fun c hc => by rw [hop] at hc; cases hc)]
  have hrun : (execOp a.eval o).run P m.w = .halt (.panic (.iface t z)) m.w := by
   simp [execOp, hop, hz, Instr.panic]
  rw [hrun, Oper.uponIn_panic]
  exact hQ m a _ hr (.refl S m) (.ifc hh)
theorem PanO.call [Gl] (hN : Pre P cfg) {o : Oper} {s : St} {fo : Operand} {args : Array Operand} {ts : Array TypeId} {f : FuncId} {caps : List V} {v : V} {hp' : Hp} {n' c' : Nat} (hop : o.op = .call ⟨.value fo, args, ts⟩) (hfo : evalV s.env fo = .fn f caps) (hb : ∃ fn, P.funcs[f]? = some fn ∧ fn.body.isSome = true)
  (hn : s.n ≤ n') (h : PanF P f (args.toList.map (evalV s.env) ++ caps) s.hp s.n s.c v hp' n' c') : PanO P o s v { s with hp := hp', n := n', c := c' } := by
 intro oR S B N m a next Q hr hQ
 have hfv := hr.slot fo
 rw [hfo] at hfv
 obtain ⟨fn, hfn, hbody⟩ := hb
 generalize hz : a.eval fo = z at hfv
 cases hfv with
 | @fn _ _ cs hl hcs =>
  refine ⟨fun _ _ => trivial, ?_⟩
  rw [Oper.semAt_eq _ _ _ (fun c hc => by rw [hop] at hc; cases hc)]
  have hrun : (execOp a.eval o).run P m.w = .ok (.enter f (args.map a.eval ++ cs)) m.w := by
   obtain ⟨dst, op, ty, pos, af, gd⟩ := o
   simp only at hop; subst hop
   exact call_run hN.nc hz hfn hbody
  rw [hrun, Oper.uponIn_enter]
  refine ⟨fun h => by simp [Fw, Fence.wide] at h, callsIn_Fw.2 ?_⟩
  have hvs : RVs S m (args.toList.map (evalV s.env) ++ caps) (args.toList.map a.eval ++ cs.toList) := by
   refine RVs.append ?_ ⟨by simpa using hl, fun j x y hx hy => hcs j x y hx (by simpa using hy)⟩
   refine ⟨by simp, fun j x y hx hy => ?_⟩
   rw [List.getElem?_map] at hx hy
   cases hj : args.toList[j]? with
   | none => simp [hj] at hx
   | some z =>
    simp [hj] at hx hy; subst hx; subst hy
    exact hr.slot z
  have hc := h hr.top hr.h hr.iss hr.rel hvs
  have e1 : (args.toList.map a.eval ++ cs.toList).toArray = args.map a.eval ++ cs := by
   apply Array.ext'
   simp
  rw [e1] at hc
  refine Calls.mono hc ?_
  rintro e w' ⟨x, m', rfl, rfl, k1, k2, k3, k4, k5, k6⟩
  exact hQ m' a x ⟨k4, k5, k1, fun t => (hr.env t).mono k2, hr.size, hr.defers.mono k2, k6, Nat.le_trans hr.n0 hn⟩ k2 k3
/-- A function whose code panics, and that defers nothing. -/
theorem PanF.of_code [Gl] {f : FuncId} {fn : Func} {body : Code} {vs : List V} {hp : Hp} {n c : Nat} {v : V} {s' : St} (hf : P.funcs[f]? = some fn) (hb : fn.body = some body) (hok : (Nat.ble vs.length fn.ntmps && codeOKb true fn.ntmps body) = true)
  (h : PanC P body (enter vs hp n c) v s') : PanF P f vs hp n c v s'.hp s'.n s'.c := by
 intro S m xs ht hh hi hR hv
 simp only [Bool.and_eq_true] at hok
 refine callsIn_Fw.1 (callsIn_of_wp_defers (F := Fw none) (n := 0) hf hb trivial ?_)
 have h0 := enter_RS (nr := true) (N := fn.ntmps) (xs := xs.toArray) (Nat.le_refl m.w.heap.size) hh hi hR ht (by simpa using hv) (Nat.le_of_ble_eq_true hok.1)
 refine h hok.2 h0 (show RndAt none m from trivial) fun m' a' x k1 k2 k3 => ?_
 obtain ⟨_, rs, d1, _, d2, _⟩ := k1.defers
 have hd : a'.defers = [] := by rw [d1, d2 rfl]; rfl
 show LeavesIn _ _ _ _ _ _ a'.defers _ _
 rw [hd]
 exact ⟨x, m', rfl, rfl, k1.rel, k2, k3, k1.h, k1.iss, k1.top⟩
/-! ### A function that recovers -/
theorem put_put (a : Act) (d : Nat) (x : Value) : (a.put (some d) x).put (some d) x = a.put (some d) x := by
 simp [Act.put]
/-- The deferred closure, while its caller panics: what it recovers is in the slot. -/
theorem recF_sound [Gl] (hN : Pre P cfg) (hm : P.follows .mixedOrders = true) {g : FuncId} {gn : Func} {id d : Nat} {rargs : Array Operand} {rtys : Array TypeId} {rty : TypeId} {rpos : String} {raf : Array Edge} {r : List Oper} {grest : Code} {caps : List V} {v : V} {s2 t1 t : St} {eg : Ex}
  (hg : P.funcs[g]? = some gn) (hgb : gn.body = some (.seq (.region id (⟨some d, .call ⟨.builtin .recover, rargs, rtys⟩, rty, rpos, raf, none⟩ :: r).toArray false) grest)) (hsim : ∀ o, o ∈ r → simpleOp o.op = true) (hres : gn.results.toList = [])
  (hlen : caps.length ≤ gn.ntmps) (hdN : d < gn.ntmps) (hok : codeOKb true gn.ntmps (.seq (.region id (⟨some d, .move (.tmp d), rty, rpos, raf, none⟩ :: r).toArray false) grest) = true)
  (h3 : runRegion P cfg noCall g id (⟨some d, .move (.tmp d), rty, rpos, raf, none⟩ :: r).toArray false ⟨(d, v) :: envOf 0 caps, s2.hp, s2.n, s2.c, s2.n, []⟩ = some t1) (h4 : Runs P cfg g grest t1 eg t) (he : eg = .normal ∨ eg = .ret)
  {S : Nat → Prop} {m : M} (hh : m.h = s2.hp.get) (hi : m.iss = fun _ k => k < s2.c) (hR : Rel S m) (ht : Tops s2.hp s2.n) {cs : Array Value} (hv : RVs S m caps cs.toList) {x : Value} (hx : RV S m v x) :
  CallsDIn (Fw none) 0 P g cs (.panicking (chn x)) m.w (fun e u' w' => u' = .panicking [{ v := x, recovered := true }] ∧ ∃ y m', e = .returned y ∧ m'.w = w' ∧ Rel S m' ∧ Evo S m m' ∧ m'.h = t.hp.get ∧ (m'.iss = fun _ k => k < t.c) ∧ Tops t.hp t.n) := by
 generalize hopsN : (⟨some d, .move (.tmp d), rty, rpos, raf, none⟩ :: r).toArray = ops at hok h3
 refine callsDIn_of_wpSIn (F := Fw none) hg hgb trivial fun c0 csx hu => wpSIn_seq (wpSIn_region ?_)
 have r00 := enter_RS (nr := true) (N := gn.ntmps) (Nat.le_refl m.w.heap.size) hh hi hR ht hv hlen
 have r0 : RS S ⟨m.w.heap.size, [], true⟩ gn.ntmps ⟨(d, v) :: envOf 0 caps, s2.hp, s2.n, s2.c, s2.n, []⟩ m (({ tmps := cs ++ Array.replicate (gn.ntmps - cs.size) undef, defers := [] } : Act).put (some d) x) :=
  r00.put (q := ⟨v, [], [], 0, 0, false⟩) (m1 := m) ⟨hR, .refl S m, hx, rfl, by funext a b; apply propext; constructor; exact fun h => .inl h; rintro (h | ⟨h1, h2⟩); exact h; exact absurd h2 (by show ¬ b < _ + 0; omega)⟩ hdN rfl rfl
 simp only [codeOKb, Bool.and_eq_true] at hok
 unfold runRegion at h3
 simp only [Bool.false_eq_true, if_false] at h3
 split at h3
 ·rename_i u hu2
  simp only [Option.some.injEq] at h3
  obtain ⟨σ, ρ, g0, g1, tr⟩ := runOps_trace hu2
  have g1' : σ ops.size = u := by simpa using g1
  have hdst : ∀ (i : Nat) (o : Oper) (e : Nat), ops[i]? = some o → o.dst = some e → e < gn.ntmps := fun i o e ho he => by
   have := List.all_eq_true.1 hok.1 o (by simpa using Array.mem_of_getElem? ho)
   rw [he] at this
   simp only [Bool.and_eq_true, Nat.blt_eq] at this
   exact this.2
  let K : Act → World → Prop := fun a' w => ∃ m', m'.w = w ∧ RS S ⟨m.w.heap.size, [], true⟩ gn.ntmps u m' a' ∧ Evo S m m'
  have hops : wpOpsIn (Fw none) 0 P ops (Nq K) (List.range' 0 ops.size) (({ tmps := cs ++ Array.replicate (gn.ntmps - cs.size) undef, defers := [] } : Act).put (some d) x) m.w :=
   text_ops hN noCall_ok noCall_bodies tr g0 r0.n0 r0.top hdst (m0 := m) (fun m' a' k1 k2 => by rw [g1'] at k1; exact ⟨m', rfl, k1, k2⟩) ops.size 0 (by omega) (r0.start fun i hi => by simp)
  have hK : ∀ a' w, K a' w → grest.wpSIn (Fw none) 0 P (bodyPostS P gn c0 csx (fun e u' w' => u' = .panicking [{ v := x, recovered := true }] ∧ ∃ y m', e = .returned y ∧ m'.w = w' ∧ Rel S m' ∧ Evo S m m' ∧ m'.h = t.hp.get ∧ (m'.iss = fun _ k => k < t.c) ∧ Tops t.hp t.n)) a' ({ c0 with mode := .panicking [{ v := x, recovered := true }] } :: csx) w := by
   rintro a' w ⟨m', rfl, k1, k2⟩
   obtain ⟨m2, q1, q2, q3⟩ := mats_sound (cfg.mat g id) k1
   rw [← q1]
   have k3 := keepSt_sound q2 (cfg.keep g id)
   rw [h3] at k3
   refine wpSIn_of_wpIn rfl (runs_sound hN hm h4 hok.2 k3 (show RndAt none m2 from trivial) fun m3 a3 k4 k5 => ?_)
   obtain ⟨_, rs, d1, _, d2, _⟩ := k4.defers
   have hd : a3.defers = [] := by rw [d1, d2 rfl]; rfl
   obtain ⟨y, p1, p2⟩ := results_sound (fn := gn) k4 (rs := []) (by rw [hres]; rfl)
   have fin : bodyPostS P gn c0 csx (fun e u' w' => u' = .panicking [{ v := x, recovered := true }] ∧ ∃ y m', e = .returned y ∧ m'.w = w' ∧ Rel S m' ∧ Evo S m m' ∧ m'.h = t.hp.get ∧ (m'.iss = fun _ k => k < t.c) ∧ Tops t.hp t.n) .ret a3 ({ c0 with mode := .panicking [{ v := x, recovered := true }] } :: csx) m3.w :=
    ⟨hd, _, rfl, y, p1, rfl, y, m3, rfl, rfl, k4.rel, (k2.trans q3).trans k5, k4.h, k4.iss, k4.top⟩
   rcases he with rfl | rfl
   ·exact fin
   ·exact fin
  have hsz : (⟨some d, .call ⟨.builtin .recover, rargs, rtys⟩, rty, rpos, raf, none⟩ :: r).toArray.size = r.length + 1 := by simp
  have hszN : ops.size = r.length + 1 := by simp [← hopsN]
  rw [hsz, List.range_eq_range', List.range'_succ]
  rw [hszN, List.range'_succ, wpOpsIn_cons] at hops
  unfold wpOpsSIn
  simp only [List.getElem?_toArray, List.getElem?_cons_zero]
  refine ⟨fun _ _ => trivial, ?_⟩
  rw [if_pos (show Region.wanted (⟨some d, .call ⟨.builtin .recover, rargs, rtys⟩, rty, rpos, raf, none⟩ : Oper) _ = true from rfl)]
  have hrec : (execOp ({ tmps := cs ++ Array.replicate (gn.ntmps - cs.size) undef, defers := [] } : Act).eval ⟨some d, .call ⟨.builtin .recover, rargs, rtys⟩, rty, rpos, raf, none⟩).run P m.w = .ok .recover m.w := by
   simp [execOp, resolve, invoke]
   rfl
  rw [hrec]
  have hsome : recoverD (c0 :: csx) = some (x, { c0 with mode := .panicking [{ v := x, recovered := true }] } :: csx) := by simp [recoverD, hu]
  simp only [hsome]
  have hxd : (({ tmps := cs ++ Array.replicate (gn.ntmps - cs.size) undef, defers := [] } : Act).put (some d) x).eval (.tmp d) = x := by
   have hs : d < (cs ++ Array.replicate (gn.ntmps - cs.size) undef).size := by have := r00.size; simp only at this; rw [this]; exact hdN
   show ((cs ++ Array.replicate (gn.ntmps - cs.size) undef).setIfInBounds d x).getD d undef = x
   generalize cs ++ Array.replicate (gn.ntmps - cs.size) undef = ts at hs
   simp [hs]
  rcases simple_up (o := ⟨some d, .move (.tmp d), rty, rpos, raf, none⟩) (by simp [← hopsN]) rfl rfl hops with ⟨y, w', hr, hk⟩ | ⟨w', hr, hk⟩
  ·have hx2 : (execOp (({ tmps := cs ++ Array.replicate (gn.ntmps - cs.size) undef, defers := [] } : Act).put (some d) x).eval ⟨some d, .move (.tmp d), rty, rpos, raf, none⟩).run P m.w = .ok (.value ((({ tmps := cs ++ Array.replicate (gn.ntmps - cs.size) undef, defers := [] } : Act).put (some d) x).eval (.tmp d))) m.w := rfl
   rw [hx2, hxd] at hr
   simp only [Result.ok.injEq, Next.value.injEq] at hr
   obtain ⟨rfl, rfl⟩ := hr
   have hk : wpOpsIn (Fw none) 0 P ops (Nq K) (List.range' (0 + 1) r.length) ((({ tmps := cs ++ Array.replicate (gn.ntmps - cs.size) undef, defers := [] } : Act).put (some d) x).put (some d) x) m.w := hk
   rw [put_put] at hk
   refine opsS_of (ops' := ops) ?_ hK _ ?_ ?_ hk
   ·funext tm i
    unfold yielded
    cases i with
    | zero => simp [← hopsN]
    | succ i => simp [← hopsN]
   ·intro i hi
    obtain ⟨j, _, rfl⟩ := List.mem_range'.1 hi
    simp [← hopsN, Nat.add_comm 1]
   ·intro i o hi ho
    obtain ⟨j, _, rfl⟩ := List.mem_range'.1 hi
    simp [Nat.add_comm 1] at ho
    exact hsim o (List.mem_of_getElem? ho)
  ·have hx2 : (execOp (({ tmps := cs ++ Array.replicate (gn.ntmps - cs.size) undef, defers := [] } : Act).put (some d) x).eval ⟨some d, .move (.tmp d), rty, rpos, raf, none⟩).run P m.w = .ok (.value ((({ tmps := cs ++ Array.replicate (gn.ntmps - cs.size) undef, defers := [] } : Act).put (some d) x).eval (.tmp d))) m.w := rfl
   rw [hx2] at hr
   simp at hr
 ·simp at h3
/-- What is known of a function that recovers: its code up to the panic, and what the closure does then. -/
structure RecK [Gl] (P : Program) (cfg : Cfg) (f : FuncId) (vs : List V) (rr : CR) : Prop where
 ex : ∃ (fn : Func) (a0 rest : Code) (id : Nat) (mk : Oper) (fo : Operand) (tys : Array TypeId) (ty : TypeId) (pos : String) (af : Array Edge) (s0 s1 s2 : St) (v : V) (g : FuncId) (gn : Func) (idg d : Nat) (rargs : Array Operand) (rtys : Array TypeId) (rty : TypeId) (rpos : String) (raf : Array Edge) (r : List Oper) (grest : Code) (caps : List V) (t1 t : St) (eg : Ex) (rs : List V),
  P.funcs[f]? = some fn ∧ fn.body = some (.seq a0 (.seq (.region id #[mk, ⟨none, .defer ⟨.value fo, #[], tys⟩, ty, pos, af, none⟩] false) rest)) ∧
  (Nat.ble vs.length fn.ntmps && codeOKb true fn.ntmps a0 && codeOKb true fn.ntmps (.region id #[mk] false) && codeOKb true fn.ntmps rest) = true ∧
  mk.guard = none ∧ simpleOp mk.op = true ∧ Runs P cfg f a0 (enter vs [] 0 0) .normal s0 ∧ runRegion P cfg noCall f id #[mk] false s0 = some s1 ∧ evalV s1.env fo = .fn g caps ∧ PanC P rest s1 v s2 ∧
  P.funcs[g]? = some gn ∧ gn.body = some (.seq (.region idg (⟨some d, .call ⟨.builtin .recover, rargs, rtys⟩, rty, rpos, raf, none⟩ :: r).toArray false) grest) ∧ (∀ o, o ∈ r → simpleOp o.op = true) ∧ gn.results.toList = [] ∧
  (Nat.ble caps.length gn.ntmps && Nat.blt d gn.ntmps && codeOKb true gn.ntmps (.seq (.region idg (⟨some d, .move (.tmp d), rty, rpos, raf, none⟩ :: r).toArray false) grest)) = true ∧
  runRegion P cfg noCall g idg (⟨some d, .move (.tmp d), rty, rpos, raf, none⟩ :: r).toArray false ⟨(d, v) :: envOf 0 caps, s2.hp, s2.n, s2.c, s2.n, []⟩ = some t1 ∧ Runs P cfg g grest t1 eg t ∧ (eg = .normal ∨ eg = .ret) ∧
  resultsV P ⟨s2.env, t.hp, t.n, t.c, 0, []⟩ fn.results.toList = some rs ∧ finish false 0 ⟨s2.env, t.hp, t.n, t.c, 0, []⟩ (tup rs) = some rr
theorem RecK.calls [Gl] (hN : Pre P cfg) (hm : P.follows .mixedOrders = true) {f : FuncId} {vs : List V} {rr : CR} (h : RecK P cfg f vs rr) {S : Nat → Prop} {m : M} {xs : List Value} (hh : m.h = Hp.get []) (hi : m.iss = fun _ g => g < 0) (hR : Rel S m) (hv : RVs S m vs xs) :
  Calls P f xs.toArray m.w (fun e w' => ∃ x m', e = .returned x ∧ m'.w = w' ∧ Back S m rr x m') := by
 obtain ⟨fn, a0, rest, id, mk, fo, tys, ty, pos, af, s0, s1, s2, v, g, gn, idg, d, rargs, rtys, rty, rpos, raf, r, grest, caps, t1, t, eg, rs, hf, hb, hok, hgd, hsim, h0, h1, hfo, h2, hg, hgb, hrs, hres, hokg, h3, h4, heg, hrv, hfin⟩ := h.ex
 simp only [Bool.and_eq_true] at hok hokg
 refine callsIn_Fw.1 (callsIn_of_wp_defers (F := Fw none) (n := 0) hf hb trivial ?_)
 have e0 := enter_RS (nr := true) (N := fn.ntmps) (xs := xs.toArray) (Nat.le_refl m.w.heap.size) hh hi hR (show Tops [] 0 from fun _ _ => rfl) (by simpa using hv) (Nat.le_of_ble_eq_true hok.1.1.1)
 refine wpIn_seq (runs_sound hN hm h0 hok.1.1.2 e0 (show RndAt none m from trivial) fun m0 ac0 z1 z2 => ?_)
 refine wpIn_seq (wpIn_region ?_)
 unfold runRegion at h1
 simp only [Bool.false_eq_true, if_false] at h1
 split at h1
 ·rename_i u hu2
  simp only [Option.some.injEq] at h1
  obtain ⟨σ, ρ, g0, g1, tr⟩ := runOps_trace hu2
  have g1' : σ (#[mk] : Array Oper).size = u := by simpa using g1
  have hokm := hok.1.2
  simp only [codeOKb] at hokm
  have hdst : ∀ (i : Nat) (o : Oper) (e : Nat), (#[mk] : Array Oper)[i]? = some o → o.dst = some e → e < fn.ntmps := fun i o e ho he => by
   have := List.all_eq_true.1 hokm o (by simpa using Array.mem_of_getElem? ho)
   rw [he] at this
   simp only [Bool.and_eq_true, Nat.blt_eq] at this
   exact this.2
  let K : Act → World → Prop := fun a' w => ∃ m', m'.w = w ∧ RS S ⟨m.w.heap.size, [], true⟩ fn.ntmps u m' a' ∧ Evo S m m'
  have hops : wpOpsIn (Fw none) 0 P #[mk] (Nq K) (List.range' 0 1) ac0 m0.w :=
   text_ops hN noCall_ok noCall_bodies tr g0 z1.n0 z1.top hdst (m0 := m0) (fun m' a' k1 k2 => by rw [g1'] at k1; exact ⟨m', rfl, k1, z2.trans k2⟩) 1 0 (by simp) (z1.start fun i hi => by simp)
  rw [show List.range' 0 1 = [0] from rfl, wpOpsIn_cons] at hops
  have hwm : ∀ y, Region.wanted mk y = true := fun y => by simp [Region.wanted, hgd]
  have rest' : ∀ a1 w1, K a1 w1 → wpOpsIn (Fw none) 0 P #[mk, ⟨none, .defer ⟨.value fo, #[], tys⟩, ty, pos, af, none⟩] (Exit.then (rest.wpIn (Fw none) 0 P (bodyPostDIn (Fw none) 0 P fn (fun e w' => ∃ x m', e = .returned x ∧ m'.w = w' ∧ Back S m rr x m'))) (bodyPostDIn (Fw none) 0 P fn (fun e w' => ∃ x m', e = .returned x ∧ m'.w = w' ∧ Back S m rr x m'))) [1] a1 w1 := by
   rintro a1 w1 ⟨m1, rfl, k1, k2⟩
   obtain ⟨m2, q1, q2, q3⟩ := mats_sound (cfg.mat f id) k1
   rw [← q1]
   have k3 := keepSt_sound q2 (cfg.keep f id)
   rw [h1] at k3
   have hq := k3.slot fo
   rw [hfo] at hq
   generalize hvv : a1.eval fo = vv at hq
   cases hq with
   | @fn _ _ cs hl hcs =>
    rw [wpOpsIn_cons]
    unfold wpOpIn
    simp only [show (#[mk, ⟨none, .defer ⟨.value fo, #[], tys⟩, ty, pos, af, none⟩] : Array Oper)[1]? = some ⟨none, .defer ⟨.value fo, #[], tys⟩, ty, pos, af, none⟩ from rfl]
    rw [if_pos (show Region.wanted (⟨none, .defer ⟨.value fo, #[], tys⟩, ty, pos, af, none⟩ : Oper) _ = true from rfl)]
    refine ⟨fun _ _ => trivial, ?_⟩
    have hrun : (execOp a1.eval ⟨none, .defer ⟨.value fo, #[], tys⟩, ty, pos, af, none⟩).run P m2.w = .ok (.defer { target := .fn (.func g) cs, args := #[] }) m2.w := by
     simp [execOp, resolve, hvv, Deferred.ofValue]
    rw [show (Fw none).round = none from rfl, Oper.semAt_none, hrun, Oper.uponIn_defer]
    have hvs : RVs S m2 caps cs.toList := ⟨by simpa using hl, fun j x z hx hz => hcs j x z hx (by simpa using hz)⟩
    obtain ⟨hb0, rs0, d1, d2, d4, d3⟩ := k3.defers
    have hr0 : rs0 = [] := d4 rfl
    subst hr0
    have hd1 : a1.defers = [] := d1
    have r4 : RS S ⟨m2.w.heap.size, [{ target := .fn (.func g) cs, args := #[] }], true⟩ fn.ntmps s1 m2 { a1 with defers := { target := .fn (.func g) cs, args := #[] } :: a1.defers } :=
     ⟨k3.h, k3.iss, k3.rel, k3.env, k3.size, by rw [hd1]; exact Marks.nil (B := ⟨m2.w.heap.size, _, true⟩) (Nat.le_refl _), k3.top, k3.n0⟩
    refine h2 hok.2 r4 (show RndAt none m2 from trivial) fun m' a' x p1 p2 p3 => ?_
    obtain ⟨_, rs1, w1, _, w2, _⟩ := p1.defers
    have hd : a'.defers = [{ target := .fn (.func g) cs, args := #[] }] := by rw [w1, w2 rfl]; rfl
    show LeavesIn _ _ _ _ _ _ a'.defers _ _
    rw [hd]
    refine leavesIn_cons (by simp) (fun h => by simp [Fw, Fence.wide] at h) (f := g) (args := #[] ++ cs) ?_ (fun _ _ => trivial) ?_
    ·simp only [invoke]
     exact callFunc_run hN.nc hg (by rw [hgb]; rfl)
    have ecs : (#[] ++ cs : Array Value) = cs := by simp
    rw [ecs]
    refine CallsDIn.mono (recF_sound hN hm hg hgb hrs hres (Nat.le_of_ble_eq_true hokg.1.1) (by have := hokg.1.2; rwa [Nat.blt_eq] at this) hokg.2 h3 h4 heg p1.h p1.iss p1.rel p1.top
     ⟨hvs.1, fun j x z hx hz => (hvs.2 j x z hx hz).mono p2⟩ p3) ?_
    rintro e9 u' w9 ⟨rfl, y, m3, rfl, rfl, b1, b2, b3, b4, b5⟩
    have r6 : RS S ⟨m.w.heap.size, [], true⟩ fn.ntmps ⟨s2.env, t.hp, t.n, t.c, 0, []⟩ m3 { a' with defers := [] } :=
     ⟨b3, b4, b1, fun t => (p1.env t).mono b2, p1.size, Marks.nil (B := ⟨m.w.heap.size, [], true⟩) ((((k2.trans q3).trans p2).trans b2).size), b5, Nat.zero_le _⟩
    show LeavesIn _ _ _ _ _ _ [] (settle (.panicking [{ v := x, recovered := true }])) _
    have hset : settle (.panicking [{ v := x, recovered := true }]) = .returning := by simp [settle]
    rw [hset]
    obtain ⟨z, c3, c4⟩ := results_sound r6 hrv
    obtain ⟨m4, y1, y2, y3, y4, y5, y6⟩ := finish_sound r6 c4 hfin
    exact ⟨z, c3, z, m4, rfl, y1, y2, (((k2.trans q3).trans p2).trans b2).trans y3, y4, y5, y6⟩
  show wpOpsIn (Fw none) 0 P #[mk, ⟨none, .defer ⟨.value fo, #[], tys⟩, ty, pos, af, none⟩] _ [0, 1] ac0 m0.w
  rw [wpOpsIn_cons]
  unfold wpOpIn
  simp only [show (#[mk, ⟨none, .defer ⟨.value fo, #[], tys⟩, ty, pos, af, none⟩] : Array Oper)[0]? = some mk from rfl]
  rw [if_pos (hwm _)]
  refine ⟨fun _ _ => trivial, ?_⟩
  rw [Oper.semAt_eq _ _ _ (simple_nodefer hsim)]
  rcases simple_up (o := mk) rfl hsim (hwm _) hops with ⟨x, w', hrn, hk⟩ | ⟨w', hrn, hk⟩
  ·rw [hrn, Oper.uponIn_value]; exact rest' _ _ hk
  ·rw [hrn, Oper.uponIn_skip]; exact rest' _ _ hk
 ·simp at h1
end Go.Ac
end

section
namespace Go.Ac
variable {P : Program}
/-- One call alone. -/
noncomputable def oneCall (f : FuncId) (ws : List V) (rr : CR) : CallF := ⟨fun f' vs hp n c => @ite _ (f' = f ∧ vs = ws ∧ hp = [] ∧ n = 0 ∧ c = 0) (Classical.propDecidable _) (some rr) none, fun _ _ _ _ _ _ => none⟩
theorem oneCall_inv {f f' : FuncId} {ws vs : List V} {rr r : CR} {hp : Hp} {n c : Nat} (h : (oneCall f ws rr).fn f' vs hp n c = some r) : f' = f ∧ vs = ws ∧ hp = [] ∧ n = 0 ∧ c = 0 ∧ rr = r := by
 unfold oneCall at h
 simp only at h
 split at h
 ·rename_i hc
  simp only [Option.some.injEq] at h
  exact ⟨hc.1, hc.2.1, hc.2.2.1, hc.2.2.2.1, hc.2.2.2.2, h⟩
 ·cases h
theorem prim_rec [Gl] {cfg : Cfg} (hN : Pre P cfg) (hm : P.follows .mixedOrders = true) {f : FuncId} {T : List V → Option V} (hb : ∃ fn, P.funcs[f]? = some fn ∧ fn.body.isSome = true)
  (hT : ∀ vs v, T vs = some v → closeArgs noLook vs = some (vs, []) ∧ (closeT noLook v).isSome = true ∧ ∃ c, RecK P cfg f vs ⟨v, [], 0, c, []⟩) : PrimAt P f (.dat T) := by
 refine ⟨hb, fun {S m n c vs xs r} hr hR hf hal hv => ?_⟩
 unfold primV at hr
 simp only at hr
 split at hr
 ·rename_i ws ids hcl
  split at hr
  ·rename_i v hTv
   simp only [Option.some.injEq] at hr; subst hr
   obtain ⟨h1, h2, cc, hK⟩ := hT _ _ hTv
   obtain ⟨w, hw⟩ := Option.isSome_iff_exists.1 h2
   obtain ⟨m1, e1, hby⟩ := ros hR ids
   have hws : RVs S m1 ws xs := closeVs_sound (fun g1 g2 g3 => closeA_sound hR g1 g2 hby g3) hcl hv (fun i hi => hi)
   have hone : CallOK P (oneCall f ws ⟨v, [], 0, cc, []⟩) := by
    refine { ylog := ?_, yok := ?_, log := ?_, ok := ?_ }
    ·intro id g vs hp n c r h
     simp [oneCall] at h
    ·intro id g vs hp n c r h
     simp [oneCall] at h
    ·intro f' vs hp n c r h ht
     obtain ⟨rfl, rfl, rfl, rfl, rfl, rfl⟩ := oneCall_inv h
     exact ⟨Nat.le_refl _, Nat.zero_le _, fun _ _ => rfl, fun id hid => absurd hid (by omega), fun id hid => absurd hid (by omega)⟩
    ·intro f' vs hp n c r h ht
     obtain ⟨rfl, rfl, rfl, rfl, rfl, rfl⟩ := oneCall_inv h
     intro S m xs hh hi hR hv
     exact hK.calls hN hm hh hi hR hv
   have hcall : callR cfg (oneCall f ws ⟨v, [], 0, cc, []⟩) [] 0 c f ws = some ⟨v, [], [], 0, 0, false⟩ := by
    unfold callR
    have : closeArgs (if cfg.thr f then noLook else Hp.get []) ws = some (ws, []) := by
     have hl : (Hp.get [] : Look) = noLook := rfl
     rw [hl]; split <;> exact h1
    have h3 : (oneCall f ws ⟨v, [], 0, cc, []⟩).fn f ws [] 0 0 = some ⟨v, [], 0, cc, []⟩ := by
     unfold oneCall
     simp
    simp only [this, h3, hw]
    cases v.flat <;> rfl
   have := callR_sound (m := m1) hone hcall (fun _ _ => rfl) (fun i hi => by cases hi) (fun h => by cases h) (fun id g h1 h2 => absurd h2 (by show ¬ g < c + 0; omega)) hby.rel hws
   rw [hby.w] at this
   refine Calls.mono this ?_
   rintro en w' ⟨x, m', rfl, rfl, a1, a2, a3, a4, a5⟩
   refine ⟨x, m', rfl, rfl, a1, hby.evo.trans a2, a3, ?_, ?_⟩
   ·rw [a4, e1]; rfl
   ·rw [a5, hby.iss]
  ·cases hr
 ·cases hr
end Go.Ac
end

section
set_option maxRecDepth 8000
set_option linter.unusedSectionVars false
namespace Go.Ac
theorem Runs.q [Gl] {P : Program} {cfg : Cfg} {T : Tab} (hT : TabOK P cfg T) (k : Nat) {fid : FuncId} {c : Code} {s : St} (h : isN (execQ T P cfg k fid c s) = true) : Runs P cfg fid c s .normal (stQ s (execQ T P cfg k fid c s)) := by
 cases hx : execQ T P cfg k fid c s with
 | none => rw [hx] at h; cases h
 | some r =>
  obtain ⟨e, t⟩ := r
  rw [hx] at h
  cases e with
  | normal => exact execQ_runs hT _ _ _ _ _ _ hx
  | ret => cases h
  | exit i => cases h
theorem opt_some {α : Type _} [Inhabited α] {x : Option α} (h : x.isSome = true) : x = some (x.getD default) := by
 cases x with
 | none => cases h
 | some y => rfl
namespace Gw
open Go Go.Ac Go.Proofs
variable [GwR]
/-- What is panicked with: the place and the error. -/
def vE : V := .agg [.d (zi 0), .d (zi 0), .d (zi 5)]
theorem fin_of {s : St} {rs : List V} {w : V} {ids : List Nat} {cc : Nat} (h : closeT s.hp.get (tup rs) = some (w, ids)) (hf : (w.flat || ids.all (fun i => Nat.ble 0 i)) = true) (hw : s.wl = []) (hc : s.c = cc) : finish false 0 s (tup rs) = some ⟨w, [], 0, cc, []⟩ := by
 unfold finish
 simp only [Bool.false_eq_true, if_false, h, hf, if_true, Hp.trunc_zero, hw, hc]
set_option maxHeartbeats 4000000 in
theorem pan105 (hN : Pre Tryz.prog cfgE) (hm : Tryz.prog.follows .mixedOrders = true) : ∃ c, RecK Tryz.prog cfgE 105 progE ⟨resE5, [], 0, c, []⟩ := by
 refine ⟨_, ⟨⟨_, _, _, _, _, _, _, _, _, _, _, _, _, _, 170, _, _, _, _, _, _, _, _, _, _, [.ptr 1 1 0, .ptr 2 2 0], _, _, _, [.agg [.d (zi 0), .d (zi 0)], .d (zi 5)], Tryz.func105, rfl, by kernel_rfl, rfl, rfl, (Runs.q noT_ok 100000 (by kernel_rfl)), opt_some (by kernel_rfl), by kernel_rfl,
  PanC.seq_r (fid := 105) hN hm (Runs.q noT_ok 100000 (by kernel_rfl)) (PanC.seq_r (fid := 105) hN hm (Runs.q noT_ok 100000 (by kernel_rfl)) (PanC.seq_r (fid := 105) hN hm (Runs.q noT_ok 100000 (by kernel_rfl)) (PanC.seq_l (PanC.seq_r (fid := 105) hN hm (Runs.q noT_ok 100000 (by kernel_rfl)) (PanC.block (PanC.loop (PanC.seq_r (fid := 105) hN hm (Runs.q noT_ok 100000 (by kernel_rfl)) (PanC.seq_r (fid := 105) hN hm (Runs.q noT_ok 100000 (by kernel_rfl)) (PanC.seq_l (PanC.block (PanC.seq_r (fid := 105) hN hm (Runs.q noT_ok 100000 (by kernel_rfl)) (PanC.region (fid := 105) hN hm (k := 3) rfl rfl rfl (Runs.q noT_ok 100000 (by kernel_rfl)) rfl rfl (by kernel_rfl) (PanO.call hN (f := 173) rfl rfl ⟨_, Tryz.func173, rfl⟩ (Nat.le_of_ble_eq_true (by kernel_rfl)) (PanF.of_code Tryz.func173 rfl (by kernel_rfl) (PanC.seq_r (fid := 173) hN hm (Runs.q noT_ok 100000 (by kernel_rfl)) (PanC.seq_r (fid := 173) hN hm (Runs.q noT_ok 100000 (by kernel_rfl)) (PanC.seq_r (fid := 173) hN hm (Runs.q noT_ok 100000 (by kernel_rfl)) (PanC.seq_r (fid := 173) hN hm (Runs.q noT_ok 100000 (by kernel_rfl)) (PanC.seq_r (fid := 173) hN hm (Runs.q noT_ok 100000 (by kernel_rfl)) (PanC.seq_r (fid := 173) hN hm (Runs.q noT_ok 100000 (by kernel_rfl)) (PanC.seq_r (fid := 173) hN hm (Runs.q noT_ok 100000 (by kernel_rfl)) (PanC.seq_r (fid := 173) hN hm (Runs.q noT_ok 100000 (by kernel_rfl)) (PanC.seq_l (PanC.seq_r (fid := 173) hN hm (Runs.q noT_ok 100000 (by kernel_rfl)) (PanC.block (PanC.loop (PanC.seq_r (fid := 173) hN hm (Runs.q noT_ok 100000 (by kernel_rfl)) (PanC.seq_r (fid := 173) hN hm (Runs.q noT_ok 100000 (by kernel_rfl)) (PanC.seq_l (PanC.block (PanC.seq_r (fid := 173) hN hm (Runs.q noT_ok 100000 (by kernel_rfl)) (PanC.seq_r (fid := 173) hN hm (Runs.q noT_ok 100000 (by kernel_rfl)) (PanC.region (fid := 173) hN hm (k := 2) rfl rfl rfl (Runs.q noT_ok 100000 (by kernel_rfl)) rfl rfl (by kernel_rfl) (PanO.call hN (f := 244) rfl rfl ⟨_, Tryz.func244, rfl⟩ (Nat.le_of_ble_eq_true (by kernel_rfl)) (PanF.of_code Tryz.func244 rfl (by kernel_rfl) (PanC.seq_r (fid := 244) hN hm (Runs.q noT_ok 100000 (by kernel_rfl)) (PanC.seq_r (fid := 244) hN hm (Runs.q noT_ok 100000 (by kernel_rfl)) (PanC.seq_r (fid := 244) hN hm (Runs.q noT_ok 100000 (by kernel_rfl)) (PanC.seq_r (fid := 244) hN hm (Runs.q noT_ok 100000 (by kernel_rfl)) (PanC.seq_l (PanC.region (fid := 244) hN hm (k := 8) rfl rfl rfl (Runs.q noT_ok 100000 (by kernel_rfl)) rfl rfl (by kernel_rfl) (PanO.call hN (f := 246) rfl rfl ⟨_, Tryz.func246, rfl⟩ (Nat.le_of_ble_eq_true (by kernel_rfl)) (PanF.of_code Tryz.func246 rfl (by kernel_rfl) (PanC.region (fid := 246) hN hm (k := 4) rfl rfl rfl (Runs.q noT_ok 100000 (by kernel_rfl)) rfl rfl (by kernel_rfl) (PanO.call hN (f := 171) rfl rfl ⟨_, Tryz.func171, rfl⟩ (Nat.le_of_ble_eq_true (by kernel_rfl)) (PanF.of_code Tryz.func171 rfl (by kernel_rfl) (PanC.seq_r (fid := 171) hN hm (Runs.q noT_ok 100000 (by kernel_rfl)) (PanC.cond_t (by kernel_rfl) (PanC.region (fid := 171) hN hm (k := 7) rfl rfl rfl (Runs.q noT_ok 100000 (by kernel_rfl)) rfl rfl (by kernel_rfl) (PanO.panic rfl (t := 310) (y := vE) (by kernel_rfl))))))))))))))))))))))))))))))))))))))))))))))))))),
  Tryz.func170, rfl, ?_, rfl, by kernel_rfl, opt_some (by kernel_rfl), (Runs.q noT_ok 100000 (by kernel_rfl)), .inl rfl, by kernel_rfl, fin_of (ids := []) (by kernel_rfl) rfl rfl rfl⟩⟩⟩
 intro o ho
 simp at ho
 rcases ho with rfl | rfl | rfl | rfl | rfl | rfl | rfl <;> rfl
end Gw
end Go.Ac
end
