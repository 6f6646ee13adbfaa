/- The abstract machine: a region does what the abstract machine says. No conditions. -/
import Derived.Test.YtofbmhmdpeclnaaAbQ
set_option linter.unusedVariables false
set_option linter.unusedSimpArgs false
namespace Go.Ab
variable {P : Program}

theorem disj_spec {a b : List Nat} (h : disj a b = true) : ∀ x ∈ a, x ∉ b := by
  intro x hx hb
  have := List.all_eq_true.1 (List.all_eq_true.1 h x hx) x hb
  simp at this

theorem apartT_spec {a b : Tr} (h : apartT a b = true) : (∀ x ∈ a.wr, x ∉ b.rd) ∧ (∀ x ∈ a.wr, x ∉ b.wr) ∧ (∀ x ∈ b.wr, x ∉ a.rd) ∧ (a.all = true → b.wr = [] ∧ b.dc = 0) ∧ (b.all = true → a.wr = [] ∧ a.dc = 0) ∧
    (∀ d, a.ds = some d → d ∉ b.sl ∧ b.ds ≠ some d) ∧ (∀ d, b.ds = some d → d ∉ a.sl) := by
  unfold apartT at h
  simp only [Bool.and_eq_true] at h
  obtain ⟨⟨⟨⟨⟨h1, h2⟩, h3⟩, h4⟩, h5⟩, h6⟩ := h
  have h1' := disj_spec h1
  refine ⟨fun x hx hb => h1' x hx (by simp [hb]), fun x hx hb => h1' x hx (by simp [hb]), disj_spec h2, fun ha => ?_, fun hb => ?_, fun d hd => ?_, fun d hd => ?_⟩
  · rw [ha] at h3
    simp at h3; exact h3
  · rw [hb] at h4
    simp at h4; exact h4
  · rw [hd] at h5
    simp at h5; exact h5
  · rw [hd] at h6
    simpa using h6

def FH (ρ : Nat → Res) (i : Nat) (f : Nat → Option Ob) : Nat → Option Ob := hupd f (ρ i).wr
def FE (ops : Array Oper) (ρ : Nat → Res) (i : Nat) (f : Nat → V) : Nat → V := putE ((ops[i]?).bind (·.dst)) (ρ i).v f
def KH (ρ : Nat → Res) (i : Nat) : List Nat := (ρ i).wr.map (·.1)
def KE (ops : Array Oper) (i : Nat) : List Nat := ((ops[i]?).bind (·.dst)).toList

theorem acts_FH (ρ : Nat → Res) : Acts (FH ρ) (KH ρ) := ⟨fun i f g id h => hupd_loc _ _ _ _ h, fun i f id h => hupd_out _ _ _ h⟩
theorem acts_FE (ops : Array Oper) (ρ : Nat → Res) : Acts (FE ops ρ) (KE ops) := by
  refine ⟨fun i f g id h => ?_, fun i f id h => ?_⟩ <;> unfold FE putE
  · cases (ops[i]?).bind (·.dst) with
    | some d => simp only [upd, h]
    | none => exact h
  · unfold KE at h
    cases hd : (ops[i]?).bind (·.dst) with
    | some d =>
      rw [hd] at h
      exact upd_ne _ _ (by simpa using h)
    | none => rfl

/-- The state in which some of a region's operations have run. -/
structure XR (S : Nat → Prop) (m0 : M) (s0 : St) (ops : Array Oper) (σ : Nat → St) (ρ : Nat → Res) (N : Nat) (X : Nat → Bool) (m : M) (a : Act) : Prop where
  rel : Rel S m
  evo : Evo S m0 m
  h : m.h = fx (FH ρ) X s0.hp.get ops.size
  iss : m.iss = fun _ g => g < s0.c ∨ ∃ i, i < ops.size ∧ X i = true ∧ (σ i).c ≤ g ∧ g < (σ i).c + (ρ i).dc
  env : ∀ t, RV S m (fx (FE ops ρ) X s0.env.get ops.size t) (a.tmps.getD t undef)
  size : a.tmps.size = N
  defers : a.defers = []

theorem opW_top {cfg : Cfg} {fid rid : Nat} {call : CallF} {all : List Oper} {o : Oper} {s : St} {r : Res} (h : opW P cfg fid rid call all o s = some r) : r.wr.all (fun p => Nat.blt p.1 (s.n + r.dn)) = true := by
  unfold opW at h
  split at h
  · split at h
    · split at h
      · rename_i hq; simp only [Option.some.injEq] at h; subst h; exact hq
      · simp at h
    · simp at h
  · simp only [Option.some.injEq] at h; subst h; rfl
  · simp at h

section
variable {S : Nat → Prop} {m0 : M} {cfg : Cfg} {fid rid : Nat} {call : CallF} {ops : Array Oper} {σ : Nat → St} {ρ : Nat → Res} {s0 : St} {N : Nat}

theorem Trace.log (t : Trace P cfg fid rid call ops.toList ops.toList σ ρ) (h0 : σ 0 = s0) : ∀ j, j ≤ ops.size → Log s0 (σ j)
  | 0, _ => h0 ▸ Log.refl _
  | j + 1, hj => by
    obtain ⟨h1, h2⟩ := t.step j ops[j] (by simp [show j < ops.size by omega])
    rw [h2]
    exact (t.log h0 j (by omega)).trans (Log.put (opW_top h1))

theorem Trace.hp (t : Trace P cfg fid rid call ops.toList ops.toList σ ρ) (h0 : σ 0 = s0) : ∀ j, j ≤ ops.size → (σ j).hp.get = fx (FH ρ) (fun _ => true) s0.hp.get j
  | 0, _ => by rw [h0]; rfl
  | j + 1, hj => by
    obtain ⟨h1, h2⟩ := t.step j ops[j] (by simp [show j < ops.size by omega])
    rw [h2]
    show ((σ j).hp.sets (ρ j).wr).get = FH ρ j _
    rw [hp_get_sets, t.hp h0 j (by omega)]; rfl

theorem Trace.env (t : Trace P cfg fid rid call ops.toList ops.toList σ ρ) (h0 : σ 0 = s0) : ∀ j, j ≤ ops.size → (σ j).env.get = fx (FE ops ρ) (fun _ => true) s0.env.get j
  | 0, _ => by rw [h0]; rfl
  | j + 1, hj => by
    have hlt : j < ops.size := by omega
    obtain ⟨h1, h2⟩ := t.step j ops[j] (by simp [hlt])
    rw [h2]
    simp only [fx, FE]
    rw [← t.env h0 j (by omega)]
    have : (ops[j]?).bind (·.dst) = ops[j].dst := by simp [hlt]
    rw [this]
    unfold putE St.put
    cases ops[j].dst with
    | none => rfl
    | some d => exact env_get_cons _ _ _

theorem Trace.c (t : Trace P cfg fid rid call ops.toList ops.toList σ ρ) {i : Nat} (hi : i < ops.size) : (σ (i + 1)).c = (σ i).c + (ρ i).dc := by
  obtain ⟨h1, h2⟩ := t.step i ops[i] (by simp [hi])
  rw [h2]; rfl

theorem Trace.c_le (t : Trace P cfg fid rid call ops.toList ops.toList σ ρ) {i : Nat} : ∀ {j : Nat}, i ≤ j → j ≤ ops.size → (σ i).c ≤ (σ j).c := by
  intro j
  induction j with
  | zero => intro h _; have : i = 0 := by omega
            subst this; exact Nat.le_refl _
  | succ j ih =>
    intro h hj
    by_cases hij : i = j + 1
    · subst hij; exact Nat.le_refl _
    · have := ih (by omega) (by omega)
      rw [t.c (by omega)]; omega

theorem Trace.find (t : Trace P cfg fid rid call ops.toList ops.toList σ ρ) (h0 : σ 0 = s0) {g : Nat} : ∀ {j : Nat}, j ≤ ops.size → g < (σ j).c → g < s0.c ∨ ∃ i, i < j ∧ (σ i).c ≤ g ∧ g < (σ i).c + (ρ i).dc := by
  intro j
  induction j with
  | zero => intro _ h; rw [h0] at h; exact .inl h
  | succ j ih =>
    intro hj h
    rw [t.c (by omega)] at h
    rcases Nat.lt_or_ge g (σ j).c with h1 | h1
    · rcases ih (by omega) h1 with h2 | ⟨i, h2, h3⟩
      · exact .inl h2
      · exact .inr ⟨i, by omega, h3⟩
    · exact .inr ⟨j, by omega, h1, h⟩

/-- One more operation. -/
theorem XR.step (hN : NoCount P) (hc : CallOK P call) (hB : Bodies P call) (t : Trace P cfg fid rid call ops.toList ops.toList σ ρ) (h0 : σ 0 = s0) (hn0 : s0.n0 ≤ s0.n) (ht : Tops s0.hp s0.n)
    (hdst : ∀ (i : Nat) (o : Oper) (d : Nat), ops[i]? = some o → o.dst = some d → d < N) {X : Nat → Bool} {j : Nat} {o : Oper} (hj : ops[j]? = some o) (hXj : X j = false)
    (h1 : ∀ (i : Nat) (p : Oper), i < j → ops[i]? = some p → X i = false → apartT (trOf p ops.toList (ρ i)) (trOf o ops.toList (ρ j)) = true)
    (h2 : ∀ (i : Nat) (p : Oper), j < i → ops[i]? = some p → X i = true → apartT (trOf o ops.toList (ρ j)) (trOf p ops.toList (ρ i)) = true)
    {m : M} {a : Act} (hx : XR S m0 s0 ops σ ρ N X m a) {Q : Exit → Act → World → Prop} {K : Act → World → Prop} (hK : ∀ m' a', XR S m0 s0 ops σ ρ N (upd X j true) m' a' → K a' m'.w) :
    wpOp P ops Q j K a m.w := by
  have hlt : j < ops.size := (Array.getElem?_eq_some_iff.1 hj).1
  obtain ⟨t1, t2⟩ := t.step j o (by simpa using hj)
  have get : ∀ {i : Nat} (h : i < ops.size), ops[i]? = some ops[i] := fun h => by simp [h]
  -- what is read
  have readH : ∀ id ∈ (ρ j).rd, (σ j).hp.get id = m.h id := by
    intro id hid
    rw [t.hp h0 j (by omega), hx.h]
    refine (fx_read (acts_FH ρ) (fun i hi hXi hk => ?_) (by omega) (fun i hi hi' hXi hk => ?_)).symm
    · exact (apartT_spec (h1 i _ hi (get (by omega)) hXi)).1 id hk hid
    · have hne : i ≠ j := fun h => by subst h; rw [hXj] at hXi; cases hXi
      exact (apartT_spec (h2 i _ (by omega) (get hi') hXi)).2.2.1 id hk hid
  have hall : (ρ j).all = true → m.h = (σ j).hp.get ∧ m.iss = fun _ g => g < (σ j).c := by
    intro hal
    have low : ∀ i, i < j → X i = false → (ρ i).wr = [] ∧ (ρ i).dc = 0 := fun i hi hXi => by
      obtain ⟨q1, q2⟩ := (apartT_spec (h1 i _ hi (get (by omega)) hXi)).2.2.2.2.1 hal
      exact ⟨by simpa [trOf] using q1, q2⟩
    have high : ∀ i, j ≤ i → i < ops.size → X i = true → (ρ i).wr = [] ∧ (ρ i).dc = 0 := fun i hi hi' hXi => by
      have hne : i ≠ j := fun h => by subst h; rw [hXj] at hXi; cases hXi
      obtain ⟨q1, q2⟩ := (apartT_spec (h2 i _ (by omega) (get hi') hXi)).2.2.2.1 hal
      exact ⟨by simpa [trOf] using q1, q2⟩
    refine ⟨?_, ?_⟩
    · funext id
      rw [t.hp h0 j (by omega), hx.h]
      refine fx_read (acts_FH ρ) (fun i hi hXi hk => ?_) (by omega) (fun i hi hi' hXi hk => ?_)
      · unfold KH at hk; rw [(low i hi hXi).1] at hk; simp at hk
      · unfold KH at hk; rw [(high i hi hi' hXi).1] at hk; simp at hk
    · rw [hx.iss]
      funext _ g
      apply propext
      constructor
      · rintro (h | ⟨i, q1, q2, q3, q4⟩)
        · have := t.c_le (i := 0) (j := j) (by omega) (by omega); rw [h0] at this; omega
        · rcases Nat.lt_or_ge i j with hij | hij
          · have := t.c_le (i := i + 1) (j := j) (by omega) (by omega)
            rw [t.c q1] at this; omega
          · rw [(high i hij q1 q2).2] at q4; omega
      · intro h
        rcases t.find h0 (by omega) h with h | ⟨i, q1, q2, q3⟩
        · exact .inl h
        · refine .inr ⟨i, by omega, ?_, q2, q3⟩
          cases hXi : X i with
          | true => rfl
          | false => rw [(low i q1 hXi).2] at q3; omega
  have hfr : Fresh m (σ j).c (ρ j).dc := by
    intro id g g1 g2 hiss
    rw [hx.iss] at hiss
    rcases hiss with h | ⟨i, q1, q2, q3, q4⟩
    · have := t.c_le (i := 0) (j := j) (by omega) (by omega); rw [h0] at this; omega
    · have hne : i ≠ j := fun h => by subst h; rw [hXj] at q2; cases q2
      rcases Nat.lt_or_ge i j with hij | hij
      · have := t.c_le (i := i + 1) (j := j) (by omega) (by omega)
        rw [t.c q1] at this; omega
      · have := t.c_le (i := j + 1) (j := i) (by omega) (by omega)
        rw [t.c hlt] at this; omega
  have henv : EnvAt S m (σ j).env a (opdSlots o ops.toList) := by
    intro s hs
    rw [t.env h0 j (by omega)]
    have := hx.env s
    rw [fx_read (acts_FE ops ρ) (j := j) (fun i hi hXi hk => ?_) (by omega) (fun i hi hi' hXi hk => ?_)] at this
    · exact this
    · have hd : ops[i].dst = some s := by
        unfold KE at hk; simp [show i < ops.size by omega] at hk; exact hk
      exact ((apartT_spec (h1 i _ hi (get (by omega)) hXi)).2.2.2.2.2.1 s hd).1 hs
    · have hne : i ≠ j := fun h => by subst h; rw [hXj] at hXi; cases hXi
      have hd : ops[i].dst = some s := by
        unfold KE at hk; simp [hi'] at hk; exact hk
      exact (apartT_spec (h2 i _ (by omega) (get hi') hXi)).2.2.2.2.2.2 s hd hs
  have htj : Tops (σ j).hp (σ j).n := (t.log h0 j (by omega)).top hn0 ht
  refine opW_sound hN hc hB hj t1 htj readH hall hfr hx.rel henv fun x m' hA => hK m' _ ?_
  obtain ⟨k1, k2, k3, k4, k5⟩ := hA
  refine ⟨k1, hx.evo.trans k2, ?_, ?_, ?_, ?_, ?_⟩
  · rw [k4, fx_add (acts_FH ρ) hXj hlt (fun i hi hi' hXi id hid hid' => ?_), hx.h]
    · rfl
    · exact (apartT_spec (h2 i _ hi (get hi') hXi)).2.1 id hid' hid
  · rw [k5, hx.iss]
    funext _ g
    apply propext
    constructor
    · rintro ((h | ⟨i, q1, q2, q3⟩) | h)
      · exact .inl h
      · refine .inr ⟨i, q1, ?_, q3⟩
        by_cases hij : i = j
        · subst hij; simp
        · rw [upd_ne _ _ hij]; exact q2
      · exact .inr ⟨j, hlt, upd_same _ _ _, h⟩
    · rintro (h | ⟨i, q1, q2, q3⟩)
      · exact .inl (.inl h)
      · by_cases hij : i = j
        · subst hij; exact .inr q3
        · rw [upd_ne _ _ hij] at q2; exact .inl (.inr ⟨i, q1, q2, q3⟩)
  · intro s
    rw [fx_add (acts_FE ops ρ) hXj hlt (fun i hi hi' hXi id hid hid' => ?_)]
    · unfold FE putE
      rw [show (ops[j]?).bind (·.dst) = o.dst by simp [hj]]
      cases hd : o.dst with
      | none => exact (hx.env s).mono k2
      | some d =>
        have hdN := hdst j o d hj hd
        by_cases hs : s = d
        · subst hs
          simp only [upd_same, Act.put]
          have : (a.tmps.setIfInBounds s x).getD s undef = x := by simp [hx.size, hdN]
          rw [this]; exact k3
        · simp only [Act.put, upd_ne _ _ hs]
          have : (a.tmps.setIfInBounds d x).getD s undef = a.tmps.getD s undef := by
            simp [Array.getElem?_setIfInBounds_ne (Ne.symm hs)]
          rw [this]; exact (hx.env s).mono k2
    · have hdi : ops[i].dst = some id := by unfold KE at hid; simp [hi'] at hid; exact hid
      have hdj : o.dst = some id := by unfold KE at hid'; simp [hj] at hid'; exact hid'
      exact ((apartT_spec (h2 i _ hi (get hi') hXi)).2.2.2.2.2.1 id hdj).2 hdi
  · cases hd : o.dst <;> simp [Act.put, hx.size]
  · cases hd : o.dst <;> simp [Act.put, hx.defers]

end

end Go.Ab
