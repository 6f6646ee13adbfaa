/- The abstract machine: code and calls do what the abstract machine says. No conditions. -/
import Derived.Test.YtkgekafdhehleaaGreatAcA
import Derived.Test.YtkgekafdhehleaaGreatAcB
import Derived.Test.YtkgekafdhehleaaGreatAcDM
import Derived.Test.YtkgekafdhehleaaGreatAcGM
import Derived.Test.YtkgekafdhehleaaGreatAcJM
import Derived.Test.YtkgekafdhehleaaGreatAcLM
import Derived.Test.YtkgekafdhehleaaGreatAcNM
import Derived.Test.YtkgekafdhehleaaGreatAcQM
import Derived.Calls
import Derived.Orders
import Derived.Laws.World
import Derived.Laws.Sem
import Derived.Laws.Cells
import Derived.Laws.Append
import GoSem.ClaimData
import Derived.Laws.Tables
import Derived.Laws.Slices
import Derived.Laws.Strings
import Derived.Laws.Small
set_option linter.unusedVariables false
set_option linter.unusedSimpArgs false
section
set_option linter.unusedVariables false
set_option linter.unusedSimpArgs false
namespace Go.Ac
variable {P : Program}

theorem disj_spec {a b : List Nat} (h : disj a b = true) : ∀ x ∈ a, x ∉ b := by
  intro x hx hb
  have := List.all_eq_true.1 (List.all_eq_true.1 h x hx) x hb
  simp at this

theorem apartT_spec {a b : Tr} (h : apartT a b = true) : (∀ x ∈ a.wr, x ∉ b.rd) ∧ (∀ x ∈ a.wr, x ∉ b.wr) ∧ (∀ x ∈ b.wr, x ∉ a.rd) ∧ (a.all = true → b.wr = [] ∧ b.dc = 0) ∧ (b.all = true → a.wr = [] ∧ a.dc = 0) ∧
    (∀ d, a.ds = some d → d ∉ b.sl ∧ b.ds ≠ some d) ∧ (∀ d, b.ds = some d → d ∉ a.sl) := by
  unfold apartT at h
  simp only [Bool.and_eq_true] at h
  obtain ⟨⟨⟨⟨⟨h1, h2⟩, h3⟩, h4⟩, h5⟩, h6⟩ := h
  have h1' := disj_spec h1
  refine ⟨fun x hx hb => h1' x hx (by simp [hb]), fun x hx hb => h1' x hx (by simp [hb]), disj_spec h2, fun ha => ?_, fun hb => ?_, fun d hd => ?_, fun d hd => ?_⟩
  · rw [ha] at h3
    simp at h3; exact h3
  · rw [hb] at h4
    simp at h4; exact h4
  · rw [hd] at h5
    simp at h5; exact h5
  · rw [hd] at h6
    simpa using h6

def FH (ρ : Nat → Res) (i : Nat) (f : Nat → Option Ob) : Nat → Option Ob := hupd f (ρ i).wr
def FE (ops : Array Oper) (ρ : Nat → Res) (i : Nat) (f : Nat → V) : Nat → V := putE ((ops[i]?).bind (·.dst)) (ρ i).v f
def KH (ρ : Nat → Res) (i : Nat) : List Nat := (ρ i).wr.map (·.1)
def KE (ops : Array Oper) (i : Nat) : List Nat := ((ops[i]?).bind (·.dst)).toList

theorem acts_FH (ρ : Nat → Res) : Acts (FH ρ) (KH ρ) := ⟨fun i f g id h => hupd_loc _ _ _ _ h, fun i f id h => hupd_out _ _ _ h⟩
theorem acts_FE (ops : Array Oper) (ρ : Nat → Res) : Acts (FE ops ρ) (KE ops) := by
  refine ⟨fun i f g id h => ?_, fun i f id h => ?_⟩ <;> unfold FE putE
  · cases (ops[i]?).bind (·.dst) with
    | some d => simp only [upd, h]
    | none => exact h
  · unfold KE at h
    cases hd : (ops[i]?).bind (·.dst) with
    | some d =>
      rw [hd] at h
      exact upd_ne _ _ (by simpa using h)
    | none => rfl

/-- The state in which some of a region's operations have run. -/
structure XR [Gl] (S : Nat → Prop) (m0 : M) (s0 : St) (ops : Array Oper) (σ : Nat → St) (ρ : Nat → Res) (N : Nat) (X : Nat → Bool) (m : M) (a : Act) : Prop where
  rel : Rel S m
  evo : Evo S m0 m
  h : m.h = fx (FH ρ) X s0.hp.get ops.size
  iss : m.iss = fun _ g => g < s0.c ∨ ∃ i, i < ops.size ∧ X i = true ∧ (σ i).c ≤ g ∧ g < (σ i).c + (ρ i).dc
  env : ∀ t, RV S m (fx (FE ops ρ) X s0.env.get ops.size t) (a.tmps.getD t undef)
  size : a.tmps.size = N
  defers : a.defers = []

theorem opW_top [Gl] {cfg : Cfg} {fid rid : Nat} {call : CallF} {all : List Oper} {o : Oper} {s : St} {r : Res} (h : opW P cfg fid rid call all o s = some r) : r.wr.all (fun p => Nat.blt p.1 (s.n + r.dn)) = true := by
  unfold opW at h
  split at h
  · split at h
    · split at h
      · rename_i hq; simp only [Option.some.injEq] at h; subst h; exact hq
      · simp at h
    · simp at h
  · simp only [Option.some.injEq] at h; subst h; rfl
  · simp at h

section
variable {S : Nat → Prop} {m0 : M} {cfg : Cfg} {fid rid : Nat} {call : CallF} {ops : Array Oper} {σ : Nat → St} {ρ : Nat → Res} {s0 : St} {N : Nat}

theorem Trace.log [Gl] (t : Trace P cfg fid rid call ops.toList ops.toList σ ρ) (h0 : σ 0 = s0) : ∀ j, j ≤ ops.size → Log s0 (σ j)
  | 0, _ => h0 ▸ Log.refl _
  | j + 1, hj => by
    obtain ⟨h1, h2⟩ := t.step j ops[j] (by simp [show j < ops.size by omega])
    rw [h2]
    exact (t.log h0 j (by omega)).trans (Log.put (opW_top h1))

theorem Trace.hp [Gl] (t : Trace P cfg fid rid call ops.toList ops.toList σ ρ) (h0 : σ 0 = s0) : ∀ j, j ≤ ops.size → (σ j).hp.get = fx (FH ρ) (fun _ => true) s0.hp.get j
  | 0, _ => by rw [h0]; rfl
  | j + 1, hj => by
    obtain ⟨h1, h2⟩ := t.step j ops[j] (by simp [show j < ops.size by omega])
    rw [h2]
    show ((σ j).hp.sets (ρ j).wr).get = FH ρ j _
    rw [hp_get_sets, t.hp h0 j (by omega)]; rfl

theorem Trace.env [Gl] (t : Trace P cfg fid rid call ops.toList ops.toList σ ρ) (h0 : σ 0 = s0) : ∀ j, j ≤ ops.size → (σ j).env.get = fx (FE ops ρ) (fun _ => true) s0.env.get j
  | 0, _ => by rw [h0]; rfl
  | j + 1, hj => by
    have hlt : j < ops.size := by omega
    obtain ⟨h1, h2⟩ := t.step j ops[j] (by simp [hlt])
    rw [h2]
    simp only [fx, FE]
    rw [← t.env h0 j (by omega)]
    have : (ops[j]?).bind (·.dst) = ops[j].dst := by simp [hlt]
    rw [this]
    unfold putE St.put
    cases ops[j].dst with
    | none => rfl
    | some d => exact env_get_cons _ _ _

theorem Trace.c [Gl] (t : Trace P cfg fid rid call ops.toList ops.toList σ ρ) {i : Nat} (hi : i < ops.size) : (σ (i + 1)).c = (σ i).c + (ρ i).dc := by
  obtain ⟨h1, h2⟩ := t.step i ops[i] (by simp [hi])
  rw [h2]; rfl

theorem Trace.c_le [Gl] (t : Trace P cfg fid rid call ops.toList ops.toList σ ρ) {i : Nat} : ∀ {j : Nat}, i ≤ j → j ≤ ops.size → (σ i).c ≤ (σ j).c := by
  intro j
  induction j with
  | zero => intro h _; have : i = 0 := by omega
            subst this; exact Nat.le_refl _
  | succ j ih =>
    intro h hj
    by_cases hij : i = j + 1
    · subst hij; exact Nat.le_refl _
    · have := ih (by omega) (by omega)
      rw [t.c (by omega)]; omega

theorem Trace.find [Gl] (t : Trace P cfg fid rid call ops.toList ops.toList σ ρ) (h0 : σ 0 = s0) {g : Nat} : ∀ {j : Nat}, j ≤ ops.size → g < (σ j).c → g < s0.c ∨ ∃ i, i < j ∧ (σ i).c ≤ g ∧ g < (σ i).c + (ρ i).dc := by
  intro j
  induction j with
  | zero => intro _ h; rw [h0] at h; exact .inl h
  | succ j ih =>
    intro hj h
    rw [t.c (by omega)] at h
    rcases Nat.lt_or_ge g (σ j).c with h1 | h1
    · rcases ih (by omega) h1 with h2 | ⟨i, h2, h3⟩
      · exact .inl h2
      · exact .inr ⟨i, by omega, h3⟩
    · exact .inr ⟨j, by omega, h1, h⟩

/-- One more operation. -/
theorem XR.step [Gl] (hN : Pre P cfg) (hc : CallOK P call) (hB : Bodies P call) (t : Trace P cfg fid rid call ops.toList ops.toList σ ρ) (h0 : σ 0 = s0) (hn0 : s0.n0 ≤ s0.n) (ht : Tops s0.hp s0.n)
    (hdst : ∀ (i : Nat) (o : Oper) (d : Nat), ops[i]? = some o → o.dst = some d → d < N) {X : Nat → Bool} {j : Nat} {o : Oper} (hj : ops[j]? = some o) (hXj : X j = false)
    (h1 : ∀ (i : Nat) (p : Oper), i < j → ops[i]? = some p → X i = false → apartT (trOf p ops.toList (ρ i)) (trOf o ops.toList (ρ j)) = true)
    (h2 : ∀ (i : Nat) (p : Oper), j < i → ops[i]? = some p → X i = true → apartT (trOf o ops.toList (ρ j)) (trOf p ops.toList (ρ i)) = true)
    {m : M} {a : Act} (hx : XR S m0 s0 ops σ ρ N X m a) {Q : Exit → Act → World → Prop} {K : Act → World → Prop} (hK : ∀ m' a', XR S m0 s0 ops σ ρ N (upd X j true) m' a' → K a' m'.w) :
    wpOp P ops Q j K a m.w := by
  have hlt : j < ops.size := (Array.getElem?_eq_some_iff.1 hj).1
  obtain ⟨t1, t2⟩ := t.step j o (by simpa using hj)
  have get : ∀ {i : Nat} (h : i < ops.size), ops[i]? = some ops[i] := fun h => by simp [h]
  -- what is read
  have readH : ∀ id ∈ (ρ j).rd, (σ j).hp.get id = m.h id := by
    intro id hid
    rw [t.hp h0 j (by omega), hx.h]
    refine (fx_read (acts_FH ρ) (fun i hi hXi hk => ?_) (by omega) (fun i hi hi' hXi hk => ?_)).symm
    · exact (apartT_spec (h1 i _ hi (get (by omega)) hXi)).1 id hk hid
    · have hne : i ≠ j := fun h => by subst h; rw [hXj] at hXi; cases hXi
      exact (apartT_spec (h2 i _ (by omega) (get hi') hXi)).2.2.1 id hk hid
  have hall : (ρ j).all = true → m.h = (σ j).hp.get ∧ m.iss = fun _ g => g < (σ j).c := by
    intro hal
    have low : ∀ i, i < j → X i = false → (ρ i).wr = [] ∧ (ρ i).dc = 0 := fun i hi hXi => by
      obtain ⟨q1, q2⟩ := (apartT_spec (h1 i _ hi (get (by omega)) hXi)).2.2.2.2.1 hal
      exact ⟨by simpa [trOf] using q1, q2⟩
    have high : ∀ i, j ≤ i → i < ops.size → X i = true → (ρ i).wr = [] ∧ (ρ i).dc = 0 := fun i hi hi' hXi => by
      have hne : i ≠ j := fun h => by subst h; rw [hXj] at hXi; cases hXi
      obtain ⟨q1, q2⟩ := (apartT_spec (h2 i _ (by omega) (get hi') hXi)).2.2.2.1 hal
      exact ⟨by simpa [trOf] using q1, q2⟩
    refine ⟨?_, ?_⟩
    · funext id
      rw [t.hp h0 j (by omega), hx.h]
      refine fx_read (acts_FH ρ) (fun i hi hXi hk => ?_) (by omega) (fun i hi hi' hXi hk => ?_)
      · unfold KH at hk; rw [(low i hi hXi).1] at hk; simp at hk
      · unfold KH at hk; rw [(high i hi hi' hXi).1] at hk; simp at hk
    · rw [hx.iss]
      funext _ g
      apply propext
      constructor
      · rintro (h | ⟨i, q1, q2, q3, q4⟩)
        · have := t.c_le (i := 0) (j := j) (by omega) (by omega); rw [h0] at this; omega
        · rcases Nat.lt_or_ge i j with hij | hij
          · have := t.c_le (i := i + 1) (j := j) (by omega) (by omega)
            rw [t.c q1] at this; omega
          · rw [(high i hij q1 q2).2] at q4; omega
      · intro h
        rcases t.find h0 (by omega) h with h | ⟨i, q1, q2, q3⟩
        · exact .inl h
        · refine .inr ⟨i, by omega, ?_, q2, q3⟩
          cases hXi : X i with
          | true => rfl
          | false => rw [(low i q1 hXi).2] at q3; omega
  have hfr : Fresh m (σ j).c (ρ j).dc := by
    intro id g g1 g2 hiss
    rw [hx.iss] at hiss
    rcases hiss with h | ⟨i, q1, q2, q3, q4⟩
    · have := t.c_le (i := 0) (j := j) (by omega) (by omega); rw [h0] at this; omega
    · have hne : i ≠ j := fun h => by subst h; rw [hXj] at q2; cases q2
      rcases Nat.lt_or_ge i j with hij | hij
      · have := t.c_le (i := i + 1) (j := j) (by omega) (by omega)
        rw [t.c q1] at this; omega
      · have := t.c_le (i := j + 1) (j := i) (by omega) (by omega)
        rw [t.c hlt] at this; omega
  have henv : EnvAt S m (σ j).env a (opdSlots o ops.toList) := by
    intro s hs
    rw [t.env h0 j (by omega)]
    have := hx.env s
    rw [fx_read (acts_FE ops ρ) (j := j) (fun i hi hXi hk => ?_) (by omega) (fun i hi hi' hXi hk => ?_)] at this
    · exact this
    · have hd : ops[i].dst = some s := by
        unfold KE at hk; simp [show i < ops.size by omega] at hk; exact hk
      exact ((apartT_spec (h1 i _ hi (get (by omega)) hXi)).2.2.2.2.2.1 s hd).1 hs
    · have hne : i ≠ j := fun h => by subst h; rw [hXj] at hXi; cases hXi
      have hd : ops[i].dst = some s := by
        unfold KE at hk; simp [hi'] at hk; exact hk
      exact (apartT_spec (h2 i _ (by omega) (get hi') hXi)).2.2.2.2.2.2 s hd hs
  have htj : Tops (σ j).hp (σ j).n := (t.log h0 j (by omega)).top hn0 ht
  refine opW_sound hN hc hB hj t1 htj readH hall hfr hx.rel henv fun x m' hA => hK m' _ ?_
  obtain ⟨k1, k2, k3, k4, k5⟩ := hA
  refine ⟨k1, hx.evo.trans k2, ?_, ?_, ?_, ?_, ?_⟩
  · rw [k4, fx_add (acts_FH ρ) hXj hlt (fun i hi hi' hXi id hid hid' => ?_), hx.h]
    · rfl
    · exact (apartT_spec (h2 i _ hi (get hi') hXi)).2.1 id hid' hid
  · rw [k5, hx.iss]
    funext _ g
    apply propext
    constructor
    · rintro ((h | ⟨i, q1, q2, q3⟩) | h)
      · exact .inl h
      · refine .inr ⟨i, q1, ?_, q3⟩
        by_cases hij : i = j
        · subst hij; simp
        · rw [upd_ne _ _ hij]; exact q2
      · exact .inr ⟨j, hlt, upd_same _ _ _, h⟩
    · rintro (h | ⟨i, q1, q2, q3⟩)
      · exact .inl (.inl h)
      · by_cases hij : i = j
        · subst hij; exact .inr q3
        · rw [upd_ne _ _ hij] at q2; exact .inl (.inr ⟨i, q1, q2, q3⟩)
  · intro s
    rw [fx_add (acts_FE ops ρ) hXj hlt (fun i hi hi' hXi id hid hid' => ?_)]
    · unfold FE putE
      rw [show (ops[j]?).bind (·.dst) = o.dst by simp [hj]]
      cases hd : o.dst with
      | none => exact (hx.env s).mono k2
      | some d =>
        have hdN := hdst j o d hj hd
        by_cases hs : s = d
        · subst hs
          simp only [upd_same, Act.put]
          have : (a.tmps.setIfInBounds s x).getD s undef = x := by simp [hx.size, hdN]
          rw [this]; exact k3
        · simp only [Act.put, upd_ne _ _ hs]
          have : (a.tmps.setIfInBounds d x).getD s undef = a.tmps.getD s undef := by
            simp [Array.getElem?_setIfInBounds_ne (Ne.symm hs)]
          rw [this]; exact (hx.env s).mono k2
    · have hdi : ops[i].dst = some id := by unfold KE at hid; simp [hi'] at hid; exact hid
      have hdj : o.dst = some id := by unfold KE at hid'; simp [hj] at hid'; exact hid'
      exact ((apartT_spec (h2 i _ hi (get hi') hXi)).2.2.2.2.2.1 id hdj).2 hdi
  · cases hd : o.dst <;> simp [Act.put, hx.size]
  · cases hd : o.dst <;> simp [Act.put, hx.defers]

end

end Go.Ac
end

section
set_option linter.unusedVariables false
set_option linter.unusedSimpArgs false
namespace Go.Ac
variable {P : Program}

/-- A state of the abstract machine stands for a state of the model. -/
structure RS [Gl] (S : Nat → Prop) (N : Nat) (s : St) (m : M) (a : Act) : Prop where
  h : m.h = s.hp.get
  iss : m.iss = fun _ g => g < s.c
  rel : Rel S m
  env : ∀ t, RV S m (s.env.get t) (a.tmps.getD t undef)
  size : a.tmps.size = N
  defers : a.defers = []
  top : Tops s.hp s.n
  n0 : s.n0 ≤ s.n

theorem fx_none {β : Type} {F : Nat → (Nat → β) → Nat → β} {f0 : Nat → β} {X : Nat → Bool} : ∀ {k : Nat}, (∀ i, i < k → X i = false) → fx F X f0 k = f0
  | 0, _ => rfl
  | k + 1, h => by simp only [fx]; rw [h k (by omega)]; exact fx_none fun i hi => h i (by omega)

section
variable {S : Nat → Prop} {m : M} {cfg : Cfg} {fid rid : Nat} {call : CallF} {ops : Array Oper} {σ : Nat → St} {ρ : Nat → Res} {s0 : St} {N : Nat} {a : Act}

theorem RS.start [Gl] (h : RS S N s0 m a) {X : Nat → Bool} (hX : ∀ i, i < ops.size → X i = false) : XR S m s0 ops σ ρ N X m a where
  rel := h.rel
  evo := .refl S m
  h := by rw [fx_none hX]; exact h.h
  iss := by
    rw [h.iss]
    funext _ g
    apply propext
    constructor
    · exact .inl
    · rintro (h | ⟨i, q1, q2, _⟩)
      · exact h
      · rw [hX i q1] at q2; cases q2
  env t := by rw [fx_none hX]; exact h.env t
  size := h.size
  defers := h.defers

theorem XR.done [Gl] (t : Trace P cfg fid rid call ops.toList ops.toList σ ρ) (h0 : σ 0 = s0) (hn0 : s0.n0 ≤ s0.n) (ht : Tops s0.hp s0.n) {m0 : M} {X : Nat → Bool} (hX : ∀ i, i < ops.size → X i = true) (h : XR S m0 s0 ops σ ρ N X m a) : RS S N (σ ops.size) m a where
  rel := h.rel
  h := by rw [t.hp h0 _ (Nat.le_refl _), h.h]; exact fx_congr fun i hi => hX i hi
  iss := by
    rw [h.iss]
    funext _ g
    apply propext
    constructor
    · rintro (h | ⟨i, q1, q2, q3, q4⟩)
      · have := t.c_le (i := 0) (j := ops.size) (by omega) (by omega); rw [h0] at this; omega
      · have := t.c_le (i := i + 1) (j := ops.size) (by omega) (by omega)
        rw [t.c q1] at this; omega
    · intro hg
      rcases t.find h0 (Nat.le_refl _) hg with h | ⟨i, q1, q2⟩
      · exact .inl h
      · exact .inr ⟨i, q1, hX i q1, q2⟩
  env s := by
    have := h.env s
    rw [fx_congr (Y := fun _ => true) fun i hi => hX i hi, ← t.env h0 _ (Nat.le_refl _)] at this
    exact this
  size := h.size
  defers := h.defers
  top := (t.log h0 _ (Nat.le_refl _)).top hn0 ht
  n0 := by
    have := t.log h0 _ (Nat.le_refl _)
    rw [this.n0]; exact Nat.le_trans hn0 this.n

theorem text_ops [Gl] (hN : Pre P cfg) (hc : CallOK P call) (hB : Bodies P call) (t : Trace P cfg fid rid call ops.toList ops.toList σ ρ) (h0 : σ 0 = s0) (hn0 : s0.n0 ≤ s0.n) (ht : Tops s0.hp s0.n)
    (hdst : ∀ (i : Nat) (o : Oper) (d : Nat), ops[i]? = some o → o.dst = some d → d < N) {m0 : M} {Q : Exit → Act → World → Prop} (hQ : ∀ m' a', RS S N (σ ops.size) m' a' → Evo S m0 m' → Q .normal a' m'.w) :
    ∀ (n j : Nat) {m : M} {a : Act}, j + n = ops.size → XR S m0 s0 ops σ ρ N (fun i => decide (i < j)) m a → wpOps P ops Q (List.range' j n) a m.w
  | 0, j, m, a, hj, hx => by
    simp only [List.range', wpOps]
    exact hQ m a (hx.done t h0 hn0 ht fun i hi => by simp; omega) hx.evo
  | n + 1, j, m, a, hj, hx => by
    rw [List.range'_succ, wpOps_cons]
    have hlt : j < ops.size := by omega
    refine hx.step hN hc hB t h0 hn0 ht hdst (j := j) (o := ops[j]) (by simp [hlt]) (by simp) (fun i p hi _ hX => by simp at hX; omega) (fun i p hi _ hX => by simp at hX; omega) fun m' a' hx' => ?_
    refine text_ops hN hc hB t h0 hn0 ht hdst hQ n (j + 1) (by omega) ?_
    have : upd (fun i => decide (i < j)) j true = fun i => decide (i < j + 1) := by
      funext i
      by_cases hi : i = j
      · subst hi; simp
      · rw [upd_ne _ _ hi]
        apply decide_eq_decide.2; omega
    rw [← this]; exact hx'

theorem any_ops [Gl] (hN : Pre P cfg) (hc : CallOK P call) (hB : Bodies P call) (t : Trace P cfg fid rid call ops.toList ops.toList σ ρ) (h0 : σ 0 = s0) (hn0 : s0.n0 ≤ s0.n) (ht : Tops s0.hp s0.n)
    (hdst : ∀ (i : Nat) (o : Oper) (d : Nat), ops[i]? = some o → o.dst = some d → d < N)
    (hord : ∀ (i : Nat) (o : Oper), ops[i]? = some o → ∀ e ∈ o.after, Region.binds .any e = true → e.on < i)
    (hchk : checkOps P cfg fid rid call ops.toList ops.toList (anc ops.toList) [] s0 = true)
    {m0 : M} {Q : Exit → Act → World → Prop} (hQ : ∀ m' a', RS S N (σ ops.size) m' a' → Evo S m0 m' → Q .normal a' m'.w) :
    ∀ (fuel : Nat) (listed : Array Bool) (L : List Nat) {m : M} {a : Act}, listed.size = ops.size →
      (∀ (i : Nat) (o : Oper), ops[i]? = some o → listed.getD i false = true → ∀ e ∈ o.after, Region.binds .any e = true → listed.getD e.on false = true) →
      (∀ i, i < ops.size → listed.getD i false = false → i ∈ L) → L.length ≤ fuel → XR S m0 s0 ops σ ρ N (fun i => listed.getD i false) m a → wpAny P .any ops Q fuel listed a m.w := by
  have allDone : ∀ (listed : Array Bool), listed.size = ops.size → Region.ready .any ops listed = [] → ∀ i, i < ops.size → listed.getD i false = true := by
    intro listed hsz hr
    have : ∀ n i, i < n → i < ops.size → listed.getD i false = true := by
      intro n
      induction n with
      | zero => intro i h; omega
      | succ n ih =>
        intro i hi hlt
        cases hg : listed.getD i false with
        | true => rfl
        | false =>
          exfalso
          have : i ∈ Region.ready .any ops listed := by
            rw [mem_ready]
            refine ⟨?_, ops[i], by simp [hlt], fun e he hb => ?_⟩
            · have h1 : i < listed.size := by omega
              simp [h1] at hg ⊢; exact hg
            · have := hord i ops[i] (by simp [hlt]) e he hb
              exact ih e.on (by omega) (by omega)
          rw [hr] at this
          cases this
    exact fun i hi => this (i + 1) i (by omega) hi
  intro fuel
  induction fuel with
  | zero =>
    intro listed L m a hsz hcl hL hlen hx
    have hL0 : L = [] := List.length_eq_zero_iff.1 (by omega)
    subst hL0
    have hall : ∀ i, i < ops.size → listed.getD i false = true := fun i hi => by
      cases hg : listed.getD i false with
      | true => rfl
      | false => have := hL i hi hg; simp at this
    refine ⟨?_, hQ m a (hx.done t h0 hn0 ht hall) hx.evo⟩
    cases hr : Region.ready .any ops listed with
    | nil => rfl
    | cons j r =>
      exfalso
      have hj : j ∈ Region.ready .any ops listed := by rw [hr]; simp
      rw [mem_ready] at hj
      obtain ⟨h1, o, ho, _⟩ := hj
      have hlt : j < ops.size := (Array.getElem?_eq_some_iff.1 ho).1
      have h2 := hall j hlt
      have h3 : j < listed.size := by omega
      simp [h3] at h1 h2
      rw [h1] at h2; cases h2
  | succ fuel ih =>
    intro listed L m a hsz hcl hL hlen hx
    refine ⟨fun hr => hQ m a (hx.done t h0 hn0 ht (allDone listed hsz hr)) hx.evo, fun j hj => ?_⟩
    rw [mem_ready] at hj
    obtain ⟨hj1, o, ho, hpre⟩ := hj
    have hlt : j < ops.size := (Array.getElem?_eq_some_iff.1 ho).1
    have hjl : j < listed.size := by omega
    have hXj : listed.getD j false = false := by simp [hjl] at hj1 ⊢; exact hj1
    have hclX : ∀ (i : Nat) (o : Oper), ops.toList[i]? = some o → (fun i => listed.getD i false) i = true → ∀ e ∈ o.after.toList, Region.binds .any e = true → (fun i => listed.getD i false) e.on = true :=
      fun i o ho hX e he hb => hcl i o (by simpa using ho) hX e (by simpa using he) hb
    obtain ⟨ha1, ha2⟩ := anc_spec ops.toList hclX
    have hct := checkOps_trace hchk h0 t
    refine hx.step hN hc hB t h0 hn0 ht hdst ho hXj (fun i p hi hp hXi => ?_) (fun i p hi hp hXi => ?_) fun m' a' hx' => ?_
    · obtain ⟨b, hb1, _, hb3⟩ := hct j o (by simpa using ho)
      rcases hb3 i p hi (by simpa using hp) with h | h
      · have := ha2 j o b (by simpa using ho) hb1 (fun e he hbb => hpre e (by simpa using he) hbb) i (by simpa using h)
        rw [this] at hXi; cases hXi
      · exact h
    · obtain ⟨b, hb1, _, hb3⟩ := hct i p (by simpa using hp)
      rcases hb3 j o hi (by simpa using ho) with h | h
      · have := ha2 i p b (by simpa using hp) hb1 (fun e he hbb => hcl i p hp hXi e (by simpa using he) hbb) j (by simpa using h)
        have h' : listed.getD j false = true := this
        rw [h'] at hXj; cases hXj
      · exact h
    · have hup : upd (fun i => listed.getD i false) j true = fun i => (listed.setIfInBounds j true).getD i false := by
        funext i
        by_cases hi : i = j
        · subst hi; simp [hjl]
        · rw [upd_ne _ _ hi, getD_set_ne false (Ne.symm hi)]
      refine ih (listed.setIfInBounds j true) (L.erase j) (by simp [hsz]) (fun i p hp hX e he hb => ?_) (fun i hi hX => ?_) ?_ (hup ▸ hx')
      · by_cases hi : i = j
        · subst hi
          rw [ho] at hp; cases hp
          exact getD_set_true (hpre e he hb)
        · rw [getD_set_ne false (Ne.symm hi)] at hX
          exact getD_set_true (hcl i p hp hX e he hb)
      · have hne : i ≠ j := fun h => by subst h; simp [hjl] at hX
        rw [getD_set_ne false (Ne.symm hne)] at hX
        exact (List.mem_erase_of_ne hne).2 (hL i hi hX)
      · have := hL j hlt hXj
        have := List.length_erase_of_mem this
        omega

theorem orderOK_spec (h : orderOK ops.toList = true) : ∀ (i : Nat) (o : Oper), ops[i]? = some o → ∀ e ∈ o.after, Region.binds .any e = true → e.on < i := by
  intro i o ho e he hb
  have := List.all_eq_true.1 (List.all_eq_true.1 h (o, i) (by rw [List.mem_zipIdx_iff_getElem?]; simpa using ho)) e (by simpa using he)
  simp [hb] at this
  exact this

/-- The operations of a region. -/
theorem region_ops [Gl] (hN : Pre P cfg) (hm : P.follows .mixedOrders = true) (hc : CallOK P call) (hB : Bodies P call) {draw : Bool} {s' : St} (hchk : (if draw then orderOK ops.toList && checkOps P cfg fid rid call ops.toList ops.toList (anc ops.toList) [] s0 else true) = true)
    (hr : runOps P cfg fid rid call ops.toList ops.toList s0 = some s') (hdst : ∀ (i : Nat) (o : Oper) (d : Nat), ops[i]? = some o → o.dst = some d → d < N) (h : RS S N s0 m a)
    {Q : Exit → Act → World → Prop} (hQ : ∀ m' a', RS S N s' m' a' → Evo S m m' → Q .normal a' m'.w) : (Code.region rid ops draw).wp P Q a m.w := by
  obtain ⟨σ, ρ, h0, h1, t⟩ := runOps_trace hr
  have h1' : σ ops.size = s' := by simpa using h1
  cases draw with
  | false =>
    refine wp_region ?_
    rw [List.range_eq_range']
    refine text_ops hN hc hB t h0 h.n0 h.top hdst (m0 := m) (by rw [h1']; exact hQ) ops.size 0 (by omega) ?_
    exact h.start fun i hi => by simp
  | true =>
    rw [if_pos rfl] at hchk
    simp only [Bool.and_eq_true] at hchk
    refine wp_region_any hm ?_
    -- the draw itself
    obtain ⟨g1, g2⟩ := h.rel.grown (w' := { m.w with drawn := m.w.drawn + 1 }) (Nat.le_refl _) (fun _ _ => rfl) ⟨rfl, rfl, fun _ => rfl⟩
    have h' : RS S N s0 { m with w := { m.w with drawn := m.w.drawn + 1 } } a := ⟨h.h, h.iss, g1, fun t => (h.env t).mono g2, h.size, h.defers, h.top, h.n0⟩
    refine any_ops hN hc hB t h0 h.n0 h.top hdst (orderOK_spec hchk.1) hchk.2 (m0 := { m with w := { m.w with drawn := m.w.drawn + 1 } })
      (fun m' a' k1 k2 => hQ m' a' (by rw [← h1']; exact k1) (g2.trans k2)) ops.size (Array.replicate ops.size false) (List.range ops.size) (m := { m with w := { m.w with drawn := m.w.drawn + 1 } }) (by simp)
      (fun i o ho hX => by
        have := (Array.getElem?_eq_some_iff.1 ho).1
        simp [this] at hX) (fun i hi _ => by simp [hi]) (by simp) (h'.start fun i hi => by simp [hi])

end

end Go.Ac
end

section
set_option linter.unusedVariables false
set_option linter.unusedSimpArgs false
namespace Go.Ac
variable {P : Program}

section
variable {S : Nat → Prop} {m : M} {s : St} {N : Nat} {a : Act}

theorem setRow_same {w : World} {b : Nat} {cs : Array Value} {T : TypeId} {fz : Nat × Nat} (h : w.heap[b]? = some (Obj.cells cs T fz)) : (w.setRow b cs).heap = w.heap := by
  unfold World.setRow
  apply Array.ext
  · simp
  · intro i h1 h2
    simp only [Array.getElem_modify]
    split
    · rename_i he; subst he
      have : w.heap[b] = Obj.cells cs T fz := by
        obtain ⟨_, h⟩ := Array.getElem?_eq_some_iff.1 h; exact h
      rw [this]
    · rfl

theorem matOne_sound [Gl] (h : RS S N s m a) (p : Nat × Option Nat × Nat) : ∃ m', m'.w = m.w ∧ RS S N (matOne s p) m' a ∧ Evo S m m' := by
  have hfresh : ∀ id, ¬ m.iss id s.c := fun id hi => by rw [h.iss] at hi; omega
  unfold matOne
  split
  · split
    · rename_i hnil hfull
      obtain ⟨m', e1, e2, e3, e4, e5, e6⟩ := virt_obj (S := S) (m := m) h.rel (id := s.n) (o' := ⟨s.c, false, []⟩) (dc := 1) (c := s.c) rfl (hfresh _) rfl rfl
      refine ⟨m', e1, ⟨?_, ?_, e5, fun t => ?_, h.size, h.defers, fun id hid => ?_, Nat.le_succ_of_le h.n0⟩, e6⟩
      · rw [e2, h.h]; exact (hp_get_set _ _ _).symm
      · rw [e4, h.iss]; funext _ g; apply propext; simp only; omega
      · show RV S m' (Env.get ((p.1, .osl s.n s.c 0 0 p.2.2 none) :: s.env) t) _
        rw [env_get_cons]
        by_cases ht : t = p.1
        · subst ht
          simp only [upd_same]
          have := h.env p.1
          rw [hfull] at this
          generalize hv : a.tmps.getD p.1 undef = v at this ⊢
          cases this with
          | full hrd =>
            refine .osl ?_ rfl fun o ho hg => ?_
            · rw [e4]; right; omega
            · refine ⟨by rw [e2, upd_same] at ho; simp only [Option.some.injEq] at ho; subst ho; rfl, ?_⟩
              unfold OslOK
              rw [e3, upd_same]
              exact ⟨rfl, rfl, rfl, _, rfl⟩
        · rw [upd_ne _ _ ht]; exact (h.env t).mono e6
      · show (s.hp.set s.n _).get id = none
        rw [hp_get_set]
        have hid' : s.n + 1 ≤ id := hid
        rw [upd_ne _ _ (by omega)]
        exact h.top id (by omega)
    · exact ⟨m, rfl, h, .refl S m⟩
  · rename_i j hj
    split
    · rename_i id g hptr
      split
      · rename_i o hlv
        split
        · rename_i hro hcell
          obtain ⟨ho', hg⟩ := live_spec hlv
          have ho : m.h id = some o := by rw [h.h]; exact ho'
          have hne : id ≠ s.n := fun he => by subst he; rw [h.top _ (Nat.le_refl _)] at ho'; cases ho'
          obtain ⟨m1, e1, e2, e3, e4, e5, e6⟩ := virt_obj (S := S) (m := m) h.rel (id := s.n) (o' := ⟨s.c, false, []⟩) (dc := 1) (c := s.c) rfl (hfresh _) rfl rfl
          have ho1 : m1.h id = some o := by rw [e2, upd_ne _ _ hne]; exact ho
          -- where the object lies
          cases hat : m1.at_ id with
          | none =>
            have := e5.none_ id o ho1 hat
            rw [this] at hcell; simp at hcell
          | some q =>
            obtain ⟨b, base⟩ := q
            have hkind : kindL o.cells = 0 := by
              have h9 := h.env p.1
              rw [hptr] at h9
              exact h9.ptr_kind (o := o) (by rw [h.h]; exact hlv)
            obtain ⟨hS, cs, T, fz, hrow, hfz, hsz, hc⟩ := e5.cellsAt hkind ho1 hat
            obtain ⟨m', w1, w2, w3, w4, w5, w6⟩ := write_obj (S := S) (m := m1) (id := id) (o := o) (o' := ⟨g, false, o.cells.set j (.osl s.n s.c 0 0 p.2.2 none)⟩) (b := b) (base := base) (base' := base) (dc := 0) (c := s.c) (cs := cs) (cs' := cs) (w' := m1.w)
              e5 ho1 hat hro hkind hrow (setRow_same hrow).symm rfl (by simpa using hsz) (.inl ⟨hg.symm, rfl, by simp, rfl⟩) (by
                intro k v hv
                simp only [List.getElem?_set] at hv
                by_cases hk : j = k
                · subst hk
                  have hjl : j < o.cells.length := (List.getElem?_eq_some_iff.1 hcell).1
                  simp [hjl] at hv; subst hv
                  obtain ⟨g1, x, g2, g3⟩ := hc j _ hcell
                  refine ⟨rfl, x, g2, ?_⟩
                  cases g3 with
                  | full hrd =>
                    refine .osl ?_ rfl fun o2 ho2 hg2 => ?_
                    · rw [e4]; right; omega
                    · refine ⟨by rw [e2, upd_same] at ho2; simp only [Option.some.injEq] at ho2; subst ho2; rfl, ?_⟩
                      unfold OslOK
                      rw [e3, upd_same]
                      exact ⟨rfl, rfl, rfl, _, rfl⟩
                · rw [if_neg hk] at hv; exact hc k v hv)
            refine ⟨m', by rw [w1, e1], ⟨?_, ?_, w5, fun t => ((h.env t).mono e6).mono w6, h.size, h.defers, fun i hi => ?_, Nat.le_succ_of_le h.n0⟩, e6.trans w6⟩
            · rw [w2, e2, h.h]
              show _ = ((s.hp.set s.n _).set id _).get
              rw [hp_get_set, hp_get_set]
            · rw [w4, e4, h.iss]; funext _ g; apply propext; simp only; omega
            · show ((s.hp.set s.n _).set id _).get i = none
              rw [hp_get_set, hp_get_set]
              have hi' : s.n + 1 ≤ i := hi
              have hidn : id < s.n := by
                rcases Nat.lt_or_ge id s.n with h1 | h1
                · exact h1
                · rw [h.top id h1] at ho'; cases ho'
              rw [upd_ne _ _ (by omega), upd_ne _ _ (by omega)]
              exact h.top i (by omega)
        · exact ⟨m, rfl, h, .refl S m⟩
      · exact ⟨m, rfl, h, .refl S m⟩
    · exact ⟨m, rfl, h, .refl S m⟩

theorem mats_sound [Gl] : ∀ (l : List (Nat × Option Nat × Nat)) {s : St} {m : M}, RS S N s m a → ∃ m', m'.w = m.w ∧ RS S N (mats s l) m' a ∧ Evo S m m'
  | [], s, m, h => ⟨m, rfl, h, .refl S m⟩
  | p :: r, s, m, h => by
    obtain ⟨m1, g1, g2, g3⟩ := matOne_sound h p
    obtain ⟨m2, k1, k2, k3⟩ := mats_sound r g2
    exact ⟨m2, k1.trans g1, k2, g3.trans k3⟩

theorem keep_get (e : Env) : ∀ (l : List Nat) (t : Nat), (e.keep l).get t = e.get t ∨ (e.keep l).get t = .any
  | [], t => .inr rfl
  | x :: r, t => by
    simp only [Env.keep, env_get_cons]
    by_cases h : t = x
    · subst h; simp
    · rw [upd_ne _ _ h]; exact keep_get e r t

theorem keepSt_sound [Gl] (h : RS S N s m a) (l : Option (List Nat)) : RS S N (keepSt s l) m a := by
  cases l with
  | none => exact h
  | some l =>
    refine ⟨h.h, h.iss, h.rel, fun t => ?_, h.size, h.defers, h.top, h.n0⟩
    rcases keep_get s.env l t with e | e
    · show RV S m ((s.env.keep l).get t) _
      rw [e]; exact h.env t
    · show RV S m ((s.env.keep l).get t) _
      rw [e]; exact .any _

end

theorem matOne_log (s : St) (p : Nat × Option Nat × Nat) : Log s (matOne s p) := by
  unfold matOne
  split
  · split
    · refine ⟨rfl, Nat.le_succ _, Nat.le_succ _, fun h0 ht id hid => ?_, fun h0 id hid hw => ⟨hw, ?_⟩, fun h0 id hid hn => ?_⟩
      · show (s.hp.set s.n _).get id = none
        rw [hp_get_set]
        have hid' : s.n + 1 ≤ id := hid
        rw [upd_ne _ _ (by omega)]
        exact ht id (by omega)
      · show (s.hp.set s.n _).get id = _
        rw [hp_get_set, upd_ne _ _ (by omega)]
      · have hn' : (s.hp.set s.n ⟨s.c, false, []⟩).get id = none := hn
        rw [hp_get_set, upd_ne _ _ (by omega)] at hn'
        exact hn'
    · exact Log.refl s
  · split
    · rename_i id g hptr
      split
      · rename_i o hlv
        split
        · rename_i hro hcell
          obtain ⟨ho', hg⟩ := live_spec hlv
          refine ⟨rfl, Nat.le_succ _, Nat.le_succ _, fun h0 ht i hi => ?_, fun h0 i hi hw => ?_, fun h0 i hi hn => ?_⟩
          · show ((s.hp.set s.n _).set id _).get i = none
            rw [hp_get_set, hp_get_set]
            have hi' : s.n + 1 ≤ i := hi
            have hidn : id < s.n := by
              rcases Nat.lt_or_ge id s.n with h1 | h1
              · exact h1
              · rw [ht id h1] at ho'; cases ho'
            rw [upd_ne _ _ (by omega), upd_ne _ _ (by omega)]
            exact ht i (by omega)
          · obtain ⟨h1, h2⟩ := addNew_mem hw
            refine ⟨h1, ?_⟩
            have := h2 hi
            simp only [List.map_cons, List.map_nil, List.mem_singleton] at this
            show ((s.hp.set s.n _).set id _).get i = _
            rw [hp_get_set, hp_get_set, upd_ne _ _ this, upd_ne _ _ (by omega)]
          · have hn' : ((s.hp.set s.n ⟨s.c, false, []⟩).set id _).get i = none := hn
            rw [hp_get_set, hp_get_set] at hn'
            by_cases hid : i = id
            · subst hid; simp at hn'
            · rw [upd_ne _ _ hid, upd_ne _ _ (by omega)] at hn'; exact hn'
        · exact Log.refl s
      · exact Log.refl s
    · exact Log.refl s

theorem mats_log : ∀ (l : List (Nat × Option Nat × Nat)) (s : St), Log s (mats s l)
  | [], s => Log.refl s
  | p :: r, s => (matOne_log s p).trans (mats_log r _)

theorem keepSt_log (s : St) (l : Option (List Nat)) : Log s (keepSt s l) := by
  cases l <;> exact ⟨rfl, Nat.le_refl _, Nat.le_refl _, fun _ h => h, fun _ _ _ h => ⟨h, rfl⟩, fun _ _ _ h => h⟩

theorem runOps_log [Gl] {cfg : Cfg} {fid rid : Nat} {call : CallF} {all : List Oper} : ∀ {l : List Oper} {s s' : St}, runOps P cfg fid rid call all l s = some s' → Log s s'
  | [], s, s', h => by simp [runOps] at h; subst h; exact Log.refl s
  | o :: r, s, s', h => by
    simp only [runOps] at h
    split at h
    · rename_i q hq
      exact (Log.put (opW_top hq)).trans (runOps_log h)
    · simp at h

theorem runRegion_log [Gl] {cfg : Cfg} {call : CallF} {fid id : Nat} {ops : Array Oper} {draw : Bool} {s s' : St} (h : runRegion P cfg call fid id ops draw s = some s') : Log s s' := by
  unfold runRegion at h
  split at h
  · simp at h
  · split at h
    · rename_i t ht
      simp only [Option.some.injEq] at h; subst h
      exact ((runOps_log ht).trans (mats_log _ _)).trans (keepSt_log _ _)
    · simp at h

theorem trunc_get (n : Nat) : ∀ (h : Hp) (id : Nat), (Hp.trunc n h).get id = if id < n then h.get id else none
  | [], id => by simp [Hp.trunc, Hp.get]
  | (k, o) :: r, id => by
    simp only [Hp.trunc]
    split
    · rename_i hk
      rw [Nat.blt_eq] at hk
      simp only [Hp.get]
      by_cases he : k = id
      · subst he; simp [hk]
      · rw [beq_ff he]; simp only; exact trunc_get n r id
    · rename_i hk
      have hk' : ¬ k < n := fun h => by rw [← Nat.blt_eq] at h; rw [h] at hk; cases hk
      simp only [Hp.get]
      by_cases he : k = id
      · subst he; rw [trunc_get n r k]; simp [hk']
      · rw [beq_ff he]; simp only; exact trunc_get n r id

/-- The state at the end of a round of a loop. -/
theorem cut_log {s t : St} (h : Log s t) : Log s { t with hp := Hp.trunc s.n t.hp, n := s.n } := by
  refine ⟨h.n0, Nat.le_refl _, h.c, fun h0 ht id hid => ?_, fun h0 id hid hw => ?_, fun h0 id hid hn => ?_⟩
  · show (Hp.trunc s.n t.hp).get id = none
    rw [trunc_get, if_neg (by have : s.n ≤ id := hid; omega)]
  · obtain ⟨h1, h2⟩ := h.wl h0 id hid hw
    refine ⟨h1, ?_⟩
    show (Hp.trunc s.n t.hp).get id = _
    rw [trunc_get, if_pos (by omega)]; exact h2
  · have hn' : (Hp.trunc s.n t.hp).get id = none := hn
    rw [trunc_get, if_pos (by omega)] at hn'
    exact h.stay h0 id hid hn'

theorem execF_log [Gl] {cfg : Cfg} : ∀ {k : Nat} {fid : FuncId} {c : Code} {s s' : St} {e : Ex}, execF P cfg k fid c s = some (e, s') → Log s s'
  | 0, fid, c, s, s', e, h => by simp [execF] at h
  | k + 1, fid, c, s, s', e, h => by
    cases c <;> simp only [execF] at h <;> try (simp at h; done)
    case skip => simp at h; obtain ⟨_, rfl⟩ := h; exact Log.refl _
    case label l => simp at h; obtain ⟨_, rfl⟩ := h; exact Log.refl _
    case ret => simp at h; obtain ⟨_, rfl⟩ := h; exact Log.refl _
    case exit id => simp at h; obtain ⟨_, rfl⟩ := h; exact Log.refl _
    case seq x y =>
      split at h
      · rename_i t ht; exact (execF_log ht).trans (execF_log h)
      · exact execF_log h
    case cond q x y =>
      split at h
      · exact execF_log h
      · exact execF_log h
      · simp at h
    case block id b =>
      split at h
      · rename_i i t ht
        split at h <;> (simp at h; obtain ⟨_, rfl⟩ := h; exact execF_log ht)
      · exact execF_log h
    case loop b =>
      split at h
      · rename_i t ht
        refine Log.trans ?_ (execF_log h)
        split
        · exact execF_log ht
        · exact cut_log (execF_log ht)
      · exact execF_log h
    case region id ops draw =>
      simp only [Option.map_eq_some_iff] at h
      obtain ⟨t, ht, h⟩ := h
      simp at h; obtain ⟨_, rfl⟩ := h
      exact runRegion_log ht

end Go.Ac
end

section
set_option linter.unusedVariables false
set_option linter.unusedSimpArgs false
namespace Go.Ac
variable {P : Program}

def Ex.toExit : Ex → Exit
  | .normal => .normal
  | .exit id => .exit id
  | .ret => .ret

/-! ### Loops -/

def LoopWp (P : Program) (c : Code) (Q : Exit → Act → World → Prop) (a : Act) (w : World) : Prop :=
  ∀ (b : Frame) (k : List Item) (cs : List Frame), ∃ e a' w', Q e a' w' ∧ Arrives P (lone (b.at a (.code c :: .inLoop c :: k)) cs w) b k cs e a' w'

theorem LoopWp.wp {c : Code} {Q : Exit → Act → World → Prop} {a : Act} {w : World} (h : LoopWp P c Q a w) : (Code.loop c).wp P Q a w :=
  fun b k cs => let ⟨e, a', w', q, r⟩ := h b k cs; ⟨e, a', w', q, .of_steps (.one step_loop) r⟩

theorem LoopWp.round {c : Code} {Q : Exit → Act → World → Prop} {a : Act} {w : World} (h : c.wp P (Exit.then (LoopWp P c Q) Q) a w) : LoopWp P c Q a w := by
  intro b k cs
  obtain ⟨e, a₁, w₁, hq, harr⟩ := h b (.inLoop c :: k) cs
  cases e with
  | normal =>
    obtain ⟨e₂, a₂, w₂, hq₂, harr₂⟩ := hq b k cs
    exact ⟨e₂, a₂, w₂, hq₂, .of_steps (Steps.trans harr (.one step_inLoop)) harr₂⟩
  | exit id => exact ⟨_, a₁, w₁, hq, .pass (x := .inLoop c) rfl (fun _ _ => .inl (by simp)) harr⟩
  | goto l => exact ⟨_, a₁, w₁, hq, .pass (x := .inLoop c) rfl (fun _ _ => .inl (by simp)) harr⟩
  | ret => exact ⟨_, a₁, w₁, hq, .pass (x := .inLoop c) rfl (fun _ _ => .inl (by simp)) harr⟩
  | panic ch => exact ⟨_, a₁, w₁, hq, .pass (x := .inLoop c) rfl (fun _ _ => .inl (by simp)) harr⟩
  | outgrown => exact ⟨_, a₁, w₁, hq, .pass (x := .inLoop c) rfl (fun _ _ => .inl (by simp)) harr⟩

/-! ### Results -/

section
variable {S : Nat → Prop} {m : M} {s : St} {N : Nat} {a : Act}

theorem loadV_ptr {look : Look} {i : TI} {p : V} {v : Value} {r : Res} (h : loadV look i p = some r) (hl : look = m.h) (hv : RV S m p v) : ∃ ad, v = .pointer (some ad) := by
  unfold loadV at h
  split at h
  · rename_i id g off
    cases hlv : live look id g with
    | none => simp [hlv] at h
    | some o =>
      obtain ⟨_, _, b, base, _, rfl⟩ := hv.ptr_live (hl ▸ hlv)
      exact ⟨_, rfl⟩
  · cases hv with | vref f hf hr => exact ⟨_, rfl⟩
  · simp at h

def resultOf (tmps : Array Value) : ResultVar → Sem Value
  | .tmp t => pure (tmps.getD t undef)
  | .cell a t => do loadVar t (← asAddr (tmps.getD a undef))

theorem resultV_sound [Gl] (h : RS S N s m a) {r : ResultVar} {v : V} (hr : resultV P s r = some v) : ∃ x, (resultOf a.tmps r).run P m.w = .ok x m.w ∧ RV S m v x := by
  cases r with
  | tmp t => simp [resultV] at hr; subst hr; exact ⟨_, rfl, h.env t⟩
  | cell q t =>
    simp only [resultV, Option.bind_eq_some_iff, Option.map_eq_some_iff] at hr
    obtain ⟨i, hi, y, hy, rfl⟩ := hr
    obtain ⟨x, g1, g2⟩ := loadV_sound (c := 0) hi hy h.h.symm h.rel (h.env q)
    obtain ⟨ad, had⟩ := loadV_ptr hy h.h.symm (h.env q)
    refine ⟨x, ?_, g2.2.2.1⟩
    rw [had] at g1
    simp only [resultOf, had, asAddr, Sem.run_bind, Sem.run_pure, Result.andThen_ok]
    simpa [Instr.loadAt, Instr.sureAddr] using g1

theorem resultsV_sound [Gl] (h : RS S N s m a) : ∀ {l : List ResultVar} {vs : List V}, resultsV P s l = some vs → ∃ xs, (l.mapM (resultOf a.tmps)).run P m.w = .ok xs m.w ∧ RVs S m vs xs
  | [], vs, hr => by simp [resultsV] at hr; subst hr; exact ⟨[], by simp, .nil⟩
  | r :: l, vs, hr => by
    simp only [resultsV] at hr
    split at hr
    · rename_i v us h1 h2
      simp only [Option.some.injEq] at hr; subst hr
      obtain ⟨x, g1, g2⟩ := resultV_sound h h1
      obtain ⟨xs, g3, g4⟩ := resultsV_sound h h2
      exact ⟨x :: xs, by simp [List.mapM_cons, Sem.run_bind, g1, g3], .cons g2 g4⟩
    · simp at hr

theorem results_sound [Gl] (h : RS S N s m a) {fn : Func} {rs : List V} (hr : resultsV P s fn.results.toList = some rs) : ∃ x, (results fn a.tmps).run P m.w = .ok x m.w ∧ RV S m (tup rs) x := by
  obtain ⟨xs, g1, g2⟩ := resultsV_sound h hr
  have e : results fn a.tmps = (do let vs ← fn.results.mapM (resultOf a.tmps); pure (if h : vs.size = 1 then vs[0] else .tuple vs)) := by
    unfold results
    congr 1
  have hrun : (fn.results.mapM (resultOf a.tmps)).run P m.w = .ok xs.toArray m.w := by
    rw [Array.mapM_eq_mapM_toList]
    simp [g1]
  rw [e]
  simp only [Sem.run_bind, hrun, Result.andThen_ok, Sem.run_pure]
  refine ⟨_, rfl, ?_⟩
  cases rs with
  | nil =>
    have : xs = [] := List.length_eq_zero_iff.1 (by rw [← g2.1]; rfl)
    subst this
    exact g2.tuple
  | cons v r =>
    obtain ⟨x, ys, rfl, k1, k2⟩ := g2.cases
    cases r with
    | nil =>
      have : ys = [] := List.length_eq_zero_iff.1 (by rw [← k2.1]; rfl)
      subst this
      simpa [tup] using k1
    | cons u r =>
      obtain ⟨y, zs, rfl, k3, k4⟩ := k2.cases
      simp only [tup]
      rw [dif_neg (by simp)]
      exact g2.tuple

/-- The objects that a loop's round has made are let go. -/
theorem trunc_sound [Gl] (h : RS S N s m a) {n : Nat} (hn : s.n0 ≤ n) : ∃ m', m'.w = m.w ∧ RS S N { s with hp := Hp.trunc n s.hp, n := n } m' a ∧ Evo S m m' := by
  obtain ⟨g1, g2⟩ := h.rel.less (h' := (Hp.trunc n s.hp).get) (fun id o ho => by
    rw [trunc_get] at ho
    split at ho
    · rw [h.h]; exact ho
    · cases ho)
  refine ⟨{ m with h := (Hp.trunc n s.hp).get }, rfl, ⟨rfl, h.iss, g1, fun t => (h.env t).mono g2, h.size, h.defers, fun id hid => ?_, hn⟩, g2⟩
  show (Hp.trunc n s.hp).get id = none
  rw [trunc_get, if_neg (by have : n ≤ id := hid; omega)]

/-- What a caller is handed. -/
theorem finish_sound [Gl] (h : RS S N s m a) {thr : Bool} {n : Nat} {v : V} {x : Value} {r : CR} (hv : RV S m v x) (hr : finish thr n s v = some r) : ∃ m', m'.w = m.w ∧ Rel S m' ∧ Evo S m m' ∧ RV S m' r.v x ∧ m'.h = r.hp.get ∧ m'.iss = fun _ g => g < r.c := by
  unfold finish at hr
  split at hr
  · rename_i w ids hcl
    have hcl' : closeT s.hp.get v = some (w, ids) := by
      cases thr with
      | true => simp at hcl
      | false => simpa using hcl
    split at hr
    · rename_i hok
      simp only [Option.some.injEq] at hr; subst hr
      obtain ⟨m1, e1, hb⟩ := ros h.rel ids
      have hw := closeT_sound h.rel (by rw [h.h]; exact hcl') hv hb (fun i hi => hi)
      cases hfl : w.flat with
      | true =>
        obtain ⟨g1, g2⟩ := h.rel.less (h' := (Hp.trunc n s.hp).get) (fun id o ho => by
          rw [trunc_get] at ho
          split at ho
          · rw [h.h]; exact ho
          · cases ho)
        exact ⟨{ m with h := (Hp.trunc n s.hp).get }, rfl, g1, g2, hw.flat hfl, rfl, h.iss⟩
      | false =>
        rw [hfl] at hok
        simp only [Bool.false_or] at hok
        have hsame : ∀ id, id < n → m1.h id = m.h id := fun id hid => hb.not id fun hm => by
          have := List.all_eq_true.1 hok id hm
          have := Nat.le_of_ble_eq_true this
          omega
        obtain ⟨g1, g2⟩ := hb.rel.less (h' := (Hp.trunc n s.hp).get) (fun id o ho => by
          rw [trunc_get] at ho
          split at ho
          · rename_i hlt; rw [hsame id hlt, h.h]; exact ho
          · cases ho)
        exact ⟨{ m1 with h := (Hp.trunc n s.hp).get }, hb.w, g1, hb.evo.trans g2, hw.mono g2, rfl, by show m1.iss = _; rw [hb.iss]; exact h.iss⟩
    · simp at hr
  · simp only [Option.some.injEq] at hr; subst hr
    exact ⟨m, rfl, h.rel, .refl S m, hv, h.h, h.iss⟩

end

theorem envOf_get : ∀ (vs : List V) (k t : Nat), (envOf k vs).get t = if k ≤ t then (vs[t - k]?).getD .any else .any
  | [], k, t => by simp [envOf, Env.get]
  | v :: r, k, t => by
    simp only [envOf, env_get_cons]
    by_cases h : t = k
    · subst h; simp
    · rw [upd_ne _ _ h, envOf_get r (k + 1) t]
      by_cases hk : k ≤ t
      · rw [if_pos hk, if_pos (by omega)]
        rw [show t - k = (t - (k + 1)) + 1 by omega]; simp
      · rw [if_neg hk, if_neg (by omega)]

theorem finish_log {s0 s : St} {thr : Bool} {v : V} {r : CR} {hp : Hp} {n c : Nat} {vs : List V} (hl : Log (enter vs hp n c) s) (hr : finish thr n s v = some r) (ht : Tops hp n) : LogOK hp n c r := by
  have top := hl.top (Nat.le_refl _) ht
  have wl : ∀ id, id < n → id ∉ s.wl → s.hp.get id = hp.get id := fun id hid hw => (hl.wl (Nat.le_refl _) id hid hw).2
  have stay : ∀ id, id < n → s.hp.get id = none → hp.get id = none := fun id hid hn => hl.stay (Nat.le_refl _) id hid hn
  unfold finish at hr
  split at hr
  · split at hr
    · simp only [Option.some.injEq] at hr; subst hr
      refine ⟨Nat.le_refl _, hl.c, fun id hid => ?_, fun id hid hw => ?_, fun id hid hn => ?_⟩
      · show (Hp.trunc n s.hp).get id = none
        rw [trunc_get, if_neg (by have : n ≤ id := hid; omega)]
      · show (Hp.trunc n s.hp).get id = _
        rw [trunc_get, if_pos hid]; exact wl id hid hw
      · have hn' : (Hp.trunc n s.hp).get id = none := hn
        rw [trunc_get, if_pos hid] at hn'; exact stay id hid hn'
    · simp at hr
  · simp only [Option.some.injEq] at hr; subst hr
    exact ⟨hl.n, hl.c, top, wl, stay⟩

/-! ### Code -/

def Sound [Gl] (P : Program) (cfg : Cfg) (k : Nat) : Prop := ∀ {fid : FuncId} {c : Code} {s s' : St} {e : Ex}, execF P cfg k fid c s = some (e, s') → ∀ {S : Nat → Prop} {N : Nat} {m : M} {a : Act}, codeOK N c = true → RS S N s m a →
  ∀ {Q : Exit → Act → World → Prop}, (∀ m' a', RS S N s' m' a' → Evo S m m' → Q e.toExit a' m'.w) → c.wp P Q a m.w

def LoopSound [Gl] (P : Program) (cfg : Cfg) (k : Nat) : Prop := ∀ {fid : FuncId} {c : Code} {s s' : St} {e : Ex}, execF P cfg k fid (.loop c) s = some (e, s') → ∀ {S : Nat → Prop} {N : Nat} {m : M} {a : Act}, codeOK N c = true → RS S N s m a →
  ∀ {Q : Exit → Act → World → Prop}, (∀ m' a', RS S N s' m' a' → Evo S m m' → Q e.toExit a' m'.w) → LoopWp P c Q a m.w

theorem callBy_inv {cfg : Cfg} {run : FuncId → Code → St → Option (Ex × St)} {f : FuncId} {vs : List V} {hp : Hp} {n c : Nat} {r : CR} (h : callBy P cfg run f vs hp n c = some r) :
    ∃ fn body e s rs, P.funcs[f]? = some fn ∧ fn.body = some body ∧ vs.length ≤ fn.ntmps ∧ codeOK fn.ntmps body = true ∧ run f body (enter vs hp n c) = some (e, s) ∧ (e = .normal ∨ e = .ret) ∧
      resultsV P s fn.results.toList = some rs ∧ finish (cfg.thr f) n s (tup rs) = some r := by
  unfold callBy at h
  split at h
  · rename_i fn hfn
    split at h
    · rename_i body hbody
      split at h
      · rename_i hok
        simp only [Bool.and_eq_true] at hok
        unfold leave at h
        split at h
        · rename_i s hs
          split at h
          · rename_i rs hrs; exact ⟨fn, body, .normal, s, rs, hfn, hbody, Nat.le_of_ble_eq_true hok.1, hok.2, hs, .inl rfl, hrs, h⟩
          · simp at h
        · rename_i s hs
          split at h
          · rename_i rs hrs; exact ⟨fn, body, .ret, s, rs, hfn, hbody, Nat.le_of_ble_eq_true hok.1, hok.2, hs, .inr rfl, hrs, h⟩
          · simp at h
        · simp at h
      · simp at h
    · simp at h
  · simp at h

theorem callBy_bodies {cfg : Cfg} {run : FuncId → Code → St → Option (Ex × St)} : Bodies P (callBy P cfg run) := by
  intro f vs hp n c r h
  obtain ⟨fn, body, e, s, rs, h1, h2, _⟩ := callBy_inv h
  exact ⟨fn, h1, by rw [h2]; rfl⟩

theorem callBy_ok [Gl] {cfg : Cfg} {k : Nat} (hs : Sound P cfg k) : CallOK P (callBy P cfg (execF P cfg k)) where
  log := by
    intro f vs hp n c r h ht
    obtain ⟨fn, body, e, s, rs, h1, h2, h3, h4, h5, h6, h7, h8⟩ := callBy_inv h
    exact finish_log (s0 := s) (execF_log h5) h8 ht
  ok := by
    intro f vs hp n c r h ht S m xs hh hi hR hv
    obtain ⟨fn, body, e, s, rs, h1, h2, h3, h4, h5, h6, h7, h8⟩ := callBy_inv h
    refine calls_of_wp h1 h2 ?_
    have hlen : xs.length ≤ fn.ntmps := by rw [← hv.1]; exact h3
    have h0 : RS S fn.ntmps (enter vs hp n c) m { tmps := xs.toArray ++ Array.replicate (fn.ntmps - xs.toArray.size) undef, defers := [] } := by
      refine ⟨hh, hi, hR, fun t => ?_, by simp; omega, rfl, ht, Nat.le_refl _⟩
      show RV S m ((envOf 0 vs).get t) _
      rw [envOf_get, if_pos (Nat.zero_le t)]
      cases hvt : vs[t - 0]? with
      | none => exact .any _
      | some v =>
        simp only [Nat.sub_zero] at hvt
        have hlt : t < xs.length := by rw [← hv.1]; exact (List.getElem?_eq_some_iff.1 hvt).1
        have := hv.2 t v xs[t] hvt (by simp [hlt])
        have e : (xs.toArray ++ Array.replicate (fn.ntmps - xs.toArray.size) undef).getD t undef = xs[t] := by
          have h1 : t < xs.length + (fn.ntmps - xs.length) := by omega
          simp [Array.getD, Array.getElem_append, hlt, h1]
        show RV S m v ((xs.toArray ++ Array.replicate (fn.ntmps - xs.toArray.size) undef).getD t undef)
        rw [e]; exact this
    refine hs h5 h4 h0 fun m' a' k1 k2 => ?_
    obtain ⟨x, g1, g2⟩ := results_sound k1 h7
    obtain ⟨m2, q1, q2, q3, q4, q5, q6⟩ := finish_sound k1 g2 h8
    have hR' : ∃ x_1 m'_1, Ending.returned x = Ending.returned x_1 ∧ m'_1.w = m'.w ∧ Back S m r x_1 m'_1 := ⟨x, m2, rfl, q1, q2, k2.trans q3, q4, q5, q6⟩
    rcases h6 with rfl | rfl
    · exact ⟨k1.defers, x, g1, hR'⟩
    · exact ⟨k1.defers, x, g1, hR'⟩

theorem exec_sound [Gl] (cfg : Cfg) (hN : Pre P cfg) (hm : P.follows .mixedOrders = true) : ∀ k, Sound P cfg k ∧ LoopSound P cfg k
  | 0 => ⟨fun {fid c s s' e} h => by simp [execF] at h, fun {fid c s s' e} h => by simp [execF] at h⟩
  | k + 1 => by
    obtain ⟨ihS, ihL⟩ := exec_sound cfg hN hm k
    have hLoop : LoopSound P cfg (k + 1) := by
      intro fid c s s' e h S N m a hok hr Q hQ
      simp only [execF] at h
      split at h
      · rename_i t ht
        refine LoopWp.round (ihS ht hok hr fun m1 a1 k1 k2 => ?_)
        show LoopWp P c Q a1 m1.w
        have hl := execF_log ht
        split at h
        · exact ihL h hok k1 fun m' a' q1 q2 => hQ m' a' q1 (k2.trans q2)
        · obtain ⟨m2, g1, g2, g3⟩ := trunc_sound k1 (n := s.n) (by rw [hl.n0]; exact hr.n0)
          rw [← g1]
          exact ihL h hok g2 fun m' a' q1 q2 => hQ m' a' q1 (k2.trans (g3.trans q2))
      · rename_i hne
        refine LoopWp.round (ihS h hok hr fun m1 a1 k1 k2 => ?_)
        have := hQ m1 a1 k1 k2
        cases e with
        | normal => exact absurd h (hne s')
        | exit id => exact this
        | ret => exact this
    refine ⟨?_, hLoop⟩
    intro fid c s s' e h S N m a hok hr Q hQ
    cases c <;> try (simp only [execF] at h; simp at h; done)
    case skip => simp only [execF] at h; simp at h; obtain ⟨rfl, rfl⟩ := h; exact wp_skip (hQ m a hr (.refl S m))
    case label l => simp only [execF] at h; simp at h; obtain ⟨rfl, rfl⟩ := h; exact wp_label (hQ m a hr (.refl S m))
    case ret => simp only [execF] at h; simp at h; obtain ⟨rfl, rfl⟩ := h; exact wp_ret (hQ m a hr (.refl S m))
    case exit id => simp only [execF] at h; simp at h; obtain ⟨rfl, rfl⟩ := h; exact wp_exit (hQ m a hr (.refl S m))
    case seq x y =>
      simp only [codeOK, Bool.and_eq_true] at hok
      simp only [execF] at h
      split at h
      · rename_i t ht
        refine wp_seq (ihS ht hok.1 hr fun m1 a1 k1 k2 => ?_)
        exact ihS h hok.2 k1 fun m' a' q1 q2 => hQ m' a' q1 (k2.trans q2)
      · rename_i hne
        refine wp_seq (ihS h hok.1 hr fun m1 a1 k1 k2 => ?_)
        have := hQ m1 a1 k1 k2
        cases e with
        | normal => exact absurd h (hne s')
        | exit id => exact this
        | ret => exact this
    case cond q x y =>
      simp only [codeOK, Bool.and_eq_true] at hok
      simp only [execF] at h
      have hq : RV S m (evalV s.env q) (a.eval q) := by
        have : EnvAt S m s.env a (match q with | .tmp t => [t] | _ => []) := fun t _ => hr.env t
        exact evalV_RV hr.rel this fun t ht => by subst ht; simp
      split at h
      · rename_i hb
        rw [hb] at hq
        exact wp_cond_true hq.bool_inv (ihS h hok.1 hr hQ)
      · rename_i hb
        rw [hb] at hq
        exact wp_cond_false hq.bool_inv (ihS h hok.2 hr hQ)
      · simp at h
    case block id b =>
      simp only [codeOK] at hok
      simp only [execF] at h
      split at h
      · rename_i i t ht
        split at h
        · rename_i hid
          simp at h; obtain ⟨rfl, rfl⟩ := h
          refine wp_block (ihS ht hok hr fun m1 a1 k1 k2 => ?_)
          show (if i = id then _ else _)
          rw [if_pos hid]
          exact hQ m1 a1 k1 k2
        · rename_i hid
          simp at h; obtain ⟨rfl, rfl⟩ := h
          refine wp_block (ihS ht hok hr fun m1 a1 k1 k2 => ?_)
          show (if i = id then _ else _)
          rw [if_neg hid]
          exact hQ m1 a1 k1 k2
      · rename_i hne
        refine wp_block (ihS h hok hr fun m1 a1 k1 k2 => ?_)
        have := hQ m1 a1 k1 k2
        cases e with
        | normal => exact this
        | exit id' => exact absurd h (hne id' s')
        | ret => exact this
    case loop b => simp only [codeOK] at hok; exact (hLoop h hok hr hQ).wp
    case region id ops draw =>
      simp only [codeOK] at hok
      simp only [execF, Option.map_eq_some_iff] at h
      obtain ⟨t, ht, h⟩ := h
      simp at h; obtain ⟨rfl, rfl⟩ := h
      unfold runRegion at ht
      split at ht
      · simp at ht
      · rename_i hchk
        split at ht
        · rename_i u hu
          simp only [Option.some.injEq] at ht; subst ht
          refine region_ops hN hm (callBy_ok ihS) callBy_bodies hchk hu (fun i o d ho hd => ?_) hr fun m1 a1 k1 k2 => ?_
          · have := List.all_eq_true.1 hok o (by simpa using Array.mem_of_getElem? ho)
            rw [hd] at this
            simpa [Nat.blt_eq] using this
          · obtain ⟨m2, g1, g2, g3⟩ := mats_sound (cfg.mat fid id) k1
            rw [← g1]
            exact hQ m2 a1 (keepSt_sound g2 _) (k2.trans g3)
        · simp at ht

/-- A call does what the abstract machine says, whatever the fuel. -/
theorem callF_ok [Gl] (cfg : Cfg) (hN : Pre P cfg) (hm : P.follows .mixedOrders = true) (k : Nat) : CallOK P (callF P cfg k) := callBy_ok (exec_sound cfg hN hm k).1

end Go.Ac
end
