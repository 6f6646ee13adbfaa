/- The abstract machine: slicing, indexing, arithmetic. No conditions. -/
import Derived.Test.YtofbmhmdpeclnaaAbI
set_option linter.unusedVariables false
set_option linter.unusedSimpArgs false
namespace Go.Ab
variable {P : Program} {S : Nat → Prop} {m : M}

theorem bnd_some {x : V} {b : Value} {dflt q y : Nat} {code : BoundsCode} {w : World} (h : bnd (some x) dflt = some q) (hx : RV S m x b) (hq : q ≤ y) : (Instr.sliceBound b y code).run P w = .ok q w := by
  unfold bnd at h
  split at h
  · rename_i h'; cases h'
  · rename_i k i h'
    injection h' with h'; subst h'
    split at h
    · rename_i h0
      simp at h; subst h
      obtain rfl : b = .int k i := by
        cases hx with
        | d hd => cases hd; rfl
      exact run_sliceBound _ k i y code h0 (by omega)
    · simp at h
  · simp at h

theorem bnd_dflt (x : V) (a b : Nat) : bnd (some x) a = bnd (some x) b := by
  cases x with
  | d x => cases x <;> rfl
  | _ => rfl

/-- An operand that may be left out. -/
inductive RO (S : Nat → Prop) (m : M) : Option V → Option Value → Prop
  | none : RO S m none none
  | some {x : V} {v : Value} (h : RV S m x v) : RO S m (some x) (some v)

theorem RO.map {ρ : Operand → V} {σ : Operand → Value} (h : ∀ x, RV S m (ρ x) (σ x)) (o : Option Operand) : RO S m (o.map ρ) (o.map σ) := by
  cases o with
  | none => exact .none
  | some x => exact .some (h x)

theorem run_bounds {isS : Bool} {len cap l h mm : Nat} {lo hi mx : Option V} {vlo vhi vmx : Option Value} {w : World} (h1 : RO S m lo vlo) (h2 : RO S m hi vhi) (h3 : RO S m mx vmx) (e1 : bnd lo 0 = some l) (e2 : bnd hi len = some h)
    (e3 : bnd mx cap = some mm) (hlh : l ≤ h) (hhm : h ≤ mm) (hmc : mm ≤ cap) (hno : mx.isSome = true → hi.isSome = true) : (Instr.sliceBounds isS len cap vlo vhi vmx).run P w = .ok (l, h, mm) w := by
  unfold Instr.sliceBounds
  cases h3 with
  | none =>
    simp [bnd] at e3; subst e3
    cases h2 with
    | none =>
      simp [bnd] at e2; subst e2
      cases h1 with
      | none => simp [bnd] at e1; subst e1; simp
      | some hl => simp [bnd_some (P := P) e1 hl hlh]
    | some hh =>
      cases h1 with
      | none => simp [bnd] at e1; subst e1; simp [bnd_some (P := P) e2 hh hhm]
      | some hl => simp [bnd_some (P := P) e2 hh hhm, bnd_some (P := P) e1 hl hlh]
  | some hm =>
    cases h2 with
    | none => simp at hno
    | some hh =>
      cases h1 with
      | none => simp [bnd] at e1; subst e1; simp [bnd_some (P := P) e3 hm hmc, bnd_some (P := P) e2 hh hhm]
      | some hl => simp [bnd_some (P := P) e3 hm hmc, bnd_some (P := P) e2 hh hhm, bnd_some (P := P) e1 hl hlh]

theorem RD.slice_inv {w : World} {av : Nat → Prop} {rows : List (List D)} {v : Value} (h : RD w av (.slice rows) v) : ∃ a k, v = .slice a rows.length k ∧ rows.length ≤ k ∧ k ≤ maxLen := by
  cases h with
  | empty a cap h => exact ⟨a, cap, rfl, Nat.zero_le _, h⟩
  | slice rows b off cap sz hlen hcap hsz f hf hr => exact ⟨_, cap, rfl, hlen, hcap⟩

/-- Part of a slice of data. -/
theorem RD.sub {w : World} {av : Nat → Prop} {rows : List (List D)} {a : Option Addr} {k l h mm sz : Nat} (hd : RD w av (.slice rows) (.slice a rows.length k)) (hlh : l ≤ h) (hhr : h ≤ rows.length) (hhm : h ≤ mm) (hmk : mm ≤ k)
    (hsz : rows ≠ [] → ∀ r ∈ rows, r.length = sz) : RD w av (.slice ((rows.take h).drop l)) (.slice (if mm = l then a else a.map (·.add (l * sz))) (h - l) (mm - l)) := by
  have hlen : ((rows.take h).drop l).length = h - l := by simp; omega
  cases hd with
  | empty a cap hc =>
    have : (([] : List (List D)).take h).drop l = [] := by simp
    rw [this]
    simp at hhr; subst hhr
    simp at hlh; subst hlh
    exact .empty _ _ (by omega)
  | slice rows b off cap sz' hl hc hs f hf hr =>
    by_cases h0 : l = h
    · subst h0
      have : (rows.take l).drop l = [] := List.length_eq_zero_iff.1 (by simp)
      rw [this, Nat.sub_self]
      exact .empty _ _ (by omega)
    · rw [if_neg (by omega)]
      have hne : rows ≠ [] := by intro h'; subst h'; simp at hhr; omega
      have hss : sz' = sz := by
        obtain ⟨r0, rest, rfl⟩ := List.exists_cons_of_ne_nil hne
        rw [← hs 0 r0 rfl]; exact hsz hne r0 (by simp)
      subst hss
      simp only [Option.map_some, addr_add]
      have get : ∀ (i : Nat) (r : List D), ((rows.take h).drop l)[i]? = some r → rows[l + i]? = some r := by
        intro i r hi
        rw [List.getElem?_drop, List.getElem?_take] at hi
        split at hi
        · exact hi
        · simp at hi
      have := RD.slice (w := w) (av := av) ((rows.take h).drop l) b (off + l * sz') (mm - l) sz' (by rw [hlen]; omega) (by omega) (fun i r hi => hs _ r (get i r hi)) (fun i j => f (l + i) j)
        (fun i j r d hi hj => by
          obtain ⟨q1, q2⟩ := hf _ j r d (get i r hi) hj
          refine ⟨q1, ?_⟩
          rw [← q2, Nat.add_mul]; congr 2; omega)
        (fun i j r d hi hj => hr _ j r d (get i r hi) hj)
      rw [hlen] at this
      exact this

theorem rows_sz {w : World} {av : Nat → Prop} {rows : List (List D)} {v : Value} (h : RD w av (.slice rows) v) : ∃ sz, ∀ r ∈ rows, r.length = sz := by
  cases h with
  | empty => exact ⟨0, by simp⟩
  | slice rows b off cap sz hlen hcap hsz f hf hr =>
    refine ⟨sz, fun r hr' => ?_⟩
    obtain ⟨i, hi⟩ := List.mem_iff_getElem?.1 hr'
    exact hsz i r hi

theorem run_slice_s {t e : TypeId} {j : TypeInfo} {a : Option Addr} {len cap l h mm : Nat} {lo hi mx : Option Value} {w : World} (h2 : P.underlying t = some (.slice e)) (hj : P.info? e = some j)
    (hb : (Instr.sliceBounds true len cap lo hi mx).run P w = .ok (l, h, mm) w) : (Instr.sliceAt t (.slice a len cap) lo hi mx).run P w = .ok (.slice (if mm = l then a else a.map (·.add (l * j.size))) (h - l) (mm - l)) w := by
  simp only [Instr.sliceAt, Sem.run_bind, run_underlying h2, Result.andThen_ok, Instr.slice, hb, run_sizeOf' hj, Sem.run_pure]

theorem osl_sub {id g off len sz : Nat} {cap : Option Nat} {v : Value} {o : Ob} (hv : RV S m (.osl id g off len sz cap) v) (hl : live m.h id g = some o) (hR : Rel S m) {l h : Nat} (hlh : l ≤ h) (hhq : h ≤ len ∨ ∃ q, cap = some q ∧ h ≤ q) :
    ∃ a k, v = .slice a len k ∧ len ≤ k ∧ (∀ q, cap = some q → k = q ∧ m.at_ id ≠ none ∧ off + q * sz ≤ o.cells.length) ∧ off + len * sz ≤ o.cells.length ∧
      ∀ mm, h ≤ mm → mm ≤ k → ∀ cap', (cap' = none ∨ (cap' = some (mm - l) ∧ m.at_ id ≠ none ∧ off + mm * sz ≤ o.cells.length)) →
        RV S m (.osl id g (off + l * sz) (h - l) sz cap') (.slice (if mm = l then a else a.map (·.add (l * sz))) (h - l) (mm - l)) := by
  obtain ⟨ho, hgen, hok⟩ := hv.osl_live hl
  have hiss : m.iss id g := by cases hv with | osl h1 _ _ => exact h1
  unfold OslOK at hok
  cases hat : m.at_ id with
  | none =>
    simp only [hat] at hok
    obtain ⟨rfl, rfl, rfl, a, rfl⟩ := hok
    refine ⟨a, 0, rfl, Nat.le_refl _, (fun q hq => by cases hq), by simp, fun mm h1 h2 cap' hc => .osl hiss rfl fun o2 ho2 hg2 => ?_⟩
    have hh0 : h = 0 := by
      rcases hhq with h' | ⟨q, hq, _⟩
      · omega
      · cases hq
    subst hh0
    have hl0 : l = 0 := by omega
    have hm0 : mm = 0 := by omega
    subst hl0; subst hm0
    unfold OslOK
    rw [hat]
    rcases hc with rfl | ⟨_, hc, _⟩
    · simp
    · exact absurd rfl hc
  | some bb =>
    obtain ⟨b0, base⟩ := bb
    simp only [hat] at hok
    obtain ⟨p, k, rfl, hp, k2, k3, k4, ⟨cs, T, fz, k5, k6⟩, k7⟩ := hok
    refine ⟨some p, k, rfl, k3, ?_, k2, fun mm h1 h2 cap' hc => .osl hiss rfl fun o2 ho2 hg2 => ?_⟩
    · rintro q rfl; exact ⟨k7.1, by simp, k7.2⟩
    have : o2 = o := by rw [ho] at ho2; injection ho2 with h; exact h.symm
    subst this
    unfold OslOK
    rw [hat]
    have m1 : (off + l * sz) + (h - l) * sz = off + h * sz := by
      have : h * sz = l * sz + (h - l) * sz := by rw [← Nat.add_mul]; congr 1; omega
      omega
    have m2 : (off + l * sz) + (mm - l) * sz = off + mm * sz := by
      have : mm * sz = l * sz + (mm - l) * sz := by rw [← Nat.add_mul]; congr 1; omega
      omega
    have m3 : mm * sz ≤ k * sz := Nat.mul_le_mul_right _ h2
    have hhb : off + h * sz ≤ o2.cells.length := by
      rcases hhq with h' | ⟨q, rfl, h'⟩
      · have : h * sz ≤ len * sz := Nat.mul_le_mul_right _ h'; omega
      · have : h * sz ≤ q * sz := Nat.mul_le_mul_right _ h'; have := k7.2; omega
    have hpp : ∃ p', (if mm = l then some p else (some p).map (·.add (l * sz))) = some p' ∧ (p' = ⟨b0, base + (off + l * sz), none⟩ ∨ (h - l = 0 ∧ mm - l = 0)) := by
      split
      · rename_i he; exact ⟨p, rfl, .inr ⟨by omega, by omega⟩⟩
      · rename_i he
        rcases hp with rfl | ⟨rfl, rfl⟩
        · refine ⟨_, rfl, .inl ?_⟩
          show (⟨b0, base + off, none⟩ : Addr).add (l * sz) = _
          rw [addr_add, Nat.add_assoc]
        · have hq0 : h = 0 := by
            rcases hhq with h' | ⟨q, rfl, h'⟩
            · omega
            · have := k7.1; omega
          exact ⟨_, rfl, .inr ⟨by omega, by omega⟩⟩
    obtain ⟨p', hp1, hp2⟩ := hpp
    refine ⟨p', mm - l, by rw [hp1], hp2, by omega, by omega, by omega, ⟨cs, T, fz, k5, by omega⟩, ?_⟩
    rcases hc with rfl | ⟨rfl, _, hc⟩
    · trivial
    · exact ⟨rfl, by omega⟩

theorem sliceV_sound {t : TypeId} {i : TI} {x : V} {lo hi mx : Option V} {r : Res} {v : Value} {vlo vhi vmx : Option Value} {c : Nat} (hti : mkTI P t = some i) (h : sliceV m.h i x lo hi mx = some r) (hR : Rel S m)
    (hv : RV S m x v) (h1 : RO S m lo vlo) (h2 : RO S m hi vhi) (h3 : RO S m mx vmx) (hno : mx.isSome = true → hi.isSome = true) :
    ∃ z, (Instr.sliceAt t v vlo vhi vmx).run P m.w = .ok z m.w ∧ After S m c r z m := by
  obtain ⟨inf, d, i1, i2, i3, _⟩ := mkTI_spec hti
  unfold sliceV at h
  split at h
  · -- a string
    rename_i s hk
    rw [hk] at i3
    have hd := mkTK_str i3; subst hd
    split at h
    · rename_i l hh e1 e2
      split at h
      · rename_i hc
        simp [ret] at h; subst h
        cases hv with
        | d hd =>
          cases hd with
          | str bs l' hbs =>
            have hlen : bs.size = s.length := by rw [← hbs, Array.length_toList]; rfl
            have hb := run_bounds (P := P) (w := m.w) (isS := false) (len := bs.size) (cap := bs.size) (l := l) (h := hh) (mm := bs.size) h1 h2 .none e1 (by rw [hlen]; exact e2) (by simp [bnd]) hc.1 (by omega) (Nat.le_refl _) (fun h => by simp at h)
            cases h3
            refine ⟨.string (bs.extract l hh), ?_, After.quiet hR (.d (.str _ _ ?_))⟩
            · simp [Instr.sliceAt, run_underlying i2, Instr.slice, hb]
            · rw [ByteArray.data_extract, Array.toList_extract, hbs]
              rw [List.drop_take]
      · simp at h
    · simp at h
  · -- a slice of data
    rename_i e sz by_ rows hk
    rw [hk] at i3
    obtain ⟨rfl, j, hj, hjs, _⟩ := mkTK_slice i3
    cases hv with
    | d hd =>
      obtain ⟨a, k, rfl, hk1, hk2⟩ := hd.slice_inv
      split at h
      · rename_i l hh e1 e2
        split at h
        · rename_i hc
          simp [ret] at h; subst h
          cases h3
          have hb := run_bounds (P := P) (w := m.w) (isS := true) (len := rows.length) (cap := k) (l := l) (h := hh) (mm := k) h1 h2 .none e1 e2 (by simp [bnd]) hc.1 (by omega) (Nat.le_refl _) (fun h => by simp at h)
          refine ⟨_, run_slice_s i2 hj hb, After.quiet hR (.d ?_)⟩
          rw [hjs]
          exact hd.sub hc.1 hc.2.1 (by omega) (Nat.le_refl _) (fun _ => allbeq hc.2.2)
        · simp at h
      · rename_i l hh q e1 e2
        split at h
        · rename_i q' e3
          split at h
          · rename_i hc
            simp [ret] at h; subst h
            have hb := run_bounds (P := P) (w := m.w) (isS := true) (len := rows.length) (cap := k) (l := l) (h := hh) (mm := q') h1 h2 h3 e1 e2 (by rw [bnd_dflt _ _ 0]; exact e3) hc.1 (by omega) (by omega) hno
            refine ⟨_, run_slice_s i2 hj hb, After.quiet hR ?_⟩
            rw [hjs]
            have := hd.sub (l := l) (h := hh) (mm := q') hc.1 (by omega) (by omega) (by omega) (fun _ => allbeq hc.2.2.2)
            have e4 : q' = hh := hc.2.1.symm
            subst e4
            have hlen : ((rows.take q').drop l).length = q' - l := by simp; omega
            have := RV.full (S := S) (m := m) (rows := (rows.take q').drop l) (a := if q' = l then a else a.map (·.add (l * sz))) (by rw [hlen]; exact this)
            rw [hlen] at this
            exact this
          · simp at h
        · simp at h
      · simp at h
  · rename_i e sz by_ rows hk
    rw [hk] at i3
    obtain ⟨rfl, j, hj, hjs, _⟩ := mkTK_slice i3
    split at h
    · rename_i l hh e1 e2
      split at h
      · rename_i hc
        cases hv with
        | full hd =>
          simp [ret] at h; subst h
          rename_i a
          cases h3
          have hb := run_bounds (P := P) (w := m.w) (isS := true) (len := rows.length) (cap := rows.length) (l := l) (h := hh) (mm := rows.length) h1 h2 .none e1 e2 (by simp [bnd]) hc.1 (by omega) (Nat.le_refl _) (fun h => by simp at h)
          refine ⟨_, run_slice_s i2 hj hb, After.quiet hR ?_⟩
          rw [hjs]
          have := hd.sub (l := l) (h := hh) (mm := rows.length) hc.1 hc.2.1 (by omega) (Nat.le_refl _) (fun _ => allbeq hc.2.2)
          split
          · rename_i hh'
            subst hh'
            have hlen : (rows.drop l).length = rows.length - l := by simp
            have e5 : (rows.take rows.length).drop l = rows.drop l := by rw [List.take_length]
            rw [e5] at this
            have := RV.full (S := S) (m := m) (rows := rows.drop l) (a := if rows.length = l then a else a.map (·.add (l * sz))) (by rw [hlen]; exact this)
            rw [hlen] at this
            exact this
          · exact .d this
      · simp at h
    · simp at h
  · -- a slice of an object
    rename_i e sz by_ id g off len sz' cap hk
    rw [hk] at i3
    obtain ⟨rfl, j, hj, hjs, _⟩ := mkTK_slice i3
    split at h
    · rename_i o l hh hl hbeq e1 e2
      have hss : sz = sz' := Nat.eq_of_beq_eq_true hbeq
      subst hss
      by_cases hc : l ≤ hh ∧ hh ≤ cap.getD len
      · rw [if_pos hc] at h
        simp only [retR, Option.some.injEq] at h; subst h
        obtain ⟨a, k, rfl, k1, k2, k3, k4⟩ := osl_sub hv hl hR (l := l) (h := hh) hc.1 (by
          cases cap with
          | none => exact .inl hc.2
          | some q => exact .inr ⟨q, rfl, hc.2⟩)
        cases h3
        have hhk : hh ≤ k := by
          cases cap with
          | none => have := hc.2; simp at this; omega
          | some q => have := (k2 q rfl).1; have := hc.2; simp at this; omega
        have hb := run_bounds (P := P) (w := m.w) (isS := true) (len := len) (cap := k) (l := l) (h := hh) (mm := k) h1 h2 .none e1 e2 (by simp [bnd]) hc.1 hhk (Nat.le_refl _) (fun h => by simp at h)
        refine ⟨_, run_slice_s i2 hj hb, After.quiet hR ?_⟩
        rw [hjs]
        refine k4 k hhk (Nat.le_refl _) _ ?_
        cases cap with
        | none => exact .inl rfl
        | some q =>
          obtain ⟨q1, q2, q3⟩ := k2 q rfl
          subst q1
          exact .inr ⟨rfl, q2, q3⟩
      · rw [if_neg hc] at h; simp at h
    · rename_i o l hh q hl hbeq e1 e2
      have hss : sz = sz' := Nat.eq_of_beq_eq_true hbeq
      subst hss
      split at h
      · rename_i qq e3
        by_cases hc : l ≤ hh ∧ hh ≤ qq ∧ qq ≤ cap.getD len
        · rw [if_pos hc] at h
          simp only [retR, Option.some.injEq] at h; subst h
          obtain ⟨a, k, rfl, k1, k2, k3, k4⟩ := osl_sub hv hl hR (l := l) (h := hh) hc.1 (by
            cases cap with
            | none => have := hc.2.2; simp at this; exact .inl (by omega)
            | some q' => have := hc.2.2; simp at this; exact .inr ⟨q', rfl, by omega⟩)
          have hqk : qq ≤ k ∧ off + qq * sz ≤ o.cells.length := by
            cases cap with
            | none =>
              have := hc.2.2; simp at this
              have m3 : qq * sz ≤ len * sz := Nat.mul_le_mul_right _ this
              exact ⟨by omega, by omega⟩
            | some q' =>
              have := hc.2.2; simp at this
              obtain ⟨q1, q2, q3⟩ := k2 q' rfl
              have m3 : qq * sz ≤ q' * sz := Nat.mul_le_mul_right _ this
              exact ⟨by omega, by omega⟩
          have hb := run_bounds (P := P) (w := m.w) (isS := true) (len := len) (cap := k) (l := l) (h := hh) (mm := qq) h1 h2 h3 e1 e2 (by rw [bnd_dflt _ _ 0]; exact e3) hc.1 hc.2.1 hqk.1 hno
          refine ⟨_, run_slice_s i2 hj hb, After.quiet hR ?_⟩
          rw [hjs]
          refine k4 qq hc.2.1 hqk.1 _ ?_
          split
          · exact .inl rfl
          · rename_i hne
            refine .inr ⟨rfl, fun hat => ?_, hqk.2⟩
            have := hR.none_ id o (hv.osl_live hl).1 hat
            rw [this] at hne; simp at hne
        · rw [if_neg hc] at h; simp at h
      · simp at h
    · simp at h
  · simp at h

end Go.Ab
