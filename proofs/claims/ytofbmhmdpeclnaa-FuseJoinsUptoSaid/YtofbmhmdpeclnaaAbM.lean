/- The abstract machine: an operation that calls no function does in the model what the abstract machine says. No conditions. -/
import Derived.Test.YtofbmhmdpeclnaaAbL
set_option linter.unusedVariables false
set_option linter.unusedSimpArgs false
namespace Go.Ab
variable {P : Program} {S : Nat → Prop} {m : M}

/-- What an operation gives in the model. -/
def Gives (P : Program) (σ : Operand → Value) (o : Oper) (w : World) (x : Value) (w' : World) : Prop :=
  (execOp σ o).run P w = .ok (.value x) w' ∨ ((execOp σ o).run P w = .ok .skip w' ∧ x = undef)

theorem buildSlice_sound {t e sz by_ len : Nat} {i j : TI} {z cs : List V} {ps : Array (Nat × Operand)} {ρ : Operand → V} {σ : Operand → Value} {fz : Bool} {n c : Nat} {qs : List (Nat × V)} {ids : List Nat} (hi : mkTI P t = some i) (hk : i.k = .slice e sz by_) (hj : mkTI P e = some j) (hz : j.zero = some z)
    (hzl : z.length = sz) (hone : z.all V.one = true) (hpos : 0 < sz) (hsmall : len * sz ≤ 16777216) (hρ : ∀ x, RV S m (ρ x) (σ x)) (hR : Rel S m) (hf : Fresh m c 1)
    (hcp : closeParts m.h fz (ps.toList.map fun p => (p.1, ρ p.2)) = some (qs, ids)) (h : fillV (fun j => some (j * sz, sz)) (List.replicate len z).flatten qs = some cs) :
    ∃ x m', (Instr.buildSlice t len (ps.map fun p => (p.1, σ p.2))).run P m.w = .ok x m'.w ∧
      After S m c ⟨.osl n c 0 len sz (some len), roOf m.h ids ++ [(n, ⟨c, false, cs⟩)], ids, 1, 1, false⟩ x m' := by
  obtain ⟨inf, d, h1, h2, h3, _⟩ := mkTI_spec hi
  rw [hk] at h3
  obtain ⟨rfl, jj, hjj, hjs, _⟩ := mkTK_slice h3
  obtain ⟨r1, r2⟩ := parts_rel (S := S) (m := m) hρ ps.toList
  obtain ⟨m1, e1, hb⟩ := ros hR ids
  obtain ⟨r3, r4⟩ := closeParts_sound (fz := fz) hR hb hcp r1 r2 (fun i hi => hi)
  have hw : m1.w = m.w := hb.w
  obtain ⟨v, g1, g2, g3⟩ := zero_spec hj hz m.w
  have hlz : v.cells.size = sz := by rw [← hzl, g2]; simp
  obtain ⟨ys, k1, k2, k3, k4⟩ := fillV_sound (S := S) (m := m1) (xs := (List.replicate len v.cells.toList).flatten) h (zero_cells_RVs g2 len) (all_replicate hone len) r3 r4
  have hf1 : Fresh m1 c 1 := fun id g q1 q2 => by rw [hb.iss]; exact hf id g q1 q2
  have hcl : cs.length = len * sz := by
    rw [k4, flatten_len sz _ (fun r hr => by rw [List.eq_of_mem_replicate hr]; exact hzl)]; simp
  have hlen : len ≤ maxLen := by
    have : len * 1 ≤ len * sz := Nat.mul_le_mul_left _ hpos
    unfold maxLen; omega
  obtain ⟨m', w1, w2, w3, w4, w5, w6⟩ := osl_new (P := P) (T := e) (len := len) (cap := len) (sz := sz) (rd := ids) hb.rel hf1 k2 k3 hcl (Nat.le_refl _) hlen
  refine ⟨_, m', ?_, w2, hb.evo.trans w3, w4, ?_, ?_⟩
  · rw [hw] at w1
    rw [hw]
    have hk1 : Instr.fill (fun i => some (i * sz, sz)) ((Array.range (len * sz)).map (fun i => v.cells[i % v.cells.size]!)) (ps.map fun p => (p.1, σ p.2)).toList = some ys.toArray := by
      rw [← hlz, range_map_toArray, hlz, ← k1]
      simp
    simp only [Instr.buildSlice, Sem.run_bind, run_underlying h2, Result.andThen_ok, run_sizeOf' hjj, hjs, show ¬ (len * sz > 2 ^ 24) by omega, if_false, Sem.run_pure]
    by_cases h0 : len * sz = 0
    · simp only [h0, if_true, Sem.run_bind, Sem.run_pure, Result.andThen_ok]
      have : ∀ f : Nat → Value, Array.map f (Array.range 0) = #[] := fun f => by apply Array.ext'; simp
      rw [h0, this] at hk1
      rw [this]
      simp only [hk1, Sem.run_bind, w1, Result.andThen_ok, Sem.run_pure]
    · simp only [h0, if_false, Sem.run_bind, g1, Result.andThen_ok, Sem.run_pure, hk1, w1]
  · rw [w5, e1, hupd_append]
  · rw [w6, hb.iss]

theorem RVs.map {ρ : Operand → V} {σ : Operand → Value} (h : ∀ x, RV S m (ρ x) (σ x)) (l : List Operand) : RVs S m (l.map ρ) (l.map σ) := by
  refine ⟨by simp, fun j a b ha hb => ?_⟩
  rw [List.getElem?_map] at ha hb
  cases hp : l[j]? with
  | none => simp [hp] at ha
  | some p => simp [hp] at ha hb; subst ha; subst hb; exact h p

theorem builtinV_sound {n c : Nat} {b : Builtin} {ts : Array TypeId} {ty : TypeId} {vs : List V} {xs : List Value} {r : Res} (h : builtinV P m.h n c b ts.toList vs = some r) (hR : Rel S m) (hf : Fresh m c r.dc) (hv : RVs S m vs xs) :
    ∃ x m', (∀ consts : Array Bool, (builtin b ts ty consts xs.toArray).run P m.w = .ok (.value x) m'.w) ∧ After S m c r x m' := by
  unfold builtinV at h
  split at h
  · rename_i t x hts
    simp only [Option.bind_eq_some_iff] at h
    obtain ⟨i, hi, h⟩ := h
    obtain ⟨v, ys, rfl, hx, hys⟩ := hv.cases
    have : ys = [] := List.length_eq_zero_iff.1 (by have := hys.1; simpa using this.symm)
    subst this
    obtain rfl : ts = #[t] := by apply Array.ext'; simpa using hts
    obtain ⟨z, g1, g2⟩ := lenV_sound (P := P) (ty := ty) (c := c) hi h hR hx
    exact ⟨z, m, fun _ => by simp [builtin, g1], g2⟩
  · rename_i t u s x hts
    split at h
    · rename_i htu; subst htu
      simp only [Option.bind_eq_some_iff] at h
      obtain ⟨i, hi, h⟩ := h
      obtain ⟨v, ys, rfl, hs, hys⟩ := hv.cases
      obtain ⟨y, ys, rfl, hx, hys⟩ := hys.cases
      have : ys = [] := List.length_eq_zero_iff.1 (by have := hys.1; simpa using this.symm)
      subst this
      obtain rfl : ts = #[t, t] := by apply Array.ext'; simpa using hts
      obtain ⟨z, m', g1, g2⟩ := appendV_sound (P := P) (ty := ty) hi h hR hf hs hx
      exact ⟨z, m', fun _ => by simp [builtin, g1], g2⟩
    · simp at h
  · rename_i t u s x hts
    split at h
    · rename_i htu; subst htu
      simp only [Option.bind_eq_some_iff] at h
      obtain ⟨i, hi, h⟩ := h
      obtain ⟨v, ys, rfl, hs, hys⟩ := hv.cases
      obtain ⟨y, ys, rfl, hx, hys⟩ := hys.cases
      have : ys = [] := List.length_eq_zero_iff.1 (by have := hys.1; simpa using this.symm)
      subst this
      obtain rfl : ts = #[t, t] := by apply Array.ext'; simpa using hts
      obtain ⟨z, m', g1, g2⟩ := copyV_sound (P := P) (ty := ty) (c := c) hi h hR hs hx
      exact ⟨z, m', fun _ => by simp [builtin, g1], g2⟩
    · simp at h
  · simp at h

theorem step_sound {o : Oper} {fz fs : Bool} {n c : Nat} {ρ : Operand → V} {σ : Operand → Value} {r : Res} (h : step P fz fs ρ m.h n c o.op = some r) (hρ : ∀ x, RV S m (ρ x) (σ x)) (hR : Rel S m)
    (hf : Fresh m c r.dc) : ∃ x m', Gives P σ o m.w x m'.w ∧ After S m c r x m' := by
  obtain ⟨dst, op, ty, pos, after, guard⟩ := o
  cases op <;> simp only [step] at h <;> try (simp at h; done)
  case move x => simp [ret] at h; subst h; exact ⟨σ x, m, .inl (by simp [execOp]), After.quiet hR (hρ x)⟩
  case assign x => simp [ret] at h; subst h; exact ⟨σ x, m, .inl (by simp [execOp]), After.quiet hR (hρ x)⟩
  case pick q a b =>
    split at h
    · rename_i hq
      simp [ret] at h; subst h
      have := (hq ▸ hρ q).bool_inv
      exact ⟨σ a, m, .inl (by simp [execOp, this, asBool]), After.quiet hR (hρ a)⟩
    · rename_i hq
      simp [ret] at h; subst h
      have := (hq ▸ hρ q).bool_inv
      exact ⟨σ b, m, .inl (by simp [execOp, this, asBool]), After.quiet hR (hρ b)⟩
    · simp at h
  case alloc t =>
    split at h
    · rename_i i hi
      split at h
      · rename_i z hz
        split at h
        · rename_i hone
          obtain ⟨x, m', g1, g2⟩ := alloc_sound (P := P) hi hz hone h hR hf
          exact ⟨x, m', .inl (by simp [execOp, g1]), g2⟩
        · simp at h
      · simp at h
    · simp at h
  case box t x =>
    simp only [Option.bind_eq_some_iff] at h
    obtain ⟨cs, hcs, h⟩ := h
    obtain ⟨y, m', g1, g2⟩ := box_sound (P := P) (t := t) hcs h hR hf (hρ x)
    exact ⟨y, m', .inl (by simp [execOp, g1]), g2⟩
  case build t ps =>
    split at h
    · rename_i i hi
      split at h
      · rename_i z fs hz hk
        split at h
        · rename_i hone
          simp only [Option.bind_eq_some_iff] at h
          obtain ⟨cs, hcs, h⟩ := h
          simp [ret] at h; subst h
          obtain ⟨ys, g1, g2⟩ := build_sound (P := P) hi hz hone (.inl ⟨fs, hk, rfl⟩) hcs hρ
          exact ⟨_, m, .inl (by simp [execOp, g1]), After.quiet hR g2.agg⟩
        · simp at h
      · rename_i z n' e sz ag hz hk
        split at h
        · rename_i hone
          simp only [Option.bind_eq_some_iff] at h
          obtain ⟨cs, hcs, h⟩ := h
          simp [ret] at h; subst h
          obtain ⟨ys, g1, g2⟩ := build_sound (P := P) hi hz hone (.inr ⟨_, _, _, _, hk, rfl⟩) hcs hρ
          exact ⟨_, m, .inl (by simp [execOp, g1]), After.quiet hR g2.agg⟩
        · simp at h
      · simp at h
    · simp at h
  case buildSlice t len ps =>
    split at h
    · rename_i i hi
      split at h
      · rename_i e sz by_ hk
        split at h
        · rename_i j hj
          split at h
          · rename_i z hz
            split at h
            · rename_i hcond
              split at h
              · rename_i qs ids hcp
                simp only [Option.bind_eq_some_iff] at h
                obtain ⟨cs, hcs, h⟩ := h
                simp only [Option.some.injEq] at h; subst h
                obtain ⟨x, m', g1, g2⟩ := buildSlice_sound (P := P) hi hk hj hz hcond.1 hcond.2.1 hcond.2.2.1 hcond.2.2.2 hρ hR hf hcp hcs
                exact ⟨x, m', .inl (by simp [execOp, g1]), g2⟩
              · simp at h
            · simp at h
          · simp at h
        · simp at h
      · simp at h
    · simp at h
  case load t a =>
    simp only [Option.bind_eq_some_iff] at h
    obtain ⟨i, hi, h⟩ := h
    obtain ⟨x, g1, g2⟩ := loadV_sound (P := P) (c := c) hi h rfl hR (hρ a)
    exact ⟨x, m, .inl (by simp [execOp, g1]), g2⟩
  case store t a x =>
    simp only [Option.bind_eq_some_iff] at h
    obtain ⟨i, hi, h⟩ := h
    obtain ⟨m', g1, g2⟩ := storeV_sound (P := P) (c := c) hi h hR (hρ a) (hρ x)
    exact ⟨undef, m', .inr ⟨by simp [execOp, g1], rfl⟩, g2⟩
  case binOp op t x y yt =>
    split at h
    · rename_i a b ha hb
      split at h
      · rename_i i hi
        split at h
        · rename_i hk
          obtain ⟨_, d, _, i2, i3, _⟩ := mkTI_spec hi
          rw [hk] at i3
          have := mkTK_bool i3; subst this
          simp only [Option.bind_eq_some_iff] at h
          obtain ⟨v, hv, h⟩ := h
          simp [ret] at h; subst h
          obtain ⟨z, g1, g2, g3⟩ := boolBin_sound (S := S) (m := m) (P := P) x y i2 hv
          have e1 := (ha ▸ hρ x).bool_inv
          have e2 := (hb ▸ hρ y).bool_inv
          exact ⟨z, m, .inl (by simp [execOp, e1, e2, g1, g2]), After.quiet hR g3⟩
        · simp at h
      · simp at h
    · simp only [Option.bind_eq_some_iff] at h
      obtain ⟨v, hv, h⟩ := h
      simp [ret] at h; subst h
      obtain ⟨z, g1, g2, g3⟩ := binV_sound (P := P) t x y hv (hρ x) (hρ y)
      exact ⟨z, m, .inl (by simp [execOp, g1, g2]), After.quiet hR g3⟩
  case unOp op t x =>
    simp only [Option.bind_eq_some_iff] at h
    obtain ⟨v, hv, h⟩ := h
    simp [ret] at h; subst h
    obtain ⟨z, g1, g2⟩ := unV_sound (P := P) hv (hρ x)
    exact ⟨z, m, .inl (by simp [execOp, g1]), After.quiet hR g2⟩
  case convert s t x =>
    split at h
    · rename_i i j hi hj
      simp only [Option.bind_eq_some_iff] at h
      obtain ⟨v, hv, h⟩ := h
      simp [ret] at h; subst h
      obtain ⟨z, g1, g2⟩ := convV_sound (P := P) hi hj hv (hρ x)
      exact ⟨z, m, .inl (by simp [execOp, g1]), After.quiet hR g2⟩
    · simp at h
  case makeFunc fn first caps =>
    cases fn <;> simp only [] at h <;> try (simp at h; done)
    split at h
    · rename_i f hfst
      simp [ret] at h; subst h
      have hfe : first = #[] := by simpa using hfst
      subst hfe
      refine ⟨_, m, .inl (by simp [execOp, Instr.makeFunc]; rfl), After.quiet hR ?_⟩
      have := RVs.map (S := S) (m := m) hρ caps.toList
      refine .fn (by simp) fun j a b ha hb => this.2 j a b ha ?_
      simpa using hb
    · simp at h
  case makeSlice t l q =>
    split at h
    · rename_i i hi
      split at h
      · rename_i e sz by_ hk
        obtain ⟨x, m', g1, g2⟩ := makeV_sound (P := P) hi hk h hR hf (hρ l) (hρ q)
        exact ⟨x, m', .inl (by simp [execOp, g1]), g2⟩
      · simp at h
    · simp at h
  case slice t x lo hi mx =>
    split at h
    · simp at h
    · rename_i hno
      simp only [Option.bind_eq_some_iff] at h
      obtain ⟨i, hti, h⟩ := h
      obtain ⟨z, g1, g2⟩ := sliceV_sound (P := P) (c := c) hti h hR (hρ x) (RO.map hρ lo) (RO.map hρ hi) (RO.map hρ mx) (by
        intro h1
        cases mx with
        | none => simp at h1
        | some q =>
          cases hi with
          | none => simp at hno
          | some p => rfl)
      exact ⟨z, m, .inl (by simp [execOp, g1]), g2⟩
  case fieldAddr t x f =>
    simp only [Option.bind_eq_some_iff] at h
    obtain ⟨i, hi, h⟩ := h
    obtain ⟨z, g1, g2⟩ := fieldAddrV_sound (P := P) (c := c) hi h hR (hρ x)
    exact ⟨z, m, .inl (by simp [execOp, g1]), g2⟩
  case field t x f =>
    simp only [Option.bind_eq_some_iff] at h
    obtain ⟨i, hi, h⟩ := h
    obtain ⟨z, g1, g2⟩ := fieldV_sound (P := P) (c := c) hi h hR (hρ x)
    exact ⟨z, m, .inl (by simp [execOp, g1]), g2⟩
  case indexAddr t x ix =>
    simp only [Option.bind_eq_some_iff] at h
    obtain ⟨i, hi, h⟩ := h
    obtain ⟨z, g1, g2⟩ := indexAddrV_sound (P := P) (c := c) hi h hR (hρ x) (hρ ix)
    exact ⟨z, m, .inl (by simp [execOp, g1]), g2⟩
  case index t x ix =>
    simp only [Option.bind_eq_some_iff] at h
    obtain ⟨i, hi, h⟩ := h
    obtain ⟨z, g1, g2⟩ := indexV_sound (P := P) (c := c) hi h hR (hρ x) (hρ ix)
    exact ⟨z, m, .inl (by simp [execOp, g1]), g2⟩
  case extract t ix =>
    split at h
    · rename_i vs ht
      simp only [Option.bind_eq_some_iff] at h
      obtain ⟨v, hv, h⟩ := h
      simp [ret] at h; subst h
      obtain ⟨xs, hxt, hxs⟩ := (ht ▸ hρ t).tuple_vals
      obtain ⟨x, g1, g2⟩ := hxs.get hv
      exact ⟨x, m, .inl (by simp [execOp, hxt, Instr.extract, g1]), After.quiet hR g2⟩
    · simp at h
  case call cl =>
    obtain ⟨callee, args, ts⟩ := cl
    cases callee <;> simp only [] at h <;> try (simp at h; done)
    rename_i b
    obtain ⟨x, m', g1, g2⟩ := builtinV_sound (P := P) (ty := ty) h hR hf (RVs.map hρ args.toList)
    refine ⟨x, m', .inl ?_, g2⟩
    have : (List.map σ args.toList).toArray = args.map σ := by apply Array.ext'; simp
    rw [this] at g1
    simp [execOp, resolve, invoke, g1]

end Go.Ab
