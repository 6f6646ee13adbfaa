/- The abstract machine: an operation that calls no function does in the model what the abstract machine says. No conditions. -/
import Derived.Test.YtofbmhmdpeclnaaAbLM
set_option linter.unusedVariables false
set_option linter.unusedSimpArgs false
section
set_option linter.unusedVariables false
set_option linter.unusedSimpArgs false
namespace Go.Ab
variable {P : Program} {S : Nat → Prop} {m : M}

/-- What an operation gives in the model. -/
def Gives (P : Program) (σ : Operand → Value) (o : Oper) (w : World) (x : Value) (w' : World) : Prop :=
  (execOp σ o).run P w = .ok (.value x) w' ∨ ((execOp σ o).run P w = .ok .skip w' ∧ x = undef)

theorem buildSlice_sound {t e sz by_ len : Nat} {i j : TI} {z cs : List V} {ps : Array (Nat × Operand)} {ρ : Operand → V} {σ : Operand → Value} {fz : Bool} {n c : Nat} {qs : List (Nat × V)} {ids : List Nat} (hi : mkTI P t = some i) (hk : i.k = .slice e sz by_) (hj : mkTI P e = some j) (hz : j.zero = some z)
    (hzl : z.length = sz) (hone : z.all V.one = true) (hpos : 0 < sz) (hsmall : len * sz ≤ 16777216) (hρ : ∀ x, RV S m (ρ x) (σ x)) (hR : Rel S m) (hf : Fresh m c 1)
    (hcp : closeParts m.h fz (ps.toList.map fun p => (p.1, ρ p.2)) = some (qs, ids)) (h : fillV (fun j => some (j * sz, sz)) (List.replicate len z).flatten qs = some cs) :
    ∃ x m', (Instr.buildSlice t len (ps.map fun p => (p.1, σ p.2))).run P m.w = .ok x m'.w ∧
      After S m c ⟨.osl n c 0 len sz (some len), roOf m.h ids ++ [(n, ⟨c, false, cs⟩)], ids, 1, 1, false⟩ x m' := by
  obtain ⟨inf, d, h1, h2, h3, _⟩ := mkTI_spec hi
  rw [hk] at h3
  obtain ⟨rfl, jj, hjj, hjs, _⟩ := mkTK_slice h3
  obtain ⟨r1, r2⟩ := parts_rel (S := S) (m := m) hρ ps.toList
  obtain ⟨m1, e1, hb⟩ := ros hR ids
  obtain ⟨r3, r4⟩ := closeParts_sound (fz := fz) hR hb hcp r1 r2 (fun i hi => hi)
  have hw : m1.w = m.w := hb.w
  obtain ⟨v, g1, g2, g3⟩ := zero_spec hj hz m.w
  have hlz : v.cells.size = sz := by rw [← hzl, g2]; simp
  obtain ⟨ys, k1, k2, k3, k4⟩ := fillV_sound (S := S) (m := m1) (xs := (List.replicate len v.cells.toList).flatten) h (zero_cells_RVs g2 len) (all_replicate hone len) r3 r4
  have hf1 : Fresh m1 c 1 := fun id g q1 q2 => by rw [hb.iss]; exact hf id g q1 q2
  have hcl : cs.length = len * sz := by
    rw [k4, flatten_len sz _ (fun r hr => by rw [List.eq_of_mem_replicate hr]; exact hzl)]; simp
  have hlen : len ≤ maxLen := by
    have : len * 1 ≤ len * sz := Nat.mul_le_mul_left _ hpos
    unfold maxLen; omega
  obtain ⟨m', w1, w2, w3, w4, w5, w6⟩ := osl_new (P := P) (T := e) (len := len) (cap := len) (sz := sz) (rd := ids) hb.rel hf1 k2 k3 hcl (Nat.le_refl _) hlen
  refine ⟨_, m', ?_, w2, hb.evo.trans w3, w4, ?_, ?_⟩
  · rw [hw] at w1
    rw [hw]
    have hk1 : Instr.fill (fun i => some (i * sz, sz)) ((Array.range (len * sz)).map (fun i => v.cells[i % v.cells.size]!)) (ps.map fun p => (p.1, σ p.2)).toList = some ys.toArray := by
      rw [← hlz, range_map_toArray, hlz, ← k1]
      simp
    simp only [Instr.buildSlice, Sem.run_bind, run_underlying h2, Result.andThen_ok, run_sizeOf' hjj, hjs, show ¬ (len * sz > 2 ^ 24) by omega, if_false, Sem.run_pure]
    by_cases h0 : len * sz = 0
    · simp only [h0, if_true, Sem.run_bind, Sem.run_pure, Result.andThen_ok]
      have : ∀ f : Nat → Value, Array.map f (Array.range 0) = #[] := fun f => by apply Array.ext'; simp
      rw [h0, this] at hk1
      rw [this]
      simp only [hk1, Sem.run_bind, w1, Result.andThen_ok, Sem.run_pure]
    · simp only [h0, if_false, Sem.run_bind, g1, Result.andThen_ok, Sem.run_pure, hk1, w1]
  · rw [w5, e1, hupd_append]
  · rw [w6, hb.iss]

theorem RVs.map {ρ : Operand → V} {σ : Operand → Value} (h : ∀ x, RV S m (ρ x) (σ x)) (l : List Operand) : RVs S m (l.map ρ) (l.map σ) := by
  refine ⟨by simp, fun j a b ha hb => ?_⟩
  rw [List.getElem?_map] at ha hb
  cases hp : l[j]? with
  | none => simp [hp] at ha
  | some p => simp [hp] at ha hb; subst ha; subst hb; exact h p

theorem builtinV_sound {n c : Nat} {b : Builtin} {ts : Array TypeId} {ty : TypeId} {vs : List V} {xs : List Value} {r : Res} (h : builtinV P m.h n c b ts.toList vs = some r) (hR : Rel S m) (hf : Fresh m c r.dc) (hv : RVs S m vs xs) :
    ∃ x m', (∀ consts : Array Bool, (builtin b ts ty consts xs.toArray).run P m.w = .ok (.value x) m'.w) ∧ After S m c r x m' := by
  unfold builtinV at h
  split at h
  · rename_i t x hts
    simp only [Option.bind_eq_some_iff] at h
    obtain ⟨i, hi, h⟩ := h
    obtain ⟨v, ys, rfl, hx, hys⟩ := hv.cases
    have : ys = [] := List.length_eq_zero_iff.1 (by have := hys.1; simpa using this.symm)
    subst this
    obtain rfl : ts = #[t] := by apply Array.ext'; simpa using hts
    obtain ⟨z, g1, g2⟩ := lenV_sound (P := P) (ty := ty) (c := c) hi h hR hx
    exact ⟨z, m, fun _ => by simp [builtin, g1], g2⟩
  · rename_i t u s x hts
    split at h
    · rename_i htu; subst htu
      simp only [Option.bind_eq_some_iff] at h
      obtain ⟨i, hi, h⟩ := h
      obtain ⟨v, ys, rfl, hs, hys⟩ := hv.cases
      obtain ⟨y, ys, rfl, hx, hys⟩ := hys.cases
      have : ys = [] := List.length_eq_zero_iff.1 (by have := hys.1; simpa using this.symm)
      subst this
      obtain rfl : ts = #[t, t] := by apply Array.ext'; simpa using hts
      obtain ⟨z, m', g1, g2⟩ := appendV_sound (P := P) (ty := ty) hi h hR hf hs hx
      exact ⟨z, m', fun _ => by simp [builtin, g1], g2⟩
    · simp at h
  · rename_i t u s x hts
    split at h
    · rename_i htu; subst htu
      simp only [Option.bind_eq_some_iff] at h
      obtain ⟨i, hi, h⟩ := h
      obtain ⟨v, ys, rfl, hs, hys⟩ := hv.cases
      obtain ⟨y, ys, rfl, hx, hys⟩ := hys.cases
      have : ys = [] := List.length_eq_zero_iff.1 (by have := hys.1; simpa using this.symm)
      subst this
      obtain rfl : ts = #[t, t] := by apply Array.ext'; simpa using hts
      obtain ⟨z, m', g1, g2⟩ := copyV_sound (P := P) (ty := ty) (c := c) hi h hR hs hx
      exact ⟨z, m', fun _ => by simp [builtin, g1], g2⟩
    · simp at h
  · simp at h

theorem step_sound {o : Oper} {fz fs : Bool} {n c : Nat} {ρ : Operand → V} {σ : Operand → Value} {r : Res} (h : step P fz fs ρ m.h n c o.op = some r) (hρ : ∀ x, RV S m (ρ x) (σ x)) (hR : Rel S m)
    (hf : Fresh m c r.dc) : ∃ x m', Gives P σ o m.w x m'.w ∧ After S m c r x m' := by
  obtain ⟨dst, op, ty, pos, after, guard⟩ := o
  cases op <;> simp only [step] at h <;> try (simp at h; done)
  case move x => simp [ret] at h; subst h; exact ⟨σ x, m, .inl (by simp [execOp]), After.quiet hR (hρ x)⟩
  case assign x => simp [ret] at h; subst h; exact ⟨σ x, m, .inl (by simp [execOp]), After.quiet hR (hρ x)⟩
  case pick q a b =>
    split at h
    · rename_i hq
      simp [ret] at h; subst h
      have := (hq ▸ hρ q).bool_inv
      exact ⟨σ a, m, .inl (by simp [execOp, this, asBool]), After.quiet hR (hρ a)⟩
    · rename_i hq
      simp [ret] at h; subst h
      have := (hq ▸ hρ q).bool_inv
      exact ⟨σ b, m, .inl (by simp [execOp, this, asBool]), After.quiet hR (hρ b)⟩
    · simp at h
  case alloc t =>
    split at h
    · rename_i i hi
      split at h
      · rename_i z hz
        split at h
        · rename_i hone
          obtain ⟨x, m', g1, g2⟩ := alloc_sound (P := P) hi hz hone h hR hf
          exact ⟨x, m', .inl (by simp [execOp, g1]), g2⟩
        · simp at h
      · simp at h
    · simp at h
  case box t x =>
    simp only [Option.bind_eq_some_iff] at h
    obtain ⟨cs, hcs, h⟩ := h
    obtain ⟨y, m', g1, g2⟩ := box_sound (P := P) (t := t) hcs h hR hf (hρ x)
    exact ⟨y, m', .inl (by simp [execOp, g1]), g2⟩
  case build t ps =>
    split at h
    · rename_i i hi
      split at h
      · rename_i z fs hz hk
        split at h
        · rename_i hone
          simp only [Option.bind_eq_some_iff] at h
          obtain ⟨cs, hcs, h⟩ := h
          simp [ret] at h; subst h
          obtain ⟨ys, g1, g2⟩ := build_sound (P := P) hi hz hone (.inl ⟨fs, hk, rfl⟩) hcs hρ
          exact ⟨_, m, .inl (by simp [execOp, g1]), After.quiet hR g2.agg⟩
        · simp at h
      · rename_i z n' e sz ag hz hk
        split at h
        · rename_i hone
          simp only [Option.bind_eq_some_iff] at h
          obtain ⟨cs, hcs, h⟩ := h
          simp [ret] at h; subst h
          obtain ⟨ys, g1, g2⟩ := build_sound (P := P) hi hz hone (.inr ⟨_, _, _, _, hk, rfl⟩) hcs hρ
          exact ⟨_, m, .inl (by simp [execOp, g1]), After.quiet hR g2.agg⟩
        · simp at h
      · simp at h
    · simp at h
  case buildSlice t len ps =>
    split at h
    · rename_i i hi
      split at h
      · rename_i e sz by_ hk
        split at h
        · rename_i j hj
          split at h
          · rename_i z hz
            split at h
            · rename_i hcond
              split at h
              · rename_i qs ids hcp
                simp only [Option.bind_eq_some_iff] at h
                obtain ⟨cs, hcs, h⟩ := h
                simp only [Option.some.injEq] at h; subst h
                obtain ⟨x, m', g1, g2⟩ := buildSlice_sound (P := P) hi hk hj hz hcond.1 hcond.2.1 hcond.2.2.1 hcond.2.2.2 hρ hR hf hcp hcs
                exact ⟨x, m', .inl (by simp [execOp, g1]), g2⟩
              · simp at h
            · simp at h
          · simp at h
        · simp at h
      · simp at h
    · simp at h
  case load t a =>
    simp only [Option.bind_eq_some_iff] at h
    obtain ⟨i, hi, h⟩ := h
    obtain ⟨x, g1, g2⟩ := loadV_sound (P := P) (c := c) hi h rfl hR (hρ a)
    exact ⟨x, m, .inl (by simp [execOp, g1]), g2⟩
  case store t a x =>
    simp only [Option.bind_eq_some_iff] at h
    obtain ⟨i, hi, h⟩ := h
    obtain ⟨m', g1, g2⟩ := storeV_sound (P := P) (c := c) hi h hR (hρ a) (hρ x)
    exact ⟨undef, m', .inr ⟨by simp [execOp, g1], rfl⟩, g2⟩
  case binOp op t x y yt =>
    split at h
    · rename_i a b ha hb
      split at h
      · rename_i i hi
        split at h
        · rename_i hk
          obtain ⟨_, d, _, i2, i3, _⟩ := mkTI_spec hi
          rw [hk] at i3
          have := mkTK_bool i3; subst this
          simp only [Option.bind_eq_some_iff] at h
          obtain ⟨v, hv, h⟩ := h
          simp [ret] at h; subst h
          obtain ⟨z, g1, g2, g3⟩ := boolBin_sound (S := S) (m := m) (P := P) x y i2 hv
          have e1 := (ha ▸ hρ x).bool_inv
          have e2 := (hb ▸ hρ y).bool_inv
          exact ⟨z, m, .inl (by simp [execOp, e1, e2, g1, g2]), After.quiet hR g3⟩
        · simp at h
      · simp at h
    · simp only [Option.bind_eq_some_iff] at h
      obtain ⟨v, hv, h⟩ := h
      simp [ret] at h; subst h
      obtain ⟨z, g1, g2, g3⟩ := binV_sound (P := P) t x y hv (hρ x) (hρ y)
      exact ⟨z, m, .inl (by simp [execOp, g1, g2]), After.quiet hR g3⟩
  case unOp op t x =>
    simp only [Option.bind_eq_some_iff] at h
    obtain ⟨v, hv, h⟩ := h
    simp [ret] at h; subst h
    obtain ⟨z, g1, g2⟩ := unV_sound (P := P) hv (hρ x)
    exact ⟨z, m, .inl (by simp [execOp, g1]), After.quiet hR g2⟩
  case convert s t x =>
    split at h
    · rename_i i j hi hj
      simp only [Option.bind_eq_some_iff] at h
      obtain ⟨v, hv, h⟩ := h
      simp [ret] at h; subst h
      obtain ⟨z, g1, g2⟩ := convV_sound (P := P) hi hj hv (hρ x)
      exact ⟨z, m, .inl (by simp [execOp, g1]), After.quiet hR g2⟩
    · simp at h
  case makeFunc fn first caps =>
    cases fn <;> simp only [] at h <;> try (simp at h; done)
    split at h
    · rename_i f hfst
      simp [ret] at h; subst h
      have hfe : first = #[] := by simpa using hfst
      subst hfe
      refine ⟨_, m, .inl (by simp [execOp, Instr.makeFunc]; rfl), After.quiet hR ?_⟩
      have := RVs.map (S := S) (m := m) hρ caps.toList
      refine .fn (by simp) fun j a b ha hb => this.2 j a b ha ?_
      simpa using hb
    · simp at h
  case makeSlice t l q =>
    split at h
    · rename_i i hi
      split at h
      · rename_i e sz by_ hk
        obtain ⟨x, m', g1, g2⟩ := makeV_sound (P := P) hi hk h hR hf (hρ l) (hρ q)
        exact ⟨x, m', .inl (by simp [execOp, g1]), g2⟩
      · simp at h
    · simp at h
  case slice t x lo hi mx =>
    split at h
    · simp at h
    · rename_i hno
      simp only [Option.bind_eq_some_iff] at h
      obtain ⟨i, hti, h⟩ := h
      obtain ⟨z, g1, g2⟩ := sliceV_sound (P := P) (c := c) hti h hR (hρ x) (RO.map hρ lo) (RO.map hρ hi) (RO.map hρ mx) (by
        intro h1
        cases mx with
        | none => simp at h1
        | some q =>
          cases hi with
          | none => simp at hno
          | some p => rfl)
      exact ⟨z, m, .inl (by simp [execOp, g1]), g2⟩
  case fieldAddr t x f =>
    simp only [Option.bind_eq_some_iff] at h
    obtain ⟨i, hi, h⟩ := h
    obtain ⟨z, g1, g2⟩ := fieldAddrV_sound (P := P) (c := c) hi h hR (hρ x)
    exact ⟨z, m, .inl (by simp [execOp, g1]), g2⟩
  case field t x f =>
    simp only [Option.bind_eq_some_iff] at h
    obtain ⟨i, hi, h⟩ := h
    obtain ⟨z, g1, g2⟩ := fieldV_sound (P := P) (c := c) hi h hR (hρ x)
    exact ⟨z, m, .inl (by simp [execOp, g1]), g2⟩
  case indexAddr t x ix =>
    simp only [Option.bind_eq_some_iff] at h
    obtain ⟨i, hi, h⟩ := h
    obtain ⟨z, g1, g2⟩ := indexAddrV_sound (P := P) (c := c) hi h hR (hρ x) (hρ ix)
    exact ⟨z, m, .inl (by simp [execOp, g1]), g2⟩
  case index t x ix =>
    simp only [Option.bind_eq_some_iff] at h
    obtain ⟨i, hi, h⟩ := h
    obtain ⟨z, g1, g2⟩ := indexV_sound (P := P) (c := c) hi h hR (hρ x) (hρ ix)
    exact ⟨z, m, .inl (by simp [execOp, g1]), g2⟩
  case extract t ix =>
    split at h
    · rename_i vs ht
      simp only [Option.bind_eq_some_iff] at h
      obtain ⟨v, hv, h⟩ := h
      simp [ret] at h; subst h
      obtain ⟨xs, hxt, hxs⟩ := (ht ▸ hρ t).tuple_vals
      obtain ⟨x, g1, g2⟩ := hxs.get hv
      exact ⟨x, m, .inl (by simp [execOp, hxt, Instr.extract, g1]), After.quiet hR g2⟩
    · simp at h
  case call cl =>
    obtain ⟨callee, args, ts⟩ := cl
    cases callee <;> simp only [] at h <;> try (simp at h; done)
    rename_i b
    obtain ⟨x, m', g1, g2⟩ := builtinV_sound (P := P) (ty := ty) h hR hf (RVs.map hρ args.toList)
    refine ⟨x, m', .inl ?_, g2⟩
    have : (List.map σ args.toList).toArray = args.map σ := by apply Array.ext'; simp
    rw [this] at g1
    simp [execOp, resolve, invoke, g1]

end Go.Ab
end

section
/- The abstract machine: what an operation does hangs on what it looks at alone. No conditions. -/
set_option linter.unusedVariables false
set_option linter.unusedSimpArgs false
namespace Go.Ab
variable {P : Program}

/-- Two memories that agree on some names. -/
def Agree (l k : Look) (ids : List Nat) : Prop := ∀ i ∈ ids, l i = k i

theorem Agree.mono {l k : Look} {a b : List Nat} (h : Agree l k b) (hs : ∀ i ∈ a, i ∈ b) : Agree l k a := fun i hi => h i (hs i hi)

theorem live_loc {l k : Look} {id g : Nat} (h : l id = k id) : live l id g = live k id g := by unfold live; rw [h]

theorem toDs_loc {f g : V → Option (D × List Nat)} : ∀ {vs : List V} {ds : List D} {ids : List Nat}, toDs f vs = some (ds, ids) → (∀ v d a, f v = some (d, a) → (∀ i ∈ a, i ∈ ids) → g v = some (d, a)) → toDs g vs = some (ds, ids)
  | [], ds, ids, h, _ => h
  | v :: r, ds, ids, h, hf => by
    simp only [toDs] at h ⊢
    split at h
    · rename_i x a xs b h1 h2
      simp at h; obtain ⟨rfl, rfl⟩ := h
      rw [hf v x a h1 (fun i hi => by simp [hi]), toDs_loc h2 (fun v d a' h3 h4 => hf v d a' h3 (fun i hi => by simp [h4 i hi]))]
    · simp at h

theorem toD_loc {l k : Look} : ∀ (f : Nat) {v : V} {x : D} {ids : List Nat}, toD l f v = some (x, ids) → Agree l k ids → toD k f v = some (x, ids) := by
  intro f
  induction f with
  | zero => intro v x ids h ha; cases v <;> simp only [toD] at h ⊢ <;> exact h
  | succ f ih =>
    intro v x ids h ha
    cases v <;> simp only [toD] at h ⊢ <;> try exact h
    rename_i id g off len sz cap
    cases hl : live l id g with
    | none => simp [hl] at h
    | some o =>
      simp only [hl] at h
      split at h
      · rename_i ds r h1 h2
        simp at h; obtain ⟨rfl, rfl⟩ := h
        rw [← live_loc (ha id (by simp)), hl]
        simp only [h1]
        rw [toDs_loc h2 (fun v d a h3 h4 => ih h3 (ha.mono fun i hi => by simp [h4 i hi]))]
      · simp at h

theorem close1_loc {l k : Look} {v w : V} {ids : List Nat} (h : close1 l v = some (w, ids)) (ha : Agree l k ids) : close1 k v = some (w, ids) := by
  have gen : ∀ v, ofD (toD l depthD v) = some (w, ids) → ofD (toD k depthD v) = some (w, ids) := by
    intro v h
    unfold ofD at h
    split at h
    · rename_i x r hx
      simp at h; obtain ⟨rfl, rfl⟩ := h
      rw [toD_loc depthD hx ha]; rfl
    · simp at h
  cases v with
  | con v => exact h
  | fn f cs => cases cs with
    | nil => exact h
    | cons c cs => simp only [close1] at h ⊢; exact gen _ h
  | _ => simp only [close1] at h ⊢; exact gen _ h

theorem closeVs_loc {f g : V → Option (V × List Nat)} : ∀ {vs ws : List V} {ids : List Nat}, closeVs f vs = some (ws, ids) → (∀ v w a, f v = some (w, a) → (∀ i ∈ a, i ∈ ids) → g v = some (w, a)) → closeVs g vs = some (ws, ids)
  | [], ds, ids, h, _ => h
  | v :: r, ds, ids, h, hf => by
    simp only [closeVs] at h ⊢
    split at h
    · rename_i x a xs b h1 h2
      simp at h; obtain ⟨rfl, rfl⟩ := h
      rw [hf v x a h1 (fun i hi => by simp [hi]), closeVs_loc h2 (fun v d a' h3 h4 => hf v d a' h3 (fun i hi => by simp [h4 i hi]))]
    · simp at h

theorem close_loc {l k : Look} {v w : V} {ids : List Nat} (h : close l v = some (w, ids)) (ha : Agree l k ids) : close k v = some (w, ids) := by
  cases v with
  | agg cs =>
    simp only [close] at h ⊢
    split at h
    · rename_i xs r hx
      simp at h; obtain ⟨rfl, rfl⟩ := h
      rw [closeVs_loc hx (fun v w a h1 h2 => close1_loc h1 (ha.mono h2))]
    · simp at h
  | _ => simp only [close] at h ⊢; exact close1_loc h ha

theorem cl1_loc {l k : Look} {fz : Bool} {v w : V} {ids : List Nat} (h : cl1 l fz v = some (w, ids)) (ha : Agree l k ids) : cl1 k fz v = some (w, ids) := by
  cases v with
  | osl id g off len sz cap =>
    cases fz with
    | true => simp only [cl1] at h ⊢; exact close1_loc h ha
    | false => exact h
  | _ => exact h

theorem cl2_loc {l k : Look} {fz : Bool} {v w : V} {ids : List Nat} (h : cl2 l fz v = some (w, ids)) (ha : Agree l k ids) : cl2 k fz v = some (w, ids) := by
  cases v with
  | agg cs =>
    simp only [cl2] at h ⊢
    split at h
    · rename_i xs r hx
      simp at h; obtain ⟨rfl, rfl⟩ := h
      rw [closeVs_loc hx (fun v w a h1 h2 => cl1_loc h1 (ha.mono h2))]
    · simp at h
  | _ => simp only [cl2] at h ⊢; exact cl1_loc h ha

theorem closeParts_loc {l k : Look} {fz : Bool} : ∀ {ps qs : List (Nat × V)} {ids : List Nat}, closeParts l fz ps = some (qs, ids) → Agree l k ids → closeParts k fz ps = some (qs, ids)
  | [], qs, ids, h, _ => h
  | (i, x) :: r, qs, ids, h, ha => by
    simp only [closeParts] at h ⊢
    split at h
    · rename_i y a ys b h1 h2
      simp at h; obtain ⟨rfl, rfl⟩ := h
      rw [cl2_loc h1 (ha.mono fun i hi => by simp [hi]), closeParts_loc h2 (ha.mono fun i hi => by simp [hi])]
    · simp at h

theorem roOf_loc {l k : Look} : ∀ {ids : List Nat}, Agree l k ids → roOf l ids = roOf k ids
  | [], _ => rfl
  | id :: r, h => by
    simp only [roOf]
    rw [h id (by simp), roOf_loc (h.mono fun i hi => by simp [hi])]

theorem rowsOf_loc {l k : Look} {sz n : Nat} {x : V} {vs : List V} {rd : List Nat} (h : rowsOf l sz x = some (n, vs, rd)) (ha : Agree l k rd) : rowsOf k sz x = some (n, vs, rd) := by
  unfold rowsOf at h ⊢
  split at h <;> try exact h
  rename_i id g off len sz' cap
  split at h
  · rename_i o hl hb
    split at h
    · rename_i hle
      simp only [Option.some.injEq, Prod.mk.injEq] at h; obtain ⟨rfl, rfl, rfl⟩ := h
      simp only [← live_loc (ha id (by simp)), hl, hb, hle]
    · simp at h
  · simp at h

theorem loadV_loc {l k : Look} {i : TI} {p : V} {r : Res} (h : loadV l i p = some r) (ha : Agree l k r.rd) : loadV k i p = some r := by
  unfold loadV at h ⊢
  split at h
  · rename_i id g off
    cases hl : live l id g with
    | none => simp [hl] at h
    | some o =>
      simp only [hl, Option.bind_eq_some_iff] at h
      obtain ⟨y, hy, hr⟩ := h
      simp [retR] at hr; subst hr
      simp only [← live_loc (ha id (by simp)), hl, hy]; rfl
  · exact h
  · exact h

theorem storeV_loc {l k : Look} {fz : Bool} {i : TI} {p x : V} {r : Res} (h : storeV l fz i p x = some r) (ha : Agree l k r.rd) : storeV k fz i p x = some r := by
  unfold storeV at h ⊢
  split at h
  · rename_i id g off xs hcx
    split at h
    · rename_i o ys ids hl hcl
      split at h
      · rename_i c1 c2 c3 c4
        simp only [Option.some.injEq] at h; subst h
        have ha' : Agree l k ids := ha.mono fun i hi => by simp [hi]
        simp only [hcx, ← live_loc (ha id (by simp)), hl, closeVs_loc hcl (fun v w a h1 h2 => cl1_loc h1 (ha'.mono h2)), c1, c2, c3, c4, roOf_loc ha']
      · simp at h
    · simp at h
  · simp at h

theorem appendV_loc {l k : Look} {n c : Nat} {i : TI} {s x : V} {r : Res} (h : appendV l n c i s x = some r) (ha : Agree l k r.rd) : appendV k n c i s x = some r := by
  unfold appendV at h ⊢
  split at h
  · rename_i e sz by_ hk
    split at h
    · rename_i m xs rx hrows
      split at h
      · rename_i rows
        split at h
        · rename_i c1 c2 c3
          simp only [Option.some.injEq] at h; subst h
          simp only [rowsOf_loc hrows ha, c1, c2, c3]
        · simp at h
      · rename_i id g off len sz' cap
        split at h
        · rename_i o hl hb
          split at h
          · rename_i c1 c2
            split at h
            · rename_i q
              split at h
              · rename_i c3 c4 c5
                simp only [Option.some.injEq] at h; subst h
                simp only [rowsOf_loc hrows (ha.mono fun i hi => by simp [hi]), ← live_loc (ha id (by simp)), hl, hb, c1, c2, c3, c4, c5]
              · rename_i c3
                simp only [Option.some.injEq] at h; subst h
                simp only [rowsOf_loc hrows (ha.mono fun i hi => by simp [hi]), ← live_loc (ha id (by simp)), hl, hb, c1, c2, c3]
              · simp at h
            · split at h
              · rename_i c3
                simp only [Option.some.injEq] at h; subst h
                simp only [rowsOf_loc hrows (ha.mono fun i hi => by simp [hi]), ← live_loc (ha id (by simp)), hl, hb, c1, c2, c3]
              · simp at h
          · simp at h
        · simp at h
      · simp at h
    · simp at h
  · simp at h

theorem lenV_loc {l k : Look} {i : TI} {x : V} {r : Res} (h : lenV l i x = some r) (ha : Agree l k r.rd) : lenV k i x = some r := by
  unfold lenV at h ⊢
  split at h <;> try exact h
  rename_i id g off len sz cap
  split at h
  · rename_i e s b o hk hl
    simp [retR] at h; subst h
    simp only [hk, ← live_loc (ha id (by simp)), hl]; rfl
  · simp at h

theorem copyV_loc {l k : Look} {i : TI} {s x : V} {r : Res} (h : copyV l i s x = some r) (ha : Agree l k r.rd) : copyV k i s x = some r := by
  unfold copyV at h ⊢
  split at h
  · rename_i e sz by_ id g off len sz' cap hk
    split at h
    · rename_i m xs rx o hrows hl hb
      split at h
      · rename_i c1 c2
        simp only [Option.some.injEq] at h; subst h
        simp only [rowsOf_loc hrows (ha.mono fun i hi => by simp [hi]), ← live_loc (ha id (by simp)), hl, hb, c1, c2]
      · simp at h
    · simp at h
  · simp at h

theorem indexAddrV_loc {l k : Look} {i : TI} {x ix : V} {r : Res} (h : indexAddrV l i x ix = some r) (ha : Agree l k r.rd) : indexAddrV k i x ix = some r := by
  unfold indexAddrV at h ⊢
  split at h <;> try exact h
  split at h <;> try exact h
  · rename_i e sz by_ id g off len sz' cap hk
    split at h
    · rename_i o hl hb
      simp only [Option.bind_eq_some_iff] at h
      obtain ⟨q, hq, hr⟩ := h
      simp [retR] at hr; subst hr
      simp only [← live_loc (ha id (by simp)), hl, hb, hq]; rfl
    · simp at h
  · rename_i n e sz ag id g off hk
    split at h
    · rename_i o hl
      simp only [Option.bind_eq_some_iff] at h
      obtain ⟨q, hq, hr⟩ := h
      simp [retR] at hr; subst hr
      simp only [← live_loc (ha id (by simp)), hl, hq]; rfl
    · simp at h

theorem fieldAddrV_loc {l k : Look} {i : TI} {f : Nat} {x : V} {r : Res} (h : fieldAddrV l i f x = some r) (ha : Agree l k r.rd) : fieldAddrV k i f x = some r := by
  unfold fieldAddrV at h ⊢
  split at h <;> try exact h
  split at h <;> try exact h
  split at h <;> try exact h
  split at h <;> try exact h
  rename_i id g o
  split at h
  · rename_i ob hl
    simp [retR] at h; subst h
    simp only [← live_loc (ha id (by simp)), hl]; rfl
  · simp at h

theorem sliceV_loc {l k : Look} {i : TI} {x : V} {lo hi mx : Option V} {r : Res} (h : sliceV l i x lo hi mx = some r) (ha : Agree l k r.rd) : sliceV k i x lo hi mx = some r := by
  unfold sliceV at h ⊢
  split at h <;> try exact h
  rename_i e sz by_ id g off len sz' cap hk
  split at h
  · rename_i o p q hl hb e1 e2
    split at h
    · rename_i hc
      simp only [retR, Option.some.injEq] at h; subst h
      simp only [← live_loc (ha id (by simp)), hl, hb, e1, e2, if_pos hc]; rfl
    · simp at h
  · rename_i o p q m hl hb e1 e2
    split at h
    · rename_i mm e3
      split at h
      · rename_i hc
        simp only [retR, Option.some.injEq] at h; subst h
        simp only [← live_loc (ha id (by simp)), hl, hb, e1, e2, e3, if_pos hc]; rfl
      · simp at h
    · simp at h
  · simp at h

theorem builtinV_loc {l k : Look} {n c : Nat} {b : Builtin} {ts : List TypeId} {vs : List V} {r : Res} (h : builtinV P l n c b ts vs = some r) (ha : Agree l k r.rd) : builtinV P k n c b ts vs = some r := by
  unfold builtinV at h ⊢
  split at h <;> try exact h
  · simp only [Option.bind_eq_some_iff] at h ⊢
    obtain ⟨i, hi, h⟩ := h
    exact ⟨i, hi, lenV_loc h ha⟩
  · split at h
    · rename_i e
      rw [if_pos e]
      simp only [Option.bind_eq_some_iff] at h ⊢
      obtain ⟨i, hi, h⟩ := h
      exact ⟨i, hi, appendV_loc h ha⟩
    · simp at h
  · split at h
    · rename_i e
      rw [if_pos e]
      simp only [Option.bind_eq_some_iff] at h ⊢
      obtain ⟨i, hi, h⟩ := h
      exact ⟨i, hi, copyV_loc h ha⟩
    · simp at h

theorem step_loc {fz fs : Bool} {ρ : Operand → V} {l k : Look} {n c : Nat} {op : Op} {r : Res} (h : step P fz fs ρ l n c op = some r) (ha : Agree l k r.rd) : step P fz fs ρ k n c op = some r := by
  cases op <;> simp only [step] at h ⊢ <;> try exact h
  case buildSlice t len ps =>
    split at h <;> try exact h
    split at h <;> try exact h
    split at h <;> try exact h
    split at h <;> try exact h
    split at h
    · rename_i hc
      rw [if_pos hc]
      split at h
      · rename_i qs ids hcp
        simp only [Option.bind_eq_some_iff] at h
        obtain ⟨cs, hcs, h⟩ := h
        simp only [Option.some.injEq] at h; subst h
        have ha' : Agree l k ids := ha
        rw [closeParts_loc hcp ha']
        simp only [hcs, Option.bind_some, roOf_loc ha']
      · simp at h
    · simp at h
  case makeFunc fn first caps => cases fn <;> exact h
  case load t a =>
    simp only [Option.bind_eq_some_iff] at h ⊢
    obtain ⟨i, hi, h⟩ := h
    exact ⟨i, hi, loadV_loc h ha⟩
  case store t a x =>
    simp only [Option.bind_eq_some_iff] at h ⊢
    obtain ⟨i, hi, h⟩ := h
    exact ⟨i, hi, storeV_loc h ha⟩
  case slice t x lo hi mx =>
    split at h
    · simp at h
    · rename_i hno
      rw [if_neg hno]
      simp only [Option.bind_eq_some_iff] at h ⊢
      obtain ⟨i, hi, h⟩ := h
      exact ⟨i, hi, sliceV_loc h ha⟩
  case fieldAddr t x f =>
    simp only [Option.bind_eq_some_iff] at h ⊢
    obtain ⟨i, hi, h⟩ := h
    exact ⟨i, hi, fieldAddrV_loc h ha⟩
  case indexAddr t x ix =>
    simp only [Option.bind_eq_some_iff] at h ⊢
    obtain ⟨i, hi, h⟩ := h
    exact ⟨i, hi, indexAddrV_loc h ha⟩
  case call cl =>
    obtain ⟨callee, args, ts⟩ := cl
    cases callee <;> simp only [] at h ⊢ <;> try exact h
    exact builtinV_loc h ha

end Go.Ab
end

section
/- The abstract machine: a call. No conditions. -/
set_option linter.unusedVariables false
set_option linter.unusedSimpArgs false
namespace Go.Ab
variable {P : Program}

/-- What a caller may count on behind a call. -/
def Back (S : Nat → Prop) (m : M) (r : CR) (x : Value) (m' : M) : Prop :=
  Rel S m' ∧ Evo S m m' ∧ RV S m' r.v x ∧ m'.h = r.hp.get ∧ m'.iss = fun _ g => g < r.c

def Tops (hp : Hp) (n : Nat) : Prop := ∀ id, n ≤ id → hp.get id = none

structure LogOK (hp : Hp) (n c : Nat) (r : CR) : Prop where
  le_n : n ≤ r.n
  le_c : c ≤ r.c
  top : Tops r.hp r.n
  same : ∀ id, id < n → id ∉ r.wl → r.hp.get id = hp.get id
  stay : ∀ id, id < n → r.hp.get id = none → hp.get id = none

structure CallOK (P : Program) (call : CallF) : Prop where
  log : ∀ {f : FuncId} {vs : List V} {hp : Hp} {n c : Nat} {r : CR}, call f vs hp n c = some r → Tops hp n → LogOK hp n c r
  ok : ∀ {f : FuncId} {vs : List V} {hp : Hp} {n c : Nat} {r : CR}, call f vs hp n c = some r → Tops hp n → ∀ {S : Nat → Prop} {m : M} {xs : List Value}, m.h = hp.get → (m.iss = fun _ g => g < c) → Rel S m → RVs S m vs xs →
    Calls P f xs.toArray m.w (fun e w' => ∃ x m', e = .returned x ∧ m'.w = w' ∧ Back S m r x m')

/-! ### Values that hold no name -/

def V.shut1 : V → Bool
  | .d _ | .con _ | .full _ | .fn _ [] => true
  | _ => false
def V.shut2 : V → Bool
  | .agg cs => cs.all V.shut1
  | v => v.shut1
def V.shut : V → Bool
  | .tuple cs => cs.all V.shut2
  | v => v.shut2

theorem toD_noLook : ∀ (f : Nat) {v : V} {x : D} {r : List Nat}, toD noLook f v = some (x, r) → v.shut1 = true
  | 0, v, x, r, h => by cases v <;> simp_all [toD, V.shut1]
  | f + 1, v, x, r, h => by
    cases v <;> simp_all [toD, V.shut1]
    simp [live, noLook] at h

theorem close1_noLook {v w : V} {r : List Nat} (h : close1 noLook v = some (w, r)) : v.shut1 = true := by
  have gen : ∀ v, ofD (toD noLook depthD v) = some (w, r) → v.shut1 = true := by
    intro v h
    unfold ofD at h
    split at h
    · rename_i x r hx; exact toD_noLook _ hx
    · simp at h
  cases v with
  | con v => rfl
  | fn f cs => cases cs with
    | nil => rfl
    | cons c cs => simp only [close1] at h; exact gen _ h
  | _ => simp only [close1] at h; exact gen _ h

theorem closeVs_all {f : V → Option (V × List Nat)} {p : V → Bool} (hf : ∀ v w r, f v = some (w, r) → p v = true) : ∀ {vs ws : List V} {r : List Nat}, closeVs f vs = some (ws, r) → vs.all p = true
  | [], _, _, _ => rfl
  | v :: l, ws, r, h => by
    simp only [closeVs] at h
    split at h
    · rename_i x a xs b h1 h2
      simp [hf _ _ _ h1]
      simpa using closeVs_all hf h2
    · simp at h

theorem close_noLook {v w : V} {r : List Nat} (h : close noLook v = some (w, r)) : v.shut2 = true := by
  cases v with
  | agg cs =>
    simp only [close] at h
    split at h
    · rename_i xs r hx
      simp only [V.shut2]
      exact closeVs_all (fun v w r h => close1_noLook h) hx
    · simp at h
  | _ => simp only [close] at h; simpa only [V.shut2] using close1_noLook h

theorem closeT_noLook {v w : V} {r : List Nat} (h : closeT noLook v = some (w, r)) : v.shut = true := by
  cases v with
  | tuple cs =>
    simp only [closeT] at h
    split at h
    · rename_i xs r hx
      simp only [V.shut]
      exact closeVs_all (fun v w r h => close_noLook h) hx
    · simp at h
  | _ => simp only [closeT] at h; simpa only [V.shut] using close_noLook h

theorem toD_shut1 {look : Look} : ∀ (f : Nat) {v : V}, v.shut1 = true → toD look f v = toD noLook f v
  | 0, v, h => by cases v <;> simp_all [toD, V.shut1]
  | f + 1, v, h => by cases v <;> simp_all [toD, V.shut1]

theorem close1_noLook_any {look : Look} {v w : V} {r : List Nat} (h : close1 noLook v = some (w, r)) : close1 look v = some (w, r) := by
  have hs := close1_noLook h
  cases v with
  | con v => exact h
  | fn f cs => cases cs with
    | nil => exact h
    | cons c cs => simp [V.shut1] at hs
  | _ => simp only [close1] at h ⊢; rw [toD_shut1 _ hs]; exact h

theorem close_noLook_any {look : Look} {v w : V} {r : List Nat} (h : close noLook v = some (w, r)) : close look v = some (w, r) := by
  cases v with
  | agg cs =>
    simp only [close] at h ⊢
    split at h
    · rename_i xs r hx
      rw [closeVs_loc hx (fun v w a g1 _ => close1_noLook_any g1)]; exact h
    · simp at h
  | _ => simp only [close] at h ⊢; exact close1_noLook_any h

theorem close1_shut {look : Look} {v w : V} {r : List Nat} (h : close1 look v = some (w, r)) : w.shut1 = true := by
  unfold close1 at h
  split at h
  · simp at h; obtain ⟨rfl, rfl⟩ := h; rfl
  · simp at h; obtain ⟨rfl, rfl⟩ := h; rfl
  · unfold ofD at h
    split at h
    · simp at h; obtain ⟨rfl, rfl⟩ := h; rfl
    · simp at h

theorem closeVs_shut {f : V → Option (V × List Nat)} {p : V → Bool} (hf : ∀ v w r, f v = some (w, r) → p w = true) : ∀ {vs ws : List V} {r : List Nat}, closeVs f vs = some (ws, r) → ws.all p = true
  | [], ws, _, h => by simp [closeVs] at h; obtain ⟨rfl, rfl⟩ := h; rfl
  | v :: l, ws, r, h => by
    simp only [closeVs] at h
    split at h
    · rename_i x a xs b h1 h2
      simp at h; obtain ⟨rfl, rfl⟩ := h
      simp [hf _ _ _ h1]
      simpa using closeVs_shut hf h2
    · simp at h

theorem V.shut2_of1 {v : V} (h : v.shut1 = true) : v.shut2 = true := by cases v <;> first | exact h | (simp [V.shut1] at h)
theorem V.shut_of2 {v : V} (h : v.shut2 = true) : v.shut = true := by cases v <;> first | exact h | (simp [V.shut1, V.shut2] at h)

theorem close_shut {look : Look} {v w : V} {r : List Nat} (h : close look v = some (w, r)) : w.shut2 = true := by
  unfold close at h
  split at h
  · split at h
    · rename_i xs r hx
      simp at h; obtain ⟨rfl, rfl⟩ := h
      exact closeVs_shut (fun v w r h => close1_shut h) hx
    · simp at h
  · exact V.shut2_of1 (close1_shut h)

theorem closeT_shut {look : Look} {v w : V} {r : List Nat} (h : closeT look v = some (w, r)) : w.shut = true := by
  unfold closeT at h
  split at h
  · split at h
    · rename_i xs r hx
      simp at h; obtain ⟨rfl, rfl⟩ := h
      exact closeVs_shut (fun v w r h => close_shut h) hx
    · simp at h
  · exact V.shut_of2 (close_shut h)

section
variable {S S' : Nat → Prop} {m m' : M}

theorem RV.shut1 (k : ∀ x y, RD m.w (m.av S) x y → RD m'.w (m'.av S') x y) {v : V} {y : Value} (hs : v.shut1 = true) (h : RV S m v y) : RV S' m' v y := by
  cases h with
  | d h => exact .d (k _ _ h)
  | con => exact .con _
  | full h => exact .full (k _ _ h)
  | @fn f caps vs hl h =>
    cases caps with
    | nil => exact .fn hl (fun j x y hx => by simp at hx)
    | cons c cs => simp [V.shut1] at hs
  | _ => simp [V.shut1] at hs

theorem RV.shut2 (k : ∀ x y, RD m.w (m.av S) x y → RD m'.w (m'.av S') x y) {v : V} {y : Value} (hs : v.shut2 = true) (h : RV S m v y) : RV S' m' v y := by
  cases v with
  | agg cs =>
    cases h with
    | agg hl h =>
      simp only [V.shut2, List.all_eq_true] at hs
      exact .agg hl fun j x y hx hy => (h j x y hx hy).shut1 k (hs x (List.mem_of_getElem? hx))
  | _ => exact RV.shut1 k hs h

theorem RV.shut (k : ∀ x y, RD m.w (m.av S) x y → RD m'.w (m'.av S') x y) {v : V} {y : Value} (hs : v.shut = true) (h : RV S m v y) : RV S' m' v y := by
  cases v with
  | tuple cs =>
    cases h with
    | tuple hl h =>
      simp only [V.shut, List.all_eq_true] at hs
      exact .tuple hl fun j x y hx hy => (h j x y hx hy).shut2 k (hs x (List.mem_of_getElem? hx))
  | _ => exact RV.shut2 k hs h

theorem RD.flat {w w' : World} {av av' : Nat → Prop} {x : D} {y : Value} (hx : x.flat = true) (h : RD w av x y) : RD w' av' x y := by
  cases h with
  | bool b => exact .bool b
  | int k n => exact .int k n
  | str s l h => exact .str s l h
  | _ => simp [D.flat] at hx

theorem RV.flat1 {v : V} {y : Value} (hs : v.flat1 = true) (h : RV S m v y) : RV S' m' v y := by
  cases h with
  | d h => exact .d (h.flat hs)
  | con => exact .con _
  | _ => simp [V.flat1] at hs

theorem RV.flat2 {v : V} {y : Value} (hs : v.flat2 = true) (h : RV S m v y) : RV S' m' v y := by
  cases v with
  | agg cs =>
    cases h with
    | agg hl h =>
      simp only [V.flat2, List.all_eq_true] at hs
      exact .agg hl fun j x y hx hy => (h j x y hx hy).flat1 (hs x (List.mem_of_getElem? hx))
  | _ => exact RV.flat1 hs h

theorem RV.flat {v : V} {y : Value} (hs : v.flat = true) (h : RV S m v y) : RV S' m' v y := by
  cases v with
  | tuple cs =>
    cases h with
    | tuple hl h =>
      simp only [V.flat, List.all_eq_true] at hs
      exact .tuple hl fun j x y hx hy => (h j x y hx hy).flat2 (hs x (List.mem_of_getElem? hx))
  | _ => exact RV.flat2 hs h

/-- Memory that has grown, and is otherwise as it was. -/
theorem Rel.grown (hR : Rel S m) {w' : World} (hsz : m.w.heap.size ≤ w'.heap.size) (hrow : ∀ b, b < m.w.heap.size → w'.heap[b]? = m.w.heap[b]?) (hrest : w'.os = m.w.os ∧ w'.output = m.w.output ∧ ∀ a, w'.frozen? a = m.w.frozen? a) :
    Rel S { m with w := w' } ∧ Evo S m { m with w := w' } := by
  have e : Evo S m { m with w := w' } := {
    rest := hrest
    iss := fun _ _ h => h
    size := hsz
    shape := fun b cs T fz h => ⟨cs, fz, by rw [hrow b (block_lt h)]; exact h, rfl⟩
    keepS := fun b h _ => hrow b h
    keep := fun b h hn => ⟨hn, hrow b h⟩
    live := fun id o h _ => ⟨o, h, rfl, rfl, Nat.le_refl _⟩
    old := fun id o b x h1 h2 _ => ⟨o, x, h1, h2⟩ }
  refine ⟨⟨hR.iss, hR.none_, fun id o b base ho ha => ?_, hR.inj, fun b hb => Nat.lt_of_lt_of_le (hR.sub b hb) hsz⟩, e⟩
  obtain ⟨_, cs, T, fz, hr, _⟩ := hR.obj id o b base ho ha
  exact hR.other e ho ha (hrow b (block_lt hr))

/-- Some objects are let go. -/
theorem Rel.less (hR : Rel S m) {h' : Nat → Option Ob} (hh : ∀ id o, h' id = some o → m.h id = some o) :
    Rel S { m with h := h' } ∧ Evo S m { m with h := h' } := by
  have e : Evo S m { m with h := h' } := {
    rest := ⟨rfl, rfl, fun _ => rfl⟩
    iss := fun _ _ h => h
    size := Nat.le_refl _
    shape := fun b cs T fz h => ⟨cs, fz, h, rfl⟩
    keepS := fun b h _ => rfl
    keep := fun b h hn => ⟨fun hx => hn (by
      rcases hx with hx | ⟨id, o, x, h1, h2, h3⟩
      · exact .inl hx
      · exact .inr ⟨id, o, x, hh _ _ h1, h2, h3⟩), rfl⟩
    live := fun id o h _ => ⟨o, hh _ _ h, rfl, rfl, Nat.le_refl _⟩
    old := fun id o b x h1 h2 _ => ⟨o, x, hh _ _ h1, h2⟩ }
  refine ⟨⟨fun id o h => hR.iss id o (hh _ _ h), fun id o h => hR.none_ id o (hh _ _ h), fun id o b base ho ha => ?_, fun i j oi oj b x y hi hj => hR.inj i j oi oj b x y (hh _ _ hi) (hh _ _ hj), hR.sub⟩, e⟩
  exact hR.other e (hh _ _ ho) ha rfl

end

/-! ### The names of a callee's objects among the caller's -/

theorem hupd_fun {F : Nat → Option Ob} : ∀ {l : List (Nat × Ob)}, (∀ p ∈ l, F p.1 = some p.2) → ∀ (h : Nat → Option Ob) (id : Nat), hupd h l id = if id ∈ l.map (·.1) then F id else h id
  | [], _, h, id => by simp [hupd]
  | (k, o) :: r, hF, h, id => by
    simp only [hupd]
    rw [hupd_fun (fun p hp => hF p (by simp [hp]))]
    have hk := hF (k, o) (by simp)
    by_cases hm : id ∈ r.map (·.1)
    · rw [if_pos hm, if_pos (by simp only [List.map_cons, List.mem_cons]; exact .inr hm)]
    · rw [if_neg hm]
      by_cases hid : id = k
      · subst hid; simp [upd]; exact hk.symm
      · rw [upd_ne _ _ hid, if_neg (by simp only [List.map_cons, List.mem_cons, not_or]; exact ⟨hid, hm⟩)]

theorem mem_wrOf {look : Look} : ∀ {l : List Nat} {p : Nat × Ob}, p ∈ wrOf look l ↔ p.1 ∈ l ∧ look p.1 = some p.2
  | [], p => by simp [wrOf]
  | id :: r, p => by
    simp only [wrOf]
    cases h : look id with
    | none =>
      simp only [mem_wrOf, List.mem_cons]
      constructor
      · rintro ⟨h1, h2⟩; exact ⟨.inr h1, h2⟩
      · rintro ⟨h1 | h1, h2⟩
        · rw [h1, h] at h2; cases h2
        · exact ⟨h1, h2⟩
    | some o =>
      simp only [List.mem_cons, mem_wrOf]
      constructor
      · rintro (rfl | ⟨h1, h2⟩)
        · exact ⟨.inl rfl, h⟩
        · exact ⟨.inr h1, h2⟩
      · rintro ⟨h1 | h1, h2⟩
        · left; obtain ⟨a, b⟩ := p; simp only at h1 h2; subst h1; rw [h] at h2; cases h2; rfl
        · exact .inr ⟨h1, h2⟩

theorem keys_wrOf {look : Look} {l : List Nat} {id : Nat} : id ∈ (wrOf look l).map (·.1) ↔ id ∈ l ∧ ∃ o, look id = some o := by
  simp only [List.mem_map]
  constructor
  · rintro ⟨p, hp, rfl⟩; obtain ⟨h1, h2⟩ := mem_wrOf.1 hp; exact ⟨h1, p.2, h2⟩
  · rintro ⟨h1, o, h2⟩; exact ⟨(id, o), mem_wrOf.2 ⟨h1, h2⟩, rfl⟩

theorem hupd_wrOf {look : Look} (h : Nat → Option Ob) (l : List Nat) (id : Nat) : hupd h (wrOf look l) id = if id ∈ l ∧ (look id).isSome = true then look id else h id := by
  rw [hupd_fun (F := look) (fun p hp => (mem_wrOf.1 hp).2)]
  by_cases hc : id ∈ l ∧ (look id).isSome = true
  · rw [if_pos hc, if_pos (keys_wrOf.2 ⟨hc.1, Option.isSome_iff_exists.1 hc.2⟩)]
  · rw [if_neg hc, if_neg (fun h => hc ⟨(keys_wrOf.1 h).1, Option.isSome_iff_exists.2 (keys_wrOf.1 h).2⟩)]

theorem shiftVs_eq (n c : Nat) : ∀ l : List V, shiftVs n c l = l.map (shiftV n c)
  | [] => by simp [shiftVs]
  | v :: r => by simp [shiftVs, shiftVs_eq n c r]

def shiftO (n c : Nat) (o : Ob) : Ob := ⟨o.gen + c, o.ro, shiftVs n c o.cells⟩

/-- The callee's objects beside the caller's. -/
def beside (n c : Nat) (h0 h1 : Nat → Option Ob) : Nat → Option Ob := fun id =>
  if n ≤ id ∧ (h0 (id - n)).isSome = true then (h0 (id - n)).map (shiftO n c) else h1 id

theorem hupd_shiftH {n c N : Nat} {hp : Hp} (ht : Tops hp N) (h : Nat → Option Ob) : hupd h (shiftH n c (wrOf hp.get (List.range N))) = beside n c hp.get h := by
  funext id
  rw [hupd_fun (F := fun id => if n ≤ id then (hp.get (id - n)).map (shiftO n c) else none)]
  · unfold beside
    have hkey : id ∈ (shiftH n c (wrOf hp.get (List.range N))).map (·.1) ↔ n ≤ id ∧ (hp.get (id - n)).isSome = true := by
      simp only [shiftH, List.map_map, List.mem_map, Function.comp]
      constructor
      · rintro ⟨p, hp', rfl⟩
        obtain ⟨h1, h2⟩ := mem_wrOf.1 hp'
        simp [h2]
      · rintro ⟨h1, h2⟩
        obtain ⟨o, ho⟩ := Option.isSome_iff_exists.1 h2
        refine ⟨(id - n, o), mem_wrOf.2 ⟨?_, ho⟩, by simp; omega⟩
        rw [List.mem_range]
        rcases Nat.lt_or_ge (id - n) N with h | h
        · exact h
        · rw [ht _ h] at ho; cases ho
    by_cases hc : n ≤ id ∧ (hp.get (id - n)).isSome = true
    · rw [if_pos hc, if_pos (hkey.2 hc), if_pos hc.1]
    · rw [if_neg hc, if_neg (fun h => hc (hkey.1 h))]
  · intro p hp'
    simp only [shiftH, List.mem_map] at hp'
    obtain ⟨q, hq, rfl⟩ := hp'
    obtain ⟨h1, h2⟩ := mem_wrOf.1 hq
    simp [h2, shiftO]

section
variable {S : Nat → Prop} {m : M}

/-- The callee's memory laid beside the caller's. -/
def besideM (n c k : Nat) (m1 m0 : M) : M where
  at_ := fun id => if n ≤ id ∧ (m0.h (id - n)).isSome = true then m0.at_ (id - n) else m1.at_ id
  h := beside n c m0.h m1.h
  iss := fun id g => m1.iss id g ∨ (c ≤ g ∧ g < c + k)
  w := m0.w

/-- What a callee that sees no object of the caller's has done. -/
structure Apart (S : Nat → Prop) (m1 m0 : M) (k : Nat) : Prop where
  rel : Rel (m1.av S) m0
  iss : m0.iss = fun _ g => g < k
  size : m1.w.heap.size ≤ m0.w.heap.size
  row : ∀ b, b < m1.w.heap.size → m0.w.heap[b]? = m1.w.heap[b]?
  new : ∀ id o b x, m0.h id = some o → m0.at_ id = some (b, x) → m1.w.heap.size ≤ b
  rest : m0.w.os = m1.w.os ∧ m0.w.output = m1.w.output ∧ ∀ a, m0.w.frozen? a = m1.w.frozen? a

theorem Rel.av_lt (hR : Rel S m) {b : Nat} (h : m.av S b) : b < m.w.heap.size := by
  rcases h with h | ⟨id, o, x, h1, h2, h3⟩
  · exact hR.sub b h
  · obtain ⟨_, cs, T, fz, hr, _⟩ := hR.obj id o b x h1 h3
    exact block_lt hr

theorem beside_get {n c : Nat} {h0 h1 : Nat → Option Ob} {id : Nat} {o : Ob} (h : beside n c h0 h1 id = some o) :
    (n ≤ id ∧ ∃ o0, h0 (id - n) = some o0 ∧ o = shiftO n c o0) ∨ (¬ (n ≤ id ∧ (h0 (id - n)).isSome = true) ∧ h1 id = some o) := by
  unfold beside at h
  split at h
  · rename_i hc
    obtain ⟨o0, ho⟩ := Option.isSome_iff_exists.1 hc.2
    rw [ho] at h; simp at h
    exact .inl ⟨hc.1, o0, ho, h.symm⟩
  · rename_i hc; exact .inr ⟨hc, h⟩

theorem besideM_av {n c k : Nat} {m1 m0 : M} {b : Nat} (h : (besideM n c k m1 m0).av S b) : m0.av (m1.av S) b := by
  rcases h with h | ⟨id, o, x, h1, h2, h3⟩
  · exact .inl (.inl h)
  · rcases beside_get h1 with ⟨hn, o0, ho, rfl⟩ | ⟨hn, ho⟩
    · simp only [besideM] at h3
      rw [if_pos ⟨hn, by simp [ho]⟩] at h3
      exact .inr ⟨id - n, o0, x, ho, h2, h3⟩
    · simp only [besideM] at h3
      rw [if_neg hn] at h3
      exact .inl (.inr ⟨id, o, x, ho, h2, h3⟩)

theorem RV.shift {n c k : Nat} {m1 m0 : M} (h1 : Rel S m1) (ha : Apart S m1 m0 k) (hf : ∀ id g, c ≤ g → g < c + k → ¬ m1.iss id g) {v : V} {y : Value} (h : RV (m1.av S) m0 v y) :
    RV S (besideM n c k m1 m0) (shiftV n c v) y := by
  have kd : ∀ x y, RD m0.w (m0.av (m1.av S)) x y → RD (besideM n c k m1 m0).w ((besideM n c k m1 m0).av S) x y :=
    fun x y h => h.mono fun b _ hb => ⟨fun hx => hb (besideM_av hx), rfl⟩
  have lists : ∀ {cs : List V} {vs : Array Value}, cs.length = vs.size → (∀ (j : Nat) (x : V) (y : Value), cs[j]? = some x → vs[j]? = some y → RV S (besideM n c k m1 m0) (shiftV n c x) y) →
      (shiftVs n c cs).length = vs.size ∧ ∀ (j : Nat) (x : V) (y : Value), (shiftVs n c cs)[j]? = some x → vs[j]? = some y → RV S (besideM n c k m1 m0) x y := by
    intro cs vs hl ih
    rw [shiftVs_eq]
    refine ⟨by simpa using hl, fun j x y hx hy => ?_⟩
    rw [List.getElem?_map] at hx
    cases hc : cs[j]? with
    | none => simp [hc] at hx
    | some z => simp [hc] at hx; subst hx; exact ih j z y hc hy
  have obj : ∀ (id g : Nat), m0.iss id g → ∀ o, (besideM n c k m1 m0).h (id + n) = some o → o.gen = g + c → ∃ o0, m0.h id = some o0 ∧ o = shiftO n c o0 ∧ o0.gen = g ∧ (besideM n c k m1 m0).at_ (id + n) = m0.at_ id := by
    intro id g hi o ho hg
    rcases beside_get ho with ⟨hn, o0, h0, rfl⟩ | ⟨hn, h0⟩
    · rw [Nat.add_sub_cancel] at h0
      refine ⟨o0, h0, rfl, by simp only [shiftO] at hg; omega, ?_⟩
      simp [besideM, h0]
    · have := h1.iss _ _ h0
      rw [ha.iss] at hi
      exact absurd this (by rw [hg]; exact hf _ _ (by omega) (by omega))
  induction h with
  | any v => simp only [shiftV]; exact .any v
  | undef => simp only [shiftV]; exact .undef
  | d h => simp only [shiftV]; exact .d (kd _ _ h)
  | con v => simp only [shiftV]; exact .con v
  | full h => simp only [shiftV]; exact .full (kd _ _ h)
  | agg hl h ih => simp only [shiftV]; exact .agg (lists hl ih).1 (lists hl ih).2
  | @ptr id g off v g1 g2 g3 =>
    simp only [shiftV]
    refine .ptr (.inr ?_) g2 fun o ho hg => ?_
    · rw [ha.iss] at g1; omega
    · obtain ⟨o0, q1, rfl, q2, q3⟩ := obj id g g1 o ho hg
      obtain ⟨b, base, q4, q5⟩ := g3 o0 q1 q2
      exact ⟨b, base, q3.trans q4, q5⟩
  | @osl id g off len sz cap v g1 g2 g3 =>
    simp only [shiftV]
    refine .osl (.inr ?_) g2 fun o ho hg => ?_
    · rw [ha.iss] at g1; omega
    · obtain ⟨o0, q1, rfl, q2, q3⟩ := obj id g g1 o ho hg
      have := g3 o0 q1 q2
      unfold OslOK at this ⊢
      rw [q3]
      have hl : (shiftO n c o0).cells.length = o0.cells.length := by simp [shiftO, shiftVs_eq]
      rw [hl]
      exact this
  | vref f hf' hr =>
    simp only [shiftV]
    exact .vref f (fun j d hj => ⟨fun hx => (hf' j d hj).1 (besideM_av hx), (hf' j d hj).2⟩) (fun j d hj => kd _ _ (hr j d hj))
  | fn hl h ih => simp only [shiftV]; exact .fn (lists hl ih).1 (lists hl ih).2
  | tuple hl h ih => simp only [shiftV]; exact .tuple (lists hl ih).1 (lists hl ih).2

theorem shiftV_one (n c : Nat) (v : V) : (shiftV n c v).one = v.one := by cases v <;> simp [shiftV, V.one]

theorem besideM_ok {n c k : Nat} {m1 m0 : M} (h1 : Rel S m1) (ha : Apart S m1 m0 k) (hf : ∀ id g, c ≤ g → g < c + k → ¬ m1.iss id g) :
    Rel S (besideM n c k m1 m0) ∧ Evo S m1 (besideM n c k m1 m0) := by
  have at1 : ∀ {id : Nat}, ¬ (n ≤ id ∧ (m0.h (id - n)).isSome = true) → (besideM n c k m1 m0).at_ id = m1.at_ id := fun h => by simp only [besideM]; rw [if_neg h]
  have at0 : ∀ {id : Nat} {o0 : Ob}, n ≤ id → m0.h (id - n) = some o0 → (besideM n c k m1 m0).at_ id = m0.at_ (id - n) := fun hn ho => by simp only [besideM]; rw [if_pos ⟨hn, by simp [ho]⟩]
  have lt1 : ∀ {id : Nat} {o : Ob} {b x : Nat}, m1.h id = some o → m1.at_ id = some (b, x) → b < m1.w.heap.size := fun ho hx => by
    obtain ⟨_, cs, T, fz, hr, _⟩ := h1.obj _ _ _ _ ho hx
    exact block_lt hr
  have e : Evo S m1 (besideM n c k m1 m0) := {
    rest := ha.rest
    iss := fun id g h => .inl h
    size := ha.size
    shape := fun b cs T fz h => ⟨cs, fz, by show m0.w.heap[b]? = _; rw [ha.row b (block_lt h)]; exact h, rfl⟩
    keepS := fun b h _ => ha.row b h
    keep := fun b hb hn => ⟨fun hx => by
      rcases hx with hx | ⟨id, o, x, g1, g2, g3⟩
      · exact hn (.inl hx)
      · rcases beside_get g1 with ⟨q1, o0, q2, rfl⟩ | ⟨q1, q2⟩
        · rw [at0 q1 q2] at g3
          have := ha.new _ _ _ _ q2 g3
          omega
        · rw [at1 q1] at g3
          exact hn (.inr ⟨id, o, x, q2, g2, g3⟩), ha.row b hb⟩
    live := fun id o' ho hg => by
      rcases beside_get ho with ⟨q1, o0, q2, rfl⟩ | ⟨q1, q2⟩
      · have := ha.rel.iss _ _ q2
        rw [ha.iss] at this
        exact absurd hg (hf _ _ (by simp [shiftO]) (by simp [shiftO]; omega))
      · exact ⟨o', q2, rfl, at1 q1, Nat.le_refl _⟩
    old := fun id o b x ho hx hb => by
      rcases beside_get ho with ⟨q1, o0, q2, rfl⟩ | ⟨q1, q2⟩
      · rw [at0 q1 q2] at hx
        have := ha.new _ _ _ _ q2 hx
        omega
      · rw [at1 q1] at hx; exact ⟨o, x, q2, hx⟩ }
  refine ⟨⟨fun id o ho => ?_, fun id o ho hx => ?_, fun id o b base ho hx => ?_, fun i j oi oj b x y hi hj hx hy => ?_, fun b hb => Nat.lt_of_lt_of_le (h1.sub b hb) ha.size⟩, e⟩
  · rcases beside_get ho with ⟨q1, o0, q2, rfl⟩ | ⟨q1, q2⟩
    · have := ha.rel.iss _ _ q2
      rw [ha.iss] at this
      exact .inr (by simp [shiftO]; omega)
    · exact .inl (h1.iss _ _ q2)
  · rcases beside_get ho with ⟨q1, o0, q2, rfl⟩ | ⟨q1, q2⟩
    · rw [at0 q1 q2] at hx
      have := ha.rel.none_ _ _ q2 hx
      simp [shiftO, this, shiftVs]
    · rw [at1 q1] at hx; exact h1.none_ _ _ q2 hx
  · rcases beside_get ho with ⟨q1, o0, q2, rfl⟩ | ⟨q1, q2⟩
    · rw [at0 q1 q2] at hx
      obtain ⟨g1, cs, T, fz, g2, g3, g4, g5⟩ := ha.rel.obj _ _ _ _ q2 hx
      refine ⟨fun hS => g1 (.inl hS), cs, T, fz, g2, g3, by simpa [shiftO, shiftVs_eq] using g4, fun j v hv => ?_⟩
      simp only [shiftO, shiftVs_eq, List.getElem?_map] at hv
      cases hc : o0.cells[j]? with
      | none => simp [hc] at hv
      | some u =>
        simp [hc] at hv; subst hv
        obtain ⟨t1, z, t2, t3⟩ := g5 j u hc
        exact ⟨(shiftV_one n c u).trans t1, z, t2, t3.shift h1 ha hf⟩
    · rw [at1 q1] at hx
      exact h1.other e q2 hx (ha.row b (lt1 q2 hx))
  · rcases beside_get hi with ⟨p1, o0, p2, rfl⟩ | ⟨p1, p2⟩ <;> rcases beside_get hj with ⟨q1, o1, q2, rfl⟩ | ⟨q1, q2⟩
    · rw [at0 p1 p2] at hx; rw [at0 q1 q2] at hy
      have := ha.rel.inj _ _ _ _ b x y p2 q2 hx hy
      omega
    · rw [at0 p1 p2] at hx; rw [at1 q1] at hy
      have h3 := ha.new _ _ _ _ p2 hx
      have h4 := lt1 q2 hy
      omega
    · rw [at1 p1] at hx; rw [at0 q1 q2] at hy
      have h3 := ha.new _ _ _ _ q2 hy
      have h4 := lt1 p2 hx
      omega
    · rw [at1 p1] at hx; rw [at1 q1] at hy
      exact h1.inj _ _ _ _ b x y p2 q2 hx hy

/-- Memory that a callee sees that is handed data alone. -/
def bareM (w : World) : M := ⟨fun _ => none, fun _ => none, fun _ g => g < 0, w⟩

theorem bareM_av {T : Nat → Prop} {w : World} {b : Nat} : (bareM w).av T b ↔ T b := by
  constructor
  · rintro (h | ⟨id, o, x, h1, _⟩)
    · exact h
    · simp [bareM] at h1
  · exact .inl

theorem bareM_rel {T : Nat → Prop} {w : World} (h : ∀ b, T b → b < w.heap.size) : Rel T (bareM w) :=
  ⟨fun id o h => by simp [bareM] at h, fun id o h => by simp [bareM] at h, fun id o b base h => by simp [bareM] at h, fun i j oi oj b x y h => by simp [bareM] at h, h⟩

theorem apart_of {m1 m0 : M} {k : Nat} (h1 : Rel S m1) (h2 : Rel (m1.av S) m0) (h3 : Evo (m1.av S) (bareM m1.w) m0) (h4 : m0.iss = fun _ g => g < k) : Apart S m1 m0 k := by
  refine ⟨h2, h4, h3.size, fun b hb => ?_, fun id o b x ho hx => ?_, h3.rest⟩
  · by_cases hS : m1.av S b
    · exact h3.keepS b hb hS
    · exact (h3.keep b hb (fun h => hS (bareM_av.1 h))).2
  · rcases Nat.lt_or_ge b m1.w.heap.size with h | h
    · obtain ⟨o0, y, g1, _⟩ := h3.old id o b x ho hx h
      simp [bareM] at g1
    · exact h

/-- A call does what the abstract machine says. -/
theorem callR_sound {cfg : Cfg} {call : CallF} (hc : CallOK P call) {hp : Hp} {n c : Nat} {f : FuncId} {vs : List V} {xs : List Value} {r : Res} (h : callR cfg call hp n c f vs = some r) (ht : Tops hp n)
    (hag : Agree hp.get m.h r.rd) (hall : r.all = true → m.h = hp.get ∧ m.iss = fun _ g => g < c) (hf : Fresh m c r.dc) (hR : Rel S m) (hv : RVs S m vs xs) :
    Calls P f xs.toArray m.w (fun e w' => ∃ x m', e = .returned x ∧ m'.w = w' ∧ After S m c r x m') := by
  unfold callR at h
  split at h
  · rename_i ws ids hcl
    split at h
    · rename_i r0 hr0
      -- the arguments, closed
      have hids : r.rd = ids := by
        split at h <;> (simp only [Option.some.injEq] at h; subst h; rfl)
      rw [hids] at hag
      have hro : roOf hp.get ids = roOf m.h ids := roOf_loc hag
      have hcl' : closeArgs m.h vs = some (ws, ids) := by
        by_cases hthr : cfg.thr f = true
        · rw [if_pos hthr] at hcl
          exact closeVs_loc hcl fun v w a g1 g2 => close_noLook_any g1
        · rw [if_neg hthr] at hcl
          exact closeVs_loc hcl fun v w a g1 g2 => close_loc g1 (hag.mono g2)
      obtain ⟨m1, e1, hb⟩ := ros hR ids
      have hws : RVs S m1 ws xs := closeVs_sound (fun g1 g2 g3 => close_sound hR g1 g2 hb g3) hcl' hv (fun i hi => hi)
      have hsh : ws.all V.shut2 = true := closeVs_shut (fun v w r h => close_shut h) hcl'
      have hws0 : RVs (m1.av S) (bareM m1.w) ws xs := by
        refine ⟨hws.1, fun j a b ha hb' => (hws.2 j a b ha hb').shut2 (fun x y g => ?_) (List.all_eq_true.1 hsh a (List.mem_of_getElem? ha))⟩
        exact g.mono fun b _ hn => ⟨fun hx => hn (bareM_av.1 hx), rfl⟩
      have hcall := hc.ok hr0 (fun _ _ => rfl) (S := m1.av S) (m := bareM m1.w) rfl rfl (bareM_rel fun b hb' => hb.rel.av_lt hb') hws0
      rw [show (bareM m1.w).w = m.w from hb.w] at hcall
      refine Calls.mono hcall ?_
      rintro e w' ⟨x, m0, rfl, rfl, k1, k2, k3, k4, k5⟩
      have ha := apart_of hb.rel k1 k2 k5
      split at h
      · rename_i q hq
        simp only [Option.some.injEq] at h; subst h
        cases hfl : r0.v.flat with
        | true =>
          obtain ⟨g1, g2⟩ := hR.grown (w' := m0.w) (by rw [← hb.w]; exact ha.size) (fun b hb' => by rw [← hb.w] at hb' ⊢; exact ha.row b hb') (by rw [← hb.w]; exact ha.rest)
          exact ⟨x, { m with w := m0.w }, rfl, rfl, g1, g2, k3.flat hfl, by simp [hfl, hupd], (iss_zero m c).symm⟩
        | false =>
          obtain ⟨g1, g2⟩ := hb.rel.grown ha.size ha.row ha.rest
          refine ⟨x, { m1 with w := m0.w }, rfl, rfl, g1, hb.evo.trans g2, k3.shut (fun x y g => ?_) (closeT_noLook hq), ?_, ?_⟩
          · exact g.mono fun b _ hn => ⟨fun hx => hn (.inl hx), rfl⟩
          · simp only [hfl]; rw [hro]; exact e1
          · simp only [hb.iss]; exact (iss_zero m c).symm
      · simp only [Option.some.injEq] at h; subst h
        have hf1 : ∀ id g, c ≤ g → g < c + r0.c → ¬ m1.iss id g := fun id g q1 q2 => by rw [hb.iss]; exact hf id g q1 q2
        obtain ⟨g1, g2⟩ := besideM_ok (n := n) hb.rel ha hf1
        refine ⟨x, besideM n c r0.c m1 m0, rfl, rfl, g1, hb.evo.trans g2, k3.shift hb.rel ha hf1, ?_, ?_⟩
        · show beside n c m0.h m1.h = _
          rw [hupd_append, hro, ← e1, hupd_shiftH (hc.log hr0 (fun _ _ => rfl)).top, k4]
        · show (fun id g => m1.iss id g ∨ _) = _
          rw [hb.iss]
    · simp at h
  · rename_i hcl
    split at h
    · rename_i r0 hr0
      simp only [Option.some.injEq] at h; subst h
      obtain ⟨hh, hi⟩ := hall rfl
      obtain ⟨l1, l2, l3, l4, l5⟩ := hc.log hr0 ht
      refine Calls.mono (hc.ok hr0 ht hh hi hR hv) ?_
      rintro e w' ⟨x, m', rfl, rfl, k1, k2, k3, k4, k5⟩
      refine ⟨x, m', rfl, rfl, k1, k2, k3, ?_, ?_⟩
      · rw [k4]
        funext id
        rw [hupd_wrOf, hh]
        by_cases hm : id ∈ r0.wl ++ (List.range (r0.n - n)).map (n + ·)
        · cases hg : r0.hp.get id with
          | some o => simp [hm]
          | none =>
            simp
            rcases Nat.lt_or_ge id n with hlt | hge
            · exact (l5 id hlt hg).symm
            · exact (ht id hge).symm
        · rw [if_neg (fun h => hm h.1)]
          simp only [List.mem_append, List.mem_map, List.mem_range, not_or, not_exists, not_and] at hm
          rcases Nat.lt_or_ge id n with hlt | hge
          · exact l4 id hlt hm.1
          · rw [ht id hge]
            refine l3 id ?_
            rcases Nat.lt_or_ge id r0.n with h1 | h1
            · exact absurd (show n + (id - n) = id by omega) (hm.2 (id - n) (by omega))
            · exact h1
      · rw [k5, hi]
        funext id g
        apply propext
        show g < r0.c ↔ g < c ∨ (c ≤ g ∧ g < c + (r0.c - c))
        omega
    · simp at h

end

end Go.Ab
end

section
/- The abstract machine: one operation of a region. No conditions. -/
set_option linter.unusedVariables false
set_option linter.unusedSimpArgs false
namespace Go.Ab
variable {P : Program}

/-- What an operation does hangs on its operands alone. -/
theorem step_congr {fz fs : Bool} {ρ ρ' : Operand → V} {look : Look} {n c : Nat} {op : Op} (h : ∀ x ∈ op.operands, ρ x = ρ' x) : step P fz fs ρ look n c op = step P fz fs ρ' look n c op := by
  have pairs : ∀ ps : Array (Nat × Operand), (∀ x ∈ (ps.toList.map (·.2)).toArray, ρ x = ρ' x) → (ps.toList.map fun p => (p.1, ρ p.2)) = ps.toList.map fun p => (p.1, ρ' p.2) := fun ps hp =>
    List.map_congr_left fun p hm => by rw [hp p.2 (by simp only [List.mem_toArray]; exact List.mem_map_of_mem hm)]
  cases op <;> simp only [Op.operands] at h <;> simp only [step]
  case build t ps => rw [pairs ps h]
  case buildSlice t n ps => rw [pairs ps h]
  case makeFunc fn first caps =>
    cases fn <;> try rfl
    simp only [step]
    rw [List.map_congr_left (f := ρ) (g := ρ') (l := caps.toList) fun x hx => h x (by simp at hx ⊢; exact .inr hx)]
  case call cl =>
    obtain ⟨callee, args, ts⟩ := cl
    cases callee <;> try rfl
    simp only [step]
    rw [List.map_congr_left (f := ρ) (g := ρ') (l := args.toList) fun x hx => h x (by simp [Call.operands] at hx ⊢; exact hx)]
  case slice t x lo hi mx => cases lo <;> cases hi <;> cases mx <;> simp_all
  all_goals (first | rfl | (simp_all; done))

/-- The values of the slots that an operation looks at. -/
def EnvAt (S : Nat → Prop) (m : M) (e : Env) (a : Act) (ts : List Nat) : Prop := ∀ t ∈ ts, RV S m (e.get t) (a.tmps.getD t undef)

section
variable {S : Nat → Prop} {m : M}

theorem opdSlots_of {o : Oper} {all : List Oper} {t : Nat} (h : Operand.tmp t ∈ o.op.operands) : t ∈ opdSlots o all :=
  List.mem_append_left _ (List.mem_filterMap.2 ⟨.tmp t, by simpa using h, rfl⟩)

theorem evalV_RV {e : Env} {a : Act} {ts : List Nat} (he : EnvAt S m e a ts) {x : Operand} (hx : ∀ t, x = .tmp t → t ∈ ts) : RV S m (evalV e x) (a.eval x) := by
  cases x with
  | tmp t => exact he t (hx t rfl)
  | const v => exact constV_RV v
  | global g => exact .any _
  | func f => exact .fn rfl (fun j x y hx => by simp at hx)

theorem undef_not_bool (b : Bool) : undef ≠ Value.bool b := by unfold undef; intro h; cases h

theorem wantedV_sound {ops : Array Oper} {o : Oper} {e : Env} {a : Act} {b : Bool} (h : wantedV ops.toList e o = some b) (he : EnvAt S m e a (opdSlots o ops.toList)) :
    Region.wanted o (yielded ops a.tmps) = b := by
  unfold wantedV at h
  unfold Region.wanted
  cases hg : o.guard with
  | none => simp [hg] at h; subst h; rfl
  | some gw =>
    obtain ⟨j, want⟩ := gw
    simp only [hg, Array.getElem?_toList] at h
    cases hj : ops[j]? with
    | none => simp [hj] at h
    | some g =>
      simp only [hj] at h
      cases hd : g.dst with
      | none => simp [hd] at h
      | some d =>
        simp only [hd] at h
        have hsl : d ∈ opdSlots o ops.toList := List.mem_append_right _ (by simp [hg, hj, hd])
        have hr := he d hsl
        have hy : yielded ops a.tmps j = match a.tmps[d]? with | some (.bool b) => some b | _ => none := by simp [yielded, hj, hd]; rfl
        simp only [hy]
        split at h
        · rename_i q hq
          simp at h; subst h
          rw [hq] at hr
          cases hr with
          | d hr =>
            cases htd : a.tmps[d]? with
            | none =>
              have : a.tmps.getD d undef = undef := by simp [htd]
              rw [this] at hr
              generalize hu : undef = u at hr
              cases hr
              exact absurd hu (undef_not_bool _)
            | some v =>
              have : a.tmps.getD d undef = v := by simp [htd]
              rw [this] at hr
              cases hr
              simp
        · rename_i hq
          simp at h; subst h
          rw [hq] at hr
          cases htd : a.tmps[d]? with
          | none => simp
          | some v =>
            have : a.tmps.getD d undef = v := by simp [htd]
            rw [this] at hr
            cases hr
            simp [undef]
        · simp at h

/-- No function of the program carries the one name that is met otherwise. -/
def NoCount (P : Program) : Prop := ∀ (f : FuncId) (fn : Func), P.funcs[f]? = some fn → fn.body.isSome = true → (fn.name == "runtime.NumGoroutine") = false

theorem callFunc_run (hN : NoCount P) {f : FuncId} {fn : Func} {args : Array Value} {w : World} (hf : P.funcs[f]? = some fn) (hb : fn.body.isSome = true) : (callFunc f args).run P w = .ok (.enter f args) w := by
  have h1 := hN f fn hf hb
  have h2 : fn.body.isNone = false := by cases hbb : fn.body <;> simp_all
  unfold callFunc
  simp only [program, bind, Sem.bind, Sem.run, hf, h1, h2]
  simp [pure, Sem.run]

/-- A call of a function value. -/
theorem call_run (hN : NoCount P) {σ : Operand → Value} {dst : Option Tmp} {fo : Operand} {args : Array Operand} {ts : Array TypeId} {ty : TypeId} {pos : String} {af : Array Edge} {gd : Option (Nat × Bool)} {f : FuncId} {caps : Array Value} {fn : Func} {w : World}
    (hσ : σ fo = .func (.func f) #[] caps) (hf : P.funcs[f]? = some fn) (hb : fn.body.isSome = true) :
    (execOp σ ⟨dst, .call ⟨.value fo, args, ts⟩, ty, pos, af, gd⟩).run P w = .ok (.enter f (args.map σ ++ caps)) w := by
  simp only [execOp, resolve, hσ, Deferred.ofValue, invoke, Sem.run_bind, Sem.run_pure, Result.andThen_ok]
  rw [show (#[] : Array Value) ++ args.map σ = args.map σ by simp]
  exact callFunc_run hN hf hb

end

/-- A call has a body to run. -/
def Bodies (P : Program) (call : CallF) : Prop := ∀ {f : FuncId} {vs : List V} {hp : Hp} {n c : Nat} {r : CR}, call f vs hp n c = some r → ∃ fn, P.funcs[f]? = some fn ∧ fn.body.isSome = true

theorem callR_body {cfg : Cfg} {call : CallF} (hB : Bodies P call) {hp : Hp} {n c : Nat} {f : FuncId} {vs : List V} {r : Res} (h : callR cfg call hp n c f vs = some r) : ∃ fn, P.funcs[f]? = some fn ∧ fn.body.isSome = true := by
  unfold callR at h
  split at h <;> (split at h <;> first | (rename_i r0 hr0; exact hB hr0) | (simp at h; done))

section
variable {S : Nat → Prop} {m : M}

/-- One operation, wanted or not. -/
theorem opW_sound (hN : NoCount P) {cfg : Cfg} {fid rid : Nat} {call : CallF} (hc : CallOK P call) (hB : Bodies P call) {ops : Array Oper} {o : Oper} {s : St} {r : Res} {i : Nat} {a : Act}
    (hi : ops[i]? = some o) (h : opW P cfg fid rid call ops.toList o s = some r) (ht : Tops s.hp s.n) (hag : Agree s.hp.get m.h r.rd)
    (hall : r.all = true → m.h = s.hp.get ∧ m.iss = fun _ g => g < s.c) (hf : Fresh m s.c r.dc) (hR : Rel S m) (he : EnvAt S m s.env a (opdSlots o ops.toList))
    {Q : Exit → Act → World → Prop} {K : Act → World → Prop} (hK : ∀ x m', After S m s.c r x m' → K (a.put o.dst x) m'.w) : wpOp P ops Q i K a m.w := by
  unfold wpOp
  simp only [hi]
  unfold opW at h
  split at h
  · rename_i hw
    rw [if_pos (wantedV_sound hw he)]
    refine .inl ?_
    split at h
    · rename_i q hq
      split at h
      · simp only [Option.some.injEq] at h; subst h
        unfold Oper.wp
        unfold opR at hq
        split at hq
        · rename_i fo args ts ho
          split at hq
          · rename_i f caps hfo
            have hslot : ∀ x ∈ o.op.operands, RV S m (evalV s.env x) (a.eval x) := fun x hx => evalV_RV he fun t ht => by subst ht; exact opdSlots_of hx
            have hfv : RV S m (evalV s.env fo) (a.eval fo) := hslot fo (by rw [ho]; simp [Op.operands, Call.operands])
            rw [hfo] at hfv
            obtain ⟨fn, hfn, hbody⟩ := callR_body hB hq
            generalize hv : a.eval fo = v at hfv
            cases hfv with
            | @fn _ _ cs hl hcs =>
              have hrun : (execOp a.eval o).run P m.w = .ok (.enter f (args.map a.eval ++ cs)) m.w := by
                obtain ⟨dst, op, ty, pos, af, gd⟩ := o
                simp only at ho; subst ho
                exact call_run hN hv hfn hbody
              rw [hrun, Oper.upon_enter]
              have hvs : RVs S m (args.toList.map (evalV s.env) ++ caps) (args.toList.map a.eval ++ cs.toList) := by
                refine RVs.append ?_ ⟨by simpa using hl, fun j x y hx hy => hcs j x y hx (by simpa using hy)⟩
                refine ⟨by simp, fun j x y hx hy => ?_⟩
                rw [List.getElem?_map] at hx hy
                cases hj : args.toList[j]? with
                | none => simp [hj] at hx
                | some z =>
                  simp [hj] at hx hy; subst hx; subst hy
                  exact hslot z (by rw [ho]; simp only [Op.operands, Call.operands]; simp; exact .inr (by simpa using List.mem_of_getElem? hj))
              have := callR_sound hc hq ht hag hall hf hR hvs
              rw [show (args.toList.map a.eval ++ cs.toList).toArray = args.map a.eval ++ cs by apply Array.ext'; simp] at this
              refine Calls.mono this ?_
              rintro e w' ⟨x, m', rfl, rfl, hA⟩
              exact hK x m' hA
          · simp at hq
        · rename_i hno
          classical
          let ρ : Operand → V := fun x => if x ∈ o.op.operands then evalV s.env x else .any
          have hst : step P (cfg.fz fid rid).1 (cfg.fz fid rid).2 ρ m.h s.n s.c o.op = some q := by
            rw [← step_loc hq hag]
            exact step_congr fun x hx => by simp [ρ, hx]
          have hρ : ∀ x, RV S m (ρ x) (a.eval x) := fun x => by
            by_cases hx : x ∈ o.op.operands
            · simp only [ρ, if_pos hx]; exact evalV_RV he fun t ht => by subst ht; exact opdSlots_of hx
            · simp only [ρ, if_neg hx]; exact .any _
          obtain ⟨x, m', hg, hA⟩ := step_sound hst hρ hR hf
          rcases hg with hg | ⟨hg, rfl⟩
          · rw [hg, Oper.upon_value]; exact hK x m' hA
          · rw [hg, Oper.upon_skip]; exact hK _ m' hA
      · simp at h
    · simp at h
  · rename_i hw
    simp only [Option.some.injEq] at h; subst h
    rw [if_neg (by rw [wantedV_sound hw he]; simp)]
    exact hK undef m (After.quiet hR .undef)
  · simp at h

end

end Go.Ab
end

section
/- The abstract machine: a region, in the order of the text or in any order that its edges allow. No conditions. -/
set_option linter.unusedVariables false
set_option linter.unusedSimpArgs false
namespace Go.Ab
variable {P : Program}

/-! ### A sum of acts, some of them left out -/

def fx {β : Type} (F : Nat → (Nat → β) → Nat → β) (X : Nat → Bool) (f0 : Nat → β) : Nat → Nat → β
  | 0 => f0
  | k + 1 => match X k with | true => F k (fx F X f0 k) | false => fx F X f0 k

structure Acts {β : Type} (F : Nat → (Nat → β) → Nat → β) (K : Nat → List Nat) : Prop where
  loc : ∀ (i : Nat) (f g : Nat → β) (id : Nat), f id = g id → F i f id = F i g id
  out : ∀ (i : Nat) (f : Nat → β) (id : Nat), id ∉ K i → F i f id = f id

section
variable {β : Type} {F : Nat → (Nat → β) → Nat → β} {K : Nat → List Nat} {f0 : Nat → β}

theorem fx_congr {X Y : Nat → Bool} : ∀ {k : Nat}, (∀ i, i < k → X i = Y i) → fx F X f0 k = fx F Y f0 k
  | 0, _ => rfl
  | k + 1, h => by
    simp only [fx]
    rw [h k (by omega), fx_congr (k := k) fun i hi => h i (by omega)]

theorem Acts.comm (A : Acts F K) {i j : Nat} (h : ∀ id ∈ K i, id ∉ K j) (f : Nat → β) : F i (F j f) = F j (F i f) := by
  funext id
  by_cases hi : id ∈ K i
  · have hj := h id hi
    rw [A.out j _ id hj]
    exact A.loc i _ _ id (A.out j _ id hj)
  · rw [A.out i _ id hi]
    exact (A.loc j _ _ id (A.out i _ id hi)).symm

theorem fx_add (A : Acts F K) {X : Nat → Bool} {j : Nat} (hX : X j = false) : ∀ {k : Nat}, j < k → (∀ i, j < i → i < k → X i = true → ∀ id ∈ K i, id ∉ K j) → fx F (upd X j true) f0 k = F j (fx F X f0 k)
  | k + 1, hj, hd => by
    simp only [fx]
    by_cases hkj : k = j
    · subst hkj
      rw [upd_same, hX]
      simp only
      rw [fx_congr (F := F) (f0 := f0) (X := upd X k true) (Y := X) fun i hi => upd_ne _ _ (by omega)]
    · rw [upd_ne _ _ hkj, fx_add A hX (k := k) (by omega) fun i h1 h2 => hd i h1 (by omega)]
      cases hk : X k with
      | false => rfl
      | true => exact A.comm (hd k (by omega) (by omega) hk) _

theorem fx_read (A : Acts F K) {X : Nat → Bool} {id : Nat} {j : Nat} (h1 : ∀ i, i < j → X i = false → id ∉ K i) : ∀ {k : Nat}, j ≤ k → (∀ i, j ≤ i → i < k → X i = true → id ∉ K i) → fx F X f0 k id = fx F (fun _ => true) f0 j id
  | k, hk, h2 => by
    have low : ∀ n, n ≤ j → fx F X f0 n id = fx F (fun _ => true) f0 n id := by
      intro n
      induction n with
      | zero => intro _; rfl
      | succ n ih =>
        intro hn
        simp only [fx]
        cases hx : X n with
        | true => exact A.loc _ _ _ _ (ih (by omega))
        | false => rw [A.out _ _ _ (h1 n (by omega) hx)]; exact ih (by omega)
    have high : ∀ n, j + n ≤ k → fx F X f0 (j + n) id = fx F X f0 j id := by
      intro n
      induction n with
      | zero => intro _; rfl
      | succ n ih =>
        intro hn
        show fx F X f0 (j + n + 1) id = _
        simp only [fx]
        cases hx : X (j + n) with
        | true => exact (A.out _ _ _ (h2 (j + n) (by omega) (by omega) hx)).trans (ih (by omega))
        | false => exact ih (by omega)
    have := high (k - j) (by omega)
    rw [show j + (k - j) = k by omega] at this
    rw [this]
    exact low j (Nat.le_refl _)

end

theorem hupd_loc : ∀ (l : List (Nat × Ob)) (f g : Nat → Option Ob) (id : Nat), f id = g id → hupd f l id = hupd g l id
  | [], f, g, id, h => h
  | (k, o) :: r, f, g, id, h => hupd_loc r _ _ id (by simp only [upd, h])

theorem hupd_out : ∀ (l : List (Nat × Ob)) (f : Nat → Option Ob) (id : Nat), id ∉ l.map (·.1) → hupd f l id = f id
  | [], f, id, _ => rfl
  | (k, o) :: r, f, id, h => by
    simp only [List.map_cons, List.mem_cons, not_or] at h
    simp only [hupd]
    rw [hupd_out r _ id h.2, upd_ne _ _ h.1]

def putE (dst : Option Nat) (v : V) (f : Nat → V) : Nat → V := match dst with | some d => upd f d v | none => f

theorem env_get_cons (d : Nat) (v : V) (e : Env) : Env.get ((d, v) :: e) = upd e.get d v := by
  funext t
  simp only [Env.get, upd]
  by_cases h : t = d
  · subst h; simp
  · rw [beq_ff (Ne.symm h)]; simp [h]

/-! ### What is written down of a run -/

structure Log (s s' : St) : Prop where
  n0 : s'.n0 = s.n0
  n : s.n ≤ s'.n
  c : s.c ≤ s'.c
  top : s.n0 ≤ s.n → Tops s.hp s.n → Tops s'.hp s'.n
  wl : s.n0 ≤ s.n → ∀ id, id < s.n0 → id ∉ s'.wl → id ∉ s.wl ∧ s'.hp.get id = s.hp.get id
  stay : s.n0 ≤ s.n → ∀ id, id < s.n0 → s'.hp.get id = none → s.hp.get id = none

theorem Log.refl (s : St) : Log s s := ⟨rfl, Nat.le_refl _, Nat.le_refl _, fun _ h => h, fun _ _ _ h => ⟨h, rfl⟩, fun _ _ _ h => h⟩

theorem Log.trans {a b c : St} (h : Log a b) (k : Log b c) : Log a c := by
  have hb : a.n0 ≤ a.n → b.n0 ≤ b.n := fun h0 => by rw [h.n0]; exact Nat.le_trans h0 h.n
  refine ⟨k.n0.trans h.n0, Nat.le_trans h.n k.n, Nat.le_trans h.c k.c, fun h0 ht => k.top (hb h0) (h.top h0 ht), fun h0 id hid hw => ?_, fun h0 id hid hn => ?_⟩
  · obtain ⟨h1, h2⟩ := k.wl (hb h0) id (by rw [h.n0]; exact hid) hw
    obtain ⟨h3, h4⟩ := h.wl h0 id hid h1
    exact ⟨h3, h2.trans h4⟩
  · exact h.stay h0 id hid (k.stay (hb h0) id (by rw [h.n0]; exact hid) hn)

theorem addNew_mem {n0 id : Nat} : ∀ {wr : List (Nat × Ob)} {wl : List Nat}, id ∉ addNew n0 wl wr → id ∉ wl ∧ (id < n0 → id ∉ wr.map (·.1))
  | [], wl, h => ⟨h, fun _ => by simp⟩
  | (k, o) :: r, wl, h => by
    simp only [addNew] at h
    split at h
    · rename_i hk
      split at h
      · rename_i ha
        obtain ⟨h1, h2⟩ := addNew_mem h
        refine ⟨h1, fun hlt => ?_⟩
        simp only [List.map_cons, List.mem_cons, not_or]
        refine ⟨fun he => ?_, h2 hlt⟩
        obtain ⟨x, hx1, hx2⟩ := List.any_eq_true.1 ha
        have := Nat.eq_of_beq_eq_true hx2
        subst this; subst he
        exact h1 hx1
      · obtain ⟨h1, h2⟩ := addNew_mem h
        simp only [List.mem_cons, not_or] at h1
        exact ⟨h1.2, fun hlt => by simp only [List.map_cons, List.mem_cons, not_or]; exact ⟨h1.1, h2 hlt⟩⟩
    · rename_i hk
      obtain ⟨h1, h2⟩ := addNew_mem h
      refine ⟨h1, fun hlt => ?_⟩
      simp only [List.map_cons, List.mem_cons, not_or]
      refine ⟨fun he => ?_, h2 hlt⟩
      subst he
      rw [show Nat.blt id n0 = true by simp [Nat.blt_eq, hlt]] at hk; simp at hk

theorem hupd_some : ∀ (l : List (Nat × Ob)) (f : Nat → Option Ob) (id : Nat), hupd f l id = none → f id = none
  | [], f, id, h => h
  | (k, o) :: r, f, id, h => by
    simp only [hupd] at h
    have := hupd_some r _ id h
    by_cases hk : id = k
    · subst hk; simp [upd] at this
    · rwa [upd_ne _ _ hk] at this

theorem Log.put {s : St} {dst : Option Nat} {q : Res} (h : q.wr.all (fun p => Nat.blt p.1 (s.n + q.dn)) = true) : Log s (s.put dst q) := by
  refine ⟨rfl, Nat.le_add_right _ _, Nat.le_add_right _ _, fun h0 ht id hid => ?_, fun h0 id hid hw => ?_, fun h0 id hid hn => ?_⟩
  · show (s.hp.sets q.wr).get id = none
    rw [hp_get_sets, hupd_out]
    · exact ht id (by have : s.n + q.dn ≤ id := hid; omega)
    · intro hm
      obtain ⟨p, hp, rfl⟩ := List.mem_map.1 hm
      have := List.all_eq_true.1 h p hp
      rw [Nat.blt_eq] at this
      have : s.n + q.dn ≤ p.1 := hid
      omega
  · obtain ⟨h1, h2⟩ := addNew_mem hw
    refine ⟨h1, ?_⟩
    show (s.hp.sets q.wr).get id = _
    rw [hp_get_sets, hupd_out _ _ _ (h2 hid)]
  · have : (s.hp.sets q.wr).get id = none := hn
    rw [hp_get_sets] at this
    exact hupd_some _ _ _ this

/-! ### The trace of a region -/

section
variable {cfg : Cfg} {fid rid : Nat} {call : CallF} {all : List Oper}

/-- The states and the results of a region's operations, in the order of the text. -/
structure Trace (P : Program) (cfg : Cfg) (fid rid : Nat) (call : CallF) (all l : List Oper) (σ : Nat → St) (ρ : Nat → Res) : Prop where
  step : ∀ (i : Nat) (o : Oper), l[i]? = some o → opW P cfg fid rid call all o (σ i) = some (ρ i) ∧ σ (i + 1) = (σ i).put o.dst (ρ i)

theorem runOps_trace : ∀ {l : List Oper} {s s' : St}, runOps P cfg fid rid call all l s = some s' → ∃ σ ρ, σ 0 = s ∧ σ l.length = s' ∧ Trace P cfg fid rid call all l σ ρ
  | [], s, s', h => ⟨fun _ => s, fun _ => skipR, rfl, by simpa [runOps] using h, ⟨fun i o ho => by simp at ho⟩⟩
  | o :: r, s, s', h => by
    simp only [runOps] at h
    split at h
    · rename_i q hq
      obtain ⟨σ, ρ, h1, h2, h3⟩ := runOps_trace h
      refine ⟨fun i => match i with | 0 => s | i + 1 => σ i, fun i => match i with | 0 => q | i + 1 => ρ i, rfl, h2, ⟨fun i p hp => ?_⟩⟩
      cases i with
      | zero => simp at hp; subst hp; exact ⟨hq, h1⟩
      | succ i => simp at hp; exact h3.step i p hp
    · simp at h

theorem Trace.tail {o : Oper} {r : List Oper} {σ : Nat → St} {ρ : Nat → Res} (t : Trace P cfg fid rid call all (o :: r) σ ρ) : Trace P cfg fid rid call all r (fun i => σ (i + 1)) (fun i => ρ (i + 1)) :=
  ⟨fun i p hp => t.step (i + 1) p (by simpa using hp)⟩

theorem checkOps_trace : ∀ {l : List Oper} {ancs : List (List Nat)} {tr : List Tr} {s : St} {σ : Nat → St} {ρ : Nat → Res}, checkOps P cfg fid rid call all l ancs tr s = true → σ 0 = s → Trace P cfg fid rid call all l σ ρ →
    ∀ (j : Nat) (o : Oper), l[j]? = some o → ∃ a, ancs[j]? = some a ∧ (∀ (k : Nat) (t : Tr), tr[k]? = some t → a.contains k = true ∨ apartT t (trOf o all (ρ j)) = true) ∧
      ∀ (i : Nat) (p : Oper), i < j → l[i]? = some p → a.contains (tr.length + i) = true ∨ apartT (trOf p all (ρ i)) (trOf o all (ρ j)) = true
  | [], ancs, tr, s, σ, ρ, _, _, _, j, o, ho => by simp at ho
  | p :: r, [], tr, s, σ, ρ, h, _, _, j, o, ho => by simp [checkOps] at h
  | p :: r, a :: ancs, tr, s, σ, ρ, h, h0, ht, j, o, ho => by
    simp only [checkOps] at h
    obtain ⟨t1, t2⟩ := ht.step 0 p rfl
    rw [h0] at t1
    rw [t1] at h
    simp only [Bool.and_eq_true] at h
    cases j with
    | zero =>
      simp at ho; subst ho
      refine ⟨a, rfl, fun k t hk => ?_, fun i q hi => by omega⟩
      have := List.all_eq_true.1 h.1 (t, k) (by rw [List.mem_zipIdx_iff_getElem?]; exact hk)
      simpa using this
    | succ j =>
      simp at ho
      rw [h0] at t2
      obtain ⟨b, h1, h2, h3⟩ := checkOps_trace h.2 (σ := fun i => σ (i + 1)) (ρ := fun i => ρ (i + 1)) t2 ht.tail j o ho
      refine ⟨b, by simpa using h1, fun k t hk => h2 k t ?_, fun i q hi hq => ?_⟩
      · rw [List.getElem?_append_left (List.getElem?_eq_some_iff.1 hk).1]; exact hk
      · cases i with
        | zero => simp at hq; subst hq; exact h2 tr.length _ (by simp)
        | succ i =>
          simp at hq
          have := h3 i q (by omega) hq
          simp only [List.length_append, List.length_cons, List.length_nil] at this
          rwa [show tr.length + (0 + 1) + i = tr.length + (i + 1) by omega] at this

end

/-- What lies before an operation has been done, if all that binds it directly has. -/
theorem anc_spec {X : Nat → Bool} (all : List Oper) (hX : ∀ (i : Nat) (o : Oper), all[i]? = some o → X i = true → ∀ e ∈ o.after.toList, Region.binds .any e = true → X e.on = true) :
    (anc all).length = all.length ∧ ∀ (j : Nat) (o : Oper) (a : List Nat), all[j]? = some o → (anc all)[j]? = some a → (∀ e ∈ o.after.toList, Region.binds .any e = true → X e.on = true) → ∀ i ∈ a, X i = true := by
  have key : ∀ (r : List Oper) (acc : List (List Nat)) (d : List Oper), d ++ r = all → acc.length = d.length →
      (∀ (j : Nat) (o : Oper) (a : List Nat), all[j]? = some o → acc[j]? = some a → (∀ e ∈ o.after.toList, Region.binds .any e = true → X e.on = true) → ∀ i ∈ a, X i = true) →
      let res := r.foldl (fun acc o => acc ++ [o.after.toList.foldl (fun s e => if Region.binds .any e then e.on :: (acc.getD e.on [] ++ s) else s) []]) acc
      res.length = all.length ∧ ∀ (j : Nat) (o : Oper) (a : List Nat), all[j]? = some o → res[j]? = some a → (∀ e ∈ o.after.toList, Region.binds .any e = true → X e.on = true) → ∀ i ∈ a, X i = true := by
    intro r
    induction r with
    | nil => intro acc d hd hl h; simp only [List.append_nil] at hd; subst hd; exact ⟨hl, h⟩
    | cons p r ih =>
      intro acc d hd hl h
      simp only [List.foldl_cons]
      refine ih _ (d ++ [p]) (by simp [hd]) (by simp [hl]) fun j o a ho ha hb => ?_
      rw [List.getElem?_append] at ha
      split at ha
      · exact h j o a ho ha hb
      · rename_i hj
        have hj' : j = acc.length := by
          have := (List.getElem?_eq_some_iff.1 ha).1
          simp at this; omega
        subst hj'
        simp only [Nat.sub_self, List.getElem?_cons_zero, Option.some.injEq] at ha; subst ha
        have hop : o = p := by
          rw [← hd, hl] at ho
          simpa using ho.symm
        subst hop
        -- the inner sum
        have inner : ∀ (l : List Edge) (s : List Nat), (∀ e ∈ l, Region.binds .any e = true → X e.on = true) → (∀ i ∈ s, X i = true) →
            ∀ i ∈ l.foldl (fun s e => if Region.binds .any e then e.on :: (acc.getD e.on [] ++ s) else s) s, X i = true := by
          intro l
          induction l with
          | nil => intro s _ hs; exact hs
          | cons e l ihl =>
            intro s hl' hs
            simp only [List.foldl_cons]
            refine ihl _ (fun e' he' => hl' e' (by simp [he'])) ?_
            split
            · rename_i hbe
              have hXe := hl' e (by simp) hbe
              intro i hi
              simp only [List.mem_cons, List.mem_append] at hi
              rcases hi with rfl | hi | hi
              · exact hXe
              · cases hg : acc[e.on]? with
                | none => simp [hg] at hi
                | some b =>
                  simp [hg] at hi
                  have hlt : e.on < all.length := by
                    have := (List.getElem?_eq_some_iff.1 hg).1
                    rw [← hd]; simp; omega
                  exact h e.on all[e.on] b (by simp [hlt]) hg (hX e.on _ (by simp [hlt]) hXe) i hi
              · exact hs i hi
            · exact hs
        exact inner _ [] hb (fun i hi => by simp at hi)
  exact key all [] [] rfl rfl (fun j o a _ ha => by simp at ha)

end Go.Ab
end

section
/- The abstract machine: a region does what the abstract machine says. No conditions. -/
set_option linter.unusedVariables false
set_option linter.unusedSimpArgs false
namespace Go.Ab
variable {P : Program}

theorem disj_spec {a b : List Nat} (h : disj a b = true) : ∀ x ∈ a, x ∉ b := by
  intro x hx hb
  have := List.all_eq_true.1 (List.all_eq_true.1 h x hx) x hb
  simp at this

theorem apartT_spec {a b : Tr} (h : apartT a b = true) : (∀ x ∈ a.wr, x ∉ b.rd) ∧ (∀ x ∈ a.wr, x ∉ b.wr) ∧ (∀ x ∈ b.wr, x ∉ a.rd) ∧ (a.all = true → b.wr = [] ∧ b.dc = 0) ∧ (b.all = true → a.wr = [] ∧ a.dc = 0) ∧
    (∀ d, a.ds = some d → d ∉ b.sl ∧ b.ds ≠ some d) ∧ (∀ d, b.ds = some d → d ∉ a.sl) := by
  unfold apartT at h
  simp only [Bool.and_eq_true] at h
  obtain ⟨⟨⟨⟨⟨h1, h2⟩, h3⟩, h4⟩, h5⟩, h6⟩ := h
  have h1' := disj_spec h1
  refine ⟨fun x hx hb => h1' x hx (by simp [hb]), fun x hx hb => h1' x hx (by simp [hb]), disj_spec h2, fun ha => ?_, fun hb => ?_, fun d hd => ?_, fun d hd => ?_⟩
  · rw [ha] at h3
    simp at h3; exact h3
  · rw [hb] at h4
    simp at h4; exact h4
  · rw [hd] at h5
    simp at h5; exact h5
  · rw [hd] at h6
    simpa using h6

def FH (ρ : Nat → Res) (i : Nat) (f : Nat → Option Ob) : Nat → Option Ob := hupd f (ρ i).wr
def FE (ops : Array Oper) (ρ : Nat → Res) (i : Nat) (f : Nat → V) : Nat → V := putE ((ops[i]?).bind (·.dst)) (ρ i).v f
def KH (ρ : Nat → Res) (i : Nat) : List Nat := (ρ i).wr.map (·.1)
def KE (ops : Array Oper) (i : Nat) : List Nat := ((ops[i]?).bind (·.dst)).toList

theorem acts_FH (ρ : Nat → Res) : Acts (FH ρ) (KH ρ) := ⟨fun i f g id h => hupd_loc _ _ _ _ h, fun i f id h => hupd_out _ _ _ h⟩
theorem acts_FE (ops : Array Oper) (ρ : Nat → Res) : Acts (FE ops ρ) (KE ops) := by
  refine ⟨fun i f g id h => ?_, fun i f id h => ?_⟩ <;> unfold FE putE
  · cases (ops[i]?).bind (·.dst) with
    | some d => simp only [upd, h]
    | none => exact h
  · unfold KE at h
    cases hd : (ops[i]?).bind (·.dst) with
    | some d =>
      rw [hd] at h
      exact upd_ne _ _ (by simpa using h)
    | none => rfl

/-- The state in which some of a region's operations have run. -/
structure XR (S : Nat → Prop) (m0 : M) (s0 : St) (ops : Array Oper) (σ : Nat → St) (ρ : Nat → Res) (N : Nat) (X : Nat → Bool) (m : M) (a : Act) : Prop where
  rel : Rel S m
  evo : Evo S m0 m
  h : m.h = fx (FH ρ) X s0.hp.get ops.size
  iss : m.iss = fun _ g => g < s0.c ∨ ∃ i, i < ops.size ∧ X i = true ∧ (σ i).c ≤ g ∧ g < (σ i).c + (ρ i).dc
  env : ∀ t, RV S m (fx (FE ops ρ) X s0.env.get ops.size t) (a.tmps.getD t undef)
  size : a.tmps.size = N
  defers : a.defers = []

theorem opW_top {cfg : Cfg} {fid rid : Nat} {call : CallF} {all : List Oper} {o : Oper} {s : St} {r : Res} (h : opW P cfg fid rid call all o s = some r) : r.wr.all (fun p => Nat.blt p.1 (s.n + r.dn)) = true := by
  unfold opW at h
  split at h
  · split at h
    · split at h
      · rename_i hq; simp only [Option.some.injEq] at h; subst h; exact hq
      · simp at h
    · simp at h
  · simp only [Option.some.injEq] at h; subst h; rfl
  · simp at h

section
variable {S : Nat → Prop} {m0 : M} {cfg : Cfg} {fid rid : Nat} {call : CallF} {ops : Array Oper} {σ : Nat → St} {ρ : Nat → Res} {s0 : St} {N : Nat}

theorem Trace.log (t : Trace P cfg fid rid call ops.toList ops.toList σ ρ) (h0 : σ 0 = s0) : ∀ j, j ≤ ops.size → Log s0 (σ j)
  | 0, _ => h0 ▸ Log.refl _
  | j + 1, hj => by
    obtain ⟨h1, h2⟩ := t.step j ops[j] (by simp [show j < ops.size by omega])
    rw [h2]
    exact (t.log h0 j (by omega)).trans (Log.put (opW_top h1))

theorem Trace.hp (t : Trace P cfg fid rid call ops.toList ops.toList σ ρ) (h0 : σ 0 = s0) : ∀ j, j ≤ ops.size → (σ j).hp.get = fx (FH ρ) (fun _ => true) s0.hp.get j
  | 0, _ => by rw [h0]; rfl
  | j + 1, hj => by
    obtain ⟨h1, h2⟩ := t.step j ops[j] (by simp [show j < ops.size by omega])
    rw [h2]
    show ((σ j).hp.sets (ρ j).wr).get = FH ρ j _
    rw [hp_get_sets, t.hp h0 j (by omega)]; rfl

theorem Trace.env (t : Trace P cfg fid rid call ops.toList ops.toList σ ρ) (h0 : σ 0 = s0) : ∀ j, j ≤ ops.size → (σ j).env.get = fx (FE ops ρ) (fun _ => true) s0.env.get j
  | 0, _ => by rw [h0]; rfl
  | j + 1, hj => by
    have hlt : j < ops.size := by omega
    obtain ⟨h1, h2⟩ := t.step j ops[j] (by simp [hlt])
    rw [h2]
    simp only [fx, FE]
    rw [← t.env h0 j (by omega)]
    have : (ops[j]?).bind (·.dst) = ops[j].dst := by simp [hlt]
    rw [this]
    unfold putE St.put
    cases ops[j].dst with
    | none => rfl
    | some d => exact env_get_cons _ _ _

theorem Trace.c (t : Trace P cfg fid rid call ops.toList ops.toList σ ρ) {i : Nat} (hi : i < ops.size) : (σ (i + 1)).c = (σ i).c + (ρ i).dc := by
  obtain ⟨h1, h2⟩ := t.step i ops[i] (by simp [hi])
  rw [h2]; rfl

theorem Trace.c_le (t : Trace P cfg fid rid call ops.toList ops.toList σ ρ) {i : Nat} : ∀ {j : Nat}, i ≤ j → j ≤ ops.size → (σ i).c ≤ (σ j).c := by
  intro j
  induction j with
  | zero => intro h _; have : i = 0 := by omega
            subst this; exact Nat.le_refl _
  | succ j ih =>
    intro h hj
    by_cases hij : i = j + 1
    · subst hij; exact Nat.le_refl _
    · have := ih (by omega) (by omega)
      rw [t.c (by omega)]; omega

theorem Trace.find (t : Trace P cfg fid rid call ops.toList ops.toList σ ρ) (h0 : σ 0 = s0) {g : Nat} : ∀ {j : Nat}, j ≤ ops.size → g < (σ j).c → g < s0.c ∨ ∃ i, i < j ∧ (σ i).c ≤ g ∧ g < (σ i).c + (ρ i).dc := by
  intro j
  induction j with
  | zero => intro _ h; rw [h0] at h; exact .inl h
  | succ j ih =>
    intro hj h
    rw [t.c (by omega)] at h
    rcases Nat.lt_or_ge g (σ j).c with h1 | h1
    · rcases ih (by omega) h1 with h2 | ⟨i, h2, h3⟩
      · exact .inl h2
      · exact .inr ⟨i, by omega, h3⟩
    · exact .inr ⟨j, by omega, h1, h⟩

/-- One more operation. -/
theorem XR.step (hN : NoCount P) (hc : CallOK P call) (hB : Bodies P call) (t : Trace P cfg fid rid call ops.toList ops.toList σ ρ) (h0 : σ 0 = s0) (hn0 : s0.n0 ≤ s0.n) (ht : Tops s0.hp s0.n)
    (hdst : ∀ (i : Nat) (o : Oper) (d : Nat), ops[i]? = some o → o.dst = some d → d < N) {X : Nat → Bool} {j : Nat} {o : Oper} (hj : ops[j]? = some o) (hXj : X j = false)
    (h1 : ∀ (i : Nat) (p : Oper), i < j → ops[i]? = some p → X i = false → apartT (trOf p ops.toList (ρ i)) (trOf o ops.toList (ρ j)) = true)
    (h2 : ∀ (i : Nat) (p : Oper), j < i → ops[i]? = some p → X i = true → apartT (trOf o ops.toList (ρ j)) (trOf p ops.toList (ρ i)) = true)
    {m : M} {a : Act} (hx : XR S m0 s0 ops σ ρ N X m a) {Q : Exit → Act → World → Prop} {K : Act → World → Prop} (hK : ∀ m' a', XR S m0 s0 ops σ ρ N (upd X j true) m' a' → K a' m'.w) :
    wpOp P ops Q j K a m.w := by
  have hlt : j < ops.size := (Array.getElem?_eq_some_iff.1 hj).1
  obtain ⟨t1, t2⟩ := t.step j o (by simpa using hj)
  have get : ∀ {i : Nat} (h : i < ops.size), ops[i]? = some ops[i] := fun h => by simp [h]
  -- what is read
  have readH : ∀ id ∈ (ρ j).rd, (σ j).hp.get id = m.h id := by
    intro id hid
    rw [t.hp h0 j (by omega), hx.h]
    refine (fx_read (acts_FH ρ) (fun i hi hXi hk => ?_) (by omega) (fun i hi hi' hXi hk => ?_)).symm
    · exact (apartT_spec (h1 i _ hi (get (by omega)) hXi)).1 id hk hid
    · have hne : i ≠ j := fun h => by subst h; rw [hXj] at hXi; cases hXi
      exact (apartT_spec (h2 i _ (by omega) (get hi') hXi)).2.2.1 id hk hid
  have hall : (ρ j).all = true → m.h = (σ j).hp.get ∧ m.iss = fun _ g => g < (σ j).c := by
    intro hal
    have low : ∀ i, i < j → X i = false → (ρ i).wr = [] ∧ (ρ i).dc = 0 := fun i hi hXi => by
      obtain ⟨q1, q2⟩ := (apartT_spec (h1 i _ hi (get (by omega)) hXi)).2.2.2.2.1 hal
      exact ⟨by simpa [trOf] using q1, q2⟩
    have high : ∀ i, j ≤ i → i < ops.size → X i = true → (ρ i).wr = [] ∧ (ρ i).dc = 0 := fun i hi hi' hXi => by
      have hne : i ≠ j := fun h => by subst h; rw [hXj] at hXi; cases hXi
      obtain ⟨q1, q2⟩ := (apartT_spec (h2 i _ (by omega) (get hi') hXi)).2.2.2.1 hal
      exact ⟨by simpa [trOf] using q1, q2⟩
    refine ⟨?_, ?_⟩
    · funext id
      rw [t.hp h0 j (by omega), hx.h]
      refine fx_read (acts_FH ρ) (fun i hi hXi hk => ?_) (by omega) (fun i hi hi' hXi hk => ?_)
      · unfold KH at hk; rw [(low i hi hXi).1] at hk; simp at hk
      · unfold KH at hk; rw [(high i hi hi' hXi).1] at hk; simp at hk
    · rw [hx.iss]
      funext _ g
      apply propext
      constructor
      · rintro (h | ⟨i, q1, q2, q3, q4⟩)
        · have := t.c_le (i := 0) (j := j) (by omega) (by omega); rw [h0] at this; omega
        · rcases Nat.lt_or_ge i j with hij | hij
          · have := t.c_le (i := i + 1) (j := j) (by omega) (by omega)
            rw [t.c q1] at this; omega
          · rw [(high i hij q1 q2).2] at q4; omega
      · intro h
        rcases t.find h0 (by omega) h with h | ⟨i, q1, q2, q3⟩
        · exact .inl h
        · refine .inr ⟨i, by omega, ?_, q2, q3⟩
          cases hXi : X i with
          | true => rfl
          | false => rw [(low i q1 hXi).2] at q3; omega
  have hfr : Fresh m (σ j).c (ρ j).dc := by
    intro id g g1 g2 hiss
    rw [hx.iss] at hiss
    rcases hiss with h | ⟨i, q1, q2, q3, q4⟩
    · have := t.c_le (i := 0) (j := j) (by omega) (by omega); rw [h0] at this; omega
    · have hne : i ≠ j := fun h => by subst h; rw [hXj] at q2; cases q2
      rcases Nat.lt_or_ge i j with hij | hij
      · have := t.c_le (i := i + 1) (j := j) (by omega) (by omega)
        rw [t.c q1] at this; omega
      · have := t.c_le (i := j + 1) (j := i) (by omega) (by omega)
        rw [t.c hlt] at this; omega
  have henv : EnvAt S m (σ j).env a (opdSlots o ops.toList) := by
    intro s hs
    rw [t.env h0 j (by omega)]
    have := hx.env s
    rw [fx_read (acts_FE ops ρ) (j := j) (fun i hi hXi hk => ?_) (by omega) (fun i hi hi' hXi hk => ?_)] at this
    · exact this
    · have hd : ops[i].dst = some s := by
        unfold KE at hk; simp [show i < ops.size by omega] at hk; exact hk
      exact ((apartT_spec (h1 i _ hi (get (by omega)) hXi)).2.2.2.2.2.1 s hd).1 hs
    · have hne : i ≠ j := fun h => by subst h; rw [hXj] at hXi; cases hXi
      have hd : ops[i].dst = some s := by
        unfold KE at hk; simp [hi'] at hk; exact hk
      exact (apartT_spec (h2 i _ (by omega) (get hi') hXi)).2.2.2.2.2.2 s hd hs
  have htj : Tops (σ j).hp (σ j).n := (t.log h0 j (by omega)).top hn0 ht
  refine opW_sound hN hc hB hj t1 htj readH hall hfr hx.rel henv fun x m' hA => hK m' _ ?_
  obtain ⟨k1, k2, k3, k4, k5⟩ := hA
  refine ⟨k1, hx.evo.trans k2, ?_, ?_, ?_, ?_, ?_⟩
  · rw [k4, fx_add (acts_FH ρ) hXj hlt (fun i hi hi' hXi id hid hid' => ?_), hx.h]
    · rfl
    · exact (apartT_spec (h2 i _ hi (get hi') hXi)).2.1 id hid' hid
  · rw [k5, hx.iss]
    funext _ g
    apply propext
    constructor
    · rintro ((h | ⟨i, q1, q2, q3⟩) | h)
      · exact .inl h
      · refine .inr ⟨i, q1, ?_, q3⟩
        by_cases hij : i = j
        · subst hij; simp
        · rw [upd_ne _ _ hij]; exact q2
      · exact .inr ⟨j, hlt, upd_same _ _ _, h⟩
    · rintro (h | ⟨i, q1, q2, q3⟩)
      · exact .inl (.inl h)
      · by_cases hij : i = j
        · subst hij; exact .inr q3
        · rw [upd_ne _ _ hij] at q2; exact .inl (.inr ⟨i, q1, q2, q3⟩)
  · intro s
    rw [fx_add (acts_FE ops ρ) hXj hlt (fun i hi hi' hXi id hid hid' => ?_)]
    · unfold FE putE
      rw [show (ops[j]?).bind (·.dst) = o.dst by simp [hj]]
      cases hd : o.dst with
      | none => exact (hx.env s).mono k2
      | some d =>
        have hdN := hdst j o d hj hd
        by_cases hs : s = d
        · subst hs
          simp only [upd_same, Act.put]
          have : (a.tmps.setIfInBounds s x).getD s undef = x := by simp [hx.size, hdN]
          rw [this]; exact k3
        · simp only [Act.put, upd_ne _ _ hs]
          have : (a.tmps.setIfInBounds d x).getD s undef = a.tmps.getD s undef := by
            simp [Array.getElem?_setIfInBounds_ne (Ne.symm hs)]
          rw [this]; exact (hx.env s).mono k2
    · have hdi : ops[i].dst = some id := by unfold KE at hid; simp [hi'] at hid; exact hid
      have hdj : o.dst = some id := by unfold KE at hid'; simp [hj] at hid'; exact hid'
      exact ((apartT_spec (h2 i _ hi (get hi') hXi)).2.2.2.2.2.1 id hdj).2 hdi
  · cases hd : o.dst <;> simp [Act.put, hx.size]
  · cases hd : o.dst <;> simp [Act.put, hx.defers]

end

end Go.Ab
end

section
/- The abstract machine: regions. No conditions. -/
set_option linter.unusedVariables false
set_option linter.unusedSimpArgs false
namespace Go.Ab
variable {P : Program}

/-- A state of the abstract machine stands for a state of the model. -/
structure RS (S : Nat → Prop) (N : Nat) (s : St) (m : M) (a : Act) : Prop where
  h : m.h = s.hp.get
  iss : m.iss = fun _ g => g < s.c
  rel : Rel S m
  env : ∀ t, RV S m (s.env.get t) (a.tmps.getD t undef)
  size : a.tmps.size = N
  defers : a.defers = []
  top : Tops s.hp s.n
  n0 : s.n0 ≤ s.n

theorem fx_none {β : Type} {F : Nat → (Nat → β) → Nat → β} {f0 : Nat → β} {X : Nat → Bool} : ∀ {k : Nat}, (∀ i, i < k → X i = false) → fx F X f0 k = f0
  | 0, _ => rfl
  | k + 1, h => by simp only [fx]; rw [h k (by omega)]; exact fx_none fun i hi => h i (by omega)

section
variable {S : Nat → Prop} {m : M} {cfg : Cfg} {fid rid : Nat} {call : CallF} {ops : Array Oper} {σ : Nat → St} {ρ : Nat → Res} {s0 : St} {N : Nat} {a : Act}

theorem RS.start (h : RS S N s0 m a) {X : Nat → Bool} (hX : ∀ i, i < ops.size → X i = false) : XR S m s0 ops σ ρ N X m a where
  rel := h.rel
  evo := .refl S m
  h := by rw [fx_none hX]; exact h.h
  iss := by
    rw [h.iss]
    funext _ g
    apply propext
    constructor
    · exact .inl
    · rintro (h | ⟨i, q1, q2, _⟩)
      · exact h
      · rw [hX i q1] at q2; cases q2
  env t := by rw [fx_none hX]; exact h.env t
  size := h.size
  defers := h.defers

theorem XR.done (t : Trace P cfg fid rid call ops.toList ops.toList σ ρ) (h0 : σ 0 = s0) (hn0 : s0.n0 ≤ s0.n) (ht : Tops s0.hp s0.n) {m0 : M} {X : Nat → Bool} (hX : ∀ i, i < ops.size → X i = true) (h : XR S m0 s0 ops σ ρ N X m a) : RS S N (σ ops.size) m a where
  rel := h.rel
  h := by rw [t.hp h0 _ (Nat.le_refl _), h.h]; exact fx_congr fun i hi => hX i hi
  iss := by
    rw [h.iss]
    funext _ g
    apply propext
    constructor
    · rintro (h | ⟨i, q1, q2, q3, q4⟩)
      · have := t.c_le (i := 0) (j := ops.size) (by omega) (by omega); rw [h0] at this; omega
      · have := t.c_le (i := i + 1) (j := ops.size) (by omega) (by omega)
        rw [t.c q1] at this; omega
    · intro hg
      rcases t.find h0 (Nat.le_refl _) hg with h | ⟨i, q1, q2⟩
      · exact .inl h
      · exact .inr ⟨i, q1, hX i q1, q2⟩
  env s := by
    have := h.env s
    rw [fx_congr (Y := fun _ => true) fun i hi => hX i hi, ← t.env h0 _ (Nat.le_refl _)] at this
    exact this
  size := h.size
  defers := h.defers
  top := (t.log h0 _ (Nat.le_refl _)).top hn0 ht
  n0 := by
    have := t.log h0 _ (Nat.le_refl _)
    rw [this.n0]; exact Nat.le_trans hn0 this.n

theorem text_ops (hN : NoCount P) (hc : CallOK P call) (hB : Bodies P call) (t : Trace P cfg fid rid call ops.toList ops.toList σ ρ) (h0 : σ 0 = s0) (hn0 : s0.n0 ≤ s0.n) (ht : Tops s0.hp s0.n)
    (hdst : ∀ (i : Nat) (o : Oper) (d : Nat), ops[i]? = some o → o.dst = some d → d < N) {m0 : M} {Q : Exit → Act → World → Prop} (hQ : ∀ m' a', RS S N (σ ops.size) m' a' → Evo S m0 m' → Q .normal a' m'.w) :
    ∀ (n j : Nat) {m : M} {a : Act}, j + n = ops.size → XR S m0 s0 ops σ ρ N (fun i => decide (i < j)) m a → wpOps P ops Q (List.range' j n) a m.w
  | 0, j, m, a, hj, hx => by
    simp only [List.range', wpOps]
    exact hQ m a (hx.done t h0 hn0 ht fun i hi => by simp; omega) hx.evo
  | n + 1, j, m, a, hj, hx => by
    rw [List.range'_succ, wpOps_cons]
    have hlt : j < ops.size := by omega
    refine hx.step hN hc hB t h0 hn0 ht hdst (j := j) (o := ops[j]) (by simp [hlt]) (by simp) (fun i p hi _ hX => by simp at hX; omega) (fun i p hi _ hX => by simp at hX; omega) fun m' a' hx' => ?_
    refine text_ops hN hc hB t h0 hn0 ht hdst hQ n (j + 1) (by omega) ?_
    have : upd (fun i => decide (i < j)) j true = fun i => decide (i < j + 1) := by
      funext i
      by_cases hi : i = j
      · subst hi; simp
      · rw [upd_ne _ _ hi]
        apply decide_eq_decide.2; omega
    rw [← this]; exact hx'

theorem any_ops (hN : NoCount P) (hc : CallOK P call) (hB : Bodies P call) (t : Trace P cfg fid rid call ops.toList ops.toList σ ρ) (h0 : σ 0 = s0) (hn0 : s0.n0 ≤ s0.n) (ht : Tops s0.hp s0.n)
    (hdst : ∀ (i : Nat) (o : Oper) (d : Nat), ops[i]? = some o → o.dst = some d → d < N)
    (hord : ∀ (i : Nat) (o : Oper), ops[i]? = some o → ∀ e ∈ o.after, Region.binds .any e = true → e.on < i)
    (hchk : checkOps P cfg fid rid call ops.toList ops.toList (anc ops.toList) [] s0 = true)
    {m0 : M} {Q : Exit → Act → World → Prop} (hQ : ∀ m' a', RS S N (σ ops.size) m' a' → Evo S m0 m' → Q .normal a' m'.w) :
    ∀ (fuel : Nat) (listed : Array Bool) (L : List Nat) {m : M} {a : Act}, listed.size = ops.size →
      (∀ (i : Nat) (o : Oper), ops[i]? = some o → listed.getD i false = true → ∀ e ∈ o.after, Region.binds .any e = true → listed.getD e.on false = true) →
      (∀ i, i < ops.size → listed.getD i false = false → i ∈ L) → L.length ≤ fuel → XR S m0 s0 ops σ ρ N (fun i => listed.getD i false) m a → wpAny P .any ops Q fuel listed a m.w := by
  have allDone : ∀ (listed : Array Bool), listed.size = ops.size → Region.ready .any ops listed = [] → ∀ i, i < ops.size → listed.getD i false = true := by
    intro listed hsz hr
    have : ∀ n i, i < n → i < ops.size → listed.getD i false = true := by
      intro n
      induction n with
      | zero => intro i h; omega
      | succ n ih =>
        intro i hi hlt
        cases hg : listed.getD i false with
        | true => rfl
        | false =>
          exfalso
          have : i ∈ Region.ready .any ops listed := by
            rw [mem_ready]
            refine ⟨?_, ops[i], by simp [hlt], fun e he hb => ?_⟩
            · have h1 : i < listed.size := by omega
              simp [h1] at hg ⊢; exact hg
            · have := hord i ops[i] (by simp [hlt]) e he hb
              exact ih e.on (by omega) (by omega)
          rw [hr] at this
          cases this
    exact fun i hi => this (i + 1) i (by omega) hi
  intro fuel
  induction fuel with
  | zero =>
    intro listed L m a hsz hcl hL hlen hx
    have hL0 : L = [] := List.length_eq_zero_iff.1 (by omega)
    subst hL0
    have hall : ∀ i, i < ops.size → listed.getD i false = true := fun i hi => by
      cases hg : listed.getD i false with
      | true => rfl
      | false => have := hL i hi hg; simp at this
    refine ⟨?_, hQ m a (hx.done t h0 hn0 ht hall) hx.evo⟩
    cases hr : Region.ready .any ops listed with
    | nil => rfl
    | cons j r =>
      exfalso
      have hj : j ∈ Region.ready .any ops listed := by rw [hr]; simp
      rw [mem_ready] at hj
      obtain ⟨h1, o, ho, _⟩ := hj
      have hlt : j < ops.size := (Array.getElem?_eq_some_iff.1 ho).1
      have h2 := hall j hlt
      have h3 : j < listed.size := by omega
      simp [h3] at h1 h2
      rw [h1] at h2; cases h2
  | succ fuel ih =>
    intro listed L m a hsz hcl hL hlen hx
    refine ⟨fun hr => hQ m a (hx.done t h0 hn0 ht (allDone listed hsz hr)) hx.evo, fun j hj => ?_⟩
    rw [mem_ready] at hj
    obtain ⟨hj1, o, ho, hpre⟩ := hj
    have hlt : j < ops.size := (Array.getElem?_eq_some_iff.1 ho).1
    have hjl : j < listed.size := by omega
    have hXj : listed.getD j false = false := by simp [hjl] at hj1 ⊢; exact hj1
    have hclX : ∀ (i : Nat) (o : Oper), ops.toList[i]? = some o → (fun i => listed.getD i false) i = true → ∀ e ∈ o.after.toList, Region.binds .any e = true → (fun i => listed.getD i false) e.on = true :=
      fun i o ho hX e he hb => hcl i o (by simpa using ho) hX e (by simpa using he) hb
    obtain ⟨ha1, ha2⟩ := anc_spec ops.toList hclX
    have hct := checkOps_trace hchk h0 t
    refine hx.step hN hc hB t h0 hn0 ht hdst ho hXj (fun i p hi hp hXi => ?_) (fun i p hi hp hXi => ?_) fun m' a' hx' => ?_
    · obtain ⟨b, hb1, _, hb3⟩ := hct j o (by simpa using ho)
      rcases hb3 i p hi (by simpa using hp) with h | h
      · have := ha2 j o b (by simpa using ho) hb1 (fun e he hbb => hpre e (by simpa using he) hbb) i (by simpa using h)
        rw [this] at hXi; cases hXi
      · exact h
    · obtain ⟨b, hb1, _, hb3⟩ := hct i p (by simpa using hp)
      rcases hb3 j o hi (by simpa using ho) with h | h
      · have := ha2 i p b (by simpa using hp) hb1 (fun e he hbb => hcl i p hp hXi e (by simpa using he) hbb) j (by simpa using h)
        have h' : listed.getD j false = true := this
        rw [h'] at hXj; cases hXj
      · exact h
    · have hup : upd (fun i => listed.getD i false) j true = fun i => (listed.setIfInBounds j true).getD i false := by
        funext i
        by_cases hi : i = j
        · subst hi; simp [hjl]
        · rw [upd_ne _ _ hi, getD_set_ne false (Ne.symm hi)]
      refine ih (listed.setIfInBounds j true) (L.erase j) (by simp [hsz]) (fun i p hp hX e he hb => ?_) (fun i hi hX => ?_) ?_ (hup ▸ hx')
      · by_cases hi : i = j
        · subst hi
          rw [ho] at hp; cases hp
          exact getD_set_true (hpre e he hb)
        · rw [getD_set_ne false (Ne.symm hi)] at hX
          exact getD_set_true (hcl i p hp hX e he hb)
      · have hne : i ≠ j := fun h => by subst h; simp [hjl] at hX
        rw [getD_set_ne false (Ne.symm hne)] at hX
        exact (List.mem_erase_of_ne hne).2 (hL i hi hX)
      · have := hL j hlt hXj
        have := List.length_erase_of_mem this
        omega

theorem orderOK_spec (h : orderOK ops.toList = true) : ∀ (i : Nat) (o : Oper), ops[i]? = some o → ∀ e ∈ o.after, Region.binds .any e = true → e.on < i := by
  intro i o ho e he hb
  have := List.all_eq_true.1 (List.all_eq_true.1 h (o, i) (by rw [List.mem_zipIdx_iff_getElem?]; simpa using ho)) e (by simpa using he)
  simp [hb] at this
  exact this

/-- The operations of a region. -/
theorem region_ops (hN : NoCount P) (hm : P.follows .mixedOrders = true) (hc : CallOK P call) (hB : Bodies P call) {draw : Bool} {s' : St} (hchk : (if draw then orderOK ops.toList && checkOps P cfg fid rid call ops.toList ops.toList (anc ops.toList) [] s0 else true) = true)
    (hr : runOps P cfg fid rid call ops.toList ops.toList s0 = some s') (hdst : ∀ (i : Nat) (o : Oper) (d : Nat), ops[i]? = some o → o.dst = some d → d < N) (h : RS S N s0 m a)
    {Q : Exit → Act → World → Prop} (hQ : ∀ m' a', RS S N s' m' a' → Evo S m m' → Q .normal a' m'.w) : (Code.region rid ops draw).wp P Q a m.w := by
  obtain ⟨σ, ρ, h0, h1, t⟩ := runOps_trace hr
  have h1' : σ ops.size = s' := by simpa using h1
  cases draw with
  | false =>
    refine wp_region ?_
    rw [List.range_eq_range']
    refine text_ops hN hc hB t h0 h.n0 h.top hdst (m0 := m) (by rw [h1']; exact hQ) ops.size 0 (by omega) ?_
    exact h.start fun i hi => by simp
  | true =>
    rw [if_pos rfl] at hchk
    simp only [Bool.and_eq_true] at hchk
    refine wp_region_any hm ?_
    -- the draw itself
    obtain ⟨g1, g2⟩ := h.rel.grown (w' := { m.w with drawn := m.w.drawn + 1 }) (Nat.le_refl _) (fun _ _ => rfl) ⟨rfl, rfl, fun _ => rfl⟩
    have h' : RS S N s0 { m with w := { m.w with drawn := m.w.drawn + 1 } } a := ⟨h.h, h.iss, g1, fun t => (h.env t).mono g2, h.size, h.defers, h.top, h.n0⟩
    refine any_ops hN hc hB t h0 h.n0 h.top hdst (orderOK_spec hchk.1) hchk.2 (m0 := { m with w := { m.w with drawn := m.w.drawn + 1 } })
      (fun m' a' k1 k2 => hQ m' a' (by rw [← h1']; exact k1) (g2.trans k2)) ops.size (Array.replicate ops.size false) (List.range ops.size) (m := { m with w := { m.w with drawn := m.w.drawn + 1 } }) (by simp)
      (fun i o ho hX => by
        have := (Array.getElem?_eq_some_iff.1 ho).1
        simp [this] at hX) (fun i hi _ => by simp [hi]) (by simp) (h'.start fun i hi => by simp [hi])

end

end Go.Ab
end
