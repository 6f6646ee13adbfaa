/- The abstract machine: what an operation does hangs on what it looks at alone. No conditions. -/
import Derived.Test.YtmjkclonkhempaaGreatDoorAcLb
set_option linter.unusedVariables false
set_option linter.unusedSimpArgs false
section
namespace Go.Ac
variable {P : Program} {S : Nat → Prop} {m : M}

/-- What an operation gives in the model. -/
def Gives (P : Program) (σ : Operand → Value) (o : Oper) (w : World) (x : Value) (w' : World) : Prop :=
 (execOp σ o).run P w = .ok (.value x) w' ∨ ((execOp σ o).run P w = .ok .skip w' ∧ x = undef)

theorem buildSlice_sound [Gl] {t e sz by_ len : Nat} {i j : TI} {z cs : List V} {ps : Array (Nat × Operand)} {ρ : Operand → V} {σ : Operand → Value} {fz : Bool} {n c : Nat} {qs : List (Nat × V)} {ids : List Nat} (hi : mkTI P t = some i) (hk : i.k = .slice e sz by_) (hj : mkTI P e = some j) (hz : j.zero = some z)
  (hzl : z.length = sz) (hone : z.all V.one = true) (hpos : 0 < sz) (hsmall : len * sz ≤ 16777216) (hρ : ∀ x, RV S m (ρ x) (σ x)) (hR : Rel S m) (hf : Fresh m c 1)
  (hcp : closeParts m.h fz (ps.toList.map fun p => (p.1, ρ p.2)) = some (qs, ids)) (h : fillV (fun j => some (j * sz, sz)) (List.replicate len z).flatten qs = some cs) :
  ∃ x m', (Instr.buildSlice t len (ps.map fun p => (p.1, σ p.2))).run P m.w = .ok x m'.w ∧
   After S m c ⟨.osl n c 0 len sz (some len), roOf m.h ids ++ [(n, ⟨c, false, cs⟩)], ids, 1, 1, false⟩ x m' := by
 obtain ⟨inf, d, h1, h2, h3, _⟩ := mkTI_spec hi
 rw [hk] at h3
 obtain ⟨rfl, jj, hjj, hjs, _⟩ := mkTK_slice h3
 obtain ⟨r1, r2⟩ := parts_rel (S := S) (m := m) hρ ps.toList
 obtain ⟨m1, e1, hb⟩ := ros hR ids
 obtain ⟨r3, r4⟩ := closeParts_sound (fz := fz) hR hb hcp r1 r2 (fun i hi => hi)
 have hw : m1.w = m.w := hb.w
 obtain ⟨v, g1, g2, g3⟩ := zero_spec hj hz m.w
 have hlz : v.cells.size = sz := by rw [← hzl, g2]; simp
 obtain ⟨ys, k1, k2, k3, k4⟩ := fillV_sound (S := S) (m := m1) (xs := (List.replicate len v.cells.toList).flatten) h (zero_cells_RVs g2 len) (all_replicate hone len) r3 r4
 have hf1 : Fresh m1 c 1 := fun id g q1 q2 => by rw [hb.iss]; exact hf id g q1 q2
 have hcl : cs.length = len * sz := by
  rw [k4, flatten_len sz _ (fun r hr => by rw [List.eq_of_mem_replicate hr]; exact hzl)]; simp
 have hlen : len ≤ maxLen := by
  have : len * 1 ≤ len * sz := Nat.mul_le_mul_left _ hpos
  unfold maxLen; omega
 obtain ⟨m', w1, w2, w3, w4, w5, w6⟩ := osl_new (P := P) (T := e) (len := len) (cap := len) (sz := sz) (rd := ids) hb.rel hf1 k2 k3 hcl (Nat.le_refl _) hlen
 refine ⟨_, m', ?_, w2, hb.evo.trans w3, w4, ?_, ?_⟩
 ·rw [hw] at w1
  rw [hw]
  have hk1 : Instr.fill (fun i => some (i * sz, sz)) ((Array.range (len * sz)).map (fun i => v.cells[i % v.cells.size]!)) (ps.map fun p => (p.1, σ p.2)).toList = some ys.toArray := by
   rw [← hlz, range_map_toArray, hlz, ← k1]
   simp
  simp only [Instr.buildSlice, Sem.run_bind, run_underlying h2, Result.andThen_ok, run_sizeOf' hjj, hjs, show ¬ (len * sz > 2 ^ 24) by omega, if_false, Sem.run_pure]
  by_cases h0 : len * sz = 0
  ·simp only [h0, if_true, Sem.run_bind, Sem.run_pure, Result.andThen_ok]
   have : ∀ f : Nat → Value, Array.map f (Array.range 0) = #[] := fun f => by apply Array.ext'; simp
   rw [h0, this] at hk1
   rw [this]
   simp only [hk1, Sem.run_bind, w1, Result.andThen_ok, Sem.run_pure]
  ·simp only [h0, if_false, Sem.run_bind, g1, Result.andThen_ok, Sem.run_pure, hk1, w1]
 ·rw [w5, e1, hupd_append]
 ·rw [w6, hb.iss]

/-- A struct whose slices are made data. -/
theorem buildZ_sound [Gl] {t : TypeId} {i : TI} {z cs : List V} {fs : List (Nat × Nat × Bool)} {ps : Array (Nat × Operand)} {ρ : Operand → V} {σ : Operand → Value} {fz : Bool} {c : Nat} {qs : List (Nat × V)} {ids : List Nat} (hi : mkTI P t = some i) (hz : i.zero = some z)
  (hone : z.all V.one = true) (hk : i.k = .struct fs) (hcp : closeParts m.h fz (ps.toList.map fun p => (p.1, ρ p.2)) = some (qs, ids)) (h : fillV (fun j => (fs[j]?).map fun f => (f.1, f.2.1)) z qs = some cs) (hρ : ∀ x, RV S m (ρ x) (σ x)) (hR : Rel S m) :
  ∃ m', ∃ ys : List Value, (Instr.build t (ps.map fun p => (p.1, σ p.2))).run P m.w = .ok (.agg ys.toArray) m'.w ∧ After S m c ⟨.agg cs, roOf m.h ids, ids, 0, 0, false⟩ (.agg ys.toArray) m' := by
 obtain ⟨inf, d, h1, h2, h3, _⟩ := mkTI_spec hi
 obtain ⟨v, g1, g2, g3⟩ := zero_spec hi hz m.w
 obtain ⟨r1, r2⟩ := parts_rel (S := S) (m := m) hρ ps.toList
 obtain ⟨m1, e1, hb⟩ := ros hR ids
 obtain ⟨r3, r4⟩ := closeParts_sound (fz := fz) hR hb hcp r1 r2 (fun i hi => hi)
 obtain ⟨ys, k1, k2, _, _⟩ := fillV_sound (S := S) (m := m1) (xs := v.cells.toList) h (by rw [g2]; exact constVs_RVs _) hone r3 r4
 refine ⟨m1, ys, ?_, hb.rel, hb.evo, k2.agg, e1, ?_⟩
 ·rw [hb.w]
  apply run_build
  have hzz : inf.zero = some v := by simpa [h1] using g3
  simp only [Array.toArray_toList] at k1
  rw [hk] at h3
  obtain ⟨fields, rfl, hfs⟩ := mkTK_struct h3
  have hp := mkFields_places hfs
  simp only [Program.built, h1, h2, hzz, hp]
  simpa using k1
 ·rw [hb.iss]; exact (iss_zero m c).symm

theorem RVs.map {ρ : Operand → V} {σ : Operand → Value} (h : ∀ x, RV S m (ρ x) (σ x)) (l : List Operand) : RVs S m (l.map ρ) (l.map σ) := by
 refine ⟨by simp, fun j a b ha hb => ?_⟩
 rw [List.getElem?_map] at ha hb
 cases hp : l[j]? with
 | none => simp [hp] at ha
 | some p => simp [hp] at ha hb; subst ha; subst hb; exact h p

theorem builtinV_sound [Gl] {n c : Nat} {b : Builtin} {ts : Array TypeId} {ty : TypeId} {vs : List V} {xs : List Value} {r : Res} (h : builtinV P m.h n c b ts.toList vs = some r) (hR : Rel S m) (hf : Fresh m c r.dc) (hv : RVs S m vs xs) :
  ∃ x m', (∀ consts : Array Bool, (builtin b ts ty consts xs.toArray).run P m.w = .ok (.value x) m'.w) ∧ After S m c r x m' := by
 unfold builtinV at h
 split at h
 ·rename_i t x hts
  simp only [Option.bind_eq_some_iff] at h
  obtain ⟨i, hi, h⟩ := h
  obtain ⟨v, ys, rfl, hx, hys⟩ := hv.cases
  have : ys = [] := List.length_eq_zero_iff.1 (by have := hys.1; simpa using this.symm)
  subst this
  obtain rfl : ts = #[t] := by apply Array.ext'; simpa using hts
  obtain ⟨z, g1, g2⟩ := lenV_sound (P := P) (ty := ty) (c := c) hi h hR hx
  exact ⟨z, m, fun _ => by simp [builtin, g1], g2⟩
 ·rename_i t u s x hts
  split at h
  ·rename_i htu; subst htu
   simp only [Option.bind_eq_some_iff] at h
   obtain ⟨i, hi, h⟩ := h
   obtain ⟨v, ys, rfl, hs, hys⟩ := hv.cases
   obtain ⟨y, ys, rfl, hx, hys⟩ := hys.cases
   have : ys = [] := List.length_eq_zero_iff.1 (by have := hys.1; simpa using this.symm)
   subst this
   obtain rfl : ts = #[t, t] := by apply Array.ext'; simpa using hts
   obtain ⟨z, m', g1, g2⟩ := appendV_sound (P := P) (ty := ty) hi h hR hf hs hx
   exact ⟨z, m', fun _ => by simp [builtin, g1], g2⟩
  ·obtain ⟨v, ys, rfl, hs, hys⟩ := hv.cases
   obtain ⟨y, ys, rfl, hx, hys⟩ := hys.cases
   have : ys = [] := List.length_eq_zero_iff.1 (by have := hys.1; simpa using this.symm)
   subst this
   obtain rfl : ts = #[t, u] := by apply Array.ext'; simpa using hts
   split at h
   ·rename_i i j hi hj
    split at h
    ·rename_i e sz by_ kk hk hjk
     obtain ⟨z, m', g1, g2⟩ := appendNV_sound (P := P) (ty := ty) hi hk hj hjk h hR hf hs hx
     exact ⟨z, m', fun _ => by simp [builtin, g1], g2⟩
    ·simp at h
   ·simp at h
 ·rename_i t x hts
  simp only [Option.bind_eq_some_iff] at h
  obtain ⟨i, hi, h⟩ := h
  obtain ⟨v, ys, rfl, hx, hys⟩ := hv.cases
  have : ys = [] := List.length_eq_zero_iff.1 (by have := hys.1; simpa using this.symm)
  subst this
  obtain rfl : ts = #[t] := by apply Array.ext'; simpa using hts
  obtain ⟨z, g1, g2⟩ := capV_sound (P := P) (ty := ty) (c := c) hi h hR hx
  exact ⟨z, m, fun _ => by simp [builtin, g1], g2⟩
 ·obtain ⟨z, g1, g2⟩ := maxV_sound (P := P) (mx := true) (ts := ts) (ty := ty) (c := c) h hR hv
  exact ⟨z, m, fun _ => by simp only [if_true] at g1; simp [builtin, g1], g2⟩
 ·obtain ⟨z, g1, g2⟩ := maxV_sound (P := P) (mx := false) (ts := ts) (ty := ty) (c := c) h hR hv
  exact ⟨z, m, fun _ => by simp only [Bool.false_eq_true, if_false] at g1; simp [builtin, g1], g2⟩
 ·rename_i t u s x hts
  split at h
  ·rename_i htu; subst htu
   simp only [Option.bind_eq_some_iff] at h
   obtain ⟨i, hi, h⟩ := h
   obtain ⟨v, ys, rfl, hs, hys⟩ := hv.cases
   obtain ⟨y, ys, rfl, hx, hys⟩ := hys.cases
   have : ys = [] := List.length_eq_zero_iff.1 (by have := hys.1; simpa using this.symm)
   subst this
   obtain rfl : ts = #[t, t] := by apply Array.ext'; simpa using hts
   obtain ⟨z, m', g1, g2⟩ := copyV_sound (P := P) (ty := ty) (c := c) hi h hR hs hx
   exact ⟨z, m', fun _ => by simp [builtin, g1], g2⟩
  ·simp at h
 ·simp at h

theorem step_sound [Gl] {o : Oper} {fz fs : Bool} {n c : Nat} {ρ : Operand → V} {σ : Operand → Value} {r : Res} (h : step P fz fs ρ m.h n c o.op = some r) (hσ : ∀ v, σ (.const v) = v) (hρ : ∀ x, RV S m (ρ x) (σ x)) (hR : Rel S m)
  (hf : Fresh m c r.dc) : ∃ x m', Gives P σ o m.w x m'.w ∧ After S m c r x m' := by
 obtain ⟨dst, op, ty, pos, after, guard⟩ := o
 cases op <;> simp only [step] at h <;> try (simp at h; done)
 case move x => simp [ret] at h; subst h; exact ⟨σ x, m, .inl (by simp [execOp]), After.quiet hR (hρ x)⟩
 case assign x => simp [ret] at h; subst h; exact ⟨σ x, m, .inl (by simp [execOp]), After.quiet hR (hρ x)⟩
 case pick q a b =>
  split at h
  ·rename_i hq
   simp [ret] at h; subst h
   have := (hq ▸ hρ q).bool_inv
   exact ⟨σ a, m, .inl (by simp [execOp, this, asBool]), After.quiet hR (hρ a)⟩
  ·rename_i hq
   simp [ret] at h; subst h
   have := (hq ▸ hρ q).bool_inv
   exact ⟨σ b, m, .inl (by simp [execOp, this, asBool]), After.quiet hR (hρ b)⟩
  ·simp at h
 case alloc t =>
  split at h
  ·rename_i i hi
   split at h
   ·rename_i z hz
    split at h
    ·rename_i hone
     obtain ⟨x, m', g1, g2⟩ := alloc_sound (P := P) hi hz hone h hR hf
     exact ⟨x, m', .inl (by simp [execOp, g1]), g2⟩
    ·simp at h
   ·simp at h
  ·simp at h
 case box t x =>
  simp only [Option.bind_eq_some_iff] at h
  obtain ⟨cs, hcs, h⟩ := h
  obtain ⟨y, m', g1, g2⟩ := box_sound (P := P) (t := t) hcs h hR hf (hρ x)
  exact ⟨y, m', .inl (by simp [execOp, g1]), g2⟩
 case build t ps =>
  split at h
  ·rename_i i hi
   split at h
   ·rename_i z fl hz hk
    split at h
    ·rename_i hone
     split at h
     ·simp only [Option.bind_eq_some_iff] at h
      obtain ⟨cs, hcs, h⟩ := h
      simp [ret] at h; subst h
      obtain ⟨ys, g1, g2⟩ := build_sound (P := P) hi hz hone (.inl ⟨fl, hk, rfl⟩) hcs hρ
      exact ⟨_, m, .inl (by simp [execOp, g1]), After.quiet hR g2.agg⟩
     ·split at h
      ·rename_i qs ids hcp
       simp only [Option.bind_eq_some_iff] at h
       obtain ⟨cs, hcs, h⟩ := h
       simp only [Option.some.injEq] at h; subst h
       obtain ⟨m', ys, g1, g2⟩ := buildZ_sound (P := P) (c := c) hi hz hone hk hcp hcs hρ hR
       exact ⟨_, m', .inl (by simp [execOp, g1]), g2⟩
      ·simp at h
    ·simp at h
   ·rename_i z n' e sz ag hz hk
    split at h
    ·rename_i hone
     simp only [Option.bind_eq_some_iff] at h
     obtain ⟨cs, hcs, h⟩ := h
     simp [ret] at h; subst h
     obtain ⟨ys, g1, g2⟩ := build_sound (P := P) hi hz hone (.inr ⟨_, _, _, _, hk, rfl⟩) hcs hρ
     exact ⟨_, m, .inl (by simp [execOp, g1]), After.quiet hR g2.agg⟩
    ·simp at h
   ·simp at h
  ·simp at h
 case buildSlice t len ps =>
  split at h
  ·rename_i i hi
   split at h
   ·rename_i e sz by_ hk
    split at h
    ·rename_i j hj
     split at h
     ·rename_i z hz
      split at h
      ·rename_i hcond
       split at h
       ·rename_i qs ids hcp
        simp only [Option.bind_eq_some_iff] at h
        obtain ⟨cs, hcs, h⟩ := h
        simp only [Option.some.injEq] at h; subst h
        obtain ⟨x, m', g1, g2⟩ := buildSlice_sound (P := P) hi hk hj hz hcond.1 hcond.2.1 hcond.2.2.1 hcond.2.2.2 hρ hR hf hcp hcs
        exact ⟨x, m', .inl (by simp [execOp, g1]), g2⟩
       ·simp at h
      ·simp at h
     ·simp at h
    ·simp at h
   ·simp at h
  ·simp at h
 case load t a =>
  simp only [Option.bind_eq_some_iff] at h
  obtain ⟨i, hi, h⟩ := h
  obtain ⟨x, g1, g2⟩ := loadV_sound (P := P) (c := c) hi h rfl hR (hρ a)
  exact ⟨x, m, .inl (by simp [execOp, g1]), g2⟩
 case store t a x =>
  simp only [Option.bind_eq_some_iff] at h
  obtain ⟨i, hi, h⟩ := h
  obtain ⟨m', g1, g2⟩ := storeV_sound (P := P) (c := c) hi h hR (hρ a) (hρ x)
  exact ⟨undef, m', .inr ⟨by simp [execOp, g1], rfl⟩, g2⟩
 case nilCheck x =>
  obtain ⟨g1, g2⟩ := checkNil_sound (P := P) (dst := dst) (ty := ty) (pos := pos) (af := after) (gd := guard) (c := c) h hR (hρ x)
  exact ⟨σ x, m, .inl g1, g2⟩
 case range t x =>
  simp only [Option.bind_eq_some_iff] at h
  obtain ⟨i, hi, h⟩ := h
  split at h
  ·rename_i hk
   obtain ⟨z, m', g1, g2⟩ := rangeMV_sound (P := P) hi hk h hR hf (hρ x)
   exact ⟨z, m', .inl (by simp [execOp, g1]), g2⟩
  ·obtain ⟨z, m', g1, g2⟩ := rangeV_sound (P := P) hi h hR hf (hρ x)
   exact ⟨z, m', .inl (by simp [execOp, g1]), g2⟩
 case entry x =>
  obtain ⟨z, g1, g2⟩ := entryItV_sound (P := P) (c := c) h hR (hρ x)
  exact ⟨z, m, .inl (by simp [execOp, g1]), g2⟩
 case next x b =>
  cases b with
  | false => simp at h
  | true =>
   obtain ⟨z, m', g1, g2⟩ := nextV_sound (P := P) (ty := ty) (c := c) h hR (hρ x)
   exact ⟨z, m', .inl (by simp [execOp, g1]), g2⟩
 case makeMap t q =>
  cases q with
  | some q => simp at h
  | none =>
   simp only at h
   split at h
   ·split at h
    ·obtain ⟨z, m', g1, g2⟩ := makeMapV_sound (P := P) (t := t) h hR hf
     exact ⟨z, m', .inl (by simp [execOp, g1]), g2⟩
    ·simp at h
   ·simp at h
 case lookup t x k ok =>
  split at h
  ·rename_i i hi
   split at h
   ·rename_i kt et hk
    split at h
    ·rename_i ki hki
     obtain ⟨z, g1, g2⟩ := lookupV_sound (P := P) (c := c) hi hk hki h hR (hρ x) (hρ k)
     exact ⟨z, m, .inl (by simp [execOp, g1]), g2⟩
    ·simp at h
   ·simp at h
  ·simp at h
 case mapUpdate t mv k x =>
  split at h
  ·rename_i i hi
   split at h
   ·rename_i kt et hk
    simp only [Option.bind_eq_some_iff] at h
    obtain ⟨ki, hki, h⟩ := h
    obtain ⟨m', g1, g2⟩ := insertV_sound (P := P) (c := c) hi hk hki h hR (hρ mv) (hρ k) (hρ x)
    exact ⟨undef, m', .inr ⟨by simp [execOp, g1], rfl⟩, g2⟩
   ·simp at h
  ·simp at h
 case insert t mv k x =>
  split at h
  ·rename_i i hi
   split at h
   ·rename_i kt et hk
    simp only [Option.bind_eq_some_iff] at h
    obtain ⟨ki, hki, h⟩ := h
    obtain ⟨m', g1, g2⟩ := insertV_sound (P := P) (c := c) hi hk hki h hR (hρ mv) (hρ k) (hρ x)
    exact ⟨undef, m', .inr ⟨by simp [execOp, g1], rfl⟩, g2⟩
   ·simp at h
  ·simp at h
 case mapEntry t mv k =>
  split at h
  ·rename_i i hi
   split at h
   ·rename_i kt et hk
    simp only [Option.bind_eq_some_iff] at h
    obtain ⟨ki, hki, h⟩ := h
    obtain ⟨z, m', g1, g2⟩ := entryV_sound (P := P) (c := c) hi hk hki h hR (hρ mv) (hρ k)
    exact ⟨z, m', .inl (by simp [execOp, g1]), g2⟩
   ·simp at h
  ·simp at h
 case entryStore t mv k x =>
  obtain ⟨m', g1, g2⟩ := stampV_sound (P := P) (t := t) (c := c) h hR (hρ mv) (hρ k) (hρ x)
  exact ⟨undef, m', .inr ⟨by simp [execOp, g1], rfl⟩, g2⟩
 case binOp op t x y yt =>
  split at h
  ·simp only [Option.bind_eq_some_iff] at h
   obtain ⟨i, hi, h⟩ := h
   obtain ⟨z, g1, g2, g3⟩ := nilR_sound (P := P) (xo := x) (y := y) (b := σ y) (c := c) hi (fun v hv => by rw [hv]; exact hσ v) h hR (hρ x)
   exact ⟨z, m, .inl (by simp [execOp, g1, g2]), g3⟩
  split at h
  ·rename_i a b ha hb
   split at h
   ·rename_i i hi
    split at h
    ·rename_i hk
     obtain ⟨_, d, _, i2, i3, _⟩ := mkTI_spec hi
     rw [hk] at i3
     have := mkTK_bool i3; subst this
     simp only [Option.bind_eq_some_iff] at h
     obtain ⟨v, hv, h⟩ := h
     simp [ret] at h; subst h
     obtain ⟨z, g1, g2, g3⟩ := boolBin_sound (S := S) (m := m) (P := P) x y i2 hv
     have e1 := (ha ▸ hρ x).bool_inv
     have e2 := (hb ▸ hρ y).bool_inv
     exact ⟨z, m, .inl (by simp [execOp, e1, e2, g1, g2]), After.quiet hR g3⟩
    ·simp at h
   ·simp at h
  ·rename_i as bs ha hb
   split at h
   ·rename_i e l he hl
    split at h
    ·rename_i q hq
     simp [ret] at h; subst h
     obtain ⟨z, g1, g2, g3⟩ := eqStruct_sound (P := P) (t := t) x y he hl hq (ha ▸ hρ x) (hb ▸ hρ y)
     exact ⟨z, m, .inl (by simp [execOp, g1, g2]), After.quiet hR g3⟩
    ·simp at h
   ·simp at h
  ·simp only [Option.bind_eq_some_iff] at h
   obtain ⟨v, hv, h⟩ := h
   simp [ret] at h; subst h
   obtain ⟨z, g1, g2, g3⟩ := binV_sound (P := P) t x y hv (hρ x) (hρ y)
   exact ⟨z, m, .inl (by simp [execOp, g1, g2]), After.quiet hR g3⟩
 case unOp op t x =>
  simp only [Option.bind_eq_some_iff] at h
  obtain ⟨v, hv, h⟩ := h
  simp [ret] at h; subst h
  obtain ⟨z, g1, g2⟩ := unV_sound (P := P) hv (hρ x)
  exact ⟨z, m, .inl (by simp [execOp, g1]), After.quiet hR g2⟩
 case convert s t x =>
  split at h
  ·rename_i i j hi hj
   obtain ⟨z, g1, g2⟩ := convL_sound hi hj h hR (hρ x)
   exact ⟨z, m, .inl (by simp [execOp, g1]), g2⟩
  ·simp at h
 case makeFunc fn first caps =>
  cases fn <;> simp only [] at h <;> try (simp at h; done)
  split at h
  ·rename_i f hfst
   simp [ret] at h; subst h
   have hfe : first = #[] := by simpa using hfst
   subst hfe
   refine ⟨_, m, .inl (by simp [execOp, Instr.makeFunc]; rfl), After.quiet hR ?_⟩
   have := RVs.map (S := S) (m := m) hρ caps.toList
   refine .fn (by simp) fun j a b ha hb => this.2 j a b ha ?_
   simpa using hb
  ·simp at h
 case makeSlice t l q =>
  split at h
  ·rename_i i hi
   split at h
   ·rename_i e sz by_ hk
    obtain ⟨x, m', g1, g2⟩ := makeV_sound (P := P) hi hk h hR hf (hρ l) (hρ q)
    exact ⟨x, m', .inl (by simp [execOp, g1]), g2⟩
   ·simp at h
  ·simp at h
 case slice t x lo hi mx =>
  split at h
  ·simp at h
  ·rename_i hno
   simp only [Option.bind_eq_some_iff] at h
   obtain ⟨i, hti, h⟩ := h
   obtain ⟨z, g1, g2⟩ := sliceV_sound (P := P) (c := c) hti h hR (hρ x) (RO.map hρ lo) (RO.map hρ hi) (RO.map hρ mx) (by
    intro h1
    cases mx with
    | none => simp at h1
    | some q =>
     cases hi with
     | none => simp at hno
     | some p => rfl)
   exact ⟨z, m, .inl (by simp [execOp, g1]), g2⟩
 case fieldAddr t x f =>
  simp only [Option.bind_eq_some_iff] at h
  obtain ⟨i, hi, h⟩ := h
  obtain ⟨z, g1, g2⟩ := fieldAddrV_sound (P := P) (c := c) hi h hR (hρ x)
  exact ⟨z, m, .inl (by simp [execOp, g1]), g2⟩
 case field t x f =>
  simp only [Option.bind_eq_some_iff] at h
  obtain ⟨i, hi, h⟩ := h
  obtain ⟨z, g1, g2⟩ := fieldV_sound (P := P) (c := c) hi h hR (hρ x)
  exact ⟨z, m, .inl (by simp [execOp, g1]), g2⟩
 case indexAddr t x ix =>
  simp only [Option.bind_eq_some_iff] at h
  obtain ⟨i, hi, h⟩ := h
  obtain ⟨z, g1, g2⟩ := indexAddrV_sound (P := P) (c := c) hi h hR (hρ x) (hρ ix)
  exact ⟨z, m, .inl (by simp [execOp, g1]), g2⟩
 case index t x ix =>
  simp only [Option.bind_eq_some_iff] at h
  obtain ⟨i, hi, h⟩ := h
  obtain ⟨z, g1, g2⟩ := indexV_sound (P := P) (c := c) hi h hR (hρ x) (hρ ix)
  exact ⟨z, m, .inl (by simp [execOp, g1]), g2⟩
 case extract t ix =>
  split at h
  ·rename_i vs ht
   simp only [Option.bind_eq_some_iff] at h
   obtain ⟨v, hv, h⟩ := h
   simp [ret] at h; subst h
   obtain ⟨xs, hxt, hxs⟩ := (ht ▸ hρ t).tuple_vals
   obtain ⟨x, g1, g2⟩ := hxs.get hv
   exact ⟨x, m, .inl (by simp [execOp, hxt, Instr.extract, g1]), After.quiet hR g2⟩
  ·simp at h
 case call cl =>
  obtain ⟨callee, args, ts⟩ := cl
  cases callee <;> simp only [] at h <;> try (simp at h; done)
  rename_i b
  obtain ⟨x, m', g1, g2⟩ := builtinV_sound (P := P) (ty := ty) h hR hf (RVs.map hρ args.toList)
  refine ⟨x, m', .inl ?_, g2⟩
  have : (List.map σ args.toList).toArray = args.map σ := by apply Array.ext'; simp
  rw [this] at g1
  simp [execOp, resolve, invoke, g1]

end Go.Ac
end

section
namespace Go.Ac
variable {P : Program}

/-- Two memories that agree on some names. -/
def Agree (l k : Look) (ids : List Nat) : Prop := ∀ i ∈ ids, l i = k i

theorem Agree.mono {l k : Look} {a b : List Nat} (h : Agree l k b) (hs : ∀ i ∈ a, i ∈ b) : Agree l k a := fun i hi => h i (hs i hi)

theorem live_loc {l k : Look} {id g : Nat} (h : l id = k id) : live l id g = live k id g := by unfold live; rw [h]

theorem toDs_loc {f g : V → Option (D × List Nat)} : ∀ {vs : List V} {ds : List D} {ids : List Nat}, toDs f vs = some (ds, ids) → (∀ v d a, f v = some (d, a) → (∀ i ∈ a, i ∈ ids) → g v = some (d, a)) → toDs g vs = some (ds, ids)
 | [], ds, ids, h, _ => h
 | v :: r, ds, ids, h, hf => by
  simp only [toDs] at h ⊢
  split at h
  ·rename_i x a xs b h1 h2
   simp at h; obtain ⟨rfl, rfl⟩ := h
   rw [hf v x a h1 (fun i hi => by simp [hi]), toDs_loc h2 (fun v d a' h3 h4 => hf v d a' h3 (fun i hi => by simp [h4 i hi]))]
  ·simp at h

theorem toD_loc {l k : Look} : ∀ (f : Nat) {v : V} {x : D} {ids : List Nat}, toD l f v = some (x, ids) → Agree l k ids → toD k f v = some (x, ids) := by
 intro f
 induction f with
 | zero => intro v x ids h ha; cases v <;> simp only [toD] at h ⊢ <;> exact h
 | succ f ih =>
  intro v x ids h ha
  cases v <;> simp only [toD] at h ⊢ <;> try exact h
  rename_i id g off len sz cap
  cases hl : live l id g with
  | none => simp [hl] at h
  | some o =>
   simp only [hl] at h
   split at h
   ·rename_i ds r h1 h2
    simp at h; obtain ⟨rfl, rfl⟩ := h
    rw [← live_loc (ha id (by simp)), hl]
    simp only [h1]
    rw [toDs_loc h2 (fun v d a h3 h4 => ih h3 (ha.mono fun i hi => by simp [h4 i hi]))]
   ·simp at h

theorem close1_loc {l k : Look} {v w : V} {ids : List Nat} (h : close1 l v = some (w, ids)) (ha : Agree l k ids) : close1 k v = some (w, ids) := by
 have gen : ∀ v, ofD (toD l depthD v) = some (w, ids) → ofD (toD k depthD v) = some (w, ids) := by
  intro v h
  unfold ofD at h
  split at h
  ·rename_i x r hx
   simp at h; obtain ⟨rfl, rfl⟩ := h
   rw [toD_loc depthD hx ha]; rfl
  ·simp at h
 cases v with
 | con v => exact h
 | fn f cs => cases cs with
  | nil => exact h
  | cons c cs => simp only [close1] at h ⊢; exact gen _ h
 | _ => simp only [close1] at h ⊢; exact gen _ h

theorem closeVs_loc {f g : V → Option (V × List Nat)} : ∀ {vs ws : List V} {ids : List Nat}, closeVs f vs = some (ws, ids) → (∀ v w a, f v = some (w, a) → (∀ i ∈ a, i ∈ ids) → g v = some (w, a)) → closeVs g vs = some (ws, ids)
 | [], ds, ids, h, _ => h
 | v :: r, ds, ids, h, hf => by
  simp only [closeVs] at h ⊢
  split at h
  ·rename_i x a xs b h1 h2
   simp at h; obtain ⟨rfl, rfl⟩ := h
   rw [hf v x a h1 (fun i hi => by simp [hi]), closeVs_loc h2 (fun v d a' h3 h4 => hf v d a' h3 (fun i hi => by simp [h4 i hi]))]
  ·simp at h

theorem close_loc {l k : Look} {v w : V} {ids : List Nat} (h : close l v = some (w, ids)) (ha : Agree l k ids) : close k v = some (w, ids) := by
 cases v with
 | agg cs =>
  simp only [close] at h ⊢
  split at h
  ·rename_i xs r hx
   simp at h; obtain ⟨rfl, rfl⟩ := h
   rw [closeVs_loc hx (fun v w a h1 h2 => close1_loc h1 (ha.mono h2))]
  ·simp at h
 | _ => simp only [close] at h ⊢; exact close1_loc h ha

theorem cl1_loc {l k : Look} {fz : Bool} {v w : V} {ids : List Nat} (h : cl1 l fz v = some (w, ids)) (ha : Agree l k ids) : cl1 k fz v = some (w, ids) := by
 cases v with
 | osl id g off len sz cap =>
  cases fz with
  | true => simp only [cl1] at h ⊢; exact close1_loc h ha
  | false => exact h
 | _ => exact h

theorem cl2_loc {l k : Look} {fz : Bool} {v w : V} {ids : List Nat} (h : cl2 l fz v = some (w, ids)) (ha : Agree l k ids) : cl2 k fz v = some (w, ids) := by
 cases v with
 | agg cs =>
  simp only [cl2] at h ⊢
  split at h
  ·rename_i xs r hx
   simp at h; obtain ⟨rfl, rfl⟩ := h
   rw [closeVs_loc hx (fun v w a h1 h2 => cl1_loc h1 (ha.mono h2))]
  ·simp at h
 | _ => simp only [cl2] at h ⊢; exact cl1_loc h ha

theorem closeParts_loc {l k : Look} {fz : Bool} : ∀ {ps qs : List (Nat × V)} {ids : List Nat}, closeParts l fz ps = some (qs, ids) → Agree l k ids → closeParts k fz ps = some (qs, ids)
 | [], qs, ids, h, _ => h
 | (i, x) :: r, qs, ids, h, ha => by
  simp only [closeParts] at h ⊢
  split at h
  ·rename_i y a ys b h1 h2
   simp at h; obtain ⟨rfl, rfl⟩ := h
   rw [cl2_loc h1 (ha.mono fun i hi => by simp [hi]), closeParts_loc h2 (ha.mono fun i hi => by simp [hi])]
  ·simp at h

theorem closeA_loc {l k : Look} {v w : V} {ids : List Nat} (h : closeA l v = some (w, ids)) (ha : Agree l k ids) : closeA k v = some (w, ids) := by
 unfold closeA at h ⊢
 split at h
 ·exact h
 ·exact close_loc h ha

theorem roOf_loc {l k : Look} : ∀ {ids : List Nat}, Agree l k ids → roOf l ids = roOf k ids
 | [], _ => rfl
 | id :: r, h => by
  simp only [roOf]
  rw [h id (by simp), roOf_loc (h.mono fun i hi => by simp [hi])]

theorem rowsOf_loc {l k : Look} {sz n : Nat} {x : V} {vs : List V} {rd : List Nat} (h : rowsOf l sz x = some (n, vs, rd)) (ha : Agree l k rd) : rowsOf k sz x = some (n, vs, rd) := by
 unfold rowsOf at h ⊢
 split at h <;> try exact h
 rename_i id g off len sz' cap
 split at h
 ·rename_i o hl hb
  split at h
  ·rename_i hle
   simp only [Option.some.injEq, Prod.mk.injEq] at h; obtain ⟨rfl, rfl, rfl⟩ := h
   simp only [← live_loc (ha id (by simp)), hl, hb, hle]
  ·simp at h
 ·simp at h

theorem loadV_loc {l k : Look} {i : TI} {p : V} {r : Res} (h : loadV l i p = some r) (ha : Agree l k r.rd) : loadV k i p = some r := by
 unfold loadV at h ⊢
 split at h
 ·rename_i id g off
  cases hl : live l id g with
  | none => simp [hl] at h
  | some o =>
   simp only [hl, Option.bind_eq_some_iff] at h
   obtain ⟨y, hy, hr⟩ := h
   simp [retR] at hr; subst hr
   simp only [← live_loc (ha id (by simp)), hl, hy]; rfl
 ·exact h
 ·exact h

theorem storeV_loc {l k : Look} {fz : Bool} {i : TI} {p x : V} {r : Res} (h : storeV l fz i p x = some r) (ha : Agree l k r.rd) : storeV k fz i p x = some r := by
 unfold storeV at h ⊢
 split at h
 ·rename_i id g off xs hcx
  split at h
  ·rename_i o ys ids hl hcl
   split at h
   ·rename_i c1 c2 c3 c4
    simp only [Option.some.injEq] at h; subst h
    have ha' : Agree l k ids := ha.mono fun i hi => by simp [hi]
    simp only [hcx, ← live_loc (ha id (by simp)), hl, closeVs_loc hcl (fun v w a h1 h2 => cl1_loc h1 (ha'.mono h2)), c1, c2, c3, c4, roOf_loc ha']
   ·simp at h
  ·simp at h
 ·simp at h

theorem appendV_loc {l k : Look} {n c : Nat} {i : TI} {s x : V} {r : Res} (h : appendV l n c i s x = some r) (ha : Agree l k r.rd) : appendV k n c i s x = some r := by
 unfold appendV at h ⊢
 split at h
 ·rename_i e sz by_ hk
  split at h
  ·rename_i m xs rx hrows
   split at h
   ·rename_i rows
    split at h
    ·rename_i c1 c2 c3
     simp only [Option.some.injEq] at h; subst h
     simp only [rowsOf_loc hrows ha, c1, c2, c3]
    ·simp at h
   ·rename_i id g off len sz' cap
    split at h
    ·rename_i o hl hb
     split at h
     ·rename_i c1 c2
      split at h
      ·rename_i q
       split at h
       ·rename_i c3 c4 c5
        simp only [Option.some.injEq] at h; subst h
        simp only [rowsOf_loc hrows (ha.mono fun i hi => by simp [hi]), ← live_loc (ha id (by simp)), hl, hb, c1, c2, c3, c4, c5]
       ·rename_i c3
        simp only [Option.some.injEq] at h; subst h
        simp only [rowsOf_loc hrows (ha.mono fun i hi => by simp [hi]), ← live_loc (ha id (by simp)), hl, hb, c1, c2, c3]
       ·simp at h
      ·split at h
       ·rename_i c3
        simp only [Option.some.injEq] at h; subst h
        simp only [rowsOf_loc hrows (ha.mono fun i hi => by simp [hi]), ← live_loc (ha id (by simp)), hl, hb, c1, c2, c3]
       ·simp at h
     ·simp at h
    ·simp at h
   ·simp at h
  ·simp at h
 ·simp at h

theorem cloneV_loc {l k : Look} {n c sz by_ : Nat} {x : V} {r : Res} (h : cloneV l n c sz by_ x = some r) (ha : Agree l k r.rd) : cloneV k n c sz by_ x = some r := by
 unfold cloneV at h ⊢
 split at h
 ·rename_i m xs rx hrows
  split at h
  ·rename_i hf
   simp only [Option.some.injEq] at h; subst h
   rw [rowsOf_loc hrows ha]
   simp only [hf]
  ·simp at h
 ·simp at h

theorem primV_loc {l k : Look} {n c : Nat} {p : Nat × Nat} {vs : List V} {r : Res} (h : primV l n c p vs = some r) (ha : Agree l k r.rd) : primV k n c p vs = some r := by
 unfold primV at h ⊢
 split at h
 ·exact cloneV_loc h ha
 ·exact h
 ·simp at h

theorem bytesV_loc {l k : Look} {e sz : Nat} {x : V} {r : Res} (h : bytesV P l e sz x = some r) (ha : Agree l k r.rd) : bytesV P k e sz x = some r := by
 unfold bytesV at h ⊢
 split at h
 ·rename_i e1 e2
  split at h
  ·rename_i mm xs rd hr
   split at h
   ·rename_i s hs
    simp only [Option.some.injEq] at h; subst h
    simp only [rowsOf_loc hr ha, hs]
   ·cases h
  ·cases h
 ·cases h
theorem convL_loc {l k : Look} {i j : TI} {x : V} {r : Res} (h : convL P l i j x = some r) (ha : Agree l k r.rd) : convL P k i j x = some r := by
 unfold convL at h ⊢
 split at h
 ·exact bytesV_loc h ha
 ·exact h

theorem lenV_loc {l k : Look} {i : TI} {x : V} {r : Res} (h : lenV l i x = some r) (ha : Agree l k r.rd) : lenV k i x = some r := by
 unfold lenV at h ⊢
 split at h <;> try exact h
 ·rename_i id g off len sz cap
  split at h
  ·rename_i e s b o hk hl
   simp [retR] at h; subst h
   simp only [hk, ← live_loc (ha id (by simp)), hl]; rfl
  ·simp at h
 ·rename_i id g
  split at h
  ·rename_i kt et o hk hl
   split at h
   ·rename_i ks vs bs c hc
    simp [retR] at h; subst h
    simp only [hk, ← live_loc (ha id (by simp)), hl, hc]; rfl
   ·simp at h
  ·simp at h

theorem capV_loc {l k : Look} {i : TI} {x : V} {r : Res} (h : capV l i x = some r) (ha : Agree l k r.rd) : capV k i x = some r := by
 unfold capV at h ⊢
 split at h <;> try exact h
 rename_i id g off len sz q
 split at h
 ·rename_i e s b o hk hl
  simp [retR] at h; subst h
  simp only [hk, ← live_loc (ha id (by simp)), hl]; rfl
 ·simp at h

theorem nilV_loc {l k : Look} {q : TK} {y : Operand} {x : V} {b : Bool} {rd : List Nat} (h : nilV l q y x = some (b, rd)) (ha : Agree l k rd) : nilV k q y x = some (b, rd) := by
 unfold nilV at h ⊢
 split at h
 ·split at h <;> try exact h
  rename_i id g off
  cases hl : live l id g with
  | none => simp [hl] at h
  | some o =>
   simp [hl] at h; obtain ⟨rfl, rfl⟩ := h
   simp only [← live_loc (ha id (by simp)), hl]
 ·split at h <;> try exact h
  rename_i id g
  cases hl : live l id g with
  | none => simp [hl] at h
  | some o =>
   simp [hl] at h; obtain ⟨rfl, rfl⟩ := h
   simp only [← live_loc (ha id (by simp)), hl]
 ·split at h <;> try exact h
  rename_i id g off len sz cap
  cases hl : live l id g with
  | none => simp [hl] at h
  | some o =>
   cases hb : Nat.blt 0 len with
   | false => rw [hl, hb] at h; simp at h
   | true =>
    rw [hl, hb] at h
    simp at h; obtain ⟨rfl, rfl⟩ := h
    simp only [← live_loc (ha id (by simp)), hl]
 ·simp at h

theorem nilR_loc {l k : Look} {op : BinOp} {q : TK} {y : Operand} {x : V} {r : Res} (h : nilR l op q y x = some r) (ha : Agree l k r.rd) : nilR k op q y x = some r := by
 unfold nilR at h ⊢
 split at h
 ·rename_i e b rd he hn
  simp at h; subst h
  rw [he, nilV_loc hn ha]
 ·simp at h

theorem checkNil_loc {l k : Look} {x : V} {r : Res} (h : checkNil l x = some r) (ha : Agree l k r.rd) : checkNil k x = some r := by
 unfold checkNil at h ⊢
 split at h <;> try exact h
 rename_i id g off
 split at h
 ·rename_i o hl
  simp [retR] at h; subst h
  simp only [← live_loc (ha id (by simp)), hl]; rfl
 ·simp at h

theorem nextV_loc {l k : Look} {x : V} {r : Res} (h : nextV l x = some r) (ha : Agree l k r.rd) : nextV k x = some r := by
 unfold nextV at h ⊢
 split at h
 ·rename_i id g
  split at h
  ·rename_i o hl
   split at h
   ·rename_i s pos hro hc
    have hid : r.rd = [id] := by
     split at h
     ·simp at h; subst h; rfl
     ·simp at h; subst h; rfl
    simp only [← live_loc (ha id (by rw [hid]; simp)), hl, hro, hc]
    exact h
   ·simp at h
  ·simp at h
 ·simp at h

theorem rangeMV_loc {l k : Look} {n c : Nat} {x : V} {r : Res} (h : rangeMV l n c x = some r) (ha : Agree l k r.rd) : rangeMV k n c x = some r := by
 unfold rangeMV at h ⊢
 split at h
 ·rename_i id g
  split at h
  ·rename_i o hl
   split at h
   ·rename_i ks vs bs clock hc
    simp only [Option.some.injEq] at h; subst h
    simp only [← live_loc (ha id (by simp)), hl, hc]
   ·simp at h
  ·simp at h
 ·simp at h

theorem entryItV_loc {l k : Look} {x : V} {r : Res} (h : entryItV l x = some r) (ha : Agree l k r.rd) : entryItV k x = some r := by
 unfold entryItV at h ⊢
 split at h
 ·rename_i id g
  split at h
  ·rename_i o hl
   split at h
   ·rename_i mid mg since seen last hc
    split at h
    ·rename_i b q hb hq
     split at h
     ·rename_i ks vs bs clock hqc
      split at h
      ·rename_i j hcl hj
       split at h
       ·rename_i kk v hk hv
        simp only [Option.some.injEq] at h; subst h
        simp only [← live_loc (ha id (by simp)), ← live_loc (ha mid (by simp)), hl, hc, hb, hq, hqc, hcl, hj, hk, hv]
       ·simp at h
      ·simp at h
     ·simp at h
    ·simp at h
   ·simp at h
  ·simp at h
 ·simp at h

theorem lookupV_loc {l k : Look} {ki : TI} {zz : Option V} {x y : V} {ok : Bool} {r : Res} (h : lookupV l ki zz x y ok = some r) (ha : Agree l k r.rd) : lookupV k ki zz x y ok = some r := by
 unfold lookupV at h ⊢
 split at h
 ·rename_i kd z
  split at h
  ·rename_i hok
   split at h
   ·exact h
   ·rename_i id g
    split at h
    ·rename_i o hl
     split at h
     ·rename_i ks vs bs c hc
      have hid : r.rd = [id] := by
       split at h
       ·split at h
        ·simp [retR] at h; subst h; rfl
        ·simp at h
       ·simp [retR] at h; subst h; rfl
       ·simp at h
      simp only [← live_loc (ha id (by rw [hid]; simp)), hl, hc]
      exact h
     ·simp at h
    ·simp at h
   ·simp at h
  ·simp at h
 ·simp at h

theorem insertV_loc {l k : Look} {ki : TI} {m y x : V} {r : Res} (h : insertV l ki m y x = some r) (ha : Agree l k r.rd) : insertV k ki m y x = some r := by
 unfold insertV at h ⊢
 split at h
 ·rename_i kd id g
  split at h
  ·rename_i o hok hl
   split at h
   ·rename_i ks vs bs c hro hc
    have hid : r.rd = [id] := by
     split at h
     ·simp at h; subst h; rfl
     ·simp at h; subst h; rfl
     ·simp at h
    simp only [hok, ← live_loc (ha id (by rw [hid]; simp)), hl, hro, hc]
    exact h
   ·simp at h
  ·simp at h
 ·simp at h

theorem entryV_loc {l k : Look} {ki : TI} {zz : Option V} {m y : V} {r : Res} (h : entryV l ki zz m y = some r) (ha : Agree l k r.rd) : entryV k ki zz m y = some r := by
 unfold entryV at h ⊢
 split at h
 ·rename_i kd id g z
  split at h
  ·rename_i o hok hl
   split at h
   ·rename_i ks vs bs c hro hc
    have hid : r.rd = [id] := by
     split at h
     ·split at h
      ·simp at h; subst h; rfl
      ·simp at h
     ·simp at h; subst h; rfl
     ·simp at h
    simp only [hok, ← live_loc (ha id (by rw [hid]; simp)), hl, hro, hc]
    exact h
   ·simp at h
  ·simp at h
 ·simp at h

theorem stampV_loc {l k : Look} {m y x : V} {r : Res} (h : stampV l m y x = some r) (ha : Agree l k r.rd) : stampV k m y x = some r := by
 unfold stampV at h ⊢
 split at h
 ·rename_i q b id g
  split at h
  ·rename_i o hl
   split at h
   ·rename_i ks vs bs c hro hc
    have hid : r.rd = [id] := by
     split at h
     ·simp at h; subst h; rfl
     ·simp at h
    simp only [← live_loc (ha id (by rw [hid]; simp)), hl, hro, hc]
    exact h
   ·simp at h
  ·simp at h
 ·simp at h

theorem copyV_loc {l k : Look} {i : TI} {s x : V} {r : Res} (h : copyV l i s x = some r) (ha : Agree l k r.rd) : copyV k i s x = some r := by
 unfold copyV at h ⊢
 split at h
 ·rename_i e sz by_ id g off len sz' cap hk
  split at h
  ·rename_i m xs rx o hrows hl hb
   split at h
   ·rename_i c1 c2
    simp only [Option.some.injEq] at h; subst h
    simp only [rowsOf_loc hrows (ha.mono fun i hi => by simp [hi]), ← live_loc (ha id (by simp)), hl, hb, c1, c2]
   ·simp at h
  ·simp at h
 ·simp at h

theorem indexAddrV_loc {l k : Look} {i : TI} {x ix : V} {r : Res} (h : indexAddrV l i x ix = some r) (ha : Agree l k r.rd) : indexAddrV k i x ix = some r := by
 unfold indexAddrV at h ⊢
 split at h <;> try exact h
 split at h <;> try exact h
 ·rename_i e sz by_ id g off len sz' cap hk
  split at h
  ·rename_i o hl hb
   simp only [Option.bind_eq_some_iff] at h
   obtain ⟨q, hq, hr⟩ := h
   simp [retR] at hr; subst hr
   simp only [← live_loc (ha id (by simp)), hl, hb, hq]; rfl
  ·simp at h
 ·rename_i n e sz ag id g off hk
  split at h
  ·rename_i o hl
   simp only [Option.bind_eq_some_iff] at h
   obtain ⟨q, hq, hr⟩ := h
   simp [retR] at hr; subst hr
   simp only [← live_loc (ha id (by simp)), hl, hq]; rfl
  ·simp at h

theorem fieldAddrV_loc {l k : Look} {i : TI} {f : Nat} {x : V} {r : Res} (h : fieldAddrV l i f x = some r) (ha : Agree l k r.rd) : fieldAddrV k i f x = some r := by
 unfold fieldAddrV at h ⊢
 split at h <;> try exact h
 split at h <;> try exact h
 split at h <;> try exact h
 split at h <;> try exact h
 rename_i id g o
 split at h
 ·rename_i ob hl
  simp [retR] at h; subst h
  simp only [← live_loc (ha id (by simp)), hl]; rfl
 ·simp at h

theorem sliceV_loc {l k : Look} {i : TI} {x : V} {lo hi mx : Option V} {r : Res} (h : sliceV l i x lo hi mx = some r) (ha : Agree l k r.rd) : sliceV k i x lo hi mx = some r := by
 unfold sliceV at h ⊢
 split at h <;> try exact h
 rotate_left
 ·rename_i n e sz ag id g off hk
  split at h
  ·rename_i o p q hl e1 e2
   split at h
   ·rename_i hc
    simp only [retR, Option.some.injEq] at h; subst h
    simp only [← live_loc (ha id (by simp)), hl, e1, e2, if_pos hc]; rfl
   ·simp at h
  ·simp at h
 rename_i e sz by_ id g off len sz' cap hk
 split at h
 ·rename_i o p q hl hb e1 e2
  split at h
  ·rename_i hc
   simp only [retR, Option.some.injEq] at h; subst h
   simp only [← live_loc (ha id (by simp)), hl, hb, e1, e2, if_pos hc]; rfl
  ·simp at h
 ·rename_i o p q m hl hb e1 e2
  split at h
  ·rename_i mm e3
   split at h
   ·rename_i hc
    simp only [retR, Option.some.injEq] at h; subst h
    simp only [← live_loc (ha id (by simp)), hl, hb, e1, e2, e3, if_pos hc]; rfl
   ·simp at h
  ·simp at h
 ·simp at h

theorem builtinV_loc {l k : Look} {n c : Nat} {b : Builtin} {ts : List TypeId} {vs : List V} {r : Res} (h : builtinV P l n c b ts vs = some r) (ha : Agree l k r.rd) : builtinV P k n c b ts vs = some r := by
 unfold builtinV at h ⊢
 split at h <;> try exact h
 ·simp only [Option.bind_eq_some_iff] at h ⊢
  obtain ⟨i, hi, h⟩ := h
  exact ⟨i, hi, lenV_loc h ha⟩
 ·split at h
  ·rename_i e
   rw [if_pos e]
   simp only [Option.bind_eq_some_iff] at h ⊢
   obtain ⟨i, hi, h⟩ := h
   exact ⟨i, hi, appendV_loc h ha⟩
  ·rename_i e
   rw [if_neg e]
   exact h
 ·simp only [Option.bind_eq_some_iff] at h ⊢
  obtain ⟨i, hi, h⟩ := h
  exact ⟨i, hi, capV_loc h ha⟩
 ·split at h
  ·rename_i e
   rw [if_pos e]
   simp only [Option.bind_eq_some_iff] at h ⊢
   obtain ⟨i, hi, h⟩ := h
   exact ⟨i, hi, copyV_loc h ha⟩
  ·simp at h

theorem step_loc {fz fs : Bool} {ρ : Operand → V} {l k : Look} {n c : Nat} {op : Op} {r : Res} (h : step P fz fs ρ l n c op = some r) (ha : Agree l k r.rd) : step P fz fs ρ k n c op = some r := by
 cases op <;> simp only [step] at h ⊢ <;> try exact h
 case build t ps =>
  split at h <;> try exact h
  split at h <;> try exact h
  split at h
  ·rename_i hc
   rw [if_pos hc]
   split at h
   ·exact h
   ·split at h
    ·rename_i qs ids hcp
     simp only [Option.bind_eq_some_iff] at h
     obtain ⟨cs, hcs, h⟩ := h
     simp only [Option.some.injEq] at h; subst h
     have ha' : Agree l k ids := ha
     rw [closeParts_loc hcp ha']
     simp only [hcs, Option.bind_some, roOf_loc ha']
    ·simp at h
  ·simp at h
 case buildSlice t len ps =>
  split at h <;> try exact h
  split at h <;> try exact h
  split at h <;> try exact h
  split at h <;> try exact h
  split at h
  ·rename_i hc
   rw [if_pos hc]
   split at h
   ·rename_i qs ids hcp
    simp only [Option.bind_eq_some_iff] at h
    obtain ⟨cs, hcs, h⟩ := h
    simp only [Option.some.injEq] at h; subst h
    have ha' : Agree l k ids := ha
    rw [closeParts_loc hcp ha']
    simp only [hcs, Option.bind_some, roOf_loc ha']
   ·simp at h
  ·simp at h
 case makeFunc fn first caps => cases fn <;> exact h
 case convert s t x =>
  split at h
  ·exact convL_loc h ha
  ·exact h
 case nilCheck x => exact checkNil_loc h ha
 case next x b =>
  cases b with
  | false => exact h
  | true => exact nextV_loc h ha
 case range t x =>
  simp only [Option.bind_eq_some_iff] at h ⊢
  obtain ⟨i, hi, h⟩ := h
  refine ⟨i, hi, ?_⟩
  split at h
  ·exact rangeMV_loc h ha
  ·exact h
 case entry x => exact entryItV_loc h ha
 case makeMap t q => cases q <;> exact h
 case lookup t x y ok =>
  split at h <;> try exact h
  split at h <;> try exact h
  split at h <;> try exact h
  exact lookupV_loc h ha
 case mapUpdate t m y x =>
  split at h <;> try exact h
  split at h <;> try exact h
  simp only [Option.bind_eq_some_iff] at h ⊢
  obtain ⟨i, hi, h⟩ := h
  exact ⟨i, hi, insertV_loc h ha⟩
 case insert t m y x =>
  split at h <;> try exact h
  split at h <;> try exact h
  simp only [Option.bind_eq_some_iff] at h ⊢
  obtain ⟨i, hi, h⟩ := h
  exact ⟨i, hi, insertV_loc h ha⟩
 case mapEntry t m y =>
  split at h <;> try exact h
  split at h <;> try exact h
  simp only [Option.bind_eq_some_iff] at h ⊢
  obtain ⟨i, hi, h⟩ := h
  exact ⟨i, hi, entryV_loc h ha⟩
 case entryStore t m y x => exact stampV_loc h ha
 case binOp op t x y yt =>
  split at h
  ·simp only [Option.bind_eq_some_iff] at h ⊢
   obtain ⟨i, hi, h⟩ := h
   exact ⟨i, hi, nilR_loc h ha⟩
  ·exact h
 case load t a =>
  simp only [Option.bind_eq_some_iff] at h ⊢
  obtain ⟨i, hi, h⟩ := h
  exact ⟨i, hi, loadV_loc h ha⟩
 case store t a x =>
  simp only [Option.bind_eq_some_iff] at h ⊢
  obtain ⟨i, hi, h⟩ := h
  exact ⟨i, hi, storeV_loc h ha⟩
 case slice t x lo hi mx =>
  split at h
  ·simp at h
  ·rename_i hno
   rw [if_neg hno]
   simp only [Option.bind_eq_some_iff] at h ⊢
   obtain ⟨i, hi, h⟩ := h
   exact ⟨i, hi, sliceV_loc h ha⟩
 case fieldAddr t x f =>
  simp only [Option.bind_eq_some_iff] at h ⊢
  obtain ⟨i, hi, h⟩ := h
  exact ⟨i, hi, fieldAddrV_loc h ha⟩
 case indexAddr t x ix =>
  simp only [Option.bind_eq_some_iff] at h ⊢
  obtain ⟨i, hi, h⟩ := h
  exact ⟨i, hi, indexAddrV_loc h ha⟩
 case call cl =>
  obtain ⟨callee, args, ts⟩ := cl
  cases callee <;> simp only [] at h ⊢ <;> try exact h
  exact builtinV_loc h ha

end Go.Ac
end
