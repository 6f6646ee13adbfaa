/- The abstract machine: one operation. No conditions. -/
import Derived.Test.YtofbmhmdpeclnaaAbK
set_option linter.unusedVariables false
set_option linter.unusedSimpArgs false
namespace Go.Ab
variable {P : Program} {S : Nat → Prop} {m : M}

theorem RV.int_inv {k : IntKind} {n : Int} {v : Value} (h : RV S m (.d (.int k n)) v) : v = .int k n := by
  cases h with
  | d hd => cases hd; rfl
theorem RV.bool_inv {b : Bool} {v : Value} (h : RV S m (.d (.bool b)) v) : v = .bool b := by
  cases h with
  | d hd => cases hd; rfl

theorem eqGuard_int (op : BinOp) (t : TypeId) (x y : Operand) (k k' : IntKind) (a b : Int) (w : World) : (eqGuard op t x y (.int k a) (.int k' b)).run P w = .ok () w := by
  unfold eqGuard; cases op <;> rfl
theorem eqGuard_str (op : BinOp) (t : TypeId) (x y : Operand) (a b : ByteArray) (w : World) : (eqGuard op t x y (.string a) (.string b)).run P w = .ok () w := by
  unfold eqGuard; cases op <;> rfl
theorem eqGuard_bool (op : BinOp) (t : TypeId) (x y : Operand) (a b : Bool) (w : World) : (eqGuard op t x y (.bool a) (.bool b)).run P w = .ok () w := by
  unfold eqGuard; cases op <;> rfl

theorem intBin_sound {op : BinOp} {k : IntKind} {a b : Int} {d : D} (t : TypeId) (w : World) (hs : op ≠ .shl ∧ op ≠ .shr) (h : intBin op k a b = some d) : ∃ z, (binOp op t (.int k a) (.int k b)).run P w = .ok z w ∧ ∀ av, RD w av d z := by
  cases op <;> simp only [intBin, Option.some.injEq] at h
  case shl => exact absurd rfl hs.1
  case shr => exact absurd rfl hs.2
  case quo =>
    split at h
    · simp at h
    · rename_i hb
      simp at h; subst h
      exact ⟨_, by simp [binOp, Op.intDiv, hb], fun av => .int _ _⟩
  case rem =>
    split at h
    · simp at h
    · rename_i hb
      simp at h; subst h
      exact ⟨_, by simp [binOp, Op.intDiv, hb], fun av => .int _ _⟩
  case eql => subst h; exact ⟨_, by simp [binOp, Op.intCmp], fun av => .bool _⟩
  case neq => subst h; exact ⟨_, by simp [binOp, Op.intCmp], fun av => .bool _⟩
  case lss => subst h; exact ⟨_, by simp [binOp, Op.intCmp], fun av => .bool _⟩
  case leq => subst h; exact ⟨_, by simp [binOp, Op.intCmp], fun av => .bool _⟩
  case gtr => subst h; exact ⟨_, by simp [binOp, Op.intCmp], fun av => .bool _⟩
  case geq => subst h; exact ⟨_, by simp [binOp, Op.intCmp], fun av => .bool _⟩
  case and => subst h; exact ⟨_, by simp [binOp, Op.intBits], fun av => .int _ _⟩
  case or => subst h; exact ⟨_, by simp [binOp, Op.intBits], fun av => .int _ _⟩
  case xor => subst h; exact ⟨_, by simp [binOp, Op.intBits], fun av => .int _ _⟩
  case andNot => subst h; exact ⟨_, by simp [binOp, Op.intBits], fun av => .int _ _⟩
  all_goals subst h; exact ⟨_, by simp [binOp, Op.intArith], fun av => .int _ _⟩

theorem shift_sound {op : BinOp} {k k' : IntKind} {i j : Int} {v : V} (t : TypeId) (w : World) (h : (match op with
    | .shl => if j < 0 then none else some (V.d (.int k (k.wrap (i * 2 ^ (min j.toNat k.bits)))))
    | .shr => if j < 0 then none else some (V.d (.int k (i.fdiv (2 ^ (min j.toNat k.bits)))))
    | _ => none) = some v) (S : Nat → Prop) (m : M) : ∃ z, (binOp op t (.int k i) (.int k' j)).run P w = .ok z w ∧ RV S m v z := by
  cases op <;> simp only [] at h <;> try (simp at h; done)
  case shl =>
    split at h
    · simp at h
    · rename_i hj
      simp only [Option.some.injEq] at h; subst h
      refine ⟨_, ?_, .d (.int _ _)⟩
      simp [binOp, Op.shift, hj]
  case shr =>
    split at h
    · simp at h
    · rename_i hj
      simp only [Option.some.injEq] at h; subst h
      refine ⟨_, ?_, .d (.int _ _)⟩
      simp [binOp, Op.shift, hj]

theorem binV_sound {op : BinOp} {x y v : V} {a b : Value} (t : TypeId) (o1 o2 : Operand) (h : binV op x y = some v) (ha : RV S m x a) (hb : RV S m y b) :
    ∃ z, (eqGuard op t o1 o2 a b).run P m.w = .ok () m.w ∧ (binOp op t a b).run P m.w = .ok z m.w ∧ RV S m v z := by
  unfold binV at h
  split at h
  · rename_i k i k' j
    obtain rfl := ha.int_inv
    obtain rfl := hb.int_inv
    have gen : op ≠ .shl ∧ op ≠ .shr → (if k = k' then (intBin op k i j).map V.d else none) = some v → ∃ z, (binOp op t (.int k i) (.int k' j)).run P m.w = .ok z m.w ∧ RV S m v z := by
      clear h
      intro hs h'
      split at h'
      · rename_i hk; subst hk
        simp only [Option.map_eq_some_iff] at h'
        obtain ⟨d, hd, rfl⟩ := h'
        obtain ⟨z, h1, h2⟩ := intBin_sound (P := P) t m.w hs hd
        exact ⟨z, h1, .d (h2 _)⟩
      · simp at h'
    have key : ∃ z, (binOp op t (.int k i) (.int k' j)).run P m.w = .ok z m.w ∧ RV S m v z := by
      by_cases h1 : op = .shl
      · subst h1; exact shift_sound (op := .shl) t m.w h S m
      · by_cases h2 : op = .shr
        · subst h2; exact shift_sound (op := .shr) t m.w h S m
        · refine gen ⟨h1, h2⟩ ?_
          cases op <;> first | exact h | exact absurd rfl h1 | exact absurd rfl h2
    obtain ⟨z, h1, h2⟩ := key
    exact ⟨z, eqGuard_int op t o1 o2 k k' i j m.w, h1, h2⟩
  · rename_i s u
    simp only [Option.map_eq_some_iff] at h
    obtain ⟨d, hd, rfl⟩ := h
    cases ha with
    | d ha =>
      cases ha with
      | str bs l hbs =>
        cases hb with
        | d hb =>
          cases hb with
          | str cs l' hcs =>
            refine ⟨?z, eqGuard_str op t o1 o2 bs cs m.w, ?_, ?_⟩
            case z => exact match op with | .eql => .bool (s == u) | _ => .bool (!(s == u))
            all_goals
              cases op <;> simp only [strBin, Option.some.injEq] at hd <;> first | (simp at hd; done) | subst hd
            · simp [binOp, Op.stringOp, ByteArray.toList_eq, hbs, hcs]
            · simp [binOp, Op.stringOp, ByteArray.toList_eq, hbs, hcs]
            · exact .d (.bool _)
            · exact .d (.bool _)
  · simp at h

theorem boolBin_sound {op : BinOp} {p q : Bool} {v : V} {t : TypeId} (o1 o2 : Operand) (ht : P.underlying t = some .bool) (h : boolBin op p q = some v) :
    ∃ z, (eqGuard op t o1 o2 (.bool p) (.bool q)).run P m.w = .ok () m.w ∧ (binOp op t (.bool p) (.bool q)).run P m.w = .ok z m.w ∧ RV S m v z := by
  cases op <;> simp only [boolBin, Option.some.injEq] at h <;> first | (simp at h; done) | subst h
  · exact ⟨_, eqGuard_bool _ t o1 o2 p q m.w, run_eql_bool m.w t p q ht, .d (.bool _)⟩
  · exact ⟨_, eqGuard_bool _ t o1 o2 p q m.w, run_neq_bool m.w t p q ht, .d (.bool _)⟩

theorem unV_sound {op : UnOp} {x v : V} {a : Value} (h : unV op x = some v) (ha : RV S m x a) : ∃ z, (Op.unary op a).run P m.w = .ok z m.w ∧ RV S m v z := by
  unfold unV at h
  split at h
  · rename_i b
    obtain rfl : a = .bool b := by
      cases ha with
      | d hd => cases hd; rfl
    cases op <;> simp only [Option.some.injEq] at h <;> first | (simp at h; done) | subst h
    exact ⟨_, by simp [Op.unary], .d (.bool _)⟩
  · rename_i k n
    obtain rfl : a = .int k n := by
      cases ha with
      | d hd => cases hd; rfl
    cases op <;> simp only [Option.some.injEq] at h <;> first | (simp at h; done) | subst h
    exact ⟨.int k (k.wrap (0 - n)), by simp [Op.unary, Op.intArith], .d (.int _ _)⟩
  · simp at h

theorem convV_sound {s t : TypeId} {i j : TI} {x v : V} {a : Value} (hi : mkTI P s = some i) (hj : mkTI P t = some j) (h : convV i j x = some v) (ha : RV S m x a) : ∃ z, (convert s t a).run P m.w = .ok z m.w ∧ RV S m v z := by
  obtain ⟨_, d1, _, i2, i3, _⟩ := mkTI_spec hi
  obtain ⟨_, d2, _, j2, j3, _⟩ := mkTI_spec hj
  unfold convV at h
  split at h
  · rename_i k n
    obtain rfl : a = .int k n := by
      cases ha with
      | d hd => cases hd; rfl
    split at h
    · rename_i q hk
      rw [hk] at j3
      have := mkTK_int j3; subst this
      simp only [Option.some.injEq] at h; subst h
      refine ⟨.int q (q.wrap n), ?_, .d (.int _ _)⟩
      simp [convert, run_underlying i2, run_underlying j2, Conv.intToInt]
    · simp at h
  · rename_i s'
    split at h
    · rename_i hk1 hk2
      rw [hk1] at i3; rw [hk2] at j3
      have := mkTK_str i3; subst this
      have := mkTK_str j3; subst this
      simp only [Option.some.injEq] at h; subst h
      cases ha with
      | d hd =>
        cases hd with
        | str bs l hbs => exact ⟨.string bs, by simp [convert, run_underlying i2, run_underlying j2], .d (.str _ _ hbs)⟩
    · simp at h
  · simp at h

theorem mkFields_places : ∀ {fs : List Field} {l : List (Nat × Nat × Bool)}, mkFields P fs = some l → fs.mapM (fun f => (P.info? f.type).map fun i => (f.offset, i.size)) = some (l.map fun p => (p.1, p.2.1))
  | [], l, h => by simp [mkFields] at h; subst h; rfl
  | f :: fs, l, h => by
    simp only [mkFields] at h
    split at h
    · rename_i j u l' hj hu hl'
      simp at h; subst h
      have ih := mkFields_places hl'
      simp only [List.mapM_cons, hj, Option.map_some, ih]
      rfl
    · simp at h

theorem parts_rel {ρ : Operand → V} {σ : Operand → Value} (h : ∀ x, RV S m (ρ x) (σ x)) (ps : List (Nat × Operand)) : (ps.map fun p => (p.1, ρ p.2)).length = (ps.map fun p => (p.1, σ p.2)).length ∧
    ∀ (j : Nat) (a : Nat × V) (b : Nat × Value), (ps.map fun p => (p.1, ρ p.2))[j]? = some a → (ps.map fun p => (p.1, σ p.2))[j]? = some b → a.1 = b.1 ∧ RV S m a.2 b.2 := by
  refine ⟨by simp, fun j a b ha hb => ?_⟩
  rw [List.getElem?_map] at ha hb
  cases hp : ps[j]? with
  | none => simp [hp] at ha
  | some p => simp [hp] at ha hb; subst ha; subst hb; exact ⟨rfl, h p.2⟩

theorem build_sound {t : TypeId} {i : TI} {z cs : List V} {place : Nat → Option (Nat × Nat)} {ps : Array (Nat × Operand)} {ρ : Operand → V} {σ : Operand → Value} (hi : mkTI P t = some i) (hz : i.zero = some z) (hone : z.all V.one = true)
    (hpl : (∃ fs, i.k = .struct fs ∧ place = fun j => (fs[j]?).map fun f => (f.1, f.2.1)) ∨ (∃ n e sz ag, i.k = .array n e sz ag ∧ place = fun j => some (j * sz, sz)))
    (h : fillV place z (ps.toList.map fun p => (p.1, ρ p.2)) = some cs) (hρ : ∀ x, RV S m (ρ x) (σ x)) :
    ∃ ys : List Value, (Instr.build t (ps.map fun p => (p.1, σ p.2))).run P m.w = .ok (.agg ys.toArray) m.w ∧ RVs S m cs ys := by
  obtain ⟨inf, d, h1, h2, h3, _⟩ := mkTI_spec hi
  obtain ⟨v, g1, g2, g3⟩ := zero_spec hi hz m.w
  obtain ⟨r1, r2⟩ := parts_rel (S := S) (m := m) hρ ps.toList
  obtain ⟨ys, k1, k2, _, _⟩ := fillV_sound (xs := v.cells.toList) h (by rw [g2]; exact constVs_RVs _) hone r1 r2
  refine ⟨ys, ?_, k2⟩
  apply run_build
  have hzz : inf.zero = some v := by simpa [h1] using g3
  simp only [Array.toArray_toList] at k1
  rcases hpl with ⟨fs, hk, rfl⟩ | ⟨n, e, sz, ag, hk, rfl⟩
  · rw [hk] at h3
    obtain ⟨fields, rfl, hfs⟩ := mkTK_struct h3
    have hp := mkFields_places hfs
    simp only [Program.built, h1, h2, hzz, hp]
    simpa using k1
  · rw [hk] at h3
    obtain ⟨rfl, j, u, hj, _, hjs, _⟩ := mkTK_array h3
    simp only [Program.built, h1, h2, hzz, hj, hjs]
    simpa using k1

theorem closeParts_sound (hR : Rel S m) {fz : Bool} {m' : M} {all : List Nat} (hb : RoBy S m m' all) : ∀ {ps ps' : List (Nat × V)} {ids : List Nat} {qs : List (Nat × Value)}, closeParts m.h fz ps = some (ps', ids) → ps.length = qs.length →
    (∀ (j : Nat) (a : Nat × V) (b : Nat × Value), ps[j]? = some a → qs[j]? = some b → a.1 = b.1 ∧ RV S m a.2 b.2) → (∀ i ∈ ids, i ∈ all) →
    ps'.length = qs.length ∧ ∀ (j : Nat) (a : Nat × V) (b : Nat × Value), ps'[j]? = some a → qs[j]? = some b → a.1 = b.1 ∧ RV S m' a.2 b.2
  | [], ps', ids, qs, h, hl, hp, hi => by simp [closeParts] at h; obtain ⟨rfl, rfl⟩ := h; exact ⟨hl, fun j a b ha => by simp at ha⟩
  | (i, x) :: r, ps', ids, qs, h, hl, hp, hi => by
    cases qs with
    | nil => simp at hl
    | cons q qs =>
      obtain ⟨i', y⟩ := q
      obtain ⟨e1, e2⟩ := hp 0 (i, x) (i', y) rfl rfl
      simp only at e1 e2
      subst e1
      simp only [closeParts] at h
      split at h
      · rename_i w aa ws bb h1 h2
        simp at h; obtain ⟨rfl, rfl⟩ := h
        obtain ⟨g1, g2⟩ := closeParts_sound (qs := qs) hR hb h2 (by simpa using hl) (fun j a b ha hb => hp (j + 1) a b (by simpa using ha) (by simpa using hb)) (fun i hi' => hi i (List.mem_append_right _ hi'))
        refine ⟨by simp [g1], fun j a b ha hb' => ?_⟩
        cases j with
        | zero => simp at ha hb'; subst ha; subst hb'; exact ⟨rfl, cl2_sound hR h1 e2 hb fun i hi' => hi i (List.mem_append_left _ hi')⟩
        | succ j => exact g2 j a b (by simpa using ha) (by simpa using hb')
      · simp at h

end Go.Ab
