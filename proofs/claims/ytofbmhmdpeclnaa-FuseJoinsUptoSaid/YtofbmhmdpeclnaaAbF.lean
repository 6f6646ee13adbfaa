/- The abstract machine: operations that write memory, or make it. No conditions. -/
import Derived.Test.YtofbmhmdpeclnaaAbE
set_option linter.unusedVariables false
set_option linter.unusedSimpArgs false
namespace Go.Ab
variable {P : Program} {S : Nat → Prop} {m : M}

theorem hupd_one (h : Nat → Option Ob) (k : Nat) (o : Ob) : hupd h [(k, o)] = upd h k (some o) := rfl

theorem iss_eq0 (m : M) (c : Nat) {f : Nat → Nat → Prop} (h : f = fun id g => m.iss id g ∨ (c ≤ g ∧ g < c + 0)) : f = m.iss := by rw [h, iss_zero]

theorem storeV_sound {fz : Bool} {i : TI} {t : TypeId} {p x : V} {v y : Value} {r : Res} {c : Nat} (hi : mkTI P t = some i) (h : storeV m.h fz i p x = some r) (hR : Rel S m) (hv : RV S m p v) (hy : RV S m x y) :
    ∃ m', (Instr.storeAt t v y).run P m.w = .ok () m'.w ∧ After S m c r undef m' := by
  unfold storeV at h
  split at h
  · rename_i id g off xs hcx
    split at h
    · rename_i o zs ids hlv hcl
      split at h
      · rename_i hro hlen hle hnot
        simp only [Option.some.injEq] at h; subst h
        obtain ⟨ho, hg, b, base, hat, rfl⟩ := hv.ptr_live hlv
        obtain ⟨ys, hyc, hys, hone⟩ := cellsV_spec hcx hy
        have hlen' := Nat.eq_of_beq_eq_true hlen
        have hle' := Nat.le_of_ble_eq_true hle
        obtain ⟨inf, d, h1, h2, h3, h4, _⟩ := mkTI_spec hi
        -- what is stored becomes data first
        obtain ⟨m1, e1, hb⟩ := ros hR ids
        have hcs := closeVs_sound (S := S) (m := m) (m' := m1) (all := ids) (fun g1 g2 g3 => cl1_sound hR g1 g2 hb g3) hcl hys (fun i hi => hi)
        have hcone := closeVs_one hcl hone
        have hzl := closeVs_length hcl
        have hid : id ∉ ids := by
          intro hmem
          have : ids.any (Nat.beq id) = true := List.any_eq_true.2 ⟨id, hmem, Nat.beq_refl id⟩
          rw [this] at hnot; cases hnot
        have ho1 : m1.h id = some o := (hb.not id hid).trans ho
        have hat1 : m1.at_ id = some (b, base) := by rw [hb.at_]; exact hat
        obtain ⟨hS, cs, T, fz', hrow, hfz, hsz, hc⟩ := hb.rel.obj id o b base ho1 hat1
        have hyl : ys.length = i.size := by rw [← hys.1, hlen']
        have hrun := run_storeCells_mid (P := P) b (base + off) T fz' hfz ys 0 cs m1.w hrow (by omega) (hys.ones hone)
        obtain ⟨m', w1, w2, w3, w4, w5, w6⟩ := write_obj (c := c) (dc := 0) (w' := m1.w.setRow b (splice cs (base + off) ys)) (o' := ⟨g, false, o.cells.take off ++ zs ++ o.cells.drop (off + i.size)⟩)
          hb.rel ho1 hat1 hro hrow rfl (base' := base) (splice_size (by omega)) (by
            rw [splice_size (by omega)]
            simp [hzl, hlen']; omega)
          (.inl ⟨hg.symm, rfl, by simp [hzl, hlen']; omega, rfl⟩) (by
            intro j q hq
            have hget : ∀ (k : Nat) (u : V), o.cells[k]? = some u → u.one = true ∧ ∃ z, cs[base + k]? = some z ∧ RV S m1 u z := hc
            simp only [List.append_assoc] at hq
            rw [List.getElem?_append] at hq
            have htl : (List.take off o.cells).length = off := by simp; omega
            rw [htl] at hq
            split at hq
            · rename_i hj
              rw [List.getElem?_take] at hq; rw [if_pos hj] at hq
              obtain ⟨g1, z, g2, g3⟩ := hget j q hq
              exact ⟨g1, z, by rw [splice_get (by omega)]; rw [if_pos (by omega)]; exact g2, g3⟩
            · rename_i hj
              rw [List.getElem?_append] at hq
              split at hq
              · rename_i hj2
                obtain ⟨z, g1, g2⟩ := hcs.get hq
                refine ⟨List.all_eq_true.1 hcone q (List.mem_of_getElem? hq), z, ?_, g2⟩
                rw [splice_get (by omega), if_neg (by omega), if_pos (by omega), show base + j - (base + off) = j - off by omega]
                exact g1
              · rename_i hj2
                rw [List.getElem?_drop] at hq
                obtain ⟨g1, z, g2, g3⟩ := hget _ q hq
                refine ⟨g1, z, ?_, g3⟩
                rw [splice_get (by omega), if_neg (by omega), if_neg (by omega)]
                rw [← g2]; congr 1; omega)
        refine ⟨m', ?_, w5, hb.evo.trans w6, .undef, ?_, ?_⟩
        · rw [w1]
          simp only [Nat.add_zero] at hrun
          have hcs : y.cells.size = inf.size := by rw [hyc]; simp; omega
          have hw : m.w = m1.w := hb.w.symm
          rw [hw]
          simp [Instr.storeAt, Instr.sureAddr, storeVar, run_sizeOf' h1, hcs, hyc, hrun]
          omega
        · rw [w2, e1, hupd_append]; rfl
        · rw [w4, hb.iss]
      · simp at h
    · simp at h
  · simp at h

/-- A new row. -/
theorem new_sound {n c : Nat} {T : TypeId} {cs : List V} {ys : List Value} (hR : Rel S m) (hf : Fresh m c 1) (hys : RVs S m cs ys) (hone : cs.all V.one = true) :
    ∃ m', (newRow T ys.toArray).run P m.w = .ok ⟨m.w.heap.size, 0, none⟩ m'.w ∧ m'.h = upd m.h n (some ⟨c, false, cs⟩) ∧ m'.at_ n = some (m.w.heap.size, 0) ∧
      m'.iss = (fun i g => m.iss i g ∨ (c ≤ g ∧ g < c + 1)) ∧ Rel S m' ∧ Evo S m m' ∧ ∃ T', m'.w.heap[m.w.heap.size]? = some (Obj.cells ys.toArray T' (0, 0)) := by
  obtain ⟨m', w1, w2, w3, w4, w5, w6⟩ := alloc_obj (id := n) (o' := ⟨c, false, cs⟩) (c := c) (dc := 1) (cs' := ys.toArray) (T := T) (w' := { m.w with heap := m.w.heap.push (Obj.cells ys.toArray T (0, 0)) })
    hR rfl (by simp [hys.1]) (hf n c (Nat.le_refl _) (by omega)) rfl rfl (by
      intro j v hv
      obtain ⟨x, h1, h2⟩ := hys.get hv
      exact ⟨List.all_eq_true.1 hone v (List.mem_of_getElem? hv), x, by simpa using h1, h2⟩)
  refine ⟨m', ?_, w2, by rw [w3]; simp, w4, w5, w6, T, by rw [w1]; simp⟩
  rw [w1]
  simp [newRow]

theorem newV_sound {n c : Nat} {T : TypeId} {cs : List V} {ys : List Value} {r : Res} (h : newV n c cs = some r) (hR : Rel S m) (hf : Fresh m c r.dc) (hys : RVs S m cs ys) (hone : cs.all V.one = true) :
    ∃ m', (newRow T ys.toArray).run P m.w = .ok ⟨m.w.heap.size, 0, none⟩ m'.w ∧ After S m c r (.pointer (some ⟨m.w.heap.size, 0, none⟩)) m' := by
  simp [newV] at h; subst h
  obtain ⟨m', w1, w2, w3, w4, w5, w6, _⟩ := new_sound (P := P) (T := T) hR hf hys hone
  refine ⟨m', w1, w5, w6, .ptr ?_ rfl ?_, by rw [w2]; rfl, w4⟩
  · rw [w4]; exact .inr ⟨Nat.le_refl _, by omega⟩
  · intro o ho hg
    exact ⟨m.w.heap.size, 0, w3, rfl⟩

theorem zero_spec {t : TypeId} {i : TI} {z : List V} (hi : mkTI P t = some i) (hz : i.zero = some z) (w : World) : ∃ v : Value, (zeroValue t).run P w = .ok v w ∧ z = v.cells.toList.map constV1 ∧ (P.info? t).map (·.zero) = some (some v) := by
  obtain ⟨inf, d, h1, h2, h3, h4, h5, h6⟩ := mkTI_spec hi
  rw [hz] at h6
  cases hzz : inf.zero with
  | none => simp [hzz] at h6
  | some v =>
    simp [hzz] at h6
    exact ⟨v, by simp [zeroValue, typeInfo, h1, hzz], h6, by simp [h1, hzz]⟩

theorem alloc_sound {t : TypeId} {i : TI} {z : List V} {r : Res} {n c : Nat} (hi : mkTI P t = some i) (hz : i.zero = some z) (hone : z.all V.one = true) (h : newV n c z = some r) (hR : Rel S m) (hf : Fresh m c r.dc) :
    ∃ x m', (Instr.alloc t true (.tuple #[])).run P m.w = .ok x m'.w ∧ After S m c r x m' := by
  obtain ⟨v, h1, h2, _⟩ := zero_spec hi hz m.w
  obtain ⟨m', w1, w2⟩ := newV_sound (P := P) (T := t) (ys := v.cells.toList) h hR hf (by rw [h2]; exact constVs_RVs _) hone
  refine ⟨_, m', ?_, w2⟩
  simp only [Array.toArray_toList] at w1
  simp [Instr.alloc, h1, newVar, w1]

theorem box_sound {t : TypeId} {x : V} {y : Value} {cs : List V} {r : Res} {n c : Nat} (hc : cellsV x = some cs) (h : newV n c cs = some r) (hR : Rel S m) (hf : Fresh m c r.dc) (hy : RV S m x y) :
    ∃ v m', (Instr.box t y).run P m.w = .ok v m'.w ∧ After S m c r v m' := by
  obtain ⟨ys, h1, h2, h3⟩ := cellsV_spec hc hy
  obtain ⟨m', w1, w2⟩ := newV_sound (P := P) (T := t) (ys := ys) h hR hf h2 h3
  refine ⟨_, m', ?_, w2⟩
  simp [Instr.box, newVar, h1, w1]

/-! ### Filling -/

theorem fill_fold (xs : List Value) : ∀ (off k : Nat) (cs : Array Value), off + k + xs.length ≤ cs.size →
    ((xs.zipIdx k).foldl (fun (cs : Array Value) (p : Value × Nat) => cs.setIfInBounds (off + p.2) p.1) cs).toList = cs.toList.take (off + k) ++ xs ++ cs.toList.drop (off + k + xs.length) := by
  induction xs with
  | nil => intro off k cs h; simp
  | cons x r ih =>
    intro off k cs h
    simp only [List.zipIdx_cons, List.foldl_cons]
    rw [ih off (k + 1) _ (by simp at h ⊢; omega)]
    simp only [List.length_cons] at h ⊢
    apply List.ext_getElem?
    intro j
    simp only [Array.toList_setIfInBounds, List.getElem?_append, List.length_append, List.length_take, List.length_set, Array.length_toList, List.length_cons, List.getElem?_take, List.getElem?_drop, List.getElem?_set]
    by_cases h1 : j < off + k
    · simp [h1, show j < off + (k + 1) by omega, show min (off + (k + 1)) cs.size = off + (k + 1) by omega, show min (off + k) cs.size = off + k by omega, show j < off + k + (r.length + 1) by omega, show ¬ (off + k = j) by omega,
        show j < off + (k + 1) + r.length by omega]
    · by_cases h2 : j = off + k
      · subst h2
        simp [show min (off + (k + 1)) cs.size = off + (k + 1) by omega, show min (off + k) cs.size = off + k by omega, show off + k < off + (k + 1) by omega, show off + k < cs.size by omega, show off + k < off + (k + 1) + r.length by omega,
          show off + k < off + k + (r.length + 1) by omega]
      · simp [h1, show ¬ j < off + (k + 1) by omega, show min (off + (k + 1)) cs.size = off + (k + 1) by omega, show min (off + k) cs.size = off + k by omega, show off + (k + 1) + r.length = off + k + (r.length + 1) by omega,
          show j - (off + k) = (j - (off + (k + 1))) + 1 by omega]
        rw [if_neg (show ¬ (off + k = off + k + (r.length + 1) + (j - (off + k + (r.length + 1)))) by omega)]

theorem fillV_sound {place : Nat → Option (Nat × Nat)} : ∀ {ps : List (Nat × V)} {qs : List (Nat × Value)} {cs cs' : List V} {xs : List Value}, fillV place cs ps = some cs' → RVs S m cs xs → cs.all V.one = true →
    ps.length = qs.length → (∀ (j : Nat) (a : Nat × V) (b : Nat × Value), ps[j]? = some a → qs[j]? = some b → a.1 = b.1 ∧ RV S m a.2 b.2) →
    ∃ ys : List Value, Instr.fill place xs.toArray qs = some ys.toArray ∧ RVs S m cs' ys ∧ cs'.all V.one = true ∧ cs'.length = cs.length
  | [], qs, cs, cs', xs, h, hv, h1, hl, hp => by
    simp [fillV] at h; subst h
    have : qs = [] := List.length_eq_zero_iff.1 (by simp at hl; exact hl.symm)
    subst this
    exact ⟨xs, rfl, hv, h1, rfl⟩
  | (i, x) :: ps, qs, cs, cs', xs, h, hv, h1, hl, hp => by
    cases qs with
    | nil => simp at hl
    | cons q qs =>
      obtain ⟨i', y⟩ := q
      obtain ⟨hi, hxy⟩ := hp 0 (i, x) (i', y) rfl rfl
      simp at hi; subst hi
      simp only [fillV] at h
      split at h
      · rename_i off size us hpl hcx
        split at h
        · rename_i hb1 hb2
          have e1 := Nat.eq_of_beq_eq_true hb1
          have e2 := Nat.le_of_ble_eq_true hb2
          obtain ⟨ys, g1, g2, g3⟩ := cellsV_spec hcx hxy
          have hyl : ys.length = us.length := g2.1.symm
          have hv' : RVs S m (cs.take off ++ us ++ cs.drop (off + us.length)) (xs.take off ++ ys ++ xs.drop (off + ys.length)) := by
            rw [hyl]; exact ((hv.take off).append g2).append (hv.drop _)
          have h1' : (cs.take off ++ us ++ cs.drop (off + us.length)).all V.one = true := by
            rw [List.all_eq_true] at h1 g3 ⊢
            intro z hz
            simp only [List.mem_append] at hz
            rcases hz with (hz | hz) | hz
            · exact h1 z (List.mem_of_mem_take hz)
            · exact g3 z hz
            · exact h1 z (List.mem_of_mem_drop hz)
          obtain ⟨zs, k1, k2, k3, k4⟩ := fillV_sound h hv' h1' (by simpa using hl) (fun j a b ha hb => hp (j + 1) a b (by simpa using ha) (by simpa using hb))
          refine ⟨zs, ?_, k2, k3, by rw [k4]; simp; omega⟩
          have hxl := hv.1
          have hsz : y.cells.size = size := by rw [g1]; simp; omega
          simp only [Instr.fill, hpl]
          rw [if_neg (by rw [hsz]; simp; omega)]
          rw [← k1]
          congr 1
          apply Array.ext'
          have := fill_fold ys off 0 xs.toArray (by simp; omega)
          simp only [Nat.add_zero] at this
          rw [g1]
          simpa using this
        · simp at h
      · simp at h

end Go.Ab
