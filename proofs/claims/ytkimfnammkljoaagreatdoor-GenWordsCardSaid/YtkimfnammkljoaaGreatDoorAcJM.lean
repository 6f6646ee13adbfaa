/- The abstract machine: slicing, indexing, arithmetic. No conditions. -/
import Derived.Test.YtkimfnammkljoaaGreatDoorAcGM
import Derived.Laws.Strings
set_option linter.unusedVariables false
set_option linter.unusedSimpArgs false
section
namespace Go.Ac
variable {P : Program} {S : Nat → Prop} {m : M}

theorem setRow_self {w : World} {b : Nat} {cs : Array Value} {T : TypeId} {fz : Nat × Nat} (h : w.heap[b]? = some (Obj.cells cs T fz)) : w.setRow b cs = w := by
 have hlt : b < w.heap.size := (Array.getElem?_eq_some_iff.1 h).1
 have hv : w.heap[b] = .cells cs T fz := (Array.getElem?_eq_some_iff.1 h).2
 unfold World.setRow
 cases w with
 | mk heap tape drawn os output =>
  congr 1
  apply Array.ext
  ·simp
  ·intro k h1 h2
   simp only [Array.getElem_modify]
   split
   ·rename_i hk; subst hk; simp at hv; simp [hv]
   ·rfl

theorem appendV_sound [Gl] {n c : Nat} {t ty : TypeId} {i : TI} {s x : V} {r : Res} {v y : Value} (hi : mkTI P t = some i) (h : appendV m.h n c i s x = some r) (hR : Rel S m) (hf : Fresh m c r.dc)
  (hv : RV S m s v) (hy : RV S m x y) : ∃ z m', (Builtin.append_ #[t, t] ty #[v, y]).run P m.w = .ok z m'.w ∧ After S m c r z m' := by
 obtain ⟨inf, d, h1, h2, h3, _⟩ := mkTI_spec hi
 unfold appendV at h
 split at h
 ·rename_i e sz by_ hk
  rw [hk] at h3
  obtain ⟨rfl, j, hj, hjs, hjb⟩ := mkTK_slice h3
  split at h
  ·rename_i mm xs rx hrows
   obtain ⟨b, kb, rfl, hb1, hb2, ys, hys, hyl, hyo, hyn, hyc⟩ := rowsOf_sound hrows hy hR
   have hysl : ys.length = mm * sz := by rw [← hys.1, hyl]
   split at h
   ·-- a slice of which nothing is left
    rename_i rows
    split at h
    ·rename_i hall hfit hne
     simp only [Option.some.injEq] at h; subst h
     obtain ⟨a, ka, hva, ha1, ha2, xa, hxa, hxl, hxo, hxn, hxc⟩ := rowsOf_sound (sz := sz) (n := rows.length) (vs := rows.flatten.map .d) (rd := []) (by simp only [rowsOf]; rw [if_pos hall]) hv hR
     have hka : ka = rows.length := by
      cases hv with
      | full hd => simp at hva; exact hva.2.symm
     subst hka
     subst hva
     obtain ⟨hb, z, hz, hzs⟩ := hjb (fitsB_spec hfit).1
     by_cases hm : mm = 0
     ·subst hm
      have hr0 : rows = [] := by simpa [Nat.blt] using hne
      subst hr0
      have hys0 : ys = [] := List.length_eq_zero_iff.1 (by rw [hysl]; simp)
      have hxs0 : xs = [] := List.length_eq_zero_iff.1 (by rw [hyl]; simp)
      subst hys0; subst hxs0
      obtain ⟨m', w1, w2, w3, w4, w5, w6⟩ := virt_obj (id := n) (o' := ⟨c, false, []⟩) (c := c) (dc := 1) hR rfl (hf n c (Nat.le_refl _) (by simp)) rfl rfl
      refine ⟨.slice a 0 0, m', ?_, w5, w6, ?_, by rw [w2]; rfl, w4⟩
      ·cases a with
       | none => rw [w1]; simp only [List.length_nil]; exact run_inplace_none t ty e j m.w h2 hj
       | some p =>
        rw [w1]
        exact run_inplace_some t ty e j m.w m.w h2 hj (p := p) (sLen := 0) (sCap := 0) (n := 0) (news := []) (by simp) (fun _ => rfl) (fun _ _ j y hy => by simp at hy) (Nat.le_refl _) (by simp [storeCells])
      ·refine .osl (by rw [w4]; exact .inr ⟨Nat.le_refl _, by omega⟩) rfl fun o ho hg => ?_
       refine ⟨by rw [w2, upd_same] at ho; simp only [Option.some.injEq] at ho; subst ho; rfl, ?_⟩
       unfold OslOK
       rw [w3]
       simp
     ·obtain ⟨z', m', g1, g2, g3, g4, g5, g6⟩ := grow_obj (id := n) (c := c) (sz := sz) (n0 := rows.length) (n1 := mm) (by_ := by_) (t := t) (ty := ty) (e := e) (i := j) (z := z) (a := a) (b := b) (sCap := rows.length) (k := kb) hR h2 hj hz hjs hzs hb hfit
       hxa hys hxl hyl hxo hyo hxn hyn hxc hyc (by omega) (hf n c (Nat.le_refl _) (by simp))
      exact ⟨z', m', g1, g2, g3, g4, by rw [g5]; rfl, g6⟩
    ·simp at h
   ·rename_i id g off len sz' cap
    split at h
    ·rename_i o hl hbeq
     have hsz' : sz = sz' := Nat.eq_of_beq_eq_true hbeq
     subst hsz'
     split at h
     ·rename_i hfit hle
      have hle' := Nat.le_of_ble_eq_true hle
      obtain ⟨hb, z, hz, hzs⟩ := hjb (fitsB_spec hfit).1
      obtain ⟨ho, hgen, hok⟩ := hv.osl_live hl
      have hkind := hv.osl_kind hl
      obtain ⟨a, ka, hva, ha1, ha2, xa, hxa, hxl, hxo, hxn, hxc⟩ := rowsOf_sound (sz := sz) (n := len) (vs := (o.cells.drop off).take (len * sz)) (rd := [id]) (by simp only [rowsOf, hl, hbeq, hle]) hv hR
      have hsum : (len + mm) * sz = len * sz + mm * sz := Nat.add_mul _ _ _
      -- in place
      have inplace : ∀ (b0 base : Nat) (p : Addr) (k : Nat) (cs : Array Value) (T : TypeId) (fz : Nat × Nat), m.w.heap[b0]? = some (Obj.cells cs T fz) → (fz.2 = fz.1 ∨ cs.size ≤ fz.1) → v = .slice (some p) len k → (p = ⟨b0, base + off, none⟩ ∨ (len = 0 ∧ k = 0)) →
        len + mm ≤ k → base + off + (len + mm) * sz ≤ cs.size → (Builtin.append_ #[t, t] ty #[v, .slice b mm kb]).run P m.w = .ok (.slice (some p) (len + mm) k) (m.w.setRow b0 (splice cs (base + off + len * sz) ys)) := by
       intro b0 base p k cs T fz hrow hfz hvp hp hle2 hbound
       subst hvp
       refine run_inplace_some t ty e j m.w _ h2 hj (by rw [hjs, hysl]) hyn hyc hle2 ?_
       rw [hjs]
       rcases hp with rfl | ⟨rfl, rfl⟩
       ·have := run_storeCells_mid (P := P) b0 (base + off + len * sz) T fz hfz ys 0 cs m.w hrow (by omega) (hys.ones hyo)
        rw [addr_add]
        simpa using this
       ·have hm0 : mm = 0 := by omega
        subst hm0
        have : ys = [] := List.length_eq_zero_iff.1 (by rw [hysl]; simp)
        subst this
        simp only [storeCells, splice, List.length_nil, Nat.add_zero, List.append_nil, List.take_append_drop, Array.toArray_toList]
        rw [setRow_self hrow]
        rfl
      split at h
      ·-- the capacity is known
       rename_i q
       split at h
       ·rename_i hq hro hlq
        simp only [Option.some.injEq] at h; subst h
        have hq' := Nat.le_of_ble_eq_true hq
        have hlq' := Nat.le_of_ble_eq_true hlq
        unfold OslOK at hok
        cases hat : m.at_ id with
        | none => simp [hat] at hok
        | some bb =>
         obtain ⟨b0, base⟩ := bb
         simp only [hat] at hok
         obtain ⟨p, k, hvp, hp, k2, k3, k4, ⟨cs, T, fz, k5, k6⟩, k7, k8⟩ := hok
         subst k7
         obtain ⟨hS, cs0, T0, fz0, hrow, hfz, hsz, hc⟩ := hR.cellsAt hkind ho hat
         have hmul : (len + mm) * sz ≤ k * sz := Nat.mul_le_mul_right _ hq'
         have hrun := inplace b0 base p k cs0 T0 fz0 hrow hfz hvp hp hq' (by omega)
         have hspl : (splice cs0 (base + off + len * sz) ys).size = cs0.size := splice_size (by omega)
         obtain ⟨m', w1, w2, w3, w4, w5, w6⟩ := write_obj (c := c) (dc := 0) (w' := m.w.setRow b0 (splice cs0 (base + off + len * sz) ys))
          (o' := ⟨g, false, o.cells.take (off + len * sz) ++ xs ++ o.cells.drop (off + (len + mm) * sz)⟩) hR ho hat hro hkind hrow rfl (base' := base) hspl (by
           rw [hspl]; simp [hyl]; omega) (.inl ⟨hgen.symm, rfl, by simp [hyl]; omega, rfl⟩) (by
           intro jj u hu
           simp only [List.append_assoc] at hu
           rw [List.getElem?_append] at hu
           have htl : (List.take (off + len * sz) o.cells).length = off + len * sz := by simp; omega
           rw [htl] at hu
           split at hu
           ·rename_i hjj
            rw [List.getElem?_take] at hu; rw [if_pos hjj] at hu
            obtain ⟨q1, y1, q2, q3⟩ := hc jj u hu
            exact ⟨q1, y1, by rw [splice_get (by omega), if_pos (by omega)]; exact q2, q3⟩
           ·rename_i hjj
            rw [List.getElem?_append] at hu
            split at hu
            ·rename_i hjj2
             obtain ⟨y1, q1, q2⟩ := hys.get hu
             refine ⟨List.all_eq_true.1 hyo u (List.mem_of_getElem? hu), y1, ?_, q2⟩
             rw [splice_get (by omega), if_neg (by omega), if_pos (by omega), show base + jj - (base + off + len * sz) = jj - (off + len * sz) by omega]
             exact q1
            ·rename_i hjj2
             rw [List.getElem?_drop] at hu
             obtain ⟨q1, y1, q2, q3⟩ := hc _ u hu
             refine ⟨q1, y1, ?_, q3⟩
             rw [splice_get (by omega), if_neg (by omega), if_neg (by omega), ← q2]
             congr 1; omega)
         refine ⟨_, m', by rw [w1]; exact hrun, w5, w6, ?_, by rw [w2]; rfl, w4⟩
         refine .osl (by rw [w4]; cases hv with | osl hi _ _ => exact .inl hi) rfl fun o2 ho2 hg2 => ?_
         have hkk := (w5.obj id o2 b0 base ho2 (by rw [w3]; exact upd_same _ _ _)).2.kind_at ⟨_, _, _, by rw [w1]; exact setRow_heap m.w b0 cs0 _ T0 fz0 hrow⟩
         rw [w2] at ho2; simp at ho2; subst ho2
         refine ⟨hkk, ?_⟩
         unfold OslOK
         rw [w3]
         simp only [upd_same]
         refine ⟨p, k, rfl, ?_, by simp [hyl]; omega, hq', k4, ⟨_, T0, fz0, by rw [w1]; exact setRow_heap m.w b0 cs0 _ T0 fz0 hrow, ?_⟩, rfl, by simp [hyl]; omega⟩
         ·rcases hp with hp | ⟨_, hp⟩
          ·exact .inl hp
          ·exact .inr ⟨by omega, hp⟩
         ·rw [hspl]
          rw [hrow] at k5
          injection k5 with k5; injection k5 with k5 _ _; subst k5
          exact k6
       ·rename_i hq
        simp only [Option.some.injEq] at h; subst h
        have hq' : q < len + mm := by
         rcases Nat.lt_or_ge q (len + mm) with h' | h'
         ·exact h'
         ·have := Nat.ble_eq_true_of_le h'; rw [hq] at this; cases this
        have hka : ka = q := by
         unfold OslOK at hok
         cases hat : m.at_ id with
         | none => simp [hat] at hok
         | some bb =>
          obtain ⟨b0, base⟩ := bb
          simp only [hat] at hok
          obtain ⟨p, k, hvp, hp, k2, k3, k4, _, k7, k8⟩ := hok
          subst k7
          rw [hva] at hvp
          simp at hvp; exact hvp.2
        subst hva
        subst hka
        obtain ⟨z', m', g1, g2, g3, g4, g5, g6⟩ := grow_obj (id := n) (c := c) (sz := sz) (n0 := len) (n1 := mm) (by_ := by_) (t := t) (ty := ty) (e := e) (i := j) (z := z) (a := a) (b := b) (sCap := ka) (k := kb) hR h2 hj hz hjs hzs hb hfit
         hxa hys hxl hyl hxo hyo hxn hyn hxc hyc hq' (hf n c (Nat.le_refl _) (by simp))
        exact ⟨z', m', g1, g2, g3, g4, by rw [g5]; rfl, g6⟩
       ·simp at h
      ·-- the capacity is open
       split at h
       ·rename_i hro
        simp only [Option.some.injEq] at h; subst h
        have hiss : ¬ m.iss id c := hf id c (Nat.le_refl _) (by simp)
        have grows : ka < len + mm → ∃ z' m', (Builtin.append_ #[t, t] ty #[v, .slice b mm kb]).run P m.w = .ok z' m'.w ∧ After S m c ⟨.osl id c 0 (len + mm) sz none, [(id, ⟨c, false, (o.cells.drop off).take (len * sz) ++ xs⟩)], id :: rx, 0, 1, false⟩ z' m' := by
         intro hgt
         obtain ⟨z', m', g1, g2, g3, g4, g5, g6⟩ := grow_obj (id := id) (c := c) (sz := sz) (n0 := len) (n1 := mm) (by_ := by_) (t := t) (ty := ty) (e := e) (i := j) (z := z) (a := a) (b := b) (sCap := ka) (k := kb) hR h2 hj hz hjs hzs hb hfit
          hxa hys hxl hyl hxo hyo hxn hyn hxc hyc hgt hiss
         exact ⟨z', m', by rw [hva]; exact g1, g2, g3, g4, by rw [g5]; rfl, g6⟩
        by_cases hgt : ka < len + mm
        ·exact grows hgt
        ·unfold OslOK at hok
         cases hat : m.at_ id with
         | none =>
          simp only [hat] at hok
          obtain ⟨rfl, rfl, _, a', hva'⟩ := hok
          have hka0 : ka = 0 := by rw [hva] at hva'; simp at hva'; exact hva'.2
          subst hka0
          have hm0 : mm = 0 := by omega
          subst hm0
          have hys0 : ys = [] := List.length_eq_zero_iff.1 (by rw [hysl]; simp)
          have hxs0 : xs = [] := List.length_eq_zero_iff.1 (by rw [hyl]; simp)
          subst hys0; subst hxs0
          obtain ⟨m', w1, w2, w3, w4, w5, w6⟩ := virt_obj (id := id) (o' := ⟨c, false, (o.cells.drop 0).take (0 * sz) ++ []⟩) (c := c) (dc := 1) hR (by simp) hiss rfl rfl
          refine ⟨.slice a 0 0, m', ?_, w5, w6, ?_, by rw [w2]; rfl, w4⟩
          ·rw [hva, w1]
           cases a with
           | none => exact run_inplace_none t ty e j m.w h2 hj
           | some p => exact run_inplace_some t ty e j m.w m.w h2 hj (p := p) (sLen := 0) (sCap := 0) (n := 0) (news := []) (by simp) (fun _ => rfl) (fun _ _ j y hy => by simp at hy) (Nat.le_refl _) (by simp [storeCells])
          ·refine .osl (by rw [w4]; exact .inr ⟨Nat.le_refl _, by omega⟩) rfl fun o2 ho2 hg2 => ?_
           refine ⟨by rw [w2, upd_same] at ho2; simp only [Option.some.injEq] at ho2; subst ho2; simp [kindL], ?_⟩
           unfold OslOK
           rw [w3]
           simp
         | some bb =>
          obtain ⟨b0, base⟩ := bb
          simp only [hat] at hok
          obtain ⟨p, k, hvp, hp, k2, k3, k4, ⟨cs, T, fz, k5, k6⟩, _⟩ := hok
          have hkk : ka = k := by rw [hva] at hvp; simp at hvp; exact hvp.2
          subst hkk
          obtain ⟨hS, cs0, T0, fz0, hrow, hfz, hsz, hc⟩ := hR.cellsAt hkind ho hat
          rw [hrow] at k5
          injection k5 with k5; injection k5 with k5 _ _; subst k5
          have hmul : (len + mm) * sz ≤ ka * sz := Nat.mul_le_mul_right _ (by omega)
          have hrun := inplace b0 base p ka cs0 T0 fz0 hrow hfz hvp hp (by omega) (by omega)
          have hspl : (splice cs0 (base + off + len * sz) ys).size = cs0.size := splice_size (by omega)
          obtain ⟨m', w1, w2, w3, w4, w5, w6⟩ := write_obj (c := c) (dc := 1) (w' := m.w.setRow b0 (splice cs0 (base + off + len * sz) ys))
           (o' := ⟨c, false, (o.cells.drop off).take (len * sz) ++ xs⟩) hR ho hat hro hkind hrow rfl (base' := base + off) hspl (by
            rw [hspl]; simp [hyl]; omega) (.inr ⟨hiss, rfl, rfl⟩) (by
            intro jj u hu
            rw [List.getElem?_append] at hu
            have htl : (List.take (len * sz) (List.drop off o.cells)).length = len * sz := by simp; omega
            rw [htl] at hu
            split at hu
            ·rename_i hjj
             rw [List.getElem?_take, if_pos hjj, List.getElem?_drop] at hu
             obtain ⟨q1, y1, q2, q3⟩ := hc _ u hu
             refine ⟨q1, y1, ?_, q3⟩
             rw [splice_get (by omega), if_pos (by omega), ← q2]
             congr 1; omega
            ·rename_i hjj
             obtain ⟨y1, q1, q2⟩ := hys.get hu
             have hjl : jj - len * sz < ys.length := (List.getElem?_eq_some_iff.1 q1).1
             refine ⟨List.all_eq_true.1 hyo u (List.mem_of_getElem? hu), y1, ?_, q2⟩
             rw [splice_get (by omega), if_neg (by omega), if_pos (by omega), show base + off + jj - (base + off + len * sz) = jj - len * sz by omega]
             exact q1)
          refine ⟨_, m', by rw [w1]; exact hrun, w5, w6, ?_, by rw [w2]; rfl, w4⟩
          refine .osl (by rw [w4]; exact .inr ⟨Nat.le_refl _, by omega⟩) rfl fun o2 ho2 hg2 => ?_
          have hkk := (w5.obj id o2 b0 (base + off) ho2 (by rw [w3]; exact upd_same _ _ _)).2.kind_at ⟨_, _, _, by rw [w1]; exact setRow_heap m.w b0 cs0 _ T0 fz0 hrow⟩
          rw [w2] at ho2; simp at ho2; subst ho2
          refine ⟨hkk, ?_⟩
          unfold OslOK
          rw [w3]
          simp only [upd_same]
          refine ⟨p, ka, rfl, ?_, by simp [hyl]; omega, by omega, k4, ⟨_, T0, fz0, by rw [w1]; exact setRow_heap m.w b0 cs0 _ T0 fz0 hrow, ?_⟩, trivial⟩
          ·rcases hp with hp | ⟨_, hp⟩
           ·exact .inl (by rw [hp, Nat.add_zero])
           ·exact .inr ⟨by omega, hp⟩
          ·rw [hspl]; omega
       ·simp at h
     ·simp at h
    ·simp at h
   ·simp at h
  ·simp at h
 ·simp at h

end Go.Ac
end

section
namespace Go.Ac
variable {P : Program} {S : Nat → Prop} {m : M}

theorem copyV_sound [Gl] {t ty : TypeId} {i : TI} {s x : V} {r : Res} {v y : Value} {c : Nat} (hi : mkTI P t = some i) (h : copyV m.h i s x = some r) (hR : Rel S m)
  (hv : RV S m s v) (hy : RV S m x y) : ∃ z m', (Builtin.copy_ #[t, t] ty #[v, y]).run P m.w = .ok z m'.w ∧ After S m c r z m' := by
 obtain ⟨inf, d, h1, h2, h3, _⟩ := mkTI_spec hi
 unfold copyV at h
 split at h
 ·rename_i e sz by_ id g off len sz' cap hk
  rw [hk] at h3
  obtain ⟨rfl, j, hj, hjs, hjb⟩ := mkTK_slice h3
  split at h
  ·rename_i mm xs rx o hrows hl hbeq
   split at h
   ·rename_i hro hle
    simp only [Option.some.injEq] at h; subst h
    have hsz' : sz = sz' := Nat.eq_of_beq_eq_true hbeq
    subst hsz'
    have hle' := Nat.le_of_ble_eq_true hle
    obtain ⟨b, kb, rfl, hb1, hb2, ys, hys, hyl, hyo, hyn, hyc⟩ := rowsOf_sound hrows hy hR
    have hysl : ys.length = mm * sz := by rw [← hys.1, hyl]
    obtain ⟨ho, hgen, hok⟩ := hv.osl_live hl
    have hkind := hv.osl_kind hl
    have hmin : min mm len * sz ≤ mm * sz := Nat.mul_le_mul_right _ (Nat.min_le_left _ _)
    have hmin2 : min mm len * sz ≤ len * sz := Nat.mul_le_mul_right _ (Nat.min_le_right _ _)
    have hfirst : (Builtin.firstCells sz (min mm len) (.slice b mm kb)).run P m.w = .ok (ys.take (min mm len * sz)).toArray m.w := by
     refine first_run (P := P) m.w (by simp; omega) (fun hb => by have := hyn hb; omega) (fun p hp jj yy hjj => ?_) mm
     rw [List.getElem?_take] at hjj
     split at hjj
     ·exact hyc p hp jj yy hjj
     ·simp at hjj
    have hnat : Nat.min mm len = min mm len := rfl
    unfold OslOK at hok
    cases hat : m.at_ id with
    | none =>
     simp only [hat] at hok
     obtain ⟨rfl, rfl, _, a, rfl⟩ := hok
     have hn := hR.none_ id o ho hat
     have hid : (⟨g, false, o.cells.take 0 ++ xs.take (min mm 0 * sz) ++ o.cells.drop (0 + min mm 0 * sz)⟩ : Ob) = o := by
      cases o; simp at hn hgen hro; subst hn; subst hgen; subst hro; simp
     have e0 : min mm 0 = 0 := by omega
     rw [e0]
     refine ⟨goInt 0, m, ?_, hR, .refl S m, .d (.int .i64 0), ?_, (iss_zero m c).symm⟩
     ·have hf0 : (Builtin.firstCells sz 0 (.slice b mm kb)).run P m.w = .ok #[] m.w := by simpa using hfirst
      have hn0 : mm.min 0 = 0 := e0
      cases a with
      | none => simp [Builtin.copy_, run_underlying h2, Builtin.lenOf, sizeOf, typeInfo, hj, hjs, hn0, hf0]
      | some p =>
       have hst : (storeCells p [] 0).run P m.w = .ok () m.w := rfl
       simp [Builtin.copy_, run_underlying h2, Builtin.lenOf, sizeOf, typeInfo, hj, hjs, hn0, hf0, hst]
     ·show m.h = upd m.h id (some _)
      rw [e0] at hid
      rw [hid]; funext q; unfold upd; split
      ·rename_i hq; rw [hq]; exact ho
      ·rfl
    | some bb =>
     obtain ⟨b0, base⟩ := bb
     simp only [hat] at hok
     obtain ⟨p, k, rfl, hp, k2, k3, k4, ⟨cs, T, fz, k5, k6⟩, k7⟩ := hok
     obtain ⟨hS, cs0, T0, fz0, hrow, hfz, hsz, hc⟩ := hR.cellsAt hkind ho hat
     have htk : (ys.take (min mm len * sz)).length = min mm len * sz := by simp; omega
     have hst : (storeCells p (ys.take (min mm len * sz)) 0).run P m.w = .ok () (m.w.setRow b0 (splice cs0 (base + off) (ys.take (min mm len * sz)))) := by
      rcases hp with rfl | ⟨rfl, rfl⟩
      ·have := run_storeCells_mid (P := P) b0 (base + off) T0 fz0 hfz (ys.take (min mm len * sz)) 0 cs0 m.w hrow (by omega) (fun v hv => (hys.ones hyo) v (List.mem_of_mem_take hv))
       simpa using this
      ·have : (ys.take (min mm 0 * sz)) = [] := by simp
       rw [this]
       simp only [storeCells, splice, List.length_nil, Nat.add_zero, List.append_nil, List.take_append_drop, Array.toArray_toList]
       rw [setRow_self hrow]; rfl
     have hspl : (splice cs0 (base + off) (ys.take (min mm len * sz))).size = cs0.size := splice_size (by omega)
     have hxt := hys.take (min mm len * sz)
     obtain ⟨m', w1, w2, w3, w4, w5, w6⟩ := write_obj (c := c) (dc := 0) (w' := m.w.setRow b0 (splice cs0 (base + off) (ys.take (min mm len * sz))))
      (o' := ⟨g, false, o.cells.take off ++ xs.take (min mm len * sz) ++ o.cells.drop (off + min mm len * sz)⟩) hR ho hat hro hkind hrow rfl (base' := base) hspl (by
       rw [hspl]; simp [hyl]; omega) (.inl ⟨hgen.symm, rfl, by simp [hyl]; omega, rfl⟩) (by
       intro jj u hu
       simp only [List.append_assoc] at hu
       rw [List.getElem?_append] at hu
       have htl : (List.take off o.cells).length = off := by simp; omega
       rw [htl] at hu
       split at hu
       ·rename_i hjj
        rw [List.getElem?_take, if_pos hjj] at hu
        obtain ⟨q1, y1, q2, q3⟩ := hc jj u hu
        exact ⟨q1, y1, by rw [splice_get (by omega), if_pos (by omega)]; exact q2, q3⟩
       ·rename_i hjj
        rw [List.getElem?_append] at hu
        split at hu
        ·rename_i hjj2
         obtain ⟨y1, q1, q2⟩ := hxt.get hu
         have hl1 := (List.getElem?_eq_some_iff.1 q1).1
         refine ⟨List.all_eq_true.1 hyo u (List.mem_of_mem_take (List.mem_of_getElem? hu)), y1, ?_, q2⟩
         rw [splice_get (by omega), if_neg (by omega), if_pos (by omega), show base + jj - (base + off) = jj - off by omega]
         exact q1
        ·rename_i hjj2
         rw [List.getElem?_drop] at hu
         have hxl : (List.take (min mm len * sz) xs).length = min mm len * sz := by rw [List.length_take, hyl]; omega
         obtain ⟨q1, y1, q2, q3⟩ := hc _ u hu
         refine ⟨q1, y1, ?_, q3⟩
         rw [splice_get (by omega), if_neg (by omega), if_neg (by omega), ← q2]
         congr 1; omega)
     refine ⟨goInt (min mm len : Nat), m', ?_, w5, w6, ?_, by rw [w2]; rfl, w4⟩
     ·rw [w1]
      simp [Builtin.copy_, run_underlying h2, Builtin.lenOf, sizeOf, typeInfo, hj, hjs, hnat, hfirst, hst]
     ·exact .d (.int _ _)
   ·simp at h
  ·simp at h
 ·simp at h

theorem replicate_flatten {α : Type} [Inhabited α] (z : List α) (n : Nat) : (List.replicate n z).flatten = (List.range (n * z.length)).map (fun q => z[q % z.length]!) := by
 by_cases h0 : z.length = 0
 ·have hz : z = [] := List.length_eq_zero_iff.1 h0
  subst hz
  apply List.length_eq_zero_iff.1
  rw [flatten_len 0 _ (fun r hr => by rw [List.eq_of_mem_replicate hr]; rfl)]; simp
 ·have hpos : 0 < z.length := by omega
  apply List.ext_getElem?
  intro q
  rw [flatten_get z.length hpos _ (fun r hr => by rw [List.eq_of_mem_replicate hr])]
  by_cases hq : q < n * z.length
  ·have h1 : q / z.length < n := Nat.div_lt_of_lt_mul (by rw [Nat.mul_comm]; exact hq)
   have h2 : q % z.length < z.length := Nat.mod_lt _ hpos
   simp [h1, hq, h2]
  ·have h1 : ¬ q / z.length < n := by
    intro h
    have := (Nat.div_lt_iff_lt_mul hpos).1 h
    omega
   simp [h1, hq]

theorem zero_cells_RVs [Gl] {z : List V} {v : Value} (h : z = v.cells.toList.map constV1) (q : Nat) : RVs S m (List.replicate q z).flatten (List.replicate q v.cells.toList).flatten := by
 have : (List.replicate q z).flatten = ((List.replicate q v.cells.toList).flatten).map constV1 := by
  rw [h, List.map_flatten, List.map_replicate]
 rw [this]
 exact constVs_RVs _

theorem all_replicate {z : List V} (h : z.all V.one = true) (q : Nat) : ((List.replicate q z).flatten).all V.one = true := by
 rw [List.all_eq_true] at h ⊢
 intro x hx
 obtain ⟨l, hl, hx'⟩ := List.mem_flatten.1 hx
 rw [List.eq_of_mem_replicate hl] at hx'
 exact h x hx'

theorem range_map_toArray (z : Array Value) (q : Nat) : (Array.range (q * z.size)).map (fun i => z[i % z.size]!) = ((List.replicate q z.toList).flatten).toArray := by
 rw [replicate_flatten]
 apply Array.ext'
 simp
 intro a _
 rw [getElem!_def]
 cases z[a % z.size]? <;> rfl

/-- A new row of slots. -/
theorem osl_new [Gl] {n c len sz : Nat} {cap : Nat} {T : TypeId} {cs : List V} {ys : List Value} (hR : Rel S m) (hf : Fresh m c 1) (hys : RVs S m cs ys) (hone : cs.all V.one = true) (hl : cs.length = cap * sz) (hc : len ≤ cap) (hm : cap ≤ maxLen) {rd : List Nat} :
  ∃ m', (newRow T ys.toArray).run P m.w = .ok ⟨m.w.heap.size, 0, none⟩ m'.w ∧ After S m c ⟨.osl n c 0 len sz (some cap), [(n, ⟨c, false, cs⟩)], rd, 1, 1, false⟩ (.slice (some ⟨m.w.heap.size, 0, none⟩) len cap) m' := by
 obtain ⟨m', w1, w2, w3, w4, w5, w6, T', w7⟩ := new_sound (P := P) (T := T) hR hf hys hone
 refine ⟨m', w1, w5, w6, .osl (by rw [w4]; exact .inr ⟨Nat.le_refl _, by omega⟩) rfl fun o ho hg => ?_, by rw [w2]; rfl, w4⟩
 rw [w2] at ho; simp at ho; subst ho
 refine ⟨kind_of_one fun j v hv => List.all_eq_true.1 hone v (List.mem_of_getElem? hv), ?_⟩
 unfold OslOK
 rw [w3]
 have hmul : len * sz ≤ cap * sz := Nat.mul_le_mul_right _ hc
 refine ⟨_, cap, rfl, .inl rfl, by simp; omega, hc, hm, ⟨_, T', (0, 0), w7, by simp [← hys.1]; omega⟩, rfl, by simp; omega⟩

theorem makeV_sound [Gl] {n c : Nat} {t e sz by_ : Nat} {i : TI} {l q : V} {r : Res} {u v : Value} (hi : mkTI P t = some i) (hk : i.k = .slice e sz by_) (h : makeV n c i (mkTI P e) l q = some r) (hR : Rel S m) (hf : Fresh m c r.dc)
  (hu : RV S m l u) (hv : RV S m q v) : ∃ z m', (Instr.makeSlice t u v).run P m.w = .ok z m'.w ∧ After S m c r z m' := by
 obtain ⟨inf, d, h1, h2, h3, _⟩ := mkTI_spec hi
 rw [hk] at h3
 obtain ⟨rfl, j, hj, hjs, hjb⟩ := mkTK_slice h3
 unfold makeV at h
 rw [hk] at h
 split at h
 ·rename_i e' sz' by' l q hk'
  injection hk' with k1 k2 k3; subst k1; subst k2; subst k3
  split at h
  ·rename_i ei hei
   split at h
   ·rename_i z hz
    split at h
    ·rename_i hcond
     obtain ⟨c1, c2, c3, c4, c5, c6, c7⟩ := hcond
     simp only [Option.some.injEq] at h; subst h
     obtain rfl : u = .int .i64 l := by
      cases hu with
      | d hu => cases hu; rfl
     obtain rfl : v = .int .i64 q := by
      cases hv with
      | d hv => cases hv; rfl
     obtain ⟨f1, f2, f3⟩ := fitsB_spec c4
     obtain ⟨hb, z0, hz0, hzs⟩ := hjb f1
     obtain ⟨zv, g1, g2, g3⟩ := zero_spec hei hz m.w
     have hzv : zv = z0 := by simp [hj, hz0] at g3; exact g3.symm
     subst hzv
     have hle : zv.cells.size = sz := hzs
     have hlen : ((List.replicate q.toNat z).flatten).length = q.toNat * sz := by
      rw [flatten_len sz _ (fun r hr => by rw [List.eq_of_mem_replicate hr]; exact c5)]; simp
     obtain ⟨m', w1, w2⟩ := osl_new (P := P) (T := e) (len := l.toNat) (cap := q.toNat) (sz := sz) (rd := []) hR hf (zero_cells_RVs g2 q.toNat) (all_replicate c7 _) hlen (by omega) (by unfold maxLen; omega)
     refine ⟨_, m', ?_, w2⟩
     have hw1 : IntKind.i64.wrap l = l := by
      unfold IntKind.wrap; simp [IntKind.bits, IntKind.signed]; omega
     have hw2 : IntKind.i64.wrap q = q := by
      unfold IntKind.wrap; simp [IntKind.bits, IntKind.signed]; omega
     have hq0 : ((q.toNat : Nat) : Int) = q := Int.toNat_of_nonneg (by omega)
     have hbq : ¬ (281474976710656 < (by_ : Int) * q) := by
      rw [← hq0]
      have : q.toNat * by_ ≤ 140737488355328 := f2
      have h' : ((q.toNat * by_ : Nat) : Int) = (by_ : Int) * (q.toNat : Int) := by rw [Int.natCast_mul, Int.mul_comm]
      omega
     have hrun : (newRow e (Array.map (fun x => zv.cells[x % zv.cells.size]!) (Array.range (q.toNat * sz)))).run P m.w = .ok ⟨m.w.heap.size, 0, none⟩ m'.w := by
      rw [← hle, range_map_toArray]; exact w1
     have hqn : q.toNat * sz = 0 ∨ ¬ (q.toNat * sz = 0) := Decidable.em _
     simp only [Instr.makeSlice, Sem.run_bind, run_underlying h2, Result.andThen_ok, asInt, asIntOf, Sem.run_pure, typeInfo, run_program, hj, hw1, hw2, hb]
     simp only [Bool.or_eq_true, decide_eq_true_eq, hbq, show ¬ q < 0 by omega, show ¬ l < 0 by omega, show ¬ l > q by omega, or_self, if_false, false_or, or_false]
     simp only [show ¬ ((by_ : Int) * q > 2 ^ 48) by simpa using hbq, if_false, run_askRoom, Result.andThen_ok, run_sizeOf' hj, hjs, g1, Sem.run_bind, Sem.run_pure]
     rcases hqn with hqn | hqn
     ·simp only [hqn, if_true, Sem.run_pure, Result.andThen_ok]
      rw [hqn] at hrun
      have a0 : ∀ f : Nat → Value, Array.map f (Array.range 0) = #[] := fun f => by apply Array.ext'; simp
      rw [a0] at hrun
      simp [a0, hrun]
     ·simp only [hqn, if_false, Sem.run_bind, g1, Sem.run_pure, Result.andThen_ok, hrun]
    ·simp at h
   ·simp at h
  ·simp at h
 ·simp at h

theorem clearV_sound [Gl] {t ty e sz by_ : Nat} {i : TI} {s : V} {r : Res} {v : Value} {c : Nat} (hi : mkTI P t = some i) (hk : i.k = .slice e sz by_) (h : clearV m.h i (mkTI P e) s = some r) (hR : Rel S m)
  (hv : RV S m s v) : ∃ z m', (Builtin.clear_ #[t] ty #[v]).run P m.w = .ok z m'.w ∧ After S m c r z m' := by
 obtain ⟨inf, d, h1, h2, h3, _⟩ := mkTI_spec hi
 rw [hk] at h3
 obtain ⟨rfl, j, hj, hjs, hjb⟩ := mkTK_slice h3
 unfold clearV at h
 rw [hk] at h
 split at h
 ·rename_i e' sz1 by1 id g off len sz' cap ei hk' hei
  injection hk' with k1 k2 k3; subst k1; subst k2; subst k3
  split at h
  ·rename_i z o hz hl hbeq
   split at h
   ·rename_i hro hle hz2
    simp only [Option.some.injEq] at h; subst h
    have hsz' : sz = sz' := Nat.eq_of_beq_eq_true hbeq
    subst hsz'
    have hle' := Nat.le_of_ble_eq_true hle
    simp only [Bool.and_eq_true] at hz2
    have hzl : z.length = sz := Nat.eq_of_beq_eq_true hz2.1
    obtain ⟨zv, g1, g2, g3⟩ := zero_spec hei hz m.w
    have hzs : zv.cells.size = sz := by rw [← hzl, g2]; simp
    have hys := zero_cells_RVs (S := S) (m := m) g2 len
    have hyo := all_replicate hz2.2 len
    have hyl : ((List.replicate len z).flatten).length = len * sz := by
     rw [flatten_len sz _ (fun r hr => by rw [List.eq_of_mem_replicate hr]; exact hzl)]; simp
    have hysl : ((List.replicate len zv.cells.toList).flatten).length = len * sz := by rw [← hys.1, hyl]
    have hzc : (Builtin.zeroCells zv.cells len).toList = (List.replicate len zv.cells.toList).flatten := by
     unfold Builtin.zeroCells
     rw [range_map_toArray]
    obtain ⟨ho, hgen, hok⟩ := hv.osl_live hl
    have hkind := hv.osl_kind hl
    unfold OslOK at hok
    cases hat : m.at_ id with
    | none =>
     simp only [hat] at hok
     obtain ⟨rfl, rfl, _, a, rfl⟩ := hok
     have hn := hR.none_ id o ho hat
     have hid : (⟨g, false, o.cells.take 0 ++ (List.replicate 0 z).flatten ++ o.cells.drop (0 + 0 * sz)⟩ : Ob) = o := by
      cases o; simp at hn hgen hro; subst hn; subst hgen; subst hro; simp
     refine ⟨.tuple #[], m, ?_, hR, .refl S m, .tuple rfl (fun j x y hx => by simp at hx), ?_, (iss_zero m c).symm⟩
     ·cases a with
      | none => simp [Builtin.clear_, run_underlying h2]
      | some p => simp [Builtin.clear_, run_underlying h2]
     ·show m.h = upd m.h id (some _)
      rw [hid]; funext q; unfold upd; split
      ·rename_i hq; rw [hq]; exact ho
      ·rfl
    | some bb =>
     obtain ⟨b0, base⟩ := bb
     simp only [hat] at hok
     obtain ⟨p, k, rfl, hp, k2, k3, k4, ⟨cs, T, fz, k5, k6⟩, k7⟩ := hok
     obtain ⟨hS, cs0, T0, fz0, hrow, hfz, hsz, hc⟩ := hR.cellsAt hkind ho hat
     have hst : (storeCells p ((List.replicate len zv.cells.toList).flatten) 0).run P m.w = .ok () (m.w.setRow b0 (splice cs0 (base + off) ((List.replicate len zv.cells.toList).flatten))) := by
      rcases hp with rfl | ⟨rfl, rfl⟩
      ·have := run_storeCells_mid (P := P) b0 (base + off) T0 fz0 hfz ((List.replicate len zv.cells.toList).flatten) 0 cs0 m.w hrow (by omega) (fun v hv => (hys.ones hyo) v hv)
       simpa using this
      ·have : (List.replicate 0 zv.cells.toList).flatten = [] := by simp
       rw [this]
       simp only [storeCells, splice, List.length_nil, Nat.add_zero, List.append_nil, List.take_append_drop, Array.toArray_toList]
       rw [setRow_self hrow]; rfl
     have hspl : (splice cs0 (base + off) ((List.replicate len zv.cells.toList).flatten)).size = cs0.size := splice_size (by omega)
     obtain ⟨m', w1, w2, w3, w4, w5, w6⟩ := write_obj (c := c) (dc := 0) (w' := m.w.setRow b0 (splice cs0 (base + off) ((List.replicate len zv.cells.toList).flatten)))
      (o' := ⟨g, false, o.cells.take off ++ (List.replicate len z).flatten ++ o.cells.drop (off + len * sz)⟩) hR ho hat hro hkind hrow rfl (base' := base) hspl (by
       rw [hspl]; simp only [List.length_append, hyl, List.length_take, List.length_drop]; omega) (.inl ⟨hgen.symm, rfl, by simp only [List.length_append, hyl, List.length_take, List.length_drop]; omega, rfl⟩) (by
       intro jj u hu
       simp only [List.append_assoc] at hu
       rw [List.getElem?_append] at hu
       have htl : (List.take off o.cells).length = off := by simp; omega
       rw [htl] at hu
       split at hu
       ·rename_i hjj
        rw [List.getElem?_take, if_pos hjj] at hu
        obtain ⟨q1, y1, q2, q3⟩ := hc jj u hu
        exact ⟨q1, y1, by rw [splice_get (by omega), if_pos (by omega)]; exact q2, q3⟩
       ·rename_i hjj
        rw [List.getElem?_append] at hu
        split at hu
        ·rename_i hjj2
         obtain ⟨y1, q1, q2⟩ := hys.get hu
         have hl1 := (List.getElem?_eq_some_iff.1 q1).1
         refine ⟨List.all_eq_true.1 hyo u (List.mem_of_getElem? hu), y1, ?_, q2⟩
         rw [splice_get (by omega), if_neg (by omega), if_pos (by omega), show base + jj - (base + off) = jj - off by omega]
         exact q1
        ·rename_i hjj2
         rw [List.getElem?_drop, hyl] at hu
         rw [hyl] at hjj2
         obtain ⟨q1, y1, q2, q3⟩ := hc _ u hu
         refine ⟨q1, y1, ?_, q3⟩
         rw [splice_get (by omega), if_neg (by omega), if_neg (by omega), ← q2]
         congr 1; omega)
     refine ⟨.tuple #[], m', ?_, w5, w6, .tuple rfl (fun j x y hx => by simp at hx), by rw [w2]; rfl, w4⟩
     rw [w1]
     by_cases hl0 : len = 0
     ·subst hl0
      have e0 : splice cs0 (base + off) ((List.replicate 0 zv.cells.toList).flatten) = cs0 := by simp [splice]
      rw [e0, setRow_self hrow]
      simp [Builtin.clear_, run_underlying h2]
     ·have hz3 : (zeroValue e).run P m.w = .ok zv m.w := g1
      obtain ⟨n, rfl⟩ : ∃ n, len = n + 1 := ⟨len - 1, by omega⟩
      simp [Builtin.clear_, run_underlying h2, hz3, hzc, hst]
   ·simp at h
  ·simp at h
 ·simp at h

end Go.Ac
end

section
namespace Go.Ac
variable {P : Program} {S : Nat → Prop} {m : M}

theorem bnd_some [Gl] {x : V} {b : Value} {dflt q y : Nat} {code : BoundsCode} {w : World} (h : bnd (some x) dflt = some q) (hx : RV S m x b) (hq : q ≤ y) : (Instr.sliceBound b y code).run P w = .ok q w := by
 unfold bnd at h
 split at h
 ·rename_i h'; cases h'
 ·rename_i k i h'
  injection h' with h'; subst h'
  split at h
  ·rename_i h0
   simp at h; subst h
   obtain rfl : b = .int k i := by
    cases hx with
    | d hd => cases hd; rfl
   exact run_sliceBound _ k i y code h0 (by omega)
  ·simp at h
 ·simp at h

theorem bnd_dflt (x : V) (a b : Nat) : bnd (some x) a = bnd (some x) b := by
 cases x with
 | d x => cases x <;> rfl
 | _ => rfl

/-- An operand that may be left out. -/
inductive RO [Gl] (S : Nat → Prop) (m : M) : Option V → Option Value → Prop
 | none : RO S m none none
 | some {x : V} {v : Value} (h : RV S m x v) : RO S m (some x) (some v)

theorem RO.map [Gl] {ρ : Operand → V} {σ : Operand → Value} (h : ∀ x, RV S m (ρ x) (σ x)) (o : Option Operand) : RO S m (o.map ρ) (o.map σ) := by
 cases o with
 | none => exact .none
 | some x => exact .some (h x)

theorem run_bounds [Gl] {isS : Bool} {len cap l h mm : Nat} {lo hi mx : Option V} {vlo vhi vmx : Option Value} {w : World} (h1 : RO S m lo vlo) (h2 : RO S m hi vhi) (h3 : RO S m mx vmx) (e1 : bnd lo 0 = some l) (e2 : bnd hi len = some h)
  (e3 : bnd mx cap = some mm) (hlh : l ≤ h) (hhm : h ≤ mm) (hmc : mm ≤ cap) (hno : mx.isSome = true → hi.isSome = true) : (Instr.sliceBounds isS len cap vlo vhi vmx).run P w = .ok (l, h, mm) w := by
 unfold Instr.sliceBounds
 cases h3 with
 | none =>
  simp [bnd] at e3; subst e3
  cases h2 with
  | none =>
   simp [bnd] at e2; subst e2
   cases h1 with
   | none => simp [bnd] at e1; subst e1; simp
   | some hl => simp [bnd_some (P := P) e1 hl hlh]
  | some hh =>
   cases h1 with
   | none => simp [bnd] at e1; subst e1; simp [bnd_some (P := P) e2 hh hhm]
   | some hl => simp [bnd_some (P := P) e2 hh hhm, bnd_some (P := P) e1 hl hlh]
 | some hm =>
  cases h2 with
  | none => simp at hno
  | some hh =>
   cases h1 with
   | none => simp [bnd] at e1; subst e1; simp [bnd_some (P := P) e3 hm hmc, bnd_some (P := P) e2 hh hhm]
   | some hl => simp [bnd_some (P := P) e3 hm hmc, bnd_some (P := P) e2 hh hhm, bnd_some (P := P) e1 hl hlh]

theorem RD.slice_inv [Gl] {w : World} {av : Nat → Prop} {rows : List (List D)} {v : Value} (h : RD w av (.slice rows) v) : ∃ a k, v = .slice a rows.length k ∧ rows.length ≤ k ∧ k ≤ maxLen := by
 cases h with
 | empty a cap h => exact ⟨a, cap, rfl, Nat.zero_le _, h⟩
 | slice rows b off cap sz hlen hcap hsz f hf hr => exact ⟨_, cap, rfl, hlen, hcap⟩

/-- Part of a slice of data. -/
theorem RD.sub [Gl] {w : World} {av : Nat → Prop} {rows : List (List D)} {a : Option Addr} {k l h mm sz : Nat} (hd : RD w av (.slice rows) (.slice a rows.length k)) (hlh : l ≤ h) (hhr : h ≤ rows.length) (hhm : h ≤ mm) (hmk : mm ≤ k)
  (hsz : rows ≠ [] → ∀ r ∈ rows, r.length = sz) : RD w av (.slice ((rows.take h).drop l)) (.slice (if mm = l then a else a.map (·.add (l * sz))) (h - l) (mm - l)) := by
 have hlen : ((rows.take h).drop l).length = h - l := by simp; omega
 cases hd with
 | empty a cap hc =>
  have : (([] : List (List D)).take h).drop l = [] := by simp
  rw [this]
  simp at hhr; subst hhr
  simp at hlh; subst hlh
  exact .empty _ _ (by omega)
 | slice rows b off cap sz' hl hc hs f hf hr =>
  by_cases h0 : l = h
  ·subst h0
   have : (rows.take l).drop l = [] := List.length_eq_zero_iff.1 (by simp)
   rw [this, Nat.sub_self]
   exact .empty _ _ (by omega)
  ·rw [if_neg (by omega)]
   have hne : rows ≠ [] := by intro h'; subst h'; simp at hhr; omega
   have hss : sz' = sz := by
    obtain ⟨r0, rest, rfl⟩ := List.exists_cons_of_ne_nil hne
    rw [← hs 0 r0 rfl]; exact hsz hne r0 (by simp)
   subst hss
   simp only [Option.map_some, addr_add]
   have get : ∀ (i : Nat) (r : List D), ((rows.take h).drop l)[i]? = some r → rows[l + i]? = some r := by
    intro i r hi
    rw [List.getElem?_drop, List.getElem?_take] at hi
    split at hi
    ·exact hi
    ·simp at hi
   have := RD.slice (w := w) (av := av) ((rows.take h).drop l) b (off + l * sz') (mm - l) sz' (by rw [hlen]; omega) (by omega) (fun i r hi => hs _ r (get i r hi)) (fun i j => f (l + i) j)
    (fun i j r d hi hj => by
     obtain ⟨q1, q2⟩ := hf _ j r d (get i r hi) hj
     refine ⟨q1, ?_⟩
     rw [← q2, Nat.add_mul]; congr 2; omega)
    (fun i j r d hi hj => hr _ j r d (get i r hi) hj)
   rw [hlen] at this
   exact this

theorem run_slice_s {t e : TypeId} {j : TypeInfo} {a : Option Addr} {len cap l h mm : Nat} {lo hi mx : Option Value} {w : World} (h2 : P.underlying t = some (.slice e)) (hj : P.info? e = some j)
  (hb : (Instr.sliceBounds true len cap lo hi mx).run P w = .ok (l, h, mm) w) : (Instr.sliceAt t (.slice a len cap) lo hi mx).run P w = .ok (.slice (if mm = l then a else a.map (·.add (l * j.size))) (h - l) (mm - l)) w := by
 simp only [Instr.sliceAt, Sem.run_bind, run_underlying h2, Result.andThen_ok, Instr.slice, hb, run_sizeOf' hj, Sem.run_pure]

theorem osl_sub [Gl] {id g off len sz : Nat} {cap : Option Nat} {v : Value} {o : Ob} (hv : RV S m (.osl id g off len sz cap) v) (hl : live m.h id g = some o) (hR : Rel S m) {l h : Nat} (hlh : l ≤ h) (hhq : h ≤ len ∨ ∃ q, cap = some q ∧ h ≤ q) :
  ∃ a k, v = .slice a len k ∧ len ≤ k ∧ (∀ q, cap = some q → k = q ∧ m.at_ id ≠ none ∧ off + q * sz ≤ o.cells.length) ∧ off + len * sz ≤ o.cells.length ∧
   ∀ mm, h ≤ mm → mm ≤ k → ∀ cap', (cap' = none ∨ (cap' = some (mm - l) ∧ m.at_ id ≠ none ∧ off + mm * sz ≤ o.cells.length)) →
    RV S m (.osl id g (off + l * sz) (h - l) sz cap') (.slice (if mm = l then a else a.map (·.add (l * sz))) (h - l) (mm - l)) := by
 obtain ⟨ho, hgen, hok⟩ := hv.osl_live hl
 have hiss : m.iss id g := by cases hv with | osl h1 _ _ => exact h1
 unfold OslOK at hok
 cases hat : m.at_ id with
 | none =>
  simp only [hat] at hok
  obtain ⟨rfl, rfl, rfl, a, rfl⟩ := hok
  refine ⟨a, 0, rfl, Nat.le_refl _, (fun q hq => by cases hq), by simp, fun mm h1 h2 cap' hc => .osl hiss rfl fun o2 ho2 hg2 => ⟨by rw [ho] at ho2; injection ho2 with h'; subst h'; exact hv.osl_kind hl, ?_⟩⟩
  have hh0 : h = 0 := by
   rcases hhq with h' | ⟨q, hq, _⟩
   ·omega
   ·cases hq
  subst hh0
  have hl0 : l = 0 := by omega
  have hm0 : mm = 0 := by omega
  subst hl0; subst hm0
  unfold OslOK
  rw [hat]
  rcases hc with rfl | ⟨_, hc, _⟩
  ·simp
  ·exact absurd rfl hc
 | some bb =>
  obtain ⟨b0, base⟩ := bb
  simp only [hat] at hok
  obtain ⟨p, k, rfl, hp, k2, k3, k4, ⟨cs, T, fz, k5, k6⟩, k7⟩ := hok
  refine ⟨some p, k, rfl, k3, ?_, k2, fun mm h1 h2 cap' hc => .osl hiss rfl fun o2 ho2 hg2 => ⟨by rw [ho] at ho2; injection ho2 with h'; subst h'; exact hv.osl_kind hl, ?_⟩⟩
  ·rintro q rfl; exact ⟨k7.1, by simp, k7.2⟩
  have : o2 = o := by rw [ho] at ho2; injection ho2 with h; exact h.symm
  subst this
  unfold OslOK
  rw [hat]
  have m1 : (off + l * sz) + (h - l) * sz = off + h * sz := by
   have : h * sz = l * sz + (h - l) * sz := by rw [← Nat.add_mul]; congr 1; omega
   omega
  have m2 : (off + l * sz) + (mm - l) * sz = off + mm * sz := by
   have : mm * sz = l * sz + (mm - l) * sz := by rw [← Nat.add_mul]; congr 1; omega
   omega
  have m3 : mm * sz ≤ k * sz := Nat.mul_le_mul_right _ h2
  have hhb : off + h * sz ≤ o2.cells.length := by
   rcases hhq with h' | ⟨q, rfl, h'⟩
   ·have : h * sz ≤ len * sz := Nat.mul_le_mul_right _ h'; omega
   ·have : h * sz ≤ q * sz := Nat.mul_le_mul_right _ h'; have := k7.2; omega
  have hpp : ∃ p', (if mm = l then some p else (some p).map (·.add (l * sz))) = some p' ∧ (p' = ⟨b0, base + (off + l * sz), none⟩ ∨ (h - l = 0 ∧ mm - l = 0)) := by
   split
   ·rename_i he; exact ⟨p, rfl, .inr ⟨by omega, by omega⟩⟩
   ·rename_i he
    rcases hp with rfl | ⟨rfl, rfl⟩
    ·refine ⟨_, rfl, .inl ?_⟩
     show (⟨b0, base + off, none⟩ : Addr).add (l * sz) = _
     rw [addr_add, Nat.add_assoc]
    ·have hq0 : h = 0 := by
      rcases hhq with h' | ⟨q, rfl, h'⟩
      ·omega
      ·have := k7.1; omega
     exact ⟨_, rfl, .inr ⟨by omega, by omega⟩⟩
  obtain ⟨p', hp1, hp2⟩ := hpp
  refine ⟨p', mm - l, by rw [hp1], hp2, by omega, by omega, by omega, ⟨cs, T, fz, k5, by omega⟩, ?_⟩
  rcases hc with rfl | ⟨rfl, _, hc⟩
  ·trivial
  ·exact ⟨rfl, by omega⟩

theorem sliceV_sound [Gl] {t : TypeId} {i : TI} {x : V} {lo hi mx : Option V} {r : Res} {v : Value} {vlo vhi vmx : Option Value} {c : Nat} (hti : mkTI P t = some i) (h : sliceV m.h i x lo hi mx = some r) (hR : Rel S m)
  (hv : RV S m x v) (h1 : RO S m lo vlo) (h2 : RO S m hi vhi) (h3 : RO S m mx vmx) (hno : mx.isSome = true → hi.isSome = true) :
  ∃ z, (Instr.sliceAt t v vlo vhi vmx).run P m.w = .ok z m.w ∧ After S m c r z m := by
 obtain ⟨inf, d, i1, i2, i3, _⟩ := mkTI_spec hti
 unfold sliceV at h
 split at h
 ·-- a string
  rename_i s hk
  rw [hk] at i3
  have hd := mkTK_str i3; subst hd
  split at h
  ·rename_i l hh e1 e2
   split at h
   ·rename_i hc
    simp [ret] at h; subst h
    cases hv with
    | d hd =>
     cases hd with
     | str bs l' hbs =>
      have hlen : bs.size = s.length := by rw [← hbs, Array.length_toList]; rfl
      have hb := run_bounds (P := P) (w := m.w) (isS := false) (len := bs.size) (cap := bs.size) (l := l) (h := hh) (mm := bs.size) h1 h2 .none e1 (by rw [hlen]; exact e2) (by simp [bnd]) hc.1 (by omega) (Nat.le_refl _) (fun h => by simp at h)
      cases h3
      refine ⟨.string (bs.extract l hh), ?_, After.quiet hR (.d (.str _ _ ?_))⟩
      ·simp [Instr.sliceAt, run_underlying i2, Instr.slice, hb]
      ·rw [ByteArray.data_extract, Array.toList_extract, hbs]
       rw [List.drop_take]
   ·simp at h
  ·simp at h
 ·-- a slice of data
  rename_i e sz by_ rows hk
  rw [hk] at i3
  obtain ⟨rfl, j, hj, hjs, _⟩ := mkTK_slice i3
  cases hv with
  | d hd =>
   obtain ⟨a, k, rfl, hk1, hk2⟩ := hd.slice_inv
   split at h
   ·rename_i l hh e1 e2
    split at h
    ·rename_i hc
     simp [ret] at h; subst h
     cases h3
     have hb := run_bounds (P := P) (w := m.w) (isS := true) (len := rows.length) (cap := k) (l := l) (h := hh) (mm := k) h1 h2 .none e1 e2 (by simp [bnd]) hc.1 (by omega) (Nat.le_refl _) (fun h => by simp at h)
     refine ⟨_, run_slice_s i2 hj hb, After.quiet hR (.d ?_)⟩
     rw [hjs]
     exact hd.sub hc.1 hc.2.1 (by omega) (Nat.le_refl _) (fun _ => allbeq hc.2.2)
    ·simp at h
   ·rename_i l hh q e1 e2
    split at h
    ·rename_i q' e3
     split at h
     ·rename_i hc
      simp [ret] at h; subst h
      have hb := run_bounds (P := P) (w := m.w) (isS := true) (len := rows.length) (cap := k) (l := l) (h := hh) (mm := q') h1 h2 h3 e1 e2 (by rw [bnd_dflt _ _ 0]; exact e3) hc.1 (by omega) (by omega) hno
      refine ⟨_, run_slice_s i2 hj hb, After.quiet hR ?_⟩
      rw [hjs]
      have := hd.sub (l := l) (h := hh) (mm := q') hc.1 (by omega) (by omega) (by omega) (fun _ => allbeq hc.2.2.2)
      have e4 : q' = hh := hc.2.1.symm
      subst e4
      have hlen : ((rows.take q').drop l).length = q' - l := by simp; omega
      have := RV.full (S := S) (m := m) (rows := (rows.take q').drop l) (a := if q' = l then a else a.map (·.add (l * sz))) (by rw [hlen]; exact this)
      rw [hlen] at this
      exact this
     ·simp at h
    ·simp at h
   ·simp at h
 ·rename_i e sz by_ rows hk
  rw [hk] at i3
  obtain ⟨rfl, j, hj, hjs, _⟩ := mkTK_slice i3
  split at h
  ·rename_i l hh e1 e2
   split at h
   ·rename_i hc
    cases hv with
    | full hd =>
     simp [ret] at h; subst h
     rename_i a
     cases h3
     have hb := run_bounds (P := P) (w := m.w) (isS := true) (len := rows.length) (cap := rows.length) (l := l) (h := hh) (mm := rows.length) h1 h2 .none e1 e2 (by simp [bnd]) hc.1 (by omega) (Nat.le_refl _) (fun h => by simp at h)
     refine ⟨_, run_slice_s i2 hj hb, After.quiet hR ?_⟩
     rw [hjs]
     have := hd.sub (l := l) (h := hh) (mm := rows.length) hc.1 hc.2.1 (by omega) (Nat.le_refl _) (fun _ => allbeq hc.2.2)
     split
     ·rename_i hh'
      subst hh'
      have hlen : (rows.drop l).length = rows.length - l := by simp
      have e5 : (rows.take rows.length).drop l = rows.drop l := by rw [List.take_length]
      rw [e5] at this
      have := RV.full (S := S) (m := m) (rows := rows.drop l) (a := if rows.length = l then a else a.map (·.add (l * sz))) (by rw [hlen]; exact this)
      rw [hlen] at this
      exact this
     ·exact .d this
   ·simp at h
  ·simp at h
 ·-- a slice of an object
  rename_i e sz by_ id g off len sz' cap hk
  rw [hk] at i3
  obtain ⟨rfl, j, hj, hjs, _⟩ := mkTK_slice i3
  split at h
  ·rename_i o l hh hl hbeq e1 e2
   have hss : sz = sz' := Nat.eq_of_beq_eq_true hbeq
   subst hss
   by_cases hc : l ≤ hh ∧ hh ≤ cap.getD len
   ·rw [if_pos hc] at h
    simp only [retR, Option.some.injEq] at h; subst h
    obtain ⟨a, k, rfl, k1, k2, k3, k4⟩ := osl_sub hv hl hR (l := l) (h := hh) hc.1 (by
     cases cap with
     | none => exact .inl hc.2
     | some q => exact .inr ⟨q, rfl, hc.2⟩)
    cases h3
    have hhk : hh ≤ k := by
     cases cap with
     | none => have := hc.2; simp at this; omega
     | some q => have := (k2 q rfl).1; have := hc.2; simp at this; omega
    have hb := run_bounds (P := P) (w := m.w) (isS := true) (len := len) (cap := k) (l := l) (h := hh) (mm := k) h1 h2 .none e1 e2 (by simp [bnd]) hc.1 hhk (Nat.le_refl _) (fun h => by simp at h)
    refine ⟨_, run_slice_s i2 hj hb, After.quiet hR ?_⟩
    rw [hjs]
    refine k4 k hhk (Nat.le_refl _) _ ?_
    cases cap with
    | none => exact .inl rfl
    | some q =>
     obtain ⟨q1, q2, q3⟩ := k2 q rfl
     subst q1
     exact .inr ⟨rfl, q2, q3⟩
   ·rw [if_neg hc] at h; simp at h
  ·rename_i o l hh q hl hbeq e1 e2
   have hss : sz = sz' := Nat.eq_of_beq_eq_true hbeq
   subst hss
   split at h
   ·rename_i qq e3
    by_cases hc : l ≤ hh ∧ hh ≤ qq ∧ qq ≤ cap.getD len
    ·rw [if_pos hc] at h
     simp only [retR, Option.some.injEq] at h; subst h
     obtain ⟨a, k, rfl, k1, k2, k3, k4⟩ := osl_sub hv hl hR (l := l) (h := hh) hc.1 (by
      cases cap with
      | none => have := hc.2.2; simp at this; exact .inl (by omega)
      | some q' => have := hc.2.2; simp at this; exact .inr ⟨q', rfl, by omega⟩)
     have hqk : qq ≤ k ∧ off + qq * sz ≤ o.cells.length := by
      cases cap with
      | none =>
       have := hc.2.2; simp at this
       have m3 : qq * sz ≤ len * sz := Nat.mul_le_mul_right _ this
       exact ⟨by omega, by omega⟩
      | some q' =>
       have := hc.2.2; simp at this
       obtain ⟨q1, q2, q3⟩ := k2 q' rfl
       have m3 : qq * sz ≤ q' * sz := Nat.mul_le_mul_right _ this
       exact ⟨by omega, by omega⟩
     have hb := run_bounds (P := P) (w := m.w) (isS := true) (len := len) (cap := k) (l := l) (h := hh) (mm := qq) h1 h2 h3 e1 e2 (by rw [bnd_dflt _ _ 0]; exact e3) hc.1 hc.2.1 hqk.1 hno
     refine ⟨_, run_slice_s i2 hj hb, After.quiet hR ?_⟩
     rw [hjs]
     refine k4 qq hc.2.1 hqk.1 _ ?_
     split
     ·exact .inl rfl
     ·rename_i hne
      refine .inr ⟨rfl, fun hat => ?_, hqk.2⟩
      have := hR.none_ id o (hv.osl_live hl).1 hat
      rw [this] at hne; simp at hne
    ·rw [if_neg hc] at h; simp at h
   ·simp at h
  ·simp at h
 ·-- a slice of an array in an object
  rename_i n e sz ag id g off hk
  rw [hk] at i3
  obtain ⟨rfl, jj, u, hj, _, hjs, _⟩ := mkTK_array i3
  split at h
  ·rename_i o l hh hl e1 e2
   by_cases hc : l ≤ hh ∧ hh ≤ n ∧ n ≤ 16777216 ∧ off + n * sz ≤ o.cells.length
   ·rw [if_pos hc] at h
    simp only [retR, Option.some.injEq] at h; subst h
    obtain ⟨ho, hgen, b0, base, hat, rfl⟩ := hv.ptr_live hl
    have hiss : m.iss id g := by cases hv with | ptr h1 _ _ => exact h1
    have hkind := hv.ptr_kind hl
    cases h3
    have hb := run_bounds (P := P) (w := m.w) (isS := false) (len := n) (cap := n) (l := l) (h := hh) (mm := n) h1 h2 .none e1 e2 (by simp [bnd]) hc.1 hc.2.1 (Nat.le_refl _) (fun h => by simp at h)
    obtain ⟨_, cs, T, fz, hrow, hfz, hsz2, _⟩ := hR.cellsAt hkind ho hat
    have m1 : (off + l * sz) + (hh - l) * sz = off + hh * sz := by
     have : hh * sz = l * sz + (hh - l) * sz := by rw [← Nat.add_mul]; congr 1; omega
     omega
    have m2 : (off + l * sz) + (n - l) * sz = off + n * sz := by
     have : n * sz = l * sz + (n - l) * sz := by rw [← Nat.add_mul]; congr 1; omega
     omega
    have m3 : hh * sz ≤ n * sz := Nat.mul_le_mul_right _ hc.2.1
    refine ⟨.slice (some (if n = l then (⟨b0, base + off, none⟩ : Addr) else (⟨b0, base + off, none⟩ : Addr).add (l * sz))) (hh - l) (n - l), ?_, After.quiet hR (.osl hiss rfl fun o2 ho2 hg2 => ⟨by rw [ho] at ho2; injection ho2 with h'; subst h'; exact hkind, ?_⟩)⟩
    ·simp [Instr.sliceAt, run_underlying i2, Instr.sureAddr, hb, sizeOf, typeInfo, hj, hjs]
    ·have : o2 = o := by rw [ho] at ho2; injection ho2 with h; exact h.symm
     subst this
     unfold OslOK
     rw [hat]
     refine ⟨_, n - l, rfl, ?_, by omega, by omega, by unfold maxLen; omega, ⟨cs, T, fz, hrow, by omega⟩, rfl, by omega⟩
     split
     ·exact .inr ⟨by omega, by omega⟩
     ·refine .inl ?_
      rw [addr_add, Nat.add_assoc]
   ·rw [if_neg hc] at h; simp at h
  ·simp at h
 ·-- all of a package's array
  rename_i n e sz ag ds hk
  rw [hk] at i3
  obtain ⟨rfl, jj, u, hj, _, hjs, _⟩ := mkTK_array i3
  split at h
  ·split at h
   ·rename_i hc
    simp [ret] at h; subst h
    cases hv with
    | vref f hf hr =>
     rename_i b off
     cases h1; cases h2; cases h3
     have hb := run_bounds (P := P) (w := m.w) (isS := false) (len := n) (cap := n) (l := 0) (h := n) (mm := n) (S := S) (m := m) .none .none .none (by simp [bnd]) (by simp [bnd]) (by simp [bnd]) (Nat.zero_le _) (Nat.le_refl _) (Nat.le_refl _) (fun h => by simp at h)
     refine ⟨.slice (some ⟨b, off, none⟩) n n, ?_, After.quiet hR ?_⟩
     ·have h0 : (⟨b, off, none⟩ : Addr).add 0 = ⟨b, off, none⟩ := rfl
      simp [Instr.sliceAt, run_underlying i2, Instr.sureAddr, hb, sizeOf, typeInfo, hj, hjs, h0]
     ·have hrl : ((List.range n).map fun i => (ds.drop (i * sz)).take sz).length = n := by simp
      have key : RD m.w (m.av S) (.slice ((List.range n).map fun i => (ds.drop (i * sz)).take sz)) (.slice (some ⟨b, off, none⟩) ((List.range n).map fun i => (ds.drop (i * sz)).take sz).length n) := by
       have get : ∀ (i j : Nat) (r : List D) (d : D), ((List.range n).map fun i => (ds.drop (i * sz)).take sz)[i]? = some r → r[j]? = some d → ds[i * sz + j]? = some d := fun i j r d hi hjd => by
        rw [List.getElem?_map, Option.map_eq_some_iff] at hi
        obtain ⟨i', hi', rfl⟩ := hi
        rw [List.getElem?_range] at hi'
        ·simp only [Option.some.injEq] at hi'; subst hi'
         rw [List.getElem?_take] at hjd
         split at hjd
         ·rwa [List.getElem?_drop] at hjd
         ·cases hjd
        ·have := (List.getElem?_eq_some_iff.1 hi').1
         simpa using this
       refine .slice _ b off n sz (by rw [hrl]; exact Nat.le_refl _) (by unfold maxLen; omega) (fun i r hi => ?_) (fun i j => f (i * sz + j)) (fun i j r d hi hjd => hf _ d (get i j r d hi hjd)) fun i j r d hi hjd => hr _ d (get i j r d hi hjd)
       have hin : i < n := by
        have := (List.getElem?_eq_some_iff.1 hi).1
        simpa using this
       rw [List.getElem?_map, Option.map_eq_some_iff] at hi
       obtain ⟨i', hi', rfl⟩ := hi
       rw [List.getElem?_range hin] at hi'
       simp only [Option.some.injEq] at hi'; subst hi'
       have : i * sz + sz ≤ n * sz := by rw [← Nat.succ_mul]; exact Nat.mul_le_mul_right _ hin
       simp; omega
      rw [hrl] at key
      exact .d key
   ·cases h
  ·cases h
 ·simp at h

end Go.Ac
end
