/- The abstract machine: copy, make, slicing, indexing, composite values. No conditions. -/
import Derived.Test.YtofbmhmdpeclnaaAbH
import Derived.Laws.Strings
set_option linter.unusedVariables false
set_option linter.unusedSimpArgs false
namespace Go.Ab
variable {P : Program} {S : Nat → Prop} {m : M}

theorem copyV_sound {t ty : TypeId} {i : TI} {s x : V} {r : Res} {v y : Value} {c : Nat} (hi : mkTI P t = some i) (h : copyV m.h i s x = some r) (hR : Rel S m)
    (hv : RV S m s v) (hy : RV S m x y) : ∃ z m', (Builtin.copy_ #[t, t] ty #[v, y]).run P m.w = .ok z m'.w ∧ After S m c r z m' := by
  obtain ⟨inf, d, h1, h2, h3, _⟩ := mkTI_spec hi
  unfold copyV at h
  split at h
  · rename_i e sz by_ id g off len sz' cap hk
    rw [hk] at h3
    obtain ⟨rfl, j, hj, hjs, hjb⟩ := mkTK_slice h3
    split at h
    · rename_i mm xs rx o hrows hl hbeq
      split at h
      · rename_i hro hle
        simp only [Option.some.injEq] at h; subst h
        have hsz' : sz = sz' := Nat.eq_of_beq_eq_true hbeq
        subst hsz'
        have hle' := Nat.le_of_ble_eq_true hle
        obtain ⟨b, kb, rfl, hb1, hb2, ys, hys, hyl, hyo, hyn, hyc⟩ := rowsOf_sound hrows hy hR
        have hysl : ys.length = mm * sz := by rw [← hys.1, hyl]
        obtain ⟨ho, hgen, hok⟩ := hv.osl_live hl
        have hmin : min mm len * sz ≤ mm * sz := Nat.mul_le_mul_right _ (Nat.min_le_left _ _)
        have hmin2 : min mm len * sz ≤ len * sz := Nat.mul_le_mul_right _ (Nat.min_le_right _ _)
        have hfirst : (Builtin.firstCells sz (min mm len) (.slice b mm kb)).run P m.w = .ok (ys.take (min mm len * sz)).toArray m.w := by
          refine first_run (P := P) m.w (by simp; omega) (fun hb => by have := hyn hb; omega) (fun p hp jj yy hjj => ?_) mm
          rw [List.getElem?_take] at hjj
          split at hjj
          · exact hyc p hp jj yy hjj
          · simp at hjj
        have hnat : Nat.min mm len = min mm len := rfl
        unfold OslOK at hok
        cases hat : m.at_ id with
        | none =>
          simp only [hat] at hok
          obtain ⟨rfl, rfl, _, a, rfl⟩ := hok
          have hn := hR.none_ id o ho hat
          have hid : (⟨g, false, o.cells.take 0 ++ xs.take (min mm 0 * sz) ++ o.cells.drop (0 + min mm 0 * sz)⟩ : Ob) = o := by
            cases o; simp at hn hgen hro; subst hn; subst hgen; subst hro; simp
          have e0 : min mm 0 = 0 := by omega
          rw [e0]
          refine ⟨goInt 0, m, ?_, hR, .refl S m, .d (.int .i64 0), ?_, (iss_zero m c).symm⟩
          · have hf0 : (Builtin.firstCells sz 0 (.slice b mm kb)).run P m.w = .ok #[] m.w := by simpa using hfirst
            have hn0 : mm.min 0 = 0 := e0
            cases a with
            | none => simp [Builtin.copy_, run_underlying h2, Builtin.lenOf, sizeOf, typeInfo, hj, hjs, hn0, hf0]
            | some p =>
              have hst : (storeCells p [] 0).run P m.w = .ok () m.w := rfl
              simp [Builtin.copy_, run_underlying h2, Builtin.lenOf, sizeOf, typeInfo, hj, hjs, hn0, hf0, hst]
          · show m.h = upd m.h id (some _)
            rw [e0] at hid
            rw [hid]; funext q; unfold upd; split
            · rename_i hq; rw [hq]; exact ho
            · rfl
        | some bb =>
          obtain ⟨b0, base⟩ := bb
          simp only [hat] at hok
          obtain ⟨p, k, rfl, hp, k2, k3, k4, ⟨cs, T, fz, k5, k6⟩, k7⟩ := hok
          obtain ⟨hS, cs0, T0, fz0, hrow, hfz, hsz, hc⟩ := hR.obj id o b0 base ho hat
          have htk : (ys.take (min mm len * sz)).length = min mm len * sz := by simp; omega
          have hst : (storeCells p (ys.take (min mm len * sz)) 0).run P m.w = .ok () (m.w.setRow b0 (splice cs0 (base + off) (ys.take (min mm len * sz)))) := by
            rcases hp with rfl | ⟨rfl, rfl⟩
            · have := run_storeCells_mid (P := P) b0 (base + off) T0 fz0 hfz (ys.take (min mm len * sz)) 0 cs0 m.w hrow (by omega) (fun v hv => (hys.ones hyo) v (List.mem_of_mem_take hv))
              simpa using this
            · have : (ys.take (min mm 0 * sz)) = [] := by simp
              rw [this]
              simp only [storeCells, splice, List.length_nil, Nat.add_zero, List.append_nil, List.take_append_drop, Array.toArray_toList]
              rw [setRow_self hrow]; rfl
          have hspl : (splice cs0 (base + off) (ys.take (min mm len * sz))).size = cs0.size := splice_size (by omega)
          have hxt := hys.take (min mm len * sz)
          obtain ⟨m', w1, w2, w3, w4, w5, w6⟩ := write_obj (c := c) (dc := 0) (w' := m.w.setRow b0 (splice cs0 (base + off) (ys.take (min mm len * sz))))
            (o' := ⟨g, false, o.cells.take off ++ xs.take (min mm len * sz) ++ o.cells.drop (off + min mm len * sz)⟩) hR ho hat hro hrow rfl (base' := base) hspl (by
              rw [hspl]; simp [hyl]; omega) (.inl ⟨hgen.symm, rfl, by simp [hyl]; omega, rfl⟩) (by
              intro jj u hu
              simp only [List.append_assoc] at hu
              rw [List.getElem?_append] at hu
              have htl : (List.take off o.cells).length = off := by simp; omega
              rw [htl] at hu
              split at hu
              · rename_i hjj
                rw [List.getElem?_take, if_pos hjj] at hu
                obtain ⟨q1, y1, q2, q3⟩ := hc jj u hu
                exact ⟨q1, y1, by rw [splice_get (by omega), if_pos (by omega)]; exact q2, q3⟩
              · rename_i hjj
                rw [List.getElem?_append] at hu
                split at hu
                · rename_i hjj2
                  obtain ⟨y1, q1, q2⟩ := hxt.get hu
                  have hl1 := (List.getElem?_eq_some_iff.1 q1).1
                  refine ⟨List.all_eq_true.1 hyo u (List.mem_of_mem_take (List.mem_of_getElem? hu)), y1, ?_, q2⟩
                  rw [splice_get (by omega), if_neg (by omega), if_pos (by omega), show base + jj - (base + off) = jj - off by omega]
                  exact q1
                · rename_i hjj2
                  rw [List.getElem?_drop] at hu
                  have hxl : (List.take (min mm len * sz) xs).length = min mm len * sz := by rw [List.length_take, hyl]; omega
                  obtain ⟨q1, y1, q2, q3⟩ := hc _ u hu
                  refine ⟨q1, y1, ?_, q3⟩
                  rw [splice_get (by omega), if_neg (by omega), if_neg (by omega), ← q2]
                  congr 1; omega)
          refine ⟨goInt (min mm len : Nat), m', ?_, w5, w6, ?_, by rw [w2]; rfl, w4⟩
          · rw [w1]
            simp [Builtin.copy_, run_underlying h2, Builtin.lenOf, sizeOf, typeInfo, hj, hjs, hnat, hfirst, hst]
          · exact .d (.int _ _)
      · simp at h
    · simp at h
  · simp at h

theorem replicate_flatten {α : Type} [Inhabited α] (z : List α) (n : Nat) : (List.replicate n z).flatten = (List.range (n * z.length)).map (fun q => z[q % z.length]!) := by
  by_cases h0 : z.length = 0
  · have hz : z = [] := List.length_eq_zero_iff.1 h0
    subst hz
    apply List.length_eq_zero_iff.1
    rw [flatten_len 0 _ (fun r hr => by rw [List.eq_of_mem_replicate hr]; rfl)]; simp
  · have hpos : 0 < z.length := by omega
    apply List.ext_getElem?
    intro q
    rw [flatten_get z.length hpos _ (fun r hr => by rw [List.eq_of_mem_replicate hr])]
    by_cases hq : q < n * z.length
    · have h1 : q / z.length < n := Nat.div_lt_of_lt_mul (by rw [Nat.mul_comm]; exact hq)
      have h2 : q % z.length < z.length := Nat.mod_lt _ hpos
      simp [h1, hq, h2]
    · have h1 : ¬ q / z.length < n := by
        intro h
        have := (Nat.div_lt_iff_lt_mul hpos).1 h
        omega
      simp [h1, hq]

theorem zero_cells_RVs {z : List V} {v : Value} (h : z = v.cells.toList.map constV1) (q : Nat) : RVs S m (List.replicate q z).flatten (List.replicate q v.cells.toList).flatten := by
  have : (List.replicate q z).flatten = ((List.replicate q v.cells.toList).flatten).map constV1 := by
    rw [h, List.map_flatten, List.map_replicate]
  rw [this]
  exact constVs_RVs _

theorem all_replicate {z : List V} (h : z.all V.one = true) (q : Nat) : ((List.replicate q z).flatten).all V.one = true := by
  rw [List.all_eq_true] at h ⊢
  intro x hx
  obtain ⟨l, hl, hx'⟩ := List.mem_flatten.1 hx
  rw [List.eq_of_mem_replicate hl] at hx'
  exact h x hx'

theorem range_map_toArray (z : Array Value) (q : Nat) : (Array.range (q * z.size)).map (fun i => z[i % z.size]!) = ((List.replicate q z.toList).flatten).toArray := by
  rw [replicate_flatten]
  apply Array.ext'
  simp
  intro a _
  rw [getElem!_def]
  cases z[a % z.size]? <;> rfl

/-- A new row of slots. -/
theorem osl_new {n c len sz : Nat} {cap : Nat} {T : TypeId} {cs : List V} {ys : List Value} (hR : Rel S m) (hf : Fresh m c 1) (hys : RVs S m cs ys) (hone : cs.all V.one = true) (hl : cs.length = cap * sz) (hc : len ≤ cap) (hm : cap ≤ maxLen) {rd : List Nat} :
    ∃ m', (newRow T ys.toArray).run P m.w = .ok ⟨m.w.heap.size, 0, none⟩ m'.w ∧ After S m c ⟨.osl n c 0 len sz (some cap), [(n, ⟨c, false, cs⟩)], rd, 1, 1, false⟩ (.slice (some ⟨m.w.heap.size, 0, none⟩) len cap) m' := by
  obtain ⟨m', w1, w2, w3, w4, w5, w6, T', w7⟩ := new_sound (P := P) (T := T) hR hf hys hone
  refine ⟨m', w1, w5, w6, .osl (by rw [w4]; exact .inr ⟨Nat.le_refl _, by omega⟩) rfl fun o ho hg => ?_, by rw [w2]; rfl, w4⟩
  rw [w2] at ho; simp at ho; subst ho
  unfold OslOK
  rw [w3]
  have hmul : len * sz ≤ cap * sz := Nat.mul_le_mul_right _ hc
  refine ⟨_, cap, rfl, .inl rfl, by simp; omega, hc, hm, ⟨_, T', (0, 0), w7, by simp [← hys.1]; omega⟩, rfl, by simp; omega⟩

theorem makeV_sound {n c : Nat} {t e sz by_ : Nat} {i : TI} {l q : V} {r : Res} {u v : Value} (hi : mkTI P t = some i) (hk : i.k = .slice e sz by_) (h : makeV n c i (mkTI P e) l q = some r) (hR : Rel S m) (hf : Fresh m c r.dc)
    (hu : RV S m l u) (hv : RV S m q v) : ∃ z m', (Instr.makeSlice t u v).run P m.w = .ok z m'.w ∧ After S m c r z m' := by
  obtain ⟨inf, d, h1, h2, h3, _⟩ := mkTI_spec hi
  rw [hk] at h3
  obtain ⟨rfl, j, hj, hjs, hjb⟩ := mkTK_slice h3
  unfold makeV at h
  rw [hk] at h
  split at h
  · rename_i e' sz' by' l q hk'
    injection hk' with k1 k2 k3; subst k1; subst k2; subst k3
    split at h
    · rename_i ei hei
      split at h
      · rename_i z hz
        split at h
        · rename_i hcond
          obtain ⟨c1, c2, c3, c4, c5, c6, c7⟩ := hcond
          simp only [Option.some.injEq] at h; subst h
          obtain rfl : u = .int .i64 l := by
            cases hu with
            | d hu => cases hu; rfl
          obtain rfl : v = .int .i64 q := by
            cases hv with
            | d hv => cases hv; rfl
          obtain ⟨f1, f2, f3⟩ := fitsB_spec c4
          obtain ⟨hb, z0, hz0, hzs⟩ := hjb f1
          obtain ⟨zv, g1, g2, g3⟩ := zero_spec hei hz m.w
          have hzv : zv = z0 := by simp [hj, hz0] at g3; exact g3.symm
          subst hzv
          have hle : zv.cells.size = sz := hzs
          have hlen : ((List.replicate q.toNat z).flatten).length = q.toNat * sz := by
            rw [flatten_len sz _ (fun r hr => by rw [List.eq_of_mem_replicate hr]; exact c5)]; simp
          obtain ⟨m', w1, w2⟩ := osl_new (P := P) (T := e) (len := l.toNat) (cap := q.toNat) (sz := sz) (rd := []) hR hf (zero_cells_RVs g2 q.toNat) (all_replicate c7 _) hlen (by omega) (by unfold maxLen; omega)
          refine ⟨_, m', ?_, w2⟩
          have hw1 : IntKind.i64.wrap l = l := by
            unfold IntKind.wrap; simp [IntKind.bits, IntKind.signed]; omega
          have hw2 : IntKind.i64.wrap q = q := by
            unfold IntKind.wrap; simp [IntKind.bits, IntKind.signed]; omega
          have hq0 : ((q.toNat : Nat) : Int) = q := Int.toNat_of_nonneg (by omega)
          have hbq : ¬ (281474976710656 < (by_ : Int) * q) := by
            rw [← hq0]
            have : q.toNat * by_ ≤ 140737488355328 := f2
            have h' : ((q.toNat * by_ : Nat) : Int) = (by_ : Int) * (q.toNat : Int) := by rw [Int.natCast_mul, Int.mul_comm]
            omega
          have hrun : (newRow e (Array.map (fun x => zv.cells[x % zv.cells.size]!) (Array.range (q.toNat * sz)))).run P m.w = .ok ⟨m.w.heap.size, 0, none⟩ m'.w := by
            rw [← hle, range_map_toArray]; exact w1
          have hqn : q.toNat * sz = 0 ∨ ¬ (q.toNat * sz = 0) := Decidable.em _
          simp only [Instr.makeSlice, Sem.run_bind, run_underlying h2, Result.andThen_ok, asInt, asIntOf, Sem.run_pure, typeInfo, run_program, hj, hw1, hw2, hb]
          simp only [Bool.or_eq_true, decide_eq_true_eq, hbq, show ¬ q < 0 by omega, show ¬ l < 0 by omega, show ¬ l > q by omega, or_self, if_false, false_or, or_false]
          simp only [show ¬ ((by_ : Int) * q > 2 ^ 48) by simpa using hbq, if_false, run_askRoom, Result.andThen_ok, run_sizeOf' hj, hjs, g1, Sem.run_bind, Sem.run_pure]
          rcases hqn with hqn | hqn
          · simp only [hqn, if_true, Sem.run_pure, Result.andThen_ok]
            rw [hqn] at hrun
            have a0 : ∀ f : Nat → Value, Array.map f (Array.range 0) = #[] := fun f => by apply Array.ext'; simp
            rw [a0] at hrun
            simp [a0, hrun]
          · simp only [hqn, if_false, Sem.run_bind, g1, Sem.run_pure, Result.andThen_ok, hrun]
        · simp at h
      · simp at h
    · simp at h
  · simp at h

end Go.Ab
