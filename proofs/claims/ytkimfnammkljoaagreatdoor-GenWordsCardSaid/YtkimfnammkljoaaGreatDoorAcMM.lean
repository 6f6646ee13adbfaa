/- The abstract machine: an operation that calls no function does in the model what the abstract machine says. No conditions. -/
import Derived.Test.YtkimfnammkljoaaGreatDoorAcLb
set_option linter.unusedVariables false
set_option linter.unusedSimpArgs false
section
namespace Go.Ac
variable {P : Program} {S : Nat → Prop} {m : M}
def strCells (s : ByteArray) : List Value := s.data.toList.map fun b => .int .u8 b.toNat
theorem strCells_len (s : ByteArray) : (strCells s).length = s.size := by simp [strCells]
theorem first_str {sz : Nat} (s : ByteArray) (w : World) : (Builtin.firstCells sz s.size (.string s)).run P w = .ok (strCells s).toArray w := by
 have h : s.extract 0 s.size = s := by simp
 simp only [Builtin.firstCells, h, strCells]
 show Result.ok _ w = _
 congr 1
 apply Array.ext'; simp


theorem run_growS (t u ty e : TypeId) (i : TypeInfo) (z : Value) (w : World) (hu : P.underlying u = some .string) (ht : P.underlying t = some (.slice e)) (hi : P.info? e = some i) (hz : i.zero = some z)
  {a : Option Addr} {sLen sCap : Nat} {olds : List Value} {s : ByteArray} (hlo : olds.length = sLen * i.size) (ha : a = none → sLen = 0)
  (hold : ∀ p, a = some p → ∀ (j : Nat) (y : Value), olds[j]? = some y → w.cell? (p.add j) = some y)
  (hg : sCap < sLen + s.size) (h1 : 1 ≤ i.bytes) (hfit : (sLen + s.size) * i.bytes ≤ 140737488355328) :
  (Builtin.append_ #[t, u] ty #[.slice a sLen sCap, .string s]).run P w =
   .ok (.slice (some ⟨w.heap.size, 0, none⟩) (sLen + s.size) (grownCap w (sLen + s.size) sCap e))
    (w.drew.alloc (.cells (olds.toArray ++ (strCells s).toArray ++ Builtin.zeroCells z.cells (grownCap w (sLen + s.size) sCap e - (sLen + s.size))) e)) := by
 have hn : ¬ (sLen + s.size ≤ sCap) := by omega
 have h48 : ¬ (281474976710656 < Builtin.nextslicecap (sLen + s.size) sCap * i.bytes) := by have := growslice_fits hg hfit; omega
 have hbz : i.bytes ≠ 0 := by omega
 have hf := first_str (P := P) (sz := i.size) s w.drew
 have hfo := first_run (P := P) (k := sCap) (n' := sLen) w.drew hlo ha (by simpa using hold)
 simp [Builtin.append_, run_underlying ht, run_underlying hu, sizeOf, typeInfo, zeroValue, hi, hz, Builtin.lenOf, hn, h48, hbz, Question.forced, hf, hfo, newRow, grownCap]
 congr 2
 apply Array.ext'
 simp [List.append_assoc]

theorem run_inplaceS (t u ty e : TypeId) (i : TypeInfo) (w w' : World) (hu : P.underlying u = some .string) (ht : P.underlying t = some (.slice e)) (hi : P.info? e = some i)
  {p : Addr} {sLen sCap : Nat} {s : ByteArray}
  (hg : sLen + s.size ≤ sCap)
  (hst : (storeCells (p.add (sLen * i.size)) (strCells s)).run P w = .ok () w') :
  (Builtin.append_ #[t, u] ty #[.slice (some p) sLen sCap, .string s]).run P w = .ok (.slice (some p) (sLen + s.size) sCap) w' := by
 have hf := first_str (P := P) (sz := i.size) s w
 simp [Builtin.append_, run_underlying ht, run_underlying hu, sizeOf, typeInfo, hi, Builtin.lenOf, hg, hf, hst]

theorem run_inplaceS0 (t u ty e : TypeId) (i : TypeInfo) (w : World) (hu : P.underlying u = some .string) (ht : P.underlying t = some (.slice e)) (hi : P.info? e = some i) {s : ByteArray} (hs : s.size = 0) : (Builtin.append_ #[t, u] ty #[.slice none 0 0, .string s]).run P w = .ok (.slice none 0 0) w := by
 have hf : (Builtin.firstCells i.size 0 (.string s)).run P w = .ok (strCells s).toArray w := by
  have := first_str (P := P) (sz := i.size) s w
  rwa [hs] at this
 simp [Builtin.append_, run_underlying ht, run_underlying hu, sizeOf, typeInfo, hi, Builtin.lenOf, hs, hf]

theorem grow_objS [Gl] {id c sz n0 by_ : Nat} {t u ty e : TypeId} {i : TypeInfo} {z : Value} {a : Option Addr} {sCap : Nat} {vs us : List V} {xs : List Value} {s : ByteArray} (hR : Rel S m)
  (hu : P.underlying u = some .string) (ht : P.underlying t = some (.slice e)) (hi : P.info? e = some i) (hz : i.zero = some z) (hs1 : sz = 1) (hsz : i.size = sz) (hzs : z.cells.size = sz) (hby : i.bytes = by_) (hfit : fitsB (n0 + s.size) by_ = true)
  (hvs : RVs S m vs xs) (hus : RVs S m us (strCells s)) (hl0 : vs.length = n0 * sz) (hl1 : us.length = s.size * sz) (ho0 : vs.all V.one = true) (ho1 : us.all V.one = true)
  (ha : a = none → n0 = 0)
  (hca : ∀ p, a = some p → ∀ (j : Nat) (y : Value), xs[j]? = some y → m.w.cell? (p.add j) = some y)
  (hg : sCap < n0 + s.size) (hiss : ¬ m.iss id c) :
  ∃ x m', (Builtin.append_ #[t, u] ty #[.slice a n0 sCap, .string s]).run P m.w = .ok x m'.w ∧ Rel S m' ∧ Evo S m m' ∧ RV S m' (.osl id c 0 (n0 + s.size) sz none) x ∧ m'.h = upd m.h id (some ⟨c, false, vs ++ us⟩) ∧
   m'.iss = (fun i g => m.iss i g ∨ (c ≤ g ∧ g < c + 1)) := by
 obtain ⟨hb1, hb2, hb3⟩ := fitsB_spec hfit
 have hrun := run_growS (P := P) t u ty e i z m.w hu ht hi hz (a := a) (sLen := n0) (sCap := sCap) (olds := xs) (s := s) (by rw [hsz, ← hl0, hvs.1]) ha hca hg (by omega) (by rw [hby]; exact hb2)
 obtain ⟨hcap1, hcap2⟩ := grown_le m.w (need := n0 + s.size) (old := sCap) (e := e) (by omega)
 have hxl : xs.length = n0 * sz := by rw [← hvs.1, hl0]
 have hyl : (strCells s).length = s.size * sz := by rw [← hus.1, hl1]
 have hsum : (n0 + s.size) * sz = n0 * sz + s.size * sz := Nat.add_mul _ _ _
 obtain ⟨m', w1, w2, w3, w4, w5, w6⟩ := alloc_obj (id := id) (o' := ⟨c, false, vs ++ us⟩) (c := c) (dc := 1) (T := e)
  (cs' := xs.toArray ++ (strCells s).toArray ++ Builtin.zeroCells z.cells (grownCap m.w (n0 + s.size) sCap e - (n0 + s.size)))
  (w' := m.w.drew.alloc (.cells (xs.toArray ++ (strCells s).toArray ++ Builtin.zeroCells z.cells (grownCap m.w (n0 + s.size) sCap e - (n0 + s.size))) e)) hR rfl
  (by simp [zeroCells_size, hvs.1, hus.1]) hiss rfl rfl (by
   intro j v hv
   obtain ⟨y, h1, h2⟩ := (hvs.append hus).get hv
   have h3 : (vs ++ us).all V.one = true := by rw [List.all_append, ho0, ho1]; rfl
   refine ⟨List.all_eq_true.1 h3 v (List.mem_of_getElem? hv), y, ?_, h2⟩
   have hj : j < xs.length + (strCells s).length := by
    have := (List.getElem?_eq_some_iff.1 h1).1
    simpa using this
   have e1 : (xs.toArray ++ (strCells s).toArray)[j]? = some y := by
    rw [show xs.toArray ++ (strCells s).toArray = (xs ++ strCells s).toArray by simp]; simpa using h1
   rw [Array.getElem?_append]
   rw [if_pos (by simp; omega)]
   exact e1)
 refine ⟨_, m', by rw [w1]; exact hrun, w5, w6, ?_, w2, w4⟩
 refine .osl (by rw [w4]; exact .inr ⟨Nat.le_refl _, by omega⟩) rfl fun o ho hgen => ?_
 rw [w2] at ho; simp at ho; subst ho
 refine ⟨kind_of_one fun j v hv => ?_, ?_⟩
 ·have h3 : (vs ++ us).all V.one = true := by rw [List.all_append, ho0, ho1]; rfl
  exact List.all_eq_true.1 h3 v (List.mem_of_getElem? hv)
 unfold OslOK
 rw [w3]
 simp only [upd_same]
 refine ⟨_, _, rfl, .inl rfl, by simp [hl0, hl1]; omega, hcap1, hcap2, ⟨_, e, (0, 0), by rw [w1]; simp only [World.alloc]; exact Array.getElem?_push_size, ?_⟩, trivial⟩
 simp [zeroCells_size, hzs, hxl, hyl]
 have : (grownCap m.w (n0 + s.size) sCap e - (n0 + s.size)) * sz + (n0 + s.size) * sz = grownCap m.w (n0 + s.size) sCap e * sz := by rw [← Nat.add_mul]; congr 1; omega
 omega

theorem run_inplaceS00 (t u ty e : TypeId) (i : TypeInfo) (w : World) (hu : P.underlying u = some .string) (ht : P.underlying t = some (.slice e)) (hi : P.info? e = some i)
  {p : Addr} {s : ByteArray} (hs : s.size = 0) : (Builtin.append_ #[t, u] ty #[.slice (some p) 0 0, .string s]).run P w = .ok (.slice (some p) 0 0) w := by
 have h0 : strCells s = [] := List.length_eq_zero_iff.1 (by rw [strCells_len, hs])
 have := run_inplaceS t u ty e i w w hu ht hi (p := p) (sLen := 0) (sCap := 0) (s := s) (by omega) (by rw [h0]; simp [storeCells])
 rw [hs] at this
 exact this

theorem appendSV_sound [Gl] {n c : Nat} {t u ty : TypeId} {i ju : TI} {s x : V} {r : Res} {v y : Value} (hi : mkTI P t = some i) (hju : mkTI P u = some ju) (hjk : ju.k = .str) (h : appendSV m.h n c i s x = some r) (hR : Rel S m) (hf : Fresh m c r.dc)
  (hv : RV S m s v) (hy : RV S m x y) : ∃ z m', (Builtin.append_ #[t, u] ty #[v, y]).run P m.w = .ok z m'.w ∧ After S m c r z m' := by
 obtain ⟨inf, d, h1, h2, h3, _⟩ := mkTI_spec hi
 have hu : P.underlying u = some .string := by
  obtain ⟨_, du, _, u2, u3, _⟩ := mkTI_spec hju
  rw [hjk] at u3
  have := mkTK_str u3; subst this; exact u2
 unfold appendSV at h
 split at h
 ·rename_i e sz by_ l hk
  rw [hk] at h3
  obtain ⟨rfl, j, hj, hjs, hjb⟩ := mkTK_slice h3
  split at h
  ·rename_i hs1
   have hs1 : sz = 1 := Nat.eq_of_beq_eq_true hs1
   obtain ⟨bs, rfl, hbs⟩ : ∃ bs : ByteArray, y = .string bs ∧ bs.data.toList = l := by
    cases hy with
    | d hd => cases hd with | str bs l h => exact ⟨_, rfl, h⟩
   obtain ⟨mm, hmm⟩ : ∃ mm, mm = l.length := ⟨_, rfl⟩
   have hbl : bs.size = mm := by rw [hmm, ← hbs]; simp
   obtain ⟨xs, hxs⟩ : ∃ xs, xs = strRow l := ⟨_, rfl⟩
   obtain ⟨ys, hyse⟩ : ∃ ys, ys = strCells bs := ⟨_, rfl⟩
   rw [← hmm, ← hxs] at h
   have hyl : xs.length = mm * sz := by rw [hxs, hmm, hs1]; simp [strRow]
   have hys : RVs S m xs ys := by
    rw [hxs, hyse, ← hbs]
    refine ⟨by simp [strRow, strCells], fun k a b ha hb => ?_⟩
    simp only [strRow, strCells, List.getElem?_map, Option.map_eq_some_iff] at ha hb
    obtain ⟨q, hq, rfl⟩ := ha
    obtain ⟨q', hq', rfl⟩ := hb
    rw [hq] at hq'; cases hq'
    exact .d (.int _ _)
   have hyo : xs.all V.one = true := by
    rw [hxs]; simp [strRow, V.one]
   have hysl : ys.length = mm * sz := by rw [← hys.1, hyl]
   split at h
   ·-- a slice of which nothing is left
    rename_i rows
    split at h
    ·rename_i hall hfit hne
     simp only [Option.some.injEq] at h; subst h
     obtain ⟨a, ka, hva, ha1, ha2, xa, hxa, hxl, hxo, hxn, hxc⟩ := rowsOf_sound (sz := sz) (n := rows.length) (vs := rows.flatten.map .d) (rd := []) (by simp only [rowsOf]; rw [if_pos hall]) hv hR
     have hka : ka = rows.length := by
      cases hv with
      | full hd => simp at hva; exact hva.2.symm
     subst hka
     subst hva
     obtain ⟨hb, z, hz, hzs⟩ := hjb (fitsB_spec hfit).1
     by_cases hm : mm = 0
     ·subst hm
      have hr0 : rows = [] := by simpa [Nat.blt] using hne
      subst hr0
      have hys0 : ys = [] := List.length_eq_zero_iff.1 (by rw [hysl]; simp)
      have hxs0 : xs = [] := List.length_eq_zero_iff.1 (by rw [hyl]; simp)
      subst hys0; subst hxs0
      obtain ⟨m', w1, w2, w3, w4, w5, w6⟩ := virt_obj (id := n) (o' := ⟨c, false, []⟩) (c := c) (dc := 1) hR rfl (hf n c (Nat.le_refl _) (by simp)) rfl rfl
      refine ⟨.slice a 0 0, m', ?_, w5, w6, ?_, by rw [w2]; rfl, w4⟩
      ·cases a with
       | none => rw [w1]; simp only [List.length_nil]; exact run_inplaceS0 t u ty e j m.w hu h2 hj (s := bs) (by omega)
       | some p =>
        rw [w1]
        exact run_inplaceS00 t u ty e j m.w hu h2 hj (p := p) (s := bs) (by omega)
      ·refine .osl (by rw [w4]; exact .inr ⟨Nat.le_refl _, by omega⟩) rfl fun o ho hg => ?_
       refine ⟨by rw [w2, upd_same] at ho; simp only [Option.some.injEq] at ho; subst ho; rfl, ?_⟩
       unfold OslOK
       rw [w3]
       simp
     ·obtain ⟨z', m', g1, g2, g3, g4, g5, g6⟩ := grow_objS (id := n) (c := c) (sz := sz) (n0 := rows.length) (by_ := by_) (t := t) (u := u) (ty := ty) (e := e) (i := j) (z := z) (a := a) (sCap := rows.length) (s := bs) hR hu h2 hj hz hs1 hjs hzs hb (by rw [hbl]; exact hfit) hxa (hyse ▸ hys) hxl (by rw [hbl]; exact hyl) hxo hyo hxn hxc (by omega) (hf n c (Nat.le_refl _) (by simp))
      exact ⟨z', m', g1, g2, g3, by rw [← hbl]; exact g4, by rw [g5]; rfl, g6⟩
    ·simp at h
   ·rename_i id g off len sz' cap
    split at h
    ·rename_i o hl hbeq
     have hsz' : sz = sz' := Nat.eq_of_beq_eq_true hbeq
     subst hsz'
     split at h
     ·rename_i hfit hle
      have hle' := Nat.le_of_ble_eq_true hle
      obtain ⟨hb, z, hz, hzs⟩ := hjb (fitsB_spec hfit).1
      obtain ⟨ho, hgen, hok⟩ := hv.osl_live hl
      have hkind := hv.osl_kind hl
      obtain ⟨a, ka, hva, ha1, ha2, xa, hxa, hxl, hxo, hxn, hxc⟩ := rowsOf_sound (sz := sz) (n := len) (vs := (o.cells.drop off).take (len * sz)) (rd := [id]) (by simp only [rowsOf, hl, hbeq, hle]) hv hR
      have hsum : (len + mm) * sz = len * sz + mm * sz := Nat.add_mul _ _ _
      -- in place
      have inplace : ∀ (b0 base : Nat) (p : Addr) (k : Nat) (cs : Array Value) (T : TypeId) (fz : Nat × Nat), m.w.heap[b0]? = some (Obj.cells cs T fz) → (fz.2 = fz.1 ∨ cs.size ≤ fz.1) → v = .slice (some p) len k → (p = ⟨b0, base + off, none⟩ ∨ (len = 0 ∧ k = 0)) →
        len + mm ≤ k → base + off + (len + mm) * sz ≤ cs.size → (Builtin.append_ #[t, u] ty #[v, .string bs]).run P m.w = .ok (.slice (some p) (len + mm) k) (m.w.setRow b0 (splice cs (base + off + len * sz) ys)) := by
       intro b0 base p k cs T fz hrow hfz hvp hp hle2 hbound
       subst hvp
       rw [← hbl]
       refine run_inplaceS t u ty e j m.w _ hu h2 hj (by omega) ?_
       rw [hjs, ← hyse]
       rcases hp with rfl | ⟨rfl, rfl⟩
       ·have := run_storeCells_mid (P := P) b0 (base + off + len * sz) T fz hfz ys 0 cs m.w hrow (by omega) (hys.ones hyo)
        rw [addr_add]
        simpa using this
       ·have hm0 : mm = 0 := by omega
        subst hm0
        have : ys = [] := List.length_eq_zero_iff.1 (by rw [hysl]; simp)
        subst this
        simp only [storeCells, splice, List.length_nil, Nat.add_zero, List.append_nil, List.take_append_drop, Array.toArray_toList]
        rw [setRow_self hrow]
        rfl
      split at h
      ·-- the capacity is known
       rename_i q
       split at h
       ·rename_i hq hro hlq
        simp only [Option.some.injEq] at h; subst h
        have hq' := Nat.le_of_ble_eq_true hq
        have hlq' := Nat.le_of_ble_eq_true hlq
        unfold OslOK at hok
        cases hat : m.at_ id with
        | none => simp [hat] at hok
        | some bb =>
         obtain ⟨b0, base⟩ := bb
         simp only [hat] at hok
         obtain ⟨p, k, hvp, hp, k2, k3, k4, ⟨cs, T, fz, k5, k6⟩, k7, k8⟩ := hok
         subst k7
         obtain ⟨hS, cs0, T0, fz0, hrow, hfz, hsz, hc⟩ := hR.cellsAt hkind ho hat
         have hmul : (len + mm) * sz ≤ k * sz := Nat.mul_le_mul_right _ hq'
         have hrun := inplace b0 base p k cs0 T0 fz0 hrow hfz hvp hp hq' (by omega)
         have hspl : (splice cs0 (base + off + len * sz) ys).size = cs0.size := splice_size (by omega)
         obtain ⟨m', w1, w2, w3, w4, w5, w6⟩ := write_obj (c := c) (dc := 0) (w' := m.w.setRow b0 (splice cs0 (base + off + len * sz) ys))
          (o' := ⟨g, false, o.cells.take (off + len * sz) ++ xs ++ o.cells.drop (off + (len + mm) * sz)⟩) hR ho hat hro hkind hrow rfl (base' := base) hspl (by
           rw [hspl]; simp [hyl]; omega) (.inl ⟨hgen.symm, rfl, by simp [hyl]; omega, rfl⟩) (by
           intro jj u hu
           simp only [List.append_assoc] at hu
           rw [List.getElem?_append] at hu
           have htl : (List.take (off + len * sz) o.cells).length = off + len * sz := by simp; omega
           rw [htl] at hu
           split at hu
           ·rename_i hjj
            rw [List.getElem?_take] at hu; rw [if_pos hjj] at hu
            obtain ⟨q1, y1, q2, q3⟩ := hc jj u hu
            exact ⟨q1, y1, by rw [splice_get (by omega), if_pos (by omega)]; exact q2, q3⟩
           ·rename_i hjj
            rw [List.getElem?_append] at hu
            split at hu
            ·rename_i hjj2
             obtain ⟨y1, q1, q2⟩ := hys.get hu
             refine ⟨List.all_eq_true.1 hyo u (List.mem_of_getElem? hu), y1, ?_, q2⟩
             rw [splice_get (by omega), if_neg (by omega), if_pos (by omega), show base + jj - (base + off + len * sz) = jj - (off + len * sz) by omega]
             exact q1
            ·rename_i hjj2
             rw [List.getElem?_drop] at hu
             obtain ⟨q1, y1, q2, q3⟩ := hc _ u hu
             refine ⟨q1, y1, ?_, q3⟩
             rw [splice_get (by omega), if_neg (by omega), if_neg (by omega), ← q2]
             congr 1; omega)
         refine ⟨_, m', by rw [w1]; exact hrun, w5, w6, ?_, by rw [w2]; rfl, w4⟩
         refine .osl (by rw [w4]; cases hv with | osl hi _ _ => exact .inl hi) rfl fun o2 ho2 hg2 => ?_
         have hkk := (w5.obj id o2 b0 base ho2 (by rw [w3]; exact upd_same _ _ _)).2.kind_at ⟨_, _, _, by rw [w1]; exact setRow_heap m.w b0 cs0 _ T0 fz0 hrow⟩
         rw [w2] at ho2; simp at ho2; subst ho2
         refine ⟨hkk, ?_⟩
         unfold OslOK
         rw [w3]
         simp only [upd_same]
         refine ⟨p, k, rfl, ?_, by simp [hyl]; omega, hq', k4, ⟨_, T0, fz0, by rw [w1]; exact setRow_heap m.w b0 cs0 _ T0 fz0 hrow, ?_⟩, rfl, by simp [hyl]; omega⟩
         ·rcases hp with hp | ⟨_, hp⟩
          ·exact .inl hp
          ·exact .inr ⟨by omega, hp⟩
         ·rw [hspl]
          rw [hrow] at k5
          injection k5 with k5; injection k5 with k5 _ _; subst k5
          exact k6
       ·rename_i hq
        simp only [Option.some.injEq] at h; subst h
        have hq' : q < len + mm := by
         rcases Nat.lt_or_ge q (len + mm) with h' | h'
         ·exact h'
         ·have := Nat.ble_eq_true_of_le h'; rw [hq] at this; cases this
        have hka : ka = q := by
         unfold OslOK at hok
         cases hat : m.at_ id with
         | none => simp [hat] at hok
         | some bb =>
          obtain ⟨b0, base⟩ := bb
          simp only [hat] at hok
          obtain ⟨p, k, hvp, hp, k2, k3, k4, _, k7, k8⟩ := hok
          subst k7
          rw [hva] at hvp
          simp at hvp; exact hvp.2
        subst hva
        subst hka
        obtain ⟨z', m', g1, g2, g3, g4, g5, g6⟩ := grow_objS (id := n) (c := c) (sz := sz) (n0 := len) (by_ := by_) (t := t) (u := u) (ty := ty) (e := e) (i := j) (z := z) (a := a) (sCap := ka) (s := bs) hR hu h2 hj hz hs1 hjs hzs hb (by rw [hbl]; exact hfit) hxa (hyse ▸ hys) hxl (by rw [hbl]; exact hyl) hxo hyo hxn hxc (by rw [hbl]; exact hq') (hf n c (Nat.le_refl _) (by simp))
        exact ⟨z', m', g1, g2, g3, by rw [← hbl]; exact g4, by rw [g5]; rfl, g6⟩
       ·simp at h
      ·-- the capacity is open
       split at h
       ·rename_i hro
        simp only [Option.some.injEq] at h; subst h
        have hiss : ¬ m.iss id c := hf id c (Nat.le_refl _) (by simp)
        have grows : ka < len + mm → ∃ z' m', (Builtin.append_ #[t, u] ty #[v, .string bs]).run P m.w = .ok z' m'.w ∧ After S m c ⟨.osl id c 0 (len + mm) sz none, [(id, ⟨c, false, (o.cells.drop off).take (len * sz) ++ xs⟩)], [id], 0, 1, false⟩ z' m' := by
         intro hgt
         obtain ⟨z', m', g1, g2, g3, g4, g5, g6⟩ := grow_objS (id := id) (c := c) (sz := sz) (n0 := len) (by_ := by_) (t := t) (u := u) (ty := ty) (e := e) (i := j) (z := z) (a := a) (sCap := ka) (s := bs) hR hu h2 hj hz hs1 hjs hzs hb (by rw [hbl]; exact hfit) hxa (hyse ▸ hys) hxl (by rw [hbl]; exact hyl) hxo hyo hxn hxc (by rw [hbl]; exact hgt) hiss
         exact ⟨z', m', by rw [hva]; exact g1, g2, g3, by rw [← hbl]; exact g4, by rw [g5]; rfl, g6⟩
        by_cases hgt : ka < len + mm
        ·exact grows hgt
        ·unfold OslOK at hok
         cases hat : m.at_ id with
         | none =>
          simp only [hat] at hok
          obtain ⟨rfl, rfl, _, a', hva'⟩ := hok
          have hka0 : ka = 0 := by rw [hva] at hva'; simp at hva'; exact hva'.2
          subst hka0
          have hm0 : mm = 0 := by omega
          subst hm0
          have hys0 : ys = [] := List.length_eq_zero_iff.1 (by rw [hysl]; simp)
          have hxs0 : xs = [] := List.length_eq_zero_iff.1 (by rw [hyl]; simp)
          subst hys0; subst hxs0
          obtain ⟨m', w1, w2, w3, w4, w5, w6⟩ := virt_obj (id := id) (o' := ⟨c, false, (o.cells.drop 0).take (0 * sz) ++ []⟩) (c := c) (dc := 1) hR (by simp) hiss rfl rfl
          refine ⟨.slice a 0 0, m', ?_, w5, w6, ?_, by rw [w2]; rfl, w4⟩
          ·rw [hva, w1]
           cases a with
           | none => exact run_inplaceS0 t u ty e j m.w hu h2 hj (s := bs) (by omega)
           | some p => exact run_inplaceS00 t u ty e j m.w hu h2 hj (p := p) (s := bs) (by omega)
          ·refine .osl (by rw [w4]; exact .inr ⟨Nat.le_refl _, by omega⟩) rfl fun o2 ho2 hg2 => ?_
           refine ⟨by rw [w2, upd_same] at ho2; simp only [Option.some.injEq] at ho2; subst ho2; simp [kindL], ?_⟩
           unfold OslOK
           rw [w3]
           simp
         | some bb =>
          obtain ⟨b0, base⟩ := bb
          simp only [hat] at hok
          obtain ⟨p, k, hvp, hp, k2, k3, k4, ⟨cs, T, fz, k5, k6⟩, _⟩ := hok
          have hkk : ka = k := by rw [hva] at hvp; simp at hvp; exact hvp.2
          subst hkk
          obtain ⟨hS, cs0, T0, fz0, hrow, hfz, hsz, hc⟩ := hR.cellsAt hkind ho hat
          rw [hrow] at k5
          injection k5 with k5; injection k5 with k5 _ _; subst k5
          have hmul : (len + mm) * sz ≤ ka * sz := Nat.mul_le_mul_right _ (by omega)
          have hrun := inplace b0 base p ka cs0 T0 fz0 hrow hfz hvp hp (by omega) (by omega)
          have hspl : (splice cs0 (base + off + len * sz) ys).size = cs0.size := splice_size (by omega)
          obtain ⟨m', w1, w2, w3, w4, w5, w6⟩ := write_obj (c := c) (dc := 1) (w' := m.w.setRow b0 (splice cs0 (base + off + len * sz) ys))
           (o' := ⟨c, false, (o.cells.drop off).take (len * sz) ++ xs⟩) hR ho hat hro hkind hrow rfl (base' := base + off) hspl (by
            rw [hspl]; simp [hyl]; omega) (.inr ⟨hiss, rfl, rfl⟩) (by
            intro jj u hu
            rw [List.getElem?_append] at hu
            have htl : (List.take (len * sz) (List.drop off o.cells)).length = len * sz := by simp; omega
            rw [htl] at hu
            split at hu
            ·rename_i hjj
             rw [List.getElem?_take, if_pos hjj, List.getElem?_drop] at hu
             obtain ⟨q1, y1, q2, q3⟩ := hc _ u hu
             refine ⟨q1, y1, ?_, q3⟩
             rw [splice_get (by omega), if_pos (by omega), ← q2]
             congr 1; omega
            ·rename_i hjj
             obtain ⟨y1, q1, q2⟩ := hys.get hu
             have hjl : jj - len * sz < ys.length := (List.getElem?_eq_some_iff.1 q1).1
             refine ⟨List.all_eq_true.1 hyo u (List.mem_of_getElem? hu), y1, ?_, q2⟩
             rw [splice_get (by omega), if_neg (by omega), if_pos (by omega), show base + off + jj - (base + off + len * sz) = jj - len * sz by omega]
             exact q1)
          refine ⟨_, m', by rw [w1]; exact hrun, w5, w6, ?_, by rw [w2]; rfl, w4⟩
          refine .osl (by rw [w4]; exact .inr ⟨Nat.le_refl _, by omega⟩) rfl fun o2 ho2 hg2 => ?_
          have hkk := (w5.obj id o2 b0 (base + off) ho2 (by rw [w3]; exact upd_same _ _ _)).2.kind_at ⟨_, _, _, by rw [w1]; exact setRow_heap m.w b0 cs0 _ T0 fz0 hrow⟩
          rw [w2] at ho2; simp at ho2; subst ho2
          refine ⟨hkk, ?_⟩
          unfold OslOK
          rw [w3]
          simp only [upd_same]
          refine ⟨p, ka, rfl, ?_, by simp [hyl]; omega, by omega, k4, ⟨_, T0, fz0, by rw [w1]; exact setRow_heap m.w b0 cs0 _ T0 fz0 hrow, ?_⟩, trivial⟩
          ·rcases hp with hp | ⟨_, hp⟩
           ·exact .inl (by rw [hp, Nat.add_zero])
           ·exact .inr ⟨by omega, hp⟩
          ·rw [hspl]; omega
       ·simp at h
     ·simp at h
    ·simp at h
   ·simp at h
  ·simp at h
 ·simp at h

end Go.Ac
end

section
namespace Go.Ac
variable {P : Program} {S : Nat → Prop} {m : M}

/-- What an operation gives in the model. -/
def Gives (P : Program) (σ : Operand → Value) (o : Oper) (w : World) (x : Value) (w' : World) : Prop :=
 (execOp σ o).run P w = .ok (.value x) w' ∨ ((execOp σ o).run P w = .ok .skip w' ∧ x = undef)

theorem buildSlice_sound [Gl] {t e sz by_ len : Nat} {i j : TI} {z cs : List V} {ps : Array (Nat × Operand)} {ρ : Operand → V} {σ : Operand → Value} {fz : Bool} {n c : Nat} {qs : List (Nat × V)} {ids : List Nat} (hi : mkTI P t = some i) (hk : i.k = .slice e sz by_) (hj : mkTI P e = some j) (hz : j.zero = some z)
  (hzl : z.length = sz) (hone : z.all V.one = true) (hpos : 0 < sz) (hsmall : len * sz ≤ 16777216) (hρ : ∀ x, RV S m (ρ x) (σ x)) (hR : Rel S m) (hf : Fresh m c 1)
  (hcp : closeParts m.h fz (ps.toList.map fun p => (p.1, ρ p.2)) = some (qs, ids)) (h : fillV (fun j => some (j * sz, sz)) (List.replicate len z).flatten qs = some cs) :
  ∃ x m', (Instr.buildSlice t len (ps.map fun p => (p.1, σ p.2))).run P m.w = .ok x m'.w ∧
   After S m c ⟨.osl n c 0 len sz (some len), roOf m.h ids ++ [(n, ⟨c, false, cs⟩)], ids, 1, 1, false⟩ x m' := by
 obtain ⟨inf, d, h1, h2, h3, _⟩ := mkTI_spec hi
 rw [hk] at h3
 obtain ⟨rfl, jj, hjj, hjs, _⟩ := mkTK_slice h3
 obtain ⟨r1, r2⟩ := parts_rel (S := S) (m := m) hρ ps.toList
 obtain ⟨m1, e1, hb⟩ := ros hR ids
 obtain ⟨r3, r4⟩ := closeParts_sound (fz := fz) hR hb hcp r1 r2 (fun i hi => hi)
 have hw : m1.w = m.w := hb.w
 obtain ⟨v, g1, g2, g3⟩ := zero_spec hj hz m.w
 have hlz : v.cells.size = sz := by rw [← hzl, g2]; simp
 obtain ⟨ys, k1, k2, k3, k4⟩ := fillV_sound (S := S) (m := m1) (xs := (List.replicate len v.cells.toList).flatten) h (zero_cells_RVs g2 len) (all_replicate hone len) r3 r4
 have hf1 : Fresh m1 c 1 := fun id g q1 q2 => by rw [hb.iss]; exact hf id g q1 q2
 have hcl : cs.length = len * sz := by
  rw [k4, flatten_len sz _ (fun r hr => by rw [List.eq_of_mem_replicate hr]; exact hzl)]; simp
 have hlen : len ≤ maxLen := by
  have : len * 1 ≤ len * sz := Nat.mul_le_mul_left _ hpos
  unfold maxLen; omega
 obtain ⟨m', w1, w2, w3, w4, w5, w6⟩ := osl_new (P := P) (T := e) (len := len) (cap := len) (sz := sz) (rd := ids) hb.rel hf1 k2 k3 hcl (Nat.le_refl _) hlen
 refine ⟨_, m', ?_, w2, hb.evo.trans w3, w4, ?_, ?_⟩
 ·rw [hw] at w1
  rw [hw]
  have hk1 : Instr.fill (fun i => some (i * sz, sz)) ((Array.range (len * sz)).map (fun i => v.cells[i % v.cells.size]!)) (ps.map fun p => (p.1, σ p.2)).toList = some ys.toArray := by
   rw [← hlz, range_map_toArray, hlz, ← k1]
   simp
  simp only [Instr.buildSlice, Sem.run_bind, run_underlying h2, Result.andThen_ok, run_sizeOf' hjj, hjs, show ¬ (len * sz > 2 ^ 24) by omega, if_false, Sem.run_pure]
  by_cases h0 : len * sz = 0
  ·simp only [h0, if_true, Sem.run_bind, Sem.run_pure, Result.andThen_ok]
   have : ∀ f : Nat → Value, Array.map f (Array.range 0) = #[] := fun f => by apply Array.ext'; simp
   rw [h0, this] at hk1
   rw [this]
   simp only [hk1, Sem.run_bind, w1, Result.andThen_ok, Sem.run_pure]
  ·simp only [h0, if_false, Sem.run_bind, g1, Result.andThen_ok, Sem.run_pure, hk1, w1]
 ·rw [w5, e1, hupd_append]
 ·rw [w6, hb.iss]

/-- A struct whose slices are made data. -/
theorem buildZ_sound [Gl] {t : TypeId} {i : TI} {z cs : List V} {fs : List (Nat × Nat × Bool)} {ps : Array (Nat × Operand)} {ρ : Operand → V} {σ : Operand → Value} {fz : Bool} {c : Nat} {qs : List (Nat × V)} {ids : List Nat} (hi : mkTI P t = some i) (hz : i.zero = some z)
  (hone : z.all V.one = true) (hk : i.k = .struct fs) (hcp : closeParts m.h fz (ps.toList.map fun p => (p.1, ρ p.2)) = some (qs, ids)) (h : fillV (fun j => (fs[j]?).map fun f => (f.1, f.2.1)) z qs = some cs) (hρ : ∀ x, RV S m (ρ x) (σ x)) (hR : Rel S m) :
  ∃ m', ∃ ys : List Value, (Instr.build t (ps.map fun p => (p.1, σ p.2))).run P m.w = .ok (.agg ys.toArray) m'.w ∧ After S m c ⟨.agg cs, roOf m.h ids, ids, 0, 0, false⟩ (.agg ys.toArray) m' := by
 obtain ⟨inf, d, h1, h2, h3, _⟩ := mkTI_spec hi
 obtain ⟨v, g1, g2, g3⟩ := zero_spec hi hz m.w
 obtain ⟨r1, r2⟩ := parts_rel (S := S) (m := m) hρ ps.toList
 obtain ⟨m1, e1, hb⟩ := ros hR ids
 obtain ⟨r3, r4⟩ := closeParts_sound (fz := fz) hR hb hcp r1 r2 (fun i hi => hi)
 obtain ⟨ys, k1, k2, _, _⟩ := fillV_sound (S := S) (m := m1) (xs := v.cells.toList) h (by rw [g2]; exact constVs_RVs _) hone r3 r4
 refine ⟨m1, ys, ?_, hb.rel, hb.evo, k2.agg, e1, ?_⟩
 ·rw [hb.w]
  apply run_build
  have hzz : inf.zero = some v := by simpa [h1] using g3
  simp only [Array.toArray_toList] at k1
  rw [hk] at h3
  obtain ⟨fields, rfl, hfs⟩ := mkTK_struct h3
  have hp := mkFields_places hfs
  simp only [Program.built, h1, h2, hzz, hp]
  simpa using k1
 ·rw [hb.iss]; exact (iss_zero m c).symm

theorem RVs.map [Gl] {ρ : Operand → V} {σ : Operand → Value} (h : ∀ x, RV S m (ρ x) (σ x)) (l : List Operand) : RVs S m (l.map ρ) (l.map σ) := by
 refine ⟨by simp, fun j a b ha hb => ?_⟩
 rw [List.getElem?_map] at ha hb
 cases hp : l[j]? with
 | none => simp [hp] at ha
 | some p => simp [hp] at ha hb; subst ha; subst hb; exact h p

theorem builtinV_sound [Gl] {n c : Nat} {b : Builtin} {ts : Array TypeId} {ty : TypeId} {vs : List V} {xs : List Value} {r : Res} (h : builtinV P m.h n c b ts.toList vs = some r) (hR : Rel S m) (hf : Fresh m c r.dc) (hv : RVs S m vs xs) :
  ∃ x m', (∀ consts : Array Bool, (builtin b ts ty consts xs.toArray).run P m.w = .ok (.value x) m'.w) ∧ After S m c r x m' := by
 unfold builtinV at h
 split at h
 ·rename_i t x hts
  simp only [Option.bind_eq_some_iff] at h
  obtain ⟨i, hi, h⟩ := h
  obtain ⟨v, ys, rfl, hx, hys⟩ := hv.cases
  have : ys = [] := List.length_eq_zero_iff.1 (by have := hys.1; simpa using this.symm)
  subst this
  obtain rfl : ts = #[t] := by apply Array.ext'; simpa using hts
  obtain ⟨z, g1, g2⟩ := lenV_sound (P := P) (ty := ty) (c := c) hi h hR hx
  exact ⟨z, m, fun _ => by simp [builtin, g1], g2⟩
 ·rename_i t u s x hts
  split at h
  ·rename_i htu; subst htu
   simp only [Option.bind_eq_some_iff] at h
   obtain ⟨i, hi, h⟩ := h
   obtain ⟨v, ys, rfl, hs, hys⟩ := hv.cases
   obtain ⟨y, ys, rfl, hx, hys⟩ := hys.cases
   have : ys = [] := List.length_eq_zero_iff.1 (by have := hys.1; simpa using this.symm)
   subst this
   obtain rfl : ts = #[t, t] := by apply Array.ext'; simpa using hts
   obtain ⟨z, m', g1, g2⟩ := appendV_sound (P := P) (ty := ty) hi h hR hf hs hx
   exact ⟨z, m', fun _ => by simp [builtin, g1], g2⟩
  ·obtain ⟨v, ys, rfl, hs, hys⟩ := hv.cases
   obtain ⟨y, ys, rfl, hx, hys⟩ := hys.cases
   have : ys = [] := List.length_eq_zero_iff.1 (by have := hys.1; simpa using this.symm)
   subst this
   obtain rfl : ts = #[t, u] := by apply Array.ext'; simpa using hts
   split at h
   ·rename_i i j hi hj
    split at h
    ·rename_i e sz by_ kk hk hjk
     obtain ⟨z, m', g1, g2⟩ := appendNV_sound (P := P) (ty := ty) hi hk hj hjk h hR hf hs hx
     exact ⟨z, m', fun _ => by simp [builtin, g1], g2⟩
    ·rename_i e sz by_ hk hjk
     obtain ⟨z, m', g1, g2⟩ := appendSV_sound (P := P) (ty := ty) hi hj hjk h hR hf hs hx
     exact ⟨z, m', fun _ => by simp [builtin, g1], g2⟩
    ·simp at h
   ·simp at h
 ·rename_i t x hts
  simp only [Option.bind_eq_some_iff] at h
  obtain ⟨i, hi, h⟩ := h
  obtain ⟨v, ys, rfl, hx, hys⟩ := hv.cases
  have : ys = [] := List.length_eq_zero_iff.1 (by have := hys.1; simpa using this.symm)
  subst this
  obtain rfl : ts = #[t] := by apply Array.ext'; simpa using hts
  obtain ⟨z, g1, g2⟩ := capV_sound (P := P) (ty := ty) (c := c) hi h hR hx
  exact ⟨z, m, fun _ => by simp [builtin, g1], g2⟩
 ·obtain ⟨z, g1, g2⟩ := maxV_sound (P := P) (mx := true) (ts := ts) (ty := ty) (c := c) h hR hv
  exact ⟨z, m, fun _ => by simp only [if_true] at g1; simp [builtin, g1], g2⟩
 ·obtain ⟨z, g1, g2⟩ := maxV_sound (P := P) (mx := false) (ts := ts) (ty := ty) (c := c) h hR hv
  exact ⟨z, m, fun _ => by simp only [Bool.false_eq_true, if_false] at g1; simp [builtin, g1], g2⟩
 ·rename_i t u s x hts
  split at h
  ·rename_i htu; subst htu
   simp only [Option.bind_eq_some_iff] at h
   obtain ⟨i, hi, h⟩ := h
   obtain ⟨v, ys, rfl, hs, hys⟩ := hv.cases
   obtain ⟨y, ys, rfl, hx, hys⟩ := hys.cases
   have : ys = [] := List.length_eq_zero_iff.1 (by have := hys.1; simpa using this.symm)
   subst this
   obtain rfl : ts = #[t, t] := by apply Array.ext'; simpa using hts
   obtain ⟨z, m', g1, g2⟩ := copyV_sound (P := P) (ty := ty) (c := c) hi h hR hs hx
   exact ⟨z, m', fun _ => by simp [builtin, g1], g2⟩
  ·simp at h
 ·rename_i t s hts
  simp only [Option.bind_eq_some_iff] at h
  obtain ⟨i, hi, h⟩ := h
  split at h
  ·rename_i e sz by_ hk
   obtain ⟨v, ys, rfl, hs, hys⟩ := hv.cases
   have : ys = [] := List.length_eq_zero_iff.1 (by have := hys.1; simpa using this.symm)
   subst this
   obtain rfl : ts = #[t] := by apply Array.ext'; simpa using hts
   obtain ⟨z, m', g1, g2⟩ := clearV_sound (P := P) (ty := ty) (c := c) hi hk h hR hs
   exact ⟨z, m', fun _ => by simp [builtin, g1], g2⟩
  ·simp at h
 ·rename_i t tr mv k hts
  simp only [Option.bind_eq_some_iff] at h
  obtain ⟨i, hi, h⟩ := h
  split at h
  ·rename_i kt et hk
   simp only [Option.bind_eq_some_iff] at h
   obtain ⟨ki, hki, h⟩ := h
   obtain ⟨v, ys, rfl, hs, hys⟩ := hv.cases
   obtain ⟨y, ys, rfl, hx, hys⟩ := hys.cases
   have : ys = [] := List.length_eq_zero_iff.1 (by have := hys.1; simpa using this.symm)
   subst this
   have ht0 : ts[0]? = some t := by rw [← Array.getElem?_toList, hts]; rfl
   obtain ⟨z, m', g1, g2⟩ := deleteV_sound (P := P) (ty := ty) (c := c) ht0 hi hk hki h hR hs hx
   exact ⟨z, m', fun _ => by simp [builtin, g1], g2⟩
  ·simp at h
 ·simp at h

theorem step_sound [Gl] {o : Oper} {fz fs : Bool} {n c : Nat} {ρ : Operand → V} {σ : Operand → Value} {r : Res} (h : step P fz fs ρ m.h n c o.op = some r) (hσ : ∀ v, σ (.const v) = v) (hρ : ∀ x, RV S m (ρ x) (σ x)) (hR : Rel S m)
  (hf : Fresh m c r.dc) : ∃ x m', Gives P σ o m.w x m'.w ∧ After S m c r x m' := by
 obtain ⟨dst, op, ty, pos, after, guard⟩ := o
 cases op <;> simp only [step] at h <;> try (simp at h; done)
 case move x => simp [ret] at h; subst h; exact ⟨σ x, m, .inl (by simp [execOp]), After.quiet hR (hρ x)⟩
 case assign x => simp [ret] at h; subst h; exact ⟨σ x, m, .inl (by simp [execOp]), After.quiet hR (hρ x)⟩
 case pick q a b =>
  split at h
  ·rename_i hq
   simp [ret] at h; subst h
   have := (hq ▸ hρ q).bool_inv
   exact ⟨σ a, m, .inl (by simp [execOp, this, asBool]), After.quiet hR (hρ a)⟩
  ·rename_i hq
   simp [ret] at h; subst h
   have := (hq ▸ hρ q).bool_inv
   exact ⟨σ b, m, .inl (by simp [execOp, this, asBool]), After.quiet hR (hρ b)⟩
  ·simp at h
 case alloc t =>
  split at h
  ·rename_i i hi
   split at h
   ·rename_i z hz
    split at h
    ·rename_i hone
     obtain ⟨x, m', g1, g2⟩ := alloc_sound (P := P) hi hz hone h hR hf
     exact ⟨x, m', .inl (by simp [execOp, g1]), g2⟩
    ·simp at h
   ·simp at h
  ·simp at h
 case box t x =>
  simp only [Option.bind_eq_some_iff] at h
  obtain ⟨cs, hcs, h⟩ := h
  obtain ⟨y, m', g1, g2⟩ := box_sound (P := P) (t := t) hcs h hR hf (hρ x)
  exact ⟨y, m', .inl (by simp [execOp, g1]), g2⟩
 case build t ps =>
  split at h
  ·rename_i i hi
   split at h
   ·rename_i z fl hz hk
    split at h
    ·rename_i hone
     split at h
     ·simp only [Option.bind_eq_some_iff] at h
      obtain ⟨cs, hcs, h⟩ := h
      simp [ret] at h; subst h
      obtain ⟨ys, g1, g2⟩ := build_sound (P := P) hi hz hone (.inl ⟨fl, hk, rfl⟩) hcs hρ
      exact ⟨_, m, .inl (by simp [execOp, g1]), After.quiet hR g2.agg⟩
     ·split at h
      ·rename_i qs ids hcp
       simp only [Option.bind_eq_some_iff] at h
       obtain ⟨cs, hcs, h⟩ := h
       simp only [Option.some.injEq] at h; subst h
       obtain ⟨m', ys, g1, g2⟩ := buildZ_sound (P := P) (c := c) hi hz hone hk hcp hcs hρ hR
       exact ⟨_, m', .inl (by simp [execOp, g1]), g2⟩
      ·simp at h
    ·simp at h
   ·rename_i z n' e sz ag hz hk
    split at h
    ·rename_i hone
     simp only [Option.bind_eq_some_iff] at h
     obtain ⟨cs, hcs, h⟩ := h
     simp [ret] at h; subst h
     obtain ⟨ys, g1, g2⟩ := build_sound (P := P) hi hz hone (.inr ⟨_, _, _, _, hk, rfl⟩) hcs hρ
     exact ⟨_, m, .inl (by simp [execOp, g1]), After.quiet hR g2.agg⟩
    ·simp at h
   ·simp at h
  ·simp at h
 case buildSlice t len ps =>
  split at h
  ·rename_i i hi
   split at h
   ·rename_i e sz by_ hk
    split at h
    ·rename_i j hj
     split at h
     ·rename_i z hz
      split at h
      ·rename_i hcond
       split at h
       ·rename_i qs ids hcp
        simp only [Option.bind_eq_some_iff] at h
        obtain ⟨cs, hcs, h⟩ := h
        simp only [Option.some.injEq] at h; subst h
        obtain ⟨x, m', g1, g2⟩ := buildSlice_sound (P := P) hi hk hj hz hcond.1 hcond.2.1 hcond.2.2.1 hcond.2.2.2 hρ hR hf hcp hcs
        exact ⟨x, m', .inl (by simp [execOp, g1]), g2⟩
       ·simp at h
      ·simp at h
     ·simp at h
    ·simp at h
   ·simp at h
  ·simp at h
 case load t a =>
  simp only [Option.bind_eq_some_iff] at h
  obtain ⟨i, hi, h⟩ := h
  obtain ⟨x, g1, g2⟩ := loadV_sound (P := P) (c := c) hi h rfl hR (hρ a)
  exact ⟨x, m, .inl (by simp [execOp, g1]), g2⟩
 case store t a x =>
  simp only [Option.bind_eq_some_iff] at h
  obtain ⟨i, hi, h⟩ := h
  obtain ⟨m', g1, g2⟩ := storeV_sound (P := P) (c := c) hi h hR (hρ a) (hρ x)
  exact ⟨undef, m', .inr ⟨by simp [execOp, g1], rfl⟩, g2⟩
 case nilCheck x =>
  obtain ⟨g1, g2⟩ := checkNil_sound (P := P) (dst := dst) (ty := ty) (pos := pos) (af := after) (gd := guard) (c := c) h hR (hρ x)
  exact ⟨σ x, m, .inl g1, g2⟩
 case range t x =>
  simp only [Option.bind_eq_some_iff] at h
  obtain ⟨i, hi, h⟩ := h
  split at h
  ·rename_i hk
   obtain ⟨z, m', g1, g2⟩ := rangeMV_sound (P := P) hi hk h hR hf (hρ x)
   exact ⟨z, m', .inl (by simp [execOp, g1]), g2⟩
  ·obtain ⟨z, m', g1, g2⟩ := rangeV_sound (P := P) hi h hR hf (hρ x)
   exact ⟨z, m', .inl (by simp [execOp, g1]), g2⟩
 case entry x =>
  obtain ⟨z, g1, g2⟩ := entryItV_sound (P := P) (c := c) h hR (hρ x)
  exact ⟨z, m, .inl (by simp [execOp, g1]), g2⟩
 case next x b =>
  cases b with
  | false => simp at h
  | true =>
   obtain ⟨z, m', g1, g2⟩ := nextV_sound (P := P) (ty := ty) (c := c) h hR (hρ x)
   exact ⟨z, m', .inl (by simp [execOp, g1]), g2⟩
 case makeMap t q =>
  cases q with
  | some q => simp at h
  | none =>
   simp only at h
   split at h
   ·split at h
    ·split at h
     ·obtain ⟨z, m', g1, g2⟩ := makeMapA_sound (P := P) (t := t) h hR hf
      exact ⟨z, m', .inl (by simp [execOp, g1]), g2⟩
     ·obtain ⟨z, m', g1, g2⟩ := makeMapV_sound (P := P) (t := t) h hR hf
      exact ⟨z, m', .inl (by simp [execOp, g1]), g2⟩
    ·simp at h
   ·simp at h
 case lookup t x k ok =>
  split at h
  ·rename_i i hi
   split at h
   ·rename_i kt et hk
    split at h
    ·rename_i l ks z hl hks hz
     obtain ⟨z, g1, g2⟩ := lookupA_sound (P := P) (c := c) hi hk hl hz h hR (hρ x) (hks ▸ hρ k)
     exact ⟨z, m, .inl (by simp [execOp, g1]), g2⟩
    split at h
    ·rename_i ki hki
     obtain ⟨z, g1, g2⟩ := lookupV_sound (P := P) (c := c) hi hk hki h hR (hρ x) (hρ k)
     exact ⟨z, m, .inl (by simp [execOp, g1]), g2⟩
    ·simp at h
   ·simp at h
  ·simp at h
 case mapUpdate t mv k x =>
  split at h
  ·rename_i i hi
   split at h
   ·rename_i kt et hk
    split at h
    ·rename_i l ks hl hks
     obtain ⟨m', g1, g2⟩ := insertA_sound (P := P) (c := c) hi hk hl h hR (hρ mv) (hks ▸ hρ k) (hρ x)
     exact ⟨undef, m', .inr ⟨by simp [execOp, g1], rfl⟩, g2⟩
    simp only [Option.bind_eq_some_iff] at h
    obtain ⟨ki, hki, h⟩ := h
    obtain ⟨m', g1, g2⟩ := insertV_sound (P := P) (c := c) hi hk hki h hR (hρ mv) (hρ k) (hρ x)
    exact ⟨undef, m', .inr ⟨by simp [execOp, g1], rfl⟩, g2⟩
   ·simp at h
  ·simp at h
 case insert t mv k x =>
  split at h
  ·rename_i i hi
   split at h
   ·rename_i kt et hk
    split at h
    ·rename_i l ks hl hks
     obtain ⟨m', g1, g2⟩ := insertA_sound (P := P) (c := c) hi hk hl h hR (hρ mv) (hks ▸ hρ k) (hρ x)
     exact ⟨undef, m', .inr ⟨by simp [execOp, g1], rfl⟩, g2⟩
    simp only [Option.bind_eq_some_iff] at h
    obtain ⟨ki, hki, h⟩ := h
    obtain ⟨m', g1, g2⟩ := insertV_sound (P := P) (c := c) hi hk hki h hR (hρ mv) (hρ k) (hρ x)
    exact ⟨undef, m', .inr ⟨by simp [execOp, g1], rfl⟩, g2⟩
   ·simp at h
  ·simp at h
 case mapEntry t mv k =>
  split at h
  ·rename_i i hi
   split at h
   ·rename_i kt et hk
    simp only [Option.bind_eq_some_iff] at h
    obtain ⟨ki, hki, h⟩ := h
    obtain ⟨z, m', g1, g2⟩ := entryV_sound (P := P) (c := c) hi hk hki h hR (hρ mv) (hρ k)
    exact ⟨z, m', .inl (by simp [execOp, g1]), g2⟩
   ·simp at h
  ·simp at h
 case entryStore t mv k x =>
  obtain ⟨m', g1, g2⟩ := stampV_sound (P := P) (t := t) (c := c) h hR (hρ mv) (hρ k) (hρ x)
  exact ⟨undef, m', .inr ⟨by simp [execOp, g1], rfl⟩, g2⟩
 case binOp op t x y yt =>
  split at h
  ·simp only [Option.bind_eq_some_iff] at h
   obtain ⟨i, hi, h⟩ := h
   obtain ⟨z, g1, g2, g3⟩ := nilR_sound (P := P) (xo := x) (y := y) (b := σ y) (c := c) hi (fun v hv => by rw [hv]; exact hσ v) h hR (hρ x)
   exact ⟨z, m, .inl (by simp [execOp, g1, g2]), g3⟩
  split at h
  ·rename_i a b ha hb
   split at h
   ·rename_i i hi
    split at h
    ·rename_i hk
     obtain ⟨_, d, _, i2, i3, _⟩ := mkTI_spec hi
     rw [hk] at i3
     have := mkTK_bool i3; subst this
     simp only [Option.bind_eq_some_iff] at h
     obtain ⟨v, hv, h⟩ := h
     simp [ret] at h; subst h
     obtain ⟨z, g1, g2, g3⟩ := boolBin_sound (S := S) (m := m) (P := P) x y i2 hv
     have e1 := (ha ▸ hρ x).bool_inv
     have e2 := (hb ▸ hρ y).bool_inv
     exact ⟨z, m, .inl (by simp [execOp, e1, e2, g1, g2]), After.quiet hR g3⟩
    ·simp at h
   ·simp at h
  ·rename_i as bs ha hb
   split at h
   ·rename_i e l he hl
    split at h
    ·rename_i q hq
     simp [ret] at h; subst h
     obtain ⟨z, g1, g2, g3⟩ := eqStruct_sound (P := P) (t := t) x y he hl hq (ha ▸ hρ x) (hb ▸ hρ y)
     exact ⟨z, m, .inl (by simp [execOp, g1, g2]), After.quiet hR g3⟩
    ·simp at h
   ·simp at h
  ·simp only [Option.bind_eq_some_iff] at h
   obtain ⟨v, hv, h⟩ := h
   simp [ret] at h; subst h
   obtain ⟨z, g1, g2, g3⟩ := binV_sound (P := P) t x y hv (hρ x) (hρ y)
   exact ⟨z, m, .inl (by simp [execOp, g1, g2]), After.quiet hR g3⟩
 case unOp op t x =>
  simp only [Option.bind_eq_some_iff] at h
  obtain ⟨v, hv, h⟩ := h
  simp [ret] at h; subst h
  obtain ⟨z, g1, g2⟩ := unV_sound (P := P) hv (hρ x)
  exact ⟨z, m, .inl (by simp [execOp, g1]), After.quiet hR g2⟩
 case convert s t x =>
  split at h
  ·rename_i i j hi hj
   split at h
   ·obtain ⟨z, m', g1, g2⟩ := frzV_sound hi h hR (hρ x)
    exact ⟨z, m', .inl (by simp [execOp, g1]), g2⟩
   ·obtain ⟨z, m', g1, g2⟩ := convL_sound hi hj h hR (hρ x)
    exact ⟨z, m', .inl (by simp [execOp, g1]), g2⟩
  ·simp at h
 case makeFunc fn first caps =>
  cases fn <;> simp only [] at h <;> try (simp at h; done)
  split at h
  ·rename_i l hfst
   simp [ret] at h; subst h
   have hfe : first = #[] := by simpa using hfst
   subst hfe
   refine ⟨_, m, .inl (by simp [execOp, Instr.makeFunc]; rfl), After.quiet hR ?_⟩
   have := RVs.map (S := S) (m := m) hρ caps.toList
   refine .fn (by simp) fun j a b ha hb => this.2 j a b (by simpa using ha) ?_
   simpa using hb
  ·rename_i x hfst hcaps
   simp [ret] at h; subst h
   have hfe : first = #[x] := by cases first; simp only at hfst; rw [hfst]
   have hce : caps = #[] := by cases caps; simp only at hcaps; rw [hcaps]
   subst hfe; subst hce
   exact ⟨_, m, .inl (by simp [execOp, Instr.makeFunc]), After.quiet hR (.mv (hρ x))⟩
  ·simp at h
 case makeInterface t x =>
  split at h
  ·rename_i hi
   simp [ret] at h; subst h
   refine ⟨.iface t (σ x), m, .inl ?_, After.quiet hR (.ifc (hρ x))⟩
   have : ∃ d, P.underlying t = some d ∧ ∀ l, d ≠ .interface l := by
    unfold isIface at hi
    cases hu : P.underlying t with
    | none => rw [hu] at hi; cases hi
    | some d => exact ⟨d, rfl, fun l e => by subst e; rw [hu] at hi; cases hi⟩
   obtain ⟨d, hd, hne⟩ := this
   have hrun : (Instr.makeInterface t (σ x)).run P m.w = .ok (.iface t (σ x)) m.w := by
    simp only [Instr.makeInterface, Sem.run_bind, run_underlying hd, Result.andThen_ok]
    cases d <;> first | rfl | exact absurd rfl (hne _)
   simp [execOp, hrun]
  ·simp at h
 case typeAssert x xt t ok =>
  split at h
  ·rename_i hi
   have : ∃ d, P.underlying t = some d ∧ ∀ l, d ≠ .interface l := by
    unfold isIface at hi
    cases hu : P.underlying t with
    | none => rw [hu] at hi; cases hi
    | some d => exact ⟨d, rfl, fun l e => by subst e; rw [hu] at hi; cases hi⟩
   obtain ⟨d, hd, hne⟩ := this
   obtain ⟨y, g1, g2⟩ := assertV_sound (xt := xt) hd hne h hR (hρ x)
   exact ⟨y, m, .inl (by simp [execOp, g1]), g2⟩
  ·simp at h
 case makeSlice t l q =>
  split at h
  ·rename_i i hi
   split at h
   ·rename_i e sz by_ hk
    obtain ⟨x, m', g1, g2⟩ := makeV_sound (P := P) hi hk h hR hf (hρ l) (hρ q)
    exact ⟨x, m', .inl (by simp [execOp, g1]), g2⟩
   ·simp at h
  ·simp at h
 case slice t x lo hi mx =>
  split at h
  ·simp at h
  ·rename_i hno
   simp only [Option.bind_eq_some_iff] at h
   obtain ⟨i, hti, h⟩ := h
   obtain ⟨z, g1, g2⟩ := sliceV_sound (P := P) (c := c) hti h hR (hρ x) (RO.map hρ lo) (RO.map hρ hi) (RO.map hρ mx) (by
    intro h1
    cases mx with
    | none => simp at h1
    | some q =>
     cases hi with
     | none => simp at hno
     | some p => rfl)
   exact ⟨z, m, .inl (by simp [execOp, g1]), g2⟩
 case fieldAddr t x f =>
  simp only [Option.bind_eq_some_iff] at h
  obtain ⟨i, hi, h⟩ := h
  obtain ⟨z, g1, g2⟩ := fieldAddrV_sound (P := P) (c := c) hi h hR (hρ x)
  exact ⟨z, m, .inl (by simp [execOp, g1]), g2⟩
 case field t x f =>
  simp only [Option.bind_eq_some_iff] at h
  obtain ⟨i, hi, h⟩ := h
  obtain ⟨z, g1, g2⟩ := fieldV_sound (P := P) (c := c) hi h hR (hρ x)
  exact ⟨z, m, .inl (by simp [execOp, g1]), g2⟩
 case indexAddr t x ix =>
  simp only [Option.bind_eq_some_iff] at h
  obtain ⟨i, hi, h⟩ := h
  obtain ⟨z, g1, g2⟩ := indexAddrV_sound (P := P) (c := c) hi h hR (hρ x) (hρ ix)
  exact ⟨z, m, .inl (by simp [execOp, g1]), g2⟩
 case index t x ix =>
  simp only [Option.bind_eq_some_iff] at h
  obtain ⟨i, hi, h⟩ := h
  obtain ⟨z, g1, g2⟩ := indexV_sound (P := P) (c := c) hi h hR (hρ x) (hρ ix)
  exact ⟨z, m, .inl (by simp [execOp, g1]), g2⟩
 case extract t ix =>
  split at h
  ·rename_i vs ht
   simp only [Option.bind_eq_some_iff] at h
   obtain ⟨v, hv, h⟩ := h
   simp [ret] at h; subst h
   obtain ⟨xs, hxt, hxs⟩ := (ht ▸ hρ t).tuple_vals
   obtain ⟨x, g1, g2⟩ := hxs.get hv
   exact ⟨x, m, .inl (by simp [execOp, hxt, Instr.extract, g1]), After.quiet hR g2⟩
  ·simp at h
 case call cl =>
  obtain ⟨callee, args, ts⟩ := cl
  cases callee <;> simp only [] at h <;> try (simp at h; done)
  rename_i b
  obtain ⟨x, m', g1, g2⟩ := builtinV_sound (P := P) (ty := ty) h hR hf (RVs.map hρ args.toList)
  refine ⟨x, m', .inl ?_, g2⟩
  have : (List.map σ args.toList).toArray = args.map σ := by apply Array.ext'; simp
  rw [this] at g1
  simp [execOp, resolve, invoke, g1]

end Go.Ac
end
