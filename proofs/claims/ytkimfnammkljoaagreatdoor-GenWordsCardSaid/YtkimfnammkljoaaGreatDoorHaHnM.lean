/- Hints of a family: which slots are wanted, which calls hand objects on. No conditions. -/
import Derived.Test.YtkimfnammkljoaaGreatDoorAcTzM
import Derived.Test.YtkimfnammkljoaaGreatDoorProg
set_option linter.unusedVariables false
set_option linter.unusedSimpArgs false
section
namespace Go.Ac
variable {P : Program}

def OpIs (o : Oper) (d : Nat) (op : Op) : Prop := o.dst = some d ∧ o.op = op ∧ o.guard = none

/-- A function is the copy of a slice: its elements have sz cells, by_ bytes. -/
def CloneAt (P : Program) (f : FuncId) (sz by_ : Nat) : Prop := ∃ (fn : Func) (t e : TypeId) (i : TypeInfo) (z : Value) (o0 o1 o2 o3 o4 o5 o6 o7 : Oper) (r0 r1 r2 r3 : Nat),
 P.funcs[f]? = some fn ∧ fn.body = some (.seq (.region r0 #[o0] false) (.seq (.seq (.region r1 #[o1, o2] false) (.cond (.tmp 4) (.seq (.region r2 #[o3] false) .ret) .skip)) (.seq (.region r3 #[o4, o5, o6, o7] false) .ret))) ∧
 fn.ntmps = 8 ∧ fn.results = #[.tmp 2] ∧ P.underlying t = some (.slice e) ∧ P.info? e = some i ∧ i.size = sz ∧ i.bytes = by_ ∧ i.zero = some z ∧ z.cells.size = sz ∧
 OpIs o0 2 (.assign (.const (.slice none 0 0))) ∧ OpIs o1 3 (.move (.tmp 0)) ∧ OpIs o2 4 (.binOp .eql t (.tmp 3) (.const (.slice none 0 0)) t) ∧ OpIs o3 2 (.assign (.const (.slice none 0 0))) ∧
 OpIs o4 5 (.buildSlice t 0 #[]) ∧ OpIs o5 6 (.move (.tmp 0)) ∧ OpIs o6 7 (.call ⟨.builtin .append, #[.tmp 5, .tmp 6], #[t, t]⟩) ∧ OpIs o7 2 (.assign (.tmp 7))

section
variable {ops : Array Oper} {Q : Exit → Act → World → Prop} {K : Act → World → Prop}

theorem wpOp_value {i : Nat} {o : Oper} {d : Nat} {op : Op} {ts : Array Value} {w w' : World} {x : Value} (hi : ops[i]? = some o) (ho : OpIs o d op) (hr : (execOp (Act.eval ⟨ts, []⟩) o).run P w = .ok (.value x) w') (hK : K ⟨ts.setIfInBounds d x, []⟩ w') :
  wpOp P ops Q i K ⟨ts, []⟩ w := by
 obtain ⟨h1, h2, h3⟩ := ho
 unfold wpOp
 simp only [hi]
 have : Region.wanted o (yielded ops ts) = true := by unfold Region.wanted; rw [h3]
 rw [if_pos this]
 refine .inl ?_
 unfold Oper.wp
 rw [hr, Oper.upon_value]
 have : Act.put ⟨ts, []⟩ o.dst x = ⟨ts.setIfInBounds d x, []⟩ := by rw [h1]; rfl
 rw [this]; exact hK
end

theorem Oper.of {o : Oper} {d : Nat} {op : Op} (h : OpIs o d op) : ∃ ty pos af, o = ⟨some d, op, ty, pos, af, none⟩ := by
 obtain ⟨h1, h2, h3⟩ := h
 cases o
 simp only at h1 h2 h3
 subst h1; subst h2; subst h3
 exact ⟨_, _, _, rfl⟩

theorem cloneV_sound [Gl] {f : FuncId} {sz by_ : Nat} (hf : CloneAt P f sz by_) {S : Nat → Prop} {m : M} {n c : Nat} {x : V} {v : Value} {r : Res} (h : cloneV m.h n c sz by_ x = some r) (hR : Rel S m) (hfr : Fresh m c r.dc) (hv : RV S m x v) :
  Calls P f #[v] m.w (fun e w' => ∃ y m', e = .returned y ∧ m'.w = w' ∧ After S m c r y m') := by
 obtain ⟨fn, t, e, i, z, o0, o1, o2, o3, o4, o5, o6, o7, r0, r1, r2, r3, f1, f2, f3, f4, t1, t2, t3, t4, t5, t6, p0, p1, p2, p3, p4, p5, p6, p7⟩ := hf
 unfold cloneV at h
 split at h
 ·rename_i mm xs rx hrows
  split at h
  ·rename_i hfit
   simp only [Option.some.injEq] at h; subst h
   obtain ⟨a, k, rfl, hb1, hb2, ys, hys, hyl, hyo, hyn, hyc⟩ := rowsOf_sound hrows hv hR
   refine calls_of_wp f1 f2 ?_
   rw [f3]
   show (Code.seq _ _).wp P _ ⟨#[.slice a mm k, undef, undef, undef, undef, undef, undef, undef], []⟩ m.w
   -- the first region
   refine wp_seq (wp_region ?_)
   show wpOps P #[o0] _ [0] _ _
   rw [wpOps_cons]
   obtain ⟨_, _, _, e0⟩ := Oper.of p0
   refine wpOp_value (x := .slice none 0 0) (w' := m.w) rfl p0 (by rw [e0]; rfl) ?_
   show (Code.seq _ _).wp P _ ⟨#[.slice a mm k, undef, .slice none 0 0, undef, undef, undef, undef, undef], []⟩ m.w
   -- is it nil?
   refine wp_seq (wp_seq (wp_region ?_))
   show wpOps P #[o1, o2] _ [0, 1] _ _
   rw [wpOps_cons]
   obtain ⟨_, _, _, e1⟩ := Oper.of p1
   refine wpOp_value (x := .slice a mm k) (w' := m.w) rfl p1 (by rw [e1]; rfl) ?_
   show wpOps P #[o1, o2] _ [1] ⟨#[.slice a mm k, undef, .slice none 0 0, .slice a mm k, undef, undef, undef, undef], []⟩ m.w
   rw [wpOps_cons]
   obtain ⟨_, _, _, e2⟩ := Oper.of p2
   have heq : (Op.equal t (.slice a mm k) (.slice none 0 0)).run P m.w = .ok a.isNone m.w := by
    refine run_equal fun q => ?_
    cases a <;> simp [Op.equalIn, run_underlying t1]
   obtain ⟨g1, g2⟩ := run_eql (P := P) (op := .eql) (e := true) (.tmp 3) (.const (.slice none 0 0)) rfl (a := .slice a mm k) (by simp) (by simp) (by simp) (by simp) (by simp) (by simp) heq
   refine wpOp_value (x := .bool (a.isNone == true)) (w' := m.w) rfl p2 (by
    rw [e2]
    show Sem.run P (do let x ← (do eqGuard .eql t (.tmp 3) (.const (.slice none 0 0)) (.slice a mm k) (.slice none 0 0); binOp .eql t (.slice a mm k) (.slice none 0 0) : Sem Value); pure (Next.value x)) m.w = _
    simp [g1, g2]) ?_
   show Code.wp P (.cond (.tmp 4) _ _) _ ⟨#[.slice a mm k, undef, .slice none 0 0, .slice a mm k, .bool (a.isNone == true), undef, undef, undef], []⟩ m.w
   cases a with
   | none =>
    have hmm : mm = 0 := hyn rfl
    subst hmm
    have hxs0 : xs = [] := List.length_eq_zero_iff.1 (by rw [hyl]; simp)
    subst hxs0
    refine wp_cond_true rfl (wp_seq (wp_region ?_))
    show wpOps P #[o3] _ [0] _ _
    rw [wpOps_cons]
    obtain ⟨_, _, _, e3⟩ := Oper.of p3
    refine wpOp_value (x := .slice none 0 0) (w' := m.w) rfl p3 (by rw [e3]; rfl) ?_
    refine wp_ret ?_
    obtain ⟨m', w1, w2, w3, w4, w5, w6⟩ := virt_obj (id := n) (o' := ⟨c, false, []⟩) (c := c) (dc := 1) hR rfl (hfr n c (Nat.le_refl _) (by simp)) rfl rfl
    refine ⟨rfl, .slice none 0 0, ?_, _, m', rfl, w1, w5, w6, ?_, by rw [w2]; rfl, w4⟩
    ·simp [results, f4]
    ·refine .osl (by rw [w4]; exact .inr ⟨Nat.le_refl _, by omega⟩) rfl fun o ho hg => ?_
     refine ⟨by rw [w2, upd_same] at ho; simp only [Option.some.injEq] at ho; subst ho; rfl, ?_⟩
     unfold OslOK
     rw [w3]
     simp
   | some p =>
    refine wp_cond_false rfl (wp_skip ?_)
    refine wp_seq (wp_region ?_)
    show wpOps P #[o4, o5, o6, o7] _ [0, 1, 2, 3] _ _
    rw [wpOps_cons]
    obtain ⟨_, _, _, e4⟩ := Oper.of p4
    obtain ⟨h1, h2⟩ := hR.grown (w' := { m.w with heap := m.w.heap.push (Obj.cells #[] e (0, 0)) }) (by simp) (fun b hb => by simp [Array.getElem?_push_lt hb, hb]) ⟨rfl, rfl, fun q _ => by
     by_cases hb2 : q.block < m.w.heap.size
     ·simp [World.frozen?, Array.getElem?_push_lt hb2, hb2]
     ·have h0 : m.w.heap[q.block]? = none := by simp; omega
      by_cases hb3 : q.block = m.w.heap.size
      ·simp [World.frozen?, hb3]
      ·have h1 : (m.w.heap.push (Obj.cells #[] e (0, 0)))[q.block]? = none := by simp; omega
       simp [World.frozen?, h0, h1]⟩
    refine wpOp_value (x := .slice (some ⟨m.w.heap.size, 0, none⟩) 0 0) (w' := { m.w with heap := m.w.heap.push (Obj.cells #[] e (0, 0)) }) rfl p4 (by
     rw [e4]
     simp [execOp, Instr.buildSlice, run_underlying t1, sizeOf, typeInfo, t2, Instr.fill, newRow]
     congr 2
     apply Array.ext'; simp) ?_
    show wpOps P #[o4, o5, o6, o7] _ [1, 2, 3] ⟨#[.slice (some p) mm k, undef, .slice none 0 0, .slice (some p) mm k, .bool false, .slice (some ⟨m.w.heap.size, 0, none⟩) 0 0, undef, undef], []⟩ _
    rw [wpOps_cons]
    obtain ⟨_, _, _, e5⟩ := Oper.of p5
    refine wpOp_value (x := .slice (some p) mm k) (w' := { m.w with heap := m.w.heap.push (Obj.cells #[] e (0, 0)) }) rfl p5 (by rw [e5]; rfl) ?_
    show wpOps P #[o4, o5, o6, o7] _ [2, 3] ⟨#[.slice (some p) mm k, undef, .slice none 0 0, .slice (some p) mm k, .bool false, .slice (some ⟨m.w.heap.size, 0, none⟩) 0 0, .slice (some p) mm k, undef], []⟩ _
    rw [wpOps_cons]
    obtain ⟨ty6, _, _, e6⟩ := Oper.of p6
    have hysl : ys.length = mm * sz := by rw [← hys.1, hyl]
    have hcells : ∀ q, some p = some q → ∀ (j : Nat) (y : Value), ys[j]? = some y → ({ m.w with heap := m.w.heap.push (Obj.cells #[] e (0, 0)) } : World).cell? (q.add j) = some y := by
     intro q hq j y hy
     have h3 := hyc q hq j y hy
     have hlt := World.block_lt_of_cell? m.w _ h3
     rw [← h3]
     simp [World.cell?, Array.getElem?_push_lt hlt, hlt]
    have key : ∃ y m', (Builtin.append_ #[t, t] ty6 #[.slice (some ⟨m.w.heap.size, 0, none⟩) 0 0, .slice (some p) mm k]).run P { m.w with heap := m.w.heap.push (Obj.cells #[] e (0, 0)) } = .ok y m'.w ∧
      After S m c ⟨.osl n c 0 mm sz none, [(n, ⟨c, false, xs⟩)], rx, 1, 1, false⟩ y m' := by
     by_cases hm : mm = 0
     ·subst hm
      have hxs0 : xs = [] := List.length_eq_zero_iff.1 (by rw [hyl]; simp)
      subst hxs0
      obtain ⟨m', w1, w2, w3, w4, w5, w6⟩ := virt_obj (id := n) (o' := ⟨c, false, []⟩) (c := c) (dc := 1) h1 rfl (hfr n c (Nat.le_refl _) (by simp)) rfl rfl
      refine ⟨.slice (some ⟨m.w.heap.size, 0, none⟩) 0 0, m', ?_, w5, h2.trans w6, ?_, by rw [w2]; rfl, w4⟩
      ·rw [w1]
       have hys0 : ys = [] := List.length_eq_zero_iff.1 (by rw [hysl]; simp)
       subst hys0
       exact run_inplace_some t ty6 e i _ _ t1 t2 (p := ⟨m.w.heap.size, 0, none⟩) (b := some p) (sLen := 0) (sCap := 0) (n := 0) (k := k) (news := []) (by simp) (fun h => by cases h) (fun _ _ j y hy => by simp at hy) (Nat.le_refl _) (by simp [storeCells])
      ·refine .osl (by rw [w4]; exact .inr ⟨Nat.le_refl _, by omega⟩) rfl fun o ho hg => ?_
       refine ⟨by rw [w2, upd_same] at ho; simp only [Option.some.injEq] at ho; subst ho; rfl, ?_⟩
       unfold OslOK
       rw [w3]
       simp
     ·obtain ⟨z', m', q1, q2, q3, q4, q5, q6⟩ := grow_obj (ty := ty6) (id := n) (c := c) (sz := sz) (n0 := 0) (n1 := mm) (by_ := by_) (t := t) (e := e) (i := i) (z := z) (a := some ⟨m.w.heap.size, 0, none⟩) (b := some p) (sCap := 0) (k := k)
       (vs := []) (us := xs) (xs := []) (ys := ys) h1 t1 t2 t5 t3 t6 t4 (by rw [Nat.zero_add]; exact hfit) .nil (hys.mono h2) (by simp) hyl rfl hyo (fun h => by cases h) (fun h => by cases h) (fun _ _ j y hy => by simp at hy) hcells (by omega) (hfr n c (Nat.le_refl _) (by simp))
      rw [Nat.zero_add] at q4
      exact ⟨z', m', q1, q2, h2.trans q3, q4, by rw [q5]; rfl, q6⟩
    obtain ⟨y, m', k1, k2⟩ := key
    refine wpOp_value (x := y) (w' := m'.w) rfl p6 (by
     rw [e6]
     show Sem.run P (do let d ← resolve _ _ _; invoke d.target d.args) _ = _
     have k1' := k1
     rw [show ({ m.w with heap := m.w.heap.push (Obj.cells #[] e (0, 0)) } : World) = m.w.alloc (Obj.cells #[] e) from rfl] at k1'
     simp [resolve, invoke, builtin, Act.eval, k1']) ?_
    show wpOps P #[o4, o5, o6, o7] _ [3] ⟨#[.slice (some p) mm k, undef, .slice none 0 0, .slice (some p) mm k, .bool false, .slice (some ⟨m.w.heap.size, 0, none⟩) 0 0, .slice (some p) mm k, y], []⟩ _
    rw [wpOps_cons]
    obtain ⟨_, _, _, e7⟩ := Oper.of p7
    refine wpOp_value (x := y) (w' := m'.w) rfl p7 (by rw [e7]; rfl) ?_
    refine wp_ret ?_
    exact ⟨rfl, y, by simp [results, f4], y, m', rfl, rfl, k2⟩
  ·simp at h
 ·simp at h

/-- What makes the calls that are taken as one operation right. -/
def IndexAt (P : Program) (f : FuncId) : Prop := (∃ fn, P.funcs[f]? = some fn ∧ fn.body.isSome = true) ∧
 ∀ (s : ByteArray) (b : Int) (w : World), Calls P f #[.string s, .int .u8 b] w fun e w' => e = .returned (.int .i64 (idxByte s.data.toList b)) ∧ w' = w
def CountAt (P : Program) (f : FuncId) : Prop := (∃ fn, P.funcs[f]? = some fn ∧ fn.body.isSome = true) ∧
 ∀ (s : ByteArray) (b : UInt8) (w : World), s.size ≤ 9223372036854775807 → Calls P f #[.string s, .string ⟨#[b]⟩] w fun e w' => e = .returned (.int .i64 (cntByte s.data.toList b)) ∧ w' = w
/-- That a call is one operation is right. -/
def PrimAt [Gl] (P : Program) (f : FuncId) (p : PK) : Prop := (∃ fn, P.funcs[f]? = some fn ∧ fn.body.isSome = true) ∧
 ∀ {S : Nat → Prop} {m : M} {n c : Nat} {vs : List V} {xs : List Value} {r : Res}, primV m.h n c p vs = some r → Rel S m → Fresh m c r.dc → (r.all = true → (∃ hp : Hp, m.h = hp.get ∧ Tops hp n) ∧ m.iss = fun _ g => g < c) → RVs S m vs xs →
  Calls P f xs.toArray m.w (fun e w' => ∃ x m', e = .returned x ∧ m'.w = w' ∧ After S m c r x m')
theorem primOK [Gl] {cfg : Cfg} (h : ∀ f p, cfg.prim f = some p → (∃ a b, p = .std a b ∧ CloneAt P f a b ∧ 0 < b) ∨ (p = .std 0 0 ∧ IndexAt P f) ∨ (p = .std 1 0 ∧ CountAt P f) ∨ PrimAt P f p) : PrimOK P cfg := by
 intro f p hp
 have noclone : ∀ {look : Look} {n c k : Nat} {x : V} {r : Res}, cloneV look n c k 0 x = some r → False := fun {look n c k x r} hr => by
  unfold cloneV at hr
  split at hr
  ·split at hr
   ·rename_i hfit
    simp [fitsB] at hfit
   ·cases hr
  ·cases hr
 rcases h f p hp with ⟨p1, p2, rfl, hc, hpos⟩ | ⟨rfl, hb, hx⟩ | ⟨rfl, hb, hx⟩ | hat
 rotate_left
 ·refine ⟨hb, fun {S m n c vs xs r} hr hR hf hal hv => ?_⟩
  replace hr : primS m.h n c (0, 0) vs = some r := hr
  unfold primS at hr
  split at hr
  ·exact (noclone hr).elim
  ·rename_i s b
   simp only [ret, Option.some.injEq] at hr
   subst hr
   obtain ⟨y, ys, rfl, h1, h2⟩ := hv.cases
   obtain ⟨y2, ys2, rfl, h3, h4⟩ := h2.cases
   obtain rfl : ys2 = [] := List.length_eq_zero_iff.1 (by have := h4.1; simpa using this.symm)
   obtain rfl : y2 = .int .u8 b := h3.int_inv
   cases h1 with
   | d hd =>
    cases hd with
    | str bs l hbs =>
     refine (hx bs b m.w).mono fun e w' ⟨he, hw⟩ => ⟨_, m, he, hw.symm, After.quiet hR ?_⟩
     rw [hbs]
     exact .d (.int _ _)
  ·simp at hr
  ·cases hr
 ·refine ⟨hb, fun {S m n c vs xs r} hr hR hf hal hv => ?_⟩
  replace hr : primS m.h n c (1, 0) vs = some r := hr
  unfold primS at hr
  split at hr
  ·exact (noclone hr).elim
  ·simp at hr
  ·rename_i s b
   simp only at hr
   split at hr
   ·rename_i hlen
    simp only [ret, Option.some.injEq] at hr
    subst hr
    obtain ⟨y, ys, rfl, h1, h2⟩ := hv.cases
    obtain ⟨y2, ys2, rfl, h3, h4⟩ := h2.cases
    obtain rfl : ys2 = [] := List.length_eq_zero_iff.1 (by have := h4.1; simpa using this.symm)
    cases h1 with
    | d hd =>
     cases hd with
     | str bs l hbs =>
      cases h3 with
      | d hd3 =>
       cases hd3 with
       | str cs l3 hcs =>
        obtain rfl : cs = ⟨#[b]⟩ := by
         cases cs with | mk a => simp only at hcs; congr 1; apply Array.ext'; simpa using hcs
        refine (hx bs b m.w (by rw [← hbs] at hlen; simpa using hlen)).mono fun e w' ⟨he, hw⟩ => ⟨_, m, he, hw.symm, After.quiet hR ?_⟩
        rw [hbs]
        exact .d (.int _ _)
   ·cases hr
  ·cases hr
 ·exact hat
 refine ⟨?_, ?_⟩
 ·obtain ⟨fn, _, _, _, _, _, _, _, _, _, _, _, _, _, _, _, _, h1, h2, _⟩ := hc
  exact ⟨fn, h1, by rw [h2]; rfl⟩
 ·intro S m n c vs xs r hr hR hf hal hv
  replace hr : primS m.h n c (p1, p2) vs = some r := hr
  unfold primS at hr
  split at hr
  ·obtain ⟨y, ys, rfl, h1, h2⟩ := hv.cases
   have : ys = [] := List.length_eq_zero_iff.1 (by have := h2.1; simpa using this.symm)
   subst this
   exact cloneV_sound hc hr hR hf h1
  ·split at hr
   ·rename_i hb
    simp only [Prod.mk.injEq] at hb
    omega
   ·cases hr
  ·split at hr
   ·rename_i hb
    simp only [Prod.mk.injEq] at hb
    omega
   ·cases hr
  ·simp at hr

theorem CloneAt.of {f : FuncId} {sz by_ : Nat} {fn : Func} {t e : TypeId} {o0 o1 o2 o3 o4 o5 o6 o7 : Oper} {r0 r1 r2 r3 : Nat} (h1 : P.funcs[f]? = some fn)
  (h2 : fn.body = some (.seq (.region r0 #[o0] false) (.seq (.seq (.region r1 #[o1, o2] false) (.cond (.tmp 4) (.seq (.region r2 #[o3] false) .ret) .skip)) (.seq (.region r3 #[o4, o5, o6, o7] false) .ret))))
  (h3 : fn.ntmps = 8) (h4 : fn.results = #[.tmp 2]) (h5 : P.underlying t = some (.slice e)) (h6 : (P.info? e).map (fun i => (i.size, i.bytes, i.zero.map (·.cells.size))) = some (sz, by_, some sz))
  (p0 : OpIs o0 2 (.assign (.const (.slice none 0 0)))) (p1 : OpIs o1 3 (.move (.tmp 0))) (p2 : OpIs o2 4 (.binOp .eql t (.tmp 3) (.const (.slice none 0 0)) t)) (p3 : OpIs o3 2 (.assign (.const (.slice none 0 0))))
  (p4 : OpIs o4 5 (.buildSlice t 0 #[])) (p5 : OpIs o5 6 (.move (.tmp 0))) (p6 : OpIs o6 7 (.call ⟨.builtin .append, #[.tmp 5, .tmp 6], #[t, t]⟩)) (p7 : OpIs o7 2 (.assign (.tmp 7))) : CloneAt P f sz by_ := by
 cases hi : P.info? e with
 | none => rw [hi] at h6; simp at h6
 | some i =>
  rw [hi] at h6
  simp at h6
  obtain ⟨g1, g2, z, g3, g4⟩ := h6
  exact ⟨fn, t, e, i, z, o0, o1, o2, o3, o4, o5, o6, o7, r0, r1, r2, r3, h1, h2, h3, h4, h5, hi, g1, g2, g3, g4, p0, p1, p2, p3, p4, p5, p6, p7⟩

end Go.Ac
end

section
namespace Go.Ac
variable {P : Program}

/-! ### Data that stand for the same -/
def EqD [Gl] (x y : D) : Prop := ∀ (w : World) (av : Nat → Prop) (v : Value), RD w av x v ↔ RD w av y v
def EqV [Gl] (x y : V) : Prop := ∀ (S : Nat → Prop) (m : M) (v : Value), RV S m x v ↔ RV S m y v
def EqDs [Gl] (xs ys : List D) : Prop := xs.length = ys.length ∧ ∀ (j : Nat) (a b : D), xs[j]? = some a → ys[j]? = some b → EqD a b
def EqR [Gl] (xs ys : List (List D)) : Prop := xs.length = ys.length ∧ ∀ (j : Nat) (a b : List D), xs[j]? = some a → ys[j]? = some b → EqDs a b
def EqVs [Gl] (xs ys : List V) : Prop := xs.length = ys.length ∧ ∀ (j : Nat) (a b : V), xs[j]? = some a → ys[j]? = some b → EqV a b

theorem EqD.refl [Gl] (x : D) : EqD x x := fun _ _ _ => Iff.rfl
theorem EqD.symm [Gl] {x y : D} (h : EqD x y) : EqD y x := fun w av v => (h w av v).symm
theorem EqD.sym [Gl] {k : Nat} {y : D} (h : Gl.sy k = y) : EqD (.sym k) y := fun w av v => by
 subst h
 exact ⟨fun h => by cases h with | sym _ h => exact h, fun h => .sym k h⟩
theorem EqDs.refl [Gl] (xs : List D) : EqDs xs xs := ⟨rfl, fun j a b h1 h2 => by rw [h1] at h2; cases h2; exact .refl a⟩
theorem EqDs.symm [Gl] {xs ys : List D} (h : EqDs xs ys) : EqDs ys xs := ⟨h.1.symm, fun j a b h1 h2 => (h.2 j b a h2 h1).symm⟩
theorem EqDs.nil [Gl] : EqDs [] [] := .refl _
theorem EqDs.cons [Gl] {x y : D} {xs ys : List D} (h : EqD x y) (hs : EqDs xs ys) : EqDs (x :: xs) (y :: ys) :=
 ⟨by simp [hs.1], fun j a b h1 h2 => by
  cases j with
  | zero => simp at h1 h2; subst h1; subst h2; exact h
  | succ j => exact hs.2 j a b (by simpa using h1) (by simpa using h2)⟩
theorem EqR.refl [Gl] (xs : List (List D)) : EqR xs xs := ⟨rfl, fun j a b h1 h2 => by rw [h1] at h2; cases h2; exact .refl a⟩
theorem EqR.symm [Gl] {xs ys : List (List D)} (h : EqR xs ys) : EqR ys xs := ⟨h.1.symm, fun j a b h1 h2 => (h.2 j b a h2 h1).symm⟩
theorem EqR.nil [Gl] : EqR [] [] := .refl _
theorem EqR.cons [Gl] {x y : List D} {xs ys : List (List D)} (h : EqDs x y) (hs : EqR xs ys) : EqR (x :: xs) (y :: ys) :=
 ⟨by simp [hs.1], fun j a b h1 h2 => by
  cases j with
  | zero => simp at h1 h2; subst h1; subst h2; exact h
  | succ j => exact hs.2 j a b (by simpa using h1) (by simpa using h2)⟩
theorem get_of_len {α β : Type _} {xs : List α} {ys : List β} (h : xs.length = ys.length) {j : Nat} {b : β} (hb : ys[j]? = some b) : ∃ a, xs[j]? = some a := by
 have := (List.getElem?_eq_some_iff.1 hb).1
 exact ⟨xs[j], List.getElem?_eq_getElem (by omega)⟩
theorem EqR.imp [Gl] {xs ys : List (List D)} (h : EqR xs ys) {w : World} {av : Nat → Prop} {v : Value} (hx : RD w av (.slice xs) v) : RD w av (.slice ys) v := by
 cases hx with
 | empty a cap hc =>
  have : ys = [] := List.length_eq_zero_iff.1 (by have := h.1; simpa using this.symm)
  subst this; exact .empty a cap hc
 | slice rows b off cap sz hlen hcap hsz f hf hr =>
  rw [h.1]
  refine .slice ys b off cap sz (by rw [← h.1]; exact hlen) hcap (fun i r hi => ?_) f (fun i j r d hi hj => ?_) fun i j r d hi hj => ?_
  ·obtain ⟨q, hq⟩ := get_of_len h.1 hi
   rw [← (h.2 i q r hq hi).1]; exact hsz i q hq
  ·obtain ⟨q, hq⟩ := get_of_len h.1 hi
   obtain ⟨e, he⟩ := get_of_len (h.2 i q r hq hi).1 hj
   exact hf i j q e hq he
  ·obtain ⟨q, hq⟩ := get_of_len h.1 hi
   have hd := h.2 i q r hq hi
   obtain ⟨e, he⟩ := get_of_len hd.1 hj
   exact (hd.2 j e d he hj w av _).1 (hr i j q e hq he)
theorem EqR.slice [Gl] {xs ys : List (List D)} (h : EqR xs ys) : EqD (.slice xs) (.slice ys) := fun w av v => ⟨h.imp, h.symm.imp⟩

theorem EqV.refl [Gl] (x : V) : EqV x x := fun _ _ _ => Iff.rfl
theorem EqV.symm [Gl] {x y : V} (h : EqV x y) : EqV y x := fun S m v => (h S m v).symm
theorem EqD.v [Gl] {x y : D} (h : EqD x y) : EqV (.d x) (.d y) := fun S m v =>
 ⟨fun hx => by cases hx with | d hx => exact .d ((h _ _ _).1 hx), fun hx => by cases hx with | d hx => exact .d ((h _ _ _).2 hx)⟩
theorem EqVs.refl [Gl] (xs : List V) : EqVs xs xs := ⟨rfl, fun j a b h1 h2 => by rw [h1] at h2; cases h2; exact .refl a⟩
theorem EqVs.symm [Gl] {xs ys : List V} (h : EqVs xs ys) : EqVs ys xs := ⟨h.1.symm, fun j a b h1 h2 => (h.2 j b a h2 h1).symm⟩
theorem EqVs.nil [Gl] : EqVs [] [] := .refl _
theorem EqVs.cons [Gl] {x y : V} {xs ys : List V} (h : EqV x y) (hs : EqVs xs ys) : EqVs (x :: xs) (y :: ys) :=
 ⟨by simp [hs.1], fun j a b h1 h2 => by
  cases j with
  | zero => simp at h1 h2; subst h1; subst h2; exact h
  | succ j => exact hs.2 j a b (by simpa using h1) (by simpa using h2)⟩
theorem EqVs.imp [Gl] {xs ys : List V} (h : EqVs xs ys) {S : Nat → Prop} {m : M} {vs : List Value} (hx : RVs S m xs vs) : RVs S m ys vs :=
 ⟨h.1.symm.trans hx.1, fun j a v ha hv => by
  obtain ⟨b, hb⟩ := get_of_len h.1 ha
  exact (h.2 j b a hb ha S m v).1 (hx.2 j b v hb hv)⟩
theorem EqVs.agg [Gl] {xs ys : List V} (h : EqVs xs ys) : EqV (.agg xs) (.agg ys) := fun S m v =>
 ⟨fun hx => by
  cases hx with
  | @agg _ vs hl hx =>
   obtain ⟨h1, h2⟩ := h.imp (S := S) (m := m) (vs := vs.toList) ⟨by simpa using hl, fun j a b ha hb => hx j a b ha (by simpa using hb)⟩
   exact .agg (by simpa using h1) fun j a b ha hb => h2 j a b ha (by simpa using hb), fun hx => by
  cases hx with
  | @agg _ vs hl hx =>
   obtain ⟨h1, h2⟩ := h.symm.imp (S := S) (m := m) (vs := vs.toList) ⟨by simpa using hl, fun j a b ha hb => hx j a b ha (by simpa using hb)⟩
   exact .agg (by simpa using h1) fun j a b ha hb => h2 j a b ha (by simpa using hb)⟩
theorem EqVs.tuple [Gl] {xs ys : List V} (h : EqVs xs ys) : EqV (.tuple xs) (.tuple ys) := fun S m v =>
 ⟨fun hx => by
  cases hx with
  | @tuple _ vs hl hx =>
   obtain ⟨h1, h2⟩ := h.imp (S := S) (m := m) (vs := vs.toList) ⟨by simpa using hl, fun j a b ha hb => hx j a b ha (by simpa using hb)⟩
   exact .tuple (by simpa using h1) fun j a b ha hb => h2 j a b ha (by simpa using hb), fun hx => by
  cases hx with
  | @tuple _ vs hl hx =>
   obtain ⟨h1, h2⟩ := h.symm.imp (S := S) (m := m) (vs := vs.toList) ⟨by simpa using hl, fun j a b ha hb => hx j a b ha (by simpa using hb)⟩
   exact .tuple (by simpa using h1) fun j a b ha hb => h2 j a b ha (by simpa using hb)⟩

/-! ### Objects that stand for the same -/
def EqOb [Gl] (q o : Ob) : Prop := ∀ (S : Nat → Prop) (m : M) (a : Option (Nat × Nat)), Swap S m a q o ∧ Swap S m a o q
theorem EqOb.refl [Gl] (o : Ob) : EqOb o o := fun S m a => ⟨.refl S m a o, .refl S m a o⟩
theorem EqOb.symm [Gl] {q o : Ob} (h : EqOb q o) : EqOb o q := fun S m a => (h S m a).symm
theorem cells_imp [Gl] {xs ys : List V} (h : EqVs xs ys) (h1 : ∀ (j : Nat) (a b : V), xs[j]? = some a → ys[j]? = some b → a.one = b.one) (hk : kindL xs = 0) (hk' : kindL ys = 0) {S : Nat → Prop} {m : M} {b base : Nat} (hr : RowAt S m xs b base) : RowAt S m ys b base := by
 rw [rowAt_cells hk] at hr
 rw [rowAt_cells hk']
 obtain ⟨cs, T, fz, e1, e2, e3, e4⟩ := hr
 refine ⟨cs, T, fz, e1, e2, by rw [← h.1]; exact e3, fun j v hv => ?_⟩
 obtain ⟨a, ha⟩ := get_of_len h.1 hv
 obtain ⟨g1, x, g2, g3⟩ := e4 j a ha
 exact ⟨by rw [← h1 j a v ha hv]; exact g1, x, g2, (h.2 j a v ha hv S m x).1 g3⟩
theorem EqOb.cells [Gl] {g : Nat} {ro : Bool} {xs ys : List V} (h : EqVs xs ys) (h1 : ∀ (j : Nat) (a b : V), xs[j]? = some a → ys[j]? = some b → a.one = b.one) (hk : kindL xs = 0) (hk' : kindL ys = 0) : EqOb ⟨g, ro, xs⟩ ⟨g, ro, ys⟩ := fun S m a =>
 ⟨⟨rfl, rfl, h.1, hk.trans hk'.symm, fun _ _ _ hr => cells_imp h h1 hk hk' hr⟩, ⟨rfl, rfl, h.1.symm, hk'.trans hk.symm, fun _ _ _ hr => cells_imp h.symm (fun j a b ha hb => (h1 j b a hb ha).symm) hk' hk hr⟩⟩
theorem map_imp [Gl] {ks : List D} {vs ys : List V} {bs : List Nat} {c : Nat} (h : EqVs vs ys) {S : Nat → Prop} {m : M} {b base : Nat} (hr : RowAt S m [.mpc ks vs bs c] b base) : RowAt S m [.mpc ks ys bs c] b base := by
 obtain ⟨e1, es, e2, e3⟩ := hr
 refine ⟨e1, es, e2, e3.lk, h.1.symm.trans e3.lv, e3.lb, e3.key, fun j v e hv he => ?_, e3.born⟩
 obtain ⟨a, ha⟩ := get_of_len h.1 hv
 exact (h.2 j a v ha hv S m _).1 (e3.val j a e ha he)
theorem EqOb.map [Gl] {g : Nat} {ro : Bool} {ks : List D} {vs ys : List V} {bs : List Nat} {c : Nat} (h : EqVs vs ys) : EqOb ⟨g, ro, [.mpc ks vs bs c]⟩ ⟨g, ro, [.mpc ks ys bs c]⟩ := fun S m a =>
 ⟨⟨rfl, rfl, rfl, rfl, fun _ _ _ hr => map_imp h hr⟩, ⟨rfl, rfl, rfl, rfl, fun _ _ _ hr => map_imp h.symm hr⟩⟩

/-! ### Entries -/
theorem den_at [Gl] {cfg : Cfg} {f : FuncId} {ws : List V} {v : V} (h : den P cfg f ws = some v) : ∃ r, Ev P cfg f ws [] 0 0 r ∧ r.v = v := by
 unfold den at h
 split at h
 ·rename_i r hr
  split at h
  ·simp only [Option.some.injEq] at h
   exact ⟨r, lim_some hr, h⟩
  ·cases h
 ·cases h
/-- A call by data, told with symbols. -/
theorem data_entry [Gl] {cfg : Cfg} (hN : Pre P cfg) (hm : P.follows .mixedOrders = true) {f : FuncId} {vs vs1 : List V} {v v1 : V} {w : V × List Nat} (hden : den P cfg f vs1 = some v1) (hcl : closeArgs noLook vs1 = some (vs1, [])) (hvl : closeT noLook v1 = some w) (e : EqVs vs vs1) (ev : EqV v1 v)
  {S : Nat → Prop} {m : M} {c : Nat} {xs : List Value} (hR : Rel S m) (hv : RVs S m vs xs) :
  Calls P f xs.toArray m.w (fun en w' => ∃ x m', en = .returned x ∧ m'.w = w' ∧ After S m c ⟨v, [], [], 0, 0, false⟩ x m') := by
 obtain ⟨r, hr, hrv⟩ := den_at hden
 obtain ⟨K, hK⟩ := hr
 have hcall : callR cfg (callF P cfg K) [] 0 c f vs1 = some ⟨v1, [], [], 0, 0, false⟩ := by
  unfold callR
  have : closeArgs (if cfg.thr f then noLook else Hp.get []) vs1 = some (vs1, []) := by
   have hl : (Hp.get [] : Look) = noLook := rfl
   rw [hl]; split <;> exact hcl
  simp only [this, hK K (Nat.le_refl _), hrv, hvl]
  cases v1.flat <;> rfl
 refine Calls.mono (callR_sound (m := m) (callF_ok cfg hN hm K) hcall (fun _ _ => rfl) (fun i hi => by cases hi) (fun h => by cases h) (fun id g h1 h2 => absurd h2 (by show ¬ g < c + 0; omega)) hR (e.imp hv)) ?_
 rintro en w' ⟨x, m', rfl, rfl, a1, a2, a3, a4, a5⟩
 exact ⟨x, m', rfl, rfl, a1, a2, (ev S m' x).1 a3, a4, a5⟩

/-- What an entry by data must say. -/
structure DatOK [Gl] (P : Program) (cfg : Cfg) (f : FuncId) (vs : List V) (v : V) (vs1 : List V) (v1 : V) : Prop where
 den : den P cfg f vs1 = some v1
 cl : closeArgs noLook vs1 = some (vs1, [])
 res : (closeT noLook v1).isSome = true
 args : EqVs vs vs1
 val : EqV v1 v
theorem prim_dat [Gl] {cfg : Cfg} (hN : Pre P cfg) (hm : P.follows .mixedOrders = true) {f : FuncId} {T : List V → Option V} (hb : ∃ fn, P.funcs[f]? = some fn ∧ fn.body.isSome = true) (hT : ∀ vs v, T vs = some v → ∃ vs1 v1, DatOK P cfg f vs v vs1 v1) : PrimAt P f (.dat T) := by
 refine ⟨hb, fun {S m n c vs xs r} hr hR hf hal hv => ?_⟩
 unfold primV at hr
 simp only at hr
 split at hr
 ·rename_i ws ids hcl
  split at hr
  ·rename_i v hTv
   simp only [Option.some.injEq] at hr; subst hr
   obtain ⟨vs1, v1, hD⟩ := hT _ _ hTv
   obtain ⟨w, hw⟩ := Option.isSome_iff_exists.1 hD.res
   obtain ⟨m1, e1, hby⟩ := ros hR ids
   have hws : RVs S m1 ws xs := closeVs_sound (fun g1 g2 g3 => closeA_sound hR g1 g2 hby g3) hcl hv (fun i hi => hi)
   have := data_entry hN hm hD.den hD.cl hw hD.args hD.val (S := S) (m := m1) (c := c) hby.rel hws
   rw [hby.w] at this
   refine Calls.mono this ?_
   rintro en w' ⟨x, m', rfl, rfl, a1, a2, a3, a4, a5⟩
   refine ⟨x, m', rfl, rfl, a1, hby.evo.trans a2, a3, ?_, ?_⟩
   ·rw [a4, e1]; rfl
   ·rw [a5, hby.iss]
  ·cases hr
 ·cases hr
end Go.Ac
end

section
namespace Go.Ac
open Go.Proofs
def pow10Tab : List D := [.int .u64 1, .int .u64 10, .int .u64 100, .int .u64 1000, .int .u64 10000, .int .u64 100000, .int .u64 1000000, .int .u64 10000000, .int .u64 100000000, .int .u64 1000000000, .int .u64 10000000000, .int .u64 100000000000, .int .u64 1000000000000, .int .u64 10000000000000, .int .u64 100000000000000, .int .u64 1000000000000000, .int .u64 10000000000000000, .int .u64 100000000000000000, .int .u64 1000000000000000000, .int .u64 10000000000000000000]
/-- What the symbols stand for. -/
class GwR where
 s : List UInt8
 hd : List (List D)
 lp : List (List D)
 kd : Int
 ty : Int
 va : Int
 ar : List (List D)
 pn : Int
 hn : Int
 bit : Nat → Int
 ks : Nat → Int
def syW [GwR] (k : Nat) : D := match k with
 | 0 => .str GwR.s
 | 1 => .slice GwR.hd
 | 2 => .slice GwR.lp
 | 10 => .int .i64 GwR.kd
 | 11 => .int .i64 GwR.ty
 | 12 => .int .i64 GwR.va
 | 13 => .slice GwR.ar
 | 14 => .int .i64 GwR.pn
 | 15 => .int .i64 GwR.hn
 | k => if k < 2000 then .int .i64 (GwR.bit (k - 1000)) else .int .i64 (GwR.ks (k - 2000))
def skW (k : Nat) : Option IntKind := if k < 10 then none else match k with
 | 13 => none
 | _ => some .i64
def snW [GwR] (k : Nat) : Option Nat := match k with
 | 0 => some (GwR.s.length)
 | _ => none
def gvW (g : Nat) : V := match g with
 | 1 => .vref pow10Tab
 | _ => .any
instance [GwR] : Gl where
 gv := gvW
 ok := fun g => by
  match g with
  | 0 => exact .inl rfl
  | 1 => exact .inr ⟨_, rfl⟩
  | g + 2 => exact .inl rfl
 sy := syW
 sn := snW
 sk := skW
 snOK := by
  intro k n h
  unfold snW at h
  split at h
  ·cases h; exact ⟨_, rfl, rfl⟩
  ·cases h
 skOK := by
  intro k q h
  unfold skW at h
  split at h
  ·cases h
  ·rename_i hk
   split at h
   ·cases h
   ·rename_i h13
    cases h
    unfold syW
    split <;> first | exact ⟨_, rfl⟩ | (exfalso; revert h13; simp; done) | (exfalso; omega) | (split <;> exact ⟨_, rfl⟩)
def zi (n : Nat) : D := .int .i64 (.ofNat n)
def m1 : List UInt8 := [109, 95, 49]
def cInt (d : D) : List D := [zi 1, zi 0, zi 2, d, .str [], .slice []]
def cSt : List D := [zi 12, zi 0, zi 0, zi 0, .str m1, .slice []]
def cOp (o : Nat) (a b : List D) : List D := [zi 3, zi o, zi 0, zi 0, .str [], .slice [a, b]]
def cIf (a b c : List D) : List D := [zi 4, zi 0, zi 0, zi 0, .str [], .slice [a, b, c]]
/-- The expression of the letters; that of the next number. -/
def row1 : List D := [.sym 10, zi 0, .sym 11, .sym 12, .str [], .sym 13]
def row2 : List D := cIf (cOp 11 cSt (cInt (.sym 14))) (cInt (.sym 15)) (cOp 6 cSt (cInt (zi 1)))
def stm (k : Nat) (nm : List UInt8) (r : List D) : List D := [zi k, .str nm, zi 0] ++ r ++ [.slice [], .slice [], .slice []]
def wordV : V := .agg [.d (.sym 1), .d (.sym 2)]
def isRow (es : List V) (r : List D) : Bool := beqVs es (r.map .d)
def p37 : List V → Option V
 | [.d (.sym 0)] => some (.tuple [wordV, .d (zi 0)])
 | _ => none
def p86 : List V → Option V
 | [.agg [.d (.sym 1), .d (.sym 2)], .d (.str [98]), .d (.str [109, 95, 49])] => some (.d (.slice [stm 1 [98] row1, stm 2 m1 row2]))
 | _ => none
def p355 : List V → Option V
 | [.agg es] => if isRow es row1 || isRow es row2 then some (.d (.bool false)) else none
 | _ => none
def p418 : List V → Option V
 | [.agg es] => if isRow es row1 || isRow es row2 then some (.d (.bool true)) else none
 | _ => none
/-- The class of the word's node: its cells. -/
def clsC : List V := [.d (.str [102]), .d (.slice []), .d (.slice [[.str [98], zi 1, .slice []]]), .d (.slice []), .d (.slice [[.str m1, zi 2, zi 0]]), .d (.slice []), .d (.slice [stm 1 [98] row1, stm 2 m1 row2])]
def isOb (o : Ob) (g : Nat) (l : List V) : Bool := Nat.beq o.gen g && !o.ro && beqVs o.cells l
def p419 : List V → Option (List Nat × (List (Option Ob) → Nat → Nat → Option Res))
 | [.ptr a g 0, .agg es, .agg [.d (.slice []), .d (.slice [[.slice pre]])]] =>
  match (if isRow es row1 && pre.isEmpty then some 1 else if isRow es row2 && (match pre with | [r] => beqVs (r.map .d) ((stm 1 [98] row1).map .d) | _ => false) then some 2 else none) with
  | some ty => some ([a, 3, 4, 5, 6], fun obs _ _ => match obs with
   | [some oc, some o3, some o4, some o5, some o6] =>
    if isOb oc g ([.d (.slice []), .d (.slice [])] ++ clsC ++ [.mp 3 o3.gen, .mp 4 o4.gen, .mp 5 o5.gen, .mp 6 o6.gen]) && isOb o3 o3.gen [.mpc [.str [98]] [.d (zi 1)] [0] 1] && isOb o4 o4.gen [.mpc [.str [98]] [.d (.bool true)] [0] 1] &&
     isOb o5 o5.gen [.mpc [.str m1] [.d (zi 2)] [0] 1] && isOb o6 o6.gen [.mpc [] [] [] 0] then some ⟨.tuple [.d (zi ty), .d (zi 0)], [], [], 0, 4096, true⟩ else none
   | _ => none)
  | none => none
 | _ => none
def p130 : List V → Option V
 | [.d (.slice l)] => match l with
  | [] => some (.d (.slice []))
  | [r] => if beqVs (r.map .d) (row1.map .d) || beqVs (r.map .d) (row2.map .d) then some (.d (.slice l)) else none
  | _ => none
 | [.full []] => some (.d (.slice []))
 | _ => none
def MID : Nat := 11
/-- The map of the variables of a step: empty, or b. -/
def isVars (o : Ob) : Bool := !o.ro && (beqVs o.cells [.mpc [] [] [] 0] || (match o.cells with
 | [.mpc [.str [98]] [.d (.sym q)] [0] 1] => decide (1000 ≤ q)
 | [.mpc [.str [98]] [.d (.int .i64 0)] [0] 1] => true
 | _ => false))
def memK (o : Ob) : Option Nat := match o.cells with
 | [.mpc [.str k] [.d (.int .i64 0)] [0] 1] => if k = m1 then some 0 else none
 | [.mpc [.str k] [.d (.sym q)] [0] 1] => if k = m1 && decide (2000 < q) && decide (q < 2900) then some (q - 2000) else none
 | _ => none
def p132 : List V → Option (List Nat × (List (Option Ob) → Nat → Nat → Option Res))
 | [.agg [.ptr a g 0, .mp v gv], .agg es] =>
  match (if isRow es row1 then some 1000 else if isRow es row2 then some 2001 else none) with
  | some q => some ([a, MID, v], fun obs _ _ => match obs with
   | [some ox, some om, some ov] => match ox.cells with
    | [_, _, _, _, _, _, _, _, .mp _ gm, .mp ii gi] =>
     if isOb ox g ([.d (.slice [])] ++ clsC ++ [.mp MID gm, .mp ii gi]) && Nat.beq om.gen gm && !om.ro && Nat.beq ov.gen gv && isVars ov then
      match memK om with
      | some t => some ⟨.d (.sym (q + t)), [], [], 0, 4096, true⟩
      | none => none
     else none
    | _ => none
   | _ => none)
  | none => none
 | _ => none
def p415 : List V → Option (List Nat × (List (Option Ob) → Nat → Nat → Option Res))
 | [.ptr o g 0, .ptr _ _ _, _, .d (.bool true)] => some ([o], fun obs _ _ => match obs with
  | [some ob] => match ob.cells with
   | [c0, c1, c2, c3, c4, c5, c6, c7, c8, c9, c10, .d (.sym 1), .d (.sym 2), .d (.int .i64 k), c14] => if Nat.beq ob.gen g && !ob.ro && decide (0 ≤ k) && decide (k < 200) then
     some ⟨.agg [.d (zi 1), .d (.sym (1000 + k.toNat))], [(o, ⟨g, false, [c0, c1, c2, c3, c4, c5, c6, c7, c8, c9, c10, .d (.sym 1), .d (.sym 2), .d (.int .i64 (k + 1)), c14]⟩)], [], 0, 4096, true⟩ else none
   | _ => none
  | _ => none)
 | _ => none
def thrM : Nat := 23315179458999327484633121351784121648883998575957994718697919898209495017342882971769979545405165558347580612096523100803218930072408234912793600
def thrB (f : Nat) : Bool := match Nat.land (Nat.shiftRight thrM f) 1 with
 | 0 => false
 | _ => true
def prim2 (f : Nat) : Option PK := match f with
 | 19 => some (.std 1 16)
 | 56 => some (.std 3 32)
 | 65 => some (.std 3 48)
 | 66 => some (.std 3 32)
 | 67 => some (.std 2 32)
 | 103 => some (.std 2 40)
 | 168 => some (.std 7 96)
 | 234 => some (.std 8 88)
 | 282 => some (.std 1 24)
 | 357 => some (.std 2 24)
 | 291 => some (.std 0 0)
 | 37 => some (.dat p37)
 | 86 => some (.dat p86)
 | 355 => some (.dat p355)
 | 418 => some (.dat p418)
 | 419 => some (.tab p419)
 | 130 => some (.dat p130)
 | 132 => some (.tab p132)
 | 415 => some (.tab p415)
 | _ => none
def own2 (f : Nat) : Bool := match f with
 | 3 => false
 | 7 => false
 | _ => true
/-- The two loops over the instants: what is wanted at their heads; the list of rows is an object, its rows are data. -/
def keep2 (f r : Nat) : Option (List Nat) := match f with
 | 3 => match r with
  | 14 => some [16, 14, 12, 11]
  | 15 => some [16, 14, 12, 11, 100]
  | 16 => some [16, 14, 12, 11]
  | _ => none
 | 7 => match r with
  | 8 => some [32, 31, 30, 11, 10]
  | 9 => some [32, 31, 30, 11, 10, 33]
  | 12 => some [32, 31, 30, 11, 10, 14, 43]
  | 14 => some [32, 31, 30, 11, 10]
  | 15 => some [32, 31, 30, 11, 10]
  | _ => none
 | _ => none
def fz2 (f r : Nat) : Bool × Bool := match f with
 | 7 => match r with
  | 14 => (true, false)
  | _ => (false, false)
 | _ => (false, false)
def mat2 (f r : Nat) : List (Nat × Option Nat × Nat) := match f with
 | 7 => match r with
  | 8 => [(10, none, 1)]
  | _ => []
 | _ => []
def cfg2 : Cfg := { prim := prim2, thr := thrB, own := own2, fz := fz2, keep := keep2, mat := mat2 }
end Go.Ac
end

section
namespace Go.Ac

def Ob.k31 (r : Nat) : Option (List Nat) := match r with
 | 0 => some [0, 1, 2]
 | 1 => some [0, 1, 2, 8]
 | 2 => some [6]
 | 3 => some [6]
 | _ => none
def Ob.k37 (r : Nat) : Option (List Nat) := match r with
 | 0 => some [0, 2]
 | 1 => some [0, 2, 16]
 | 2 => some [2, 3]
 | 3 => some [2, 4, 5, 6]
 | 4 => some [2, 4, 6, 7, 8]
 | 5 => some [2, 6, 7, 8, 9, 10]
 | 6 => some [2, 6, 8, 9, 10, 11, 12]
 | 7 => some [2, 6, 8, 10, 12, 13]
 | 8 => some [2, 13, 60]
 | 9 => some [2, 3]
 | 10 => some [2, 3]
 | _ => none
def Ob.k58 (r : Nat) : Option (List Nat) := match r with
 | 0 => some [0, 1]
 | 1 => some [0, 1, 7, 8]
 | 2 => some [0, 1, 7, 8, 9]
 | 3 => some [0, 1, 5, 7, 8]
 | 4 => some [0, 1, 5, 7, 8, 16]
 | 5 => some [4]
 | 6 => some [0, 1, 7, 8]
 | 7 => some [4]
 | _ => none
def Ob.k69 (r : Nat) : Option (List Nat) := match r with
 | 0 => some [0]
 | 1 => some [2]
 | _ => none
def Ob.k70 (r : Nat) : Option (List Nat) := match r with
 | 0 => some [0, 1]
 | 1 => some [0, 1, 7]
 | 2 => some [0, 1, 7, 8]
 | 3 => some [4]
 | 4 => some [0, 1, 10]
 | 5 => some [4]
 | 6 => some [5]
 | 7 => some [4]
 | _ => none
def Ob.k74 (r : Nat) : Option (List Nat) := match r with
 | 0 => some [0, 1]
 | 1 => some [4, 5, 6]
 | _ => none
def Ob.k75 (r : Nat) : Option (List Nat) := match r with
 | 0 => some [0, 1]
 | 1 => some [4, 5]
 | _ => none
def Ob.k76 (r : Nat) : Option (List Nat) := match r with
 | 0 => some [0]
 | 1 => some [0, 4]
 | 2 => some [0, 4, 7, 8]
 | 3 => some [0, 4, 7, 8, 9]
 | 4 => some [0, 4, 5, 7, 8]
 | 5 => some [0, 4, 5, 7, 8, 20]
 | 6 => some [2, 3]
 | 7 => some [0, 4, 7, 8]
 | 8 => some [0, 4, 7, 8]
 | 9 => some [2, 3]
 | _ => none
def Ob.k77 (r : Nat) : Option (List Nat) := match r with
 | 0 => some [1]
 | 1 => some [1, 3]
 | 2 => some [2]
 | 3 => some [8]
 | 4 => some [2]
 | 5 => some [2]
 | _ => none
def Ob.k83 (r : Nat) : Option (List Nat) := match r with
 | 0 => some [0, 2]
 | 1 => some [2]
 | _ => none
def Ob.k86 (r : Nat) : Option (List Nat) := match r with
 | 0 => some [1, 2, 3]
 | 1 => some [1, 2, 3, 7]
 | 2 => some [1, 2, 3, 7, 8]
 | 3 => some [1, 2, 7, 8, 9]
 | 4 => some [6]
 | _ => none
def Ob.k92 (r : Nat) : Option (List Nat) := match r with
 | 0 => some [0, 1]
 | 1 => some [4]
 | _ => none
def Ob.k129 (r : Nat) : Option (List Nat) := match r with
 | 0 => some [3, 4, 5]
 | 1 => some [6]
 | _ => none
def Ob.k130 (r : Nat) : Option (List Nat) := match r with
 | 0 => some [0]
 | 1 => some [0, 3]
 | 2 => some [3, 6, 7, 8]
 | 3 => some [3, 6, 7, 8, 9]
 | 4 => some [3, 5, 6, 7, 8]
 | 5 => some [3, 5, 6, 7, 8]
 | 6 => some [3, 6, 7, 8]
 | 7 => some [3, 6, 7, 8]
 | 8 => some [2]
 | _ => none
def Ob.k131 (r : Nat) : Option (List Nat) := match r with
 | 0 => some [0, 1, 4]
 | 1 => some [0, 1, 4, 14]
 | 2 => some [4, 5]
 | 3 => some [4, 5]
 | _ => none
def Ob.k132 (r : Nat) : Option (List Nat) := match r with
 | 0 => some [2, 3]
 | 1 => some [2, 3, 9]
 | 2 => some [2, 3, 9, 10]
 | 3 => some [4]
 | 4 => some [2, 3, 9, 14]
 | 5 => some [4]
 | 6 => some [2, 3, 21]
 | 7 => some [4]
 | 8 => some [3, 5]
 | 9 => some [3, 5, 37]
 | 10 => some [5, 41]
 | 11 => some [4]
 | 12 => some [4]
 | 13 => some [6]
 | 14 => some [4]
 | _ => none
def Ob.k133 (r : Nat) : Option (List Nat) := match r with
 | 0 => some [1, 2]
 | 1 => some [1, 2, 5]
 | 2 => some [2, 5, 8, 9, 10]
 | 3 => some [2, 5, 8, 9, 10, 11]
 | 4 => some [2, 5, 7, 8, 9, 10]
 | 5 => some [2, 5, 8, 9, 10]
 | 6 => some [2, 5, 8, 9, 10]
 | 7 => some [4]
 | _ => none
def Ob.k136 (r : Nat) : Option (List Nat) := match r with
 | 0 => some [0, 1]
 | 1 => some [0, 1, 7]
 | 2 => some [0, 1, 7, 12]
 | 3 => some [4, 5, 6]
 | 4 => some [4, 5, 6]
 | _ => none
def Ob.k137 (r : Nat) : Option (List Nat) := match r with
 | 0 => some [0, 1]
 | 1 => some [0, 1, 9]
 | 2 => some [4, 5]
 | 3 => some [4, 5]
 | _ => none
def Ob.k141 (r : Nat) : Option (List Nat) := match r with
 | 0 => some [0]
 | 1 => some [0, 3]
 | 2 => some [0, 3, 9, 10, 11]
 | 3 => some [0, 3, 9, 10, 11, 12]
 | 4 => some [0, 3, 5, 9, 10, 11]
 | 5 => some [0, 3, 9, 10, 11]
 | 6 => some [0, 3, 9, 10, 11, 20]
 | 7 => some [0, 3, 9, 10, 11]
 | 8 => some [0, 3, 9, 10, 11]
 | 9 => some [0, 6]
 | 10 => some [6, 25, 26, 27]
 | 11 => some [6, 25, 26, 27, 28]
 | 12 => some [6, 8, 25, 26, 27]
 | 13 => some [6, 25, 26, 27]
 | 14 => some [6, 25, 26, 27]
 | 15 => some [2]
 | _ => none
def Ob.k142 (r : Nat) : Option (List Nat) := match r with
 | 0 => some [3, 4, 5, 6]
 | 1 => some [6]
 | _ => none
def Ob.k143 (r : Nat) : Option (List Nat) := match r with
 | 0 => some [0, 4, 5, 6]
 | 1 => some [6]
 | _ => none
def Ob.k144 (r : Nat) : Option (List Nat) := match r with
 | 0 => some [0, 2]
 | 1 => some [2]
 | _ => none
def Ob.k145 (r : Nat) : Option (List Nat) := match r with
 | 0 => some [0, 1, 2, 3, 8]
 | 1 => some [0, 1, 2, 3, 8, 21]
 | 2 => some [0, 2, 8, 9]
 | 3 => some [8, 9, 26]
 | 4 => some [8, 9]
 | 5 => some [8]
 | 6 => some [0, 1, 2, 3, 8, 10]
 | 7 => some [8]
 | _ => none
def Ob.k149 (r : Nat) : Option (List Nat) := match r with
 | 0 => some [0, 1]
 | 1 => some [0, 1, 7, 8]
 | 2 => some [0, 1, 7, 8, 9]
 | 3 => some [0, 1, 5, 7, 8]
 | 4 => some [0, 1, 5, 7, 8, 16]
 | 5 => some [4]
 | 6 => some [0, 1, 7, 8]
 | 7 => some [4]
 | _ => none
def Ob.k199 (r : Nat) : Option (List Nat) := match r with
 | 0 => some [0, 1]
 | 1 => some [4]
 | _ => none
def Ob.k206 (r : Nat) : Option (List Nat) := match r with
 | 0 => some [0, 1]
 | 1 => some [4]
 | _ => none
def Ob.k207 (r : Nat) : Option (List Nat) := match r with
 | 0 => some [0, 1, 2, 3]
 | 1 => some [5]
 | _ => none
def Ob.k208 (r : Nat) : Option (List Nat) := match r with
 | 0 => some [0, 5, 6, 7]
 | 1 => some [8]
 | _ => none
def Ob.k209 (r : Nat) : Option (List Nat) := match r with
 | 0 => some [0, 1]
 | 1 => some [0, 1, 6, 7]
 | 2 => some [0, 1, 6, 7, 17]
 | 3 => some [4, 5]
 | 4 => some [0, 1, 6, 7, 20]
 | 5 => some [4, 5]
 | 6 => some [0, 1, 6, 7, 25, 26, 27]
 | 7 => some [0, 1, 6, 7, 25, 26, 27, 28]
 | 8 => some [0, 1, 6, 7, 9, 25, 26, 27]
 | 9 => some [0, 1, 6, 7, 25, 26, 27, 53]
 | 10 => some [4, 5]
 | 11 => some [0, 1, 6, 7, 25, 26, 27]
 | 12 => some [0, 6, 10, 11]
 | 13 => some [0, 10, 11, 64]
 | 14 => some [4, 5]
 | 15 => some [4, 5]
 | _ => none
def Ob.k211 (r : Nat) : Option (List Nat) := match r with
 | 0 => some [0, 1]
 | 1 => some [0, 1, 5]
 | 2 => some [0, 1, 5, 16]
 | 3 => some [4]
 | 4 => some [0, 1, 5, 24]
 | 5 => some [4]
 | 6 => some [0, 1, 5, 31]
 | 7 => some [4]
 | 8 => some [0, 1, 5, 36]
 | 9 => some [4]
 | 10 => some [0, 1, 5, 6]
 | 11 => some [0, 1, 5, 6, 7]
 | 12 => some [0, 1, 5, 6, 7, 8]
 | 13 => some [0, 1, 5, 6, 7, 8, 9]
 | 14 => some [0, 1, 5, 6, 7, 8, 9, 10]
 | 15 => some [0, 1, 5, 6, 7, 8, 9, 10, 59]
 | 16 => some [0, 1, 5, 6, 7, 8, 9, 10, 64]
 | 17 => some [0, 1, 5, 6, 7, 8, 9, 10, 11]
 | 18 => some [0, 1, 5, 6, 7, 8, 9, 10, 11, 73]
 | 19 => some [4]
 | 20 => some [0, 1, 5, 6, 7, 8, 9, 10]
 | 21 => some [0, 1, 5, 6, 7, 8, 9, 10, 93]
 | 22 => some [4]
 | 23 => some [0, 1, 5, 6, 7, 8, 9, 10]
 | 24 => some [0, 1, 5, 6, 7, 8, 9, 10]
 | 25 => some [0, 1, 5, 6, 7, 8, 9, 10, 107]
 | 26 => some [8, 12]
 | 27 => some [8, 12, 114]
 | 28 => some [4]
 | 29 => some [4]
 | 30 => some [0, 1, 5, 6, 7, 8, 9, 10, 132]
 | 31 => some [8, 13]
 | 32 => some [8, 13, 139]
 | 33 => some [4]
 | 34 => some [4]
 | 35 => some [4]
 | _ => none
def Ob.k212 (r : Nat) : Option (List Nat) := match r with
 | 0 => some [0, 1]
 | 1 => some [4]
 | _ => none
def Ob.k214 (r : Nat) : Option (List Nat) := match r with
 | 0 => some [0, 1]
 | 1 => some [0, 1, 6]
 | 2 => some [0, 1]
 | 3 => some [0, 1]
 | 4 => some [0, 1, 16]
 | 5 => some [0]
 | 6 => some [4]
 | _ => none
def Ob.k215 (r : Nat) : Option (List Nat) := match r with
 | 0 => some [0, 1]
 | 1 => some [4]
 | _ => none
def Ob.k225 (r : Nat) : Option (List Nat) := match r with
 | 0 => some [0, 1]
 | 1 => some [1, 6, 7]
 | 2 => some [1, 6, 7, 15]
 | 3 => some [4, 5]
 | 4 => some [1, 6, 18]
 | 5 => some [4, 5]
 | 6 => some [1, 6, 23, 24, 25]
 | 7 => some [1, 6, 23, 24, 25, 26]
 | 8 => some [1, 6, 9, 23, 24, 25]
 | 9 => some [1, 6, 9, 23, 24, 25, 29]
 | 10 => some [1, 6, 23, 24, 25, 31]
 | 11 => some [4, 5]
 | 12 => some [1, 6, 9, 23, 24, 25, 29, 32]
 | 13 => some [1, 6, 23, 24, 25, 35]
 | 14 => some [4, 5]
 | 15 => some [1, 6, 9, 23, 24, 25, 36]
 | 16 => some [1, 6, 23, 24, 25, 46]
 | 17 => some [4, 5]
 | 18 => some [1, 6, 23, 24, 25]
 | 19 => some [49]
 | 20 => some [4, 5]
 | 21 => some [4, 5]
 | _ => none
def Ob.k276 (r : Nat) : Option (List Nat) := match r with
 | 0 => some [0, 1]
 | 1 => some [0, 1, 7, 8]
 | 2 => some [0, 1, 7, 8, 9]
 | 3 => some [0, 1, 5, 7, 8]
 | 4 => some [0, 1, 5, 7, 8, 16]
 | 5 => some [4]
 | 6 => some [0, 1, 7, 8]
 | 7 => some [4]
 | _ => none
def Ob.k283 (r : Nat) : Option (List Nat) := match r with
 | 0 => some [0, 1]
 | 1 => some [0, 1, 7, 8]
 | 2 => some [0, 1, 7, 8, 9]
 | 3 => some [0, 1, 5, 7, 8]
 | 4 => some [0, 1, 5, 7, 8, 16]
 | 5 => some [4]
 | 6 => some [0, 1, 7, 8]
 | 7 => some [4]
 | _ => none
def Ob.k284 (r : Nat) : Option (List Nat) := match r with
 | 0 => some [0, 1]
 | 1 => some [4]
 | _ => none
def Ob.k285 (r : Nat) : Option (List Nat) := match r with
 | 0 => some [1, 2, 3, 4]
 | 1 => some [5]
 | _ => none
def Ob.k286 (r : Nat) : Option (List Nat) := match r with
 | 0 => some [1, 2, 3, 4]
 | 1 => some [1, 2, 3, 4, 14]
 | 2 => some [1, 2, 3, 4, 14, 15]
 | 3 => some [8]
 | 4 => some [1, 2, 3, 4, 14, 21]
 | 5 => some [8]
 | 6 => some [1, 2, 3, 4, 27]
 | 7 => some [1, 2, 3, 4, 9]
 | 8 => some [1, 2, 3, 4, 9, 33]
 | 9 => some [1, 2, 3, 4, 10]
 | 10 => some [8]
 | 11 => some [1, 2, 3, 4, 60, 61, 62]
 | 12 => some [1, 2, 3, 4, 60, 61, 62, 63]
 | 13 => some [1, 2, 3, 4, 11, 12, 60, 61, 62]
 | 14 => some [1, 2, 3, 4, 60, 61, 62, 80]
 | 15 => some [8]
 | 16 => some [1, 2, 3, 4, 60, 61, 62]
 | 17 => some [8]
 | 18 => some [8]
 | _ => none
def Ob.k287 (r : Nat) : Option (List Nat) := match r with
 | 0 => some [0]
 | 1 => some [0, 3]
 | 2 => some [3, 4]
 | 3 => some [3, 4, 5]
 | 4 => some [3, 4, 7]
 | 5 => some [3, 4, 7]
 | 6 => some [3, 4, 7]
 | 7 => some [3, 4, 11]
 | 8 => some [3, 4, 13]
 | 9 => some [3, 4, 13]
 | 10 => some [3, 4, 13]
 | 11 => some [3, 4, 13]
 | 12 => some [3, 4, 13]
 | 13 => some [3, 4, 19]
 | 14 => some [3, 4, 19]
 | 15 => some [3, 4, 22]
 | 16 => some [3, 4, 22]
 | 17 => some [3, 4, 22]
 | 18 => some [3, 22]
 | 19 => some [3]
 | 20 => some [2, 3]
 | 21 => some [3]
 | 22 => some [2, 3]
 | 23 => some [2, 3]
 | 24 => some [2, 3]
 | 25 => some [2, 3]
 | _ => none
def Ob.k288 (r : Nat) : Option (List Nat) := match r with
 | 0 => some [0, 1, 2]
 | 1 => some [1, 2, 7]
 | 2 => some [1, 2, 7, 8]
 | 3 => some [6]
 | 4 => some [1, 2, 7, 12]
 | 5 => some [6]
 | 6 => some [1, 2, 7, 17]
 | 7 => some [6]
 | 8 => some [1, 2, 7, 22]
 | 9 => some [6]
 | 10 => some [1, 2, 27]
 | 11 => some [6]
 | 12 => some [6]
 | _ => none
def Ob.k289 (r : Nat) : Option (List Nat) := match r with
 | 0 => some [0]
 | 1 => some [3]
 | 2 => some [2]
 | 3 => some [2]
 | _ => none
def Ob.k290 (r : Nat) : Option (List Nat) := match r with
 | 0 => some [0, 1, 2]
 | 1 => some [1, 2, 7]
 | 2 => some [1, 2, 7, 8]
 | 3 => some [6]
 | 4 => some [1, 2, 7, 12]
 | 5 => some [6]
 | 6 => some [1, 2, 7, 20]
 | 7 => some [6]
 | 8 => some [1, 2, 7, 28]
 | 9 => some [6]
 | 10 => some [1, 2, 7, 33]
 | 11 => some [1, 2, 7, 33]
 | 12 => some [6]
 | 13 => some [1, 2, 7, 39]
 | 14 => some [6]
 | 15 => some [1, 2, 7, 44]
 | 16 => some [6]
 | 17 => some [1, 2, 49]
 | 18 => some [6]
 | 19 => some [6]
 | _ => none
def Ob.k291 (r : Nat) : Option (List Nat) := match r with
 | 0 => some [0, 1]
 | 1 => some [4]
 | _ => none
def Ob.k293 (r : Nat) : Option (List Nat) := match r with
 | 0 => some [0]
 | 1 => some [2]
 | _ => none
def Ob.k294 (r : Nat) : Option (List Nat) := match r with
 | 0 => some [0, 1]
 | 1 => some [0, 1, 5, 6]
 | 2 => some [0, 1, 5, 6, 7]
 | 3 => some [0, 1, 5, 6, 7, 8]
 | 4 => some [0, 1, 5, 6, 7, 8, 9]
 | 5 => some [0, 1, 5, 6, 7, 8, 9, 20]
 | 6 => some [0, 1, 5, 6, 7, 8, 9]
 | 7 => some [0, 1, 5, 6, 7, 8, 9]
 | 8 => some [0, 1, 5, 6, 7, 8, 39]
 | 9 => some [4]
 | 10 => some [0, 1, 5, 6, 7, 8, 10]
 | 11 => some [0, 1, 5, 6, 7, 8, 10, 44]
 | 12 => some [0, 1, 5, 6, 7, 8, 10]
 | 13 => some [0, 1, 5, 6, 7, 8, 10]
 | 14 => some [0, 1, 5, 6, 7, 8, 10]
 | 15 => some [0, 1, 5, 6, 7, 8, 10]
 | 16 => some [0, 1, 5, 6, 7, 8, 10, 77]
 | 17 => some [4]
 | 18 => some [4]
 | _ => none
def Ob.k296 (r : Nat) : Option (List Nat) := match r with
 | 0 => some [0, 1]
 | 1 => some [0, 1, 7, 8]
 | 2 => some [0, 1, 7, 8, 9]
 | 3 => some [0, 1, 5, 7, 8]
 | 4 => some [0, 1, 5, 7, 8, 16]
 | 5 => some [4]
 | 6 => some [0, 1, 7, 8]
 | 7 => some [4]
 | _ => none
def Ob.k311 (r : Nat) : Option (List Nat) := match r with
 | 0 => some [0, 1]
 | 1 => some [4]
 | _ => none
def Ob.k355 (r : Nat) : Option (List Nat) := match r with
 | 0 => some [1]
 | 1 => some [2]
 | _ => none
def Ob.k356 (r : Nat) : Option (List Nat) := match r with
 | 0 => some [0, 4, 5]
 | 1 => some [18]
 | 2 => some [6]
 | 3 => some [6]
 | _ => none
def Ob.k357 (r : Nat) : Option (List Nat) := match r with
 | 0 => some [0]
 | 1 => some [0, 4]
 | 2 => some [2]
 | 3 => some [2]
 | _ => none
def Ob.k360 (r : Nat) : Option (List Nat) := match r with
 | 0 => some [0, 1]
 | 1 => some [0, 1, 7, 8]
 | 2 => some [0, 1, 7, 8, 9]
 | 3 => some [0, 1, 5, 7, 8]
 | 4 => some [0, 1, 5, 7, 8, 16]
 | 5 => some [4]
 | 6 => some [0, 1, 7, 8]
 | 7 => some [4]
 | _ => none
def Ob.k361 (r : Nat) : Option (List Nat) := match r with
 | 0 => some [0, 1]
 | 1 => some [0, 1, 7, 8]
 | 2 => some [0, 1, 7, 8, 9]
 | 3 => some [0, 1, 5, 7, 8]
 | 4 => some [0, 1, 5, 7, 8, 16]
 | 5 => some [4]
 | 6 => some [0, 1, 7, 8]
 | 7 => some [4]
 | _ => none
def Ob.k362 (r : Nat) : Option (List Nat) := match r with
 | 0 => some [1, 2]
 | 1 => some [3]
 | _ => none
def Ob.k363 (r : Nat) : Option (List Nat) := match r with
 | 0 => some [0]
 | 1 => some [2]
 | _ => none
def Ob.k364 (r : Nat) : Option (List Nat) := match r with
 | 0 => some [0, 1]
 | 1 => some [4]
 | _ => none
def Ob.k365 (r : Nat) : Option (List Nat) := match r with
 | 0 => some [0, 1]
 | 1 => some [4]
 | _ => none
def Ob.k366 (r : Nat) : Option (List Nat) := match r with
 | 0 => some [0, 1]
 | 1 => some [4]
 | _ => none
def Ob.k367 (r : Nat) : Option (List Nat) := match r with
 | 0 => some [0, 1]
 | 1 => some [0, 1]
 | 2 => some [0, 1, 10]
 | 3 => some [4]
 | 4 => some [4]
 | _ => none
def Ob.k368 (r : Nat) : Option (List Nat) := match r with
 | 0 => some [0, 1]
 | 1 => some [0, 1]
 | 2 => some [0, 1, 10]
 | 3 => some [4]
 | 4 => some [4]
 | _ => none
def Ob.k370 (r : Nat) : Option (List Nat) := match r with
 | 0 => some [0]
 | 1 => some [0, 4]
 | 2 => some [0, 4, 5]
 | 3 => some [0, 4, 5, 12]
 | 4 => some [0, 4, 5]
 | 5 => some [0, 4, 5]
 | 6 => some [0, 4, 6, 7]
 | 7 => some [4, 6, 7, 8]
 | 8 => some [4, 6, 7, 8, 25]
 | 9 => some [4, 6, 7, 8]
 | 10 => some [4, 6, 7, 8, 30]
 | 11 => some [4, 6, 7, 8]
 | 12 => some [4, 6, 7, 8]
 | 13 => some [2, 3]
 | _ => none
def Ob.k415 (r : Nat) : Option (List Nat) := match r with
 | 0 => some [0, 3, 8]
 | 1 => some [0, 8, 11]
 | 2 => some [8]
 | 3 => some [0, 8, 9]
 | 4 => some [0, 8, 9, 22]
 | 5 => some [0, 8, 9]
 | 6 => some [8, 9]
 | 7 => some [8]
 | _ => none
def Ob.k417 (r : Nat) : Option (List Nat) := match r with
 | 0 => some [1, 2]
 | 1 => some [3]
 | _ => none
def Ob.k418 (r : Nat) : Option (List Nat) := match r with
 | 0 => some [1]
 | 1 => some [1, 3]
 | 2 => some [1, 3, 24]
 | 3 => some [2]
 | 4 => some [1, 3, 24, 25]
 | 5 => some [2]
 | 6 => some [1, 3, 24, 41]
 | 7 => some [1, 3, 24, 41]
 | 8 => some [2]
 | 9 => some [1, 3, 24, 63]
 | 10 => some [1, 4]
 | 11 => some [1, 4, 72]
 | 12 => some [1, 4]
 | 13 => some [1, 102]
 | 14 => some [2]
 | 15 => some [1, 3, 103]
 | 16 => some [1, 112]
 | 17 => some [2]
 | 18 => some [2]
 | _ => none
def Ob.k419 (r : Nat) : Option (List Nat) := match r with
 | 0 => some [0, 4, 5]
 | 1 => some [0, 4, 5, 8]
 | 2 => some [0, 4, 5, 8, 18, 19, 20]
 | 3 => some [0, 4, 5, 8, 18, 19, 20, 21]
 | 4 => some [0, 4, 5, 8, 10, 18, 19, 20]
 | 5 => some [0, 4, 5, 8, 11, 12, 18, 19, 20]
 | 6 => some [0, 4, 5, 8, 11, 12, 18, 19, 20, 32]
 | 7 => some [6, 7]
 | 8 => some [0, 4, 5, 8, 18, 19, 20]
 | 9 => some [0, 4, 5, 8, 18, 19, 20]
 | 10 => some [0, 4, 5, 8, 40]
 | 11 => some [0, 4, 5, 8, 40, 41]
 | 12 => some [4, 52]
 | 13 => some [6, 7]
 | 14 => some [6, 7]
 | 15 => some [0, 4, 5, 8, 40, 55]
 | 16 => some [0, 4, 5, 13, 14]
 | 17 => some [0, 4, 5, 13, 68]
 | 18 => some [6, 7]
 | 19 => some [6, 7]
 | 20 => some [0, 4, 8, 40, 75]
 | 21 => some [15, 16]
 | 22 => some [15, 88]
 | 23 => some [6, 7]
 | 24 => some [6, 7]
 | 25 => some [4, 8, 90]
 | 26 => some [6, 7]
 | 27 => some [8, 110]
 | 28 => some [6, 7]
 | 29 => some [6, 7]
 | _ => none
def Ob.k420 (r : Nat) : Option (List Nat) := match r with
 | 0 => some [0]
 | 1 => some [2]
 | _ => none
def Ob.k445 (r : Nat) : Option (List Nat) := match r with
 | 0 => some [1, 2]
 | 1 => some [4]
 | _ => none
def Ob.k457 (r : Nat) : Option (List Nat) := match r with
 | 0 => some [1, 2]
 | 1 => some [1, 2, 9]
 | 2 => some [4]
 | 3 => some [4]
 | _ => none
def Ob.keep (f r : Nat) : Option (List Nat) := match f with
 | 31 => Ob.k31 r
 | 37 => Ob.k37 r
 | 58 => Ob.k58 r
 | 69 => Ob.k69 r
 | 70 => Ob.k70 r
 | 74 => Ob.k74 r
 | 75 => Ob.k75 r
 | 76 => Ob.k76 r
 | 77 => Ob.k77 r
 | 83 => Ob.k83 r
 | 86 => Ob.k86 r
 | 92 => Ob.k92 r
 | 129 => Ob.k129 r
 | 130 => Ob.k130 r
 | 131 => Ob.k131 r
 | 132 => Ob.k132 r
 | 133 => Ob.k133 r
 | 136 => Ob.k136 r
 | 137 => Ob.k137 r
 | 141 => Ob.k141 r
 | 142 => Ob.k142 r
 | 143 => Ob.k143 r
 | 144 => Ob.k144 r
 | 145 => Ob.k145 r
 | 149 => Ob.k149 r
 | 199 => Ob.k199 r
 | 206 => Ob.k206 r
 | 207 => Ob.k207 r
 | 208 => Ob.k208 r
 | 209 => Ob.k209 r
 | 211 => Ob.k211 r
 | 212 => Ob.k212 r
 | 214 => Ob.k214 r
 | 215 => Ob.k215 r
 | 225 => Ob.k225 r
 | 276 => Ob.k276 r
 | 283 => Ob.k283 r
 | 284 => Ob.k284 r
 | 285 => Ob.k285 r
 | 286 => Ob.k286 r
 | 287 => Ob.k287 r
 | 288 => Ob.k288 r
 | 289 => Ob.k289 r
 | 290 => Ob.k290 r
 | 291 => Ob.k291 r
 | 293 => Ob.k293 r
 | 294 => Ob.k294 r
 | 296 => Ob.k296 r
 | 311 => Ob.k311 r
 | 355 => Ob.k355 r
 | 356 => Ob.k356 r
 | 357 => Ob.k357 r
 | 360 => Ob.k360 r
 | 361 => Ob.k361 r
 | 362 => Ob.k362 r
 | 363 => Ob.k363 r
 | 364 => Ob.k364 r
 | 365 => Ob.k365 r
 | 366 => Ob.k366 r
 | 367 => Ob.k367 r
 | 368 => Ob.k368 r
 | 370 => Ob.k370 r
 | 415 => Ob.k415 r
 | 417 => Ob.k417 r
 | 418 => Ob.k418 r
 | 419 => Ob.k419 r
 | 420 => Ob.k420 r
 | 445 => Ob.k445 r
 | 457 => Ob.k457 r
 | _ => none
def Ob.mat (f r : Nat) : List (Nat × Option Nat × Nat) := match f with
 | 76 => match r with
  | 1 => [(4, none, 1)]
  | _ => []
 | 130 => match r with
  | 1 => [(3, none, 6)]
  | _ => []
 | 133 => match r with
  | 1 => [(5, none, 1)]
  | _ => []
 | 419 => match r with
  | 1 => [(8, none, 1)]
  | _ => []
 | _ => []
def Ob.fz (f r : Nat) : Bool × Bool := match f with
 | 141 => (false, false)
 | _ => (true, false)
def Ob.thr (f : Nat) : Bool := match f with
 | 214 => true
 | _ => false
def Ob.own (f : Nat) : Bool := match f with
 | 141 => true
 | _ => false
def Ob.prim (f : Nat) : Option PK := match f with
 | 291 => some (.std 0 0)
 | 357 => some (.std 2 24)
 | _ => none
def Ob.cfg : Cfg := { prim := Ob.prim, thr := Ob.thr, own := Ob.own, fz := Ob.fz, keep := Ob.keep, mat := Ob.mat }
end Go.Ac
end
