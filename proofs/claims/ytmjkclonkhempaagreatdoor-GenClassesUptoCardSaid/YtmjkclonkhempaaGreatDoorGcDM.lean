/- Equality of object code: the program's. -/
import Derived.Test.YtmjkclonkhempaaGreatDoorGcHn
import Derived.Test.YtmjkclonkhempaaGreatDoorAcTxM
import Derived.Test.YtmjkclonkhempaaGreatDoorChecked
set_option linter.unusedVariables false
set_option linter.unusedSimpArgs false
section
namespace Go.Ac
variable {P : Program}

def OpIs (o : Oper) (d : Nat) (op : Op) : Prop := o.dst = some d ∧ o.op = op ∧ o.guard = none

/-- A function is the copy of a slice: its elements have sz cells, by_ bytes. -/
def CloneAt (P : Program) (f : FuncId) (sz by_ : Nat) : Prop := ∃ (fn : Func) (t e : TypeId) (i : TypeInfo) (z : Value) (o0 o1 o2 o3 o4 o5 o6 o7 : Oper) (r0 r1 r2 r3 : Nat),
 P.funcs[f]? = some fn ∧ fn.body = some (.seq (.region r0 #[o0] false) (.seq (.seq (.region r1 #[o1, o2] false) (.cond (.tmp 4) (.seq (.region r2 #[o3] false) .ret) .skip)) (.seq (.region r3 #[o4, o5, o6, o7] false) .ret))) ∧
 fn.ntmps = 8 ∧ fn.results = #[.tmp 2] ∧ P.underlying t = some (.slice e) ∧ P.info? e = some i ∧ i.size = sz ∧ i.bytes = by_ ∧ i.zero = some z ∧ z.cells.size = sz ∧
 OpIs o0 2 (.assign (.const (.slice none 0 0))) ∧ OpIs o1 3 (.move (.tmp 0)) ∧ OpIs o2 4 (.binOp .eql t (.tmp 3) (.const (.slice none 0 0)) t) ∧ OpIs o3 2 (.assign (.const (.slice none 0 0))) ∧
 OpIs o4 5 (.buildSlice t 0 #[]) ∧ OpIs o5 6 (.move (.tmp 0)) ∧ OpIs o6 7 (.call ⟨.builtin .append, #[.tmp 5, .tmp 6], #[t, t]⟩) ∧ OpIs o7 2 (.assign (.tmp 7))

section
variable {ops : Array Oper} {Q : Exit → Act → World → Prop} {K : Act → World → Prop}

theorem wpOp_value {i : Nat} {o : Oper} {d : Nat} {op : Op} {ts : Array Value} {w w' : World} {x : Value} (hi : ops[i]? = some o) (ho : OpIs o d op) (hr : (execOp (Act.eval ⟨ts, []⟩) o).run P w = .ok (.value x) w') (hK : K ⟨ts.setIfInBounds d x, []⟩ w') :
  wpOp P ops Q i K ⟨ts, []⟩ w := by
 obtain ⟨h1, h2, h3⟩ := ho
 unfold wpOp
 simp only [hi]
 have : Region.wanted o (yielded ops ts) = true := by unfold Region.wanted; rw [h3]
 rw [if_pos this]
 refine .inl ?_
 unfold Oper.wp
 rw [hr, Oper.upon_value]
 have : Act.put ⟨ts, []⟩ o.dst x = ⟨ts.setIfInBounds d x, []⟩ := by rw [h1]; rfl
 rw [this]; exact hK
end

theorem Oper.of {o : Oper} {d : Nat} {op : Op} (h : OpIs o d op) : ∃ ty pos af, o = ⟨some d, op, ty, pos, af, none⟩ := by
 obtain ⟨h1, h2, h3⟩ := h
 cases o
 simp only at h1 h2 h3
 subst h1; subst h2; subst h3
 exact ⟨_, _, _, rfl⟩

theorem cloneV_sound [Gl] {f : FuncId} {sz by_ : Nat} (hf : CloneAt P f sz by_) {S : Nat → Prop} {m : M} {n c : Nat} {x : V} {v : Value} {r : Res} (h : cloneV m.h n c sz by_ x = some r) (hR : Rel S m) (hfr : Fresh m c r.dc) (hv : RV S m x v) :
  Calls P f #[v] m.w (fun e w' => ∃ y m', e = .returned y ∧ m'.w = w' ∧ After S m c r y m') := by
 obtain ⟨fn, t, e, i, z, o0, o1, o2, o3, o4, o5, o6, o7, r0, r1, r2, r3, f1, f2, f3, f4, t1, t2, t3, t4, t5, t6, p0, p1, p2, p3, p4, p5, p6, p7⟩ := hf
 unfold cloneV at h
 split at h
 ·rename_i mm xs rx hrows
  split at h
  ·rename_i hfit
   simp only [Option.some.injEq] at h; subst h
   obtain ⟨a, k, rfl, hb1, hb2, ys, hys, hyl, hyo, hyn, hyc⟩ := rowsOf_sound hrows hv hR
   refine calls_of_wp f1 f2 ?_
   rw [f3]
   show (Code.seq _ _).wp P _ ⟨#[.slice a mm k, undef, undef, undef, undef, undef, undef, undef], []⟩ m.w
   -- the first region
   refine wp_seq (wp_region ?_)
   show wpOps P #[o0] _ [0] _ _
   rw [wpOps_cons]
   obtain ⟨_, _, _, e0⟩ := Oper.of p0
   refine wpOp_value (x := .slice none 0 0) (w' := m.w) rfl p0 (by rw [e0]; rfl) ?_
   show (Code.seq _ _).wp P _ ⟨#[.slice a mm k, undef, .slice none 0 0, undef, undef, undef, undef, undef], []⟩ m.w
   -- is it nil?
   refine wp_seq (wp_seq (wp_region ?_))
   show wpOps P #[o1, o2] _ [0, 1] _ _
   rw [wpOps_cons]
   obtain ⟨_, _, _, e1⟩ := Oper.of p1
   refine wpOp_value (x := .slice a mm k) (w' := m.w) rfl p1 (by rw [e1]; rfl) ?_
   show wpOps P #[o1, o2] _ [1] ⟨#[.slice a mm k, undef, .slice none 0 0, .slice a mm k, undef, undef, undef, undef], []⟩ m.w
   rw [wpOps_cons]
   obtain ⟨_, _, _, e2⟩ := Oper.of p2
   have heq : (Op.equal t (.slice a mm k) (.slice none 0 0)).run P m.w = .ok a.isNone m.w := by
    refine run_equal fun q => ?_
    cases a <;> simp [Op.equalIn, run_underlying t1]
   obtain ⟨g1, g2⟩ := run_eql (P := P) (op := .eql) (e := true) (.tmp 3) (.const (.slice none 0 0)) rfl (a := .slice a mm k) (by simp) (by simp) (by simp) (by simp) (by simp) (by simp) heq
   refine wpOp_value (x := .bool (a.isNone == true)) (w' := m.w) rfl p2 (by
    rw [e2]
    show Sem.run P (do let x ← (do eqGuard .eql t (.tmp 3) (.const (.slice none 0 0)) (.slice a mm k) (.slice none 0 0); binOp .eql t (.slice a mm k) (.slice none 0 0) : Sem Value); pure (Next.value x)) m.w = _
    simp [g1, g2]) ?_
   show Code.wp P (.cond (.tmp 4) _ _) _ ⟨#[.slice a mm k, undef, .slice none 0 0, .slice a mm k, .bool (a.isNone == true), undef, undef, undef], []⟩ m.w
   cases a with
   | none =>
    have hmm : mm = 0 := hyn rfl
    subst hmm
    have hxs0 : xs = [] := List.length_eq_zero_iff.1 (by rw [hyl]; simp)
    subst hxs0
    refine wp_cond_true rfl (wp_seq (wp_region ?_))
    show wpOps P #[o3] _ [0] _ _
    rw [wpOps_cons]
    obtain ⟨_, _, _, e3⟩ := Oper.of p3
    refine wpOp_value (x := .slice none 0 0) (w' := m.w) rfl p3 (by rw [e3]; rfl) ?_
    refine wp_ret ?_
    obtain ⟨m', w1, w2, w3, w4, w5, w6⟩ := virt_obj (id := n) (o' := ⟨c, false, []⟩) (c := c) (dc := 1) hR rfl (hfr n c (Nat.le_refl _) (by simp)) rfl rfl
    refine ⟨rfl, .slice none 0 0, ?_, _, m', rfl, w1, w5, w6, ?_, by rw [w2]; rfl, w4⟩
    ·simp [results, f4]
    ·refine .osl (by rw [w4]; exact .inr ⟨Nat.le_refl _, by omega⟩) rfl fun o ho hg => ?_
     refine ⟨by rw [w2, upd_same] at ho; simp only [Option.some.injEq] at ho; subst ho; rfl, ?_⟩
     unfold OslOK
     rw [w3]
     simp
   | some p =>
    refine wp_cond_false rfl (wp_skip ?_)
    refine wp_seq (wp_region ?_)
    show wpOps P #[o4, o5, o6, o7] _ [0, 1, 2, 3] _ _
    rw [wpOps_cons]
    obtain ⟨_, _, _, e4⟩ := Oper.of p4
    obtain ⟨h1, h2⟩ := hR.grown (w' := { m.w with heap := m.w.heap.push (Obj.cells #[] e (0, 0)) }) (by simp) (fun b hb => by simp [Array.getElem?_push_lt hb, hb]) ⟨rfl, rfl, fun q => by
     by_cases hb2 : q.block < m.w.heap.size
     ·simp [World.frozen?, Array.getElem?_push_lt hb2, hb2]
     ·have h0 : m.w.heap[q.block]? = none := by simp; omega
      by_cases hb3 : q.block = m.w.heap.size
      ·simp [World.frozen?, hb3]
      ·have h1 : (m.w.heap.push (Obj.cells #[] e (0, 0)))[q.block]? = none := by simp; omega
       simp [World.frozen?, h0, h1]⟩
    refine wpOp_value (x := .slice (some ⟨m.w.heap.size, 0, none⟩) 0 0) (w' := { m.w with heap := m.w.heap.push (Obj.cells #[] e (0, 0)) }) rfl p4 (by
     rw [e4]
     simp [execOp, Instr.buildSlice, run_underlying t1, sizeOf, typeInfo, t2, Instr.fill, newRow]
     congr 2
     apply Array.ext'; simp) ?_
    show wpOps P #[o4, o5, o6, o7] _ [1, 2, 3] ⟨#[.slice (some p) mm k, undef, .slice none 0 0, .slice (some p) mm k, .bool false, .slice (some ⟨m.w.heap.size, 0, none⟩) 0 0, undef, undef], []⟩ _
    rw [wpOps_cons]
    obtain ⟨_, _, _, e5⟩ := Oper.of p5
    refine wpOp_value (x := .slice (some p) mm k) (w' := { m.w with heap := m.w.heap.push (Obj.cells #[] e (0, 0)) }) rfl p5 (by rw [e5]; rfl) ?_
    show wpOps P #[o4, o5, o6, o7] _ [2, 3] ⟨#[.slice (some p) mm k, undef, .slice none 0 0, .slice (some p) mm k, .bool false, .slice (some ⟨m.w.heap.size, 0, none⟩) 0 0, .slice (some p) mm k, undef], []⟩ _
    rw [wpOps_cons]
    obtain ⟨ty6, _, _, e6⟩ := Oper.of p6
    have hysl : ys.length = mm * sz := by rw [← hys.1, hyl]
    have hcells : ∀ q, some p = some q → ∀ (j : Nat) (y : Value), ys[j]? = some y → ({ m.w with heap := m.w.heap.push (Obj.cells #[] e (0, 0)) } : World).cell? (q.add j) = some y := by
     intro q hq j y hy
     have h3 := hyc q hq j y hy
     have hlt := World.block_lt_of_cell? m.w _ h3
     rw [← h3]
     simp [World.cell?, Array.getElem?_push_lt hlt, hlt]
    have key : ∃ y m', (Builtin.append_ #[t, t] ty6 #[.slice (some ⟨m.w.heap.size, 0, none⟩) 0 0, .slice (some p) mm k]).run P { m.w with heap := m.w.heap.push (Obj.cells #[] e (0, 0)) } = .ok y m'.w ∧
      After S m c ⟨.osl n c 0 mm sz none, [(n, ⟨c, false, xs⟩)], rx, 1, 1, false⟩ y m' := by
     by_cases hm : mm = 0
     ·subst hm
      have hxs0 : xs = [] := List.length_eq_zero_iff.1 (by rw [hyl]; simp)
      subst hxs0
      obtain ⟨m', w1, w2, w3, w4, w5, w6⟩ := virt_obj (id := n) (o' := ⟨c, false, []⟩) (c := c) (dc := 1) h1 rfl (hfr n c (Nat.le_refl _) (by simp)) rfl rfl
      refine ⟨.slice (some ⟨m.w.heap.size, 0, none⟩) 0 0, m', ?_, w5, h2.trans w6, ?_, by rw [w2]; rfl, w4⟩
      ·rw [w1]
       have hys0 : ys = [] := List.length_eq_zero_iff.1 (by rw [hysl]; simp)
       subst hys0
       exact run_inplace_some t ty6 e i _ _ t1 t2 (p := ⟨m.w.heap.size, 0, none⟩) (b := some p) (sLen := 0) (sCap := 0) (n := 0) (k := k) (news := []) (by simp) (fun h => by cases h) (fun _ _ j y hy => by simp at hy) (Nat.le_refl _) (by simp [storeCells])
      ·refine .osl (by rw [w4]; exact .inr ⟨Nat.le_refl _, by omega⟩) rfl fun o ho hg => ?_
       refine ⟨by rw [w2, upd_same] at ho; simp only [Option.some.injEq] at ho; subst ho; rfl, ?_⟩
       unfold OslOK
       rw [w3]
       simp
     ·obtain ⟨z', m', q1, q2, q3, q4, q5, q6⟩ := grow_obj (ty := ty6) (id := n) (c := c) (sz := sz) (n0 := 0) (n1 := mm) (by_ := by_) (t := t) (e := e) (i := i) (z := z) (a := some ⟨m.w.heap.size, 0, none⟩) (b := some p) (sCap := 0) (k := k)
       (vs := []) (us := xs) (xs := []) (ys := ys) h1 t1 t2 t5 t3 t6 t4 (by rw [Nat.zero_add]; exact hfit) .nil (hys.mono h2) (by simp) hyl rfl hyo (fun h => by cases h) (fun h => by cases h) (fun _ _ j y hy => by simp at hy) hcells (by omega) (hfr n c (Nat.le_refl _) (by simp))
      rw [Nat.zero_add] at q4
      exact ⟨z', m', q1, q2, h2.trans q3, q4, by rw [q5]; rfl, q6⟩
    obtain ⟨y, m', k1, k2⟩ := key
    refine wpOp_value (x := y) (w' := m'.w) rfl p6 (by
     rw [e6]
     show Sem.run P (do let d ← resolve _ _ _; invoke d.target d.args) _ = _
     have k1' := k1
     rw [show ({ m.w with heap := m.w.heap.push (Obj.cells #[] e (0, 0)) } : World) = m.w.alloc (Obj.cells #[] e) from rfl] at k1'
     simp [resolve, invoke, builtin, Act.eval, k1']) ?_
    show wpOps P #[o4, o5, o6, o7] _ [3] ⟨#[.slice (some p) mm k, undef, .slice none 0 0, .slice (some p) mm k, .bool false, .slice (some ⟨m.w.heap.size, 0, none⟩) 0 0, .slice (some p) mm k, y], []⟩ _
    rw [wpOps_cons]
    obtain ⟨_, _, _, e7⟩ := Oper.of p7
    refine wpOp_value (x := y) (w' := m'.w) rfl p7 (by rw [e7]; rfl) ?_
    refine wp_ret ?_
    exact ⟨rfl, y, by simp [results, f4], y, m', rfl, rfl, k2⟩
  ·simp at h
 ·simp at h

/-- What makes the calls that are taken as one operation right. -/
def IndexAt (P : Program) (f : FuncId) : Prop := (∃ fn, P.funcs[f]? = some fn ∧ fn.body.isSome = true) ∧
 ∀ (s : ByteArray) (b : Int) (w : World), Calls P f #[.string s, .int .u8 b] w fun e w' => e = .returned (.int .i64 (idxByte s.data.toList b)) ∧ w' = w
theorem primOK [Gl] {cfg : Cfg} (h : ∀ f p, cfg.prim f = some p → (CloneAt P f p.1 p.2 ∧ 0 < p.2) ∨ (p.2 = 0 ∧ IndexAt P f)) : PrimOK P cfg := by
 intro f p hp
 rcases h f p hp with ⟨hc, hpos⟩ | ⟨hz, hb, hx⟩
 rotate_left
 ·refine ⟨hb, fun {S m n c vs xs r} hr hR hf hv => ?_⟩
  unfold primV at hr
  split at hr
  ·rename_i x
   unfold cloneV at hr
   split at hr
   ·split at hr
    ·rename_i hfit
     rw [hz] at hfit
     simp [fitsB] at hfit
    ·cases hr
   ·cases hr
  ·rename_i s b
   split at hr
   ·simp only [ret, Option.some.injEq] at hr
    subst hr
    obtain ⟨y, ys, rfl, h1, h2⟩ := hv.cases
    obtain ⟨y2, ys2, rfl, h3, h4⟩ := h2.cases
    obtain rfl : ys2 = [] := List.length_eq_zero_iff.1 (by have := h4.1; simpa using this.symm)
    obtain rfl : y2 = .int .u8 b := h3.int_inv
    cases h1 with
    | d hd =>
     cases hd with
     | str bs l hbs =>
      refine (hx bs b m.w).mono fun e w' ⟨he, hw⟩ => ⟨_, m, he, hw.symm, After.quiet hR ?_⟩
      rw [hbs]
      exact .d (.int _ _)
   ·cases hr
  ·cases hr
 refine ⟨?_, ?_⟩
 ·obtain ⟨fn, _, _, _, _, _, _, _, _, _, _, _, _, _, _, _, _, h1, h2, _⟩ := hc
  exact ⟨fn, h1, by rw [h2]; rfl⟩
 ·intro S m n c vs xs r hr hR hf hv
  unfold primV at hr
  split at hr
  ·obtain ⟨y, ys, rfl, h1, h2⟩ := hv.cases
   have : ys = [] := List.length_eq_zero_iff.1 (by have := h2.1; simpa using this.symm)
   subst this
   exact cloneV_sound hc hr hR hf h1
  ·split at hr
   ·rename_i hb
    have := Nat.eq_of_beq_eq_true hb
    omega
   ·cases hr
  ·simp at hr

theorem CloneAt.of {f : FuncId} {sz by_ : Nat} {fn : Func} {t e : TypeId} {o0 o1 o2 o3 o4 o5 o6 o7 : Oper} {r0 r1 r2 r3 : Nat} (h1 : P.funcs[f]? = some fn)
  (h2 : fn.body = some (.seq (.region r0 #[o0] false) (.seq (.seq (.region r1 #[o1, o2] false) (.cond (.tmp 4) (.seq (.region r2 #[o3] false) .ret) .skip)) (.seq (.region r3 #[o4, o5, o6, o7] false) .ret))))
  (h3 : fn.ntmps = 8) (h4 : fn.results = #[.tmp 2]) (h5 : P.underlying t = some (.slice e)) (h6 : (P.info? e).map (fun i => (i.size, i.bytes, i.zero.map (·.cells.size))) = some (sz, by_, some sz))
  (p0 : OpIs o0 2 (.assign (.const (.slice none 0 0)))) (p1 : OpIs o1 3 (.move (.tmp 0))) (p2 : OpIs o2 4 (.binOp .eql t (.tmp 3) (.const (.slice none 0 0)) t)) (p3 : OpIs o3 2 (.assign (.const (.slice none 0 0))))
  (p4 : OpIs o4 5 (.buildSlice t 0 #[])) (p5 : OpIs o5 6 (.move (.tmp 0))) (p6 : OpIs o6 7 (.call ⟨.builtin .append, #[.tmp 5, .tmp 6], #[t, t]⟩)) (p7 : OpIs o7 2 (.assign (.tmp 7))) : CloneAt P f sz by_ := by
 cases hi : P.info? e with
 | none => rw [hi] at h6; simp at h6
 | some i =>
  rw [hi] at h6
  simp at h6
  obtain ⟨g1, g2, z, g3, g4⟩ := h6
  exact ⟨fn, t, e, i, z, o0, o1, o2, o3, o4, o5, o6, o7, r0, r1, r2, r3, h1, h2, h3, h4, h5, hi, g1, g2, g3, g4, p0, p1, p2, p3, p4, p5, p6, p7⟩

end Go.Ac
end

section
namespace Go.Ac
variable {P : Program} {cfg : Cfg} {fid : FuncId} {rid : Nat}

/-- A call that writes nothing of its caller's, and gives a value without names. -/
def QuietV [Gl] (P : Program) (cfg : Cfg) (f : FuncId) (vs : List V) (hp : Hp) (n c : Nat) (v : V) : Prop := ∃ h' c', lim P cfg f vs hp n c = some ⟨v, h', n, c', []⟩

def quietVQ (P : Program) (fn : Func) (n : Nat) (v : V) (e : Ex) (t : St) : Prop :=
 (e = .normal ∨ e = .ret) ∧ t.wl = [] ∧ ∃ rs, resultsV P t fn.results.toList = some rs ∧ tup rs = v

theorem quietV_wp [Gl] {f : FuncId} {fn : Func} {body : Code} {vs : List V} {v : V} {hp : Hp} {n c : Nat} (hf : P.funcs[f]? = some fn) (hb : fn.body = some body) (hok : (Nat.ble vs.length fn.ntmps && codeOK fn.ntmps body) = true)
  (hthr : cfg.thr f = false) (hcl : ∀ look : Look, closeT look v = some (v, [])) (h : WP P cfg f body ⟨envOf 0 vs, hp, n, c, n, []⟩ (quietVQ P fn n v)) : QuietV P cfg f vs hp n c v := by
 obtain ⟨e, t, ⟨K, hK⟩, he, hwl, rs, hrs, htup⟩ := h
 have hfin : finish (cfg.thr f) n t (tup rs) = some ⟨v, Hp.trunc n t.hp, n, t.c, []⟩ := by
  unfold finish
  rw [hthr, htup]
  simp only [Bool.false_eq_true, if_false, hcl, hwl]
  rw [if_pos]
  simp
 refine ⟨Hp.trunc n t.hp, t.c, lim_of ⟨K, fun k hk => ?_⟩⟩
 unfold callF callBy
 rw [hf]
 simp only [hb, hok]
 rw [show enter vs hp n c = ⟨envOf 0 vs, hp, n, c, n, []⟩ from rfl, hK k hk]
 rcases he with rfl | rfl <;> simp only [leave, hrs, hfin]

theorem RT.callV [Gl] {fo : Operand} {args : Array Operand} {ts : Array TypeId} {dst : Option Nat} {g : Gd} {r : List PO} {e e' : Env} {hp h' : Hp} {n c c' n0 : Nat} {wl : List Nat} {f : FuncId} {caps vs : List V} {x : V} {t : St} {qs : List Tq}
  (hg : Is (wantedP e g) (some true)) (hfo : Is (evalV e fo) (.fn f caps)) (hpr : Is (cfg.prim f) none) (hvs : Is (args.toList.map (evalV e) ++ caps) vs) (hcl : Is (closeArgs (if cfg.thr f then noLook else hp.get) vs) none) (hd : Is (lim P cfg f vs hp n c) (some ⟨x, h', n, c', []⟩))
  (he : putEnv e dst x = e') (h' : RT P cfg fid rid r ⟨e', hp, n, c + (c' - c), n0, wl⟩ t qs) :
  RT P cfg fid rid (⟨.call ⟨.value fo, args, ts⟩, dst, g⟩ :: r) ⟨e, hp, n, c, n0, wl⟩ t (⟨[], [], true, c' - c⟩ :: qs) := by
 unfold Is at *
 have : callR cfg (lim P cfg) hp n c f vs = some ⟨x, [], [], 0, c' - c, true⟩ := by
  unfold callR
  rw [hcl]
  simp only [hd, Nat.sub_self, List.range_zero, List.map_nil, List.append_nil, wrOf]
 refine RT.wr (v := x) (wr := []) (dn := 0) (dc := c' - c) ?_ he rfl rfl rfl rfl h'
 show opP P cfg fid rid _ _ = _
 unfold opP
 simp only [hg]
 have h2 : opP0 P cfg fid rid ⟨.call ⟨.value fo, args, ts⟩, dst, g⟩ ⟨e, hp, n, c, n0, wl⟩ = some ⟨x, [], [], 0, c' - c, true⟩ := by
  simp only [opP0, hfo, hpr]
  rw [hvs, this]
 rw [h2]
 rfl

theorem QuietV.fn [Gl] {f : FuncId} {vs : List V} {hp : Hp} {n : Nat} {x : V} (h : ∀ c, QuietV P cfg f vs hp n c x) : ∃ (h' : Nat → Hp) (c' : Nat → Nat), ∀ c, lim P cfg f vs hp n c = some ⟨x, h' c, n, c' c, []⟩ := by
 obtain ⟨h1, h2⟩ := Classical.axiomOfChoice h
 obtain ⟨h3, h4⟩ := Classical.axiomOfChoice h2
 exact ⟨h1, h3, h4⟩
theorem Quiet.v [Gl] {f : FuncId} {vs : List V} {hp : Hp} {n c : Nat} {x : D} (h : Quiet P cfg f vs hp n c x) : QuietV P cfg f vs hp n c (.d x) := h

/-! ### Calls that are handed objects and may write some of them -/

/-- A call that is handed objects: what it gives, what it may write, what the memory is afterwards. -/
def ThrG [Gl] (P : Program) (cfg : Cfg) (f : FuncId) (vs : List V) (hp : Hp) (n c : Nat) (v : V) (ids : List Nat) (Φ : Hp → Prop) : Prop :=
 ∃ q, lim P cfg f vs hp n c = some q ∧ q.v = v ∧ q.n = n ∧ WI ids n hp q.wl q.hp ∧ Φ q.hp

/-- The same, seen from the caller. -/
theorem ThrG.caller [Gl] {f : FuncId} {vs : List V} {hp : Hp} {n c : Nat} {v : V} {ids : List Nat} {Φ : Hp → Prop} (h : ThrG P cfg f vs hp n c v ids Φ) (hids : ∀ j, j ∈ ids → j < n) :
  ∃ q, lim P cfg f vs hp n c = some q ∧ q.v = v ∧ q.n = n ∧ (∀ k, k ∈ (tWr q n).map (·.1) → k < n + (q.n - n)) ∧ (∀ k, k ∈ (tWr q n).map (·.1) → k ∈ ids) ∧
   (∀ j, j < n → j ∉ ids → (hp.sets (tWr q n)).get j = hp.get j) ∧ ∃ hp', Φ hp' ∧ ∀ j, j < n → (hp'.get j).isSome = true → (hp.sets (tWr q n)).get j = hp'.get j := by
 obtain ⟨q, h1, h2, h3, h4, h5⟩ := h
 have hk : ∀ k, k ∈ (tWr q n).map (·.1) → k ∈ ids ∧ k < n := fun k hk => by
  have := tWr_keys (by omega) h4 hids hk
  rcases this.1 with h | h
  ·exact ⟨h, hids k h⟩
  ·omega
 exact ⟨q, h1, h2, h3, fun k hk' => by have := (hk k hk').2; omega, fun k hk' => (hk k hk').1, fun j hj hn => tWr_old h4 hj hn, q.hp, h5, fun j hj hs => tWr_same h4 (by omega) hs⟩
end Go.Ac
end

section
namespace Go.Ac
theorem iZ {α : Sort _} {x : α} : Is x x := Is.rfl
theorem gS {α : Type _} {x : α} {i : Nat} {l : List α} : (x :: l)[i + 1]? = l[i]? := rfl
theorem gZ {α : Type _} {x : α} {l : List α} : (x :: l)[0]? = some x := rfl

/-- One walk leads from a goal to another. -/
structure Hd (G : Prop) : Prop where
 out : G
def Wk (L G G' : Prop) : Prop := L → Hd G' → G

theorem wk {L : Prop} (hl : L) {G G' : Prop} (k : G') (h : Wk L G G' := by
 intro hl hk
 repeat (first
 | apply WP.seq
 | (apply WP.reg; (case hR => dsimp only [prepL, prepO, List.map, gS, gZ]; exact iZ); (case hr => (repeat (first
 | (apply RT.op; simp [hl]; exact iZ; (try dsimp only [putEnv]) <;> exact rfl)
 | (apply RT.call; (iterate 2 simp; exact iZ); exact iZ; (iterate 4 simp [hl]; exact iZ); simp [Is]; (try dsimp only [putEnv]) <;> exact rfl; simp; exact iZ; simp; exact iZ)
 | (apply RT.wr; simp [hl]; exact iZ; (try dsimp only [putEnv]) <;> exact rfl; simp [hl]; exact iZ; (iterate 2 exact iZ); simp; exact iZ))); exact RT.nil); (case hc => (show _ = _; kernel_rfl)); (case ht => simp [hl]; exact iZ))
 | apply WP.block | apply WP.skip | apply WP.exit | apply WP.ret)
 exact hk.out) : G := h hl ⟨k⟩
theorem wkc {L : Prop} (hl : L) {G G' : Prop} (k : G') (h : Wk L G G' := by
 intro hl hk
 repeat (first
 | apply WP.seq
 | (apply WP.reg; (case hR => dsimp only [prepL, prepO, List.map, gS, gZ]; exact iZ); (case hr => (repeat (first
 | (apply RT.op; simp [hl]; exact iZ; (try dsimp only [putEnv]) <;> exact rfl)
 | (apply RT.call; (iterate 2 simp; exact iZ); exact iZ; (iterate 4 simp [hl]; exact iZ); simp [Is]; (try dsimp only [putEnv]) <;> exact rfl; simp; exact iZ; simp; exact iZ)
 | (apply RT.wr; simp [hl]; exact iZ; (try dsimp only [putEnv]) <;> exact rfl; simp [hl]; exact iZ; (iterate 2 exact iZ); simp; exact iZ))); exact RT.nil); (case hc => (show _ = _; kernel_rfl)); (case ht => simp [hl]; exact iZ))
 | apply WP.block | apply WP.skip | apply WP.exit | apply WP.ret | refine WP.condT rfl ?_ | refine WP.condF rfl ?_)
 exact hk.out) : G := h hl ⟨k⟩
end Go.Ac
end

section
namespace Go.Ac
open Go.Proofs

/-- A text. -/
abbrev Tx := List UInt8
/-- An expression. -/
inductive X where
 | mk (k o t v : Int) (nm : Tx) (args : List X)
/-- A statement. -/
inductive Y where
 | mk (k : Int) (nm : Tx) (t : Int) (r : X) (outs : List Tx) (args : List X) (brs : List (List Y))
structure On where
 nm : Tx
 t : Int
 tag : Int
structure Dc where
 nm : Tx
 t : Int
 ck : List On
structure En where
 nm : Tx
 tags : List Tx
structure Mm where
 nm : Tx
 t : Int
 ini : Int
structure Ii where
 nm : Tx
 cl : Tx
/-- A class. -/
structure Cl where
 nm : Tx
 inn : List Dc
 out : List Dc
 loc : List Dc
 mems : List Mm
 ins : List Ii
 step : List Y
/-- Object code. -/
structure Oc where
 en : List En
 cl : List Cl

def dI (n : Int) : V := .d (.int .i64 n)
def dB (b : Bool) : V := .d (.bool b)
def encI (l : List Int) : List (List D) := l.map fun n => [.int .i64 n]
def encS (l : List Tx) : List (List D) := l.map fun s => [.str s]
mutual
def X.cells : X → List D
 | .mk k o t v nm args => [.int .i64 k, .int .i64 o, .int .i64 t, .int .i64 v, .str nm, .slice (encX args)]
def encX : List X → List (List D)
 | [] => []
 | x :: r => x.cells :: encX r
end
mutual
def Y.cells : Y → List D
 | .mk k nm t r outs args brs => [.int .i64 k, .str nm, .int .i64 t] ++ r.cells ++ [.slice (encS outs), .slice (encX args), .slice (encB brs)]
def encY : List Y → List (List D)
 | [] => []
 | y :: r => y.cells :: encY r
def encB : List (List Y) → List (List D)
 | [] => []
 | b :: r => [.slice (encY b)] :: encB r
end
def On.cells (x : On) : List D := [.str x.nm, .int .i64 x.t, .int .i64 x.tag]
def encO (l : List On) : List (List D) := l.map On.cells
def Dc.cells (x : Dc) : List D := [.str x.nm, .int .i64 x.t, .slice (encO x.ck)]
def encD (l : List Dc) : List (List D) := l.map Dc.cells
def En.cells (x : En) : List D := [.str x.nm, .slice (encS x.tags)]
def encE (l : List En) : List (List D) := l.map En.cells
def Mm.cells (x : Mm) : List D := [.str x.nm, .int .i64 x.t, .int .i64 x.ini]
def encM (l : List Mm) : List (List D) := l.map Mm.cells
def Ii.cells (x : Ii) : List D := [.str x.nm, .str x.cl]
def encJ (l : List Ii) : List (List D) := l.map Ii.cells
def Cl.cells (x : Cl) : List D := [.str x.nm, .slice (encD x.inn), .slice (encD x.out), .slice (encD x.loc), .slice (encM x.mems), .slice (encJ x.ins), .slice (encY x.step)]
def encC (l : List Cl) : List (List D) := l.map Cl.cells
def Oc.cells (x : Oc) : List D := [.slice (encE x.en), .slice (encC x.cl)]
/-- A struct as an argument. -/
def aG (l : List D) : V := .agg (l.map .d)
def dL (l : List (List D)) : V := .d (.slice l)

def X.k : X → Int | .mk k _ _ _ _ _ => k
def X.o : X → Int | .mk _ o _ _ _ _ => o
def X.t : X → Int | .mk _ _ t _ _ _ => t
def X.v : X → Int | .mk _ _ _ v _ _ => v
def X.nm : X → Tx | .mk _ _ _ _ n _ => n
def X.args : X → List X | .mk _ _ _ _ _ l => l
def Y.k : Y → Int | .mk k _ _ _ _ _ _ => k
def Y.nm : Y → Tx | .mk _ n _ _ _ _ _ => n
def Y.t : Y → Int | .mk _ _ t _ _ _ _ => t
def Y.r : Y → X | .mk _ _ _ r _ _ _ => r
def Y.outs : Y → List Tx | .mk _ _ _ _ o _ _ => o
def Y.args : Y → List X | .mk _ _ _ _ _ a _ => a
def Y.brs : Y → List (List Y) | .mk _ _ _ _ _ _ b => b
theorem X.cells_eq (x : X) : x.cells = [.int .i64 x.k, .int .i64 x.o, .int .i64 x.t, .int .i64 x.v, .str x.nm, .slice (encX x.args)] := by cases x; simp [X.cells, X.k, X.o, X.t, X.v, X.nm, X.args]
theorem Y.cells_eq (y : Y) : y.cells = [.int .i64 y.k, .str y.nm, .int .i64 y.t, .int .i64 y.r.k, .int .i64 y.r.o, .int .i64 y.r.t, .int .i64 y.r.v, .str y.r.nm, .slice (encX y.r.args), .slice (encS y.outs), .slice (encX y.args), .slice (encB y.brs)] := by
 cases y; simp [Y.cells, X.cells_eq, Y.k, Y.nm, Y.t, Y.r, Y.outs, Y.args, Y.brs]
theorem encX_map : ∀ l : List X, encX l = l.map X.cells
 | [] => by simp [encX]
 | x :: r => by simp [encX, encX_map r]
theorem encY_map : ∀ l : List Y, encY l = l.map Y.cells
 | [] => by simp [encY]
 | x :: r => by simp [encY, encY_map r]
theorem encB_map : ∀ l : List (List Y), encB l = l.map fun b => [.slice (encY b)]
 | [] => by simp [encB]
 | x :: r => by simp [encB, encB_map r]

theorem encI_len (l : List Int) : (encI l).length = l.length := by simp [encI]
theorem encS_len (l : List Tx) : (encS l).length = l.length := by simp [encS]
theorem encS_at {l : List Tx} {i : Nat} {y : Tx} (h : l[i]? = some y) : (encS l)[i]? = some [.str y] := by unfold encS; simp [h]
theorem encX_len (l : List X) : (encX l).length = l.length := by simp [encX_map]
theorem encX_at {l : List X} {i : Nat} {y : X} (h : l[i]? = some y) : (encX l)[i]? = some y.cells := by rw [encX_map]; simp [h]
theorem encY_len (l : List Y) : (encY l).length = l.length := by simp [encY_map]
theorem encY_at {l : List Y} {i : Nat} {y : Y} (h : l[i]? = some y) : (encY l)[i]? = some y.cells := by rw [encY_map]; simp [h]
theorem encB_len (l : List (List Y)) : (encB l).length = l.length := by simp [encB_map]
theorem encB_at {l : List (List Y)} {i : Nat} {y : (List Y)} (h : l[i]? = some y) : (encB l)[i]? = some [.slice (encY y)] := by rw [encB_map]; simp [h]
theorem encO_len (l : List On) : (encO l).length = l.length := by simp [encO]
theorem encO_at {l : List On} {i : Nat} {y : On} (h : l[i]? = some y) : (encO l)[i]? = some y.cells := by unfold encO; simp [h]
theorem encD_len (l : List Dc) : (encD l).length = l.length := by simp [encD]
theorem encD_at {l : List Dc} {i : Nat} {y : Dc} (h : l[i]? = some y) : (encD l)[i]? = some y.cells := by unfold encD; simp [h]
theorem encE_len (l : List En) : (encE l).length = l.length := by simp [encE]
theorem encM_len (l : List Mm) : (encM l).length = l.length := by simp [encM]
theorem encM_at {l : List Mm} {i : Nat} {y : Mm} (h : l[i]? = some y) : (encM l)[i]? = some y.cells := by unfold encM; simp [h]
theorem encJ_len (l : List Ii) : (encJ l).length = l.length := by simp [encJ]
theorem encJ_at {l : List Ii} {i : Nat} {y : Ii} (h : l[i]? = some y) : (encJ l)[i]? = some y.cells := by unfold encJ; simp [h]
theorem encC_len (l : List Cl) : (encC l).length = l.length := by simp [encC]
/-! ### Sizes -/
def MX : Nat := 1152921504606846976
def szT (s : Tx) : Nat := s.length + 1
def szS (l : List Tx) : Nat := (l.map szT).sum
mutual
def X.sz : X → Nat
 | .mk _ _ _ _ nm args => szT nm + szX args + 6
def szX : List X → Nat
 | [] => 0
 | x :: r => x.sz + szX r
end
mutual
def Y.sz : Y → Nat
 | .mk _ nm _ r outs args brs => szT nm + r.sz + szS outs + szX args + szB brs + 12
def szY : List Y → Nat
 | [] => 0
 | y :: r => y.sz + szY r
def szB : List (List Y) → Nat
 | [] => 0
 | b :: r => szY b + 1 + szB r
end
def On.sz (x : On) : Nat := szT x.nm + 3
def szO (l : List On) : Nat := (l.map On.sz).sum
def Dc.sz (x : Dc) : Nat := szT x.nm + szO x.ck + 3
def szD (l : List Dc) : Nat := (l.map Dc.sz).sum
def En.sz (x : En) : Nat := szT x.nm + szS x.tags + 2
def szE (l : List En) : Nat := (l.map En.sz).sum
def Mm.sz (x : Mm) : Nat := szT x.nm + 3
def szM (l : List Mm) : Nat := (l.map Mm.sz).sum
def Ii.sz (x : Ii) : Nat := szT x.nm + szT x.cl + 2
def szJ (l : List Ii) : Nat := (l.map Ii.sz).sum
def Cl.sz (x : Cl) : Nat := szT x.nm + szD x.inn + szD x.out + szD x.loc + szM x.mems + szJ x.ins + szY x.step + 7
def szC (l : List Cl) : Nat := (l.map Cl.sz).sum
def Oc.sz (x : Oc) : Nat := szE x.en + szC x.cl + 2
theorem X.sz_eq (x : X) : x.sz = szT x.nm + szX x.args + 6 := by cases x; simp [X.sz, X.nm, X.args]
theorem Y.sz_eq (y : Y) : y.sz = szT y.nm + y.r.sz + szS y.outs + szX y.args + szB y.brs + 12 := by cases y; simp [Y.sz, Y.nm, Y.r, Y.outs, Y.args, Y.brs]
theorem sum_mem {α : Type} {f : α → Nat} : ∀ {l : List α} {x : α}, x ∈ l → f x ≤ (l.map f).sum
 | y :: r, x, h => by
  simp only [List.mem_cons] at h
  simp only [List.map_cons, List.sum_cons]
  rcases h with rfl | h
  ·omega
  ·have := sum_mem (f := f) h; omega
theorem sum_len {α : Type} {f : α → Nat} (hf : ∀ x, 1 ≤ f x) : ∀ {l : List α}, l.length ≤ (l.map f).sum
 | [] => by simp
 | y :: r => by have := sum_len hf (l := r); have := hf y; simp; omega
theorem szX_sum : ∀ l : List X, szX l = (l.map X.sz).sum
 | [] => by simp [szX]
 | x :: r => by simp [szX, szX_sum r]
theorem szY_sum : ∀ l : List Y, szY l = (l.map Y.sz).sum
 | [] => by simp [szY]
 | x :: r => by simp [szY, szY_sum r]
theorem szB_sum : ∀ l : List (List Y), szB l = (l.map fun b => szY b + 1).sum
 | [] => by simp [szB]
 | x :: r => by simp [szB, szB_sum r]
theorem mem_szX {l : List X} {x : X} (h : x ∈ l) : x.sz ≤ szX l := by rw [szX_sum]; exact sum_mem h
theorem mem_szY {l : List Y} {x : Y} (h : x ∈ l) : x.sz ≤ szY l := by rw [szY_sum]; exact sum_mem h
theorem mem_szB {l : List (List Y)} {x : List Y} (h : x ∈ l) : szY x < szB l := by rw [szB_sum]; have h1 := sum_mem (f := fun b => szY b + 1) h; omega
theorem len_szX (l : List X) : l.length ≤ szX l := by rw [szX_sum]; exact sum_len fun x => by rw [X.sz_eq]; omega
theorem len_szY (l : List Y) : l.length ≤ szY l := by rw [szY_sum]; exact sum_len fun x => by rw [Y.sz_eq]; omega
theorem len_szB (l : List (List Y)) : l.length ≤ szB l := by rw [szB_sum]; exact sum_len fun x => by omega
theorem len_szS (l : List Tx) : l.length ≤ szS l := sum_len fun x => by unfold szT; omega
theorem len_szO (l : List On) : l.length ≤ szO l := sum_len fun x => by unfold On.sz; omega
theorem mem_szD {l : List Dc} {x : Dc} (h : x ∈ l) : Dc.sz x ≤ szD l := sum_mem h
theorem len_szD (l : List Dc) : l.length ≤ szD l := sum_len fun x => by unfold Dc.sz; omega
theorem len_szM (l : List Mm) : l.length ≤ szM l := sum_len fun x => by unfold Mm.sz; omega
theorem len_szJ (l : List Ii) : l.length ≤ szJ l := sum_len fun x => by unfold Ii.sz; omega
theorem idx_lt {i n : Nat} (h : i < n) : idx (i : Int) n = some i := by
 unfold idx
 rw [if_pos ⟨by omega, by omega⟩]
 simp
theorem nbeq_self (n : Nat) : Nat.beq n n = true := Nat.beq_refl n

/-! ### Types -/
noncomputable def zOf (t : TypeId) : Option (List V) := match mkTI Tryz.prog t with | some i => i.zero | none => none
theorem ti2 : mkTI Tryz.prog 2 = some ⟨.int .i64, 1, 8, zOf 2⟩ := by kernel_rfl
theorem ti3 : mkTI Tryz.prog 3 = some ⟨.int .i64, 1, 8, zOf 3⟩ := by kernel_rfl
theorem ti4 : mkTI Tryz.prog 4 = some ⟨.bool, 1, 1, zOf 4⟩ := by kernel_rfl
theorem ti5 : mkTI Tryz.prog 5 = some ⟨.int .u8, 1, 1, zOf 5⟩ := by kernel_rfl
theorem ti9 : mkTI Tryz.prog 9 = some ⟨.str, 1, 16, zOf 9⟩ := by kernel_rfl
theorem ti22 : mkTI Tryz.prog 22 = some ⟨.slice 40 3 48, 1, 24, zOf 22⟩ := by kernel_rfl
theorem ti23 : mkTI Tryz.prog 23 = some ⟨.slice 46 13 192, 1, 24, zOf 23⟩ := by kernel_rfl
theorem ti25 : mkTI Tryz.prog 25 = some ⟨.struct [(0, 1, false), (1, 1, false), (2, 1, false), (3, 1, false), (4, 1, false)], 5, 112, zOf 25⟩ := by kernel_rfl
theorem ti28 : mkTI Tryz.prog 28 = some ⟨.slice 50 3 32, 1, 24, zOf 28⟩ := by kernel_rfl
theorem ti29 : mkTI Tryz.prog 29 = some ⟨.slice 64 2 32, 1, 24, zOf 29⟩ := by kernel_rfl
theorem ti30 : mkTI Tryz.prog 30 = some ⟨.slice 53 12 176, 1, 24, zOf 30⟩ := by kernel_rfl
theorem ti32 : mkTI Tryz.prog 32 = some ⟨.struct [(0, 1, false), (1, 1, false), (2, 1, false), (3, 1, false), (4, 1, false), (5, 1, false), (6, 1, false)], 7, 160, zOf 32⟩ := by kernel_rfl
theorem ti33 : mkTI Tryz.prog 33 = some ⟨.int .i64, 1, 8, zOf 33⟩ := by kernel_rfl
theorem ti38 : mkTI Tryz.prog 38 = some ⟨.slice 85 3 32, 1, 24, zOf 38⟩ := by kernel_rfl
theorem ti40 : mkTI Tryz.prog 40 = some ⟨.struct [(0, 1, false), (1, 1, false), (2, 1, false)], 3, 48, zOf 40⟩ := by kernel_rfl
theorem ti41 : mkTI Tryz.prog 41 = some ⟨.slice 9 1 16, 1, 24, zOf 41⟩ := by kernel_rfl
theorem ti42 : mkTI Tryz.prog 42 = some ⟨.slice 44 6 72, 1, 24, zOf 42⟩ := by kernel_rfl
theorem ti44 : mkTI Tryz.prog 44 = some ⟨.struct [(0, 1, false), (1, 1, false), (2, 1, false), (3, 1, false), (4, 1, false), (5, 1, false)], 6, 72, zOf 44⟩ := by kernel_rfl
theorem ti46 : mkTI Tryz.prog 46 = some ⟨.struct [(0, 1, false), (1, 1, false), (2, 6, true), (8, 1, false), (9, 1, false), (10, 1, false), (11, 1, false), (12, 1, false)], 13, 192, zOf 46⟩ := by kernel_rfl
theorem ti50 : mkTI Tryz.prog 50 = some ⟨.struct [(0, 1, false), (1, 1, false), (2, 1, false)], 3, 32, zOf 50⟩ := by kernel_rfl
theorem ti51 : mkTI Tryz.prog 51 = some ⟨.slice 30 1 24, 1, 24, zOf 51⟩ := by kernel_rfl
theorem ti53 : mkTI Tryz.prog 53 = some ⟨.struct [(0, 1, false), (1, 1, false), (2, 1, false), (3, 6, true), (9, 1, false), (10, 1, false), (11, 1, false)], 12, 176, zOf 53⟩ := by kernel_rfl
theorem ti64 : mkTI Tryz.prog 64 = some ⟨.struct [(0, 1, false), (1, 1, false)], 2, 32, zOf 64⟩ := by kernel_rfl
theorem ti72 : mkTI Tryz.prog 72 = some ⟨.slice 74 2 16, 1, 24, zOf 72⟩ := by kernel_rfl
theorem ti74 : mkTI Tryz.prog 74 = some ⟨.struct [(0, 1, false), (1, 1, false)], 2, 16, zOf 74⟩ := by kernel_rfl
theorem ti75 : mkTI Tryz.prog 75 = some ⟨.slice 3 1 8, 1, 24, zOf 75⟩ := by kernel_rfl
theorem ti76 : mkTI Tryz.prog 76 = some ⟨.slice 4 1 1, 1, 24, zOf 76⟩ := by kernel_rfl
theorem ti78 : mkTI Tryz.prog 78 = some ⟨.struct [(0, 5, true), (5, 1, false), (6, 1, false), (7, 1, false)], 8, 184, zOf 78⟩ := by kernel_rfl
theorem ti81 : mkTI Tryz.prog 81 = some ⟨.struct [(0, 1, false), (1, 1, false)], 2, 48, zOf 81⟩ := by kernel_rfl
theorem ti85 : mkTI Tryz.prog 85 = some ⟨.struct [(0, 1, false), (1, 1, false), (2, 1, false)], 3, 32, zOf 85⟩ := by kernel_rfl
theorem ti86 : mkTI Tryz.prog 86 = some ⟨.ptr, 1, 8, zOf 86⟩ := by kernel_rfl
theorem ti87 : mkTI Tryz.prog 87 = some ⟨.map 9 4, 1, 8, zOf 87⟩ := by kernel_rfl
theorem ti88 : mkTI Tryz.prog 88 = some ⟨.map 9 3, 1, 8, zOf 88⟩ := by kernel_rfl
theorem ti90 : mkTI Tryz.prog 90 = some ⟨.struct [(0, 5, true), (5, 1, false), (6, 1, false), (7, 1, false)], 8, 136, zOf 90⟩ := by kernel_rfl
theorem ti98 : mkTI Tryz.prog 98 = some ⟨.struct [(0, 1, false), (1, 1, false), (2, 1, false), (3, 1, false), (4, 1, false), (5, 1, false), (6, 1, false), (7, 1, false)], 8, 184, zOf 98⟩ := by kernel_rfl
theorem ti106 : mkTI Tryz.prog 106 = some ⟨.map 9 75, 1, 8, zOf 106⟩ := by kernel_rfl
theorem ti107 : mkTI Tryz.prog 107 = some ⟨.map 3 4, 1, 8, zOf 107⟩ := by kernel_rfl
theorem ti116 : mkTI Tryz.prog 116 = some ⟨.slice 22 1 24, 1, 24, zOf 116⟩ := by kernel_rfl
theorem ti124 : mkTI Tryz.prog 124 = some ⟨.slice 5 1 1, 1, 24, zOf 124⟩ := by kernel_rfl
theorem ti140 : mkTI Tryz.prog 140 = some ⟨.slice 76 1 24, 1, 24, zOf 140⟩ := by kernel_rfl
theorem ti145 : mkTI Tryz.prog 145 = some ⟨.int .u64, 1, 8, zOf 145⟩ := by kernel_rfl
theorem ti149 : mkTI Tryz.prog 149 = some ⟨.int .u32, 1, 4, zOf 149⟩ := by kernel_rfl
theorem ti152 : mkTI Tryz.prog 152 = some ⟨.array 24 5 1 false, 24, 24, zOf 152⟩ := by kernel_rfl
theorem ti153 : mkTI Tryz.prog 153 = some ⟨.int .u64, 1, 8, zOf 153⟩ := by kernel_rfl
theorem ti159 : mkTI Tryz.prog 159 = some ⟨.array 20 153 1 false, 20, 160, zOf 159⟩ := by kernel_rfl
theorem ti160 : mkTI Tryz.prog 160 = some ⟨.array 65 5 1 false, 65, 65, zOf 160⟩ := by kernel_rfl
theorem ti164 : mkTI Tryz.prog 164 = some ⟨.array 32 5 1 false, 32, 32, zOf 164⟩ := by kernel_rfl
theorem ti165 : mkTI Tryz.prog 165 = some ⟨.array 64 5 1 false, 64, 64, zOf 165⟩ := by kernel_rfl
theorem zz2 : zOf 2 = some [.d (.int .i64 0)] := by kernel_rfl
theorem zz3 : zOf 3 = some [.d (.int .i64 0)] := by kernel_rfl
theorem zz4 : zOf 4 = some [.d (.bool false)] := by kernel_rfl
theorem zz5 : zOf 5 = some [.d (.int .u8 0)] := by kernel_rfl
theorem zz9 : zOf 9 = some [.d (.str [])] := by kernel_rfl
theorem zz22 : zOf 22 = some [.full []] := by kernel_rfl
theorem zz23 : zOf 23 = some [.full []] := by kernel_rfl
theorem zz25 : zOf 25 = some [.d (.str []), .full [], .full [], .full [], .full []] := by kernel_rfl
theorem zz28 : zOf 28 = some [.full []] := by kernel_rfl
theorem zz29 : zOf 29 = some [.full []] := by kernel_rfl
theorem zz30 : zOf 30 = some [.full []] := by kernel_rfl
theorem zz32 : zOf 32 = some [.d (.str []), .full [], .full [], .full [], .full [], .full [], .full []] := by kernel_rfl
theorem zz33 : zOf 33 = some [.d (.int .i64 0)] := by kernel_rfl
theorem zz38 : zOf 38 = some [.full []] := by kernel_rfl
theorem zz40 : zOf 40 = some [.d (.str []), .d (.int .i64 0), .full []] := by kernel_rfl
theorem zz41 : zOf 41 = some [.full []] := by kernel_rfl
theorem zz42 : zOf 42 = some [.full []] := by kernel_rfl
theorem zz44 : zOf 44 = some [.d (.int .i64 0), .d (.int .i64 0), .d (.int .i64 0), .d (.int .i64 0), .d (.str []), .full []] := by kernel_rfl
theorem zz46 : zOf 46 = some [.d (.int .i64 0), .full [], .d (.int .i64 0), .d (.int .i64 0), .d (.int .i64 0), .d (.int .i64 0), .d (.str []), .full [], .d (.int .i64 0), .d (.str []), .full [], .d (.str []), .full []] := by kernel_rfl
theorem zz50 : zOf 50 = some [.d (.str []), .d (.int .i64 0), .d (.int .i64 0)] := by kernel_rfl
theorem zz51 : zOf 51 = some [.full []] := by kernel_rfl
theorem zz53 : zOf 53 = some [.d (.int .i64 0), .d (.str []), .d (.int .i64 0), .d (.int .i64 0), .d (.int .i64 0), .d (.int .i64 0), .d (.int .i64 0), .d (.str []), .full [], .full [], .full [], .full []] := by kernel_rfl
theorem zz64 : zOf 64 = some [.d (.str []), .d (.str [])] := by kernel_rfl
theorem zz72 : zOf 72 = some [.full []] := by kernel_rfl
theorem zz74 : zOf 74 = some [.d (.int .i64 0), .d (.int .i64 0)] := by kernel_rfl
theorem zz75 : zOf 75 = some [.full []] := by kernel_rfl
theorem zz76 : zOf 76 = some [.full []] := by kernel_rfl
theorem zz78 : zOf 78 = some [.d (.str []), .full [], .full [], .full [], .full [], .full [], .full [], .full []] := by kernel_rfl
theorem zz81 : zOf 81 = some [.full [], .full []] := by kernel_rfl
theorem zz85 : zOf 85 = some [.d (.str []), .d (.int .i64 0), .d (.int .i64 0)] := by kernel_rfl
theorem zz86 : zOf 86 = some [.con (.pointer none)] := by kernel_rfl
theorem zz87 : zOf 87 = some [.con (.map none)] := by kernel_rfl
theorem zz88 : zOf 88 = some [.con (.map none)] := by kernel_rfl
theorem zz90 : zOf 90 = some [.d (.str []), .full [], .full [], .full [], .full [], .con .nilFunc, .con (.map none), .con (.map none)] := by kernel_rfl
theorem zz98 : zOf 98 = some [.d (.str []), .full [], .full [], .full [], .full [], .full [], .full [], .full []] := by kernel_rfl
theorem zz106 : zOf 106 = some [.con (.map none)] := by kernel_rfl
theorem zz107 : zOf 107 = some [.con (.map none)] := by kernel_rfl
theorem zz116 : zOf 116 = some [.full []] := by kernel_rfl
theorem zz124 : zOf 124 = some [.full []] := by kernel_rfl
theorem zz140 : zOf 140 = some [.full []] := by kernel_rfl
theorem zz145 : zOf 145 = some [.d (.int .u64 0)] := by kernel_rfl
theorem zz149 : zOf 149 = some [.d (.int .u32 0)] := by kernel_rfl
theorem zz152 : zOf 152 = some [.d (.int .u8 0), .d (.int .u8 0), .d (.int .u8 0), .d (.int .u8 0), .d (.int .u8 0), .d (.int .u8 0), .d (.int .u8 0), .d (.int .u8 0), .d (.int .u8 0), .d (.int .u8 0), .d (.int .u8 0), .d (.int .u8 0), .d (.int .u8 0), .d (.int .u8 0), .d (.int .u8 0), .d (.int .u8 0), .d (.int .u8 0), .d (.int .u8 0), .d (.int .u8 0), .d (.int .u8 0), .d (.int .u8 0), .d (.int .u8 0), .d (.int .u8 0), .d (.int .u8 0)] := by kernel_rfl
theorem zz153 : zOf 153 = some [.d (.int .u64 0)] := by kernel_rfl
theorem zz159 : zOf 159 = some [.d (.int .u64 0), .d (.int .u64 0), .d (.int .u64 0), .d (.int .u64 0), .d (.int .u64 0), .d (.int .u64 0), .d (.int .u64 0), .d (.int .u64 0), .d (.int .u64 0), .d (.int .u64 0), .d (.int .u64 0), .d (.int .u64 0), .d (.int .u64 0), .d (.int .u64 0), .d (.int .u64 0), .d (.int .u64 0), .d (.int .u64 0), .d (.int .u64 0), .d (.int .u64 0), .d (.int .u64 0)] := by kernel_rfl
theorem zz160 : zOf 160 = some [.d (.int .u8 0), .d (.int .u8 0), .d (.int .u8 0), .d (.int .u8 0), .d (.int .u8 0), .d (.int .u8 0), .d (.int .u8 0), .d (.int .u8 0), .d (.int .u8 0), .d (.int .u8 0), .d (.int .u8 0), .d (.int .u8 0), .d (.int .u8 0), .d (.int .u8 0), .d (.int .u8 0), .d (.int .u8 0), .d (.int .u8 0), .d (.int .u8 0), .d (.int .u8 0), .d (.int .u8 0), .d (.int .u8 0), .d (.int .u8 0), .d (.int .u8 0), .d (.int .u8 0), .d (.int .u8 0), .d (.int .u8 0), .d (.int .u8 0), .d (.int .u8 0), .d (.int .u8 0), .d (.int .u8 0), .d (.int .u8 0), .d (.int .u8 0), .d (.int .u8 0), .d (.int .u8 0), .d (.int .u8 0), .d (.int .u8 0), .d (.int .u8 0), .d (.int .u8 0), .d (.int .u8 0), .d (.int .u8 0), .d (.int .u8 0), .d (.int .u8 0), .d (.int .u8 0), .d (.int .u8 0), .d (.int .u8 0), .d (.int .u8 0), .d (.int .u8 0), .d (.int .u8 0), .d (.int .u8 0), .d (.int .u8 0), .d (.int .u8 0), .d (.int .u8 0), .d (.int .u8 0), .d (.int .u8 0), .d (.int .u8 0), .d (.int .u8 0), .d (.int .u8 0), .d (.int .u8 0), .d (.int .u8 0), .d (.int .u8 0), .d (.int .u8 0), .d (.int .u8 0), .d (.int .u8 0), .d (.int .u8 0), .d (.int .u8 0)] := by kernel_rfl
theorem zz164 : zOf 164 = some [.d (.int .u8 0), .d (.int .u8 0), .d (.int .u8 0), .d (.int .u8 0), .d (.int .u8 0), .d (.int .u8 0), .d (.int .u8 0), .d (.int .u8 0), .d (.int .u8 0), .d (.int .u8 0), .d (.int .u8 0), .d (.int .u8 0), .d (.int .u8 0), .d (.int .u8 0), .d (.int .u8 0), .d (.int .u8 0), .d (.int .u8 0), .d (.int .u8 0), .d (.int .u8 0), .d (.int .u8 0), .d (.int .u8 0), .d (.int .u8 0), .d (.int .u8 0), .d (.int .u8 0), .d (.int .u8 0), .d (.int .u8 0), .d (.int .u8 0), .d (.int .u8 0), .d (.int .u8 0), .d (.int .u8 0), .d (.int .u8 0), .d (.int .u8 0)] := by kernel_rfl
theorem zz165 : zOf 165 = some [.d (.int .u8 0), .d (.int .u8 0), .d (.int .u8 0), .d (.int .u8 0), .d (.int .u8 0), .d (.int .u8 0), .d (.int .u8 0), .d (.int .u8 0), .d (.int .u8 0), .d (.int .u8 0), .d (.int .u8 0), .d (.int .u8 0), .d (.int .u8 0), .d (.int .u8 0), .d (.int .u8 0), .d (.int .u8 0), .d (.int .u8 0), .d (.int .u8 0), .d (.int .u8 0), .d (.int .u8 0), .d (.int .u8 0), .d (.int .u8 0), .d (.int .u8 0), .d (.int .u8 0), .d (.int .u8 0), .d (.int .u8 0), .d (.int .u8 0), .d (.int .u8 0), .d (.int .u8 0), .d (.int .u8 0), .d (.int .u8 0), .d (.int .u8 0), .d (.int .u8 0), .d (.int .u8 0), .d (.int .u8 0), .d (.int .u8 0), .d (.int .u8 0), .d (.int .u8 0), .d (.int .u8 0), .d (.int .u8 0), .d (.int .u8 0), .d (.int .u8 0), .d (.int .u8 0), .d (.int .u8 0), .d (.int .u8 0), .d (.int .u8 0), .d (.int .u8 0), .d (.int .u8 0), .d (.int .u8 0), .d (.int .u8 0), .d (.int .u8 0), .d (.int .u8 0), .d (.int .u8 0), .d (.int .u8 0), .d (.int .u8 0), .d (.int .u8 0), .d (.int .u8 0), .d (.int .u8 0), .d (.int .u8 0), .d (.int .u8 0), .d (.int .u8 0), .d (.int .u8 0), .d (.int .u8 0), .d (.int .u8 0)] := by kernel_rfl
attribute [simp] ti2 ti3 ti4 ti5 ti9 ti22 ti23 ti25 ti28 ti29 ti30 ti32 ti33 ti38 ti40 ti41 ti42 ti44 ti46 ti50 ti51 ti53 ti64 ti72 ti74 ti75 ti76 ti78 ti81 ti85 ti86 ti87 ti88 ti90 ti98 ti106 ti107 ti116 ti124 ti140 ti145 ti149 ti152 ti153 ti159 ti160 ti164 ti165
attribute [simp] zz2 zz3 zz4 zz5 zz9 zz22 zz23 zz25 zz28 zz29 zz30 zz32 zz33 zz38 zz40 zz41 zz42 zz44 zz46 zz50 zz51 zz53 zz64 zz72 zz74 zz75 zz76 zz78 zz81 zz85 zz86 zz87 zz88 zz90 zz98 zz106 zz107 zz116 zz124 zz140 zz145 zz149 zz152 zz153 zz159 zz160 zz164 zz165


theorem so85 : structOffs Tryz.prog 85 = some [(0, .str), (1, .int), (2, .int)] := by kernel_rfl
theorem so50 : structOffs Tryz.prog 50 = some [(0, .str), (1, .int), (2, .int)] := by kernel_rfl
theorem so64 : structOffs Tryz.prog 64 = some [(0, .str), (1, .str)] := by kernel_rfl
theorem prim_Ob (f : Nat) : Ob.cfg.prim f = Ob.prim f := rfl
theorem thr_Ob (f : Nat) : Ob.cfg.thr f = Ob.thr f := rfl
theorem fz_Ob (f r : Nat) : Ob.cfg.fz f r = Ob.fz f r := rfl
theorem own_Ob (f : Nat) : Ob.cfg.own f = Ob.own f := rfl
theorem keep_Ob (f r : Nat) : Ob.cfg.keep f r = Ob.keep f r := rfl
theorem mat_Ob (f r : Nat) : Ob.cfg.mat f r = Ob.mat f r := rfl
theorem rowsOf_osl (look : Look) (sz id g off len sz' : Nat) (cap : Option Nat) : rowsOf look sz (.osl id g off len sz' cap) = match live look id g, Nat.beq sz sz' with
  | some o, true => match Nat.ble (off + len * sz) o.cells.length with
   | true => some (len, (o.cells.drop off).take (len * sz), [id])
   | false => none
  | _, _ => none := rfl

attribute [simp] so85 so50 so64 eqRow eqCell prim_Ob Ob.prim thr_Ob Ob.thr closeArgs closeA closeVs close close1 ofD toD V.flat V.flat2 V.flat1 D.flat evalV Env.get constV constV1 putEnv binV intBin strBin boolBin unV
 indexAddrV indexV indexRows ret fieldAddrV fieldV partV loadV readV TI.agg lenV Env.keep nilOpd nilV nilR isEq checkNil
attribute [simp] opP opP0 wantedP step retR live nbeq_self newV cellsV V.one storeV cl1 roOf fz_Ob Ob.fz Hp.get Hp.set Hp.sets addNew idx_lt builtinV
attribute [simp] Hp.trunc_zero nblt_eq Hp.get_set_self Hp.trunc cut own_Ob Ob.own convV envOf
attribute [simp] endR keepSt mats matOne keep_Ob mat_Ob Ob.mat callD rowsOf_osl appendV encI_len encS_len encX_len encY_len encB_len encO_len encD_len encE_len encM_len encJ_len encC_len

/-- Are two things equal? -/
noncomputable def eqB {α : Sort _} (a b : α) : Bool := @decide (a = b) (Classical.propDecidable _)
theorem eqB_self {α : Sort _} (a : α) : eqB a a = true := by unfold eqB; simp
theorem eqB_true {α : Sort _} {a b : α} (h : a = b) : eqB a b = true := by subst h; exact eqB_self a
theorem eqB_false {α : Sort _} {a b : α} (h : a ≠ b) : eqB a b = false := by unfold eqB; simp [h]
end Go.Ac
end

section
set_option maxRecDepth 4000
namespace Go.Ac
open Go.Proofs

theorem int_beq (a b : Int) : (a == b) = decide (a = b) := by by_cases h : a = b <;> simp [h]
theorem int_bne (a b : Int) : (a != b) = !decide (a = b) := by by_cases h : a = b <;> simp [h]
theorem tx_beq (a b : Tx) : (a == b) = decide (a = b) := by by_cases h : a = b <;> simp [h]
theorem tx_bne (a b : Tx) : (a != b) = !decide (a = b) := by by_cases h : a = b <;> simp [h]
theorem eq_of_take {α : Type} {a b : List α} (h : a.length = b.length) : (a.take a.length = b.take a.length) ↔ a = b := by
 rw [List.take_length, h, List.take_length]
theorem take_snoc {α : Type} {l : List α} {j : Nat} {x : α} (h : l[j]? = some x) : l.take (j + 1) = l.take j ++ [x] := by rw [List.take_add_one, h]; rfl




end Go.Ac
end

section
set_option maxRecDepth 4000
namespace Go.Ac
open Go.Proofs
theorem X.ext {x y : X} (h0 : x.k = y.k) (h1 : x.o = y.o) (h2 : x.t = y.t) (h3 : x.v = y.v) (h4 : x.nm = y.nm) (h5 : x.args = y.args) : x = y := by
 cases x; cases y; simp only [X.k, X.o, X.t, X.v, X.nm, X.args] at *; subst h0 h1 h2 h3 h4 h5; rfl
theorem Y.ext {x y : Y} (h0 : x.k = y.k) (h1 : x.nm = y.nm) (h2 : x.t = y.t) (h3 : x.r = y.r) (h4 : x.outs = y.outs) (h5 : x.args = y.args) (h6 : x.brs = y.brs) : x = y := by
 cases x; cases y; simp only [Y.k, Y.nm, Y.t, Y.r, Y.outs, Y.args, Y.brs] at *; subst h0 h1 h2 h3 h4 h5 h6; rfl
theorem Dc.ext' {x y : Dc} (h0 : x.nm = y.nm) (h1 : x.t = y.t) (h2 : x.ck = y.ck) : x = y := by cases x; cases y; simp only at *; subst h0 h1 h2; rfl
theorem En.ext' {x y : En} (h0 : x.nm = y.nm) (h1 : x.tags = y.tags) : x = y := by cases x; cases y; simp only at *; subst h0 h1; rfl
theorem Cl.ext' {x y : Cl} (h0 : x.nm = y.nm) (h1 : x.inn = y.inn) (h2 : x.out = y.out) (h3 : x.loc = y.loc) (h4 : x.mems = y.mems) (h5 : x.ins = y.ins) (h6 : x.step = y.step) : x = y := by cases x; cases y; simp only at *; subst h0 h1 h2 h3 h4 h5 h6; rfl
theorem Oc.ext' {x y : Oc} (h0 : x.en = y.en) (h1 : x.cl = y.cl) : x = y := by cases x; cases y; simp only at *; subst h0 h1; rfl











end Go.Ac
end
