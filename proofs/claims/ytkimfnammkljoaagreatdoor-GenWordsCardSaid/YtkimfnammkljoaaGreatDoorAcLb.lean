/- The abstract machine: nil, letters, maps, capacities. No conditions. -/
import Derived.Test.YtkimfnammkljoaaGreatDoorAcLM
import Derived.Laws.BytesArg
import Derived.Laws.IdiomRangeMap
import Derived.Lib.ConvBytes
set_option linter.unusedVariables false
set_option linter.unusedSimpArgs false
namespace Go.Ac
variable {P : Program} {S : Nat → Prop} {m : M}

/-! ### Nil -/

theorem run_eql {t : TypeId} {a y : Value} {b : Bool} {w : World} {op : BinOp} {e : Bool} (xo yo : Operand) (he : isEq op = some e) (hi : ∀ k n, a ≠ .int k n) (hf : ∀ k n, a ≠ .float k n) (hc : ∀ k n q, a ≠ .complex k n q) (hs : ∀ s, a ≠ .string s)
  (hn : a ≠ .nilIface) (hg : ∀ l, a ≠ .agg l) (h : (Op.equal t a y).run P w = .ok b w) : (eqGuard op t xo yo a y).run P w = .ok () w ∧ (binOp op t a y).run P w = .ok (.bool (b == e)) w := by
 unfold isEq at he
 constructor
 ·unfold eqGuard
  cases op <;> simp at he <;> (cases a <;> first | rfl | exact absurd rfl (hn) | exact absurd rfl (hg _))
 ·cases op <;> simp at he <;> subst he
  ·cases a <;> first | exact absurd rfl (hi _ _) | exact absurd rfl (hf _ _) | exact absurd rfl (hc _ _ _) | exact absurd rfl (hs _) | (simp [binOp, h]; done)
  ·cases a <;> first | exact absurd rfl (hi _ _) | exact absurd rfl (hf _ _) | exact absurd rfl (hc _ _ _) | exact absurd rfl (hs _) | (simp [binOp, h]; done)

theorem run_equal {t : TypeId} {a y : Value} {b : Bool} {w : World} (h : ∀ n, (Op.equalIn (n + 1) t a y).run P w = .ok b w) : (Op.equal t a y).run P w = .ok b w := h 9999

theorem nilR_sound [Gl] {op : BinOp} {t : TypeId} {i : TI} {x : V} {r : Res} {xo y : Operand} {a b : Value} {c : Nat} (hi : mkTI P t = some i) (hb : ∀ v, y = .const v → b = v)
  (h : nilR m.h op i.k y x = some r) (hR : Rel S m) (ha : RV S m x a) :
  ∃ z, (eqGuard op t xo y a b).run P m.w = .ok () m.w ∧ (binOp op t a b).run P m.w = .ok z m.w ∧ After S m c r z m := by
 obtain ⟨inf, d, i1, i2, i3, _⟩ := mkTI_spec hi
 unfold nilR at h
 split at h
 ·rename_i e bb rd he hn
  simp only [Option.some.injEq] at h; subst h
  by_cases hif : i.k = .iface
  ·rw [hif] at hn i3
   obtain ⟨ms, rfl⟩ := mkTK_iface i3
   unfold nilV at hn
   split at hn
   ·rename_i h1; cases h1
   ·rename_i h1; cases h1
   ·rename_i h1; cases h1
   ·split at hn
    ·simp at hn; obtain ⟨rfl, rfl⟩ := hn
     obtain rfl := hb _ rfl
     cases ha
     have h1 : (Op.equal t .nilIface .nilIface).run P m.w = .ok true m.w := run_equal fun n => by simp [Op.equalIn, run_underlying i2]
     refine ⟨.bool (true == e), ?_, ?_, After.quiet hR (.d (.bool _))⟩
     ·unfold eqGuard
      unfold isEq at he
      cases op <;> simp at he <;> simp
     ·unfold isEq at he
      cases op <;> simp at he <;> subst he <;> simp [binOp, h1]
    ·simp at hn
   ·simp at hn
  suffices hq : (Op.equal t a b).run P m.w = .ok bb m.w ∧ ((∃ p, a = .pointer p) ∨ (∃ p, a = .map p) ∨ ∃ p l c, a = .slice p l c) by
   obtain ⟨h1, h2⟩ := hq
   obtain ⟨g1, g2⟩ := run_eql (P := P) xo y he (a := a) (by rcases h2 with ⟨_, rfl⟩ | ⟨_, rfl⟩ | ⟨_, _, _, rfl⟩ <;> (intros; simp)) (by rcases h2 with ⟨_, rfl⟩ | ⟨_, rfl⟩ | ⟨_, _, _, rfl⟩ <;> (intros; simp))
    (by rcases h2 with ⟨_, rfl⟩ | ⟨_, rfl⟩ | ⟨_, _, _, rfl⟩ <;> (intros; simp)) (by rcases h2 with ⟨_, rfl⟩ | ⟨_, rfl⟩ | ⟨_, _, _, rfl⟩ <;> (intros; simp)) (by rcases h2 with ⟨_, rfl⟩ | ⟨_, rfl⟩ | ⟨_, _, _, rfl⟩ <;> simp)
    (by rcases h2 with ⟨_, rfl⟩ | ⟨_, rfl⟩ | ⟨_, _, _, rfl⟩ <;> (intros; simp)) h1
   exact ⟨_, g1, g2, After.quiet hR (.d (.bool _))⟩
  unfold nilV at hn
  split at hn
  ·rename_i hk
   rw [hk] at i3
   obtain ⟨el, rfl⟩ := mkTK_ptr i3
   obtain rfl := hb _ rfl
   have np : ∀ p, (Op.equal t (.pointer (some p)) (.pointer none)).run P m.w = .ok false m.w := fun p => by
    exact run_equal fun n => by simp [Op.equalIn, run_underlying i2]
   split at hn
   ·simp at hn; obtain ⟨rfl, rfl⟩ := hn; cases ha
    exact ⟨by exact run_equal fun n => by simp [Op.equalIn, run_underlying i2], .inl ⟨_, rfl⟩⟩
   ·split at hn
    ·rename_i o hl
     simp at hn; obtain ⟨rfl, rfl⟩ := hn
     obtain ⟨_, _, b, base, _, rfl⟩ := ha.ptr_live hl
     exact ⟨np _, .inl ⟨_, rfl⟩⟩
    ·simp at hn
   ·simp at hn; obtain ⟨rfl, rfl⟩ := hn; cases ha
    exact ⟨np _, .inl ⟨_, rfl⟩⟩
   ·simp at hn
  ·rename_i kt et hk
   rw [hk] at i3
   have := mkTK_map i3; subst this
   obtain rfl := hb _ rfl
   split at hn
   ·simp at hn; obtain ⟨rfl, rfl⟩ := hn; cases ha
    exact ⟨by exact run_equal fun n => by simp [Op.equalIn, run_underlying i2], .inr (.inl ⟨_, rfl⟩)⟩
   ·split at hn
    ·rename_i o hl
     simp at hn; obtain ⟨rfl, rfl⟩ := hn
     obtain ⟨_, _, _, b, _, rfl⟩ := ha.mp_live hl
     exact ⟨by exact run_equal fun n => by simp [Op.equalIn, run_underlying i2], .inr (.inl ⟨_, rfl⟩)⟩
    ·simp at hn
   ·simp at hn
  ·rename_i et sz by_ l c hk
   rw [hk] at i3
   obtain ⟨rfl, _⟩ := mkTK_slice i3
   obtain rfl := hb _ rfl
   have ns : ∀ p n k, (Op.equal t (.slice (some p) n k) (.slice none l c)).run P m.w = .ok false m.w := fun p n k => by
    exact run_equal fun n => by simp [Op.equalIn, run_underlying i2]
   split at hn
   ·simp at hn; obtain ⟨rfl, rfl⟩ := hn
    cases ha with
    | d hd => cases hd; exact ⟨ns _ _ _, .inr (.inr ⟨_, _, _, rfl⟩)⟩
   ·split at hn
    ·rename_i o hl hlen
     simp at hn; obtain ⟨rfl, rfl⟩ := hn
     obtain ⟨_, _, hok⟩ := ha.osl_live hl
     unfold OslOK at hok
     rw [Nat.blt_eq] at hlen
     split at hok
     ·omega
     ·obtain ⟨p, k, rfl, _⟩ := hok
      exact ⟨ns _ _ _, .inr (.inr ⟨_, _, _, rfl⟩)⟩
    ·simp at hn
   ·simp at hn
  ·rename_i hk; exact absurd hk hif
  ·simp at hn
 ·simp at h

theorem checkNil_sound [Gl] {x : V} {r : Res} {σ : Operand → Value} {xo : Operand} {dst : Option Tmp} {ty : TypeId} {pos : String} {af : Array Edge} {gd : Option (Nat × Bool)} {c : Nat} (h : checkNil m.h x = some r) (hR : Rel S m) (ha : RV S m x (σ xo)) :
  (execOp σ ⟨dst, .nilCheck xo, ty, pos, af, gd⟩).run P m.w = .ok (.value (σ xo)) m.w ∧ After S m c r (σ xo) m := by
 unfold checkNil at h
 split at h
 ·rename_i id g off
  split at h
  ·rename_i o hl
   simp [retR] at h; subst h
   obtain ⟨_, _, b, base, _, e⟩ := ha.ptr_live hl
   exact ⟨by simp [execOp, e], After.quiet hR ha⟩
  ·simp at h
 ·simp [ret] at h; subst h
  refine ⟨?_, After.quiet hR ha⟩
  generalize hv : σ xo = v at ha
  cases ha
  simp [execOp, hv]
 ·rename_i f cs
  simp [ret] at h; subst h
  refine ⟨?_, After.quiet hR ha⟩
  generalize hv : σ xo = v at ha
  cases ha
  simp [execOp, hv]
 ·simp at h

/-! ### Strings, letter by letter -/

theorem rangeV_sound [Gl] {t : TypeId} {i : TI} {x : V} {r : Res} {a : Value} {n c : Nat} (hi : mkTI P t = some i) (h : rangeV n c i x = some r) (hR : Rel S m) (hf : Fresh m c r.dc) (ha : RV S m x a) :
  ∃ z m', (Instr.range t a).run P m.w = .ok z m'.w ∧ After S m c r z m' := by
 obtain ⟨inf, d, i1, i2, i3, _⟩ := mkTI_spec hi
 unfold rangeV at h
 split at h
 ·rename_i s
  split at h
  ·rename_i hk
   rw [hk] at i3
   have := mkTK_str i3; subst this
   simp only [Option.some.injEq] at h; subst h
   cases ha with
   | d hd =>
    cases hd with
    | str bs l hbs =>
     obtain ⟨m', w1, w2, w3, w4, w5, w6⟩ := alloc_sp (id := n) (o' := ⟨c, false, [.itc s 0]⟩) (c := c) (ob := .stringIter bs 0) (w' := { m.w with heap := m.w.heap.push (.stringIter bs 0) }) hR rfl trivial
      (hf n c (Nat.le_refl _) (by simp)) rfl (fun m' _ hm => ⟨rfl, bs, hm, hbs⟩)
     refine ⟨.pointer (some ⟨m.w.heap.size, 0, none⟩), m', ?_, w5, w6, .it (by rw [w4]; exact .inr ⟨Nat.le_refl _, by omega⟩) rfl fun o ho hg => ?_, by rw [w2]; rfl, w4⟩
     ·rw [w1]
      simp [Instr.range, run_underlying i2, newObj, Sem.run]
     ·rw [w2, upd_same] at ho
      simp only [Option.some.injEq] at ho; subst ho
      exact ⟨rfl, m.w.heap.size, by rw [w3, upd_same], rfl⟩
  ·simp at h
 ·simp at h

theorem nextV_sound [Gl] {ty : TypeId} {x : V} {r : Res} {a : Value} {c : Nat} (h : nextV m.h x = some r) (hR : Rel S m) (ha : RV S m x a) :
  ∃ z m', (Instr.next a true ty).run P m.w = .ok z m'.w ∧ After S m c r z m' := by
 unfold nextV at h
 split at h
 ·rename_i id g
  split at h
  ·rename_i o hl
   split at h
   ·rename_i s pos hro hc
    obtain ⟨ho, hg, hkd, b, hat, rfl⟩ := ha.it_live hl
    have hrow := (hR.obj id o b 0 ho hat).2
    rw [hc] at hrow
    obtain ⟨_, bs, he, hbs⟩ := hrow
    have hsz : bs.size = s.length := by rw [← hbs, Array.length_toList]; rfl
    have hbs2 : (⟨s.toArray⟩ : ByteArray) = bs := by
     cases bs with
     | mk dat => simp only at hbs; subst hbs; simp
    rw [hbs2] at h
    split at h
    ·rename_i hlt
     rw [Nat.blt_eq] at hlt
     simp only [Option.some.injEq] at h; subst h
     generalize hdec : Utf8.decode bs pos = q
     obtain ⟨q1, q2⟩ := q
     simp only [hdec]
     obtain ⟨m', w1, w2, w3, w4, w5, w6⟩ := write_sp (id := id) (o := o) (o' := ⟨g, false, [.itc s (pos + q2)]⟩) (b := b) (c := c) (ob := .stringIter bs pos) (ob' := .stringIter bs (pos + q2)) (w' := { m.w with heap := m.w.heap.setIfInBounds b (.stringIter bs (pos + q2)) })
      hR ho hat hro he trivial trivial rfl hg.symm (by rw [hc]; rfl) (by rw [hc]; simp) (fun m' _ hm => ⟨rfl, bs, hm, hbs⟩)
     refine ⟨.tuple #[.bool true, goInt pos, .int .i32 q1], m', ?_, w5, w6, ?_, by rw [w2]; rfl, by rw [w4]; exact (iss_zero m c).symm⟩
     ·rw [w1]
      have hlt' : pos < bs.size := by omega
      simp [Instr.next, getObj, setObj, Sem.run, he, hlt', hdec]
     ·refine .tuple rfl fun j u y hu hy => ?_
      rcases j with _ | _ | _ | j
      ·simp at hu hy; subst hu; subst hy; exact .d (.bool _)
      ·simp at hu hy; subst hu; subst hy; exact .d (.int _ _)
      ·simp at hu hy; subst hu; subst hy; exact .d (.int _ _)
      ·simp at hu
    ·rename_i hlt
     have hlt' : ¬ pos < bs.size := by
      rw [hsz]; intro hh
      rw [← Nat.blt_eq] at hh; rw [hh] at hlt; cases hlt
     simp only [Option.some.injEq] at h; subst h
     refine ⟨.tuple #[.bool false], m, ?_, After.quiet hR (.tuple rfl fun j u y hu hy => ?_)⟩
     ·simp [Instr.next, getObj, setObj, Sem.run, he, hlt']
     ·rcases j with _ | j
      ·simp at hu hy; subst hu; subst hy; exact .d (.bool _)
      ·simp at hu
   ·simp at h
  ·simp at h
 ·simp at h

/-! ### Maps -/

theorem ba_beq (s1 s2 : ByteArray) : (s1 == s2) = (s1.data == s2.data) := by cases s1; cases s2; rfl

theorem keyOK_int {tk : TK} {k : IntKind} {n : Int} (h : keyOK tk (.int k n) = true) : tk = .int k := by
 cases tk <;> simp [keyOK] at h
 rw [h]
theorem keyOK_str {tk : TK} {s : List UInt8} (h : keyOK tk (.str s) = true) : tk = .str := by
 cases tk <;> simp [keyOK] at h
 rfl
theorem keyOK_bool {tk : TK} {b : Bool} (h : keyOK tk (.bool b) = true) : tk = .bool := by
 cases tk <;> simp [keyOK] at h
 rfl
theorem keyOK_slice {tk : TK} {l : List (List D)} (h : keyOK tk (.slice l) = true) : False := by
 cases tk <;> simp [keyOK] at h

theorem keyEq_sound [Gl] {w : World} {av : Nat → Prop} {k : TK} {d : TypeDesc} {a b : D} {x y : Value} {q : Bool} (hd : mkTK P d = some k) (hk : keyOK k a = true) (h : keyEq a b = some q) (hx : RD w av a x) (hy : RD w av b y) : Instr.sameNow d x y = some q := by
 unfold keyEq at h
 split at h
 ·cases hx; cases hy
  split at h
  ·rename_i e; subst e
   simp at h; subst h
   have := keyOK_int hk; subst this
   have := mkTK_int hd; subst this
   simp [Instr.sameNow]
  ·simp at h
 ·cases hx with
  | str s1 l1 h1 =>
   cases hy with
   | str s2 l2 h2 =>
    simp at h; subst h
    have := keyOK_str hk; subst this
    have := mkTK_str hd; subst this
    simp only [Instr.sameNow, Option.some.injEq]
    rw [← h1, ← h2]
    by_cases hs : s1 = s2
    ·subst hs
     rw [ba_beq, beq_self_eq_true, beq_self_eq_true]
    ·have : ¬ s1.data.toList = s2.data.toList := fun he => hs (by
      cases s1; cases s2; simp at he; subst he; rfl)
     have h3 : ¬ s1.data = s2.data := fun he => this (by rw [he])
     rw [ba_beq, beq_eq_false_iff_ne.2 h3, beq_eq_false_iff_ne.2 this]
 ·cases hx; cases hy
  simp at h; subst h
  have := keyOK_bool hk; subst this
  have := mkTK_bool hd; subst this
  simp [Instr.sameNow]
 ·simp at h

theorem findV_sound [Gl] {w : World} {av : Nat → Prop} {tk : TK} {d : TypeDesc} {k : D} {x : Value} (hd : mkTK P d = some tk) (hk : keyOK tk k = true) (hx : RD w av k x) :
  ∀ {ks : List D} {es : List MapEntry} {j : Nat} {q : Option Nat}, ks.length = es.length → (∀ (i : Nat) (u : D) (e : MapEntry), ks[i]? = some u → es[i]? = some e → RD w av u e.key) → findV k ks j = some q →
   match q with
   | none => Instr.findNow d x es j = some none
   | some i => j ≤ i ∧ ∃ e, es[i - j]? = some e ∧ Instr.findNow d x es j = some (some (i, e.val))
 | [], es, j, q, hl, hr, h => by
  have : es = [] := List.length_eq_zero_iff.1 (by simpa using hl.symm)
  subst this
  simp [findV] at h; subst h
  rfl
 | u :: ks, [], j, q, hl, hr, h => by simp at hl
 | u :: ks, e :: es, j, q, hl, hr, h => by
  simp only [findV] at h
  have hu := hr 0 u e rfl rfl
  split at h
  ·rename_i hq
   simp at h; subst h
   refine ⟨Nat.le_refl _, e, by simp, ?_⟩
   simp only [Instr.findNow, keyEq_sound hd hk hq hx hu]
  ·rename_i hq
   have ih := findV_sound hd hk hx (ks := ks) (es := es) (j := j + 1) (q := q) (by simpa using hl) (fun i u e h1 h2 => hr (i + 1) u e (by simpa using h1) (by simpa using h2)) h
   have hstep : Instr.findNow d x (e :: es) j = Instr.findNow d x es (j + 1) := by simp only [Instr.findNow, keyEq_sound hd hk hq hx hu]
   cases q with
   | none => simp only at ih ⊢; rw [hstep]; exact ih
   | some i =>
    simp only at ih ⊢
    obtain ⟨h1, e', h2, h3⟩ := ih
    refine ⟨by omega, e', ?_, by rw [hstep]; exact h3⟩
    rw [show i - j = (i - (j + 1)) + 1 by omega]; simpa using h2
  ·simp at h

theorem run_checkKey [Gl] {kt : TypeId} {d : TypeDesc} {tk : TK} {k : D} {x : Value} {e : Bool} {w w' : World} {av : Nat → Prop} (h2 : P.underlying kt = some d) (hd : mkTK P d = some tk) (hk : keyOK tk k = true) (hx : RD w av k x) :
  (Instr.checkKey e 10000 kt x).run P w' = .ok () w' := by
 have gen : ∀ n, (Instr.checkKey e (n + 1) kt x).run P w' = .ok () w' := by
  intro n
  cases hx with
  | int q i => have := keyOK_int hk; subst this; have := mkTK_int hd; subst this; simp [Instr.checkKey, run_underlying h2]
  | str s l h => have := keyOK_str hk; subst this; have := mkTK_str hd; subst this; simp [Instr.checkKey, run_underlying h2]
  | bool b => have := keyOK_bool hk; subst this; have := mkTK_bool hd; subst this; simp [Instr.checkKey, run_underlying h2]
  | empty a cap h => exact (keyOK_slice hk).elim
  | slice => exact (keyOK_slice hk).elim
  | sym q _ => cases tk <;> simp [keyOK] at hk
 exact gen 9999

theorem run_findKey {kt : TypeId} {d : TypeDesc} {x : Value} {es : List MapEntry} {q : Option (Nat × Value)} {w : World} (h2 : P.underlying kt = some d) (h : Instr.findNow d x es 0 = some q) : (Instr.findKey kt x es).run P w = .ok q w := by
 simp [Instr.findKey, run_underlying h2, h]

theorem zeroT_sound [Gl] {et : TypeId} {z : V} (w : World) (h : zeroT P et = some z) : ∃ v, (zeroValue et).run P w = .ok v w ∧ RV S m z v := by
 unfold zeroT at h
 split at h
 ·rename_i i hi
  rw [Option.map_eq_some_iff] at h
  obtain ⟨v, hv, rfl⟩ := h
  exact ⟨v, by simp [zeroValue, typeInfo, hi, hv], constV_RV v⟩
 ·simp at h

theorem assertV_sound [Gl] {t xt : TypeId} {d : TypeDesc} {ok : Bool} {v : V} {a : Value} {r : Res} {c : Nat} (hd : P.underlying t = some d) (hne : ∀ l, d ≠ .interface l) (h : assertV (zeroT P t) t ok v = some r) (hR : Rel S m) (ha : RV S m v a) :
  ∃ y, (Instr.typeAssert a xt t ok).run P m.w = .ok y m.w ∧ After S m c r y m := by
 have fails : ∀ {z : V}, ok = true → zeroT P t = some z → r = ⟨.tuple [z, .d (.bool false)], [], [], 0, 0, false⟩ → ∀ (q : Sem Value), (∀ z, (zeroValue t).run P m.w = .ok z m.w → q.run P m.w = .ok (.tuple #[z, .bool false]) m.w) → (Instr.typeAssert a xt t ok).run P m.w = q.run P m.w → ∃ y, (Instr.typeAssert a xt t ok).run P m.w = .ok y m.w ∧ After S m c r y m := by
  intro z _ hz hr q hq he
  obtain ⟨zv, z1, z2⟩ := zeroT_sound (P := P) (S := S) (m := m) m.w hz
  refine ⟨_, he.trans (hq zv z1), ?_⟩
  subst hr
  refine After.quiet hR (.tuple rfl fun j x y hx hy => ?_)
  rcases j with _ | _ | j
  ·simp at hx hy; subst hx; subst hy; exact z2
  ·simp at hx hy; subst hx; subst hy; exact .d (.bool _)
  ·simp at hx
 unfold assertV at h
 split at h
 ·rename_i u w
  cases ha with
  | @ifc _ _ y ha =>
   split at h
   ·rename_i hu
    have hu' := Nat.eq_of_beq_eq_true hu
    subst hu'
    split at h
    ·simp only [ret, Option.some.injEq] at h; subst h
     refine ⟨.tuple #[y, .bool true], ?_, After.quiet hR (.tuple rfl fun j p q hx hy => ?_)⟩
     ·simp only [Instr.typeAssert, Sem.run_bind, run_underlying hd, Result.andThen_ok]
      cases d <;> first | (simp; done) | exact absurd rfl (hne _)
     ·rcases j with _ | _ | j
      ·simp at hx hy; subst hx; subst hy; exact ha
      ·simp at hx hy; subst hx; subst hy; exact .d (.bool _)
      ·simp at hx
    ·simp only [ret, Option.some.injEq] at h; subst h
     refine ⟨y, ?_, After.quiet hR ha⟩
     simp only [Instr.typeAssert, Sem.run_bind, run_underlying hd, Result.andThen_ok]
     cases d <;> first | (simp; done) | exact absurd rfl (hne _)
   ·rename_i hu
    have hu' : u ≠ t := fun e => by subst e; simp at hu
    split at h
    ·rename_i z hz
     simp only [ret, Option.some.injEq] at h
     refine fails rfl hz h.symm (do pure (.tuple #[← zeroValue t, .bool false])) (fun z hz => by simp [Sem.run_bind, hz]) ?_
     simp only [Instr.typeAssert, Sem.run_bind, run_underlying hd, Result.andThen_ok]
     cases d <;> first | (simp [hu']; done) | exact absurd rfl (hne _)
    ·simp at h
 ·cases ha with
  | con =>
   split at h
   ·rename_i z hz
    simp only [ret, Option.some.injEq] at h
    refine fails rfl hz h.symm (do pure (.tuple #[← zeroValue t, .bool false])) (fun z hz => by simp [Sem.run_bind, hz]) ?_
    simp only [Instr.typeAssert, Sem.run_bind, run_underlying hd, Result.andThen_ok]
    cases d <;> first | (simp; done) | exact absurd rfl (hne _)
   ·simp at h
 ·simp at h

theorem lookupV_sound [Gl] {t kt et : TypeId} {i ki : TI} {x k : V} {ok : Bool} {r : Res} {a b : Value} {c : Nat} (hi : mkTI P t = some i) (hk : i.k = .map kt et) (hki : mkTI P kt = some ki)
  (h : lookupV m.h ki (zeroT P et) x k ok = some r) (hR : Rel S m) (ha : RV S m x a) (hb : RV S m k b) :
  ∃ z, (Instr.lookup t a b ok).run P m.w = .ok z m.w ∧ After S m c r z m := by
 obtain ⟨inf, d, i1, i2, i3, _⟩ := mkTI_spec hi
 rw [hk] at i3
 have := mkTK_map i3; subst this
 obtain ⟨_, dk, _, k2, k3, _⟩ := mkTI_spec hki
 unfold lookupV at h
 split at h
 ·rename_i kd z hz
  split at h
  ·rename_i hok
   cases hb with
   | d hb =>
   obtain ⟨zv, z1, z2⟩ := zeroT_sound (P := P) (S := S) (m := m) m.w hz
   have res : ∀ {v : V} {y : Value} {q : Bool}, RV S m v y → RV S m (lookRes ok v q) (if ok then .tuple #[y, .bool q] else y) := by
    intro v y q hv
    cases ok with
    | false => exact hv
    | true =>
     refine .tuple rfl fun j u y' hu hy => ?_
     rcases j with _ | _ | j
     ·simp at hu hy; subst hu; subst hy; exact hv
     ·simp at hu hy; subst hu; subst hy; exact .d (.bool _)
     ·simp at hu
   split at h
   ·simp [ret] at h; subst h
    cases ha
    refine ⟨_, ?_, After.quiet hR (res z2)⟩
    have hf : (Instr.findKey kt b []).run P m.w = .ok none m.w := run_findKey (d := dk) k2 rfl
    simp [Instr.lookup, run_underlying i2, run_checkKey k2 k3 hok hb, hf, z1]
   ·rename_i id g
    split at h
    ·rename_i o hl
     split at h
     ·rename_i ks vs bs cl hc
      obtain ⟨ho, hg, hkd, bl, hat, rfl⟩ := ha.mp_live hl
      have hrow := (hR.obj id o bl 0 ho hat).2
      rw [hc] at hrow
      obtain ⟨_, es, he, hm⟩ := hrow
      have hfind := fun q hq => findV_sound (P := P) (q := q) (es := es.toList) (ks := ks) (j := 0) k3 hok hb (by rw [hm.lk]; simp) (fun i u e h1 h2 => hm.key i u e h1 (by simpa using h2)) hq
      split at h
      ·rename_i j hq
       obtain ⟨_, e, he1, he2⟩ := hfind _ hq
       split at h
       ·rename_i v hv
        simp [retR] at h; subst h
        refine ⟨_, ?_, After.quiet hR (res (hm.val j v e hv (by simpa using he1)))⟩
        have hf := run_findKey (P := P) (w := m.w) k2 he2
        simp [Instr.lookup, run_underlying i2, getObj, Sem.run, he, run_checkKey k2 k3 hok hb, hf]
       ·simp at h
      ·rename_i hq
       simp [retR] at h; subst h
       have hf := run_findKey (P := P) (w := m.w) k2 (hfind _ hq)
       refine ⟨_, ?_, After.quiet hR (res z2)⟩
       simp [Instr.lookup, run_underlying i2, getObj, Sem.run, he, run_checkKey k2 k3 hok hb, hf, z1]
      ·simp at h
     ·rename_i ks vs cl hc
      obtain ⟨ho, hg, hkd, bl, hat, rfl⟩ := ha.mp_live hl
      have hrow := (hR.obj id o bl 0 ho hat).2
      rw [hc] at hrow
      obtain ⟨_, es, he, ks', vs', bs', hm, hqp⟩ := hrow
      have hfind := fun q hq => findV_sound (P := P) (q := q) (es := es.toList) (ks := ks') (j := 0) k3 hok hb (by rw [hm.lk]; simp) (fun i u e h1 h2 => hm.key i u e h1 (by simpa using h2)) hq
      split at h
      ·rename_i j hq
       obtain ⟨j', hq', _, _, v', hv', hvj⟩ := hqp.find hq
       obtain ⟨_, e, he1, he2⟩ := hfind _ hq'
       split at h
       ·rename_i v hv
        rw [hvj, Option.some.injEq] at hv
        subst hv
        simp [retR] at h; subst h
        refine ⟨_, ?_, After.quiet hR (res (hm.val j' v' e hv' (by simpa using he1)))⟩
        have hf := run_findKey (P := P) (w := m.w) k2 he2
        simp [Instr.lookup, run_underlying i2, getObj, Sem.run, he, run_checkKey k2 k3 hok hb, hf]
       ·simp at h
      ·rename_i hq
       simp [retR] at h; subst h
       have hf := run_findKey (P := P) (w := m.w) k2 (hfind _ (hqp.none hq))
       refine ⟨_, ?_, After.quiet hR (res z2)⟩
       simp [Instr.lookup, run_underlying i2, getObj, Sem.run, he, run_checkKey k2 k3 hok hb, hf, z1]
      ·simp at h
     ·simp at h
    ·simp at h
   ·simp at h
  ·simp at h
 ·simp at h

theorem sameBits_key [Gl] {w : World} {av : Nat → Prop} {a : D} {tk : TK} {x y : Value} (hk : keyOK tk a = true) (hx : RD w av a x) (hy : RD w av a y) : Instr.sameBits 10000 x y = true := by
 have gen : ∀ n, Instr.sameBits (n + 1) x y = true := by
  intro n
  cases hx with
  | int q i => cases hy; simp [Instr.sameBits]
  | bool b => cases hy; simp [Instr.sameBits]
  | str s1 l1 h1 =>
   cases hy with
   | str s2 l2 h2 =>
    have : s1 = s2 := by cases s1; cases s2; simp at h1 h2; simp; apply Array.ext'; rw [h1, h2]
    subst this
    simp only [Instr.sameBits]
    rw [ba_beq]; exact beq_self_eq_true _
  | empty a cap h => exact (keyOK_slice hk).elim
  | slice => exact (keyOK_slice hk).elim
  | sym q _ => cases tk <;> simp [keyOK] at hk
 exact gen 9999

theorem keyEq_same {a b : D} (h : keyEq a b = some true) : a = b := by
 unfold keyEq at h
 split at h
 ·split at h
  ·rename_i e; subst e; simp at h; subst h; rfl
  ·simp at h
 ·simp at h; subst h; rfl
 ·simp at h; subst h; rfl
 ·simp at h

theorem findV_key {k : D} : ∀ {ks : List D} {j i : Nat}, findV k ks j = some (some i) → j ≤ i ∧ ks[i - j]? = some k
 | [], j, i, h => by simp [findV] at h
 | u :: ks, j, i, h => by
  simp only [findV] at h
  split at h
  ·rename_i hq
   simp at h; subst h
   exact ⟨Nat.le_refl _, by simp [keyEq_same hq]⟩
  ·obtain ⟨h1, h2⟩ := findV_key h
   refine ⟨by omega, ?_⟩
   rw [show i - j = (i - (j + 1)) + 1 by omega]; simpa using h2
  ·simp at h

theorem insertV_sound0 [Gl] {t kt et : TypeId} {i ki : TI} {mv k x : V} {r : Res} {a b y : Value} {c : Nat} (hi : mkTI P t = some i) (hk : i.k = .map kt et) (hki : mkTI P kt = some ki)
  (hnq : ∀ id g o, mv = .mp id g → live m.h id g = some o → ∀ ks vs c, o.cells ≠ [.mpq ks vs c]) (h : insertV m.h ki mv k x = some r) (hR : Rel S m) (ha : RV S m mv a) (hb : RV S m k b) (hx : RV S m x y) :
  ∃ m', (Instr.mapUpdate t a b y).run P m.w = .ok () m'.w ∧ After S m c r undef m' := by
 obtain ⟨inf, d, i1, i2, i3, _⟩ := mkTI_spec hi
 rw [hk] at i3
 have := mkTK_map i3; subst this
 obtain ⟨_, dk, _, k2, k3, _⟩ := mkTI_spec hki
 unfold insertV at h
 split at h
 ·rename_i kd id g
  cases hb with
  | d hb =>
  split at h
  ·rename_i o hok hl
   split at h
   ·rename_i ks vs bs cl hro hc
    obtain ⟨ho, hg, hkd, bl, hat, rfl⟩ := ha.mp_live hl
    have hrow := (hR.obj id o bl 0 ho hat).2
    rw [hc] at hrow
    obtain ⟨_, es, he, hm⟩ := hrow
    have hfind := fun q hq => findV_sound (P := P) (q := q) (es := es.toList) (ks := ks) (j := 0) k3 hok hb (by rw [hm.lk]; simp) (fun i u e h1 h2 => hm.key i u e h1 (by simpa using h2)) hq
    split at h
    ·rename_i j hq
     obtain ⟨_, e, he1, he2⟩ := hfind _ hq
     obtain ⟨_, hkj⟩ := findV_key hq
     simp only [Nat.sub_zero] at he1 hkj
     have hej : es[j]? = some e := by simpa using he1
     simp only [Option.some.injEq] at h; subst h
     obtain ⟨m', w1, w2, w3, w4, w5, w6⟩ := write_sp (id := id) (o := o) (o' := ⟨g, false, [.mpc ks (vs.set j x) bs cl]⟩) (b := bl) (c := c) (ob := .map es cl) (ob' := .map (es.modify j fun e => { e with key := b, val := y }) cl)
      (w' := { m.w with heap := m.w.heap.setIfInBounds bl (.map (es.modify j fun e => { e with key := b, val := y }) cl) })
      hR ho hat hro he trivial trivial rfl hg.symm (by rw [hc]; rfl) (by rw [hc]; simp) (fun m' e' hm' => by
       refine ⟨rfl, _, hm', ?_⟩
       have hm2 := hm.mono e'
       refine ⟨by simp [hm.lk], by simp [hm.lv], by simp [hm.lb], fun q u z hu hz => ?_, fun q u z hu hz => ?_, fun q u z hu hz => ?_⟩
       ·rw [Array.getElem?_modify] at hz
        by_cases hjq : j = q
        ·subst hjq
         simp [hej] at hz; subst hz
         rw [hkj] at hu; injection hu with hu; subst hu
         exact hb.mono e'.keep
        ·rw [if_neg hjq] at hz
         exact hm2.key q u z hu hz
       ·rw [Array.getElem?_modify] at hz
        by_cases hjq : j = q
        ·subst hjq
         simp [hej] at hz; subst hz
         have hjl : j < vs.length := by rw [hm.lv]; exact (Array.getElem?_eq_some_iff.1 hej).1
         simp [hjl] at hu; subst hu
         exact hx.mono e'
        ·rw [if_neg hjq] at hz
         rw [List.getElem?_set, if_neg hjq] at hu
         exact hm2.val q u z hu hz
       ·rw [Array.getElem?_modify] at hz
        by_cases hjq : j = q
        ·subst hjq
         simp [hej] at hz; subst hz
         exact hm.born j u e hu hej
        ·rw [if_neg hjq] at hz
         exact hm.born q u z hu hz)
     refine ⟨m', ?_, w5, w6, .undef, by rw [w2]; rfl, by rw [w4]; exact (iss_zero m c).symm⟩
     rw [w1]
     have hf := run_findKey (P := P) (w := m.w) k2 he2
     have hsb : Instr.sameBits 10000 e.key b = true := sameBits_key hok (hm.key j _ e hkj hej) hb
     simp [Instr.mapUpdate, run_underlying i2, getObj, setObj, Sem.run, he, run_checkKey k2 k3 hok hb, hf, Instr.keyThatStays, hej, hsb]
    ·rename_i hq
     simp only [Option.some.injEq] at h; subst h
     obtain ⟨m', w1, w2, w3, w4, w5, w6⟩ := write_sp (id := id) (o := o) (o' := ⟨g, false, [.mpc (ks ++ [kd]) (vs ++ [x]) (bs ++ [cl]) (cl + 1)]⟩) (b := bl) (c := c) (ob := .map es cl) (ob' := .map (es.push { key := b, val := y, born := cl }) (cl + 1))
      (w' := { m.w with heap := m.w.heap.setIfInBounds bl (.map (es.push { key := b, val := y, born := cl }) (cl + 1)) })
      hR ho hat hro he trivial trivial rfl hg.symm (by rw [hc]; rfl) (by rw [hc]; simp) (fun m' e' hm' => by
       refine ⟨rfl, _, hm', ?_⟩
       have hm2 := hm.mono e'
       refine ⟨by simp [hm.lk], by simp [hm.lv], by simp [hm.lb], fun q u z hu hz => ?_, fun q u z hu hz => ?_, fun q u z hu hz => ?_⟩
       ·rw [Array.getElem?_push] at hz
        by_cases hjq : q = es.size
        ·subst hjq
         simp at hz; subst hz
         rw [List.getElem?_append_right (by rw [hm.lk]; exact Nat.le_refl _), hm.lk] at hu
         simp at hu; subst hu
         exact hb.mono e'.keep
        ·rw [if_neg hjq] at hz
         have hql : q < ks.length := by rw [hm.lk]; exact (Array.getElem?_eq_some_iff.1 hz).1
         rw [List.getElem?_append_left hql] at hu
         exact hm2.key q u z hu hz
       ·rw [Array.getElem?_push] at hz
        by_cases hjq : q = es.size
        ·subst hjq
         simp at hz; subst hz
         rw [List.getElem?_append_right (by rw [hm.lv]; exact Nat.le_refl _), hm.lv] at hu
         simp at hu; subst hu
         exact hx.mono e'
        ·rw [if_neg hjq] at hz
         have hql : q < vs.length := by rw [hm.lv]; exact (Array.getElem?_eq_some_iff.1 hz).1
         rw [List.getElem?_append_left hql] at hu
         exact hm2.val q u z hu hz
       ·rw [Array.getElem?_push] at hz
        by_cases hjq : q = es.size
        ·subst hjq
         simp at hz; subst hz
         rw [List.getElem?_append_right (by rw [hm.lb]; exact Nat.le_refl _), hm.lb] at hu
         simp at hu; exact hu
        ·rw [if_neg hjq] at hz
         have hql : q < bs.length := by rw [hm.lb]; exact (Array.getElem?_eq_some_iff.1 hz).1
         rw [List.getElem?_append_left hql] at hu
         exact hm.born q u z hu hz)
     refine ⟨m', ?_, w5, w6, .undef, by rw [w2]; rfl, by rw [w4]; exact (iss_zero m c).symm⟩
     rw [w1]
     have hf := run_findKey (P := P) (w := m.w) k2 (hfind _ hq)
     simp [Instr.mapUpdate, run_underlying i2, getObj, setObj, Sem.run, he, run_checkKey k2 k3 hok hb, hf]
    ·simp at h
   ·rename_i ks vs cl hro hc
    exact absurd hc (hnq _ _ _ rfl hl _ _ _)
   ·simp at h
  ·simp at h
 ·simp at h

theorem insertV_sound [Gl] {t kt et : TypeId} {i ki : TI} {mv k x : V} {r : Res} {a b y : Value} {c : Nat} (hi : mkTI P t = some i) (hk : i.k = .map kt et) (hki : mkTI P kt = some ki)
  (h : insertV m.h ki mv k x = some r) (hR : Rel S m) (ha : RV S m mv a) (hb : RV S m k b) (hx : RV S m x y) :
  ∃ m', (Instr.mapUpdate t a b y).run P m.w = .ok () m'.w ∧ After S m c r undef m' := by
 by_cases hq : ∃ id g o ks vs c, mv = .mp id g ∧ live m.h id g = some o ∧ o.cells = [.mpq ks vs c]
 case neg => exact insertV_sound0 hi hk hki (fun id g o h1 h2 ks vs c h3 => hq ⟨id, g, o, ks, vs, c, h1, h2, h3⟩) h hR ha hb hx
 obtain ⟨id, g, o, ks, vs, cl, rfl, hl, hc⟩ := hq
 obtain ⟨ho, hg, hkd, bl, hat, _⟩ := ha.mp_live hl
 obtain ⟨og, oro, oc⟩ := o
 simp only at hc hg
 subst hc; subst hg
 obtain ⟨ks', vs', bs', hqp, hR2, e2⟩ := hR.know ho hat
 have hl2 : live (upd m.h id (some ⟨og, oro, [.mpc ks' vs' bs' cl]⟩)) id og = some ⟨og, oro, [.mpc ks' vs' bs' cl]⟩ := by simp [live]
 have go : ∀ r2, insertV (upd m.h id (some ⟨og, oro, [.mpc ks' vs' bs' cl]⟩)) ki (.mp id og) k x = some r2 → r2.v = r.v → r2.dc = r.dc → (∀ i o, hupd m.h r.wr i = some o → ∃ q, hupd (upd m.h id (some ⟨og, oro, [.mpc ks' vs' bs' cl]⟩)) r2.wr i = some q ∧ ObLe q o) →
   ∃ m', (Instr.mapUpdate t a b y).run P m.w = .ok () m'.w ∧ After S m c r undef m' := fun r2 h2 hv hdc hle => by
  obtain ⟨m2', g1, g2⟩ := insertV_sound0 (S := S) (m := { m with h := upd m.h id (some ⟨og, oro, [.mpc ks' vs' bs' cl]⟩) }) (c := c) hi hk hki (fun id' g' o' h1 h2 ks vs c h3 => by
   injection h1 with e1 e2; subst e1; subst e2
   have h2 : live (upd m.h id (some ⟨og, oro, [.mpc ks' vs' bs' cl]⟩)) id og = some o' := h2
   rw [hl2, Option.some.injEq] at h2
   subst h2; cases h3) h2 hR2 (ha.mono e2) (hb.mono e2) (hx.mono e2)
  obtain ⟨m', k1, k2⟩ := After.loose e2 g2 hv hdc hle
  exact ⟨m', by rw [k1]; exact g1, k2⟩
 unfold insertV at h
 split at h
 ·rename_i kd id' g' he
  injection he with he1 he2; subst he1; subst he2
  simp only [hl] at h
  split at h
  ·rename_i o hok ho2
   simp only [Option.some.injEq] at ho2; subst ho2
   split at h
   ·rename_i h9; cases h9
   ·rename_i ks9 vs9 c9 hro h9
    injection h9 with h9 _
    injection h9 with e1 e2' e3; subst e1; subst e2'; subst e3
    simp only at hro; subst hro
    split at h
    ·rename_i j hq
     obtain ⟨j', hq', q1, q2, v, q3, q4⟩ := hqp.find hq
     simp only [Option.some.injEq] at h; subst h
     refine go ⟨.undef, [(id, ⟨og, false, [.mpc ks' (vs'.set j' x) bs' cl]⟩)], [id], 0, 0, false⟩ (by simp only [insertV, hok, hl2, hq']) rfl rfl fun i o ho' => ?_
     simp only [hupd] at ho' ⊢
     by_cases hid : i = id
     ·subst hid
      rw [upd_same, Option.some.injEq] at ho'; subst ho'
      rw [upd_same]
      exact ⟨_, rfl, .inr ⟨_, _, _, _, _, _, rfl, rfl, hqp.set q1 q2 q3 q4⟩⟩
     ·rw [upd_ne _ _ hid] at ho'
      rw [upd_ne _ _ hid, upd_ne _ _ hid]
      exact ⟨o, ho', .inl rfl⟩
    ·rename_i hq
     simp only [Option.some.injEq] at h; subst h
     refine go ⟨.undef, [(id, ⟨og, false, [.mpc (ks' ++ [kd]) (vs' ++ [x]) (bs' ++ [cl]) (cl + 1)]⟩)], [id], 0, 0, false⟩ (by simp only [insertV, hok, hl2, hqp.none hq]) rfl rfl fun i o ho' => ?_
     simp only [hupd] at ho' ⊢
     by_cases hid : i = id
     ·subst hid
      rw [upd_same, Option.some.injEq] at ho'; subst ho'
      rw [upd_same]
      exact ⟨_, rfl, .inr ⟨_, _, _, _, _, _, rfl, rfl, hqp.push hq⟩⟩
     ·rw [upd_ne _ _ hid] at ho'
      rw [upd_ne _ _ hid, upd_ne _ _ hid]
      exact ⟨o, ho', .inl rfl⟩
    ·cases h
   ·cases h
  ·cases h
 ·cases h

theorem entryV_sound [Gl] {t kt et : TypeId} {i ki : TI} {mv k : V} {r : Res} {a b : Value} {c : Nat} (hi : mkTI P t = some i) (hk : i.k = .map kt et) (hki : mkTI P kt = some ki)
  (h : entryV m.h ki (zeroT P et) mv k = some r) (hR : Rel S m) (ha : RV S m mv a) (hb : RV S m k b) :
  ∃ z m', (Instr.mapEntry t a b).run P m.w = .ok z m'.w ∧ After S m c r z m' := by
 obtain ⟨inf, d, i1, i2, i3, _⟩ := mkTI_spec hi
 rw [hk] at i3
 have := mkTK_map i3; subst this
 obtain ⟨_, dk, _, k2, k3, _⟩ := mkTI_spec hki
 have tup : ∀ {m' : M} {v : V} {y : Value} {q : Nat}, RV S m' v y → RV S m' (.tuple [v, .d (.int .i64 q)]) (.tuple #[y, goInt q]) := by
  intro m' v y q hv
  refine .tuple rfl fun j u y' hu hy => ?_
  rcases j with _ | _ | j
  ·simp at hu hy; subst hu; subst hy; exact hv
  ·simp at hu hy; subst hu; subst hy; exact .d (.int _ _)
  ·simp at hu
 unfold entryV at h
 split at h
 ·rename_i kd id g zv hz
  cases hb with
  | d hb =>
  obtain ⟨zz, z1, z2⟩ := zeroT_sound (P := P) (S := S) (m := m) m.w hz
  split at h
  ·rename_i o hok hl
   split at h
   ·rename_i ks vs bs cl hro hc
    obtain ⟨ho, hg, hkd, bl, hat, rfl⟩ := ha.mp_live hl
    have hrow := (hR.obj id o bl 0 ho hat).2
    rw [hc] at hrow
    obtain ⟨_, es, he, hm⟩ := hrow
    have hfind := fun q hq => findV_sound (P := P) (q := q) (es := es.toList) (ks := ks) (j := 0) k3 hok hb (by rw [hm.lk]; simp) (fun i u e h1 h2 => hm.key i u e h1 (by simpa using h2)) hq
    split at h
    ·rename_i j hq
     obtain ⟨_, e, he1, he2⟩ := hfind _ hq
     obtain ⟨_, hkj⟩ := findV_key hq
     simp only [Nat.sub_zero] at he1 hkj
     have hej : es[j]? = some e := by simpa using he1
     split at h
     ·rename_i v bn hv hbn
      simp only [Option.some.injEq] at h; subst h
      obtain ⟨m', w1, w2, w3, w4, w5, w6⟩ := write_sp (id := id) (o := o) (o' := ⟨g, false, [.mpc ks vs bs cl]⟩) (b := bl) (c := c) (ob := .map es cl) (ob' := .map (es.modify j fun e => { e with key := b }) cl)
       (w' := { m.w with heap := m.w.heap.setIfInBounds bl (.map (es.modify j fun e => { e with key := b }) cl) })
       hR ho hat hro he trivial trivial rfl hg.symm (by rw [hc]) (by rw [hc]; simp) (fun m' e' hm' => by
        refine ⟨rfl, _, hm', ?_⟩
        have hm2 := hm.mono e'
        refine ⟨by simp [hm.lk], by simp [hm.lv], by simp [hm.lb], fun q u z hu hz => ?_, fun q u z hu hz => ?_, fun q u z hu hz => ?_⟩
        ·rw [Array.getElem?_modify] at hz
         by_cases hjq : j = q
         ·subst hjq
          simp [hej] at hz; subst hz
          rw [hkj] at hu; injection hu with hu; subst hu
          exact hb.mono e'.keep
         ·rw [if_neg hjq] at hz
          exact hm2.key q u z hu hz
        ·rw [Array.getElem?_modify] at hz
         by_cases hjq : j = q
         ·subst hjq
          simp [hej] at hz; subst hz
          exact hm2.val j u e hu hej
         ·rw [if_neg hjq] at hz
          exact hm2.val q u z hu hz
        ·rw [Array.getElem?_modify] at hz
         by_cases hjq : j = q
         ·subst hjq
          simp [hej] at hz; subst hz
          exact hm.born j u e hu hej
         ·rw [if_neg hjq] at hz
          exact hm.born q u z hu hz)
      have hve := (hm.mono w6).val j v e hv hej
      refine ⟨_, m', ?_, w5, w6, tup (q := bn) hve, by rw [w2]; rfl, by rw [w4]; exact (iss_zero m c).symm⟩
      rw [w1]
      have hf := run_findKey (P := P) (w := m.w) k2 he2
      have hsb : Instr.sameBits 10000 e.key b = true := sameBits_key hok (hm.key j _ e hkj hej) hb
      have hbe := hm.born j bn e hbn hej
      simp [Instr.mapEntry, run_underlying i2, getObj, setObj, Sem.run, he, run_checkKey k2 k3 hok hb, hf, Instr.keyThatStays, hej, hsb, hbe]
     ·simp at h
    ·rename_i hq
     simp only [Option.some.injEq] at h; subst h
     obtain ⟨m', w1, w2, w3, w4, w5, w6⟩ := write_sp (id := id) (o := o) (o' := ⟨g, false, [.mpc (ks ++ [kd]) (vs ++ [zv]) (bs ++ [cl]) (cl + 1)]⟩) (b := bl) (c := c) (ob := .map es cl) (ob' := .map (es.push { key := b, val := zz, born := cl }) (cl + 1))
      (w' := { m.w with heap := m.w.heap.setIfInBounds bl (.map (es.push { key := b, val := zz, born := cl }) (cl + 1)) })
      hR ho hat hro he trivial trivial rfl hg.symm (by rw [hc]; rfl) (by rw [hc]; simp) (fun m' e' hm' => by
       refine ⟨rfl, _, hm', ?_⟩
       have hm2 := hm.mono e'
       refine ⟨by simp [hm.lk], by simp [hm.lv], by simp [hm.lb], fun q u z hu hz => ?_, fun q u z hu hz => ?_, fun q u z hu hz => ?_⟩
       ·rw [Array.getElem?_push] at hz
        by_cases hjq : q = es.size
        ·subst hjq
         simp at hz; subst hz
         rw [List.getElem?_append_right (by rw [hm.lk]; exact Nat.le_refl _), hm.lk] at hu
         simp at hu; subst hu
         exact hb.mono e'.keep
        ·rw [if_neg hjq] at hz
         have hql : q < ks.length := by rw [hm.lk]; exact (Array.getElem?_eq_some_iff.1 hz).1
         rw [List.getElem?_append_left hql] at hu
         exact hm2.key q u z hu hz
       ·rw [Array.getElem?_push] at hz
        by_cases hjq : q = es.size
        ·subst hjq
         simp at hz; subst hz
         rw [List.getElem?_append_right (by rw [hm.lv]; exact Nat.le_refl _), hm.lv] at hu
         simp at hu; subst hu
         exact z2.mono e'
        ·rw [if_neg hjq] at hz
         have hql : q < vs.length := by rw [hm.lv]; exact (Array.getElem?_eq_some_iff.1 hz).1
         rw [List.getElem?_append_left hql] at hu
         exact hm2.val q u z hu hz
       ·rw [Array.getElem?_push] at hz
        by_cases hjq : q = es.size
        ·subst hjq
         simp at hz; subst hz
         rw [List.getElem?_append_right (by rw [hm.lb]; exact Nat.le_refl _), hm.lb] at hu
         simp at hu; exact hu
        ·rw [if_neg hjq] at hz
         have hql : q < bs.length := by rw [hm.lb]; exact (Array.getElem?_eq_some_iff.1 hz).1
         rw [List.getElem?_append_left hql] at hu
         exact hm.born q u z hu hz)
     refine ⟨_, m', ?_, w5, w6, tup (q := cl) (z2.mono w6), by rw [w2]; rfl, by rw [w4]; exact (iss_zero m c).symm⟩
     rw [w1]
     have hf := run_findKey (P := P) (w := m.w) k2 (hfind _ hq)
     simp [Instr.mapEntry, run_underlying i2, getObj, setObj, Sem.run, he, run_checkKey k2 k3 hok hb, hf, z1]
    ·simp at h
   ·simp at h
  ·simp at h
 ·simp at h

theorem findB_sound {b : Int} : ∀ {bs : List Nat} {es : List MapEntry} {j i : Nat}, bs.length = es.length → (∀ (q : Nat) (n : Nat) (e : MapEntry), bs[q]? = some n → es[q]? = some e → e.born = n) → findB b bs j = some i →
  ∃ k, i = j + k ∧ k < es.length ∧ es.findIdx? (fun e => (e.born : Int) == b) = some k
 | [], es, j, i, hl, hr, h => by simp [findB] at h
 | n :: bs, [], j, i, hl, hr, h => by simp at hl
 | n :: bs, e :: es, j, i, hl, hr, h => by
  have h0 := hr 0 n e rfl rfl
  simp only [findB] at h
  split at h
  ·rename_i hd
   have hd := of_decide_eq_true hd
   simp at h; subst h
   refine ⟨0, rfl, by simp, ?_⟩
   simp [List.findIdx?_cons, h0, hd]
  ·rename_i hd
   have hd := of_decide_eq_false hd
   obtain ⟨k, hk1, hk2, hk3⟩ := findB_sound (es := es) (by simpa using hl) (fun q n e h1 h2 => hr (q + 1) n e h1 h2) h
   refine ⟨k + 1, by omega, by simp; omega, ?_⟩
   simp [List.findIdx?_cons, h0, hd, hk3]

theorem stampV_sound [Gl] {t : TypeId} {mv k x : V} {r : Res} {a b y : Value} {c : Nat}
  (h : stampV m.h mv k x = some r) (hR : Rel S m) (ha : RV S m mv a) (hb : RV S m k b) (hx : RV S m x y) :
  ∃ m', (Instr.entryStore t a b y).run P m.w = .ok () m'.w ∧ After S m c r undef m' := by
 unfold stampV at h
 split at h
 ·rename_i kq bn id g
  cases hb with
  | d hb =>
  cases hb
  split at h
  ·rename_i o hl
   split at h
   ·rename_i ks vs bs cl hro hc
    obtain ⟨ho, hg, hkd, bl, hat, rfl⟩ := ha.mp_live hl
    have hrow := (hR.obj id o bl 0 ho hat).2
    rw [hc] at hrow
    obtain ⟨_, es, he, hm⟩ := hrow
    split at h
    ·rename_i j hq
     obtain ⟨q, hq1, hq2, hq3⟩ := findB_sound (es := es.toList) (by rw [hm.lb]; simp) (fun q n e h1 h2 => hm.born q n e h1 (by simpa using h2)) hq
     rw [Nat.zero_add] at hq1; subst hq1
     have hjl : j < es.size := by simpa using hq2
     have hej : es[j]? = some es[j] := by simp [hjl]
     simp only [Option.some.injEq] at h; subst h
     obtain ⟨m', w1, w2, w3, w4, w5, w6⟩ := write_sp (id := id) (o := o) (o' := ⟨g, false, [.mpc ks (vs.set j x) bs cl]⟩) (b := bl) (c := c) (ob := .map es cl) (ob' := .map (es.modify j fun e => { e with val := y }) cl)
      (w' := { m.w with heap := m.w.heap.setIfInBounds bl (.map (es.modify j fun e => { e with val := y }) cl) })
      hR ho hat hro he trivial trivial rfl hg.symm (by rw [hc]; rfl) (by rw [hc]; simp) (fun m' e' hm' => by
       refine ⟨rfl, _, hm', ?_⟩
       have hm2 := hm.mono e'
       refine ⟨by simp [hm.lk], by simp [hm.lv], by simp [hm.lb], fun q u z hu hz => ?_, fun q u z hu hz => ?_, fun q u z hu hz => ?_⟩
       ·rw [Array.getElem?_modify] at hz
        by_cases hjq : j = q
        ·subst hjq
         simp [hjl] at hz; subst hz
         exact hm2.key j u es[j] hu hej
        ·rw [if_neg hjq] at hz
         exact hm2.key q u z hu hz
       ·rw [Array.getElem?_modify] at hz
        by_cases hjq : j = q
        ·subst hjq
         simp [hjl] at hz; subst hz
         have hjl2 : j < vs.length := by rw [hm.lv]; exact hjl
         simp [hjl2] at hu; subst hu
         exact hx.mono e'
        ·rw [if_neg hjq] at hz
         rw [List.getElem?_set, if_neg hjq] at hu
         exact hm2.val q u z hu hz
       ·rw [Array.getElem?_modify] at hz
        by_cases hjq : j = q
        ·subst hjq
         simp [hjl] at hz; subst hz
         exact hm.born j u es[j] hu hej
        ·rw [if_neg hjq] at hz
         exact hm.born q u z hu hz)
     refine ⟨m', ?_, w5, w6, .undef, by rw [w2]; rfl, by rw [w4]; exact (iss_zero m c).symm⟩
     rw [w1]
     have hf : es.findIdx? (fun e => (e.born : Int) == bn) = some j := by cases es with | mk l => simpa using hq3
     simp [Instr.entryStore, getObj, setObj, Sem.run, he, asInt, asIntOf, hf]
    ·simp at h
   ·simp at h
  ·simp at h
 ·simp at h

theorem eqCell_sound [Gl] {f : TypeId} {k : SK} {a b : D} {x y : Value} {q : Bool} {w : World} {av : Nat → Prop} (hf : scalarT P f = some k) (hq : eqCell k a b = some q) (hx : RD w av a x) (hy : RD w av b y) (n : Nat) (w' : World) : (Op.equalIn (n + 1) f x y).run P w' = .ok q w' := by
 unfold scalarT at hf
 unfold eqCell at hq
 split at hq
 ·cases hx; cases hy
  split at hq
  ·rename_i hk; subst hk
   simp at hq; subst hq
   split at hf <;> simp at hf
   rename_i k0 hu
   simp only [Op.equalIn]
   simp [run_underlying hu]
   exact (Bool.beq_eq_decide_eq _ _)
  ·simp at hq
 ·cases hx with
  | str s1 l1 h1 =>
   cases hy with
   | str s2 l2 h2 =>
    simp at hq; subst hq
    split at hf <;> simp at hf
    rename_i hu
    simp [Op.equalIn, run_underlying hu]
    rw [ba_beq, ← h1, ← h2]
    rw [Bool.eq_iff_iff, beq_iff_eq, beq_iff_eq]; exact Array.toList_inj.symm
 ·cases hx; cases hy
  simp at hq; subst hq
  split at hf <;> simp at hf
  rename_i hu
  simp [Op.equalIn, run_underlying hu]
 ·rename_i a b
  split at hq
  ·rename_i q9 hab hsk
   have := Nat.eq_of_beq_eq_true hab
   subst this
   simp only [Option.some.injEq] at hq
   subst hq
   obtain ⟨n9, hn9⟩ := Gl.skOK _ _ hsk
   cases hx with
   | sym _ hx =>
    cases hy with
    | sym _ hy =>
     rw [hn9] at hx hy
     cases hx; cases hy
     split at hf <;> simp at hf
     rename_i k0 hu
     simp [Op.equalIn, run_underlying hu]
  ·cases hq
 ·simp at hq
theorem scalarT_agg {t : TypeId} {k : SK} (h : scalarT P t = some k) (w : World) : (isAgg t).run P w = .ok false w := by
 unfold scalarT at h
 split at h <;> first | (simp at h; done) | skip
 all_goals (rename_i h1; simp [isAgg, run_underlying h1])
theorem part_scalar {t : TypeId} {k : SK} (h : scalarT P t = some k) {xs : Array Value} {o : Nat} {v : Value} (hv : xs[o]? = some v) (w : World) : (part t xs o).run P w = .ok v w := by
 simp [part, scalarT_agg h, hv]

theorem eqRow_sound [Gl] {as bs : List V} {xs ys : Array Value} {n : Nat} (hx : ∀ (j : Nat) (x : V) (y : Value), as[j]? = some x → xs[j]? = some y → RV S m x y) (hxl : as.length = xs.size) (hy : ∀ (j : Nat) (x : V) (y : Value), bs[j]? = some x → ys[j]? = some y → RV S m x y) (hyl : bs.length = ys.size) (w : World) :
  ∀ {fs : List Field} {l : List (Nat × SK)} {q : Bool}, fieldOffs P fs = some l → eqRow l as bs = some q →
   ((Sem.run P (forIn fs ((none : Option Bool), ()) fun f __s =>
      if f.name = "_" then pure (ForInStep.yield (none, ()))
      else do
       let __do_lift ← part f.type xs f.offset
       let __do_lift_1 ← part f.type ys f.offset
       let __do_lift ← Op.equalIn (n + 1) f.type __do_lift __do_lift_1
       if __do_lift = false then pure (ForInStep.done (some false, ())) else pure (ForInStep.yield (none, ())))
     w)) = .ok (if q then none else some false, ()) w
 | [], l, q, hl, hq => by simp [fieldOffs] at hl; subst hl; simp [eqRow] at hq; subst hq; simp
 | f :: fs, l, q, hl, hq => by
  simp only [fieldOffs] at hl
  split at hl
  ·rename_i k l' hnm hk hl'
   simp only [Option.some.injEq] at hl; subst hl
   simp only [eqRow] at hq
   split at hq
   ·rename_i a b ha hb
    have hox : ∃ x, xs[f.offset]? = some x := by
     have : f.offset < as.length := (List.getElem?_eq_some_iff.1 ha).1
     exact ⟨xs[f.offset]'(by omega), by simp [show f.offset < xs.size by omega]⟩
    have hoy : ∃ x, ys[f.offset]? = some x := by
     have : f.offset < bs.length := (List.getElem?_eq_some_iff.1 hb).1
     exact ⟨ys[f.offset]'(by omega), by simp [show f.offset < ys.size by omega]⟩
    obtain ⟨x, hx1⟩ := hox
    obtain ⟨y, hy1⟩ := hoy
    have r1 := hx _ _ _ ha hx1
    have r2 := hy _ _ _ hb hy1
    cases r1 with
    | d r1 =>
    cases r2 with
    | d r2 =>
    have hn : ¬ f.name = "_" := by simpa using hnm
    cases he : eqCell k a b with
    | none => rw [he] at hq; simp at hq
    | some e =>
     have hs := fun w' => eqCell_sound hk he r1 r2 n w'
     cases e with
     | true =>
      rw [he] at hq
      have ih := eqRow_sound (fs := fs) (n := n) hx hxl hy hyl w hl' hq
      simp [hn, part_scalar hk hx1, part_scalar hk hy1, hs]
      exact ih
     | false =>
      rw [he] at hq
      simp at hq; subst hq
      simp [hn, part_scalar hk hx1, part_scalar hk hy1, hs]
   ·simp at hq
  ·simp at hl
theorem equalStruct_sound [Gl] {t : TypeId} {q : Bool} {l : List (Nat × SK)} {as bs : List V} {xs ys : Array Value} (hl : structOffs P t = some l) (hq : eqRow l as bs = some q) (hxl : as.length = xs.size) (hx : ∀ (j : Nat) (x : V) (y : Value), as[j]? = some x → xs[j]? = some y → RV S m x y)
  (hyl : bs.length = ys.size) (hy : ∀ (j : Nat) (x : V) (y : Value), bs[j]? = some x → ys[j]? = some y → RV S m x y) (w : World) : (Op.equal t (.agg xs) (.agg ys)).run P w = .ok q w := by
 unfold structOffs at hl
 split at hl
 ·rename_i fs hu
  split at hl
  ·rename_i h1 h2
   show (Op.equalIn (9998 + 1 + 1) t (.agg xs) (.agg ys)).run P w = .ok q w
   have hr := eqRow_sound (P := P) (n := 9998) hx hxl hy hyl w hl hq
   have hf : ∀ (w : World), (Sem.run P (forIn fs ((none : Option Bool), ()) fun f __s =>
     if f.name = "_" then pure (ForInStep.yield (none, ()))
     else do
      let __do_lift ← part f.type xs f.offset
      let __do_lift_1 ← part f.type ys f.offset
      let __do_lift ← Op.equalIn (9998 + 1) f.type __do_lift __do_lift_1
      if __do_lift = false then pure (ForInStep.done (some false, ())) else pure (ForInStep.yield (none, ()))) w) = Sem.run P (forIn fs.toList ((none : Option Bool), ()) fun f __s =>
     if f.name = "_" then pure (ForInStep.yield (none, ()))
     else do
      let __do_lift ← part f.type xs f.offset
      let __do_lift_1 ← part f.type ys f.offset
      let __do_lift ← Op.equalIn (9998 + 1) f.type __do_lift __do_lift_1
      if __do_lift = false then pure (ForInStep.done (some false, ())) else pure (ForInStep.yield (none, ()))) w := fun w => by rw [Array.forIn_toList]
   have hfm := (hf w).trans hr
   rw [Op.equalIn]
   simp [run_underlying hu, h1]
   rw [hfm]
   cases q <;> simp
  ·simp at hl
 ·simp at hl
theorem eqStruct_sound [Gl] {t : TypeId} {op : BinOp} {e q : Bool} {l : List (Nat × SK)} {as bs : List V} {x y : Value} (o1 o2 : Operand) (he : isEq op = some e) (hl : structOffs P t = some l) (hq : eqRow l as bs = some q) (hx : RV S m (.agg as) x) (hy : RV S m (.agg bs) y) :
  ∃ z, (eqGuard op t o1 o2 x y).run P m.w = .ok () m.w ∧ (binOp op t x y).run P m.w = .ok z m.w ∧ RV S m (.d (.bool (q == e))) z := by
 unfold structOffs at hl
 split at hl
 ·rename_i fs hu
  split at hl
  ·rename_i h1 h2
   cases hx with
   | agg hxl hx =>
   cases hy with
   | agg hyl hy =>
   rename_i xs ys
   have hl2 : structOffs P t = some l := by unfold structOffs; rw [hu]; simp only [h1, h2]; exact hl
   have hE : (Op.equal t (.agg xs) (.agg ys)).run P m.w = .ok q m.w := equalStruct_sound hl2 hq hxl hx hyl hy m.w
   refine ⟨.bool (q == e), ?_, ?_, .d (.bool _)⟩
   ·unfold eqGuard
    cases op <;> simp [isEq] at he <;> simp [h2]
   ·cases op <;> simp [isEq] at he <;> subst he
    ·simp [binOp, hE]
    ·simp [binOp, hE]
  ·simp at hl
 ·simp at hl
theorem deleteV_sound [Gl] {t kt et ty : TypeId} {i ki : TI} {ts : Array TypeId} {mv k : V} {r : Res} {a b : Value} {c : Nat} (ht : ts[0]? = some t) (hi : mkTI P t = some i) (hk : i.k = .map kt et) (hki : mkTI P kt = some ki)
  (h : deleteV m.h ki mv k = some r) (hR : Rel S m) (ha : RV S m mv a) (hb : RV S m k b) :
  ∃ z m', (Builtin.delete_ ts ty #[a, b]).run P m.w = .ok z m'.w ∧ After S m c r z m' := by
 obtain ⟨inf, d, i1, i2, i3, _⟩ := mkTI_spec hi
 rw [hk] at i3
 have := mkTK_map i3; subst this
 obtain ⟨_, dk, _, k2, k3, _⟩ := mkTI_spec hki
 unfold deleteV at h
 split at h
 ·rename_i kd id g
  cases hb with
  | d hb =>
  split at h
  ·rename_i o hok hl
   split at h
   ·rename_i ks vs bs cl hro hc
    obtain ⟨ho, hg, hkd, bl, hat, rfl⟩ := ha.mp_live hl
    have hrow := (hR.obj id o bl 0 ho hat).2
    rw [hc] at hrow
    obtain ⟨_, es, he, hm⟩ := hrow
    have hfind := fun q hq => findV_sound (P := P) (q := q) (es := es.toList) (ks := ks) (j := 0) k3 hok hb (by rw [hm.lk]; simp) (fun i u e h1 h2 => hm.key i u e h1 (by simpa using h2)) hq
    split at h
    ·rename_i j hq
     obtain ⟨_, e, he1, he2⟩ := hfind _ hq
     simp only [Nat.sub_zero] at he1
     have hej : es[j]? = some e := by simpa using he1
     have hjl : j < es.size := (Array.getElem?_eq_some_iff.1 hej).1
     have hget : ∀ q : Nat, (es.eraseIdxIfInBounds j)[q]? = if q < j then es[q]? else es[q + 1]? := fun q => by
      rw [← Array.getElem?_toList, Array.toList_eraseIdxIfInBounds, List.getElem?_eraseIdx]; simp only [Array.getElem?_toList]
     have hgsz : (es.eraseIdxIfInBounds j).size = es.size - 1 := by
      rw [← Array.length_toList, Array.toList_eraseIdxIfInBounds, List.length_eraseIdx, if_pos (by simpa using hjl), Array.length_toList]
     simp only [Option.some.injEq] at h; subst h
     obtain ⟨m', w1, w2, w3, w4, w5, w6⟩ := write_sp (id := id) (o := o) (o' := ⟨g, false, [.mpc (ks.eraseIdx j) (vs.eraseIdx j) (bs.eraseIdx j) cl]⟩) (b := bl) (c := c) (ob := .map es cl) (ob' := .map (es.eraseIdxIfInBounds j) cl)
      (w' := { m.w with heap := m.w.heap.setIfInBounds bl (.map (es.eraseIdxIfInBounds j) cl) })
      hR ho hat hro he trivial trivial rfl hg.symm (by rw [hc]; rfl) (by rw [hc]; simp) (fun m' e' hm' => by
       refine ⟨rfl, _, hm', ?_⟩
       have hm2 := hm.mono e'
       refine ⟨?_, ?_, ?_, fun q u z hu hz => ?_, fun q u z hu hz => ?_, fun q u z hu hz => ?_⟩
       ·rw [hgsz, List.length_eraseIdx, if_pos (by rw [hm.lk]; exact hjl), hm.lk]
       ·rw [hgsz, List.length_eraseIdx, if_pos (by rw [hm.lv]; exact hjl), hm.lv]
       ·rw [hgsz, List.length_eraseIdx, if_pos (by rw [hm.lb]; exact hjl), hm.lb]
       ·rw [hget] at hz
        rw [List.getElem?_eraseIdx] at hu
        split at hz
        ·rename_i hqj; rw [if_pos hqj] at hu; exact hm2.key q u z hu hz
        ·rename_i hqj; rw [if_neg hqj] at hu; exact hm2.key _ u z hu hz
       ·rw [hget] at hz
        rw [List.getElem?_eraseIdx] at hu
        split at hz
        ·rename_i hqj; rw [if_pos hqj] at hu; exact hm2.val q u z hu hz
        ·rename_i hqj; rw [if_neg hqj] at hu; exact hm2.val _ u z hu hz
       ·rw [hget] at hz
        rw [List.getElem?_eraseIdx] at hu
        split at hz
        ·rename_i hqj; rw [if_pos hqj] at hu; exact hm2.born q u z hu hz
        ·rename_i hqj; rw [if_neg hqj] at hu; exact hm2.born _ u z hu hz)
     refine ⟨.tuple #[], m', ?_, w5, w6, .tuple rfl (fun j x y hx => by simp at hx), by rw [w2]; rfl, by rw [w4]; exact (iss_zero m c).symm⟩
     rw [w1]
     have hf := run_findKey (P := P) (w := m.w) k2 he2
     simp [Builtin.delete_, ht, run_underlying i2, getObj, setObj, Sem.run, he, run_checkKey k2 k3 hok hb, hf]
    ·rename_i hq
     simp only [Option.some.injEq] at h; subst h
     obtain ⟨m', w1, w2, w3, w4, w5, w6⟩ := write_sp (id := id) (o := o) (o' := ⟨g, false, [.mpc ks vs bs cl]⟩) (b := bl) (c := c) (ob := .map es cl) (ob' := .map es cl)
      (w' := { m.w with heap := m.w.heap.setIfInBounds bl (.map es cl) })
      hR ho hat hro he trivial trivial rfl hg.symm (by rw [hc]) (by rw [hc]; simp) (fun m' e' hm' => ⟨rfl, _, hm', hm.mono e'⟩)
     refine ⟨.tuple #[], m', ?_, w5, w6, .tuple rfl (fun j x y hx => by simp at hx), by rw [w2]; rfl, by rw [w4]; exact (iss_zero m c).symm⟩
     rw [w1]
     have hf := run_findKey (P := P) (w := m.w) k2 (hfind _ hq)
     simp [Builtin.delete_, ht, run_underlying i2, getObj, setObj, Sem.run, he, run_checkKey k2 k3 hok hb, hf]
    ·simp at h
   ·simp at h
  ·simp at h
 ·simp at h

/-! Maps whose keys are structs of scalars. -/

theorem rowD_spec : ∀ {k : List V} {kd : List D}, rowD k = some kd → k = kd.map .d
 | [], kd, h => by simp [rowD] at h; subst h; rfl
 | .d x :: r, kd, h => by
  simp only [rowD, Option.map_eq_some_iff] at h
  obtain ⟨y, hy, rfl⟩ := h
  rw [rowD_spec hy]; rfl
 | .any :: _, kd, h | .undef :: _, kd, h | .con _ :: _, kd, h | .full _ :: _, kd, h | .agg _ :: _, kd, h | .ptr .. :: _, kd, h | .osl .. :: _, kd, h | .vref _ :: _, kd, h | .fn .. :: _, kd, h | .tuple _ :: _, kd, h | .it .. :: _, kd, h | .mp .. :: _, kd, h
 | .itc .. :: _, kd, h | .mpc .. :: _, kd, h | .mpa .. :: _, kd, h | .mpq .. :: _, kd, h | .itm .. :: _, kd, h | .ifc .. :: _, kd, h | .mv .. :: _, kd, h | .yd .. :: _, kd, h | .lp .. :: _, kd, h => by simp [rowD] at h

theorem checkScalar {t : TypeId} {k : SK} (h : scalarT P t = some k) (e : Bool) (n : Nat) (v : Value) (w : World) : (Instr.checkKey e (n + 1) t v).run P w = .ok () w := by
 unfold scalarT at h
 split at h <;> first | (simp at h; done) | skip
 all_goals (rename_i h1; cases v <;> simp [Instr.checkKey, run_underlying h1])

theorem checkFields {xs : Array Value} {e : Bool} {n : Nat} (w : World) : ∀ {fs : List Field} {l : List (Nat × SK)}, fieldOffs P fs = some l → (l.all fun o => Nat.blt o.1 xs.size) = true →
  (Sem.run P (forIn fs () fun f __s => if f.name = "_" then pure (ForInStep.yield ()) else do
    let __do_lift ← part f.type xs f.offset
    Instr.checkKey e (n + 1) f.type __do_lift
    pure (ForInStep.yield ())) w) = .ok () w
 | [], l, hl, _ => by simp
 | f :: fs, l, hl, hr => by
  simp only [fieldOffs] at hl
  split at hl
  ·rename_i k l' hnm hk hl'
   simp only [Option.some.injEq] at hl; subst hl
   simp only [List.all_cons, Bool.and_eq_true, Nat.blt_eq] at hr
   have hn : ¬ f.name = "_" := by simpa using hnm
   have hx1 : xs[f.offset]? = some (xs[f.offset]'hr.1) := by simp [hr.1]
   have ih := checkFields (e := e) (n := n) w hl' hr.2
   simp [hn, part_scalar hk hx1, checkScalar hk]
   simpa using ih
  ·simp at hl

theorem run_checkKeyA {kt : TypeId} {l : List (Nat × SK)} {k : List V} {xs : Array Value} {e : Bool} (hl : structOffs P kt = some l) (hk : rowOK l k = true) (hxl : k.length = xs.size) (w : World) : (Instr.checkKey e 10000 kt (.agg xs)).run P w = .ok () w := by
 unfold structOffs at hl
 split at hl
 ·rename_i fs hu
  split at hl
  ·show (Instr.checkKey e (9998 + 1 + 1) kt (.agg xs)).run P w = .ok () w
   have h1 := checkFields (P := P) (xs := xs) (e := e) (n := 9998) w hl (by unfold rowOK at hk; rw [hxl] at hk; exact hk)
   rw [Instr.checkKey]
   simp [run_underlying hu]
   have hf : (Sem.run P (forIn fs () fun f __s => if f.name = "_" then pure (ForInStep.yield ()) else do
    let __do_lift ← part f.type xs f.offset
    Instr.checkKey e (9998 + 1) f.type __do_lift
    pure (ForInStep.yield ())) w) = .ok () w := by rw [← Array.forIn_toList]; exact h1
   simpa using hf
  ·simp at hl
 ·simp at hl

theorem findA_sound [Gl] {kt : TypeId} {l : List (Nat × SK)} {k : List V} {xs : Array Value} (hl : structOffs P kt = some l) (hxl : k.length = xs.size) (hx : ∀ (j : Nat) (x : V) (y : Value), k[j]? = some x → xs[j]? = some y → RV S m x y) (w : World) :
  ∀ {ks : List (List D)} {es : List MapEntry} {j : Nat} {q : Option Nat}, ks.length = es.length → (∀ (i : Nat) (u : List D) (e : MapEntry), ks[i]? = some u → es[i]? = some e → RV S m (.agg (u.map .d)) e.key) → findA l k ks j = some q →
   match q with
   | none => (Instr.findAsking kt (.agg xs) es j).run P w = .ok none w
   | some i => j ≤ i ∧ ∃ e, es[i - j]? = some e ∧ (Instr.findAsking kt (.agg xs) es j).run P w = .ok (some (i, e.val)) w
 | [], es, j, q, hle, hr, h => by
  have : es = [] := List.length_eq_zero_iff.1 (by simpa using hle.symm)
  subst this
  simp [findA] at h; subst h
  simp [Instr.findAsking]
 | u :: ks, [], j, q, hle, hr, h => by simp at hle
 | u :: ks, e :: es, j, q, hle, hr, h => by
  simp only [findA] at h
  have hu := hr 0 u e rfl rfl
  obtain ⟨ekey, eval, eborn⟩ := e
  simp only at hu
  cases hu with
  | agg hyl hy =>
   rename_i ys
   split at h
   ·rename_i hq
    simp at h; subst h
    have hE := equalStruct_sound hl hq hxl hx hyl hy w
    refine ⟨Nat.le_refl _, _, by simp; rfl, ?_⟩
    simp [Instr.findAsking, hE]
   ·rename_i hq
    have hE := equalStruct_sound hl hq hxl hx hyl hy w
    have ih := findA_sound hl hxl hx w (ks := ks) (es := es) (j := j + 1) (q := q) (by simpa using hle) (fun i u e h1 h2 => hr (i + 1) u e (by simpa using h1) (by simpa using h2)) h
    have hstep : (Instr.findAsking kt (.agg xs) (⟨.agg ys, eval, eborn⟩ :: es) j).run P w = (Instr.findAsking kt (.agg xs) es (j + 1)).run P w := by
     simp [Instr.findAsking, hE]
    cases q with
    | none => simp only at ih ⊢; rw [hstep]; exact ih
    | some i =>
     simp only at ih ⊢
     obtain ⟨h1, e', h2, h3⟩ := ih
     refine ⟨by omega, e', ?_, by rw [hstep]; exact h3⟩
     rw [show i - j = (i - (j + 1)) + 1 by omega]; simpa using h2
   ·simp at h

theorem run_findKeyA {kt : TypeId} {l : List (Nat × SK)} {xs : Array Value} {es : List MapEntry} (hl : structOffs P kt = some l) (w : World) : (Instr.findKey kt (.agg xs) es).run P w = (Instr.findAsking kt (.agg xs) es 0).run P w := by
 unfold structOffs at hl
 split at hl
 ·rename_i fs hu
  cases es with
  | nil => simp [Instr.findKey, run_underlying hu, Instr.findNow, Instr.findAsking]
  | cons e es => simp [Instr.findKey, run_underlying hu, Instr.findNow, Instr.sameNow]
 ·simp at hl

theorem lookupA_sound [Gl] {t kt et : TypeId} {i : TI} {l : List (Nat × SK)} {z x : V} {ks : List V} {ok : Bool} {r : Res} {a b : Value} {c : Nat} (hi : mkTI P t = some i) (hk : i.k = .map kt et) (hl : structOffs P kt = some l) (hz : zeroT P et = some z)
  (h : lookupA m.h l z x ks ok = some r) (hR : Rel S m) (ha : RV S m x a) (hb : RV S m (.agg ks) b) :
  ∃ z, (Instr.lookup t a b ok).run P m.w = .ok z m.w ∧ After S m c r z m := by
 obtain ⟨inf, d, i1, i2, i3, _⟩ := mkTI_spec hi
 rw [hk] at i3
 have := mkTK_map i3; subst this
 cases hb with
 | agg hxl hx =>
 rename_i xs
 obtain ⟨zv, z1, z2⟩ := zeroT_sound (P := P) (S := S) (m := m) m.w hz
 have res : ∀ {v : V} {y : Value} {q : Bool}, RV S m v y → RV S m (lookRes ok v q) (if ok then .tuple #[y, .bool q] else y) := by
  intro v y q hv
  cases ok with
  | false => exact hv
  | true =>
   refine .tuple rfl fun j u y' hu hy => ?_
   rcases j with _ | _ | j
   ·simp at hu hy; subst hu; subst hy; exact hv
   ·simp at hu hy; subst hu; subst hy; exact .d (.bool _)
   ·simp at hu
 unfold lookupA at h
 split at h
 ·rename_i id g
  split at h
  ·rename_i o hlv
   split at h
   ·rename_i kks vs cl hc
    obtain ⟨ho, hg, hkd, bl, hat, rfl⟩ := ha.mp_live hlv
    have hrow := (hR.obj id o bl 0 ho hat).2
    rw [hc] at hrow
    obtain ⟨_, es, he, hm⟩ := hrow
    split at h
    ·rename_i j hok hq
     have hfind := findA_sound (P := P) (es := es.toList) (ks := kks) (j := 0) hl hxl hx m.w (by rw [hm.lk]; simp) (fun i u e h1 h2 => hm.key i u e h1 (by simpa using h2)) hq
     obtain ⟨_, e, he1, he2⟩ := hfind
     split at h
     ·rename_i v hv
      simp [retR] at h; subst h
      refine ⟨_, ?_, After.quiet hR (res (hm.val j v e hv (by simpa using he1)))⟩
      have hlt : bl < m.w.heap.size := block_lt he
      simp [Instr.lookup, run_underlying i2, getObj, Sem.run, he, run_checkKeyA hl hok hxl, run_findKeyA hl, he2]
     ·simp at h
    ·rename_i hok hq
     have hfind := findA_sound (P := P) (es := es.toList) (ks := kks) (j := 0) hl hxl hx m.w (by rw [hm.lk]; simp) (fun i u e h1 h2 => hm.key i u e h1 (by simpa using h2)) hq
     simp [retR] at h; subst h
     refine ⟨_, ?_, After.quiet hR (res z2)⟩
     simp [Instr.lookup, run_underlying i2, getObj, Sem.run, he, run_checkKeyA hl hok hxl, run_findKeyA hl, hfind, z1]
    ·simp at h
   ·simp at h
  ·simp at h
 ·simp at h

theorem insertA_sound [Gl] {t kt et : TypeId} {i : TI} {l : List (Nat × SK)} {mv x : V} {ks : List V} {r : Res} {a b y : Value} {c : Nat} (hi : mkTI P t = some i) (hk : i.k = .map kt et) (hl : structOffs P kt = some l)
  (h : insertA m.h l mv ks x = some r) (hR : Rel S m) (ha : RV S m mv a) (hb : RV S m (.agg ks) b) (hx : RV S m x y) :
  ∃ m', (Instr.mapUpdate t a b y).run P m.w = .ok () m'.w ∧ After S m c r undef m' := by
 obtain ⟨inf, d, i1, i2, i3, _⟩ := mkTI_spec hi
 rw [hk] at i3
 have := mkTK_map i3; subst this
 have hb0 := hb
 cases hb with
 | agg hxl hxs =>
 rename_i xs
 unfold insertA at h
 split at h
 ·rename_i id g kd hkd
  split at h
  ·rename_i o hlv
   split at h
   ·rename_i kks vs cl hro hc
    obtain ⟨ho, hg, hkk, bl, hat, rfl⟩ := ha.mp_live hlv
    have hrow := (hR.obj id o bl 0 ho hat).2
    rw [hc] at hrow
    obtain ⟨_, es, he, hm⟩ := hrow
    split at h
    ·rename_i hok hq
     have hfind := findA_sound (P := P) (es := es.toList) (ks := kks) (j := 0) hl hxl hxs m.w (by rw [hm.lk]; simp) (fun i u e h1 h2 => hm.key i u e h1 (by simpa using h2)) hq
     simp only [Option.some.injEq] at h; subst h
     obtain ⟨m', w1, w2, w3, w4, w5, w6⟩ := write_sp (id := id) (o := o) (o' := ⟨g, false, [.mpa (kks ++ [kd]) (vs ++ [x]) (cl + 1)]⟩) (b := bl) (c := c) (ob := .map es cl) (ob' := .map (es.push { key := .agg xs, val := y, born := cl }) (cl + 1))
      (w' := { m.w with heap := m.w.heap.setIfInBounds bl (.map (es.push { key := .agg xs, val := y, born := cl }) (cl + 1)) })
      hR ho hat hro he trivial trivial rfl hg.symm (by rw [hc]; rfl) (by rw [hc]; simp) (fun m' e' hm' => by
       refine ⟨rfl, _, hm', ?_⟩
       have hm2 := hm.mono e'
       refine ⟨by simp [hm.lk], by simp [hm.lv], fun q u z hu hz => ?_, fun q u z hu hz => ?_⟩
       ·rw [Array.getElem?_push] at hz
        by_cases hjq : q = es.size
        ·subst hjq
         simp at hz; subst hz
         rw [List.getElem?_append_right (by rw [hm.lk]; exact Nat.le_refl _), hm.lk] at hu
         simp at hu; subst hu
         rw [← rowD_spec hkd]
         exact hb0.mono e'
        ·rw [if_neg hjq] at hz
         have hql : q < kks.length := by rw [hm.lk]; exact (Array.getElem?_eq_some_iff.1 hz).1
         rw [List.getElem?_append_left hql] at hu
         exact hm2.key q u z hu hz
       ·rw [Array.getElem?_push] at hz
        by_cases hjq : q = es.size
        ·subst hjq
         simp at hz; subst hz
         rw [List.getElem?_append_right (by rw [hm.lv]; exact Nat.le_refl _), hm.lv] at hu
         simp at hu; subst hu
         exact hx.mono e'
        ·rw [if_neg hjq] at hz
         have hql : q < vs.length := by rw [hm.lv]; exact (Array.getElem?_eq_some_iff.1 hz).1
         rw [List.getElem?_append_left hql] at hu
         exact hm2.val q u z hu hz)
     refine ⟨m', ?_, w5, w6, .undef, by rw [w2]; rfl, by rw [w4]; exact (iss_zero m c).symm⟩
     rw [w1]
     simp [Instr.mapUpdate, run_underlying i2, getObj, setObj, Sem.run, he, run_checkKeyA hl hok hxl, run_findKeyA hl, hfind]
    ·simp at h
   ·simp at h
  ·simp at h
 ·simp at h

theorem makeMapA_sound [Gl] {t : TypeId} {n c : Nat} {r : Res} (h : makeMapA n c = some r) (hR : Rel S m) (hf : Fresh m c r.dc) : ∃ z m', (Instr.makeMap t none).run P m.w = .ok z m'.w ∧ After S m c r z m' := by
 simp only [makeMapA, Option.some.injEq] at h; subst h
 obtain ⟨m', w1, w2, w3, w4, w5, w6⟩ := alloc_sp (id := n) (o' := ⟨c, false, [.mpa [] [] 0]⟩) (c := c) (ob := .map #[] 0) (w' := { m.w with heap := m.w.heap.push (.map #[] 0) }) hR rfl trivial
  (hf n c (Nat.le_refl _) (by simp)) rfl (fun m' _ hm => ⟨rfl, #[], hm, ⟨rfl, rfl, fun j k e h => by simp at h, fun j k e h => by simp at h⟩⟩)
 refine ⟨.map (some m.w.heap.size), m', ?_, w5, w6, .mp (by rw [w4]; exact .inr ⟨Nat.le_refl _, by omega⟩) rfl fun o ho hg => ?_, by rw [w2]; rfl, w4⟩
 ·rw [w1]
  simp [Instr.makeMap, newObj, Sem.run]
 ·rw [w2, upd_same] at ho
  simp only [Option.some.injEq] at ho; subst ho
  exact ⟨rfl, m.w.heap.size, by rw [w3, upd_same], rfl⟩

theorem makeMapV_sound [Gl] {t : TypeId} {n c : Nat} {r : Res} (h : makeMapV n c = some r) (hR : Rel S m) (hf : Fresh m c r.dc) : ∃ z m', (Instr.makeMap t none).run P m.w = .ok z m'.w ∧ After S m c r z m' := by
 simp only [makeMapV, Option.some.injEq] at h; subst h
 obtain ⟨m', w1, w2, w3, w4, w5, w6⟩ := alloc_sp (id := n) (o' := ⟨c, false, [.mpc [] [] [] 0]⟩) (c := c) (ob := .map #[] 0) (w' := { m.w with heap := m.w.heap.push (.map #[] 0) }) hR rfl trivial
  (hf n c (Nat.le_refl _) (by simp)) rfl (fun m' _ hm => ⟨rfl, #[], hm, ⟨rfl, rfl, rfl, fun j k e h => by simp at h, fun j k e h => by simp at h, fun j k e h => by simp at h⟩⟩)
 refine ⟨.map (some m.w.heap.size), m', ?_, w5, w6, .mp (by rw [w4]; exact .inr ⟨Nat.le_refl _, by omega⟩) rfl fun o ho hg => ?_, by rw [w2]; rfl, w4⟩
 ·rw [w1]
  simp [Instr.makeMap, newObj, Sem.run]
 ·rw [w2, upd_same] at ho
  simp only [Option.some.injEq] at ho; subst ho
  exact ⟨rfl, m.w.heap.size, by rw [w3, upd_same], rfl⟩

/-! ### Capacities, the greatest and the least, append of zeros -/

theorem capV_sound [Gl] {t ty : TypeId} {i : TI} {x : V} {r : Res} {v : Value} {c : Nat} (hti : mkTI P t = some i) (h : capV m.h i x = some r) (hR : Rel S m) (hv : RV S m x v) :
  ∃ z, (Builtin.cap_ #[t] ty #[v]).run P m.w = .ok z m.w ∧ After S m c r z m := by
 obtain ⟨inf, d, i1, i2, i3, _⟩ := mkTI_spec hti
 unfold capV at h
 split at h
 ·rename_i rows
  split at h
  ·rename_i e sz by_ hk
   rw [hk] at i3
   obtain ⟨rfl, jj, hj, hjs, _⟩ := mkTK_slice i3
   simp [ret] at h; subst h
   cases hv with
   | full hd => exact ⟨goInt rows.length, by simp [Builtin.cap_, run_underlying i2], After.quiet hR (.d (.int _ _))⟩
  ·simp at h
 ·rename_i id g off len sz q
  split at h
  ·rename_i e sz' by_ o hk hl
   rw [hk] at i3
   obtain ⟨rfl, jj, hj, hjs, _⟩ := mkTK_slice i3
   simp [retR] at h; subst h
   obtain ⟨ho, hgen, hok⟩ := hv.osl_live hl
   unfold OslOK at hok
   split at hok
   ·obtain ⟨_, _, h0, _⟩ := hok; cases h0
   ·obtain ⟨p, k, rfl, _, _, _, _, _, rfl, _⟩ := hok
    exact ⟨goInt k, by simp [Builtin.cap_, run_underlying i2], After.quiet hR (.d (.int _ _))⟩
  ·simp at h
 ·simp at h

theorem maxI_sound [Gl] {mx : Bool} : ∀ {l : List V} {ys : List Value} {k : IntKind} {a : Int} {r : Res} {w : World} {c : Nat}, maxI mx k a l = some r → Rel S m → RVs S m l ys →
  ∃ z, (List.foldlM (if mx then Builtin.max2 else Builtin.min2) (.int k a) ys : Sem Value).run P w = .ok z w ∧ After S m c r z m
 | [], ys, k, a, r, w, c, h, hR, hv => by
  have : ys = [] := List.length_eq_zero_iff.1 (by have := hv.1; simpa using this.symm)
  subst this
  simp [maxI, ret] at h; subst h
  exact ⟨_, rfl, After.quiet hR (.d (.int _ _))⟩
 | v :: l, ys, k, a, r, w, c, h, hR, hv => by
  obtain ⟨x, xs, rfl, hx, hxs⟩ := hv.cases
  unfold maxI at h
  split at h
  ·cases ‹_ = []›
  ·rename_i q b l' e
   cases e
   have := hx.int_inv; subst this
   obtain ⟨z, g1, g2⟩ := maxI_sound (w := w) (c := c) h hR hxs
   refine ⟨z, ?_, g2⟩
   rw [List.foldlM_cons]
   cases mx with
   | true => simp only [if_true] at g1 ⊢; simp only [Sem.run_bind, Builtin.max2, Sem.run_pure, Result.andThen_ok]; exact g1
   | false => simp only [Bool.false_eq_true, if_false] at g1 ⊢; simp only [Sem.run_bind, Builtin.min2, Sem.run_pure, Result.andThen_ok]; exact g1
  ·simp at h

theorem maxV_sound [Gl] {mx : Bool} {vs : List V} {xs : List Value} {ts : Array TypeId} {ty : TypeId} {r : Res} {c : Nat} (h : maxV mx vs = some r) (hR : Rel S m) (hv : RVs S m vs xs) :
  ∃ z, ((if mx then Builtin.max_ else Builtin.min_) ts ty xs.toArray).run P m.w = .ok z m.w ∧ After S m c r z m := by
 unfold maxV at h
 split at h
 ·rename_i k a l
  obtain ⟨x, ys, rfl, hx, hys⟩ := hv.cases
  have := hx.int_inv; subst this
  obtain ⟨z, g1, g2⟩ := maxI_sound (P := P) (w := m.w) (c := c) h hR hys
  refine ⟨z, ?_, g2⟩
  cases mx with
  | true => simpa [Builtin.max_] using g1
  | false => simpa [Builtin.min_] using g1
 ·simp at h

theorem appendNV_sound [Gl] {n c : Nat} {t u ty e sz by_ : Nat} {i j : TI} {s x : V} {kk : IntKind} {r : Res} {v y : Value} (hi : mkTI P t = some i) (hk : i.k = .slice e sz by_) (hj : mkTI P u = some j) (hjk : j.k = .int kk)
  (h : appendNV n c i (mkTI P e) s x = some r) (hR : Rel S m) (hf : Fresh m c r.dc) (hv : RV S m s v) (hy : RV S m x y) : ∃ z m', (Builtin.append_ #[t, u] ty #[v, y]).run P m.w = .ok z m'.w ∧ After S m c r z m' := by
 obtain ⟨inf, d, h1, h2, h3, _⟩ := mkTI_spec hi
 rw [hk] at h3
 obtain ⟨rfl, j0, hj0, hjs, hjb⟩ := mkTK_slice h3
 obtain ⟨_, du, _, u2, u3, _⟩ := mkTI_spec hj
 rw [hjk] at u3
 have := mkTK_int u3; subst this
 unfold appendNV at h
 rw [hk] at h
 split at h
 ·rename_i e' sz' by' q ei hk' hei
  obtain ⟨rfl, rfl, rfl⟩ : e = e' ∧ sz = sz' ∧ by_ = by' := by injection hk' with a1 a2 a3; exact ⟨a1, a2, a3⟩
  split at h
  ·rename_i z hz
   split at h
   ·rename_i hc
    obtain ⟨c1, c2, c3, c4, c5, c6⟩ := hc
    simp only [Option.some.injEq] at h; subst h
    have hyv := hy.int_inv; subst hyv
    obtain ⟨zv, g1, g2, g3⟩ := zero_spec hei hz m.w
    have hz0 : j0.zero = some zv := by simpa [hj0] using g3
    have hzs : zv.cells.size = sz := by rw [← c4, g2]; simp
    obtain ⟨b1, b2, b3⟩ := fitsB_spec c2
    obtain ⟨hby, _⟩ := hjb b1
    obtain ⟨a, rfl⟩ : ∃ a, v = .slice a 0 0 := by cases hv; exact ⟨_, rfl⟩
    have hwrap : IntKind.i64.wrap q = q := by
     simp [IntKind.wrap, IntKind.signed, IntKind.bits]; omega
    obtain ⟨hcap1, hcap2⟩ := grown_le m.w (need := q.toNat) (old := 0) (e := e) (by omega)
    have hrun : (Builtin.append_ #[t, u] ty #[.slice a 0 0, .int .i64 q]).run P m.w = .ok (.slice (some ⟨m.w.heap.size, 0, none⟩) q.toNat (grownCap m.w q.toNat 0 e))
      (m.w.drew.alloc (.cells (Builtin.zeroCells zv.cells q.toNat ++ Builtin.zeroCells zv.cells (grownCap m.w q.toNat 0 e - q.toNat)) e)) := by
     have n1 : ¬ q < 0 := by omega
     have n2 : ¬ (281474976710656 < q * (j0.bytes : Int)) := by
      rw [hby]
      have : q * (by_ : Int) = ((q.toNat * by_ : Nat) : Int) := by rw [Int.natCast_mul]; congr 1; omega
      rw [this]; omega
     have n3 : ¬ (q.toNat ≤ 0) := by omega
     have n4 : ¬ (q.toNat * j0.size = 0) := by
      rw [hjs]; intro h0
      rcases Nat.mul_eq_zero.1 h0 with h0 | h0 <;> omega
     have n5 : ¬ ((q.toNat : Int) > IntKind.i64.max) := by
      simp [IntKind.max, IntKind.signed, IntKind.bits]; omega
     have n6 : Builtin.nextslicecap q.toNat 0 = q.toNat := by unfold Builtin.nextslicecap; rw [if_pos (by omega)]
     have n7 : ¬ (281474976710656 < q.toNat * j0.bytes) := by rw [hby]; omega
     have hfo : (Builtin.firstCells j0.size 0 (.slice a 0 0)).run P m.w.drew = .ok #[] m.w.drew := by
      have := first_run (P := P) (a := a) (n := 0) (k := 0) (sz := j0.size) (xs := []) m.w.drew (by simp) (fun _ => rfl) (fun p _ j y hy => by simp at hy) 0
      simpa using this
     simp only [Builtin.append_, List.getElem?_toArray, List.getElem?_cons_zero, List.getElem?_cons_succ]
     simp [run_underlying h2, run_underlying u2, sizeOf, typeInfo, zeroValue, hj0, hz0, asInt, asIntOf, hwrap, n1, n2, n3, n4, n5, n6, n7, Question.forced, hfo, newRow, grownCap]
     rw [if_neg (by omega), if_neg (by omega)]
    obtain ⟨m', w1, w2, w3, w4, w5, w6⟩ := alloc_obj (id := n) (o' := ⟨c, false, (List.replicate q.toNat z).flatten⟩) (c := c) (dc := 1) (T := e)
     (cs' := Builtin.zeroCells zv.cells q.toNat ++ Builtin.zeroCells zv.cells (grownCap m.w q.toNat 0 e - q.toNat))
     (w' := m.w.drew.alloc (.cells (Builtin.zeroCells zv.cells q.toNat ++ Builtin.zeroCells zv.cells (grownCap m.w q.toNat 0 e - q.toNat)) e)) hR rfl
     (by simp [zeroCells_size, hzs, c4]) (hf n c (Nat.le_refl _) (by simp)) rfl rfl (by
      intro jj u hu
      have hRV := zero_cells_RVs (S := S) (m := m) g2 q.toNat
      obtain ⟨yy, q1, q2⟩ := hRV.get hu
      refine ⟨List.all_eq_true.1 (all_replicate c6 q.toNat) u (List.mem_of_getElem? hu), yy, ?_, q2⟩
      have e1 : Builtin.zeroCells zv.cells q.toNat = ((List.replicate q.toNat zv.cells.toList).flatten).toArray := by
       unfold Builtin.zeroCells
       exact range_map_toArray _ _
      have hl : jj < ((List.replicate q.toNat zv.cells.toList).flatten).length := (List.getElem?_eq_some_iff.1 q1).1
      rw [Array.getElem?_append_left (by rw [e1]; simpa using hl), e1]
      simpa using q1)
    have hlen : ((List.replicate q.toNat z).flatten).length = q.toNat * sz := by
     rw [flatten_len sz _ (fun r hr => by rw [List.eq_of_mem_replicate hr]; exact c4)]; simp
    refine ⟨_, m', by rw [w1]; exact hrun, w5, w6, ?_, by rw [w2]; rfl, w4⟩
    refine .osl (by rw [w4]; exact .inr ⟨Nat.le_refl _, by omega⟩) rfl fun o ho hgen => ?_
    have hkk := (w5.obj n o m.w.heap.size 0 ho (by rw [w3]; exact upd_same _ _ _)).2.kind_at ⟨_, _, _, by rw [w1]; simp only [World.alloc]; exact Array.getElem?_push_size⟩
    rw [w2, upd_same] at ho
    simp only [Option.some.injEq] at ho; subst ho
    refine ⟨hkk, ?_⟩
    unfold OslOK
    rw [w3]
    simp only [upd_same]
    refine ⟨_, _, rfl, .inl rfl, by rw [hlen]; omega, hcap1, hcap2, ⟨_, e, (0, 0), by rw [w1]; simp only [World.alloc]; exact Array.getElem?_push_size, ?_⟩, trivial⟩
    simp only [Array.size_append, zeroCells_size, hzs]
    rw [← Nat.add_mul]
    have : q.toNat + (grownCap m.w q.toNat 0 e - q.toNat) = grownCap m.w q.toNat 0 e := by omega
    rw [this]; omega
   ·simp at h
  ·simp at h
 ·simp at h
/-! ### Loops over a map -/

theorem isMapK_eq {k : TK} (h : isMapK k = true) : ∃ a b, k = .map a b := by
 cases k <;> first | exact ⟨_, _, rfl⟩ | cases h

theorem rangeMV_sound [Gl] {t : TypeId} {i : TI} {x : V} {r : Res} {a : Value} {n c : Nat} (hi : mkTI P t = some i) (hk : isMapK i.k = true) (h : rangeMV m.h n c x = some r) (hR : Rel S m) (hf : Fresh m c r.dc) (ha : RV S m x a) :
  ∃ z m', (Instr.range t a).run P m.w = .ok z m'.w ∧ After S m c r z m' := by
 obtain ⟨inf, d, i1, i2, i3, _⟩ := mkTI_spec hi
 obtain ⟨kt, et, hke⟩ := isMapK_eq hk
 rw [hke] at i3
 have := mkTK_map i3; subst this
 unfold rangeMV at h
 split at h
 ·rename_i id g
  split at h
  ·rename_i o hl
   split at h
   ·rename_i ks vs bs clock hc
    simp only [Option.some.injEq] at h; subst h
    obtain ⟨ho, hg, hkd, b, hat, rfl⟩ := ha.mp_live hl
    have hrow := (hR.obj id o b 0 ho hat).2
    rw [hc] at hrow
    obtain ⟨_, es, he, hm⟩ := hrow
    obtain ⟨m', w1, w2, w3, w4, w5, w6⟩ := alloc_sp (id := n) (o' := ⟨c, false, [.itm id g clock [] clock]⟩) (c := c) (ob := .mapIter (some b) clock #[] clock) (w' := { m.w with heap := m.w.heap.push (.mapIter (some b) clock #[] clock) }) hR rfl trivial
     (hf n c (Nat.le_refl _) (by simp)) rfl (fun m' e hm => ⟨rfl, b, hm, ha.mono e⟩)
    refine ⟨.pointer (some ⟨m.w.heap.size, 0, none⟩), m', ?_, w5, w6, .it (by rw [w4]; exact .inr ⟨Nat.le_refl _, by omega⟩) rfl fun o ho hg => ?_, by rw [w2]; rfl, w4⟩
    ·rw [w1]
     simp [Instr.range, run_underlying i2, newObj, getObj, he, Sem.run]
    ·rw [w2, upd_same] at ho
     simp only [Option.some.injEq] at ho; subst ho
     exact ⟨rfl, m.w.heap.size, by rw [w3, upd_same], rfl⟩
   ·simp at h
  ·simp at h
 ·simp at h

theorem findB_first {b : Nat} : ∀ {bs : List Nat} {es : List MapEntry} {j0 j : Nat}, findB (b : Int) bs j0 = some j → bs.length = es.length → (∀ (i n : Nat) (e : MapEntry), bs[i]? = some n → es[i]? = some e → e.born = n) →
  ∃ i e, j = j0 + i ∧ es[i]? = some e ∧ e.born = b ∧ es.find? (fun x => x.born == b) = some e
 | [], es, j0, j, h, hl, hb => by simp [findB] at h
 | n :: r, es, j0, j, h, hl, hb => by
  cases es with
  | nil => simp at hl
  | cons e es =>
   have h0 := hb 0 n e rfl rfl
   simp only [findB] at h
   split at h
   ·rename_i hd
    have hd : (n : Int) = b := of_decide_eq_true hd
    have hn : n = b := by omega
    simp only [Option.some.injEq] at h; subst h
    exact ⟨0, e, rfl, rfl, by omega, by simp [h0, hn]⟩
   ·rename_i hd
    have hd : ¬ (n : Int) = b := of_decide_eq_false hd
    obtain ⟨i, q, h1, h2, h3, h4⟩ := findB_first h (by simpa using hl) (fun i n e h1 h2 => hb (i + 1) n e (by simpa using h1) (by simpa using h2))
    refine ⟨i + 1, q, by omega, by simpa using h2, h3, ?_⟩
    have : (e.born == b) = false := by simp; omega
    rw [List.find?_cons, this]; exact h4

theorem entryItV_sound [Gl] {x : V} {r : Res} {a : Value} {c : Nat} (h : entryItV m.h x = some r) (hR : Rel S m) (ha : RV S m x a) :
  ∃ z, (Instr.entry a).run P m.w = .ok z m.w ∧ After S m c r z m := by
 unfold entryItV at h
 split at h
 ·rename_i id g
  split at h
  ·rename_i o hl
   split at h
   ·rename_i mid mg since seen last hc
    split at h
    ·rename_i b q hb hq
     split at h
     ·rename_i ks vs bs clock hqc
      split at h
      ·rename_i j hcl hj
       have hcl : clock = last := of_decide_eq_true hcl
       split at h
       ·rename_i k v hk hv
        simp only [Option.some.injEq] at h; subst h
        obtain ⟨ho, hg, hkd, bl, hat, rfl⟩ := ha.it_live hl
        have hrow := (hR.obj id o bl 0 ho hat).2
        rw [hc] at hrow
        obtain ⟨_, bm, he, hmp⟩ := hrow
        obtain ⟨ho2, hg2, hk2, bm2, hat2, e2⟩ := hmp.mp_live hq
        have : bm = bm2 := by injection e2 with e2; injection e2
        subst this
        have hrow2 := (hR.obj mid q bm 0 ho2 hat2).2
        rw [hqc] at hrow2
        obtain ⟨_, es, he2, hm⟩ := hrow2
        obtain ⟨i, e, h1, h2, h3, h4⟩ := findB_first (es := es.toList) hj (by rw [hm.lb]; simp) (fun q n e h1 h2 => hm.born q n e h1 (by simpa using h2))
        rw [Nat.zero_add] at h1; subst h1
        have h2' : es[j]? = some e := by simpa using h2
        have hfind : es.find? (fun x => x.born == b) = some e := by rw [← Array.find?_toList]; exact h4
        have hback : seen.toArray.back? = some b := by simp [hb]
        refine ⟨.tuple #[e.key, e.val], ?_, After.quiet hR (.tuple rfl fun u y z hu hz => ?_)⟩
        ·subst hcl
         simp [Instr.entry, getObj, Sem.run, he, he2, hback, hfind]
        ·rcases u with _ | _ | u
         ·simp at hu hz; subst hu; subst hz; exact .d (hm.key j k e hk h2')
         ·simp at hu hz; subst hu; subst hz; exact hm.val j v e hv h2'
         ·simp at hu
       ·simp at h
      ·simp at h
     ·simp at h
    ·simp at h
   ·simp at h
  ·simp at h
 ·simp at h

/-- 'next' over a map that has taken in nothing since: nothing is left, or one entry comes out, whichever the tape says. -/
theorem run_next_at (w : World) (ty : TypeId) (b bm since : Nat) (seen : Array Nat) (es : Array MapEntry) (hb : w.heap[b]? = some (.mapIter (some bm) since seen since)) (hm : w.heap[bm]? = some (.map es since)) (hold : ∀ x ∈ es.toList, x.born < since) :
  ((leftOf es seen).size = 0 ∧ (Instr.next (.pointer (some ⟨b, 0, none⟩)) false ty).run P w = .ok (.tuple #[.bool false]) w) ∨
  ∃ e ∈ (leftOf es seen).toList, ∃ k : Nat, (Instr.next (.pointer (some ⟨b, 0, none⟩)) false ty).run P w = .ok (.tuple #[.bool true, e.key, e.val]) { w with drawn := w.drawn + k, heap := w.heap.setIfInBounds b (.mapIter (some bm) since (seen.push e.born) since) } := by
 have hlt : b < w.heap.size := by
  rcases Nat.lt_or_ge b w.heap.size with h | h
  ·exact h
  ·simp [Array.getElem?_eq_none h] at hb
 simp only [Instr.next, getObj, Sem.run_bind, Sem.run, hb, hm, Result.andThen, next_test_false seen es since since hold (Nat.le_refl _), Bool.false_eq_true, if_false]
 unfold leftOf
 have hmem : ∀ x ∈ (Array.filter (fun e => !seen.contains e.born) es).toList, x.born < since := fun x hx => hold x (by simp at hx ⊢; exact hx.1)
 generalize Array.filter (fun e => !seen.contains e.born) es = L at hmem ⊢
 have e1 : L.filter (fun x => decide (x.born < since)) = L := Array.filter_eq_self.2 (fun x hx => by simpa using hmem x (by simpa using hx))
 have e2 : L.filter (fun x => decide (x.born ≥ since)) = #[] := by
  rw [Array.filter_eq_empty_iff]
  intro x hx
  have := hmem x (by simpa using hx)
  simp
  omega
 simp only [e1, e2, Array.append_empty]
 by_cases h0 : L.size = 0
 ·left
  have : L = #[] := Array.eq_empty_of_size_eq_zero h0
  subst this
  refine ⟨rfl, ?_⟩
  simp [choose, Sem.run, Question.forced]
 ·right
  have hne : L.isEmpty = false := by simp [Array.isEmpty, h0]
  simp only [hne, Bool.false_eq_true, if_false, Array.empty_append, Array.size_map]
  have hch : ∃ (j k : Nat), j < L.size ∧ (choose (Question.mapNext L.size)).run P w = .ok j { w with drawn := w.drawn + k } := by
   by_cases hf : L.size ≤ 1
   ·exact ⟨0, 0, by omega, by simp [choose, Sem.run, Question.forced, hf]⟩
   ·refine ⟨_, 1, Nat.mod_lt (w.tape w.drawn (.mapNext L.size)) (by omega), ?_⟩
    simp only [choose, Sem.run, Question.forced, decide_eq_true_eq, hf, if_false, Question.cut]
  obtain ⟨j, k, hj, hrun⟩ := hch
  refine ⟨L[j], by simp, k, ?_⟩
  simp only [hrun, Array.getElem?_map, Array.getElem?_eq_getElem hj, Option.map_some, Sem.run_bind, setObj, Sem.run, hb, Result.andThen]
  rfl


/-! ### Bytes as a text -/
theorem toBytes_sound [Gl] : ∀ {xs : List V} {ys : List Value} {s : List UInt8}, toBytes xs = some s → RVs S m xs ys → ∃ ns : List Int, ys = ns.map (Value.int .u8) ∧ s = ns.map fun n => UInt8.ofNat n.toNat
 | [], ys, s, h, hx => by
  obtain rfl : ys = [] := List.length_eq_zero_iff.1 (by rw [← hx.1]; rfl)
  simp only [toBytes, Option.some.injEq] at h; subst h
  exact ⟨[], rfl, rfl⟩
 | v :: r, ys, s, h, hx => by
  obtain ⟨x, zs, rfl, k1, k2⟩ := hx.cases
  simp only [toBytes] at h
  split at h
  ·rename_i b l hb hl
   simp only [Option.some.injEq] at h; subst h
   unfold byteV at hb
   split at hb
   ·rename_i n
    simp only [Option.some.injEq] at hb; subst hb
    obtain rfl : x = .int .u8 n := by cases k1 with | d hd => cases hd; rfl
    obtain ⟨ns, h1, h2⟩ := toBytes_sound hl k2
    exact ⟨n :: ns, by rw [h1]; rfl, by rw [h2]; rfl⟩
   ·cases hb
  ·cases h
theorem bytesV_sound [Gl] {s t e sz by_ : Nat} {i j : TI} {x : V} {r : Res} {a : Value} {c : Nat} (hi : mkTI P s = some i) (hk : i.k = .slice e sz by_) (hj : mkTI P t = some j) (hkj : j.k = .str)
  (h : bytesV P m.h e sz x = some r) (hR : Rel S m) (ha : RV S m x a) : ∃ z, (convert s t a).run P m.w = .ok z m.w ∧ After S m c r z m := by
 obtain ⟨_, d1, _, i2, i3, _⟩ := mkTI_spec hi
 obtain ⟨_, d2, _, j2, j3, _⟩ := mkTI_spec hj
 rw [hk] at i3
 rw [hkj] at j3
 obtain ⟨rfl, inf, hinf, hsz, _⟩ := mkTK_slice i3
 have := mkTK_str j3; subst this
 unfold bytesV at h
 split at h
 ·rename_i e1 e2
  simp only [Option.map_eq_some_iff] at e2
  obtain ⟨ei, hei, hek⟩ := e2
  obtain ⟨_, d3, _, u2, u3, _⟩ := mkTI_spec hei
  rw [hek] at u3
  have := mkTK_int u3; subst this
  split at h
  ·rename_i n xs rd hr
   split at h
   ·rename_i str hs
    simp only [Option.some.injEq] at h; subst h
    obtain ⟨p, k, rfl, _, _, ys, hys, hyl, _, hyn, hyc⟩ := rowsOf_sound hr ha hR
    obtain ⟨ns, rfl, hns⟩ := toBytes_sound hs hys
    have hl : ns.length = n := by have := hys.1; rw [List.length_map] at this; omega
    cases p with
    | none =>
     have hn0 := hyn rfl
     subst hn0
     obtain rfl : ns = [] := List.length_eq_zero_iff.1 hl
     refine ⟨.string .empty, ?_, After.quiet hR (.d (.str _ _ ?_))⟩
     ·rw [run_convert_bytes_string m.w s t e none 0 k i2 u2 j2]
      rfl
     ·rw [hns]; rfl
    | some q =>
     refine ⟨.string (ns.foldl (fun r n => r.push (UInt8.ofNat n.toNat)) ByteArray.empty), ?_, After.quiet hR (.d (.str _ _ ?_))⟩
     ·rw [run_convert_bytes_string m.w s t e (some q) n k i2 u2 j2]
      refine run_bytesToString m.w q n k ns ?_
      have := run_loadCells_list (P := P) m.w q (ns.map (Value.int .u8)) (hyc q rfl)
      rw [List.length_map, hl] at this
      exact this
     ·rw [foldl_push_bytes, hns]; show ((#[] : Array UInt8) ++ (ns.map fun n => UInt8.ofNat n.toNat).toArray).toList = _; simp
   ·cases h
  ·cases h
 ·cases h
theorem Rel.av_lt2 [Gl] (hR : Rel S m) {b : Nat} (h : m.av S b) : b < m.w.heap.size := by
 rcases h with h | ⟨id, o, x, h1, h2, h3⟩
 ·exact hR.sub b h
 ·obtain ⟨ob0, hr⟩ := (hR.obj id o b x h1 h3).2.some
  exact block_lt hr
theorem strBytes_sound [Gl] {s t e sz by_ : Nat} {i j : TI} {x : V} {r : Res} {a : Value} {c : Nat} (hi : mkTI P s = some i) (hk : i.k = .str) (hj : mkTI P t = some j) (hkj : j.k = .slice e sz by_)
  (h : strBytes P e sz x = some r) (hR : Rel S m) (ha : RV S m x a) : ∃ z m', (convert s t a).run P m.w = .ok z m'.w ∧ After S m c r z m' := by
 obtain ⟨_, d1, _, i2, i3, _⟩ := mkTI_spec hi
 obtain ⟨_, d2, _, j2, j3, _⟩ := mkTI_spec hj
 rw [hk] at i3
 rw [hkj] at j3
 obtain ⟨rfl, inf, hinf, hsz, _⟩ := mkTK_slice j3
 have := mkTK_str i3; subst this
 unfold strBytes at h
 split at h
 ·rename_i l e1 e2
  simp only [Option.map_eq_some_iff] at e2
  obtain ⟨ei, hei, hek⟩ := e2
  obtain ⟨_, d3, _, u2, u3, _⟩ := mkTI_spec hei
  rw [hek] at u3
  have := mkTK_int u3; subst this
  split at h
  ·rename_i hl
   simp [ret] at h; subst h
   cases ha with
   | d hd =>
    cases hd with
    | str bs l' hbs =>
     have hlen : bs.size = l.length := by rw [← hbs]; simp
     have hrun := Go.Lib.run_convert_string_bytes m.w s t e bs i2 j2 u2
     obtain ⟨hc1, hc2⟩ := grown_le m.w (need := bs.size) (old := 0) (e := e) (by omega)
     obtain ⟨g1, g2⟩ := hR.grown (w' := Go.Lib.bytesWorld m.w e bs) (by rw [Go.Lib.bytesWorld_size]; omega) (fun b hb => Go.Lib.bytesWorld_at_old m.w e bs b hb) ⟨rfl, rfl, fun q hq => by
      simp only [World.frozen?, Go.Lib.bytesWorld_at_old m.w e bs q.block hq]⟩
     refine ⟨_, { m with w := Go.Lib.bytesWorld m.w e bs }, hrun, g1, g2, ?_, rfl, (iss_zero m c).symm⟩
     have hll : (l.map fun b => [D.int .u8 (b.toNat : Int)]).length = bs.size := by rw [List.length_map, hlen]
     rw [← hll]
     refine .d (.slice _ _ 0 _ 1 (by rw [hll]; exact hc1) (by rw [hll]; exact hc2) (fun k r hr => ?_) (fun k _ => .int .u8 ((bs.data.toList.getD k 0).toNat : Int)) (fun k q r d hr hd => ?_) fun k q r d hr hd => ?_)
     ·rw [List.getElem?_map, Option.map_eq_some_iff] at hr
      obtain ⟨b, _, rfl⟩ := hr
      rfl
     ·rw [List.getElem?_map, Option.map_eq_some_iff] at hr
      obtain ⟨b, hb, rfl⟩ := hr
      have hq : q = 0 := by
       have := (List.getElem?_eq_some_iff.1 hd).1
       simp at this; exact this
      subst hq
      have hk := (List.getElem?_eq_some_iff.1 hb).1
      refine ⟨fun hx => ?_, ?_⟩
      ·have := hR.av_lt2 (b := m.w.heap.size) (by
        rcases hx with hx | hx
        ·exact .inl hx
        ·exact .inr hx)
       omega
      ·have := Go.Lib.bytesWorld_cell m.w e bs k (by omega)
       simpa using this
     ·rw [List.getElem?_map, Option.map_eq_some_iff] at hr
      obtain ⟨b, hb, rfl⟩ := hr
      have hq : q = 0 := by
       have := (List.getElem?_eq_some_iff.1 hd).1
       simp at this; exact this
      subst hq
      simp at hd; subst hd
      have : bs.data.toList.getD k 0 = b := by rw [hbs]; simp [List.getD, hb]
      rw [this]
      exact .int _ _
  ·cases h
 ·cases h

theorem convL_sound [Gl] {s t : TypeId} {i j : TI} {x : V} {r : Res} {a : Value} {c : Nat} (hi : mkTI P s = some i) (hj : mkTI P t = some j) (h : convL P m.h i j x = some r) (hR : Rel S m) (ha : RV S m x a) :
  ∃ z m', (convert s t a).run P m.w = .ok z m'.w ∧ After S m c r z m' := by
 unfold convL at h
 split at h
 ·rename_i e sz by_ hk hkj
  exact strBytes_sound hi hk hj hkj h hR ha
 ·rename_i e sz by_ hk hkj
  obtain ⟨z, g1, g2⟩ := bytesV_sound (c := c) hi hk hj hkj h hR ha
  exact ⟨z, m, g1, g2⟩
 ·simp only [Option.bind_eq_some_iff] at h
  obtain ⟨v, hv, h⟩ := h
  simp [ret] at h; subst h
  obtain ⟨z, g1, g2⟩ := convV_sound (P := P) hi hj hv ha
  exact ⟨z, m, g1, After.quiet hR g2⟩

theorem frzV_sound [Gl] {s t : TypeId} {i : TI} {x : V} {r : Res} {a : Value} {c : Nat} (hi : mkTI P s = some i) (h : frzV P m.h (s == t) i x = some r) (hR : Rel S m) (ha : RV S m x a) :
  ∃ z m', (convert s t a).run P m.w = .ok z m'.w ∧ After S m c r z m' := by
 unfold frzV at h
 split at h
 ·rename_i e sz by_ id g off len sz' cap hst hk
  have hst' : s = t := eq_of_beq hst
  subst hst'
  split at h
  ·rename_i o e1 e2 hl
   split at h
   ·rename_i hro hlen
    simp only [Option.some.injEq] at h; subst h
    have hlen' := Nat.le_of_ble_eq_true hlen
    obtain ⟨_, d1, _, i2, i3, _⟩ := mkTI_spec hi
    rw [hk] at i3
    obtain ⟨rfl, inf, hinf, hsz, _⟩ := mkTK_slice i3
    simp only [Option.map_eq_some_iff] at e2
    obtain ⟨ei, hei, hek⟩ := e2
    obtain ⟨_, d3, _, u2, u3, _⟩ := mkTI_spec hei
    rw [hek] at u3
    have := mkTK_int u3; subst this
    obtain ⟨ho, hgen, hok⟩ := ha.osl_live hl
    have hkind := ha.osl_kind hl
    unfold OslOK at hok
    cases hat : m.at_ id with
    | none =>
     simp only [hat] at hok
     obtain ⟨_, rfl, _⟩ := hok
     omega
    | some bb =>
     obtain ⟨b0, base⟩ := bb
     simp only [hat] at hok
     obtain ⟨p, k, rfl, hp, _⟩ := hok
     obtain rfl : p = ⟨b0, base + off, none⟩ := by
      rcases hp with h | ⟨h, _⟩
      ·exact h
      ·omega
     obtain ⟨hS, cs0, T0, fz0, hrow, hfz, hsz, hc⟩ := hR.cellsAt hkind ho hat
     have hrun : (convert s s (.slice (some ⟨b0, base + off, none⟩) len k)).run P m.w = .ok (.slice (some ⟨b0, base + off, none⟩) len k) (m.w.freeze ⟨b0, cs0.size, none⟩ 1) := by
      simp [convert, run_underlying i2, run_underlying u2, markStringish, World.shape?, hrow]
     obtain ⟨lo, hi⟩ := fz0
     have hb0 : b0 < m.w.heap.size := block_lt hrow
     have hrow' : m.w.heap[b0] = .cells cs0 T0 (lo, hi) := (Array.getElem?_eq_some_iff.1 hrow).2
     obtain ⟨m', w1, w2, w3, w4, w5, w6⟩ := write_objF (c := c) (dc := 0) (w' := m.w.freeze ⟨b0, cs0.size, none⟩ 1) (o' := ⟨g, false, o.cells⟩) (base' := base) (cs' := cs0)
      (fz' := if lo == hi then (cs0.size, cs0.size + 1) else (min lo cs0.size, max hi (cs0.size + 1)))
      hR ho hat hro hkind hrow (by
       simp [World.freeze, Array.getElem?_modify, hrow]) (fun q hq => by
       simp [World.freeze, Array.getElem?_modify, Ne.symm hq]) (by simp [World.freeze]) (by
       right
       split
       ·exact Nat.le_refl _
       ·rename_i hne
        have : cs0.size ≤ lo := by
         rcases hfz with h | h
         ·exact absurd (beq_iff_eq.2 h.symm) hne
         ·exact h
        show cs0.size ≤ min lo cs0.size
        omega) rfl hsz (.inl ⟨hgen.symm, rfl, Nat.le_refl _, rfl⟩) hc ⟨rfl, rfl⟩
     refine ⟨.slice (some ⟨b0, base + off, none⟩) len k, m', by rw [w1]; exact hrun, w5, w6, ha.mono w6, by rw [w2]; rfl, by rw [w4]⟩
   ·cases h
  ·cases h
 ·cases h
end Go.Ac
