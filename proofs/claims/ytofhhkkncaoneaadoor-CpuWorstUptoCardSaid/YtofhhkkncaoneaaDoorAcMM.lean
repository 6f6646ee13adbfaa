/- The abstract machine: an operation that calls no function does in the model what the abstract machine says. No conditions. -/
import Derived.Test.YtofhhkkncaoneaaDoorAcBM
import Derived.Test.YtofhhkkncaoneaaDoorAcDM
import Derived.Test.YtofhhkkncaoneaaDoorAcGM
import Derived.Test.YtofhhkkncaoneaaDoorAcJM
import Derived.Test.YtofhhkkncaoneaaDoorAcLM
import Derived.Calls
import Derived.Orders
import Derived.Laws.World
import Derived.Laws.Sem
import Derived.Laws.Cells
import Derived.Laws.Append
import GoSem.ClaimData
import Derived.Laws.Tables
import Derived.Laws.Slices
import Derived.Laws.Strings
import Derived.Laws.Small
set_option linter.unusedVariables false
set_option linter.unusedSimpArgs false
section
set_option linter.unusedVariables false
set_option linter.unusedSimpArgs false
namespace Go.Ac
variable {P : Program} {S : Nat → Prop} {m : M}

/-! ### Nil -/

theorem run_eql {t : TypeId} {a y : Value} {b : Bool} {w : World} {op : BinOp} {e : Bool} (xo yo : Operand) (he : isEq op = some e) (hi : ∀ k n, a ≠ .int k n) (hf : ∀ k n, a ≠ .float k n) (hc : ∀ k n q, a ≠ .complex k n q) (hs : ∀ s, a ≠ .string s)
    (hn : a ≠ .nilIface) (hg : ∀ l, a ≠ .agg l) (h : (Op.equal t a y).run P w = .ok b w) : (eqGuard op t xo yo a y).run P w = .ok () w ∧ (binOp op t a y).run P w = .ok (.bool (b == e)) w := by
  unfold isEq at he
  constructor
  · unfold eqGuard
    cases op <;> simp at he <;> (cases a <;> first | rfl | exact absurd rfl (hn) | exact absurd rfl (hg _))
  · cases op <;> simp at he <;> subst he
    · cases a <;> first | exact absurd rfl (hi _ _) | exact absurd rfl (hf _ _) | exact absurd rfl (hc _ _ _) | exact absurd rfl (hs _) | (simp [binOp, h]; done)
    · cases a <;> first | exact absurd rfl (hi _ _) | exact absurd rfl (hf _ _) | exact absurd rfl (hc _ _ _) | exact absurd rfl (hs _) | (simp [binOp, h]; done)

theorem run_equal {t : TypeId} {a y : Value} {b : Bool} {w : World} (h : ∀ n, (Op.equalIn (n + 1) t a y).run P w = .ok b w) : (Op.equal t a y).run P w = .ok b w := h 9999

theorem nilR_sound [Gl] {op : BinOp} {t : TypeId} {i : TI} {x : V} {r : Res} {xo y : Operand} {a b : Value} {c : Nat} (hi : mkTI P t = some i) (hb : ∀ v, y = .const v → b = v)
    (h : nilR m.h op i.k y x = some r) (hR : Rel S m) (ha : RV S m x a) :
    ∃ z, (eqGuard op t xo y a b).run P m.w = .ok () m.w ∧ (binOp op t a b).run P m.w = .ok z m.w ∧ After S m c r z m := by
  obtain ⟨inf, d, i1, i2, i3, _⟩ := mkTI_spec hi
  unfold nilR at h
  split at h
  · rename_i e bb rd he hn
    simp only [Option.some.injEq] at h; subst h
    suffices hq : (Op.equal t a b).run P m.w = .ok bb m.w ∧ ((∃ p, a = .pointer p) ∨ (∃ p, a = .map p) ∨ ∃ p l c, a = .slice p l c) by
      obtain ⟨h1, h2⟩ := hq
      obtain ⟨g1, g2⟩ := run_eql (P := P) xo y he (a := a) (by rcases h2 with ⟨_, rfl⟩ | ⟨_, rfl⟩ | ⟨_, _, _, rfl⟩ <;> (intros; simp)) (by rcases h2 with ⟨_, rfl⟩ | ⟨_, rfl⟩ | ⟨_, _, _, rfl⟩ <;> (intros; simp))
        (by rcases h2 with ⟨_, rfl⟩ | ⟨_, rfl⟩ | ⟨_, _, _, rfl⟩ <;> (intros; simp)) (by rcases h2 with ⟨_, rfl⟩ | ⟨_, rfl⟩ | ⟨_, _, _, rfl⟩ <;> (intros; simp)) (by rcases h2 with ⟨_, rfl⟩ | ⟨_, rfl⟩ | ⟨_, _, _, rfl⟩ <;> simp)
        (by rcases h2 with ⟨_, rfl⟩ | ⟨_, rfl⟩ | ⟨_, _, _, rfl⟩ <;> (intros; simp)) h1
      exact ⟨_, g1, g2, After.quiet hR (.d (.bool _))⟩
    unfold nilV at hn
    split at hn
    · rename_i hk
      rw [hk] at i3
      obtain ⟨el, rfl⟩ := mkTK_ptr i3
      obtain rfl := hb _ rfl
      have np : ∀ p, (Op.equal t (.pointer (some p)) (.pointer none)).run P m.w = .ok false m.w := fun p => by
        exact run_equal fun n => by simp [Op.equalIn, run_underlying i2]
      split at hn
      · simp at hn; obtain ⟨rfl, rfl⟩ := hn; cases ha
        exact ⟨by exact run_equal fun n => by simp [Op.equalIn, run_underlying i2], .inl ⟨_, rfl⟩⟩
      · split at hn
        · rename_i o hl
          simp at hn; obtain ⟨rfl, rfl⟩ := hn
          obtain ⟨_, _, b, base, _, rfl⟩ := ha.ptr_live hl
          exact ⟨np _, .inl ⟨_, rfl⟩⟩
        · simp at hn
      · simp at hn; obtain ⟨rfl, rfl⟩ := hn; cases ha
        exact ⟨np _, .inl ⟨_, rfl⟩⟩
      · simp at hn
    · rename_i kt et hk
      rw [hk] at i3
      have := mkTK_map i3; subst this
      obtain rfl := hb _ rfl
      split at hn
      · simp at hn; obtain ⟨rfl, rfl⟩ := hn; cases ha
        exact ⟨by exact run_equal fun n => by simp [Op.equalIn, run_underlying i2], .inr (.inl ⟨_, rfl⟩)⟩
      · split at hn
        · rename_i o hl
          simp at hn; obtain ⟨rfl, rfl⟩ := hn
          obtain ⟨_, _, _, b, _, rfl⟩ := ha.mp_live hl
          exact ⟨by exact run_equal fun n => by simp [Op.equalIn, run_underlying i2], .inr (.inl ⟨_, rfl⟩)⟩
        · simp at hn
      · simp at hn
    · rename_i et sz by_ l c hk
      rw [hk] at i3
      obtain ⟨rfl, _⟩ := mkTK_slice i3
      obtain rfl := hb _ rfl
      have ns : ∀ p n k, (Op.equal t (.slice (some p) n k) (.slice none l c)).run P m.w = .ok false m.w := fun p n k => by
        exact run_equal fun n => by simp [Op.equalIn, run_underlying i2]
      split at hn
      · simp at hn; obtain ⟨rfl, rfl⟩ := hn
        cases ha with
        | d hd => cases hd; exact ⟨ns _ _ _, .inr (.inr ⟨_, _, _, rfl⟩)⟩
      · split at hn
        · rename_i o hl hlen
          simp at hn; obtain ⟨rfl, rfl⟩ := hn
          obtain ⟨_, _, hok⟩ := ha.osl_live hl
          unfold OslOK at hok
          rw [Nat.blt_eq] at hlen
          split at hok
          · omega
          · obtain ⟨p, k, rfl, _⟩ := hok
            exact ⟨ns _ _ _, .inr (.inr ⟨_, _, _, rfl⟩)⟩
        · simp at hn
      · simp at hn
    · simp at hn
  · simp at h

theorem checkNil_sound [Gl] {x : V} {r : Res} {σ : Operand → Value} {xo : Operand} {dst : Option Tmp} {ty : TypeId} {pos : String} {af : Array Edge} {gd : Option (Nat × Bool)} {c : Nat} (h : checkNil m.h x = some r) (hR : Rel S m) (ha : RV S m x (σ xo)) :
    (execOp σ ⟨dst, .nilCheck xo, ty, pos, af, gd⟩).run P m.w = .ok (.value (σ xo)) m.w ∧ After S m c r (σ xo) m := by
  unfold checkNil at h
  split at h
  · rename_i id g off
    split at h
    · rename_i o hl
      simp [retR] at h; subst h
      obtain ⟨_, _, b, base, _, e⟩ := ha.ptr_live hl
      exact ⟨by simp [execOp, e], After.quiet hR ha⟩
    · simp at h
  · simp [ret] at h; subst h
    refine ⟨?_, After.quiet hR ha⟩
    generalize hv : σ xo = v at ha
    cases ha
    simp [execOp, hv]
  · rename_i f cs
    simp [ret] at h; subst h
    refine ⟨?_, After.quiet hR ha⟩
    generalize hv : σ xo = v at ha
    cases ha
    simp [execOp, hv]
  · simp at h

/-! ### Strings, letter by letter -/

theorem rangeV_sound [Gl] {t : TypeId} {i : TI} {x : V} {r : Res} {a : Value} {n c : Nat} (hi : mkTI P t = some i) (h : rangeV n c i x = some r) (hR : Rel S m) (hf : Fresh m c r.dc) (ha : RV S m x a) :
    ∃ z m', (Instr.range t a).run P m.w = .ok z m'.w ∧ After S m c r z m' := by
  obtain ⟨inf, d, i1, i2, i3, _⟩ := mkTI_spec hi
  unfold rangeV at h
  split at h
  · rename_i s
    split at h
    · rename_i hk
      rw [hk] at i3
      have := mkTK_str i3; subst this
      simp only [Option.some.injEq] at h; subst h
      cases ha with
      | d hd =>
        cases hd with
        | str bs l hbs =>
          obtain ⟨m', w1, w2, w3, w4, w5, w6⟩ := alloc_sp (id := n) (o' := ⟨c, false, [.itc s 0]⟩) (c := c) (ob := .stringIter bs 0) (w' := { m.w with heap := m.w.heap.push (.stringIter bs 0) }) hR rfl trivial
            (hf n c (Nat.le_refl _) (by simp)) rfl (fun m' _ hm => ⟨rfl, bs, hm, hbs⟩)
          refine ⟨.pointer (some ⟨m.w.heap.size, 0, none⟩), m', ?_, w5, w6, .it (by rw [w4]; exact .inr ⟨Nat.le_refl _, by omega⟩) rfl fun o ho hg => ?_, by rw [w2]; rfl, w4⟩
          · rw [w1]
            simp [Instr.range, run_underlying i2, newObj, Sem.run]
          · rw [w2, upd_same] at ho
            simp only [Option.some.injEq] at ho; subst ho
            exact ⟨rfl, m.w.heap.size, by rw [w3, upd_same], rfl⟩
    · simp at h
  · simp at h

theorem nextV_sound [Gl] {ty : TypeId} {x : V} {r : Res} {a : Value} {c : Nat} (h : nextV m.h x = some r) (hR : Rel S m) (ha : RV S m x a) :
    ∃ z m', (Instr.next a true ty).run P m.w = .ok z m'.w ∧ After S m c r z m' := by
  unfold nextV at h
  split at h
  · rename_i id g
    split at h
    · rename_i o hl
      split at h
      · rename_i s pos hro hc
        obtain ⟨ho, hg, hkd, b, hat, rfl⟩ := ha.it_live hl
        have hrow := (hR.obj id o b 0 ho hat).2
        rw [hc] at hrow
        obtain ⟨_, bs, he, hbs⟩ := hrow
        have hsz : bs.size = s.length := by rw [← hbs, Array.length_toList]; rfl
        have hbs2 : (⟨s.toArray⟩ : ByteArray) = bs := by
          cases bs with
          | mk dat => simp only at hbs; subst hbs; simp
        rw [hbs2] at h
        split at h
        · rename_i hlt
          rw [Nat.blt_eq] at hlt
          simp only [Option.some.injEq] at h; subst h
          generalize hdec : Utf8.decode bs pos = q
          obtain ⟨q1, q2⟩ := q
          simp only [hdec]
          obtain ⟨m', w1, w2, w3, w4, w5, w6⟩ := write_sp (id := id) (o := o) (o' := ⟨g, false, [.itc s (pos + q2)]⟩) (b := b) (c := c) (ob := .stringIter bs pos) (ob' := .stringIter bs (pos + q2)) (w' := { m.w with heap := m.w.heap.setIfInBounds b (.stringIter bs (pos + q2)) })
            hR ho hat hro he trivial trivial rfl hg.symm (by rw [hc]; rfl) (by rw [hc]; simp) (fun m' _ hm => ⟨rfl, bs, hm, hbs⟩)
          refine ⟨.tuple #[.bool true, goInt pos, .int .i32 q1], m', ?_, w5, w6, ?_, by rw [w2]; rfl, by rw [w4]; exact (iss_zero m c).symm⟩
          · rw [w1]
            have hlt' : pos < bs.size := by omega
            simp [Instr.next, getObj, setObj, Sem.run, he, hlt', hdec]
          · refine .tuple rfl fun j u y hu hy => ?_
            rcases j with _ | _ | _ | j
            · simp at hu hy; subst hu; subst hy; exact .d (.bool _)
            · simp at hu hy; subst hu; subst hy; exact .d (.int _ _)
            · simp at hu hy; subst hu; subst hy; exact .d (.int _ _)
            · simp at hu
        · rename_i hlt
          have hlt' : ¬ pos < bs.size := by
            rw [hsz]; intro hh
            rw [← Nat.blt_eq] at hh; rw [hh] at hlt; cases hlt
          simp only [Option.some.injEq] at h; subst h
          refine ⟨.tuple #[.bool false], m, ?_, After.quiet hR (.tuple rfl fun j u y hu hy => ?_)⟩
          · simp [Instr.next, getObj, setObj, Sem.run, he, hlt']
          · rcases j with _ | j
            · simp at hu hy; subst hu; subst hy; exact .d (.bool _)
            · simp at hu
      · simp at h
    · simp at h
  · simp at h

/-! ### Maps -/

theorem ba_beq (s1 s2 : ByteArray) : (s1 == s2) = (s1.data == s2.data) := by cases s1; cases s2; rfl

theorem keyOK_int {tk : TK} {k : IntKind} {n : Int} (h : keyOK tk (.int k n) = true) : tk = .int k := by
  cases tk <;> simp [keyOK] at h
  rw [h]
theorem keyOK_str {tk : TK} {s : List UInt8} (h : keyOK tk (.str s) = true) : tk = .str := by
  cases tk <;> simp [keyOK] at h
  rfl
theorem keyOK_bool {tk : TK} {b : Bool} (h : keyOK tk (.bool b) = true) : tk = .bool := by
  cases tk <;> simp [keyOK] at h
  rfl
theorem keyOK_slice {tk : TK} {l : List (List D)} (h : keyOK tk (.slice l) = true) : False := by
  cases tk <;> simp [keyOK] at h

theorem keyEq_sound {w : World} {av : Nat → Prop} {k : TK} {d : TypeDesc} {a b : D} {x y : Value} {q : Bool} (hd : mkTK P d = some k) (hk : keyOK k a = true) (h : keyEq a b = some q) (hx : RD w av a x) (hy : RD w av b y) : Instr.sameNow d x y = some q := by
  unfold keyEq at h
  split at h
  · cases hx; cases hy
    split at h
    · rename_i e; subst e
      simp at h; subst h
      have := keyOK_int hk; subst this
      have := mkTK_int hd; subst this
      simp [Instr.sameNow]
    · simp at h
  · cases hx with
    | str s1 l1 h1 =>
      cases hy with
      | str s2 l2 h2 =>
        simp at h; subst h
        have := keyOK_str hk; subst this
        have := mkTK_str hd; subst this
        simp only [Instr.sameNow, Option.some.injEq]
        rw [← h1, ← h2]
        by_cases hs : s1 = s2
        · subst hs
          rw [ba_beq, beq_self_eq_true, beq_self_eq_true]
        · have : ¬ s1.data.toList = s2.data.toList := fun he => hs (by
            cases s1; cases s2; simp at he; subst he; rfl)
          have h3 : ¬ s1.data = s2.data := fun he => this (by rw [he])
          rw [ba_beq, beq_eq_false_iff_ne.2 h3, beq_eq_false_iff_ne.2 this]
  · cases hx; cases hy
    simp at h; subst h
    have := keyOK_bool hk; subst this
    have := mkTK_bool hd; subst this
    simp [Instr.sameNow]
  · simp at h

theorem findV_sound {w : World} {av : Nat → Prop} {tk : TK} {d : TypeDesc} {k : D} {x : Value} (hd : mkTK P d = some tk) (hk : keyOK tk k = true) (hx : RD w av k x) :
    ∀ {ks : List D} {es : List MapEntry} {j : Nat} {q : Option Nat}, ks.length = es.length → (∀ (i : Nat) (u : D) (e : MapEntry), ks[i]? = some u → es[i]? = some e → RD w av u e.key) → findV k ks j = some q →
      match q with
      | none => Instr.findNow d x es j = some none
      | some i => j ≤ i ∧ ∃ e, es[i - j]? = some e ∧ Instr.findNow d x es j = some (some (i, e.val))
  | [], es, j, q, hl, hr, h => by
    have : es = [] := List.length_eq_zero_iff.1 (by simpa using hl.symm)
    subst this
    simp [findV] at h; subst h
    rfl
  | u :: ks, [], j, q, hl, hr, h => by simp at hl
  | u :: ks, e :: es, j, q, hl, hr, h => by
    simp only [findV] at h
    have hu := hr 0 u e rfl rfl
    split at h
    · rename_i hq
      simp at h; subst h
      refine ⟨Nat.le_refl _, e, by simp, ?_⟩
      simp only [Instr.findNow, keyEq_sound hd hk hq hx hu]
    · rename_i hq
      have ih := findV_sound hd hk hx (ks := ks) (es := es) (j := j + 1) (q := q) (by simpa using hl) (fun i u e h1 h2 => hr (i + 1) u e (by simpa using h1) (by simpa using h2)) h
      have hstep : Instr.findNow d x (e :: es) j = Instr.findNow d x es (j + 1) := by simp only [Instr.findNow, keyEq_sound hd hk hq hx hu]
      cases q with
      | none => simp only at ih ⊢; rw [hstep]; exact ih
      | some i =>
        simp only at ih ⊢
        obtain ⟨h1, e', h2, h3⟩ := ih
        refine ⟨by omega, e', ?_, by rw [hstep]; exact h3⟩
        rw [show i - j = (i - (j + 1)) + 1 by omega]; simpa using h2
    · simp at h

theorem run_checkKey {kt : TypeId} {d : TypeDesc} {tk : TK} {k : D} {x : Value} {e : Bool} {w w' : World} {av : Nat → Prop} (h2 : P.underlying kt = some d) (hd : mkTK P d = some tk) (hk : keyOK tk k = true) (hx : RD w av k x) :
    (Instr.checkKey e 10000 kt x).run P w' = .ok () w' := by
  have gen : ∀ n, (Instr.checkKey e (n + 1) kt x).run P w' = .ok () w' := by
    intro n
    cases hx with
    | int q i => have := keyOK_int hk; subst this; have := mkTK_int hd; subst this; simp [Instr.checkKey, run_underlying h2]
    | str s l h => have := keyOK_str hk; subst this; have := mkTK_str hd; subst this; simp [Instr.checkKey, run_underlying h2]
    | bool b => have := keyOK_bool hk; subst this; have := mkTK_bool hd; subst this; simp [Instr.checkKey, run_underlying h2]
    | empty a cap h => exact (keyOK_slice hk).elim
    | slice => exact (keyOK_slice hk).elim
  exact gen 9999

theorem run_findKey {kt : TypeId} {d : TypeDesc} {x : Value} {es : List MapEntry} {q : Option (Nat × Value)} {w : World} (h2 : P.underlying kt = some d) (h : Instr.findNow d x es 0 = some q) : (Instr.findKey kt x es).run P w = .ok q w := by
  simp [Instr.findKey, run_underlying h2, h]

theorem zeroT_sound {et : TypeId} {z : V} (w : World) (h : zeroT P et = some z) : ∃ v, (zeroValue et).run P w = .ok v w ∧ RV S m z v := by
  unfold zeroT at h
  split at h
  · rename_i i hi
    rw [Option.map_eq_some_iff] at h
    obtain ⟨v, hv, rfl⟩ := h
    exact ⟨v, by simp [zeroValue, typeInfo, hi, hv], constV_RV v⟩
  · simp at h

theorem lookupV_sound [Gl] {t kt et : TypeId} {i ki : TI} {x k : V} {ok : Bool} {r : Res} {a b : Value} {c : Nat} (hi : mkTI P t = some i) (hk : i.k = .map kt et) (hki : mkTI P kt = some ki)
    (h : lookupV m.h ki (zeroT P et) x k ok = some r) (hR : Rel S m) (ha : RV S m x a) (hb : RV S m k b) :
    ∃ z, (Instr.lookup t a b ok).run P m.w = .ok z m.w ∧ After S m c r z m := by
  obtain ⟨inf, d, i1, i2, i3, _⟩ := mkTI_spec hi
  rw [hk] at i3
  have := mkTK_map i3; subst this
  obtain ⟨_, dk, _, k2, k3, _⟩ := mkTI_spec hki
  unfold lookupV at h
  split at h
  · rename_i kd z hz
    split at h
    · rename_i hok
      cases hb with
      | d hb =>
      obtain ⟨zv, z1, z2⟩ := zeroT_sound (P := P) (S := S) (m := m) m.w hz
      have res : ∀ {v : V} {y : Value} {q : Bool}, RV S m v y → RV S m (lookRes ok v q) (if ok then .tuple #[y, .bool q] else y) := by
        intro v y q hv
        cases ok with
        | false => exact hv
        | true =>
          refine .tuple rfl fun j u y' hu hy => ?_
          rcases j with _ | _ | j
          · simp at hu hy; subst hu; subst hy; exact hv
          · simp at hu hy; subst hu; subst hy; exact .d (.bool _)
          · simp at hu
      split at h
      · simp [ret] at h; subst h
        cases ha
        refine ⟨_, ?_, After.quiet hR (res z2)⟩
        have hf : (Instr.findKey kt b []).run P m.w = .ok none m.w := run_findKey (d := dk) k2 rfl
        simp [Instr.lookup, run_underlying i2, run_checkKey k2 k3 hok hb, hf, z1]
      · rename_i id g
        split at h
        · rename_i o hl
          split at h
          · rename_i ks vs bs cl hc
            obtain ⟨ho, hg, hkd, bl, hat, rfl⟩ := ha.mp_live hl
            have hrow := (hR.obj id o bl 0 ho hat).2
            rw [hc] at hrow
            obtain ⟨_, es, he, hm⟩ := hrow
            have hfind := fun q hq => findV_sound (P := P) (q := q) (es := es.toList) (ks := ks) (j := 0) k3 hok hb (by rw [hm.lk]; simp) (fun i u e h1 h2 => hm.key i u e h1 (by simpa using h2)) hq
            split at h
            · rename_i j hq
              obtain ⟨_, e, he1, he2⟩ := hfind _ hq
              split at h
              · rename_i v hv
                simp [retR] at h; subst h
                refine ⟨_, ?_, After.quiet hR (res (hm.val j v e hv (by simpa using he1)))⟩
                have hf := run_findKey (P := P) (w := m.w) k2 he2
                simp [Instr.lookup, run_underlying i2, getObj, Sem.run, he, run_checkKey k2 k3 hok hb, hf]
              · simp at h
            · rename_i hq
              simp [retR] at h; subst h
              have hf := run_findKey (P := P) (w := m.w) k2 (hfind _ hq)
              refine ⟨_, ?_, After.quiet hR (res z2)⟩
              simp [Instr.lookup, run_underlying i2, getObj, Sem.run, he, run_checkKey k2 k3 hok hb, hf, z1]
            · simp at h
          · simp at h
        · simp at h
      · simp at h
    · simp at h
  · simp at h

theorem sameBits_key {w : World} {av : Nat → Prop} {a : D} {tk : TK} {x y : Value} (hk : keyOK tk a = true) (hx : RD w av a x) (hy : RD w av a y) : Instr.sameBits 10000 x y = true := by
  have gen : ∀ n, Instr.sameBits (n + 1) x y = true := by
    intro n
    cases hx with
    | int q i => cases hy; simp [Instr.sameBits]
    | bool b => cases hy; simp [Instr.sameBits]
    | str s1 l1 h1 =>
      cases hy with
      | str s2 l2 h2 =>
        have : s1 = s2 := by cases s1; cases s2; simp at h1 h2; simp; apply Array.ext'; rw [h1, h2]
        subst this
        simp only [Instr.sameBits]
        rw [ba_beq]; exact beq_self_eq_true _
    | empty a cap h => exact (keyOK_slice hk).elim
    | slice => exact (keyOK_slice hk).elim
  exact gen 9999

theorem keyEq_same {a b : D} (h : keyEq a b = some true) : a = b := by
  unfold keyEq at h
  split at h
  · split at h
    · rename_i e; subst e; simp at h; subst h; rfl
    · simp at h
  · simp at h; subst h; rfl
  · simp at h; subst h; rfl
  · simp at h

theorem findV_key {k : D} : ∀ {ks : List D} {j i : Nat}, findV k ks j = some (some i) → j ≤ i ∧ ks[i - j]? = some k
  | [], j, i, h => by simp [findV] at h
  | u :: ks, j, i, h => by
    simp only [findV] at h
    split at h
    · rename_i hq
      simp at h; subst h
      exact ⟨Nat.le_refl _, by simp [keyEq_same hq]⟩
    · obtain ⟨h1, h2⟩ := findV_key h
      refine ⟨by omega, ?_⟩
      rw [show i - j = (i - (j + 1)) + 1 by omega]; simpa using h2
    · simp at h

theorem insertV_sound [Gl] {t kt et : TypeId} {i ki : TI} {mv k x : V} {r : Res} {a b y : Value} {c : Nat} (hi : mkTI P t = some i) (hk : i.k = .map kt et) (hki : mkTI P kt = some ki)
    (h : insertV m.h ki mv k x = some r) (hR : Rel S m) (ha : RV S m mv a) (hb : RV S m k b) (hx : RV S m x y) :
    ∃ m', (Instr.mapUpdate t a b y).run P m.w = .ok () m'.w ∧ After S m c r undef m' := by
  obtain ⟨inf, d, i1, i2, i3, _⟩ := mkTI_spec hi
  rw [hk] at i3
  have := mkTK_map i3; subst this
  obtain ⟨_, dk, _, k2, k3, _⟩ := mkTI_spec hki
  unfold insertV at h
  split at h
  · rename_i kd id g
    cases hb with
    | d hb =>
    split at h
    · rename_i o hok hl
      split at h
      · rename_i ks vs bs cl hro hc
        obtain ⟨ho, hg, hkd, bl, hat, rfl⟩ := ha.mp_live hl
        have hrow := (hR.obj id o bl 0 ho hat).2
        rw [hc] at hrow
        obtain ⟨_, es, he, hm⟩ := hrow
        have hfind := fun q hq => findV_sound (P := P) (q := q) (es := es.toList) (ks := ks) (j := 0) k3 hok hb (by rw [hm.lk]; simp) (fun i u e h1 h2 => hm.key i u e h1 (by simpa using h2)) hq
        split at h
        · rename_i j hq
          obtain ⟨_, e, he1, he2⟩ := hfind _ hq
          obtain ⟨_, hkj⟩ := findV_key hq
          simp only [Nat.sub_zero] at he1 hkj
          have hej : es[j]? = some e := by simpa using he1
          simp only [Option.some.injEq] at h; subst h
          obtain ⟨m', w1, w2, w3, w4, w5, w6⟩ := write_sp (id := id) (o := o) (o' := ⟨g, false, [.mpc ks (vs.set j x) bs cl]⟩) (b := bl) (c := c) (ob := .map es cl) (ob' := .map (es.modify j fun e => { e with key := b, val := y }) cl)
            (w' := { m.w with heap := m.w.heap.setIfInBounds bl (.map (es.modify j fun e => { e with key := b, val := y }) cl) })
            hR ho hat hro he trivial trivial rfl hg.symm (by rw [hc]; rfl) (by rw [hc]; simp) (fun m' e' hm' => by
              refine ⟨rfl, _, hm', ?_⟩
              have hm2 := hm.mono e'
              refine ⟨by simp [hm.lk], by simp [hm.lv], by simp [hm.lb], fun q u z hu hz => ?_, fun q u z hu hz => ?_, fun q u z hu hz => ?_⟩
              · rw [Array.getElem?_modify] at hz
                by_cases hjq : j = q
                · subst hjq
                  simp [hej] at hz; subst hz
                  rw [hkj] at hu; injection hu with hu; subst hu
                  exact hb.mono e'.keep
                · rw [if_neg hjq] at hz
                  exact hm2.key q u z hu hz
              · rw [Array.getElem?_modify] at hz
                by_cases hjq : j = q
                · subst hjq
                  simp [hej] at hz; subst hz
                  have hjl : j < vs.length := by rw [hm.lv]; exact (Array.getElem?_eq_some_iff.1 hej).1
                  simp [hjl] at hu; subst hu
                  exact hx.mono e'
                · rw [if_neg hjq] at hz
                  rw [List.getElem?_set, if_neg hjq] at hu
                  exact hm2.val q u z hu hz
              · rw [Array.getElem?_modify] at hz
                by_cases hjq : j = q
                · subst hjq
                  simp [hej] at hz; subst hz
                  exact hm.born j u e hu hej
                · rw [if_neg hjq] at hz
                  exact hm.born q u z hu hz)
          refine ⟨m', ?_, w5, w6, .undef, by rw [w2]; rfl, by rw [w4]; exact (iss_zero m c).symm⟩
          rw [w1]
          have hf := run_findKey (P := P) (w := m.w) k2 he2
          have hsb : Instr.sameBits 10000 e.key b = true := sameBits_key hok (hm.key j _ e hkj hej) hb
          simp [Instr.mapUpdate, run_underlying i2, getObj, setObj, Sem.run, he, run_checkKey k2 k3 hok hb, hf, Instr.keyThatStays, hej, hsb]
        · rename_i hq
          simp only [Option.some.injEq] at h; subst h
          obtain ⟨m', w1, w2, w3, w4, w5, w6⟩ := write_sp (id := id) (o := o) (o' := ⟨g, false, [.mpc (ks ++ [kd]) (vs ++ [x]) (bs ++ [cl]) (cl + 1)]⟩) (b := bl) (c := c) (ob := .map es cl) (ob' := .map (es.push { key := b, val := y, born := cl }) (cl + 1))
            (w' := { m.w with heap := m.w.heap.setIfInBounds bl (.map (es.push { key := b, val := y, born := cl }) (cl + 1)) })
            hR ho hat hro he trivial trivial rfl hg.symm (by rw [hc]; rfl) (by rw [hc]; simp) (fun m' e' hm' => by
              refine ⟨rfl, _, hm', ?_⟩
              have hm2 := hm.mono e'
              refine ⟨by simp [hm.lk], by simp [hm.lv], by simp [hm.lb], fun q u z hu hz => ?_, fun q u z hu hz => ?_, fun q u z hu hz => ?_⟩
              · rw [Array.getElem?_push] at hz
                by_cases hjq : q = es.size
                · subst hjq
                  simp at hz; subst hz
                  rw [List.getElem?_append_right (by rw [hm.lk]; exact Nat.le_refl _), hm.lk] at hu
                  simp at hu; subst hu
                  exact hb.mono e'.keep
                · rw [if_neg hjq] at hz
                  have hql : q < ks.length := by rw [hm.lk]; exact (Array.getElem?_eq_some_iff.1 hz).1
                  rw [List.getElem?_append_left hql] at hu
                  exact hm2.key q u z hu hz
              · rw [Array.getElem?_push] at hz
                by_cases hjq : q = es.size
                · subst hjq
                  simp at hz; subst hz
                  rw [List.getElem?_append_right (by rw [hm.lv]; exact Nat.le_refl _), hm.lv] at hu
                  simp at hu; subst hu
                  exact hx.mono e'
                · rw [if_neg hjq] at hz
                  have hql : q < vs.length := by rw [hm.lv]; exact (Array.getElem?_eq_some_iff.1 hz).1
                  rw [List.getElem?_append_left hql] at hu
                  exact hm2.val q u z hu hz
              · rw [Array.getElem?_push] at hz
                by_cases hjq : q = es.size
                · subst hjq
                  simp at hz; subst hz
                  rw [List.getElem?_append_right (by rw [hm.lb]; exact Nat.le_refl _), hm.lb] at hu
                  simp at hu; exact hu
                · rw [if_neg hjq] at hz
                  have hql : q < bs.length := by rw [hm.lb]; exact (Array.getElem?_eq_some_iff.1 hz).1
                  rw [List.getElem?_append_left hql] at hu
                  exact hm.born q u z hu hz)
          refine ⟨m', ?_, w5, w6, .undef, by rw [w2]; rfl, by rw [w4]; exact (iss_zero m c).symm⟩
          rw [w1]
          have hf := run_findKey (P := P) (w := m.w) k2 (hfind _ hq)
          simp [Instr.mapUpdate, run_underlying i2, getObj, setObj, Sem.run, he, run_checkKey k2 k3 hok hb, hf]
        · simp at h
      · simp at h
    · simp at h
  · simp at h

theorem makeMapV_sound [Gl] {t : TypeId} {n c : Nat} {r : Res} (h : makeMapV n c = some r) (hR : Rel S m) (hf : Fresh m c r.dc) : ∃ z m', (Instr.makeMap t none).run P m.w = .ok z m'.w ∧ After S m c r z m' := by
  simp only [makeMapV, Option.some.injEq] at h; subst h
  obtain ⟨m', w1, w2, w3, w4, w5, w6⟩ := alloc_sp (id := n) (o' := ⟨c, false, [.mpc [] [] [] 0]⟩) (c := c) (ob := .map #[] 0) (w' := { m.w with heap := m.w.heap.push (.map #[] 0) }) hR rfl trivial
    (hf n c (Nat.le_refl _) (by simp)) rfl (fun m' _ hm => ⟨rfl, #[], hm, ⟨rfl, rfl, rfl, fun j k e h => by simp at h, fun j k e h => by simp at h, fun j k e h => by simp at h⟩⟩)
  refine ⟨.map (some m.w.heap.size), m', ?_, w5, w6, .mp (by rw [w4]; exact .inr ⟨Nat.le_refl _, by omega⟩) rfl fun o ho hg => ?_, by rw [w2]; rfl, w4⟩
  · rw [w1]
    simp [Instr.makeMap, newObj, Sem.run]
  · rw [w2, upd_same] at ho
    simp only [Option.some.injEq] at ho; subst ho
    exact ⟨rfl, m.w.heap.size, by rw [w3, upd_same], rfl⟩

/-! ### Capacities, the greatest and the least, append of zeros -/

theorem capV_sound [Gl] {t ty : TypeId} {i : TI} {x : V} {r : Res} {v : Value} {c : Nat} (hti : mkTI P t = some i) (h : capV m.h i x = some r) (hR : Rel S m) (hv : RV S m x v) :
    ∃ z, (Builtin.cap_ #[t] ty #[v]).run P m.w = .ok z m.w ∧ After S m c r z m := by
  obtain ⟨inf, d, i1, i2, i3, _⟩ := mkTI_spec hti
  unfold capV at h
  split at h
  · rename_i rows
    split at h
    · rename_i e sz by_ hk
      rw [hk] at i3
      obtain ⟨rfl, jj, hj, hjs, _⟩ := mkTK_slice i3
      simp [ret] at h; subst h
      cases hv with
      | full hd => exact ⟨goInt rows.length, by simp [Builtin.cap_, run_underlying i2], After.quiet hR (.d (.int _ _))⟩
    · simp at h
  · rename_i id g off len sz q
    split at h
    · rename_i e sz' by_ o hk hl
      rw [hk] at i3
      obtain ⟨rfl, jj, hj, hjs, _⟩ := mkTK_slice i3
      simp [retR] at h; subst h
      obtain ⟨ho, hgen, hok⟩ := hv.osl_live hl
      unfold OslOK at hok
      split at hok
      · obtain ⟨_, _, h0, _⟩ := hok; cases h0
      · obtain ⟨p, k, rfl, _, _, _, _, _, rfl, _⟩ := hok
        exact ⟨goInt k, by simp [Builtin.cap_, run_underlying i2], After.quiet hR (.d (.int _ _))⟩
    · simp at h
  · simp at h

theorem maxI_sound [Gl] {mx : Bool} : ∀ {l : List V} {ys : List Value} {k : IntKind} {a : Int} {r : Res} {w : World} {c : Nat}, maxI mx k a l = some r → Rel S m → RVs S m l ys →
    ∃ z, (List.foldlM (if mx then Builtin.max2 else Builtin.min2) (.int k a) ys : Sem Value).run P w = .ok z w ∧ After S m c r z m
  | [], ys, k, a, r, w, c, h, hR, hv => by
    have : ys = [] := List.length_eq_zero_iff.1 (by have := hv.1; simpa using this.symm)
    subst this
    simp [maxI, ret] at h; subst h
    exact ⟨_, rfl, After.quiet hR (.d (.int _ _))⟩
  | v :: l, ys, k, a, r, w, c, h, hR, hv => by
    obtain ⟨x, xs, rfl, hx, hxs⟩ := hv.cases
    unfold maxI at h
    split at h
    · cases ‹_ = []›
    · rename_i q b l' e
      cases e
      have := hx.int_inv; subst this
      obtain ⟨z, g1, g2⟩ := maxI_sound (w := w) (c := c) h hR hxs
      refine ⟨z, ?_, g2⟩
      rw [List.foldlM_cons]
      cases mx with
      | true => simp only [if_true] at g1 ⊢; simp only [Sem.run_bind, Builtin.max2, Sem.run_pure, Result.andThen_ok]; exact g1
      | false => simp only [Bool.false_eq_true, if_false] at g1 ⊢; simp only [Sem.run_bind, Builtin.min2, Sem.run_pure, Result.andThen_ok]; exact g1
    · simp at h

theorem maxV_sound [Gl] {mx : Bool} {vs : List V} {xs : List Value} {ts : Array TypeId} {ty : TypeId} {r : Res} {c : Nat} (h : maxV mx vs = some r) (hR : Rel S m) (hv : RVs S m vs xs) :
    ∃ z, ((if mx then Builtin.max_ else Builtin.min_) ts ty xs.toArray).run P m.w = .ok z m.w ∧ After S m c r z m := by
  unfold maxV at h
  split at h
  · rename_i k a l
    obtain ⟨x, ys, rfl, hx, hys⟩ := hv.cases
    have := hx.int_inv; subst this
    obtain ⟨z, g1, g2⟩ := maxI_sound (P := P) (w := m.w) (c := c) h hR hys
    refine ⟨z, ?_, g2⟩
    cases mx with
    | true => simpa [Builtin.max_] using g1
    | false => simpa [Builtin.min_] using g1
  · simp at h

theorem appendNV_sound [Gl] {n c : Nat} {t u ty e sz by_ : Nat} {i j : TI} {s x : V} {kk : IntKind} {r : Res} {v y : Value} (hi : mkTI P t = some i) (hk : i.k = .slice e sz by_) (hj : mkTI P u = some j) (hjk : j.k = .int kk)
    (h : appendNV n c i (mkTI P e) s x = some r) (hR : Rel S m) (hf : Fresh m c r.dc) (hv : RV S m s v) (hy : RV S m x y) : ∃ z m', (Builtin.append_ #[t, u] ty #[v, y]).run P m.w = .ok z m'.w ∧ After S m c r z m' := by
  obtain ⟨inf, d, h1, h2, h3, _⟩ := mkTI_spec hi
  rw [hk] at h3
  obtain ⟨rfl, j0, hj0, hjs, hjb⟩ := mkTK_slice h3
  obtain ⟨_, du, _, u2, u3, _⟩ := mkTI_spec hj
  rw [hjk] at u3
  have := mkTK_int u3; subst this
  unfold appendNV at h
  rw [hk] at h
  split at h
  · rename_i e' sz' by' q ei hk' hei
    obtain ⟨rfl, rfl, rfl⟩ : e = e' ∧ sz = sz' ∧ by_ = by' := by injection hk' with a1 a2 a3; exact ⟨a1, a2, a3⟩
    split at h
    · rename_i z hz
      split at h
      · rename_i hc
        obtain ⟨c1, c2, c3, c4, c5, c6⟩ := hc
        simp only [Option.some.injEq] at h; subst h
        have hyv := hy.int_inv; subst hyv
        obtain ⟨zv, g1, g2, g3⟩ := zero_spec hei hz m.w
        have hz0 : j0.zero = some zv := by simpa [hj0] using g3
        have hzs : zv.cells.size = sz := by rw [← c4, g2]; simp
        obtain ⟨b1, b2, b3⟩ := fitsB_spec c2
        obtain ⟨hby, _⟩ := hjb b1
        obtain ⟨a, rfl⟩ : ∃ a, v = .slice a 0 0 := by cases hv; exact ⟨_, rfl⟩
        have hwrap : IntKind.i64.wrap q = q := by
          simp [IntKind.wrap, IntKind.signed, IntKind.bits]; omega
        obtain ⟨hcap1, hcap2⟩ := grown_le m.w (need := q.toNat) (old := 0) (e := e) (by omega)
        have hrun : (Builtin.append_ #[t, u] ty #[.slice a 0 0, .int .i64 q]).run P m.w = .ok (.slice (some ⟨m.w.heap.size, 0, none⟩) q.toNat (grownCap m.w q.toNat 0 e))
            (m.w.drew.alloc (.cells (Builtin.zeroCells zv.cells q.toNat ++ Builtin.zeroCells zv.cells (grownCap m.w q.toNat 0 e - q.toNat)) e)) := by
          have n1 : ¬ q < 0 := by omega
          have n2 : ¬ (281474976710656 < q * (j0.bytes : Int)) := by
            rw [hby]
            have : q * (by_ : Int) = ((q.toNat * by_ : Nat) : Int) := by rw [Int.natCast_mul]; congr 1; omega
            rw [this]; omega
          have n3 : ¬ (q.toNat ≤ 0) := by omega
          have n4 : ¬ (q.toNat * j0.size = 0) := by
            rw [hjs]; intro h0
            rcases Nat.mul_eq_zero.1 h0 with h0 | h0 <;> omega
          have n5 : ¬ ((q.toNat : Int) > IntKind.i64.max) := by
            simp [IntKind.max, IntKind.signed, IntKind.bits]; omega
          have n6 : Builtin.nextslicecap q.toNat 0 = q.toNat := by unfold Builtin.nextslicecap; rw [if_pos (by omega)]
          have n7 : ¬ (281474976710656 < q.toNat * j0.bytes) := by rw [hby]; omega
          have hfo : (Builtin.firstCells j0.size 0 (.slice a 0 0)).run P m.w.drew = .ok #[] m.w.drew := by
            have := first_run (P := P) (a := a) (n := 0) (k := 0) (sz := j0.size) (xs := []) m.w.drew (by simp) (fun _ => rfl) (fun p _ j y hy => by simp at hy) 0
            simpa using this
          simp only [Builtin.append_, List.getElem?_toArray, List.getElem?_cons_zero, List.getElem?_cons_succ]
          simp [run_underlying h2, run_underlying u2, sizeOf, typeInfo, zeroValue, hj0, hz0, asInt, asIntOf, hwrap, n1, n2, n3, n4, n5, n6, n7, Question.forced, hfo, newRow, grownCap]
          rw [if_neg (by omega), if_neg (by omega)]
        obtain ⟨m', w1, w2, w3, w4, w5, w6⟩ := alloc_obj (id := n) (o' := ⟨c, false, (List.replicate q.toNat z).flatten⟩) (c := c) (dc := 1) (T := e)
          (cs' := Builtin.zeroCells zv.cells q.toNat ++ Builtin.zeroCells zv.cells (grownCap m.w q.toNat 0 e - q.toNat))
          (w' := m.w.drew.alloc (.cells (Builtin.zeroCells zv.cells q.toNat ++ Builtin.zeroCells zv.cells (grownCap m.w q.toNat 0 e - q.toNat)) e)) hR rfl
          (by simp [zeroCells_size, hzs, c4]) (hf n c (Nat.le_refl _) (by simp)) rfl rfl (by
            intro jj u hu
            have hRV := zero_cells_RVs (S := S) (m := m) g2 q.toNat
            obtain ⟨yy, q1, q2⟩ := hRV.get hu
            refine ⟨List.all_eq_true.1 (all_replicate c6 q.toNat) u (List.mem_of_getElem? hu), yy, ?_, q2⟩
            have e1 : Builtin.zeroCells zv.cells q.toNat = ((List.replicate q.toNat zv.cells.toList).flatten).toArray := by
              unfold Builtin.zeroCells
              exact range_map_toArray _ _
            have hl : jj < ((List.replicate q.toNat zv.cells.toList).flatten).length := (List.getElem?_eq_some_iff.1 q1).1
            rw [Array.getElem?_append_left (by rw [e1]; simpa using hl), e1]
            simpa using q1)
        have hlen : ((List.replicate q.toNat z).flatten).length = q.toNat * sz := by
          rw [flatten_len sz _ (fun r hr => by rw [List.eq_of_mem_replicate hr]; exact c4)]; simp
        refine ⟨_, m', by rw [w1]; exact hrun, w5, w6, ?_, by rw [w2]; rfl, w4⟩
        refine .osl (by rw [w4]; exact .inr ⟨Nat.le_refl _, by omega⟩) rfl fun o ho hgen => ?_
        have hkk := (w5.obj n o m.w.heap.size 0 ho (by rw [w3]; exact upd_same _ _ _)).2.kind_at ⟨_, _, _, by rw [w1]; simp only [World.alloc]; exact Array.getElem?_push_size⟩
        rw [w2, upd_same] at ho
        simp only [Option.some.injEq] at ho; subst ho
        refine ⟨hkk, ?_⟩
        unfold OslOK
        rw [w3]
        simp only [upd_same]
        refine ⟨_, _, rfl, .inl rfl, by rw [hlen]; omega, hcap1, hcap2, ⟨_, e, (0, 0), by rw [w1]; simp only [World.alloc]; exact Array.getElem?_push_size, ?_⟩, trivial⟩
        simp only [Array.size_append, zeroCells_size, hzs]
        rw [← Nat.add_mul]
        have : q.toNat + (grownCap m.w q.toNat 0 e - q.toNat) = grownCap m.w q.toNat 0 e := by omega
        rw [this]; omega
      · simp at h
    · simp at h
  · simp at h

end Go.Ac
end

section
set_option linter.unusedVariables false
set_option linter.unusedSimpArgs false
namespace Go.Ac
variable {P : Program} {S : Nat → Prop} {m : M}

/-- What an operation gives in the model. -/
def Gives (P : Program) (σ : Operand → Value) (o : Oper) (w : World) (x : Value) (w' : World) : Prop :=
  (execOp σ o).run P w = .ok (.value x) w' ∨ ((execOp σ o).run P w = .ok .skip w' ∧ x = undef)

theorem buildSlice_sound [Gl] {t e sz by_ len : Nat} {i j : TI} {z cs : List V} {ps : Array (Nat × Operand)} {ρ : Operand → V} {σ : Operand → Value} {fz : Bool} {n c : Nat} {qs : List (Nat × V)} {ids : List Nat} (hi : mkTI P t = some i) (hk : i.k = .slice e sz by_) (hj : mkTI P e = some j) (hz : j.zero = some z)
    (hzl : z.length = sz) (hone : z.all V.one = true) (hpos : 0 < sz) (hsmall : len * sz ≤ 16777216) (hρ : ∀ x, RV S m (ρ x) (σ x)) (hR : Rel S m) (hf : Fresh m c 1)
    (hcp : closeParts m.h fz (ps.toList.map fun p => (p.1, ρ p.2)) = some (qs, ids)) (h : fillV (fun j => some (j * sz, sz)) (List.replicate len z).flatten qs = some cs) :
    ∃ x m', (Instr.buildSlice t len (ps.map fun p => (p.1, σ p.2))).run P m.w = .ok x m'.w ∧
      After S m c ⟨.osl n c 0 len sz (some len), roOf m.h ids ++ [(n, ⟨c, false, cs⟩)], ids, 1, 1, false⟩ x m' := by
  obtain ⟨inf, d, h1, h2, h3, _⟩ := mkTI_spec hi
  rw [hk] at h3
  obtain ⟨rfl, jj, hjj, hjs, _⟩ := mkTK_slice h3
  obtain ⟨r1, r2⟩ := parts_rel (S := S) (m := m) hρ ps.toList
  obtain ⟨m1, e1, hb⟩ := ros hR ids
  obtain ⟨r3, r4⟩ := closeParts_sound (fz := fz) hR hb hcp r1 r2 (fun i hi => hi)
  have hw : m1.w = m.w := hb.w
  obtain ⟨v, g1, g2, g3⟩ := zero_spec hj hz m.w
  have hlz : v.cells.size = sz := by rw [← hzl, g2]; simp
  obtain ⟨ys, k1, k2, k3, k4⟩ := fillV_sound (S := S) (m := m1) (xs := (List.replicate len v.cells.toList).flatten) h (zero_cells_RVs g2 len) (all_replicate hone len) r3 r4
  have hf1 : Fresh m1 c 1 := fun id g q1 q2 => by rw [hb.iss]; exact hf id g q1 q2
  have hcl : cs.length = len * sz := by
    rw [k4, flatten_len sz _ (fun r hr => by rw [List.eq_of_mem_replicate hr]; exact hzl)]; simp
  have hlen : len ≤ maxLen := by
    have : len * 1 ≤ len * sz := Nat.mul_le_mul_left _ hpos
    unfold maxLen; omega
  obtain ⟨m', w1, w2, w3, w4, w5, w6⟩ := osl_new (P := P) (T := e) (len := len) (cap := len) (sz := sz) (rd := ids) hb.rel hf1 k2 k3 hcl (Nat.le_refl _) hlen
  refine ⟨_, m', ?_, w2, hb.evo.trans w3, w4, ?_, ?_⟩
  · rw [hw] at w1
    rw [hw]
    have hk1 : Instr.fill (fun i => some (i * sz, sz)) ((Array.range (len * sz)).map (fun i => v.cells[i % v.cells.size]!)) (ps.map fun p => (p.1, σ p.2)).toList = some ys.toArray := by
      rw [← hlz, range_map_toArray, hlz, ← k1]
      simp
    simp only [Instr.buildSlice, Sem.run_bind, run_underlying h2, Result.andThen_ok, run_sizeOf' hjj, hjs, show ¬ (len * sz > 2 ^ 24) by omega, if_false, Sem.run_pure]
    by_cases h0 : len * sz = 0
    · simp only [h0, if_true, Sem.run_bind, Sem.run_pure, Result.andThen_ok]
      have : ∀ f : Nat → Value, Array.map f (Array.range 0) = #[] := fun f => by apply Array.ext'; simp
      rw [h0, this] at hk1
      rw [this]
      simp only [hk1, Sem.run_bind, w1, Result.andThen_ok, Sem.run_pure]
    · simp only [h0, if_false, Sem.run_bind, g1, Result.andThen_ok, Sem.run_pure, hk1, w1]
  · rw [w5, e1, hupd_append]
  · rw [w6, hb.iss]

theorem RVs.map {ρ : Operand → V} {σ : Operand → Value} (h : ∀ x, RV S m (ρ x) (σ x)) (l : List Operand) : RVs S m (l.map ρ) (l.map σ) := by
  refine ⟨by simp, fun j a b ha hb => ?_⟩
  rw [List.getElem?_map] at ha hb
  cases hp : l[j]? with
  | none => simp [hp] at ha
  | some p => simp [hp] at ha hb; subst ha; subst hb; exact h p

theorem builtinV_sound [Gl] {n c : Nat} {b : Builtin} {ts : Array TypeId} {ty : TypeId} {vs : List V} {xs : List Value} {r : Res} (h : builtinV P m.h n c b ts.toList vs = some r) (hR : Rel S m) (hf : Fresh m c r.dc) (hv : RVs S m vs xs) :
    ∃ x m', (∀ consts : Array Bool, (builtin b ts ty consts xs.toArray).run P m.w = .ok (.value x) m'.w) ∧ After S m c r x m' := by
  unfold builtinV at h
  split at h
  · rename_i t x hts
    simp only [Option.bind_eq_some_iff] at h
    obtain ⟨i, hi, h⟩ := h
    obtain ⟨v, ys, rfl, hx, hys⟩ := hv.cases
    have : ys = [] := List.length_eq_zero_iff.1 (by have := hys.1; simpa using this.symm)
    subst this
    obtain rfl : ts = #[t] := by apply Array.ext'; simpa using hts
    obtain ⟨z, g1, g2⟩ := lenV_sound (P := P) (ty := ty) (c := c) hi h hR hx
    exact ⟨z, m, fun _ => by simp [builtin, g1], g2⟩
  · rename_i t u s x hts
    split at h
    · rename_i htu; subst htu
      simp only [Option.bind_eq_some_iff] at h
      obtain ⟨i, hi, h⟩ := h
      obtain ⟨v, ys, rfl, hs, hys⟩ := hv.cases
      obtain ⟨y, ys, rfl, hx, hys⟩ := hys.cases
      have : ys = [] := List.length_eq_zero_iff.1 (by have := hys.1; simpa using this.symm)
      subst this
      obtain rfl : ts = #[t, t] := by apply Array.ext'; simpa using hts
      obtain ⟨z, m', g1, g2⟩ := appendV_sound (P := P) (ty := ty) hi h hR hf hs hx
      exact ⟨z, m', fun _ => by simp [builtin, g1], g2⟩
    · obtain ⟨v, ys, rfl, hs, hys⟩ := hv.cases
      obtain ⟨y, ys, rfl, hx, hys⟩ := hys.cases
      have : ys = [] := List.length_eq_zero_iff.1 (by have := hys.1; simpa using this.symm)
      subst this
      obtain rfl : ts = #[t, u] := by apply Array.ext'; simpa using hts
      split at h
      · rename_i i j hi hj
        split at h
        · rename_i e sz by_ kk hk hjk
          obtain ⟨z, m', g1, g2⟩ := appendNV_sound (P := P) (ty := ty) hi hk hj hjk h hR hf hs hx
          exact ⟨z, m', fun _ => by simp [builtin, g1], g2⟩
        · simp at h
      · simp at h
  · rename_i t x hts
    simp only [Option.bind_eq_some_iff] at h
    obtain ⟨i, hi, h⟩ := h
    obtain ⟨v, ys, rfl, hx, hys⟩ := hv.cases
    have : ys = [] := List.length_eq_zero_iff.1 (by have := hys.1; simpa using this.symm)
    subst this
    obtain rfl : ts = #[t] := by apply Array.ext'; simpa using hts
    obtain ⟨z, g1, g2⟩ := capV_sound (P := P) (ty := ty) (c := c) hi h hR hx
    exact ⟨z, m, fun _ => by simp [builtin, g1], g2⟩
  · obtain ⟨z, g1, g2⟩ := maxV_sound (P := P) (mx := true) (ts := ts) (ty := ty) (c := c) h hR hv
    exact ⟨z, m, fun _ => by simp only [if_true] at g1; simp [builtin, g1], g2⟩
  · obtain ⟨z, g1, g2⟩ := maxV_sound (P := P) (mx := false) (ts := ts) (ty := ty) (c := c) h hR hv
    exact ⟨z, m, fun _ => by simp only [Bool.false_eq_true, if_false] at g1; simp [builtin, g1], g2⟩
  · rename_i t u s x hts
    split at h
    · rename_i htu; subst htu
      simp only [Option.bind_eq_some_iff] at h
      obtain ⟨i, hi, h⟩ := h
      obtain ⟨v, ys, rfl, hs, hys⟩ := hv.cases
      obtain ⟨y, ys, rfl, hx, hys⟩ := hys.cases
      have : ys = [] := List.length_eq_zero_iff.1 (by have := hys.1; simpa using this.symm)
      subst this
      obtain rfl : ts = #[t, t] := by apply Array.ext'; simpa using hts
      obtain ⟨z, m', g1, g2⟩ := copyV_sound (P := P) (ty := ty) (c := c) hi h hR hs hx
      exact ⟨z, m', fun _ => by simp [builtin, g1], g2⟩
    · simp at h
  · simp at h

theorem step_sound [Gl] {o : Oper} {fz fs : Bool} {n c : Nat} {ρ : Operand → V} {σ : Operand → Value} {r : Res} (h : step P fz fs ρ m.h n c o.op = some r) (hσ : ∀ v, σ (.const v) = v) (hρ : ∀ x, RV S m (ρ x) (σ x)) (hR : Rel S m)
    (hf : Fresh m c r.dc) : ∃ x m', Gives P σ o m.w x m'.w ∧ After S m c r x m' := by
  obtain ⟨dst, op, ty, pos, after, guard⟩ := o
  cases op <;> simp only [step] at h <;> try (simp at h; done)
  case move x => simp [ret] at h; subst h; exact ⟨σ x, m, .inl (by simp [execOp]), After.quiet hR (hρ x)⟩
  case assign x => simp [ret] at h; subst h; exact ⟨σ x, m, .inl (by simp [execOp]), After.quiet hR (hρ x)⟩
  case pick q a b =>
    split at h
    · rename_i hq
      simp [ret] at h; subst h
      have := (hq ▸ hρ q).bool_inv
      exact ⟨σ a, m, .inl (by simp [execOp, this, asBool]), After.quiet hR (hρ a)⟩
    · rename_i hq
      simp [ret] at h; subst h
      have := (hq ▸ hρ q).bool_inv
      exact ⟨σ b, m, .inl (by simp [execOp, this, asBool]), After.quiet hR (hρ b)⟩
    · simp at h
  case alloc t =>
    split at h
    · rename_i i hi
      split at h
      · rename_i z hz
        split at h
        · rename_i hone
          obtain ⟨x, m', g1, g2⟩ := alloc_sound (P := P) hi hz hone h hR hf
          exact ⟨x, m', .inl (by simp [execOp, g1]), g2⟩
        · simp at h
      · simp at h
    · simp at h
  case box t x =>
    simp only [Option.bind_eq_some_iff] at h
    obtain ⟨cs, hcs, h⟩ := h
    obtain ⟨y, m', g1, g2⟩ := box_sound (P := P) (t := t) hcs h hR hf (hρ x)
    exact ⟨y, m', .inl (by simp [execOp, g1]), g2⟩
  case build t ps =>
    split at h
    · rename_i i hi
      split at h
      · rename_i z fs hz hk
        split at h
        · rename_i hone
          simp only [Option.bind_eq_some_iff] at h
          obtain ⟨cs, hcs, h⟩ := h
          simp [ret] at h; subst h
          obtain ⟨ys, g1, g2⟩ := build_sound (P := P) hi hz hone (.inl ⟨fs, hk, rfl⟩) hcs hρ
          exact ⟨_, m, .inl (by simp [execOp, g1]), After.quiet hR g2.agg⟩
        · simp at h
      · rename_i z n' e sz ag hz hk
        split at h
        · rename_i hone
          simp only [Option.bind_eq_some_iff] at h
          obtain ⟨cs, hcs, h⟩ := h
          simp [ret] at h; subst h
          obtain ⟨ys, g1, g2⟩ := build_sound (P := P) hi hz hone (.inr ⟨_, _, _, _, hk, rfl⟩) hcs hρ
          exact ⟨_, m, .inl (by simp [execOp, g1]), After.quiet hR g2.agg⟩
        · simp at h
      · simp at h
    · simp at h
  case buildSlice t len ps =>
    split at h
    · rename_i i hi
      split at h
      · rename_i e sz by_ hk
        split at h
        · rename_i j hj
          split at h
          · rename_i z hz
            split at h
            · rename_i hcond
              split at h
              · rename_i qs ids hcp
                simp only [Option.bind_eq_some_iff] at h
                obtain ⟨cs, hcs, h⟩ := h
                simp only [Option.some.injEq] at h; subst h
                obtain ⟨x, m', g1, g2⟩ := buildSlice_sound (P := P) hi hk hj hz hcond.1 hcond.2.1 hcond.2.2.1 hcond.2.2.2 hρ hR hf hcp hcs
                exact ⟨x, m', .inl (by simp [execOp, g1]), g2⟩
              · simp at h
            · simp at h
          · simp at h
        · simp at h
      · simp at h
    · simp at h
  case load t a =>
    simp only [Option.bind_eq_some_iff] at h
    obtain ⟨i, hi, h⟩ := h
    obtain ⟨x, g1, g2⟩ := loadV_sound (P := P) (c := c) hi h rfl hR (hρ a)
    exact ⟨x, m, .inl (by simp [execOp, g1]), g2⟩
  case store t a x =>
    simp only [Option.bind_eq_some_iff] at h
    obtain ⟨i, hi, h⟩ := h
    obtain ⟨m', g1, g2⟩ := storeV_sound (P := P) (c := c) hi h hR (hρ a) (hρ x)
    exact ⟨undef, m', .inr ⟨by simp [execOp, g1], rfl⟩, g2⟩
  case nilCheck x =>
    obtain ⟨g1, g2⟩ := checkNil_sound (P := P) (dst := dst) (ty := ty) (pos := pos) (af := after) (gd := guard) (c := c) h hR (hρ x)
    exact ⟨σ x, m, .inl g1, g2⟩
  case range t x =>
    simp only [Option.bind_eq_some_iff] at h
    obtain ⟨i, hi, h⟩ := h
    obtain ⟨z, m', g1, g2⟩ := rangeV_sound (P := P) hi h hR hf (hρ x)
    exact ⟨z, m', .inl (by simp [execOp, g1]), g2⟩
  case next x b =>
    cases b with
    | false => simp at h
    | true =>
      obtain ⟨z, m', g1, g2⟩ := nextV_sound (P := P) (ty := ty) (c := c) h hR (hρ x)
      exact ⟨z, m', .inl (by simp [execOp, g1]), g2⟩
  case makeMap t q =>
    cases q with
    | some q => simp at h
    | none =>
      simp only at h
      split at h
      · split at h
        · obtain ⟨z, m', g1, g2⟩ := makeMapV_sound (P := P) (t := t) h hR hf
          exact ⟨z, m', .inl (by simp [execOp, g1]), g2⟩
        · simp at h
      · simp at h
  case lookup t x k ok =>
    split at h
    · rename_i i hi
      split at h
      · rename_i kt et hk
        split at h
        · rename_i ki hki
          obtain ⟨z, g1, g2⟩ := lookupV_sound (P := P) (c := c) hi hk hki h hR (hρ x) (hρ k)
          exact ⟨z, m, .inl (by simp [execOp, g1]), g2⟩
        · simp at h
      · simp at h
    · simp at h
  case mapUpdate t mv k x =>
    split at h
    · rename_i i hi
      split at h
      · rename_i kt et hk
        simp only [Option.bind_eq_some_iff] at h
        obtain ⟨ki, hki, h⟩ := h
        obtain ⟨m', g1, g2⟩ := insertV_sound (P := P) (c := c) hi hk hki h hR (hρ mv) (hρ k) (hρ x)
        exact ⟨undef, m', .inr ⟨by simp [execOp, g1], rfl⟩, g2⟩
      · simp at h
    · simp at h
  case insert t mv k x =>
    split at h
    · rename_i i hi
      split at h
      · rename_i kt et hk
        simp only [Option.bind_eq_some_iff] at h
        obtain ⟨ki, hki, h⟩ := h
        obtain ⟨m', g1, g2⟩ := insertV_sound (P := P) (c := c) hi hk hki h hR (hρ mv) (hρ k) (hρ x)
        exact ⟨undef, m', .inr ⟨by simp [execOp, g1], rfl⟩, g2⟩
      · simp at h
    · simp at h
  case binOp op t x y yt =>
    split at h
    · simp only [Option.bind_eq_some_iff] at h
      obtain ⟨i, hi, h⟩ := h
      obtain ⟨z, g1, g2, g3⟩ := nilR_sound (P := P) (xo := x) (y := y) (b := σ y) (c := c) hi (fun v hv => by rw [hv]; exact hσ v) h hR (hρ x)
      exact ⟨z, m, .inl (by simp [execOp, g1, g2]), g3⟩
    split at h
    · rename_i a b ha hb
      split at h
      · rename_i i hi
        split at h
        · rename_i hk
          obtain ⟨_, d, _, i2, i3, _⟩ := mkTI_spec hi
          rw [hk] at i3
          have := mkTK_bool i3; subst this
          simp only [Option.bind_eq_some_iff] at h
          obtain ⟨v, hv, h⟩ := h
          simp [ret] at h; subst h
          obtain ⟨z, g1, g2, g3⟩ := boolBin_sound (S := S) (m := m) (P := P) x y i2 hv
          have e1 := (ha ▸ hρ x).bool_inv
          have e2 := (hb ▸ hρ y).bool_inv
          exact ⟨z, m, .inl (by simp [execOp, e1, e2, g1, g2]), After.quiet hR g3⟩
        · simp at h
      · simp at h
    · simp only [Option.bind_eq_some_iff] at h
      obtain ⟨v, hv, h⟩ := h
      simp [ret] at h; subst h
      obtain ⟨z, g1, g2, g3⟩ := binV_sound (P := P) t x y hv (hρ x) (hρ y)
      exact ⟨z, m, .inl (by simp [execOp, g1, g2]), After.quiet hR g3⟩
  case unOp op t x =>
    simp only [Option.bind_eq_some_iff] at h
    obtain ⟨v, hv, h⟩ := h
    simp [ret] at h; subst h
    obtain ⟨z, g1, g2⟩ := unV_sound (P := P) hv (hρ x)
    exact ⟨z, m, .inl (by simp [execOp, g1]), After.quiet hR g2⟩
  case convert s t x =>
    split at h
    · rename_i i j hi hj
      simp only [Option.bind_eq_some_iff] at h
      obtain ⟨v, hv, h⟩ := h
      simp [ret] at h; subst h
      obtain ⟨z, g1, g2⟩ := convV_sound (P := P) hi hj hv (hρ x)
      exact ⟨z, m, .inl (by simp [execOp, g1]), After.quiet hR g2⟩
    · simp at h
  case makeFunc fn first caps =>
    cases fn <;> simp only [] at h <;> try (simp at h; done)
    split at h
    · rename_i f hfst
      simp [ret] at h; subst h
      have hfe : first = #[] := by simpa using hfst
      subst hfe
      refine ⟨_, m, .inl (by simp [execOp, Instr.makeFunc]; rfl), After.quiet hR ?_⟩
      have := RVs.map (S := S) (m := m) hρ caps.toList
      refine .fn (by simp) fun j a b ha hb => this.2 j a b ha ?_
      simpa using hb
    · simp at h
  case makeSlice t l q =>
    split at h
    · rename_i i hi
      split at h
      · rename_i e sz by_ hk
        obtain ⟨x, m', g1, g2⟩ := makeV_sound (P := P) hi hk h hR hf (hρ l) (hρ q)
        exact ⟨x, m', .inl (by simp [execOp, g1]), g2⟩
      · simp at h
    · simp at h
  case slice t x lo hi mx =>
    split at h
    · simp at h
    · rename_i hno
      simp only [Option.bind_eq_some_iff] at h
      obtain ⟨i, hti, h⟩ := h
      obtain ⟨z, g1, g2⟩ := sliceV_sound (P := P) (c := c) hti h hR (hρ x) (RO.map hρ lo) (RO.map hρ hi) (RO.map hρ mx) (by
        intro h1
        cases mx with
        | none => simp at h1
        | some q =>
          cases hi with
          | none => simp at hno
          | some p => rfl)
      exact ⟨z, m, .inl (by simp [execOp, g1]), g2⟩
  case fieldAddr t x f =>
    simp only [Option.bind_eq_some_iff] at h
    obtain ⟨i, hi, h⟩ := h
    obtain ⟨z, g1, g2⟩ := fieldAddrV_sound (P := P) (c := c) hi h hR (hρ x)
    exact ⟨z, m, .inl (by simp [execOp, g1]), g2⟩
  case field t x f =>
    simp only [Option.bind_eq_some_iff] at h
    obtain ⟨i, hi, h⟩ := h
    obtain ⟨z, g1, g2⟩ := fieldV_sound (P := P) (c := c) hi h hR (hρ x)
    exact ⟨z, m, .inl (by simp [execOp, g1]), g2⟩
  case indexAddr t x ix =>
    simp only [Option.bind_eq_some_iff] at h
    obtain ⟨i, hi, h⟩ := h
    obtain ⟨z, g1, g2⟩ := indexAddrV_sound (P := P) (c := c) hi h hR (hρ x) (hρ ix)
    exact ⟨z, m, .inl (by simp [execOp, g1]), g2⟩
  case index t x ix =>
    simp only [Option.bind_eq_some_iff] at h
    obtain ⟨i, hi, h⟩ := h
    obtain ⟨z, g1, g2⟩ := indexV_sound (P := P) (c := c) hi h hR (hρ x) (hρ ix)
    exact ⟨z, m, .inl (by simp [execOp, g1]), g2⟩
  case extract t ix =>
    split at h
    · rename_i vs ht
      simp only [Option.bind_eq_some_iff] at h
      obtain ⟨v, hv, h⟩ := h
      simp [ret] at h; subst h
      obtain ⟨xs, hxt, hxs⟩ := (ht ▸ hρ t).tuple_vals
      obtain ⟨x, g1, g2⟩ := hxs.get hv
      exact ⟨x, m, .inl (by simp [execOp, hxt, Instr.extract, g1]), After.quiet hR g2⟩
    · simp at h
  case call cl =>
    obtain ⟨callee, args, ts⟩ := cl
    cases callee <;> simp only [] at h <;> try (simp at h; done)
    rename_i b
    obtain ⟨x, m', g1, g2⟩ := builtinV_sound (P := P) (ty := ty) h hR hf (RVs.map hρ args.toList)
    refine ⟨x, m', .inl ?_, g2⟩
    have : (List.map σ args.toList).toArray = args.map σ := by apply Array.ext'; simp
    rw [this] at g1
    simp [execOp, resolve, invoke, g1]

end Go.Ac
end
