/- The abstract machine: one operation. No conditions. -/
import Derived.Test.YtkimfnammkljoaaGreatDoorAcJM
import Derived.Laws.Small
set_option linter.unusedVariables false
set_option linter.unusedSimpArgs false
section
namespace Go.Ac
variable {P : Program} {S : Nat → Prop} {m : M}

theorem idx_spec {i : Int} {n q : Nat} (h : idx i n = some q) : 0 ≤ i ∧ i < n ∧ q = i.toNat ∧ q < n := by
 unfold idx at h
 split at h
 ·rename_i hc; simp at h; exact ⟨hc.1, hc.2, h.symm, by omega⟩
 ·simp at h

theorem run_indexAt_s {t e : TypeId} {j : TypeInfo} {a : Addr} {len cap : Nat} {k : IntKind} {i : Int} {q : Nat} (w : World) (h2 : P.underlying t = some (.slice e)) (hj : P.info? e = some j) (hq : idx i len = some q) :
  (Instr.indexAt t (.slice (some a) len cap) (.int k i)).run P w = .ok (.pointer (some (a.add (q * j.size)))) w := by
 obtain ⟨h0, h1, rfl, _⟩ := idx_spec hq
 simp [Instr.indexAt, run_underlying h2, asIntOf, h0, h1, sizeOf, typeInfo, hj]

theorem RD.row [Gl] {w : World} {av : Nat → Prop} {rows : List (List D)} {v : Value} {q sz : Nat} {r : List D} (hd : RD w av (.slice rows) v) (hr : rows[q]? = some r) (hsz : r.length = sz) :
  ∃ b off k, v = .slice (some ⟨b, off, none⟩) rows.length k ∧ ∃ f : Nat → Value, (∀ (j : Nat) (d : D), r[j]? = some d → ¬ av b ∧ w.cell? ⟨b, off + q * sz + j, none⟩ = some (f j)) ∧ ∀ (j : Nat) (d : D), r[j]? = some d → RD w av d (f j) := by
 cases hd with
 | empty a cap h => simp at hr
 | slice rows b off cap sz' hlen hcap hs f hf hr' =>
  have : sz' = sz := by rw [← hs q r hr]; exact hsz
  subst this
  refine ⟨b, off, cap, rfl, f q, fun j d hj => ?_, fun j d hj => hr' q j r d hr hj⟩
  obtain ⟨h1, h2⟩ := hf q j r d hr hj
  exact ⟨h1, by rw [Nat.add_assoc]; exact h2⟩

theorem indexRows_sound [Gl] {t e : TypeId} {inf : TypeInfo} {rows : List (List D)} {sz q c : Nat} {v : Value} {k : IntKind} {i : Int} {r : Res} (h2 : P.underlying t = some (.slice e)) (hj : P.info? e = some inf) (hjs : inf.size = sz)
  (hq : idx i rows.length = some q) (h : indexRows rows sz q = some r) (hR : Rel S m) (hd : RD m.w (m.av S) (.slice rows) v) : ∃ z, (Instr.indexAt t v (.int k i)).run P m.w = .ok z m.w ∧ After S m c r z m := by
 unfold indexRows at h
 split at h
 ·rename_i row hrow
  split at h
  ·rename_i hb
   simp [ret] at h; subst h
   obtain ⟨b, off, kk, rfl, f, hf, hr⟩ := hd.row hrow (Nat.eq_of_beq_eq_true hb)
   refine ⟨_, run_indexAt_s m.w h2 hj hq, After.quiet hR ?_⟩
   rw [hjs, addr_add]
   exact .vref f hf hr
  ·simp at h
 ·simp at h

theorem indexAddrV_sound [Gl] {t : TypeId} {i : TI} {x ix : V} {r : Res} {v y : Value} {c : Nat} (hti : mkTI P t = some i) (h : indexAddrV m.h i x ix = some r) (hR : Rel S m) (hv : RV S m x v) (hy : RV S m ix y) :
  ∃ z, (Instr.indexAt t v y).run P m.w = .ok z m.w ∧ After S m c r z m := by
 obtain ⟨inf, d, i1, i2, i3, _⟩ := mkTI_spec hti
 unfold indexAddrV at h
 split at h
 ·rename_i k j
  obtain rfl : y = .int k j := by
   cases hy with
   | d hd => cases hd; rfl
  split at h
  ·rename_i e sz by_ rows hk
   rw [hk] at i3
   obtain ⟨rfl, jj, hj, hjs, _⟩ := mkTK_slice i3
   simp only [Option.bind_eq_some_iff] at h
   obtain ⟨q, hq, hr⟩ := h
   cases hv with
   | d hd => exact indexRows_sound i2 hj hjs hq hr hR hd
  ·rename_i e sz by_ rows hk
   rw [hk] at i3
   obtain ⟨rfl, jj, hj, hjs, _⟩ := mkTK_slice i3
   simp only [Option.bind_eq_some_iff] at h
   obtain ⟨q, hq, hr⟩ := h
   cases hv with
   | full hd => exact indexRows_sound i2 hj hjs hq hr hR hd
  ·rename_i e sz by_ id g off len sz' cap hk
   rw [hk] at i3
   obtain ⟨rfl, jj, hj, hjs, _⟩ := mkTK_slice i3
   split at h
   ·rename_i o hl hbeq
    have : sz = sz' := Nat.eq_of_beq_eq_true hbeq
    subst this
    simp only [Option.bind_eq_some_iff] at h
    obtain ⟨q, hq, hr⟩ := h
    simp [retR] at hr; subst hr
    obtain ⟨ho, hgen, hok⟩ := hv.osl_live hl
    obtain ⟨_, _, _, hqlt⟩ := idx_spec hq
    have hiss : m.iss id g := by cases hv with | osl h1 _ _ => exact h1
    unfold OslOK at hok
    cases hat : m.at_ id with
    | none => simp only [hat] at hok; omega
    | some bb =>
     obtain ⟨b0, base⟩ := bb
     simp only [hat] at hok
     obtain ⟨p, kk, rfl, hp, _⟩ := hok
     rcases hp with rfl | ⟨h0, _⟩
     ·refine ⟨_, run_indexAt_s m.w i2 hj hq, After.quiet hR (.ptr hiss rfl fun o2 ho2 hg2 => ⟨by rw [ho] at ho2; injection ho2 with h'; subst h'; exact hv.osl_kind hl, b0, base, hat, ?_⟩)⟩
      rw [hjs, addr_add, Nat.add_assoc]
     ·omega
   ·simp at h
  ·rename_i n e sz ag id g off hk
   rw [hk] at i3
   obtain ⟨rfl, jj, u, hj, _, hjs, _⟩ := mkTK_array i3
   split at h
   ·rename_i o hl
    simp only [Option.bind_eq_some_iff] at h
    obtain ⟨q, hq, hr⟩ := h
    simp [retR] at hr; subst hr
    obtain ⟨ho, hgen, b0, base, hat, rfl⟩ := hv.ptr_live hl
    have hiss : m.iss id g := by cases hv with | ptr h1 _ _ => exact h1
    obtain ⟨q0, q1, rfl, _⟩ := idx_spec hq
    refine ⟨.pointer (some ((⟨b0, base + off, none⟩ : Addr).add (j.toNat * sz))), ?_, After.quiet hR (.ptr hiss rfl fun o2 ho2 hg2 => ⟨by rw [ho] at ho2; injection ho2 with h'; subst h'; exact hv.ptr_kind hl, b0, base, hat, ?_⟩)⟩
    ·simp [Instr.indexAt, run_underlying i2, asIntOf, Instr.sureAddr, q0, q1, sizeOf, typeInfo, hj, hjs]
    ·rw [addr_add, Nat.add_assoc]
   ·simp at h
  ·rename_i n e sz ag ds hk
   rw [hk] at i3
   obtain ⟨rfl, jj, u, hj, _, hjs, _⟩ := mkTK_array i3
   simp only [Option.bind_eq_some_iff] at h
   obtain ⟨q, hq, hr⟩ := h
   simp [ret] at hr; subst hr
   obtain ⟨q0, q1, rfl, _⟩ := idx_spec hq
   cases hv with
   | vref ff hf hr =>
    rename_i b off
    refine ⟨.pointer (some ((⟨b, off, none⟩ : Addr).add (j.toNat * sz))), ?_, After.quiet hR ?_⟩
    ·simp [Instr.indexAt, run_underlying i2, asIntOf, Instr.sureAddr, q0, q1, sizeOf, typeInfo, hj, hjs]
    ·rw [addr_add]
     refine .vref (fun jj => ff (j.toNat * sz + jj)) (fun k d hk => ?_) fun k d hk => ?_
     ·rw [List.getElem?_drop] at hk
      obtain ⟨q1, q2⟩ := hf _ d hk
      exact ⟨q1, by rw [Nat.add_assoc]; exact q2⟩
     ·rw [List.getElem?_drop] at hk
      exact hr _ d hk
  ·simp at h
 ·simp at h

/-- Part of an aggregate. -/
theorem partV_sound [Gl] {t : TypeId} {inf : TypeInfo} {u : TypeDesc} {cs : List V} {xs : List Value} {off : Nat} {v : V} (w : World) (h1 : P.info? t = some inf) (h2 : P.underlying t = some u) (hp : partV (aggT P t) cs off inf.size = some v) (hxs : RVs S m cs xs) :
  ∃ x, (part t xs.toArray off).run P w = .ok x w ∧ RV S m v x := by
 unfold partV at hp
 cases ha : aggT P t with
 | true =>
  simp only [ha, Option.some.injEq] at hp; subst hp
  refine ⟨.agg ((xs.drop off).take inf.size).toArray, ?_, ((hxs.drop off).take _).agg⟩
  simp only [part, Sem.run_bind, run_isAgg h2, ha, Result.andThen_ok, if_true, run_sizeOf' h1, Sem.run_pure]
  congr 2
  apply Array.ext'
  simp [List.extract]
 | false =>
  simp only [ha] at hp
  obtain ⟨x, hx1, hx2⟩ := hxs.get hp
  refine ⟨x, ?_, hx2⟩
  simp [part, run_isAgg h2, ha, hx1]

theorem indexV_sound [Gl] {t : TypeId} {i : TI} {x ix : V} {r : Res} {v y : Value} {c : Nat} (hti : mkTI P t = some i) (h : indexV i x ix = some r) (hR : Rel S m) (hv : RV S m x v) (hy : RV S m ix y) :
  ∃ z, (Instr.index t v y).run P m.w = .ok z m.w ∧ After S m c r z m := by
 obtain ⟨inf, d, i1, i2, i3, _⟩ := mkTI_spec hti
 unfold indexV at h
 split at h
 ·rename_i k j
  obtain rfl : y = .int k j := by
   cases hy with
   | d hd => cases hd; rfl
  split at h
  ·rename_i s hk
   rw [hk] at i3
   have := mkTK_str i3; subst this
   simp only [Option.bind_eq_some_iff] at h
   obtain ⟨q, hq, hr⟩ := h
   split at hr
   ·rename_i b hb
    simp [ret] at hr; subst hr
    cases hv with
    | d hd =>
     cases hd with
     | str bs l hbs =>
      obtain ⟨q0, q1, rfl, q2⟩ := idx_spec hq
      have hlen : bs.size = s.length := by rw [← hbs, Array.length_toList]; rfl
      refine ⟨.int .u8 b.toNat, ?_, After.quiet hR (.d (.int _ _))⟩
      rw [run_index_string m.w t bs k j i2, dif_pos ⟨q0, by omega⟩]
      have : bs[j.toNat]'(by omega) = b := by
       have h1 : bs.data.toList[j.toNat]? = some b := by rw [hbs]; exact hb
       simp at h1
       obtain ⟨h2, h3⟩ := Array.getElem?_eq_some_iff.1 h1
       exact h3
      rw [this]
   ·simp at hr
  ·rename_i n e sz ag cs hk
   rw [hk] at i3
   obtain ⟨rfl, jj, u, hj, hu, hjs, hag⟩ := mkTK_array i3
   simp only [Option.bind_eq_some_iff] at h
   obtain ⟨q, hq, vv, hp, hr⟩ := h
   simp [ret] at hr; subst hr
   obtain ⟨xs, rfl, hxs⟩ := hv.agg_vals
   obtain ⟨q0, q1, rfl, q2⟩ := idx_spec hq
   obtain ⟨z, hz1, hz2⟩ := partV_sound (P := P) (t := e) m.w hj hu (by rw [hag, hjs]; exact hp) hxs
   refine ⟨z, ?_, After.quiet hR hz2⟩
   simp [Instr.index, asIntOf, run_underlying i2, q0, q1, run_sizeOf' hj, hjs, hz1]
  ·simp at h
 ·simp at h

theorem lenV_sound [Gl] {t ty : TypeId} {i : TI} {x : V} {r : Res} {v : Value} {c : Nat} (hti : mkTI P t = some i) (h : lenV m.h i x = some r) (hR : Rel S m) (hv : RV S m x v) :
  ∃ z, (Builtin.len_ #[t] ty #[v]).run P m.w = .ok z m.w ∧ After S m c r z m := by
 obtain ⟨inf, d, i1, i2, i3, _⟩ := mkTI_spec hti
 unfold lenV at h
 split at h
 ·rename_i s
  split at h
  ·rename_i hk
   rw [hk] at i3
   have := mkTK_str i3; subst this
   simp [ret] at h; subst h
   cases hv with
   | d hd =>
    cases hd with
    | str bs l hbs =>
     have hlen : bs.size = s.length := by rw [← hbs, Array.length_toList]; rfl
     refine ⟨_, run_len_string m.w t ty bs i2, After.quiet hR ?_⟩
     rw [hlen]
     exact .d (.int _ _)
  ·simp at h
 ·rename_i k
  split at h
  ·rename_i n hk hn
   rw [hk] at i3
   have := mkTK_str i3; subst this
   simp [ret] at h; subst h
   obtain ⟨s, hs, hl⟩ := Gl.snOK k n hn
   cases hv with
   | d hd =>
    cases hd with
    | sym _ hd =>
     rw [hs] at hd
     cases hd with
     | str bs l hbs =>
      have hlen : bs.size = s.length := by rw [← hbs, Array.length_toList]; rfl
      refine ⟨_, run_len_string m.w t ty bs i2, After.quiet hR ?_⟩
      rw [hlen, hl]
      exact .d (.int _ _)
  ·simp at h
 ·rename_i rows
  split at h
  ·rename_i e sz by_ hk
   rw [hk] at i3
   obtain ⟨rfl, jj, hj, hjs, _⟩ := mkTK_slice i3
   simp [ret] at h; subst h
   cases hv with
   | d hd =>
    obtain ⟨a, k, rfl, _⟩ := hd.slice_inv
    exact ⟨goInt rows.length, by simp [Builtin.len_, run_underlying i2], After.quiet hR (.d (.int _ _))⟩
  ·simp at h
 ·rename_i rows
  split at h
  ·rename_i e sz by_ hk
   rw [hk] at i3
   obtain ⟨rfl, jj, hj, hjs, _⟩ := mkTK_slice i3
   simp [ret] at h; subst h
   cases hv with
   | full hd => exact ⟨goInt rows.length, by simp [Builtin.len_, run_underlying i2], After.quiet hR (.d (.int _ _))⟩
  ·simp at h
 rotate_left
 ·split at h
  ·rename_i kt et hk
   rw [hk] at i3
   have := mkTK_map i3; subst this
   simp [ret] at h; subst h
   cases hv
   exact ⟨goInt 0, by simp [Builtin.len_, run_underlying i2], After.quiet hR (.d (.int _ _))⟩
  ·simp at h
 ·rename_i id g
  split at h
  ·rename_i kt et o hk hl
   rw [hk] at i3
   have := mkTK_map i3; subst this
   split at h
   ·rename_i ks vs bs cl hc
    simp [retR] at h; subst h
    obtain ⟨ho, hgen, _, b, hat, rfl⟩ := hv.mp_live hl
    have hrow := (hR.obj id o b 0 ho hat).2
    rw [hc] at hrow
    obtain ⟨_, es, he, hm⟩ := hrow
    refine ⟨goInt es.size, ?_, After.quiet hR ?_⟩
    ·simp [Builtin.len_, run_underlying i2, getObj, Sem.run, he]
    ·rw [← hm.lk]; exact .d (.int _ _)
   ·rename_i ks vs cl hc
    simp [retR] at h; subst h
    obtain ⟨ho, hgen, _, b, hat, rfl⟩ := hv.mp_live hl
    have hrow := (hR.obj id o b 0 ho hat).2
    rw [hc] at hrow
    obtain ⟨_, es, he, ks', vs', bs', hm, hq⟩ := hrow
    refine ⟨goInt es.size, ?_, After.quiet hR ?_⟩
    ·simp [Builtin.len_, run_underlying i2, getObj, Sem.run, he]
    ·rw [← hm.lk, hq.len]; exact .d (.int _ _)
   ·simp at h
  ·simp at h
 ·simp at h
 ·rename_i id g off len sz cap
  split at h
  ·rename_i e sz' by_ o hk hl
   rw [hk] at i3
   obtain ⟨rfl, jj, hj, hjs, _⟩ := mkTK_slice i3
   simp [retR] at h; subst h
   obtain ⟨ho, hgen, hok⟩ := hv.osl_live hl
   have hval : ∃ a k, v = .slice a len k := by
    unfold OslOK at hok
    cases hat : m.at_ id with
    | none => simp only [hat] at hok; obtain ⟨rfl, _, _, a, rfl⟩ := hok; exact ⟨a, 0, rfl⟩
    | some bb =>
     obtain ⟨b0, base⟩ := bb
     simp only [hat] at hok
     obtain ⟨p, k, rfl, _⟩ := hok; exact ⟨some p, k, rfl⟩
   obtain ⟨a, k, rfl⟩ := hval
   exact ⟨goInt len, by simp [Builtin.len_, run_underlying i2], After.quiet hR (.d (.int _ _))⟩
  ·simp at h

theorem fieldV_sound [Gl] {t : TypeId} {i : TI} {f : Nat} {x : V} {r : Res} {v : Value} {c : Nat} (hti : mkTI P t = some i) (h : fieldV i f x = some r) (hR : Rel S m) (hv : RV S m x v) :
  ∃ z, (Instr.field t v f).run P m.w = .ok z m.w ∧ After S m c r z m := by
 obtain ⟨inf, d, i1, i2, i3, _⟩ := mkTI_spec hti
 unfold fieldV at h
 split at h
 ·rename_i cs
  split at h
  ·rename_i fs hk
   rw [hk] at i3
   obtain ⟨fields, rfl, hfs⟩ := mkTK_struct i3
   split at h
   ·rename_i off size ag hf
    simp only [Option.bind_eq_some_iff] at h
    obtain ⟨vv, hp, hr⟩ := h
    simp [ret] at hr; subst hr
    obtain ⟨fd, j, u, g1, g2, g3, rfl, rfl, hag⟩ := mkFields_get hfs hf
    obtain ⟨xs, rfl, hxs⟩ := hv.agg_vals
    obtain ⟨z, hz1, hz2⟩ := partV_sound (P := P) (t := fd.type) m.w g2 g3 (by rw [hag]; exact hp) hxs
    refine ⟨z, ?_, After.quiet hR hz2⟩
    have g1' : fields[f]? = some fd := by simpa using g1
    simp [Instr.field, run_underlying i2, g1', asAgg, hz1]
   ·simp at h
  ·simp at h
 ·simp at h

theorem fieldAddrV_sound [Gl] {t : TypeId} {i : TI} {f : Nat} {x : V} {r : Res} {v : Value} {c : Nat} (hti : mkTI P t = some i) (h : fieldAddrV m.h i f x = some r) (hR : Rel S m) (hv : RV S m x v) :
  ∃ z, (Instr.fieldAt t v f).run P m.w = .ok z m.w ∧ After S m c r z m := by
 obtain ⟨inf, d, i1, i2, i3, _⟩ := mkTI_spec hti
 unfold fieldAddrV at h
 split at h
 ·rename_i fs hk
  rw [hk] at i3
  obtain ⟨fields, rfl, hfs⟩ := mkTK_struct i3
  split at h
  ·rename_i off size ag hf
   obtain ⟨fd, j, u, g1, g2, g3, rfl, rfl, hag⟩ := mkFields_get hfs hf
   have g1' : fields[f]? = some fd := by simpa using g1
   split at h
   ·simp at h
   ·rename_i hz
    have hz' : j.size ≠ 0 := by intro h0; rw [h0] at hz; simp at hz
    have run : ∀ b o, (Instr.fieldAt t (.pointer (some ⟨b, o, none⟩)) f).run P m.w = .ok (.pointer (some ⟨b, o + fd.offset, none⟩)) m.w := by
     intro b o
     simp [Instr.fieldAt, run_underlying i2, g1', Instr.sureAddr, fieldPlace, run_sizeOf' g2, hz', addr_add]
    split at h
    ·rename_i id g o
     split at h
     ·rename_i ob hl
      simp [retR] at h; subst h
      obtain ⟨ho, hgen, b0, base, hat, rfl⟩ := hv.ptr_live hl
      have hiss : m.iss id g := by cases hv with | ptr h1 _ _ => exact h1
      refine ⟨_, run _ _, After.quiet hR (.ptr hiss rfl fun o2 ho2 hg2 => ⟨by rw [ho] at ho2; injection ho2 with h'; subst h'; exact hv.ptr_kind hl, b0, base, hat, ?_⟩)⟩
      rw [Nat.add_assoc]
     ·simp at h
    ·rename_i ds
     simp [ret] at h; subst h
     cases hv with
     | vref ff hf hr =>
      rename_i b off
      refine ⟨_, run _ _, After.quiet hR (.vref (fun j => ff (fd.offset + j)) (fun j d hj => ?_) fun j d hj => ?_)⟩
      ·rw [List.getElem?_drop] at hj
       obtain ⟨q1, q2⟩ := hf _ d hj
       exact ⟨q1, by rw [Nat.add_assoc]; exact q2⟩
      ·rw [List.getElem?_drop] at hj
       exact hr _ d hj
    ·simp at h
  ·simp at h
 ·simp at h

end Go.Ac
end

section
namespace Go.Ac
variable {P : Program} {S : Nat → Prop} {m : M}

theorem RV.int_inv [Gl] {k : IntKind} {n : Int} {v : Value} (h : RV S m (.d (.int k n)) v) : v = .int k n := by
 cases h with
 | d hd => cases hd; rfl
theorem RV.bool_inv [Gl] {b : Bool} {v : Value} (h : RV S m (.d (.bool b)) v) : v = .bool b := by
 cases h with
 | d hd => cases hd; rfl

theorem eqGuard_int (op : BinOp) (t : TypeId) (x y : Operand) (k k' : IntKind) (a b : Int) (w : World) : (eqGuard op t x y (.int k a) (.int k' b)).run P w = .ok () w := by
 unfold eqGuard; cases op <;> rfl
theorem eqGuard_str (op : BinOp) (t : TypeId) (x y : Operand) (a b : ByteArray) (w : World) : (eqGuard op t x y (.string a) (.string b)).run P w = .ok () w := by
 unfold eqGuard; cases op <;> rfl
theorem eqGuard_bool (op : BinOp) (t : TypeId) (x y : Operand) (a b : Bool) (w : World) : (eqGuard op t x y (.bool a) (.bool b)).run P w = .ok () w := by
 unfold eqGuard; cases op <;> rfl

theorem intBin_sound [Gl] {op : BinOp} {k : IntKind} {a b : Int} {d : D} (t : TypeId) (w : World) (hs : op ≠ .shl ∧ op ≠ .shr) (h : intBin op k a b = some d) : ∃ z, (binOp op t (.int k a) (.int k b)).run P w = .ok z w ∧ ∀ av, RD w av d z := by
 cases op <;> simp only [intBin, Option.some.injEq] at h
 case shl => exact absurd rfl hs.1
 case shr => exact absurd rfl hs.2
 case quo =>
  split at h
  ·simp at h
  ·rename_i hb
   simp at h; subst h
   exact ⟨_, by simp [binOp, Op.intDiv, hb], fun av => .int _ _⟩
 case rem =>
  split at h
  ·simp at h
  ·rename_i hb
   simp at h; subst h
   exact ⟨_, by simp [binOp, Op.intDiv, hb], fun av => .int _ _⟩
 case eql => subst h; exact ⟨_, by simp [binOp, Op.intCmp], fun av => .bool _⟩
 case neq => subst h; exact ⟨_, by simp [binOp, Op.intCmp], fun av => .bool _⟩
 case lss => subst h; exact ⟨_, by simp [binOp, Op.intCmp], fun av => .bool _⟩
 case leq => subst h; exact ⟨_, by simp [binOp, Op.intCmp], fun av => .bool _⟩
 case gtr => subst h; exact ⟨_, by simp [binOp, Op.intCmp], fun av => .bool _⟩
 case geq => subst h; exact ⟨_, by simp [binOp, Op.intCmp], fun av => .bool _⟩
 case and => subst h; exact ⟨_, by simp [binOp, Op.intBits], fun av => .int _ _⟩
 case or => subst h; exact ⟨_, by simp [binOp, Op.intBits], fun av => .int _ _⟩
 case xor => subst h; exact ⟨_, by simp [binOp, Op.intBits], fun av => .int _ _⟩
 case andNot => subst h; exact ⟨_, by simp [binOp, Op.intBits], fun av => .int _ _⟩
 all_goals subst h; exact ⟨_, by simp [binOp, Op.intArith], fun av => .int _ _⟩

theorem shift_sound [Gl] {op : BinOp} {k k' : IntKind} {i j : Int} {v : V} (t : TypeId) (w : World) (h : (match op with
  | .shl => if j < 0 then none else some (V.d (.int k (k.wrap (i * 2 ^ (min j.toNat k.bits)))))
  | .shr => if j < 0 then none else some (V.d (.int k (i.fdiv (2 ^ (min j.toNat k.bits)))))
  | _ => none) = some v) (S : Nat → Prop) (m : M) : ∃ z, (binOp op t (.int k i) (.int k' j)).run P w = .ok z w ∧ RV S m v z := by
 cases op <;> simp only [] at h <;> try (simp at h; done)
 case shl =>
  split at h
  ·simp at h
  ·rename_i hj
   simp only [Option.some.injEq] at h; subst h
   refine ⟨_, ?_, .d (.int _ _)⟩
   simp [binOp, Op.shift, hj]
 case shr =>
  split at h
  ·simp at h
  ·rename_i hj
   simp only [Option.some.injEq] at h; subst h
   refine ⟨_, ?_, .d (.int _ _)⟩
   simp [binOp, Op.shift, hj]

theorem binV_sound [Gl] {op : BinOp} {x y v : V} {a b : Value} (t : TypeId) (o1 o2 : Operand) (h : binV op x y = some v) (ha : RV S m x a) (hb : RV S m y b) :
  ∃ z, (eqGuard op t o1 o2 a b).run P m.w = .ok () m.w ∧ (binOp op t a b).run P m.w = .ok z m.w ∧ RV S m v z := by
 unfold binV at h
 split at h
 ·rename_i k i k' j
  obtain rfl := ha.int_inv
  obtain rfl := hb.int_inv
  have gen : op ≠ .shl ∧ op ≠ .shr → (if k = k' then (intBin op k i j).map V.d else none) = some v → ∃ z, (binOp op t (.int k i) (.int k' j)).run P m.w = .ok z m.w ∧ RV S m v z := by
   clear h
   intro hs h'
   split at h'
   ·rename_i hk; subst hk
    simp only [Option.map_eq_some_iff] at h'
    obtain ⟨d, hd, rfl⟩ := h'
    obtain ⟨z, h1, h2⟩ := intBin_sound (P := P) t m.w hs hd
    exact ⟨z, h1, .d (h2 _)⟩
   ·simp at h'
  have key : ∃ z, (binOp op t (.int k i) (.int k' j)).run P m.w = .ok z m.w ∧ RV S m v z := by
   by_cases h1 : op = .shl
   ·subst h1; exact shift_sound (op := .shl) t m.w h S m
   ·by_cases h2 : op = .shr
    ·subst h2; exact shift_sound (op := .shr) t m.w h S m
    ·refine gen ⟨h1, h2⟩ ?_
     cases op <;> first | exact h | exact absurd rfl h1 | exact absurd rfl h2
  obtain ⟨z, h1, h2⟩ := key
  exact ⟨z, eqGuard_int op t o1 o2 k k' i j m.w, h1, h2⟩
 ·rename_i s u
  simp only [Option.map_eq_some_iff] at h
  obtain ⟨d, hd, rfl⟩ := h
  cases ha with
  | d ha =>
   cases ha with
   | str bs l hbs =>
    cases hb with
    | d hb =>
     cases hb with
     | str cs l' hcs =>
      have hz : ∃ z, (binOp op t (.string bs) (.string cs)).run P m.w = .ok z m.w ∧ RD m.w (m.av S) d z := by
       have h1 : bs.size = s.length := by rw [← hbs, Array.length_toList]; rfl
       have h2 : cs.size = u.length := by rw [← hcs, Array.length_toList]; rfl
       cases op <;> simp only [strBin, Option.some.injEq] at hd <;> try (simp at hd; done)
       case eql => subst hd; exact ⟨.bool (s == u), by simp [binOp, Op.stringOp, ByteArray.toList_eq, hbs, hcs], .bool _⟩
       case neq => subst hd; exact ⟨.bool (!(s == u)), by simp [binOp, Op.stringOp, ByteArray.toList_eq, hbs, hcs], .bool _⟩
       case lss => subst hd; exact ⟨.bool (Op.bytesLess s u), by simp [binOp, Op.stringOp, ByteArray.toList_eq, hbs, hcs], .bool _⟩
       case leq => subst hd; exact ⟨.bool (Op.bytesLess s u || s == u), by simp [binOp, Op.stringOp, ByteArray.toList_eq, hbs, hcs], .bool _⟩
       case gtr => subst hd; exact ⟨.bool (!(Op.bytesLess s u || s == u)), by simp [binOp, Op.stringOp, ByteArray.toList_eq, hbs, hcs], .bool _⟩
       case geq => subst hd; exact ⟨.bool (!Op.bytesLess s u), by simp [binOp, Op.stringOp, ByteArray.toList_eq, hbs, hcs], .bool _⟩
       case add =>
        split at hd
        ·rename_i hle
         simp only [Option.some.injEq] at hd; subst hd
         refine ⟨.string (bs ++ cs), ?_, .str _ _ ?_⟩
         ·have hmx : ¬ (((bs.size + cs.size : Nat) : Int) > IntKind.i64.max) := by
           rw [h1, h2]
           simp [IntKind.max, IntKind.signed, IntKind.bits]
           omega
          simp only [binOp, Op.stringOp]
          rw [if_neg hmx]; rfl
         ·rw [← hbs, ← hcs]; simp
        ·simp at hd
      obtain ⟨z, hz1, hz2⟩ := hz
      exact ⟨z, eqGuard_str op t o1 o2 bs cs m.w, hz1, .d hz2⟩
 ·simp at h

theorem boolBin_sound [Gl] {op : BinOp} {p q : Bool} {v : V} {t : TypeId} (o1 o2 : Operand) (ht : P.underlying t = some .bool) (h : boolBin op p q = some v) :
  ∃ z, (eqGuard op t o1 o2 (.bool p) (.bool q)).run P m.w = .ok () m.w ∧ (binOp op t (.bool p) (.bool q)).run P m.w = .ok z m.w ∧ RV S m v z := by
 cases op <;> simp only [boolBin, Option.some.injEq] at h <;> first | (simp at h; done) | subst h
 ·exact ⟨_, eqGuard_bool _ t o1 o2 p q m.w, run_eql_bool m.w t p q ht, .d (.bool _)⟩
 ·exact ⟨_, eqGuard_bool _ t o1 o2 p q m.w, run_neq_bool m.w t p q ht, .d (.bool _)⟩

theorem unV_sound [Gl] {op : UnOp} {x v : V} {a : Value} (h : unV op x = some v) (ha : RV S m x a) : ∃ z, (Op.unary op a).run P m.w = .ok z m.w ∧ RV S m v z := by
 unfold unV at h
 split at h
 ·rename_i b
  obtain rfl : a = .bool b := by
   cases ha with
   | d hd => cases hd; rfl
  cases op <;> simp only [Option.some.injEq] at h <;> first | (simp at h; done) | subst h
  exact ⟨_, by simp [Op.unary], .d (.bool _)⟩
 ·rename_i k n
  obtain rfl : a = .int k n := by
   cases ha with
   | d hd => cases hd; rfl
  cases op <;> simp only [Option.some.injEq] at h <;> first | (simp at h; done) | subst h
  exact ⟨.int k (k.wrap (0 - n)), by simp [Op.unary, Op.intArith], .d (.int _ _)⟩
 ·simp at h

theorem convV_sound [Gl] {s t : TypeId} {i j : TI} {x v : V} {a : Value} (hi : mkTI P s = some i) (hj : mkTI P t = some j) (h : convV i j x = some v) (ha : RV S m x a) : ∃ z, (convert s t a).run P m.w = .ok z m.w ∧ RV S m v z := by
 obtain ⟨_, d1, _, i2, i3, _⟩ := mkTI_spec hi
 obtain ⟨_, d2, _, j2, j3, _⟩ := mkTI_spec hj
 unfold convV at h
 split at h
 ·rename_i k n
  obtain rfl : a = .int k n := by
   cases ha with
   | d hd => cases hd; rfl
  split at h
  ·rename_i q hk
   rw [hk] at j3
   have := mkTK_int j3; subst this
   simp only [Option.some.injEq] at h; subst h
   refine ⟨.int q (q.wrap n), ?_, .d (.int _ _)⟩
   simp [convert, run_underlying i2, run_underlying j2, Conv.intToInt]
  ·simp at h
 ·rename_i s'
  split at h
  ·rename_i hk1 hk2
   rw [hk1] at i3; rw [hk2] at j3
   have := mkTK_str i3; subst this
   have := mkTK_str j3; subst this
   simp only [Option.some.injEq] at h; subst h
   cases ha with
   | d hd =>
    cases hd with
    | str bs l hbs => exact ⟨.string bs, by simp [convert, run_underlying i2, run_underlying j2], .d (.str _ _ hbs)⟩
  ·simp at h
 ·simp at h

theorem mkFields_places : ∀ {fs : List Field} {l : List (Nat × Nat × Bool)}, mkFields P fs = some l → fs.mapM (fun f => (P.info? f.type).map fun i => (f.offset, i.size)) = some (l.map fun p => (p.1, p.2.1))
 | [], l, h => by simp [mkFields] at h; subst h; rfl
 | f :: fs, l, h => by
  simp only [mkFields] at h
  split at h
  ·rename_i j u l' hj hu hl'
   simp at h; subst h
   have ih := mkFields_places hl'
   simp only [List.mapM_cons, hj, Option.map_some, ih]
   rfl
  ·simp at h

theorem parts_rel [Gl] {ρ : Operand → V} {σ : Operand → Value} (h : ∀ x, RV S m (ρ x) (σ x)) (ps : List (Nat × Operand)) : (ps.map fun p => (p.1, ρ p.2)).length = (ps.map fun p => (p.1, σ p.2)).length ∧
  ∀ (j : Nat) (a : Nat × V) (b : Nat × Value), (ps.map fun p => (p.1, ρ p.2))[j]? = some a → (ps.map fun p => (p.1, σ p.2))[j]? = some b → a.1 = b.1 ∧ RV S m a.2 b.2 := by
 refine ⟨by simp, fun j a b ha hb => ?_⟩
 rw [List.getElem?_map] at ha hb
 cases hp : ps[j]? with
 | none => simp [hp] at ha
 | some p => simp [hp] at ha hb; subst ha; subst hb; exact ⟨rfl, h p.2⟩

theorem build_sound [Gl] {t : TypeId} {i : TI} {z cs : List V} {place : Nat → Option (Nat × Nat)} {ps : Array (Nat × Operand)} {ρ : Operand → V} {σ : Operand → Value} (hi : mkTI P t = some i) (hz : i.zero = some z) (hone : z.all V.one = true)
  (hpl : (∃ fs, i.k = .struct fs ∧ place = fun j => (fs[j]?).map fun f => (f.1, f.2.1)) ∨ (∃ n e sz ag, i.k = .array n e sz ag ∧ place = fun j => some (j * sz, sz)))
  (h : fillV place z (ps.toList.map fun p => (p.1, ρ p.2)) = some cs) (hρ : ∀ x, RV S m (ρ x) (σ x)) :
  ∃ ys : List Value, (Instr.build t (ps.map fun p => (p.1, σ p.2))).run P m.w = .ok (.agg ys.toArray) m.w ∧ RVs S m cs ys := by
 obtain ⟨inf, d, h1, h2, h3, _⟩ := mkTI_spec hi
 obtain ⟨v, g1, g2, g3⟩ := zero_spec hi hz m.w
 obtain ⟨r1, r2⟩ := parts_rel (S := S) (m := m) hρ ps.toList
 obtain ⟨ys, k1, k2, _, _⟩ := fillV_sound (xs := v.cells.toList) h (by rw [g2]; exact constVs_RVs _) hone r1 r2
 refine ⟨ys, ?_, k2⟩
 apply run_build
 have hzz : inf.zero = some v := by simpa [h1] using g3
 simp only [Array.toArray_toList] at k1
 rcases hpl with ⟨fs, hk, rfl⟩ | ⟨n, e, sz, ag, hk, rfl⟩
 ·rw [hk] at h3
  obtain ⟨fields, rfl, hfs⟩ := mkTK_struct h3
  have hp := mkFields_places hfs
  simp only [Program.built, h1, h2, hzz, hp]
  simpa using k1
 ·rw [hk] at h3
  obtain ⟨rfl, j, u, hj, _, hjs, _⟩ := mkTK_array h3
  simp only [Program.built, h1, h2, hzz, hj, hjs]
  simpa using k1

theorem closeParts_sound [Gl] (hR : Rel S m) {fz : Bool} {m' : M} {all : List Nat} (hb : RoBy S m m' all) : ∀ {ps ps' : List (Nat × V)} {ids : List Nat} {qs : List (Nat × Value)}, closeParts m.h fz ps = some (ps', ids) → ps.length = qs.length →
  (∀ (j : Nat) (a : Nat × V) (b : Nat × Value), ps[j]? = some a → qs[j]? = some b → a.1 = b.1 ∧ RV S m a.2 b.2) → (∀ i ∈ ids, i ∈ all) →
  ps'.length = qs.length ∧ ∀ (j : Nat) (a : Nat × V) (b : Nat × Value), ps'[j]? = some a → qs[j]? = some b → a.1 = b.1 ∧ RV S m' a.2 b.2
 | [], ps', ids, qs, h, hl, hp, hi => by simp [closeParts] at h; obtain ⟨rfl, rfl⟩ := h; exact ⟨hl, fun j a b ha => by simp at ha⟩
 | (i, x) :: r, ps', ids, qs, h, hl, hp, hi => by
  cases qs with
  | nil => simp at hl
  | cons q qs =>
   obtain ⟨i', y⟩ := q
   obtain ⟨e1, e2⟩ := hp 0 (i, x) (i', y) rfl rfl
   simp only at e1 e2
   subst e1
   simp only [closeParts] at h
   split at h
   ·rename_i w aa ws bb h1 h2
    simp at h; obtain ⟨rfl, rfl⟩ := h
    obtain ⟨g1, g2⟩ := closeParts_sound (qs := qs) hR hb h2 (by simpa using hl) (fun j a b ha hb => hp (j + 1) a b (by simpa using ha) (by simpa using hb)) (fun i hi' => hi i (List.mem_append_right _ hi'))
    refine ⟨by simp [g1], fun j a b ha hb' => ?_⟩
    cases j with
    | zero => simp at ha hb'; subst ha; subst hb'; exact ⟨rfl, cl2_sound hR h1 e2 hb fun i hi' => hi i (List.mem_append_left _ hi')⟩
    | succ j => exact g2 j a b (by simpa using ha) (by simpa using hb')
   ·simp at h

end Go.Ac
end
