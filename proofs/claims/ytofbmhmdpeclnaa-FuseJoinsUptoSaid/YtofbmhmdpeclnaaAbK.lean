/- The abstract machine: every operation that calls no function. No conditions. -/
import Derived.Test.YtofbmhmdpeclnaaAbJ
import Derived.Laws.Small
set_option linter.unusedVariables false
set_option linter.unusedSimpArgs false
namespace Go.Ab
variable {P : Program} {S : Nat → Prop} {m : M}

theorem idx_spec {i : Int} {n q : Nat} (h : idx i n = some q) : 0 ≤ i ∧ i < n ∧ q = i.toNat ∧ q < n := by
  unfold idx at h
  split at h
  · rename_i hc; simp at h; exact ⟨hc.1, hc.2, h.symm, by omega⟩
  · simp at h

theorem run_indexAt_s {t e : TypeId} {j : TypeInfo} {a : Addr} {len cap : Nat} {k : IntKind} {i : Int} {q : Nat} (w : World) (h2 : P.underlying t = some (.slice e)) (hj : P.info? e = some j) (hq : idx i len = some q) :
    (Instr.indexAt t (.slice (some a) len cap) (.int k i)).run P w = .ok (.pointer (some (a.add (q * j.size)))) w := by
  obtain ⟨h0, h1, rfl, _⟩ := idx_spec hq
  simp [Instr.indexAt, run_underlying h2, asIntOf, h0, h1, sizeOf, typeInfo, hj]

theorem RD.row {w : World} {av : Nat → Prop} {rows : List (List D)} {v : Value} {q sz : Nat} {r : List D} (hd : RD w av (.slice rows) v) (hr : rows[q]? = some r) (hsz : r.length = sz) :
    ∃ b off k, v = .slice (some ⟨b, off, none⟩) rows.length k ∧ ∃ f : Nat → Value, (∀ (j : Nat) (d : D), r[j]? = some d → ¬ av b ∧ w.cell? ⟨b, off + q * sz + j, none⟩ = some (f j)) ∧ ∀ (j : Nat) (d : D), r[j]? = some d → RD w av d (f j) := by
  cases hd with
  | empty a cap h => simp at hr
  | slice rows b off cap sz' hlen hcap hs f hf hr' =>
    have : sz' = sz := by rw [← hs q r hr]; exact hsz
    subst this
    refine ⟨b, off, cap, rfl, f q, fun j d hj => ?_, fun j d hj => hr' q j r d hr hj⟩
    obtain ⟨h1, h2⟩ := hf q j r d hr hj
    exact ⟨h1, by rw [Nat.add_assoc]; exact h2⟩

theorem indexRows_sound {t e : TypeId} {inf : TypeInfo} {rows : List (List D)} {sz q c : Nat} {v : Value} {k : IntKind} {i : Int} {r : Res} (h2 : P.underlying t = some (.slice e)) (hj : P.info? e = some inf) (hjs : inf.size = sz)
    (hq : idx i rows.length = some q) (h : indexRows rows sz q = some r) (hR : Rel S m) (hd : RD m.w (m.av S) (.slice rows) v) : ∃ z, (Instr.indexAt t v (.int k i)).run P m.w = .ok z m.w ∧ After S m c r z m := by
  unfold indexRows at h
  split at h
  · rename_i row hrow
    split at h
    · rename_i hb
      simp [ret] at h; subst h
      obtain ⟨b, off, kk, rfl, f, hf, hr⟩ := hd.row hrow (Nat.eq_of_beq_eq_true hb)
      refine ⟨_, run_indexAt_s m.w h2 hj hq, After.quiet hR ?_⟩
      rw [hjs, addr_add]
      exact .vref f hf hr
    · simp at h
  · simp at h

theorem indexAddrV_sound {t : TypeId} {i : TI} {x ix : V} {r : Res} {v y : Value} {c : Nat} (hti : mkTI P t = some i) (h : indexAddrV m.h i x ix = some r) (hR : Rel S m) (hv : RV S m x v) (hy : RV S m ix y) :
    ∃ z, (Instr.indexAt t v y).run P m.w = .ok z m.w ∧ After S m c r z m := by
  obtain ⟨inf, d, i1, i2, i3, _⟩ := mkTI_spec hti
  unfold indexAddrV at h
  split at h
  · rename_i k j
    obtain rfl : y = .int k j := by
      cases hy with
      | d hd => cases hd; rfl
    split at h
    · rename_i e sz by_ rows hk
      rw [hk] at i3
      obtain ⟨rfl, jj, hj, hjs, _⟩ := mkTK_slice i3
      simp only [Option.bind_eq_some_iff] at h
      obtain ⟨q, hq, hr⟩ := h
      cases hv with
      | d hd => exact indexRows_sound i2 hj hjs hq hr hR hd
    · rename_i e sz by_ rows hk
      rw [hk] at i3
      obtain ⟨rfl, jj, hj, hjs, _⟩ := mkTK_slice i3
      simp only [Option.bind_eq_some_iff] at h
      obtain ⟨q, hq, hr⟩ := h
      cases hv with
      | full hd => exact indexRows_sound i2 hj hjs hq hr hR hd
    · rename_i e sz by_ id g off len sz' cap hk
      rw [hk] at i3
      obtain ⟨rfl, jj, hj, hjs, _⟩ := mkTK_slice i3
      split at h
      · rename_i o hl hbeq
        have : sz = sz' := Nat.eq_of_beq_eq_true hbeq
        subst this
        simp only [Option.bind_eq_some_iff] at h
        obtain ⟨q, hq, hr⟩ := h
        simp [retR] at hr; subst hr
        obtain ⟨ho, hgen, hok⟩ := hv.osl_live hl
        obtain ⟨_, _, _, hqlt⟩ := idx_spec hq
        have hiss : m.iss id g := by cases hv with | osl h1 _ _ => exact h1
        unfold OslOK at hok
        cases hat : m.at_ id with
        | none => simp only [hat] at hok; omega
        | some bb =>
          obtain ⟨b0, base⟩ := bb
          simp only [hat] at hok
          obtain ⟨p, kk, rfl, hp, _⟩ := hok
          rcases hp with rfl | ⟨h0, _⟩
          · refine ⟨_, run_indexAt_s m.w i2 hj hq, After.quiet hR (.ptr hiss rfl fun o2 ho2 hg2 => ⟨b0, base, hat, ?_⟩)⟩
            rw [hjs, addr_add, Nat.add_assoc]
          · omega
      · simp at h
    · rename_i n e sz ag id g off hk
      rw [hk] at i3
      obtain ⟨rfl, jj, u, hj, _, hjs, _⟩ := mkTK_array i3
      split at h
      · rename_i o hl
        simp only [Option.bind_eq_some_iff] at h
        obtain ⟨q, hq, hr⟩ := h
        simp [retR] at hr; subst hr
        obtain ⟨ho, hgen, b0, base, hat, rfl⟩ := hv.ptr_live hl
        have hiss : m.iss id g := by cases hv with | ptr h1 _ _ => exact h1
        obtain ⟨q0, q1, rfl, _⟩ := idx_spec hq
        refine ⟨.pointer (some ((⟨b0, base + off, none⟩ : Addr).add (j.toNat * sz))), ?_, After.quiet hR (.ptr hiss rfl fun o2 ho2 hg2 => ⟨b0, base, hat, ?_⟩)⟩
        · simp [Instr.indexAt, run_underlying i2, asIntOf, Instr.sureAddr, q0, q1, sizeOf, typeInfo, hj, hjs]
        · rw [addr_add, Nat.add_assoc]
      · simp at h
    · simp at h
  · simp at h

/-- Part of an aggregate. -/
theorem partV_sound {t : TypeId} {inf : TypeInfo} {u : TypeDesc} {cs : List V} {xs : List Value} {off : Nat} {v : V} (w : World) (h1 : P.info? t = some inf) (h2 : P.underlying t = some u) (hp : partV (aggT P t) cs off inf.size = some v) (hxs : RVs S m cs xs) :
    ∃ x, (part t xs.toArray off).run P w = .ok x w ∧ RV S m v x := by
  unfold partV at hp
  cases ha : aggT P t with
  | true =>
    simp only [ha, Option.some.injEq] at hp; subst hp
    refine ⟨.agg ((xs.drop off).take inf.size).toArray, ?_, ((hxs.drop off).take _).agg⟩
    simp only [part, Sem.run_bind, run_isAgg h2, ha, Result.andThen_ok, if_true, run_sizeOf' h1, Sem.run_pure]
    congr 2
    apply Array.ext'
    simp [List.extract]
  | false =>
    simp only [ha] at hp
    obtain ⟨x, hx1, hx2⟩ := hxs.get hp
    refine ⟨x, ?_, hx2⟩
    simp [part, run_isAgg h2, ha, hx1]

theorem indexV_sound {t : TypeId} {i : TI} {x ix : V} {r : Res} {v y : Value} {c : Nat} (hti : mkTI P t = some i) (h : indexV i x ix = some r) (hR : Rel S m) (hv : RV S m x v) (hy : RV S m ix y) :
    ∃ z, (Instr.index t v y).run P m.w = .ok z m.w ∧ After S m c r z m := by
  obtain ⟨inf, d, i1, i2, i3, _⟩ := mkTI_spec hti
  unfold indexV at h
  split at h
  · rename_i k j
    obtain rfl : y = .int k j := by
      cases hy with
      | d hd => cases hd; rfl
    split at h
    · rename_i s hk
      rw [hk] at i3
      have := mkTK_str i3; subst this
      simp only [Option.bind_eq_some_iff] at h
      obtain ⟨q, hq, hr⟩ := h
      split at hr
      · rename_i b hb
        simp [ret] at hr; subst hr
        cases hv with
        | d hd =>
          cases hd with
          | str bs l hbs =>
            obtain ⟨q0, q1, rfl, q2⟩ := idx_spec hq
            have hlen : bs.size = s.length := by rw [← hbs, Array.length_toList]; rfl
            refine ⟨.int .u8 b.toNat, ?_, After.quiet hR (.d (.int _ _))⟩
            rw [run_index_string m.w t bs k j i2, dif_pos ⟨q0, by omega⟩]
            have : bs[j.toNat]'(by omega) = b := by
              have h1 : bs.data.toList[j.toNat]? = some b := by rw [hbs]; exact hb
              simp at h1
              obtain ⟨h2, h3⟩ := Array.getElem?_eq_some_iff.1 h1
              exact h3
            rw [this]
      · simp at hr
    · rename_i n e sz ag cs hk
      rw [hk] at i3
      obtain ⟨rfl, jj, u, hj, hu, hjs, hag⟩ := mkTK_array i3
      simp only [Option.bind_eq_some_iff] at h
      obtain ⟨q, hq, vv, hp, hr⟩ := h
      simp [ret] at hr; subst hr
      obtain ⟨xs, rfl, hxs⟩ := hv.agg_vals
      obtain ⟨q0, q1, rfl, q2⟩ := idx_spec hq
      obtain ⟨z, hz1, hz2⟩ := partV_sound (P := P) (t := e) m.w hj hu (by rw [hag, hjs]; exact hp) hxs
      refine ⟨z, ?_, After.quiet hR hz2⟩
      simp [Instr.index, asIntOf, run_underlying i2, q0, q1, run_sizeOf' hj, hjs, hz1]
    · simp at h
  · simp at h

theorem lenV_sound {t ty : TypeId} {i : TI} {x : V} {r : Res} {v : Value} {c : Nat} (hti : mkTI P t = some i) (h : lenV m.h i x = some r) (hR : Rel S m) (hv : RV S m x v) :
    ∃ z, (Builtin.len_ #[t] ty #[v]).run P m.w = .ok z m.w ∧ After S m c r z m := by
  obtain ⟨inf, d, i1, i2, i3, _⟩ := mkTI_spec hti
  unfold lenV at h
  split at h
  · rename_i s
    split at h
    · rename_i hk
      rw [hk] at i3
      have := mkTK_str i3; subst this
      simp [ret] at h; subst h
      cases hv with
      | d hd =>
        cases hd with
        | str bs l hbs =>
          have hlen : bs.size = s.length := by rw [← hbs, Array.length_toList]; rfl
          refine ⟨_, run_len_string m.w t ty bs i2, After.quiet hR ?_⟩
          rw [hlen]
          exact .d (.int _ _)
    · simp at h
  · rename_i rows
    split at h
    · rename_i e sz by_ hk
      rw [hk] at i3
      obtain ⟨rfl, jj, hj, hjs, _⟩ := mkTK_slice i3
      simp [ret] at h; subst h
      cases hv with
      | d hd =>
        obtain ⟨a, k, rfl, _⟩ := hd.slice_inv
        exact ⟨goInt rows.length, by simp [Builtin.len_, run_underlying i2], After.quiet hR (.d (.int _ _))⟩
    · simp at h
  · rename_i rows
    split at h
    · rename_i e sz by_ hk
      rw [hk] at i3
      obtain ⟨rfl, jj, hj, hjs, _⟩ := mkTK_slice i3
      simp [ret] at h; subst h
      cases hv with
      | full hd => exact ⟨goInt rows.length, by simp [Builtin.len_, run_underlying i2], After.quiet hR (.d (.int _ _))⟩
    · simp at h
  · rename_i id g off len sz cap
    split at h
    · rename_i e sz' by_ o hk hl
      rw [hk] at i3
      obtain ⟨rfl, jj, hj, hjs, _⟩ := mkTK_slice i3
      simp [retR] at h; subst h
      obtain ⟨ho, hgen, hok⟩ := hv.osl_live hl
      have hval : ∃ a k, v = .slice a len k := by
        unfold OslOK at hok
        cases hat : m.at_ id with
        | none => simp only [hat] at hok; obtain ⟨rfl, _, _, a, rfl⟩ := hok; exact ⟨a, 0, rfl⟩
        | some bb =>
          obtain ⟨b0, base⟩ := bb
          simp only [hat] at hok
          obtain ⟨p, k, rfl, _⟩ := hok; exact ⟨some p, k, rfl⟩
      obtain ⟨a, k, rfl⟩ := hval
      exact ⟨goInt len, by simp [Builtin.len_, run_underlying i2], After.quiet hR (.d (.int _ _))⟩
    · simp at h
  · simp at h

theorem fieldV_sound {t : TypeId} {i : TI} {f : Nat} {x : V} {r : Res} {v : Value} {c : Nat} (hti : mkTI P t = some i) (h : fieldV i f x = some r) (hR : Rel S m) (hv : RV S m x v) :
    ∃ z, (Instr.field t v f).run P m.w = .ok z m.w ∧ After S m c r z m := by
  obtain ⟨inf, d, i1, i2, i3, _⟩ := mkTI_spec hti
  unfold fieldV at h
  split at h
  · rename_i cs
    split at h
    · rename_i fs hk
      rw [hk] at i3
      obtain ⟨fields, rfl, hfs⟩ := mkTK_struct i3
      split at h
      · rename_i off size ag hf
        simp only [Option.bind_eq_some_iff] at h
        obtain ⟨vv, hp, hr⟩ := h
        simp [ret] at hr; subst hr
        obtain ⟨fd, j, u, g1, g2, g3, rfl, rfl, hag⟩ := mkFields_get hfs hf
        obtain ⟨xs, rfl, hxs⟩ := hv.agg_vals
        obtain ⟨z, hz1, hz2⟩ := partV_sound (P := P) (t := fd.type) m.w g2 g3 (by rw [hag]; exact hp) hxs
        refine ⟨z, ?_, After.quiet hR hz2⟩
        have g1' : fields[f]? = some fd := by simpa using g1
        simp [Instr.field, run_underlying i2, g1', asAgg, hz1]
      · simp at h
    · simp at h
  · simp at h

theorem fieldAddrV_sound {t : TypeId} {i : TI} {f : Nat} {x : V} {r : Res} {v : Value} {c : Nat} (hti : mkTI P t = some i) (h : fieldAddrV m.h i f x = some r) (hR : Rel S m) (hv : RV S m x v) :
    ∃ z, (Instr.fieldAt t v f).run P m.w = .ok z m.w ∧ After S m c r z m := by
  obtain ⟨inf, d, i1, i2, i3, _⟩ := mkTI_spec hti
  unfold fieldAddrV at h
  split at h
  · rename_i fs hk
    rw [hk] at i3
    obtain ⟨fields, rfl, hfs⟩ := mkTK_struct i3
    split at h
    · rename_i off size ag hf
      obtain ⟨fd, j, u, g1, g2, g3, rfl, rfl, hag⟩ := mkFields_get hfs hf
      have g1' : fields[f]? = some fd := by simpa using g1
      split at h
      · simp at h
      · rename_i hz
        have hz' : j.size ≠ 0 := by intro h0; rw [h0] at hz; simp at hz
        have run : ∀ b o, (Instr.fieldAt t (.pointer (some ⟨b, o, none⟩)) f).run P m.w = .ok (.pointer (some ⟨b, o + fd.offset, none⟩)) m.w := by
          intro b o
          simp [Instr.fieldAt, run_underlying i2, g1', Instr.sureAddr, fieldPlace, run_sizeOf' g2, hz', addr_add]
        split at h
        · rename_i id g o
          split at h
          · rename_i ob hl
            simp [retR] at h; subst h
            obtain ⟨ho, hgen, b0, base, hat, rfl⟩ := hv.ptr_live hl
            have hiss : m.iss id g := by cases hv with | ptr h1 _ _ => exact h1
            refine ⟨_, run _ _, After.quiet hR (.ptr hiss rfl fun o2 ho2 hg2 => ⟨b0, base, hat, ?_⟩)⟩
            rw [Nat.add_assoc]
          · simp at h
        · rename_i ds
          simp [ret] at h; subst h
          cases hv with
          | vref ff hf hr =>
            rename_i b off
            refine ⟨_, run _ _, After.quiet hR (.vref (fun j => ff (fd.offset + j)) (fun j d hj => ?_) fun j d hj => ?_)⟩
            · rw [List.getElem?_drop] at hj
              obtain ⟨q1, q2⟩ := hf _ d hj
              exact ⟨q1, by rw [Nat.add_assoc]; exact q2⟩
            · rw [List.getElem?_drop] at hj
              exact hr _ d hj
        · simp at h
    · simp at h
  · simp at h

end Go.Ab
