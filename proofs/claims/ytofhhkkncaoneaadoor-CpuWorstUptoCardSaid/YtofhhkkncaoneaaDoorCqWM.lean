/- Memories hold words. -/
import Derived.Test.YtofhhkkncaoneaaDoorAcBM
import Derived.Test.YtofhhkkncaoneaaDoorAcDM
import Derived.Test.YtofhhkkncaoneaaDoorAcGM
import Derived.Test.YtofhhkkncaoneaaDoorAcJM
import Derived.Test.YtofhhkkncaoneaaDoorAcLM
import Derived.Test.YtofhhkkncaoneaaDoorAcMM
import Derived.Test.YtofhhkkncaoneaaDoorAcOM
import Derived.Test.YtofhhkkncaoneaaDoorAcSM
import Derived.Test.YtofhhkkncaoneaaDoorAcXM
import Derived.Test.YtofhhkkncaoneaaDoorAcUcM
import Derived.Test.YtofhhkkncaoneaaDoorAcThM
import Derived.Test.YtofhhkkncaoneaaDoorCpBM
import Derived.Test.YtofhhkkncaoneaaDoorCpD
import Derived.Test.YtofhhkkncaoneaaDoorCpE
import Derived.Test.YtofhhkkncaoneaaDoorCpF
import Derived.Test.YtofhhkkncaoneaaDoorCpIM
import Derived.Test.YtofhhkkncaoneaaDoorCpK
import Derived.Test.YtofhhkkncaoneaaDoorCrTM
import Derived.Test.YtofhhkkncaoneaaDoorCqFM
import Derived.Test.YtofhhkkncaoneaaDoorCqIM
import Derived.Test.YtofhhkkncaoneaaDoorCqNM
import Derived.Test.YtofhhkkncaoneaaDoorCpWM
import Derived.Test.YtofhhkkncaoneaaDoorCpQM
import Derived.Test.YtofhhkkncaoneaaDoorCqM
import Derived.Calls
import Derived.Orders
import Derived.Laws.World
import Derived.Laws.Sem
import Derived.Laws.Cells
import Derived.Laws.Append
import GoSem.ClaimData
import Derived.Laws.Tables
import Derived.Laws.Slices
import Derived.Laws.Strings
import Derived.Laws.Small
import Derived.KernelRfl
import Derived.Test.YtofhhkkncaoneaaDoorChecked
import Derived.Lib.RuneCount
import Derived.Lib.DecodeN
set_option linter.unusedVariables false
set_option linter.unusedSimpArgs false
section
set_option maxRecDepth 4000
set_option linter.unusedSimpArgs false
set_option linter.unusedVariables false
namespace Go.Ac
open Go.Proofs

theorem codeE_zero {f : Nat → I → Int} : ∀ {l : List I} {j : Nat}, codeE f j l = 0 → ∀ (t : Nat) (i : I), l[t]? = some i → f (j + t) i = 0
  | [], j, h, t, i, hi => by simp at hi
  | a :: l, j, h, t, i, hi => by
    unfold codeE at h
    by_cases h0 : f j a = 0
    · rw [if_pos h0] at h
      cases t with
      | zero => simp at hi; subst hi; exact h0
      | succ t =>
        have := codeE_zero h t i (by simpa using hi)
        rwa [Nat.add_right_comm, Nat.add_assoc] at this
    · rw [if_neg h0] at h
      exact absurd h h0
theorem rsE_zero {im : Im} : ∀ {l : List Rt} {j : Nat}, rsE im j l = 0 → ∀ (t : Nat) (r : Rt), l[t]? = some r → oneE im (j + t) r = 0
  | [], j, h, t, r, hi => by simp at hi
  | a :: l, j, h, t, r, hi => by
    unfold rsE at h
    by_cases h0 : oneE im j a = 0
    · rw [if_pos h0] at h
      cases t with
      | zero => simp at hi; subst hi; exact h0
      | succ t =>
        have := rsE_zero h t r (by simpa using hi)
        rwa [Nat.add_right_comm, Nat.add_assoc] at this
    · rw [if_neg h0] at h
      exact absurd h h0
structure OneOK (im : Im) (k : Nat) (r : Rt) : Prop where
  big : ¬ bigE r = true
  ty : ∀ t ∈ r.inn ++ r.out, typOK im.enums t = true
  io : (r.inn.length : Int) + r.out.length ≤ r.regs
  ini : ∀ v ∈ r.ini, outW v = false
  code : codeE (stepE im.rs k r) 0 r.code = 0
theorem oneE_zero {im : Im} {k : Nat} {r : Rt} (h : oneE im k r = 0) : OneOK im k r := by
  unfold oneE at h
  split at h
  · omega
  · split at h
    · omega
    · rename_i hb
      split at h
      · omega
      · rename_i ht
        split at h
        · omega
        · rename_i hr
          split at h
          · omega
          · rename_i hi
            refine ⟨hb, fun t hm => ?_, by omega, fun v hv => ?_, h⟩
            · cases hq : typOK im.enums t with
              | true => rfl
              | false => exact absurd (List.any_eq_true.2 ⟨t, hm, by rw [hq]; rfl⟩) ht
            · cases hq : outW v with
              | false => rfl
              | true => exact absurd (List.any_eq_true.2 ⟨v, hv, hq⟩) hi
theorem not_big {r : Rt} (h : ¬ bigE r = true) : r.inn.length ≤ 64 ∧ r.out.length ≤ 64 ∧ r.ini.length ≤ 16384 ∧ r.code.length ≤ 32768 ∧ r.regs ≤ 32768 := by
  rw [bigE_iff] at h
  have h1 : ¬ c1 r := fun x => h (.inl x)
  have h2 : ¬ c2 r := fun x => h (.inr (.inl x))
  have h3 : ¬ c3 r := fun x => h (.inr (.inr x))
  unfold c1 at h1
  unfold c2 at h2
  unfold c3 at h3
  split at h1 <;> split at h3 <;> omega
theorem good_of {im : Im} (h : chkE im = 0) : GoodIm im := by
  unfold chkE at h
  split at h
  · omega
  · rename_i h1
    split at h
    · omega
    · rename_i h2
      split at h
      · omega
      · rename_i h3
        split at h
        · omega
        · rename_i h4
          have one : ∀ k r, im.rs[k]? = some r → OneOK im k r := fun k r hr => by
            have := rsE_zero h k r hr
            rw [Nat.zero_add] at this
            exact oneE_zero this
          have onem : ∀ r ∈ im.rs, ∃ k, OneOK im k r := fun r hr => by
            obtain ⟨k, hk⟩ := List.mem_iff_getElem?.1 hr
            exact ⟨k, one k r hk⟩
          refine ⟨fun k r hr => ?_, fun q hq => ?_, fun q hq => ?_, fun q hq => ?_, by omega, by omega, by omega, fun q hq t ht => ?_, fun q hq v hv => ?_, fun v hv => ?_⟩
          · have ho := one k r hr
            have hb := not_big ho.big
            have hkl : k < im.rs.length := by rcases Nat.lt_or_ge k im.rs.length with h | h; exact h; rw [List.getElem?_eq_none h] at hr; cases hr
            refine ⟨ho.io, by omega, fun at_ i hi => ?_⟩
            have hs := codeE_zero ho.code at_ i hi
            rw [Nat.zero_add] at hs
            unfold stepE at hs
            split at hs
            · rename_i h5
              split at hs
              · rename_i h6
                simp only [Bool.and_eq_true] at h5
                exact okI_of (by omega) (by have := ho.io; omega) ((isO_iff _).1 h5.1) h5.2 h6
              · omega
            · omega
          · obtain ⟨k, ho⟩ := onem q hq
            have := not_big ho.big; omega
          · obtain ⟨k, ho⟩ := onem q hq
            have := not_big ho.big; omega
          · obtain ⟨k, ho⟩ := onem q hq
            have := not_big ho.big; omega
          · obtain ⟨k, ho⟩ := onem q hq
            exact ho.ty t (List.mem_append_left _ ht)
          · obtain ⟨k, ho⟩ := onem q hq
            have := ho.ini v hv
            unfold outW at this; simp at this; omega
          · have : outE v = false := by
              cases hq : outE v with
              | false => rfl
              | true => exact absurd (List.any_eq_true.2 ⟨v, hv, hq⟩) h3
            unfold outE at this; simp at this; omega
end Go.Ac
end

section
set_option maxRecDepth 4000
set_option linter.unusedSimpArgs false
set_option linter.unusedVariables false
namespace Go.Ac
open Go.Proofs

/-! ### Memory taken over -/
def shO (n c : Nat) (o : Ob) : Ob := ⟨o.gen + c, o.ro, shiftVs n c o.cells⟩
theorem shiftH_eq (n c : Nat) (l : List (Nat × Ob)) : shiftH n c l = l.map fun p => (p.1 + n, shO n c p.2) := rfl
theorem Hp.get_sets_mem : ∀ (wr : List (Nat × Ob)) (h : Hp) (j : Nat) (o : Ob), (∀ p, p ∈ wr → p.1 = j → p.2 = o) → (∃ p, p ∈ wr ∧ p.1 = j) → (Hp.sets h wr).get j = some o
  | [], h, j, o, _, hx => by obtain ⟨p, hp, _⟩ := hx; cases hp
  | (k, x) :: r, h, j, o, ho, hx => by
    simp only [Hp.sets]
    by_cases hr : ∃ p, p ∈ r ∧ p.1 = j
    · exact Hp.get_sets_mem r _ j o (fun p hp => ho p (List.mem_cons_of_mem _ hp)) hr
    · rw [Hp.get_sets_ne r _ j fun p hp he => hr ⟨p, hp, he⟩]
      obtain ⟨p, hp, he⟩ := hx
      rcases List.mem_cons.1 hp with rfl | hp
      · simp only at he
        subst he
        rw [Hp.get_set_self, ← ho _ (List.mem_cons_self ..) rfl]
      · exact absurd ⟨p, hp, he⟩ hr
theorem import_new {hp : Hp} {look : Look} {n c m id : Nat} {o : Ob} (h : id < m) (ho : look id = some o) : (hp.sets (shiftH n c (wrOf look (List.range m)))).get (id + n) = some (shO n c o) := by
  refine Hp.get_sets_mem _ _ _ _ (fun p hp hid => ?_) ⟨(id + n, shO n c o), ?_, rfl⟩
  · rw [shiftH_eq, List.mem_map] at hp
    obtain ⟨x, hx, rfl⟩ := hp
    have h2 := (mem_wrOf2.1 hx).2
    have h3 : x.1 = id := by simp only at hid; omega
    rw [h3, ho] at h2
    rw [Option.some.inj h2]
  · rw [shiftH_eq, List.mem_map]
    exact ⟨(id, o), mem_wrOf2.2 ⟨List.mem_range.2 h, ho⟩, rfl⟩
theorem import_old {hp : Hp} {look : Look} {n c m id : Nat} (h : id < n) : (hp.sets (shiftH n c (wrOf look (List.range m)))).get id = hp.get id := by
  refine Hp.get_sets_ne _ _ _ (fun p hp hid => ?_)
  rw [shiftH_eq, List.mem_map] at hp
  obtain ⟨x, hx, rfl⟩ := hp
  simp only at hid; omega
theorem shiftVs_cI (n c : Nat) : ∀ l : List Int, shiftVs n c (cI l) = cI l
  | [] => rfl
  | x :: r => by
    have := shiftVs_cI n c r
    show shiftV n c (dI x) :: shiftVs n c (cI r) = _
    rw [this]; rfl
theorem Mc.shift {im : Im} {hp hq : Hp} {idc gc mid mg n c m : Nat} {mem : List Int} {cnt : Int} (h : Mc im hq idc gc mid mg mem cnt) (h1 : idc < m) (h2 : mid < m) :
    Mc im (hp.sets (shiftH n c (wrOf hq.get (List.range m)))) (idc + n) (gc + c) (mid + n) (mg + c) mem cnt := by
  obtain ⟨⟨cap, hcap, hC⟩, hm, d2⟩ := h
  refine ⟨⟨cap, hcap, ?_⟩, ?_, by omega⟩
  · rw [import_new h1 hC]
    simp [shO, shiftVs, shiftV, dI]
  · rw [import_new h2 hm]
    simp only [shO, shiftVs_cI]

section
variable {im : Im}
theorem new_bad (hs : im.sz ≤ MB) (hok : ∀ r, r ∈ im.rs → RtOK r) (h : chkE im ≠ 0) : den Tryd.prog Cp.cfg 9 [aM im] = some (.tuple [.con (.pointer none), dI (chkE im)]) := by
  have hc := check_den im hs hok
  simp only [aM, Im.cells, List.map_cons, List.map_nil, dI] at hc
  refine den_wp Tryd.func9 rfl (by kernel_rfl) rfl rfl ?_
  refine wkckt (And.intro @dI.eq_1 (And.intro @aM.eq_1 (And.intro @Im.cells.eq_1 (And.intro @hc (And.intro @h @int_bne))))) ?_
  show retQ _ _ _ _ _
  exact ⟨.inr rfl, _, _, rfl, rfl⟩
theorem rnew_bad (hs : im.sz ≤ MB) (hok : ∀ r, r ∈ im.rs → RtOK r) (h : chkE im ≠ 0) : den Tryd.prog Cp.cfg 10 [aM im] = some (.tuple [.con (.pointer none), dI (chkE im)]) := by
  have hc := rcheck_den im hs hok
  simp only [aM, Im.cells, List.map_cons, List.map_nil, dI] at hc
  refine den_wp Tryd.func10 rfl (by kernel_rfl) rfl rfl ?_
  refine wkckt (And.intro @dI.eq_1 (And.intro @aM.eq_1 (And.intro @Im.cells.eq_1 (And.intro @hc (And.intro @h @int_bne))))) ?_
  show retQ _ _ _ _ _
  exact ⟨.inr rfl, _, _, rfl, rfl⟩
/-- A new machine. -/
def NewAt (im : Im) (f : Nat) : Prop := ∃ q, lim Tryd.prog Cp.cfg f [aM im] [] 0 0 = some q ∧ q.v = .tuple [.ptr 1 1 0, dI 0] ∧ ∃ mid mg, Mc im q.hp 1 1 mid mg (lastR im).ini 0 ∧ mid < q.n ∧ 1 < q.n
set_option maxHeartbeats 1000000 in
theorem new_ok (hs : im.sz ≤ MB) (hok : ∀ r, r ∈ im.rs → RtOK r) (h : chkE im = 0) : NewAt im 9 := by
  have hG := good_of h
  have hc := check_den im hs hok
  have hcp := copied_im im hs
  rw [h] at hc
  simp only [aM, Im.cells, List.map_cons, List.map_nil, dI] at hc hcp
  have main : ∃ (v : V) (t : St), lim Tryd.prog Cp.cfg 9 [aM im] [] 0 0 = some ⟨v, t.hp, t.n, t.c, t.wl⟩ ∧ v = .tuple [.ptr 1 1 0, dI 0] ∧ ∃ mid mg, Mc im t.hp 1 1 mid mg (lastR im).ini 0 ∧ mid < t.n ∧ 1 < t.n := by
    refine lim_wp (Q := fun v (t : St) => v = .tuple [.ptr 1 1 0, dI 0] ∧ ∃ mid mg, Mc im t.hp 1 1 mid mg (lastR im).ini 0 ∧ mid < t.n ∧ 1 < t.n) Tryd.func9 rfl (by kernel_rfl) ?_
    refine wkckt (And.intro @envOf.eq_1 (And.intro @envOf.eq_2 (And.intro @dI.eq_1 (And.intro @aM.eq_1 (And.intro @Im.cells.eq_1 (And.intro @hc (And.intro @hcp (And.intro @fillV.eq_1 (And.intro @fillV.eq_2 @Value.oneCell'.eq_def))))))))) ?_
    obtain ⟨hp0, hhp0⟩ : ∃ H : Hp, H = [(0, ⟨0, false, [.d (.slice (encI im.enums)), .d (.slice (encR im.rs))]⟩), (1, ⟨1, false, [.d (.slice (encI im.enums)), .d (.slice (encR im.rs)), .full [], .d (.int .i64 0)]⟩)] := ⟨_, rfl⟩
    have hC : hp0.get 1 = some ⟨1, false, [.d (.slice (encI im.enums)), .d (.slice (encR im.rs)), .full [], .d (.int .i64 0)]⟩ := by rw [hhp0]; rfl
    have hmc := main_c (c := 2) (n := 2) hC (by omega) hG.last (by have := hG.rl; omega)
    obtain ⟨r0, hT1, hv, hn, hT2, hki, hfr, hpz, ⟨mid, mg, hMc, hlt, hor⟩, hsame⟩ := (reset_ok hC hmc (by omega) (by have := hG.il _ hG.mem; omega)).caller (by intro j hj; simp at hj; omega)
    rw [hhp0] at hT1 hsame
    refine wkcekt (And.intro @dI.eq_1 @hv) ?_
    obtain ⟨cap, hcap, hc1⟩ := hMc.c
    refine ⟨.inr rfl, _, rfl, .inr rfl, rfl, mid, mg, hMc.same (hsame 1 (by omega) (by rw [hc1]; rfl)) (hsame mid hlt (by rw [hMc.m]; rfl)), ?_, ?_⟩
    · show mid < 2 + (r0.n - 2)
      omega
    · show 1 < 2 + (r0.n - 2)
      omega
  obtain ⟨v, t, h1, h2, h3⟩ := main
  exact ⟨_, h1, h2, h3⟩
set_option maxHeartbeats 1000000 in
theorem rnew_ok (hs : im.sz ≤ MB) (hok : ∀ r, r ∈ im.rs → RtOK r) (h : chkE im = 0) : NewAt im 10 := by
  have hG := good_of h
  have hc := rcheck_den im hs hok
  rw [h] at hc
  simp only [aM, Im.cells, List.map_cons, List.map_nil, dI] at hc
  have main : ∃ (v : V) (t : St), lim Tryd.prog Cp.cfg 10 [aM im] [] 0 0 = some ⟨v, t.hp, t.n, t.c, t.wl⟩ ∧ v = .tuple [.ptr 1 1 0, dI 0] ∧ ∃ mid mg, Mc im t.hp 1 1 mid mg (lastR im).ini 0 ∧ mid < t.n ∧ 1 < t.n := by
    refine lim_wp (Q := fun v (t : St) => v = .tuple [.ptr 1 1 0, dI 0] ∧ ∃ mid mg, Mc im t.hp 1 1 mid mg (lastR im).ini 0 ∧ mid < t.n ∧ 1 < t.n) Tryd.func10 rfl (by kernel_rfl) ?_
    refine wkckt (And.intro @envOf.eq_1 (And.intro @envOf.eq_2 (And.intro @dI.eq_1 (And.intro @aM.eq_1 (And.intro @Im.cells.eq_1 (And.intro @hc (And.intro @fillV.eq_1 (And.intro @fillV.eq_2 @Value.oneCell'.eq_def)))))))) ?_
    obtain ⟨hp0, hhp0⟩ : ∃ H : Hp, H = [(0, ⟨0, false, [.d (.slice (encI im.enums)), .d (.slice (encR im.rs))]⟩), (1, ⟨1, false, [.d (.slice (encI im.enums)), .d (.slice (encR im.rs)), .full [], .d (.int .i64 0)]⟩)] := ⟨_, rfl⟩
    have hC : hp0.get 1 = some ⟨1, false, [.d (.slice (encI im.enums)), .d (.slice (encR im.rs)), .full [], .d (.int .i64 0)]⟩ := by rw [hhp0]; rfl
    obtain ⟨r0, hT1, hv, hn, hT2, hki, hfr, hpz, ⟨mid, mg, hMc, hlt, hor⟩, hsame⟩ := (rreset_ok (c := 2) (n := 2) hC (fun hp1 n1 c1 hn1 hf => rmain_c (n := n1) (c := c1) ((hf 1 (by omega)).trans hC) (by omega) hG.last (by have := hG.rl; omega)) (by omega) (by have := hG.il _ hG.mem; omega)).caller (by intro j hj; simp at hj; omega)
    rw [hhp0] at hT1 hsame
    refine wkcekt (And.intro @dI.eq_1 @hv) ?_
    obtain ⟨cap, hcap, hc1⟩ := hMc.c
    refine ⟨.inr rfl, _, rfl, .inr rfl, rfl, mid, mg, hMc.same (hsame 1 (by omega) (by rw [hc1]; rfl)) (hsame mid hlt (by rw [hMc.m]; rfl)), ?_, ?_⟩
    · show mid < 2 + (r0.n - 2)
      omega
    · show 1 < 2 + (r0.n - 2)
      omega
  obtain ⟨v, t, h1, h2, h3⟩ := main
  exact ⟨_, h1, h2, h3⟩
end
end Go.Ac
end

section
set_option maxRecDepth 4000
set_option linter.unusedSimpArgs false
set_option linter.unusedVariables false
namespace Go.Ac
open Go.Proofs

theorem eq_of_take {a b : List Int} (h : a.length = b.length) : (a.take a.length = b.take a.length) ↔ a = b := by
  rw [List.take_length, h, List.take_length]
theorem ints_den (a b : List Int) (ha : a.length ≤ MX) (hb0 : b.length ≤ MX) : den Tryd.prog Cp.cfg 13 [dL a, dL b] = some (dB (decide (a = b))) := by
  unfold MX at ha hb0
  refine den_wp Tryd.func13 rfl (by kernel_rfl) rfl rfl ?_
  by_cases hl : a.length = b.length
  case neg =>
    have hl2 : ((a.length : Int) = b.length) = False := eq_false (by omega)
    have hab : decide (a = b) = false := by simp; intro h; rw [h] at hl; exact hl rfl
    rw [hab]
    refine wkc (And.intro @dI.eq_1 (And.intro @dL.eq_1 (And.intro @hl (And.intro @hl2 @int_bne)))) ?_
    show retQ _ _ _ _ _
    exact ⟨.inr rfl, _, _, rfl, rfl⟩
  have hl2 : ((a.length : Int) = b.length) = True := eq_true (by omega)
  refine wkc (And.intro @dI.eq_1 (And.intro @dL.eq_1 (And.intro @hl (And.intro @hl2 @int_bne)))) ?_
  apply WP.loop' (I := fun D s => ∃ j : Nat, j + D = a.length ∧ a.take j = b.take j ∧ SE [(0, dL a), (1, dL b), (5, dI j)] [] 0 s) (d := a.length)
  · exact ⟨0, by simp, by simp, SE.mk (by simp [dI, dL]) rfl⟩
  rintro D _ ⟨j, hj, he, cc, rfl⟩
  refine wk (And.intro @dI.eq_1 @dL.eq_1) ?_
  show WP _ _ _ _ _ _
  refine WP.cond _ rfl (fun hb => ?_) (fun hb => ?_)
  · simp at hb
    have hb' : j < a.length := by omega
    have hb2 : j < b.length := by omega
    have v1 := rgv_at hb'
    have v2 := rgv_at hb2
    have e1 := encI_at v1
    have e2 := encI_at v2
    have x1 := idx_lt hb'
    have x2 := idx_lt hb2
    have hw := w_succ hb' (by omega)
    have s1 : a.take (j + 1) = a.take j ++ [rgv a j] := by rw [List.take_add_one, v1]; rfl
    have s2 : b.take (j + 1) = b.take j ++ [rgv b j] := by rw [List.take_add_one, v2]; rfl
    by_cases hq : rgv a j = rgv b j
    · have hq2 : (rgv a j = rgv b j) = True := eq_true hq
      refine wkc (And.intro @dI.eq_1 (And.intro @dL.eq_1 (And.intro @x1 (And.intro @x2 (And.intro @e1 (And.intro @e2 (And.intro @hq2 @int_bne))))))) ?_
      refine loop_next (by simp [hw]; exact Is.rfl) ?_
      exact ⟨D - 1, by omega, j + 1, by omega, by rw [s1, s2, he, hq], SE.mk (by simp [dI, dL, hw]) rfl⟩
    · have hq2 : (rgv a j = rgv b j) = False := eq_false hq
      have hab : decide (a = b) = false := by simp; intro h; rw [h] at hq; exact hq rfl
      rw [hab]
      refine wkc (And.intro @dI.eq_1 (And.intro @dL.eq_1 (And.intro @x1 (And.intro @x2 (And.intro @e1 (And.intro @e2 (And.intro @hq2 @int_bne))))))) ?_
      show retQ _ _ _ _ _
      exact ⟨.inr rfl, _, _, rfl, rfl⟩
  · simp at hb
    have hje : j = a.length := by omega
    rw [hje, eq_of_take hl] at he
    have hab : decide (a = b) = true := by simp [he]
    rw [hab]
    refine wk True.intro ?_
    show retQ _ _ _ _ _
    exact ⟨.inr rfl, _, _, rfl, rfl⟩

theorem den_ex {f : FuncId} {fn : Func} {body : Code} {vs : List V} (hf : Tryd.prog.funcs[f]? = some fn) (hb : fn.body = some body) (hok : (Nat.ble vs.length fn.ntmps && codeOK fn.ntmps body) = true) (hthr : Cp.cfg.thr f = false)
    (h : WP Tryd.prog Cp.cfg f body ⟨envOf 0 vs, [], 0, 0, 0, []⟩ (fun e t => ∃ b, retQ Tryd.prog fn (dB b) e t)) : ∃ b, den Tryd.prog Cp.cfg f vs = some (dB b) := by
  obtain ⟨e, t, hr, b, hq⟩ := h
  exact ⟨b, den_wp hf hb hok hthr rfl ⟨e, t, hr, hq⟩⟩
set_option maxHeartbeats 4000000 in
theorem heavy_den (im : Im) (hs : im.sz ≤ MB) (r : Int) : ∃ b, den Tryd.prog Cp.cfg 7 [aM im, dI r] = some (dB b) := by
  refine den_ex Tryd.func7 rfl (by kernel_rfl) rfl ?_
  by_cases u1 : 100 < im.enums.length
  · have t1 : (100 < im.enums.length) = True := eq_true u1
    have t1' : ((100 : Int) < im.enums.length) = True := eq_true (by omega)
    refine wkc (And.intro @dI.eq_1 (And.intro @aM.eq_1 (And.intro @Im.cells.eq_1 (And.intro @t1 @t1')))) ?_
    exact ⟨true, .inr rfl, _, _, rfl, rfl⟩
  have t1 : (100 < im.enums.length) = False := eq_false u1
  have t1' : ((100 : Int) < im.enums.length) = False := eq_false (by omega)
  by_cases u2 : 100 < im.rs.length
  · have t2 : (100 < im.rs.length) = True := eq_true u2
    have t2' : ((100 : Int) < im.rs.length) = True := eq_true (by omega)
    refine wkc (And.intro @dI.eq_1 (And.intro @aM.eq_1 (And.intro @Im.cells.eq_1 (And.intro @t1 (And.intro @t1' (And.intro @t2 @t2')))))) ?_
    exact ⟨true, .inr rfl, _, _, rfl, rfl⟩
  have t2 : (100 < im.rs.length) = False := eq_false u2
  have t2' : ((100 : Int) < im.rs.length) = False := eq_false (by omega)
  by_cases u3 : 30 < r
  · have t3 : (30 < r) = True := eq_true u3
    refine wkc (And.intro @dI.eq_1 (And.intro @aM.eq_1 (And.intro @Im.cells.eq_1 (And.intro @t1 (And.intro @t1' (And.intro @t2 (And.intro @t2' @t3))))))) ?_
    exact ⟨true, .inr rfl, _, _, rfl, rfl⟩
  have t3 : (30 < r) = False := eq_false u3
  refine wkc (And.intro @dI.eq_1 (And.intro @aM.eq_1 (And.intro @Im.cells.eq_1 (And.intro @t1 (And.intro @t1' (And.intro @t2 (And.intro @t2' @t3))))))) ?_
  apply WP.loop' (I := fun D s => ∃ (j : Nat) (x y : Int), j + D = im.rs.length ∧ SE [(2, .ptr 0 0 0), (5, dI x), (6, dI y), (7, dI j)] [(0, ⟨0, false, im.cells.map .d⟩)] 1 s) (d := im.rs.length)
  · exact ⟨0, 0, 0, by simp, SE.mk (by simp [dI]) (by simp [Im.cells])⟩
  rintro D _ ⟨j, x, y, hj, cc, rfl⟩
  refine wk (And.intro @dI.eq_1 @Im.cells.eq_1) ?_
  show WP _ _ _ _ _ _
  refine WP.cond _ rfl (fun hb => ?_) (fun hb => ?_)
  · simp at hb
    have hb' : j < im.rs.length := hb
    obtain ⟨q, hq, hqm, hix⟩ := at_lt hb'
    have hq' := encR_at hq
    have hw := w_succ hb' (by omega)
    by_cases u4 : 2000 < q.regs
    · have t4 : (2000 < q.regs) = True := eq_true u4
      refine wkc (And.intro @dI.eq_1 (And.intro @Im.cells.eq_1 (And.intro @Rt.cells.eq_1 (And.intro @hix (And.intro @hq' @t4))))) ?_
      exact ⟨true, .inr rfl, _, _, rfl, rfl⟩
    have t4 : (2000 < q.regs) = False := eq_false u4
    refine wk (And.intro @dI.eq_1 (And.intro @Im.cells.eq_1 (And.intro @Rt.cells.eq_1 (And.intro @hix (And.intro @hq' @t4))))) ?_
    show WP _ _ _ _ _ _
    refine WP.cond _ rfl (fun hb => ?_) (fun hb => ?_)
    · refine wkc (@dI.eq_1) ?_
      exact ⟨true, .inr rfl, _, _, rfl, rfl⟩
    refine wkc (@dI.eq_1) ?_
    have hsz := Im.mem_rs hqm
    unfold Rt.sz at hsz
    unfold MB at hs
    refine WP.loop' (I := fun D2 s => ∃ (k : Nat) (x y : Int) (cc : Nat), k + D2 = q.code.length ∧ s = ⟨[(2, .ptr 0 0 0), (5, dI x), (6, dI y), (7, dI j), (8, .ptr 1 cc 0), (9, dI k)], [(0, ⟨0, false, im.cells.map .d⟩), (1, ⟨cc, false, q.cells.map .d⟩)], 2, cc + 1, 0, []⟩) q.code.length ⟨0, _, _, _, by simp, by rfl⟩ ?_
    rintro D2 _ ⟨k, x, y, cc, hk, rfl⟩
    refine wk (And.intro @dI.eq_1 (And.intro @Im.cells.eq_1 @Rt.cells.eq_1)) ?_
    show WP _ _ _ _ _ _
    refine WP.cond _ rfl (fun hb => ?_) (fun hb => ?_)
    · simp at hb
      have hb2 : k < q.code.length := hb
      obtain ⟨i, hi, him, hix2⟩ := at_lt hb2
      have hi' := encC_at hi
      have hw2 := w_succ hb2 (by omega)
      by_cases u5 : i.op = 9
      · have t5 : (i.op = 9) = True := eq_true u5
        refine wkc (And.intro @dI.eq_1 (And.intro @Im.cells.eq_1 (And.intro @Rt.cells.eq_1 (And.intro @hix2 (And.intro @hi' (And.intro @I.cells.eq_1 (And.intro @t5 @int_beq))))))) ?_
        refine loop_next (by simp [hw2]; exact Is.rfl) ?_
        exact ⟨D2 - 1, by omega, k + 1, x, IntKind.i64.wrap (y + 1), cc, by omega, by simp [dI, Im.cells, Rt.cells]⟩
      · have t5 : (i.op = 9) = False := eq_false u5
        refine wkc (And.intro @dI.eq_1 (And.intro @Im.cells.eq_1 (And.intro @Rt.cells.eq_1 (And.intro @hix2 (And.intro @hi' (And.intro @I.cells.eq_1 (And.intro @t5 @int_beq))))))) ?_
        refine loop_next (by simp [hw2]; exact Is.rfl) ?_
        exact ⟨D2 - 1, by omega, k + 1, x, y, cc, by omega, by simp [dI, Im.cells, Rt.cells]⟩
    · refine wkc (And.intro @dI.eq_1 @Im.cells.eq_1) ?_
      refine loop_next (by simp [hw]; exact Is.rfl) ?_
      exact ⟨D - 1, by omega, j + 1, x, y, by omega, SE.mk (by simp [dI]) (by simp [Im.cells])⟩
  · refine wkc (@dI.eq_1) ?_
    exact ⟨_, .inr rfl, _, _, rfl, rfl⟩
end Go.Ac
end

section
set_option maxRecDepth 100000
namespace Go.Ac
open Go.Proofs
theorem awake_den : den Tryd.prog Cp.cfg 8 [] = some (dB true) := den_k 300 (fun k => by kernel_rfl) rfl
end Go.Ac
end

section
set_option maxRecDepth 4000
set_option linter.unusedSimpArgs false
set_option linter.unusedVariables false
namespace Go.Ac
open Go.Proofs

def Rg1 (v : Int) : Prop := -32768 ≤ v ∧ v ≤ 32767
def Rg (l : List Int) : Prop := ∀ v ∈ l, Rg1 v
theorem rg0 : Rg1 0 := by unfold Rg1; omega
theorem rg16 (n : Int) : Rg1 (w16 n) := ⟨w16_lo n, w16_hi n⟩
theorem tmod_rg {a b : Int} (h : Rg1 a) : Rg1 (a.tmod b) := by
  unfold Rg1 at *
  rcases Int.lt_or_le a 0 with h1 | h1
  · have h2 := Int.tmod_nonneg b (a := -a) (by omega)
    rw [Int.neg_tmod] at h2
    have h3 : (-a).tmod b ≤ -a := by
      obtain ⟨n, hn⟩ : ∃ n : Nat, -a = n := ⟨(-a).toNat, by omega⟩
      rw [hn]
      have : ((n : Int).tmod b).natAbs ≤ n := by
        rw [Int.natAbs_tmod]; exact Nat.mod_le _ _
      omega
    rw [Int.neg_tmod] at h3
    omega
  · have h2 := Int.tmod_nonneg b h1
    have h3 : a.tmod b ≤ a := by
      obtain ⟨n, hn⟩ : ∃ n : Nat, a = n := ⟨a.toNat, by omega⟩
      rw [hn]
      have : ((n : Int).tmod b).natAbs ≤ n := by
        rw [Int.natAbs_tmod]; exact Nat.mod_le _ _
      omega
    omega
theorem modI_rg (a b : Int) : Rg1 (modI (w16 a) (w16 b)) := by
  unfold modI
  split
  · exact rg16 a
  · exact tmod_rg (rg16 a)
theorem divI_rg (a b : Int) : Rg1 (divI a b) := by
  unfold divI
  split
  · exact rg0
  · exact rg16 _
theorem cmpI_rg (op a b : Int) : Rg1 (cmpI op a b) := by
  unfold cmpI
  repeat' split
  all_goals first | exact rg16 _ | exact divI_rg _ _ | exact modI_rg _ _
theorem apR_rg (op : Int) (l : List Int) : Rg1 (apR op l) := by
  unfold apR apV
  split
  · show Rg1 (resI _ _ _)
    unfold resI
    split
    · exact cmpI_rg _ _ _
    · split <;> (unfold Rg1; omega)
  · exact rg0
theorem rgv_rg {l : List Int} (h : Rg l) (j : Int) : Rg1 (rgv l j) := by
  unfold rgv
  by_cases hj : j.toNat < l.length
  · rw [List.getD_eq_getElem?_getD, List.getElem?_eq_getElem hj]; exact h _ (List.getElem_mem hj)
  · rw [List.getD_eq_getElem?_getD, List.getElem?_eq_none (by omega)]; exact rg0
theorem Rg.set {l : List Int} (h : Rg l) {v : Int} (hv : Rg1 v) (j : Nat) : Rg (l.set j v) := fun x hx => by
  rcases List.mem_or_eq_of_mem_set hx with h1 | h1
  · exact h x h1
  · rw [h1]; exact hv
theorem Rg.put {l xs : List Int} (h : Rg l) (hx : Rg xs) (k : Nat) : Rg (putAt l k xs) := fun x hm => by
  unfold putAt at hm
  rcases List.mem_append.1 hm with h1 | h1
  · rcases List.mem_append.1 h1 with h2 | h2
    · exact h x (List.mem_of_mem_take h2)
    · exact hx x h2
  · exact h x (List.mem_of_mem_drop h1)
theorem Rg.sub {l : List Int} (h : Rg l) (a b : Nat) : Rg ((l.drop a).take b) := fun x hm => h x (List.mem_of_mem_drop (List.mem_of_mem_take hm))

def CallRg (n : Nat) (f : CallM) : Prop := ∀ k base ins mem, k < n → Rg ins → Rg mem → Rg (f k base ins mem).1 ∧ Rg (f k base ins mem).2.1
theorem stepM_rg {im : Im} (hini : ∀ q ∈ im.rs, ∀ v ∈ q.ini, -32768 ≤ v ∧ v ≤ 32767) {f : CallM} {k R M L base at_ : Nat} {i : I} {regs mem : List Int} (hi : OkI im.rs k R M at_ L i) (hf : CallRg k f) (hr : Rg regs) (hm : Rg mem) :
    Rg (stepM im.rs f base at_ i regs mem).2.1 ∧ Rg (stepM im.rs f base at_ i regs mem).2.2.1 := by
  cases hi with
  | load A b hA h1 h2 => simp only [stepM]; exact ⟨hr.set ⟨h1, h2⟩ _, hm⟩
  | move A B hA hB => simp [stepM]; exact ⟨hr.set (rgv_rg hr _) _, hm⟩
  | read A B hA hB => simp [stepM]; exact ⟨hr.set (rgv_rg hm _) _, hm⟩
  | write A B hA hB => simp [stepM]; exact ⟨hr, hm.set (rgv_rg hr _) _⟩
  | unary A B c hA hB hc => simp [stepM]; exact ⟨hr.set (apR_rg _ _) _, hm⟩
  | apply A B C d hA hB hC h1 h2 => simp [stepM]; exact ⟨hr.set (apR_rg _ _) _, hm⟩
  | jump B h1 h2 => simp [stepM]; exact ⟨hr, hm⟩
  | zero A B hA h1 h2 => simp [stepM]; exact ⟨hr, hm⟩
  | call A B C D q hq hA hB hC hD =>
    have hc := hf A (base + B) ((regs.drop C).take q.inn.length) mem hA (hr.sub _ _) hm
    have e : stepM im.rs f base at_ ⟨9, A, B, C, D⟩ regs mem = (at_ + 1, putAt regs D (f A (base + B) ((regs.drop C).take q.inn.length) mem).1, (f A (base + B) ((regs.drop C).take q.inn.length) mem).2.1, (f A (base + B) ((regs.drop C).take q.inn.length) mem).2.2) := by
      simp [stepM, rtAt_nat hq]
    rw [e]
    exact ⟨hr.put hc.1 _, hc.2⟩
  | reset A B q hq hA hB =>
    have e : stepM im.rs f base at_ ⟨10, A, B, 0, 0⟩ regs mem = (at_ + 1, regs, putAt mem (base + B) q.ini, 0) := by
      simp [stepM, rtAt_nat hq]
    rw [e]
    exact ⟨hr, hm.put (hini q (List.mem_of_getElem? hq)) _⟩
theorem loopM_rg {im : Im} (hini : ∀ q ∈ im.rs, ∀ v ∈ q.ini, -32768 ≤ v ∧ v ≤ 32767) {f : CallM} {k : Nat} {r : Rt} {base : Nat} (hr : OkR im.rs k r) (hf : CallRg k f) : ∀ (d at_ : Nat) (regs mem : List Int) (cnt : Nat), Rg regs → Rg mem →
    Rg (loopM im.rs f r base d at_ regs mem cnt).1 ∧ Rg (loopM im.rs f r base d at_ regs mem cnt).2.1
  | 0, at_, regs, mem, cnt, h1, h2 => ⟨h1, h2⟩
  | d + 1, at_, regs, mem, cnt, h1, h2 => by
    by_cases ha : at_ < r.code.length
    · have hi : r.code[at_]? = some r.code[at_] := by simp [ha]
      have hs := stepM_rg hini (base := base) (hr.code _ _ hi) hf h1 h2
      rw [loopM_step hi]
      exact loopM_rg hini hr hf d _ _ _ _ hs.1 hs.2
    · rw [loopM_end (by omega)]
      exact ⟨h1, h2⟩
theorem callM_rg {im : Im} (h : OkM im.rs) (hini : ∀ q ∈ im.rs, ∀ v ∈ q.ini, -32768 ≤ v ∧ v ≤ 32767) (hlen : im.rs.length ≤ im.rs.length) : ∀ f, f ≤ im.rs.length → CallRg f (callM im.rs f)
  | 0, _ => fun k base ins mem hk => by omega
  | f + 1, hfl => fun k base ins mem hk hi hm => by
    have hkl : k < im.rs.length := by omega
    have hq : im.rs[k]? = some im.rs[k] := by simp [hkl]
    have hg : im.rs.getD k rtZ = im.rs[k] := by simp [List.getD, hq]
    have hl := loopM_rg hini (base := base) (h k _ hq) (fun j b i m hj => callM_rg h hini hlen f (by omega) j b i m (by omega)) im.rs[k].code.length 0 (ins ++ List.replicate (im.rs[k].regs.toNat - ins.length) 0) mem 0 (fun v hv => by
      rcases List.mem_append.1 hv with h1 | h1
      · exact hi v h1
      · rw [List.eq_of_mem_replicate h1]; exact rg0) hm
    simp only [callM, hg]
    exact ⟨hl.1.sub _ _, hl.2⟩
theorem fitsV_rg {im : Im} (hG : GoodIm im) {t v : Int} (h : fitsV im.enums t v = true) : Rg1 v := by
  unfold fitsV at h
  unfold Rg1
  split at h
  · simp at h; omega
  · split at h
    · simp at h; omega
    · simp at h
      have : rgv im.enums (t - 3) ≤ 16 := by
        unfold rgv
        by_cases hj : (t - 3).toNat < im.enums.length
        · rw [List.getD_eq_getElem?_getD, List.getElem?_eq_getElem hj]; exact hG.en _ (List.getElem_mem hj)
        · rw [List.getD_eq_getElem?_getD, List.getElem?_eq_none (by omega)]; simp
      omega
theorem fitsL_rg {im : Im} (hG : GoodIm im) : ∀ {ts vs : List Int}, vs.length = ts.length → fitsL im.enums ts vs = true → Rg vs
  | [], [], _, _ => fun v hv => by cases hv
  | [], v :: vs, hl, _ => by simp at hl
  | t :: ts, [], hl, _ => by simp at hl
  | t :: ts, v :: vs, hl, h => fun x hx => by
    unfold fitsL at h
    simp only [Bool.and_eq_true] at h
    rcases List.mem_cons.1 hx with rfl | hx
    · exact fitsV_rg hG h.1
    · exact fitsL_rg hG (by simpa using hl) h.2 x hx
/-- A step keeps a memory's length and its words. -/
theorem stepR_mem {im : Im} (hG : GoodIm im) {mem row : List Int} {cnt : Int} (hl : mem.length = (lastR im).ini.length) (hr : Rg mem) : (stepR im mem cnt row).2.2.1.length = (lastR im).ini.length ∧ Rg (stepR im mem cnt row).2.2.1 := by
  unfold stepR
  split
  · exact ⟨hl, hr⟩
  · rename_i h1
    split
    · exact ⟨hl, hr⟩
    · rename_i h2
      have hne := hG.ne
      have h1' : row.length = (lastR im).inn.length := by omega
      have h3 := (callM_ok hG.ok im.rs.length (im.rs.length - 1) (lastR im) 0 row mem (by omega) hG.last h1' (by omega)).2
      have h4 := callM_rg hG.ok hG.ini (Nat.le_refl _) im.rs.length (Nat.le_refl _) (im.rs.length - 1) 0 row mem (by omega) (fitsL_rg hG h1' (by cases hx : fitsL im.enums (lastR im).inn row with | true => rfl | false => exact absurd hx h2)) hr
      exact ⟨h3.trans hl, h4.2⟩
end Go.Ac
end
