/- CpuAnew by data. -/
import Derived.Test.YtjkcpgkpmklcaaaGreatDoorCwNM
import Derived.Test.YtjkcpgkpmklcaaaGreatDoorCuTM
import Derived.Laws.RangeAny
set_option linter.unusedVariables false
set_option linter.unusedSimpArgs false
section
set_option maxRecDepth 20000
namespace Go.Ac
open Go.Proofs Go.Lib
section
attribute [local simp] Hp.get_set
/-! ### Memory taken over -/
def shO (n c : Nat) (o : Ob) : Ob := ⟨o.gen + c, o.ro, shiftVs n c o.cells⟩
theorem shiftH_eq (n c : Nat) (l : List (Nat × Ob)) : shiftH n c l = l.map fun p => (p.1 + n, shO n c p.2) := rfl
theorem Hp.get_sets_mem : ∀ (wr : List (Nat × Ob)) (h : Hp) (j : Nat) (o : Ob), (∀ p, p ∈ wr → p.1 = j → p.2 = o) → (∃ p, p ∈ wr ∧ p.1 = j) → (Hp.sets h wr).get j = some o
 | [], h, j, o, _, hx => by obtain ⟨p, hp, _⟩ := hx; cases hp
 | (k, x) :: r, h, j, o, ho, hx => by
  simp only [Hp.sets]
  by_cases hr : ∃ p, p ∈ r ∧ p.1 = j
  ·exact Hp.get_sets_mem r _ j o (fun p hp => ho p (List.mem_cons_of_mem _ hp)) hr
  ·rw [Hp.get_sets_ne r _ j fun p hp he => hr ⟨p, hp, he⟩]
   obtain ⟨p, hp, he⟩ := hx
   rcases List.mem_cons.1 hp with rfl | hp
   ·simp only at he
    subst he
    rw [Hp.get_set_self, ← ho _ (List.mem_cons_self ..) rfl]
   ·exact absurd ⟨p, hp, he⟩ hr
theorem import_new {hp : Hp} {look : Look} {n c m id : Nat} {o : Ob} (h : id < m) (ho : look id = some o) : (hp.sets (shiftH n c (wrOf look (List.range m)))).get (id + n) = some (shO n c o) := by
 refine Hp.get_sets_mem _ _ _ _ (fun p hp hid => ?_) ⟨(id + n, shO n c o), ?_, rfl⟩
 ·rw [shiftH_eq, List.mem_map] at hp
  obtain ⟨x, hx, rfl⟩ := hp
  have h2 := (mem_wrOf2.1 hx).2
  have h3 : x.1 = id := by simp only at hid; omega
  rw [h3, ho] at h2
  rw [Option.some.inj h2]
 ·rw [shiftH_eq, List.mem_map]
  exact ⟨(id, o), mem_wrOf2.2 ⟨List.mem_range.2 h, ho⟩, rfl⟩
theorem import_old {hp : Hp} {look : Look} {n c m id : Nat} (h : id < n) : (hp.sets (shiftH n c (wrOf look (List.range m)))).get id = hp.get id := by
 refine Hp.get_sets_ne _ _ _ (fun p hp hid => ?_)
 rw [shiftH_eq, List.mem_map] at hp
 obtain ⟨x, hx, rfl⟩ := hp
 simp only at hid; omega
theorem shiftVs_cI (n c : Nat) : ∀ l : List Int, shiftVs n c (cI l) = cI l
 | [] => rfl
 | x :: r => by
  have := shiftVs_cI n c r
  show shiftV n c (dI x) :: shiftVs n c (cI r) = _
  rw [this]; rfl
theorem Mc.shift {im : Im} {hp hq : Hp} {idc gc mid mg n c m : Nat} {mem : List Int} {cnt : Int} (h : Mc im hq idc gc mid mg mem cnt) (h1 : idc < m) (h2 : mid < m) :
  Mc im (hp.sets (shiftH n c (wrOf hq.get (List.range m)))) (idc + n) (gc + c) (mid + n) (mg + c) mem cnt := by
 obtain ⟨⟨cap, hcap, hC⟩, hm, d2⟩ := h
 refine ⟨⟨cap, hcap, ?_⟩, ?_, by omega⟩
 ·rw [import_new h1 hC]
  simp [shO, shiftVs, shiftV, dI]
 ·rw [import_new h2 hm]
  simp only [shO, shiftVs_cI]

theorem shiftVs_str (n c : Nat) : ∀ l : List UInt8, shiftVs n c (strRow l) = strRow l
 | [] => rfl
 | x :: r => by
  have := shiftVs_str n c r
  show shiftV n c (V.d (.int .u8 x.toNat)) :: shiftVs n c (strRow r) = _
  rw [this]; rfl
/-- The text before line i of routine j. -/
def baseT (im : Im) (j : Nat) : List UInt8 := endL ((wEnums ++ nums im.enums) :: (im.rs.take j).flatMap rtL)
def PT (im : Im) (j i : Nat) (r : Rt) : List UInt8 := baseT im j ++ endL ((rtL r).take i)
theorem baseT_zero (im : Im) : baseT im 0 = wEnums ++ nums im.enums ++ [10] := by simp [baseT, endL]
theorem PT_zero (im : Im) (j : Nat) (r : Rt) : PT im j 0 r = baseT im j := by simp [PT, endL]
theorem PT_succ {im : Im} {j i : Nat} {r : Rt} {l : List UInt8} (h : (rtL r)[i]? = some l) : PT im j (i + 1) r = PT im j i r ++ (l ++ [10]) := by
 unfold PT
 rw [List.take_add_one, h, endL_app, ← List.append_assoc]
 simp [endL]
theorem baseT_succ {im : Im} {j : Nat} {r : Rt} (h : im.rs[j]? = some r) : baseT im (j + 1) = PT im j (rtL r).length r := by
 unfold PT baseT
 rw [List.take_length, List.take_add_one, h, List.flatMap_append, ← endL_app]
 simp
theorem baseT_all (im : Im) : baseT im im.rs.length = txt im := by
 unfold baseT txt imL; rw [List.take_length]
theorem baseT_len {im : Im} (j : Nat) : (baseT im j).length ≤ (txt im).length := by
 have : txt im = baseT im j ++ endL ((im.rs.drop j).flatMap rtL) := by
  unfold txt imL baseT
  rw [← endL_app]
  conv => lhs; rw [← List.take_append_drop j im.rs, List.flatMap_append]
  rfl
 rw [this, List.length_append]; omega
theorem PT_len {im : Im} {j : Nat} {r : Rt} (h : im.rs[j]? = some r) (i : Nat) : (PT im j i r).length ≤ (txt im).length := by
 have h1 := baseT_len (im := im) (j + 1)
 rw [baseT_succ h] at h1
 have : PT im j (rtL r).length r = PT im j i r ++ endL ((rtL r).drop i) := by
  unfold PT
  rw [List.append_assoc, ← endL_app, List.take_append_drop, List.take_length]
 rw [this, List.length_append] at h1; omega
theorem line_le {im : Im} {j i : Nat} {r : Rt} {l : List UInt8} (h : im.rs[j]? = some r) (hl : (rtL r)[i]? = some l) : l.length ≤ (txt im).length := by
 have := PT_len h (i + 1)
 rw [PT_succ hl] at this
 simp at this; omega

theorem z54_eq : zOf 54 = some [.d (.str []), z0, z0, z0, z0, z0] := by kernel_rfl
theorem kT_four (o : Nat) : ∃ a b c d, kT o = [a, b, c, d] := by unfold kT; split <;> exact ⟨_, _, _, _, rfl⟩
theorem row_four {op : Int} {o : Nat} {a b c d : Int} (h : IsO op) (ho : op = o) (hk : kT o = [a, b, c, d]) : rowO op = .agg [.d (.str (wordI op)), dI a, dI b, dI c, dI d, dI (cnO op)] := by
 obtain ⟨rfl, rfl, rfl, rfl⟩ : a = (kT o).getD 0 0 ∧ b = (kT o).getD 1 0 ∧ c = (kT o).getD 2 0 ∧ d = (kT o).getD 3 0 := by rw [hk]; exact ⟨rfl, rfl, rfl, rfl⟩
 have : o = op.toNat := by omega
 subst this
 rcases h with rfl | rfl | rfl | rfl | rfl | rfl | rfl | rfl | rfl | rfl <;> rfl
theorem text_bad {im : Im} (hs : im.sz ≤ MB) (hok : ∀ r ∈ im.rs, RtOK r) (h : chkE im ≠ 0) : den Tryz.prog Cp.cfg 6 [aM im] = some (.tuple [dS [], dI (chkE im)]) := by
 have hc := check_den im hs hok
 simp only [aM, Im.cells, List.map_cons, List.map_nil, dI] at hc
 refine den_wp Tryz.func6 rfl (by kernel_rfl) rfl rfl ?_
 refine wkcikt (jn @dI.eq_1 (jn @dS.eq_1 (jn @aM.eq_1 (jn @Im.cells.eq_1 (jn @hc (jn @h @int_bne)))))) ?_
 show retQ _ _ _ _ _
 exact ⟨.inr rfl, _, _, rfl, rfl⟩

set_option maxHeartbeats 16000000 in
theorem text6 {im : Im} (hc : chkE im = 0) (hs : im.sz ≤ MB) (hok : ∀ r ∈ im.rs, RtOK r) (he : ∀ x ∈ im.enums, NumOK x) (hel : im.enums.length ≤ 20000) (hrl : im.rs.length ≤ 100000) (hr : ∀ r ∈ im.rs, RtT r) (hop : ∀ r ∈ im.rs, ∀ i ∈ r.code, OpF i) (hw : ∀ r ∈ im.rs, wt r ≤ 20000)
  (hlen : (txt im).length ≤ 4194304) : den Tryz.prog Cp.cfg 6 [aM im] = some (.tuple [dS (txt im), dI 0]) := by
 have hk := check_den im hs hok
 rw [hc] at hk
 simp only [dI, aM, Im.cells, List.map_cons, List.map_nil] at hk
 refine den_wp Tryz.func6 rfl (by kernel_rfl) rfl rfl ?_
 obtain ⟨c0, hc0⟩ : ∃ c0 : Nat, c0 = 1 := ⟨_, rfl⟩
 refine wkceikt (jn @envOf.eq_1 (jn @envOf.eq_2 (jn @dI.eq_1 (jn @aM.eq_1 (jn @Im.cells.eq_1 (jn @hk (jn @ti25 (jn @ti29 (jn @int_bne @ti22))))))))) ?_
 apply WP.gen
 intro hp1 wl1 h1 h2
 have i1 : hp1.get 0 = some ⟨0, false, [V.d (.slice (encI im.enums)), V.d (.slice (encR im.rs))]⟩ := by rw [h1]; simp [Hp.get]
 clear h1 h2
 obtain ⟨q, g0, hI1, hqv, hqn, _, hqz⟩ := line15n (hp := []) (n := 0) (c := 0) (w := wEnums) (l := im.enums) (by simp [wEnums]) he hel
 simp only [dI, dS, dL, wEnums] at hI1
 have hI2 : closeT noLook q.v = none := by rw [hqv]; rfl
 have hI3 : shiftV 1 1 q.v = .osl 1 (g0 + 1) 0 (strRow (wEnums ++ nums im.enums ++ [10])).length 1 none := by rw [hqv]; simp [shiftV]
 obtain ⟨W1, hI4⟩ : ∃ W, shiftH 1 1 (wrOf q.hp.get (List.range q.n)) = W := ⟨_, rfl⟩
 have i2 : (hp1.sets W1).get 0 = some ⟨0, false, [V.d (.slice (encI im.enums)), V.d (.slice (encR im.rs))]⟩ := by rw [← hI4, import_old (by omega)]; exact i1
 have hz : (hp1.sets W1).get 1 = some ⟨g0 + 1, false, strRow (wEnums ++ nums im.enums ++ [10])⟩ := by
  rw [← hI4]
  have := import_new (hp := hp1) (n := 1) (c := 1) hqn hqz
  rw [show (0 + 1) = 1 from rfl] at this
  rw [this]
  simp only [shO, shiftVs_str]
 obtain ⟨B, hB⟩ : ∃ B, B = strRow (wEnums ++ nums im.enums ++ [10]) := ⟨_, rfl⟩
 rw [← hB] at hI3 hz
 refine wkceikt (jn @dI.eq_1 (jn @i1 (jn @i2 (jn @ti25 (jn @ti22 (jn @ti23 @encR_len)))))) ?_
 apply WP.gen
 intro hp2 wl2 h1 h2
 rw [← h1] at i2 hz
 clear h1 h2 hI1 hI2 hI3 hI4 i1
 obtain ⟨N, hN⟩ : ∃ N, N = 1 + q.n := ⟨_, rfl⟩
 have hN2 : 2 ≤ N := by omega
 rw [← hN]
 clear hN
 obtain ⟨c2, hc2⟩ : ∃ c2, c2 = 1 + q.c := ⟨_, rfl⟩
 rw [← hc2]
 clear hc2
 apply WP.loop' (I := fun D s => ∃ (j gB : Nat) (B : List V) (hp3 : Hp) (c3 : Nat) (wl3 : List Nat), j + D = im.rs.length ∧ B = strRow (baseT im j) ∧ hp3.get 1 = some ⟨gB, false, B⟩ ∧ s = ⟨[(5, .osl 1 gB 0 B.length 1 none), (24, .d (.slice (encR im.rs))), (25, dI im.rs.length), (26, dI j)], hp3, N, c3, 0, wl3⟩) (d := im.rs.length)
 ·exact ⟨0, g0 + 1, B, hp2, c2, wl2, by simp, by rw [hB, baseT_zero], hz, by rfl⟩
 clear hz hB i2
 rintro D _ ⟨j, gB, B, hp3, c3, wl3, hj, hB, z3, rfl⟩
 refine wkeikt (@dI.eq_1) ?_
 show WP _ _ _ _ _ _
 refine WP.cond _ rfl (fun hb => ?_) (fun hb => ?_)
 ·simp at hb
  have hb' : j < im.rs.length := by omega
  obtain ⟨r, hrj⟩ : ∃ r, im.rs[j]? = some r := ⟨im.rs[j], by simp⟩
  have hrm := List.mem_of_getElem? hrj
  have hrow : (encR im.rs)[j]? = some r.cells := encR_at hrj
  have hix := idx_lt hb'
  have hwj := w_succ hb' (by omega)
  have hRr := hr r hrm
  have hwr := hw r hrm
  unfold wt at hwr
  obtain ⟨y0, y1, y2, y3, y4⟩ := rtL_at r
  have hrs : r.nm.length ≤ 4194304 := by have := line_le hrj y0; simp at this; omega
  refine wkceikt (jn @dI.eq_1 (jn @hix (jn @hrow (jn @encR_len (jn @Rt.cells.eq_1 (jn @ti23 @ti43)))))) ?_
  apply WP.gen
  intro hp4 wl4 h1 h2
  have x4 : hp4.get N = some ⟨c3, false, [V.d (.str r.nm), V.d (.slice (encI r.inn)), V.d (.slice (encI r.out)), V.d (.int .i64 r.regs), V.d (.slice (encI r.ini)), V.d (.slice (encC r.code))]⟩ := by rw [h1, Hp.get_set_self]
  have u4 : hp4.get 1 = some ⟨gB, false, B⟩ := by rw [h1, Hp.get_set_ne _ _ _ _ (by omega), Hp.get_set_ne _ _ _ _ (by omega)]; exact z3
  clear h1 h2
  rw [← PT_zero im j r] at hB
  have n1 : (N < N + 1) = True := eq_true (by omega)
  obtain ⟨nA, hnA⟩ : ∃ nA, nA = N + 1 := ⟨_, rfl⟩
  have hNA : N < nA := by omega
  rw [← hnA]
  clear hnA
  obtain ⟨cA, hcA⟩ : ∃ cA, cA = c3 + 1 := ⟨_, rfl⟩
  rw [← hcA]
  clear hcA
  obtain ⟨q0, g0, hT1, hv, hn, hT2, hki, hfr, hz⟩ := (line15z (hp := hp4) (n := nA) (c := cA) (id := 1) (g := gB) (bs := B) (w := (wRoutine ++ 32 :: r.nm)) (by omega) u4 (by rw [hB, strRow_len]; have := PT_len hrj 0; omega) (by simp [wRoutine]; omega)).caller (by omega)
  simp only [dI, dS, dL, wRoutine, List.cons_append, List.nil_append, List.append_assoc] at hT1
  have x0 := (hfr N (by omega) (by omega)).trans x4
  obtain ⟨B0, hB0⟩ : ∃ B', B' = B ++ strRow ((wRoutine ++ 32 :: r.nm) ++ nums [] ++ [10]) := ⟨_, rfl⟩
  rw [← hB0] at hv hz
  have hB0' : B0 = strRow (PT im j 1 r) := by rw [hB0, hB, ← strRow_app, PT_succ y0]; simp [nums]
  clear hB0
  have m1 : (N < nA) = True := eq_true (by omega)
  have m2 : (1 < nA) = True := eq_true (by omega)
  have hL8 : (8 + r.nm.length ≤ 9223372036854775807) = True := eq_true (by omega)
  refine wkceikt (jn @dI.eq_1 (jn @u4 (jn @x4 (jn @x0 (jn @hv (jn @hL8 (jn @ti43 (jn @ti22 (jn @ti9 (jn @ti41 (jn @m1 (jn @m2 (jn @encC_len (jn @fillV.eq_1 (jn @fillV.eq_2 (jn @Value.oneCell'.eq_def (jn @closeParts.eq_1 (jn @closeParts.eq_2 @cl2.eq_def)))))))))))))))))) ?_
  apply WP.gen
  intro hpB0 wlB0 h1 h2
  rw [← h1] at x0 hz
  clear h1 h2 hT1 hT2 hki hfr hv u4 x4 hB m1 m2
  obtain ⟨n0, hn0⟩ : ∃ n', n' = nA + (q0.n - (nA)) := ⟨_, rfl⟩
  have hN0 : N < n0 := by omega
  rw [← hn0]
  clear hn hn0
  obtain ⟨c0', hc0⟩ : ∃ n', n' = cA + (q0.c - (cA)) := ⟨_, rfl⟩
  rw [← hc0]
  clear hc0
  have u0 := hz
  clear hz
  obtain ⟨q1, g1, hT1, hv, hn, hT2, hki, hfr, hz⟩ := (line15d (hp := hpB0) (n := n0) (c := c0') (id := 1) (g := g0) (bs := B0) (w := wIn) (l := r.inn) (by omega) u0 (by rw [hB0', strRow_len]; have := PT_len hrj 1; omega) (by simp [wIn]) hRr.inn (by omega)).caller (by omega)
  simp only [dI, dS, dL, wIn] at hT1
  have x1 := (hfr N (by omega) (by omega)).trans x0
  obtain ⟨B1, hB1⟩ : ∃ B', B' = B0 ++ strRow (wIn ++ nums r.inn ++ [10]) := ⟨_, rfl⟩
  rw [← hB1] at hv hz
  have hB1' : B1 = strRow (PT im j 2 r) := by rw [hB1, hB0', ← strRow_app, PT_succ y1]
  clear hB1
  have m1 : (N < n0) = True := eq_true (by omega)
  have m2 : (1 < n0) = True := eq_true (by omega)
  refine wkceikt (jn @dI.eq_1 (jn @u0 (jn @x0 (jn @x1 (jn @hv (jn @ti43 (jn @ti22 (jn @ti9 (jn @ti41 (jn @m1 (jn @m2 (jn @encC_len (jn @fillV.eq_1 (jn @fillV.eq_2 (jn @Value.oneCell'.eq_def (jn @closeParts.eq_1 (jn @closeParts.eq_2 @cl2.eq_def))))))))))))))))) ?_
  apply WP.gen
  intro hpB1 wlB1 h1 h2
  rw [← h1] at x1 hz
  clear h1 h2 hT1 hT2 hki hfr hv u0 x0 hB0' m1 m2
  obtain ⟨n1, hn1⟩ : ∃ n', n' = n0 + (q1.n - (n0)) := ⟨_, rfl⟩
  have hN1 : N < n1 := by omega
  rw [← hn1]
  clear hn hn1
  obtain ⟨c1', hc1⟩ : ∃ n', n' = c0' + (q1.c - (c0')) := ⟨_, rfl⟩
  rw [← hc1]
  clear hc1
  have u1 := hz
  clear hz
  obtain ⟨q2, g2, hT1, hv, hn, hT2, hki, hfr, hz⟩ := (line15d (hp := hpB1) (n := n1) (c := c1') (id := 1) (g := g1) (bs := B1) (w := wOut) (l := r.out) (by omega) u1 (by rw [hB1', strRow_len]; have := PT_len hrj 2; omega) (by simp [wOut]) hRr.out (by omega)).caller (by omega)
  simp only [dI, dS, dL, wOut] at hT1
  have x2 := (hfr N (by omega) (by omega)).trans x1
  obtain ⟨B2, hB2⟩ : ∃ B', B' = B1 ++ strRow (wOut ++ nums r.out ++ [10]) := ⟨_, rfl⟩
  rw [← hB2] at hv hz
  have hB2' : B2 = strRow (PT im j 3 r) := by rw [hB2, hB1', ← strRow_app, PT_succ y2]
  clear hB2
  have m1 : (N < n1) = True := eq_true (by omega)
  have m2 : (1 < n1) = True := eq_true (by omega)
  refine wkceikt (jn @dI.eq_1 (jn @u1 (jn @x1 (jn @x2 (jn @hv (jn @ti43 (jn @ti22 (jn @ti9 (jn @ti41 (jn @m1 (jn @m2 (jn @encC_len (jn @fillV.eq_1 (jn @fillV.eq_2 (jn @Value.oneCell'.eq_def (jn @closeParts.eq_1 (jn @closeParts.eq_2 @cl2.eq_def))))))))))))))))) ?_
  apply WP.gen
  intro hpB2 wlB2 h1 h2
  rw [← h1] at x2 hz
  clear h1 h2 hT1 hT2 hki hfr hv u1 x1 hB1' m1 m2
  obtain ⟨n2, hn2⟩ : ∃ n', n' = n1 + (q2.n - (n1)) := ⟨_, rfl⟩
  have hN2 : N < n2 := by omega
  rw [← hn2]
  clear hn hn2
  obtain ⟨c2', hc2⟩ : ∃ n', n' = c1' + (q2.c - (c1')) := ⟨_, rfl⟩
  rw [← hc2]
  clear hc2
  have u2 := hz
  clear hz
  obtain ⟨q3, g3, hT1, hv, hn, hT2, hki, hfr, hz⟩ := (line15o (hp := (hpB2.set n2 ⟨c2', false, [V.d (.int .i64 r.regs)]⟩)) (n := n2 + 1) (c := c2' + 1) (id := 1) (g := g2) (bs := B2) (w := wRegs) (k := n2) (gk := c2') (l := [r.regs]) (by omega) (by rw [Hp.get_set_ne _ _ _ _ (by omega)]; exact u2) (by rw [hB2', strRow_len]; have := PT_len hrj 3; omega) (by simp [wRegs]) (by simpa using hRr.regs) (by simp) (by omega) (by omega) (Hp.get_set_self _ _ _)).caller (by omega)
  simp only [dI, dS, dL, wRegs, List.length_cons, List.length_nil, Nat.zero_add] at hT1
  have x3 := (hfr N (by omega) (by omega)).trans ((Hp.get_set_ne _ _ _ _ (by omega)).trans x2)
  obtain ⟨B3, hB3⟩ : ∃ B', B' = B2 ++ strRow (wRegs ++ nums [r.regs] ++ [10]) := ⟨_, rfl⟩
  rw [← hB3] at hv hz
  have hB3' : B3 = strRow (PT im j 4 r) := by rw [hB3, hB2', ← strRow_app, PT_succ y3]
  clear hB3
  have m1 : (N < n2) = True := eq_true (by omega)
  have m2 : (1 < n2) = True := eq_true (by omega)
  refine wkceikt (jn @dI.eq_1 (jn @u2 (jn @x2 (jn @x3 (jn @hv (jn @ti43 (jn @ti22 (jn @ti9 (jn @ti41 (jn @m1 (jn @m2 (jn @encC_len (jn @fillV.eq_1 (jn @fillV.eq_2 (jn @Value.oneCell'.eq_def (jn @closeParts.eq_1 (jn @closeParts.eq_2 @cl2.eq_def))))))))))))))))) ?_
  apply WP.gen
  intro hpB3 wlB3 h1 h2
  rw [← h1] at x3 hz
  clear h1 h2 hT1 hT2 hki hfr hv u2 x2 hB2' m1 m2
  obtain ⟨n3, hn3⟩ : ∃ n', n' = n2 + 1 + (q3.n - (n2 + 1)) := ⟨_, rfl⟩
  have hN3 : N < n3 := by omega
  rw [← hn3]
  clear hn hn3
  obtain ⟨c3', hc3⟩ : ∃ n', n' = c2' + 1 + (q3.c - (c2' + 1)) := ⟨_, rfl⟩
  rw [← hc3]
  clear hc3
  have u3 := hz
  clear hz
  obtain ⟨q4, g4, hT1, hv, hn, hT2, hki, hfr, hz⟩ := (line15d (hp := hpB3) (n := n3) (c := c3') (id := 1) (g := g3) (bs := B3) (w := wInit) (l := r.ini) (by omega) u3 (by rw [hB3', strRow_len]; have := PT_len hrj 4; omega) (by simp [wInit]) hRr.ini (by omega)).caller (by omega)
  simp only [dI, dS, dL, wInit] at hT1
  have x4 := (hfr N (by omega) (by omega)).trans x3
  obtain ⟨B4, hB4⟩ : ∃ B', B' = B3 ++ strRow (wInit ++ nums r.ini ++ [10]) := ⟨_, rfl⟩
  rw [← hB4] at hv hz
  have hB4' : B4 = strRow (PT im j 5 r) := by rw [hB4, hB3', ← strRow_app, PT_succ y4]
  clear hB4
  have m1 : (N < n3) = True := eq_true (by omega)
  have m2 : (1 < n3) = True := eq_true (by omega)
  refine wkceikt (jn @dI.eq_1 (jn @u3 (jn @x3 (jn @x4 (jn @hv (jn @ti43 (jn @ti22 (jn @ti9 (jn @ti41 (jn @m1 (jn @m2 (jn @encC_len (jn @fillV.eq_1 (jn @fillV.eq_2 (jn @Value.oneCell'.eq_def (jn @closeParts.eq_1 (jn @closeParts.eq_2 @cl2.eq_def))))))))))))))))) ?_
  apply WP.gen
  intro hpB4 wlB4 h1 h2
  rw [← h1] at x4 hz
  clear h1 h2 hT1 hT2 hki hfr hv u3 x3 hB3' m1 m2
  obtain ⟨n4, hn4⟩ : ∃ n', n' = n3 + (q4.n - (n3)) := ⟨_, rfl⟩
  have hN4 : N < n4 := by omega
  rw [← hn4]
  clear hn hn4
  obtain ⟨c4', hc4⟩ : ∃ n', n' = c3' + (q4.c - (c3')) := ⟨_, rfl⟩
  rw [← hc4]
  clear hc4
  have u4 := hz
  clear hz
  clear x4 y0 y1 y2 y3 y4
  apply WP.loop' (I := fun D s => ∃ (p gC : Nat) (C : List V) (hp5 : Hp) (c5 : Nat) (wl5 : List Nat), p + D = r.code.length ∧ C = strRow (PT im j (5 + p) r) ∧ hp5.get 1 = some ⟨gC, false, C⟩ ∧ s = ⟨[(5, .osl 1 gC 0 C.length 1 none), (24, .d (.slice (encR im.rs))), (25, dI im.rs.length), (26, dI j), (53, .d (.slice (encC r.code))), (54, dI r.code.length), (55, dI p)], hp5, n4, c5, 0, wl5⟩) (d := r.code.length)
  ·exact ⟨0, g4, B4, hpB4, c4', wlB4, by simp, hB4', u4, by rfl⟩
  clear u4 hB4'
  rintro D2 _ ⟨p, gC, C, hp5, c5, wl5, hpD, hC, z5, rfl⟩
  refine wkeikt (@dI.eq_1) ?_
  show WP _ _ _ _ _ _
  refine WP.cond _ rfl (fun hb => ?_) (fun hb => ?_)
  ·simp at hb
   have hb2 : p < r.code.length := by omega
   obtain ⟨i, hi⟩ : ∃ i, r.code[p]? = some i := ⟨r.code[p], by simp⟩
   have him := List.mem_of_getElem? hi
   have hF := hop r hrm i him
   have hU := hRr.code i him
   have hF1 := hF.lo
   have hF2 := hF.hi
   obtain ⟨o, ho⟩ : ∃ o : Nat, i.op = o := ⟨i.op.toNat, by omega⟩
   have ho1 : 1 ≤ o := by omega
   have ho2 : o ≤ 10 := by omega
   have hio : IsO i.op := by unfold IsO; omega
   have hrowC := encC_at hi
   have hixC := idx_lt hb2
   have hwp := w_succ hb2 (by omega)
   have hlnC := line_le hrj (rtL_code hi)
   obtain ⟨k0, k1, k2, k3, hk0⟩ := kT_four o
   have hkn := known_den hio
   have hfl := fields_den i
   rw [row_four hio ho hk0] at hkn
   obtain ⟨wo, hwo⟩ : ∃ w, w = wordI i.op := ⟨_, rfl⟩
   obtain ⟨cn, hcn⟩ : ∃ w, w = cnO i.op := ⟨_, rfl⟩
   rw [← hwo, ← hcn] at hkn
   simp only [aI, I.cells, List.map_cons, List.map_nil, dI, dB] at hkn hfl
   refine wkceikt (jn @dI.eq_1 (jn @hixC (jn @hrowC (jn @encC_len (jn @I.cells.eq_1 (jn @hkn (jn @hfl (jn @ti41 (jn @ti45 (jn @ti54 (jn @ti52 (jn @z52_eq (jn @z54_eq @z0.eq_1))))))))))))) ?_
   apply WP.gen
   intro hp6 wl6 h1 h2
   have r6 : hp6.get (n4 + 1) = some ⟨c5 + 1, false, [V.d (.str wo), V.d (.int .i64 k0), V.d (.int .i64 k1), V.d (.int .i64 k2), V.d (.int .i64 k3), V.d (.int .i64 cn)]⟩ := by rw [h1, Hp.get_set_ne _ _ _ _ (by omega), Hp.get_set_self]
   have o6 : hp6.get (n4 + 2) = some ⟨c5 + 2, false, []⟩ := by rw [h1, Hp.get_set_self]
   have u6 : hp6.get 1 = some ⟨gC, false, C⟩ := by rw [h1, Hp.get_set_ne _ _ _ _ (by omega), Hp.get_set_ne _ _ _ _ (by omega), Hp.get_set_ne _ _ _ _ (by omega), Hp.get_set_ne _ _ _ _ (by omega), Hp.get_set_ne _ _ _ _ (by omega)]; exact z5
   clear h1 h2 hkn hfl z5
   obtain ⟨F, hFe⟩ : ∃ F, F = [V.d (.int .i64 i.a), V.d (.int .i64 i.b), V.d (.int .i64 i.c), V.d (.int .i64 i.d)] := ⟨_, rfl⟩
   obtain ⟨R, hRe⟩ : ∃ R, R = [V.d (.str wo), V.d (.int .i64 k0), V.d (.int .i64 k1), V.d (.int .i64 k2), V.d (.int .i64 k3), V.d (.int .i64 cn)] := ⟨_, rfl⟩
   rw [← hFe]
   rw [← hRe] at r6
   have hR0 : ∀ _ : 0 < R.length, R[0] = V.d (.str wo) := fun _ => by subst hRe; rfl
   have hR00 : R.head? = some (V.d (.str wo)) := by rw [hRe]; rfl
   have hFl : F.length = 4 := by rw [hFe]; rfl
   have hRl : R.length = 6 := by rw [hRe]; rfl
   have hcase : ∀ q < 4, ∃ x y, (kT o)[q]? = some x ∧ R[1 + q]? = some (V.d (.int .i64 x)) ∧ F[q]? = some (V.d (.int .i64 y)) ∧ y = [i.a, i.b, i.c, i.d].getD q 0 := fun q hq => by
    rw [hk0, hRe, hFe]
    match q, hq with
    | 0, _ => exact ⟨_, _, rfl, rfl, rfl, rfl⟩
    | 1, _ => exact ⟨_, _, rfl, rfl, rfl, rfl⟩
    | 2, _ => exact ⟨_, _, rfl, rfl, rfl, rfl⟩
    | 3, _ => exact ⟨_, _, rfl, rfl, rfl, rfl⟩
   obtain ⟨G5, hG5⟩ : ∃ G5, G5 = c5 + 1 := ⟨_, rfl⟩
   rw [← hG5] at r6 ⊢
   have q1 : (n4 + 1 < n4 + 3) = True := eq_true (by omega)
   have q2 : (n4 + 2 < n4 + 3) = True := eq_true (by omega)
   have q3 : (n4 + 2 = n4 + 1) = False := eq_false (by omega)
   have q4 : (n4 + 3 = n4 + 2) = False := eq_false (by omega)
   have q5 : (n4 + 2 = n4 + 3) = False := eq_false (by omega)
   have q6 : (n4 + 1 = n4 + 2) = False := eq_false (by omega)
   have q7 : (n4 + 1 = n4 + 3) = False := eq_false (by omega)
   apply WP.loop' (I := fun D s => ∃ (q gl : Nat) (hp7 : Hp) (c7 : Nat) (wl7 : List Nat), q + D = 4 ∧ hp7.get (n4 + 2) = some ⟨gl, false, cI ((plT o q).map fun k => [i.a, i.b, i.c, i.d].getD k 0)⟩ ∧ hp7.get (n4 + 1) = some ⟨G5, false, R⟩ ∧ hp7.get 1 = some ⟨gC, false, C⟩ ∧
    s = ⟨[(5, .osl 1 gC 0 C.length 1 none), (10, .ptr (n4 + 1) G5 0), (12, .osl (n4 + 2) gl 0 (plT o q).length 1 none), (24, .d (.slice (encR im.rs))), (25, dI im.rs.length), (26, dI j), (53, .d (.slice (encC r.code))), (54, dI r.code.length), (55, dI p), (66, .agg F), (67, dI q)], hp7, n4 + 3, c7, 0, wl7⟩) (d := 4)
   ·exact ⟨0, c5 + 2, hp6, _, wl6, rfl, o6, r6, u6, by rfl⟩
   clear r6 o6 u6
   rintro D3 _ ⟨q, gl, hp7, c7, wl7, hq, o7, r7, u7, rfl⟩
   refine wkeikt (@dI.eq_1) ?_
   show WP _ _ _ _ _ _
   refine WP.cond _ rfl (fun hb => ?_) (fun hb => ?_)
   ·simp at hb
    have hq4 : q < 4 := by omega
    obtain ⟨x, y, hx, hRx, hFy, hy⟩ := hcase q hq4
    have hixq : idx (q : Int) 4 = some q := idx_lt hq4
    have hwq := w_succ hq4 (by omega)
    have hps := plT_succ hx
    by_cases hx0 : x = 0
    ·have hx0' : (x = 0) = True := eq_true hx0
     refine wkceikt (jn @dI.eq_1 (jn @hixq (jn @hRx (jn @hFy (jn @hFl (jn @hRl (jn @hx0' (jn @r7 (jn @q1 (jn @int_bne (jn @ti52 @ti54))))))))))) ?_
     refine loop_next (by simp [-addNew, hwq]; exact Is.rfl) ?_
     refine ⟨D3 - 1, by omega, q + 1, gl, _, _, _, by omega, ?_, ?_, ?_, by rw [hps, if_pos hx0, List.append_nil]; rfl⟩
     ·rw [Hp.get_trunc _ _ _ (by omega), o7, hps, if_pos hx0, List.append_nil]
     ·rw [Hp.get_trunc _ _ _ (by omega), r7]
     ·rw [Hp.get_trunc _ _ _ (by omega), u7]
    ·have hx0' : (x = 0) = False := eq_false hx0
     obtain ⟨L, hLe⟩ : ∃ L, L = cI ((plT o q).map fun k => [i.a, i.b, i.c, i.d].getD k 0) := ⟨_, rfl⟩
     obtain ⟨m, hme⟩ : ∃ m, m = (plT o q).length := ⟨_, rfl⟩
     have hml : m ≤ 4 := by have := plT_len o q; omega
     have hLl : L.length = m := by rw [hLe, cI_len, hme]; simp
     have hLt : List.take m L = L := List.take_of_length_le (by omega)
     have hLn : L ++ [V.d (.int .i64 y)] = cI ((plT o (q + 1)).map fun k => [i.a, i.b, i.c, i.d].getD k 0) := by rw [hLe, hps, if_neg hx0, List.map_append, cI_app, hy]; rfl
     have hfit : fitsB (m + 1) 8 = true := by simp [fitsB]; omega
     have hpn : (plT o (q + 1)).length = m + 1 := by rw [hps, if_neg hx0, hme]; simp
     rw [← hLe] at o7
     rw [← hme]
     refine wkceikt (jn @dI.eq_1 (jn @hixq (jn @hRx (jn @hFy (jn @hFl (jn @hRl (jn @hx0' (jn @r7 (jn @o7 (jn @q1 (jn @q2 (jn @q3 (jn @q4 (jn @q5 (jn @q6 (jn @q7 (jn @int_bne (jn @ti52 (jn @ti54 (jn @ti22 (jn @hLl (jn @hLt (jn @nble_d (jn @hfit (jn @fillV.eq_1 (jn @fillV.eq_2 (jn @Value.oneCell'.eq_def (jn @closeParts.eq_1 (jn @closeParts.eq_2 @cl2.eq_def))))))))))))))))))))))))))))) ?_
     refine loop_next (by simp [-addNew, hwq]; exact Is.rfl) ?_
     refine ⟨D3 - 1, by omega, q + 1, c7 + 1, _, _, _, by omega, ?_, ?_, ?_, by rw [hpn]; rfl⟩
     ·rw [Hp.get_trunc _ _ _ (by omega), Hp.get_set_self, hLn]
     ·rw [Hp.get_trunc _ _ _ (by omega), Hp.get_set_ne _ _ _ _ (by omega), Hp.get_set_ne _ _ _ _ (by omega), r7]
     ·rw [Hp.get_trunc _ _ _ (by omega), Hp.get_set_ne _ _ _ _ (by omega), Hp.get_set_ne _ _ _ _ (by omega), u7]
   ·simp at hb
    have hq4 : q = 4 := by omega
    subst hq4
    have hie : i = ⟨o, i.a, i.b, i.c, i.d⟩ := by rw [← ho]
    have hus : usedI i = (plT o 4).map fun k => [i.a, i.b, i.c, i.d].getD k 0 := by
     have := used_pl o i.a i.b i.c i.d ho1 ho2
     rw [← hie] at this; exact this
    rw [← hus] at o7
    have hul : (plT o 4).length = (usedI i).length := by rw [hus]; simp
    have hu4 := usedI_len i
    rw [hul]
    have hwl : wo.length ≤ 5 := by rw [hwo]; exact wordI_len _
    have hli : lnI i = wo ++ nums (usedI i) := by rw [hwo]; rfl
    obtain ⟨q9, g9, hT1, hv, hn, hT2, hki, hfr, hz⟩ := (line15o (hp := hp7) (n := n4 + 3) (c := c7) (id := 1) (g := gC) (bs := C) (w := wo) (k := n4 + 2) (gk := gl) (cp := none) (l := usedI i) (by omega) u7 (by rw [hC, strRow_len]; have := PT_len hrj (5 + p); omega) (by omega) hU (by omega) (by omega) (by omega) o7).caller (by omega)
    simp only [dI, dS, dL] at hT1
    obtain ⟨C9, hC9⟩ : ∃ B', B' = C ++ strRow (wo ++ nums (usedI i) ++ [10]) := ⟨_, rfl⟩
    rw [← hC9] at hv hz
    have hC9' : C9 = strRow (PT im j (5 + (p + 1)) r) := by rw [hC9, hC, ← strRow_app, ← hli, show 5 + (p + 1) = 5 + p + 1 by omega, PT_succ (rtL_code hi)]
    refine wkceikt (jn @dI.eq_1 (jn @r7 (jn @u7 (jn @hR0 (jn @hR00 (jn @hRl (jn @hv (jn @q1 (jn @q2 (jn @ti54 (jn @ti9 (jn @ti22 (jn @closeParts.eq_1 (jn @closeParts.eq_2 @cl2.eq_def)))))))))))))) ?_
    refine loop_next (by simp [-addNew, hwp]; exact Is.rfl) ?_
    refine ⟨D2 - 1, by omega, p + 1, g9, C9, _, _, _, by omega, hC9', ?_, by rfl⟩
    rw [Hp.get_trunc _ _ _ (by omega)]; exact hz
  ·simp at hb
   have hpl : p = r.code.length := by omega
   subst hpl
   obtain ⟨q9, g9, hT1, hv, hn, hT2, hki, hfr, hz⟩ := (line15z (hp := hp5) (n := n4) (c := c5) (id := 1) (g := gC) (bs := C) (w := wEnd) (by omega) z5 (by rw [hC, strRow_len]; have := PT_len hrj (5 + r.code.length); omega) (by simp [wEnd])).caller (by omega)
   simp only [dI, dS, dL, wEnd] at hT1
   obtain ⟨C9, hC9⟩ : ∃ B', B' = C ++ strRow (wEnd ++ nums [] ++ [10]) := ⟨_, rfl⟩
   rw [← hC9] at hv hz
   have hC9' : C9 = strRow (baseT im (j + 1)) := by rw [hC9, hC, ← strRow_app, baseT_succ hrj, rtL_length, show r.code.length + 6 = 5 + r.code.length + 1 by omega, PT_succ (rtL_end r)]
   refine wkceikt (jn @dI.eq_1 (jn @z5 (jn @hv (jn @closeParts.eq_1 (jn @closeParts.eq_2 @cl2.eq_def))))) ?_
   refine loop_next (by simp [-addNew, hwj]; exact Is.rfl) ?_
   refine ⟨D - 1, by omega, j + 1, g9, C9, _, _, _, by omega, hC9', ?_, by rfl⟩
   rw [Hp.get_trunc _ _ _ (by omega)]; exact hz
 ·simp at hb
  have hjl : j = im.rs.length := by omega
  subst hjl
  rw [baseT_all] at hB
  have hby := toBytes_row (txt im)
  rw [← hB] at hby
  have hBt : List.take B.length B = B := List.take_length
  refine wkceikt (jn @dI.eq_1 (jn @z3 (jn @hBt (jn @hby (jn @bytesV.eq_def (jn @conv_bs (jn @nble_d (jn @ti50 @ti9)))))))) ?_
  show retQ _ _ _ _ _
  exact ⟨.inr rfl, _, _, rfl, rfl⟩
end
end Go.Ac
end

section
set_option maxRecDepth 4000
namespace Go.Ac
open Go.Proofs

theorem eq_of_take {a b : List Int} (h : a.length = b.length) : (a.take a.length = b.take a.length) ↔ a = b := by
 rw [List.take_length, h, List.take_length]
theorem ints_den (a b : List Int) (ha : a.length ≤ MX) (hb0 : b.length ≤ MX) : den Tryz.prog Cp.cfg 10 [dL a, dL b] = some (dB (decide (a = b))) := by
 unfold MX at ha hb0
 refine den_wp Tryz.func10 rfl (by kernel_rfl) rfl rfl ?_
 by_cases hl : a.length = b.length
 case neg =>
  have hl2 : ((a.length : Int) = b.length) = False := eq_false (by omega)
  have hab : decide (a = b) = false := by simp; intro h; rw [h] at hl; exact hl rfl
  rw [hab]
  refine wkc (jn @dI.eq_1 (jn @dL.eq_1 (jn @hl (jn @hl2 @int_bne)))) ?_
  show retQ _ _ _ _ _
  exact ⟨.inr rfl, _, _, rfl, rfl⟩
 have hl2 : ((a.length : Int) = b.length) = True := eq_true (by omega)
 refine wkc (jn @dI.eq_1 (jn @dL.eq_1 (jn @hl (jn @hl2 @int_bne)))) ?_
 apply WP.loop' (I := fun D s => ∃ j : Nat, j + D = a.length ∧ a.take j = b.take j ∧ SE [(0, dL a), (1, dL b), (5, dI j)] [] 0 s) (d := a.length)
 ·exact ⟨0, by simp, by simp, SE.mk (by simp [dI, dL]) rfl⟩
 rintro D _ ⟨j, hj, he, cc, rfl⟩
 refine wk (jn @dI.eq_1 @dL.eq_1) ?_
 show WP _ _ _ _ _ _
 refine WP.cond _ rfl (fun hb => ?_) (fun hb => ?_)
 ·simp at hb
  have hb' : j < a.length := by omega
  have hb2 : j < b.length := by omega
  have v1 := rgv_at hb'
  have v2 := rgv_at hb2
  have e1 := encI_at v1
  have e2 := encI_at v2
  have x1 := idx_lt hb'
  have x2 := idx_lt hb2
  have hw := w_succ hb' (by omega)
  have s1 : a.take (j + 1) = a.take j ++ [rgv a j] := by rw [List.take_add_one, v1]; rfl
  have s2 : b.take (j + 1) = b.take j ++ [rgv b j] := by rw [List.take_add_one, v2]; rfl
  by_cases hq : rgv a j = rgv b j
  ·have hq2 : (rgv a j = rgv b j) = True := eq_true hq
   refine wkc (jn @dI.eq_1 (jn @dL.eq_1 (jn @x1 (jn @x2 (jn @e1 (jn @e2 (jn @hq2 @int_bne))))))) ?_
   refine loop_next (by simp [hw]; exact Is.rfl) ?_
   exact ⟨D - 1, by omega, j + 1, by omega, by rw [s1, s2, he, hq], SE.mk (by simp [dI, dL, hw]) rfl⟩
  ·have hq2 : (rgv a j = rgv b j) = False := eq_false hq
   have hab : decide (a = b) = false := by simp; intro h; rw [h] at hq; exact hq rfl
   rw [hab]
   refine wkc (jn @dI.eq_1 (jn @dL.eq_1 (jn @x1 (jn @x2 (jn @e1 (jn @e2 (jn @hq2 @int_bne))))))) ?_
   show retQ _ _ _ _ _
   exact ⟨.inr rfl, _, _, rfl, rfl⟩
 ·simp at hb
  have hje : j = a.length := by omega
  rw [hje, eq_of_take hl] at he
  have hab : decide (a = b) = true := by simp [he]
  rw [hab]
  refine wk True.intro ?_
  show retQ _ _ _ _ _
  exact ⟨.inr rfl, _, _, rfl, rfl⟩

end Go.Ac
end

section
set_option maxRecDepth 4000
namespace Go.Ac
open Go.Proofs

theorem den_ex2 {f : FuncId} {fn : Func} {body : Code} {vs : List V} {T : Prop} (hf : Tryz.prog.funcs[f]? = some fn) (hb : fn.body = some body) (hok : (Nat.ble vs.length fn.ntmps && codeOK fn.ntmps body) = true) (hthr : Cp.cfg.thr f = false)
  (h : WP Tryz.prog Cp.cfg f body ⟨envOf 0 vs, [], 0, 0, 0, []⟩ (fun e t => ∃ b, retQ Tryz.prog fn (dB b) e t ∧ (b = false → T))) : ∃ b, den Tryz.prog Cp.cfg f vs = some (dB b) ∧ (b = false → T) := by
 obtain ⟨e, t, hr, b, hq, hT⟩ := h
 exact ⟨b, den_wp hf hb hok hthr rfl ⟨e, t, hr, hq⟩, hT⟩
def sumT (im : Im) (j : Nat) : Nat := ((im.rs.take j).map wt).sum
theorem sumT_succ {im : Im} {j : Nat} {r : Rt} (h : im.rs[j]? = some r) : sumT im (j + 1) = sumT im j + wt r := by
 unfold sumT
 rw [List.take_add_one, h]
 simp
theorem sumT_all (im : Im) : sumT im im.rs.length = (im.rs.map wt).sum := by unfold sumT; rw [List.take_length]
set_option maxHeartbeats 4000000 in
theorem heavyB (im : Im) (hs : im.sz ≤ MB) (r : Int) : ∃ b, den Tryz.prog Cp.cfg 4 [aM im, dI r] = some (dB b) ∧ (b = false → im.enums.length ≤ 100 ∧ im.rs.length ≤ 100 ∧ r ≤ 30 ∧ (im.rs.map wt).sum ≤ 3000) := by
 refine den_ex2 Tryz.func4 rfl (by kernel_rfl) rfl ?_
 by_cases u1 : 100 < im.enums.length
 ·have t1 : (100 < im.enums.length) = True := eq_true u1
  have t1' : ((100 : Int) < im.enums.length) = True := eq_true (by omega)
  refine wkc (jn @dI.eq_1 (jn @aM.eq_1 (jn @Im.cells.eq_1 (jn @t1 @t1')))) ?_
  exact ⟨true, ⟨.inr rfl, _, _, rfl, rfl⟩, fun h => by cases h⟩
 have t1 : (100 < im.enums.length) = False := eq_false u1
 have t1' : ((100 : Int) < im.enums.length) = False := eq_false (by omega)
 by_cases u2 : 100 < im.rs.length
 ·have t2 : (100 < im.rs.length) = True := eq_true u2
  have t2' : ((100 : Int) < im.rs.length) = True := eq_true (by omega)
  refine wkc (jn @dI.eq_1 (jn @aM.eq_1 (jn @Im.cells.eq_1 (jn @t1 (jn @t1' (jn @t2 @t2')))))) ?_
  exact ⟨true, ⟨.inr rfl, _, _, rfl, rfl⟩, fun h => by cases h⟩
 have t2 : (100 < im.rs.length) = False := eq_false u2
 have t2' : ((100 : Int) < im.rs.length) = False := eq_false (by omega)
 by_cases u3 : 30 < r
 ·have t3 : (30 < r) = True := eq_true u3
  refine wkc (jn @dI.eq_1 (jn @aM.eq_1 (jn @Im.cells.eq_1 (jn @t1 (jn @t1' (jn @t2 (jn @t2' @t3))))))) ?_
  exact ⟨true, ⟨.inr rfl, _, _, rfl, rfl⟩, fun h => by cases h⟩
 have t3 : (30 < r) = False := eq_false u3
 refine wkc (jn @dI.eq_1 (jn @aM.eq_1 (jn @Im.cells.eq_1 (jn @t1 (jn @t1' (jn @t2 (jn @t2' @t3))))))) ?_
 apply WP.loop' (I := fun D s => ∃ (j : Nat) (x : Nat) (y : Int), j + D = im.rs.length ∧ x = sumT im j ∧ x ≤ 3000 ∧ SE [(2, .ptr 0 0 0), (5, dI x), (6, dI y), (7, dI j)] [(0, ⟨0, false, im.cells.map .d⟩)] 1 s) (d := im.rs.length)
 ·exact ⟨0, 0, 0, by simp, by simp [sumT], by omega, SE.mk (by simp [dI]) (by simp [Im.cells])⟩
 rintro D _ ⟨j, x, y, hj, hx, hx3, cc, rfl⟩
 refine wk (jn @dI.eq_1 @Im.cells.eq_1) ?_
 show WP _ _ _ _ _ _
 refine WP.cond _ rfl (fun hb => ?_) (fun hb => ?_)
 ·simp at hb
  have hb' : j < im.rs.length := hb
  obtain ⟨q, hq, hqm, hix⟩ := at_lt hb'
  have hq' := encR_at hq
  have hw := w_succ hb' (by omega)
  have hsz := Im.mem_rs hqm
  unfold Rt.sz at hsz
  unfold MB at hs
  by_cases u4 : 2000 < q.regs
  ·have t4 : (2000 < q.regs) = True := eq_true u4
   refine wkc (jn @dI.eq_1 (jn @Im.cells.eq_1 (jn @Rt.cells.eq_1 (jn @hix (jn @hq' @t4))))) ?_
   exact ⟨true, ⟨.inr rfl, _, _, rfl, rfl⟩, fun h => by cases h⟩
  have t4 : (2000 < q.regs) = False := eq_false u4
  obtain ⟨wq, hwq⟩ : ∃ w, w = wt q := ⟨_, rfl⟩
  have e1 : IntKind.i64.wrap (1 + (q.inn.length : Int)) = 1 + q.inn.length := by rw [w_id'] <;> omega
  have e2 : IntKind.i64.wrap (1 + (q.inn.length : Int) + q.out.length) = 1 + q.inn.length + q.out.length := by rw [w_id'] <;> omega
  have e3 : IntKind.i64.wrap (1 + (q.inn.length : Int) + q.out.length + q.ini.length) = 1 + q.inn.length + q.out.length + q.ini.length := by rw [w_id'] <;> omega
  have e4 : IntKind.i64.wrap (1 + (q.inn.length : Int) + q.out.length + q.ini.length + q.code.length) = 1 + q.inn.length + q.out.length + q.ini.length + q.code.length := by rw [w_id'] <;> omega
  have e5 : IntKind.i64.wrap (1 + (q.inn.length : Int) + q.out.length + q.ini.length + q.code.length + q.nm.length) = (wq : Int) := by rw [hwq]; unfold wt; rw [w_id'] <;> omega
  have hwt : wq ≤ 4194304 := by rw [hwq]; unfold wt; omega
  obtain ⟨x2, hx2⟩ : ∃ x2, x2 = x + wq := ⟨_, rfl⟩
  have e6 : IntKind.i64.wrap ((x : Int) + wq) = (x2 : Int) := by rw [hx2, w_id'] <;> omega
  by_cases u5 : 3000 < x2
  ·have t5 : ((3000 : Int) < (x2 : Int)) = True := eq_true (by omega)
   refine wkc (jn @dI.eq_1 (jn @Im.cells.eq_1 (jn @Rt.cells.eq_1 (jn @hix (jn @hq' (jn @t4 (jn @e1 (jn @e2 (jn @e3 (jn @e4 (jn @e5 (jn @e6 @t5)))))))))))) ?_
   exact ⟨true, ⟨.inr rfl, _, _, rfl, rfl⟩, fun h => by cases h⟩
  have t5 : ((3000 : Int) < (x2 : Int)) = False := eq_false (by omega)
  refine wkc (jn @dI.eq_1 (jn @Im.cells.eq_1 (jn @Rt.cells.eq_1 (jn @hix (jn @hq' (jn @t4 (jn @e1 (jn @e2 (jn @e3 (jn @e4 (jn @e5 (jn @e6 @t5)))))))))))) ?_
  have hxs : x2 = sumT im (j + 1) := by rw [hx2, sumT_succ hq, hx, hwq]
  refine WP.loop' (I := fun D2 s => ∃ (k : Nat) (y : Int) (cc : Nat), k + D2 = q.code.length ∧ s = ⟨[(2, .ptr 0 0 0), (5, dI x2), (6, dI y), (7, dI j), (8, .ptr 1 cc 0), (9, dI k)], [(0, ⟨0, false, im.cells.map .d⟩), (1, ⟨cc, false, q.cells.map .d⟩)], 2, cc + 1, 0, []⟩) q.code.length ⟨0, _, _, by simp, by rfl⟩ ?_
  rintro D2 _ ⟨k, y, cc, hk, rfl⟩
  refine wk (jn @dI.eq_1 (jn @Im.cells.eq_1 @Rt.cells.eq_1)) ?_
  show WP _ _ _ _ _ _
  refine WP.cond _ rfl (fun hb => ?_) (fun hb => ?_)
  ·simp at hb
   have hb2 : k < q.code.length := hb
   obtain ⟨i, hi, him, hix2⟩ := at_lt hb2
   have hi' := encC_at hi
   have hw2 := w_succ hb2 (by omega)
   by_cases u5 : i.op = 9
   ·have t5 : (i.op = 9) = True := eq_true u5
    refine wkc (jn @dI.eq_1 (jn @Im.cells.eq_1 (jn @Rt.cells.eq_1 (jn @hix2 (jn @hi' (jn @I.cells.eq_1 (jn @t5 @int_beq))))))) ?_
    refine loop_next (by simp [hw2]; exact Is.rfl) ?_
    exact ⟨D2 - 1, by omega, k + 1, IntKind.i64.wrap (y + 1), cc, by omega, by simp [dI, Im.cells, Rt.cells]⟩
   ·have t5 : (i.op = 9) = False := eq_false u5
    refine wkc (jn @dI.eq_1 (jn @Im.cells.eq_1 (jn @Rt.cells.eq_1 (jn @hix2 (jn @hi' (jn @I.cells.eq_1 (jn @t5 @int_beq))))))) ?_
    refine loop_next (by simp [hw2]; exact Is.rfl) ?_
    exact ⟨D2 - 1, by omega, k + 1, y, cc, by omega, by simp [dI, Im.cells, Rt.cells]⟩
  ·refine wkc (jn @dI.eq_1 @Im.cells.eq_1) ?_
   refine loop_next (by simp [hw]; exact Is.rfl) ?_
   exact ⟨D - 1, by omega, j + 1, x2, y, by omega, hxs, by omega, SE.mk (by simp [dI]) (by simp [Im.cells])⟩
 ·simp at hb
  have hjl : j = im.rs.length := by omega
  subst hjl
  rw [sumT_all] at hx
  refine wkc (@dI.eq_1) ?_
  exact ⟨_, ⟨.inr rfl, _, _, rfl, rfl⟩, fun _ => ⟨by omega, by omega, by omega, by omega⟩⟩
end Go.Ac
end

section
set_option maxRecDepth 4000
namespace Go.Ac
open Go.Proofs

theorem idx_all {s : List UInt8} (h : idxS s s.length 0 < 0) : ∀ pos, pos ≤ s.length → idxS s s.length pos < 0 ∧ ∀ (j : Nat) (c : UInt8), j < pos → s[j]? = some c → badR (c.toNat : Int) = false
 | 0, _ => ⟨h, fun j c hj => by omega⟩
 | pos + 1, hp => by
  obtain ⟨h1, h2⟩ := idx_all h pos (by omega)
  rw [idxS_step s (by omega)] at h1
  have hb : (⟨s.toArray⟩ : ByteArray).size = s.length := by simp [ByteArray.size]
  have hlt : pos < (⟨s.toArray⟩ : ByteArray).size := by omega
  have hget : (⟨s.toArray⟩ : ByteArray)[pos]'hlt = s[pos]'(by omega) := rfl
  cases hr : badR ((Utf8.decode ⟨s.toArray⟩ pos).1 : Int) with
  | true => rw [hr, if_pos rfl] at h1; omega
  | false =>
   have hlo : ((⟨s.toArray⟩ : ByteArray)[pos]'hlt).toNat < 128 := by
    rcases Nat.lt_or_ge ((⟨s.toArray⟩ : ByteArray)[pos]'hlt).toNat 128 with h | h
    ·exact h
    ·have := (decode_high _ pos hlt h).1
     unfold badR at hr
     simp at hr
     omega
   rw [decode_ascii _ pos hlt hlo] at h1 hr
   simp only [hr, Bool.false_eq_true, if_false] at h1
   refine ⟨h1, fun j c hj hc => ?_⟩
   by_cases hjp : j = pos
   ·subst hjp
    rw [hget] at hr
    rw [List.getElem?_eq_getElem (by omega)] at hc
    simp only [Option.some.injEq] at hc
    rw [← hc]; exact hr
   ·exact h2 j c (by omega) hc
theorem name_chars {s : List UInt8} (h : nameOK s = true) : s ≠ [] ∧ ∀ c ∈ s, c ≠ 10 ∧ c ≠ 32 := by
 unfold nameOK at h
 simp at h
 obtain ⟨⟨h1, _⟩, h2⟩ := h
 refine ⟨h1, fun c hc => ?_⟩
 obtain ⟨j, hj⟩ := List.mem_iff_getElem?.1 hc
 have hlt := (List.getElem?_eq_some_iff.1 hj).1
 have := (idx_all (s := s) h2 s.length (Nat.le_refl _)).2 j c hlt hj
 constructor
 ·rintro rfl; simp [badR] at this
 ·rintro rfl; simp [badR] at this
theorem oneE_name {im : Im} {k : Nat} {r : Rt} (h : oneE im k r = 0) : nameOK r.nm = true := by
 unfold oneE at h
 split at h
 ·omega
 ·rename_i h1
  cases hq : nameOK r.nm with
  | true => rfl
  | false => exact absurd hq h1
theorem typ_num {en : List Int} {t : Int} (he : en.length ≤ 24) (h : typOK en t = true) : NumOK t := by
 unfold typOK at h
 simp at h
 unfold NumOK
 omega
theorem okI_num {rs : List Rt} {k R M at_ L : Nat} {i : I} (h : OkI rs k R M at_ L i) (hk : k ≤ 96) (hR : R ≤ 32768) (hM : M ≤ 16384) (hL : L ≤ 32768) : (∀ n ∈ usedI i, NumOK n) ∧ OpF i := by
 have z4 : ∀ {T : Nat → Prop}, T 0 → T 1 → T 2 → T 3 → ∀ q < 4, T q := fun h0 h1 h2 h3 q hq => by
  match q, hq with
  | 0, _ => exact h0
  | 1, _ => exact h1
  | 2, _ => exact h2
  | 3, _ => exact h3
 cases h <;> refine ⟨fun n hn => ?_, ⟨by simp, by simp, z4 (T := fun q => (kT _)[q]? = some 0 → _ = 0) ?_ ?_ ?_ ?_⟩⟩ <;>
  first
  | (simp [usedI] at hn; unfold NumOK; omega)
  | (intro hq; simp [kT] at hq ⊢; done)
  | (intro hq; simp [kT] at hq)
theorem good_txt {im : Im} (h : chkE im = 0) : (∀ x ∈ im.enums, NumOK x) ∧ (∀ r ∈ im.rs, RtT r) ∧ (∀ r ∈ im.rs, ∀ i ∈ r.code, OpF i) := by
 have hG := good_of h
 unfold chkE at h
 split at h
 ·omega
 rename_i h1
 split at h
 ·omega
 rename_i h2
 split at h
 ·omega
 rename_i h3
 split at h
 ·omega
 have one : ∀ k r, im.rs[k]? = some r → oneE im k r = 0 := fun k r hr => by
  have := rsE_zero h k r hr
  rwa [Nat.zero_add] at this
 have each : ∀ r ∈ im.rs, ∃ k, k < im.rs.length ∧ im.rs[k]? = some r ∧ oneE im k r = 0 := fun r hr => by
  obtain ⟨k, hk⟩ := List.mem_iff_getElem?.1 hr
  exact ⟨k, (List.getElem?_eq_some_iff.1 hk).1, hk, one k r hk⟩
 have code : ∀ r ∈ im.rs, ∀ i ∈ r.code, (∀ n ∈ usedI i, NumOK n) ∧ OpF i := fun r hr i hi => by
  obtain ⟨k, hkl, hk, ho⟩ := each r hr
  have hb := not_big (oneE_zero ho).big
  obtain ⟨t, ht⟩ := List.mem_iff_getElem?.1 hi
  exact okI_num ((hG.ok k r hk).code t i ht) (by omega) (by omega) (by omega) (by omega)
 refine ⟨fun v hv => ?_, fun r hr => ?_, fun r hr i hi => (code r hr i hi).2⟩
 ·have : outE v = false := by
   cases hq : outE v with
   | false => rfl
   | true => exact absurd (List.any_eq_true.2 ⟨v, hv, hq⟩) h3
  unfold outE at this
  simp at this
  unfold NumOK; omega
 ·obtain ⟨k, hkl, hk, ho⟩ := each r hr
  have h1' := oneE_zero ho
  have hb := not_big h1'.big
  have hio := h1'.io
  obtain ⟨n1, n2⟩ := name_chars (oneE_name ho)
  refine ⟨n2, n1, fun t ht => typ_num (by omega) (h1'.ty t (List.mem_append_left _ ht)), fun t ht => typ_num (by omega) (h1'.ty t (List.mem_append_right _ ht)), by unfold NumOK; omega, fun v hv => ?_, fun i hi => (code r hr i hi).1⟩
  have := h1'.ini v hv
  unfold outW at this
  simp at this
  unfold NumOK; omega
end Go.Ac
end

section
set_option maxRecDepth 100000
namespace Go.Ac
open Go.Proofs
theorem awake_den : den Tryz.prog Cp.cfg 5 [] = some (dB true) := den_k 300 (fun k => by kernel_rfl) rfl
end Go.Ac
end

section
set_option maxRecDepth 4000
namespace Go.Ac
open Go.Proofs

def Rg1 (v : Int) : Prop := -32768 ≤ v ∧ v ≤ 32767
def Rg (l : List Int) : Prop := ∀ v ∈ l, Rg1 v
theorem rg0 : Rg1 0 := by unfold Rg1; omega
theorem rg16 (n : Int) : Rg1 (w16 n) := ⟨w16_lo n, w16_hi n⟩
theorem tmod_rg {a b : Int} (h : Rg1 a) : Rg1 (a.tmod b) := by
 unfold Rg1 at *
 rcases Int.lt_or_le a 0 with h1 | h1
 ·have h2 := Int.tmod_nonneg b (a := -a) (by omega)
  rw [Int.neg_tmod] at h2
  have h3 : (-a).tmod b ≤ -a := by
   obtain ⟨n, hn⟩ : ∃ n : Nat, -a = n := ⟨(-a).toNat, by omega⟩
   rw [hn]
   have : ((n : Int).tmod b).natAbs ≤ n := by
    rw [Int.natAbs_tmod]; exact Nat.mod_le _ _
   omega
  rw [Int.neg_tmod] at h3
  omega
 ·have h2 := Int.tmod_nonneg b h1
  have h3 : a.tmod b ≤ a := by
   obtain ⟨n, hn⟩ : ∃ n : Nat, a = n := ⟨a.toNat, by omega⟩
   rw [hn]
   have : ((n : Int).tmod b).natAbs ≤ n := by
    rw [Int.natAbs_tmod]; exact Nat.mod_le _ _
   omega
  omega
theorem modI_rg (a b : Int) : Rg1 (modI (w16 a) (w16 b)) := by
 unfold modI
 split
 ·exact rg16 a
 ·exact tmod_rg (rg16 a)
theorem divI_rg (a b : Int) : Rg1 (divI a b) := by
 unfold divI
 split
 ·exact rg0
 ·exact rg16 _
theorem cmpI_rg (op a b : Int) : Rg1 (cmpI op a b) := by
 unfold cmpI
 repeat' split
 all_goals first | exact rg16 _ | exact divI_rg _ _ | exact modI_rg _ _
theorem apR_rg (op : Int) (l : List Int) : Rg1 (apR op l) := by
 unfold apR apV
 split
 ·show Rg1 (resI _ _ _)
  unfold resI
  split
  ·exact cmpI_rg _ _ _
  ·split <;> (unfold Rg1; omega)
 ·exact rg0
theorem rgv_rg {l : List Int} (h : Rg l) (j : Int) : Rg1 (rgv l j) := by
 unfold rgv
 by_cases hj : j.toNat < l.length
 ·rw [List.getD_eq_getElem?_getD, List.getElem?_eq_getElem hj]; exact h _ (List.getElem_mem hj)
 ·rw [List.getD_eq_getElem?_getD, List.getElem?_eq_none (by omega)]; exact rg0
theorem Rg.set {l : List Int} (h : Rg l) {v : Int} (hv : Rg1 v) (j : Nat) : Rg (l.set j v) := fun x hx => by
 rcases List.mem_or_eq_of_mem_set hx with h1 | h1
 ·exact h x h1
 ·rw [h1]; exact hv
theorem Rg.put {l xs : List Int} (h : Rg l) (hx : Rg xs) (k : Nat) : Rg (putAt l k xs) := fun x hm => by
 unfold putAt at hm
 rcases List.mem_append.1 hm with h1 | h1
 ·rcases List.mem_append.1 h1 with h2 | h2
  ·exact h x (List.mem_of_mem_take h2)
  ·exact hx x h2
 ·exact h x (List.mem_of_mem_drop h1)
theorem Rg.sub {l : List Int} (h : Rg l) (a b : Nat) : Rg ((l.drop a).take b) := fun x hm => h x (List.mem_of_mem_drop (List.mem_of_mem_take hm))

def CallRg (n : Nat) (f : CallM) : Prop := ∀ k base ins mem, k < n → Rg ins → Rg mem → Rg (f k base ins mem).1 ∧ Rg (f k base ins mem).2.1
theorem stepM_rg {im : Im} (hini : ∀ q ∈ im.rs, ∀ v ∈ q.ini, -32768 ≤ v ∧ v ≤ 32767) {f : CallM} {k R M L base at_ : Nat} {i : I} {regs mem : List Int} (hi : OkI im.rs k R M at_ L i) (hf : CallRg k f) (hr : Rg regs) (hm : Rg mem) :
  Rg (stepM im.rs f base at_ i regs mem).2.1 ∧ Rg (stepM im.rs f base at_ i regs mem).2.2.1 := by
 cases hi with
 | load A b hA h1 h2 => simp only [stepM]; exact ⟨hr.set ⟨h1, h2⟩ _, hm⟩
 | move A B hA hB => simp [stepM]; exact ⟨hr.set (rgv_rg hr _) _, hm⟩
 | read A B hA hB => simp [stepM]; exact ⟨hr.set (rgv_rg hm _) _, hm⟩
 | write A B hA hB => simp [stepM]; exact ⟨hr, hm.set (rgv_rg hr _) _⟩
 | unary A B c hA hB hc => simp [stepM]; exact ⟨hr.set (apR_rg _ _) _, hm⟩
 | apply A B C d hA hB hC h1 h2 => simp [stepM]; exact ⟨hr.set (apR_rg _ _) _, hm⟩
 | jump B h1 h2 => simp [stepM]; exact ⟨hr, hm⟩
 | zero A B hA h1 h2 => simp [stepM]; exact ⟨hr, hm⟩
 | call A B C D q hq hA hB hC hD =>
  have hc := hf A (base + B) ((regs.drop C).take q.inn.length) mem hA (hr.sub _ _) hm
  have e : stepM im.rs f base at_ ⟨9, A, B, C, D⟩ regs mem = (at_ + 1, putAt regs D (f A (base + B) ((regs.drop C).take q.inn.length) mem).1, (f A (base + B) ((regs.drop C).take q.inn.length) mem).2.1, (f A (base + B) ((regs.drop C).take q.inn.length) mem).2.2) := by
   simp [stepM, rtAt_nat hq]
  rw [e]
  exact ⟨hr.put hc.1 _, hc.2⟩
 | reset A B q hq hA hB =>
  have e : stepM im.rs f base at_ ⟨10, A, B, 0, 0⟩ regs mem = (at_ + 1, regs, putAt mem (base + B) q.ini, 0) := by
   simp [stepM, rtAt_nat hq]
  rw [e]
  exact ⟨hr, hm.put (hini q (List.mem_of_getElem? hq)) _⟩
theorem loopM_rg {im : Im} (hini : ∀ q ∈ im.rs, ∀ v ∈ q.ini, -32768 ≤ v ∧ v ≤ 32767) {f : CallM} {k : Nat} {r : Rt} {base : Nat} (hr : OkR im.rs k r) (hf : CallRg k f) : ∀ (d at_ : Nat) (regs mem : List Int) (cnt : Nat), Rg regs → Rg mem →
  Rg (loopM im.rs f r base d at_ regs mem cnt).1 ∧ Rg (loopM im.rs f r base d at_ regs mem cnt).2.1
 | 0, at_, regs, mem, cnt, h1, h2 => ⟨h1, h2⟩
 | d + 1, at_, regs, mem, cnt, h1, h2 => by
  by_cases ha : at_ < r.code.length
  ·have hi : r.code[at_]? = some r.code[at_] := by simp [ha]
   have hs := stepM_rg hini (base := base) (hr.code _ _ hi) hf h1 h2
   rw [loopM_step hi]
   exact loopM_rg hini hr hf d _ _ _ _ hs.1 hs.2
  ·rw [loopM_end (by omega)]
   exact ⟨h1, h2⟩
theorem callM_rg {im : Im} (h : OkM im.rs) (hini : ∀ q ∈ im.rs, ∀ v ∈ q.ini, -32768 ≤ v ∧ v ≤ 32767) (hlen : im.rs.length ≤ im.rs.length) : ∀ f, f ≤ im.rs.length → CallRg f (callM im.rs f)
 | 0, _ => fun k base ins mem hk => by omega
 | f + 1, hfl => fun k base ins mem hk hi hm => by
  have hkl : k < im.rs.length := by omega
  have hq : im.rs[k]? = some im.rs[k] := by simp [hkl]
  have hg : im.rs.getD k rtZ = im.rs[k] := by simp [List.getD, hq]
  have hl := loopM_rg hini (base := base) (h k _ hq) (fun j b i m hj => callM_rg h hini hlen f (by omega) j b i m (by omega)) im.rs[k].code.length 0 (ins ++ List.replicate (im.rs[k].regs.toNat - ins.length) 0) mem 0 (fun v hv => by
   rcases List.mem_append.1 hv with h1 | h1
   ·exact hi v h1
   ·rw [List.eq_of_mem_replicate h1]; exact rg0) hm
  simp only [callM, hg]
  exact ⟨hl.1.sub _ _, hl.2⟩
theorem fitsV_rg {im : Im} (hG : GoodIm im) {t v : Int} (h : fitsV im.enums t v = true) : Rg1 v := by
 unfold fitsV at h
 unfold Rg1
 split at h
 ·simp at h; omega
 ·split at h
  ·simp at h; omega
  ·simp at h
   have : rgv im.enums (t - 3) ≤ 16 := by
    unfold rgv
    by_cases hj : (t - 3).toNat < im.enums.length
    ·rw [List.getD_eq_getElem?_getD, List.getElem?_eq_getElem hj]; exact hG.en _ (List.getElem_mem hj)
    ·rw [List.getD_eq_getElem?_getD, List.getElem?_eq_none (by omega)]; simp
   omega
theorem fitsL_rg {im : Im} (hG : GoodIm im) : ∀ {ts vs : List Int}, vs.length = ts.length → fitsL im.enums ts vs = true → Rg vs
 | [], [], _, _ => fun v hv => by cases hv
 | [], v :: vs, hl, _ => by simp at hl
 | t :: ts, [], hl, _ => by simp at hl
 | t :: ts, v :: vs, hl, h => fun x hx => by
  unfold fitsL at h
  simp only [Bool.and_eq_true] at h
  rcases List.mem_cons.1 hx with rfl | hx
  ·exact fitsV_rg hG h.1
  ·exact fitsL_rg hG (by simpa using hl) h.2 x hx
/-- A step keeps a memory's length and its words. -/
theorem stepR_mem {im : Im} (hG : GoodIm im) {mem row : List Int} {cnt : Int} (hl : mem.length = (lastR im).ini.length) (hr : Rg mem) : (stepR im mem cnt row).2.2.1.length = (lastR im).ini.length ∧ Rg (stepR im mem cnt row).2.2.1 := by
 unfold stepR
 split
 ·exact ⟨hl, hr⟩
 ·rename_i h1
  split
  ·exact ⟨hl, hr⟩
  ·rename_i h2
   have hne := hG.ne
   have h1' : row.length = (lastR im).inn.length := by omega
   have h3 := (callM_ok hG.ok im.rs.length (im.rs.length - 1) (lastR im) 0 row mem (by omega) hG.last h1' (by omega)).2
   have h4 := callM_rg hG.ok hG.ini (Nat.le_refl _) im.rs.length (Nat.le_refl _) (im.rs.length - 1) 0 row mem (by omega) (fitsL_rg hG h1' (by cases hx : fitsL im.enums (lastR im).inn row with | true => rfl | false => exact absurd hx h2)) hr
   exact ⟨h3.trans hl, h4.2⟩
end Go.Ac
end

section
set_option maxRecDepth 4000
namespace Go.Ac
open Go.Proofs

theorem addNew_zero (wl : List Nat) : ∀ l : List (Nat × Ob), addNew 0 wl l = wl
 | [] => rfl
 | (k, o) :: r => by
  have : Nat.blt k 0 = false := by cases k <;> rfl
  simp only [addNew, this]; exact addNew_zero wl r
def dLL (l : List (List Int)) : V := .d (.slice (encL l))
/-- Two machines that lie apart. -/
structure Two (im : Im) (hp : Hp) (n : Nat) (ic gc mc mgc : Nat) (memc : List Int) (cntc : Int) (id gd md mgd : Nat) (memd : List Int) (cntd : Int) : Prop where
 c : Mc im hp ic gc mc mgc memc cntc
 d : Mc im hp id gd md mgd memd cntd
 lic : ic < n
 lmc : mc < n
 lid : id < n
 lmd : md < n
 a1 : ic ≠ id
 a2 : ic ≠ md
 a3 : mc ≠ id
 a4 : mc ≠ md
theorem encL_row {l : List (List Int)} {j : Nat} (h : j < l.length) : (encL l)[j]? = some [.slice (encI (l.getD j []))] := by
 rw [encL_at (y := l.getD j []) (by simp [List.getD, h])]
theorem stepR_out {im : Im} (hG : GoodIm im) {mem row : List Int} {cnt : Int} (hl : mem.length = (lastR im).ini.length) : (stepR im mem cnt row).1.length ≤ MX := by
 unfold stepR
 split
 ·simp
 ·rename_i h1
  split
  ·simp
  ·have hne := hG.ne
   have h1' : row.length = (lastR im).inn.length := by omega
   have h3 := (callM_ok hG.ok im.rs.length (im.rs.length - 1) (lastR im) 0 row mem (by omega) hG.last h1' (by omega)).1
   have h4 := hG.ok _ _ hG.last
   have h5 := h4.io
   have h6 := h4.hi
   show (callM im.rs im.rs.length (im.rs.length - 1) 0 row mem).1.length ≤ MX
   rw [h3]; unfold MX; omega
theorem ints_same (a : List Int) (h : a.length ≤ MX) : den Tryz.prog Cp.cfg 10 [dL a, dL a] = some (dB true) := by
 have := ints_den a a h h
 rwa [decide_eq_true rfl] at this
end Go.Ac
end
