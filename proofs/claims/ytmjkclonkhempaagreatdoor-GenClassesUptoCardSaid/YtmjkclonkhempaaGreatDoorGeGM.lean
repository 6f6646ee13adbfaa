/- Whether equations are in order: the program's (1). -/
import Derived.Test.YtmjkclonkhempaaGreatDoorGeEM
set_option linter.unusedVariables false
set_option linter.unusedSimpArgs false
section
set_option maxRecDepth 4000
namespace Go.Ac
open Go.Proofs
attribute [local simp] Hp.get_set addNew_zero get_trunc_lt
theorem shift_ds (n c : Nat) : ∀ l : List D, shiftVs n c (l.map V.d) = l.map V.d
 | [] => rfl
 | a :: r => by simp only [List.map_cons, shiftVs, shiftV]; rw [shift_ds n c r]
theorem shO_fl (n c g : Nat) (l : List (List D)) : shO n c ⟨g, false, fl l⟩ = ⟨g + c, false, fl l⟩ := by unfold shO fl; simp only; rw [shift_ds]
theorem nm_close {look : Look} {id g : Nat} {L : List Tx} (h : look id = some ⟨g, false, fl (encS L)⟩) : closeT look (.osl id g 0 L.length 1 none) = some (dL (encS L), [id]) := by
 have := close_fl (l := encS L) (cap := none) (encS_row L) h
 rwa [encS_len] at this
/-- A call by data that hands back a list of names. -/
def NamesAt (f : FuncId) (vs : List V) (L : List Tx) : Prop := ∃ (q : CR) (id g : Nat), lim Tryz.prog Ob.cfg f vs [] 0 0 = some q ∧ q.v = .osl id g 0 L.length 1 none ∧ q.hp.get id = some ⟨g, false, fl (encS L)⟩ ∧ id < q.n
theorem NamesAt.caller {f : FuncId} {vs : List V} {L : List Tx} (h : NamesAt f vs L) (n c : Nat) (hp : Hp) : ∃ (q : CR) (id g : Nat) (W : List (Nat × Ob)), lim Tryz.prog Ob.cfg f vs [] 0 0 = some q ∧ closeT noLook q.v = none ∧ shiftV n c q.v = .osl id g 0 L.length 1 none ∧ shiftH n c (wrOf q.hp.get (List.range q.n)) = W ∧
  (hp.sets W).get id = some ⟨g, false, fl (encS L)⟩ ∧ (∀ j, j < n → (hp.sets W).get j = hp.get j) ∧ n ≤ id ∧ id < n + q.n ∧ ∀ p, p ∈ W → n ≤ p.1 := by
 obtain ⟨q, id, g, h1, h2, h3, h4⟩ := h
 refine ⟨q, id + n, g + c, _, h1, by rw [h2]; rfl, by rw [h2]; rfl, rfl, ?_, fun j hj => import_old hj, by omega, by omega, ?_⟩
 ·rw [import_new h4 h3, shO_fl]
 ·intro p hp
  rw [shiftH_eq, List.mem_map] at hp
  obtain ⟨x, _, rfl⟩ := hp
  simp only; omega
theorem kf68 (r : Nat) : Ob.keep 68 r = Ob.k68 r := by kernel_rfl
theorem kf60 (r : Nat) : Ob.keep 60 r = Ob.k60 r := by kernel_rfl
attribute [local simp] kf68 Ob.k68 kf60 Ob.k60
theorem namesAt83 (x : X) (h : x.sz ≤ 8388608) : NamesAt 83 [.full [], aG x.cells, dB false] (nmX [] x) := by
 obtain ⟨q, h1, _, _, id, g, h2, h3, h4, _⟩ := names83 (x.sz + 1) x (by omega) [] (by simpa using h) _ [] [] 0 0 (.inr ⟨rfl, rfl, rfl⟩)
 exact ⟨q, id, g, h1, h2, h3, h4⟩
theorem namesAt82 (x : X) (h : x.sz ≤ 8388608) : NamesAt 82 [aG x.cells, dB false, .full []] (nmX [] x) := by
 obtain ⟨q, h1, _, _, id, g, h2, h3, h4, _⟩ := names82 (x.sz + 1) x (by omega) [] (by simpa using h) _ [] [] 0 0 (.inr ⟨rfl, rfl, rfl⟩)
 exact ⟨q, id, g, h1, h2, h3, h4⟩
theorem names68 (x : X) (h : x.sz ≤ 8388608) : NamesAt 68 [aG x.cells] (nmX [] x) := by
 have main : ∃ (v : V) (t : St), lim Tryz.prog Ob.cfg 68 [aG x.cells] [] 0 0 = some ⟨v, t.hp, t.n, t.c, t.wl⟩ ∧ ∃ id g, v = .osl id g 0 (nmX [] x).length 1 none ∧ t.hp.get id = some ⟨g, false, fl (encS (nmX [] x))⟩ ∧ id < t.n := by
  refine lim_wp (Q := fun v (t : St) => ∃ id g, v = .osl id g 0 (nmX [] x).length 1 none ∧ t.hp.get id = some ⟨g, false, fl (encS (nmX [] x))⟩ ∧ id < t.n) Tryz.func68 rfl (by kernel_rfl) ?_
  refine wkciv (jn @envOf.eq_1 (jn @envOf.eq_2 (jn @aG.eq_1 @X.cells_eq))) ?_
  apply WP.gen3
  intro hp1 c1 wl1 hhp hwl
  have hbx : hp1.get 0 = some ⟨0, false, [.d (.int .i64 x.k), .d (.int .i64 x.o), .d (.int .i64 x.t), .d (.int .i64 x.v), .d (.str x.nm), .d (.slice (encX x.args))]⟩ := by rw [hhp]; simp
  obtain ⟨q, id, g, W, hI1, hI2, hI3, hI4, hy, _, _, hlt, _⟩ := (namesAt83 x h).caller 1 c1 hp1
  simp only [aG, X.cells_eq, List.map_cons, List.map_nil, dB] at hI1
  refine wkciv (@hbx) ?_
  exact ⟨.inr rfl, _, rfl, .inl rfl, id, g, rfl, hy, hlt⟩
 obtain ⟨v, t, h1, id, g, h2, h3, h4⟩ := main
 exact ⟨_, id, g, h1, h2, h3, h4⟩
theorem names60 (x : X) (h : x.sz ≤ 8388608) : NamesAt 60 [aG x.cells] (nmX [] x) := by
 have main : ∃ (v : V) (t : St), lim Tryz.prog Ob.cfg 60 [aG x.cells] [] 0 0 = some ⟨v, t.hp, t.n, t.c, t.wl⟩ ∧ ∃ id g, v = .osl id g 0 (nmX [] x).length 1 none ∧ t.hp.get id = some ⟨g, false, fl (encS (nmX [] x))⟩ ∧ id < t.n := by
  refine lim_wp (Q := fun v (t : St) => ∃ id g, v = .osl id g 0 (nmX [] x).length 1 none ∧ t.hp.get id = some ⟨g, false, fl (encS (nmX [] x))⟩ ∧ id < t.n) Tryz.func60 rfl (by kernel_rfl) ?_
  refine wkciv (jn @envOf.eq_1 (jn @envOf.eq_2 (jn @aG.eq_1 @X.cells_eq))) ?_
  apply WP.gen3
  intro hp1 c1 wl1 hhp hwl
  have hbx : hp1.get 0 = some ⟨0, false, [.d (.int .i64 x.k), .d (.int .i64 x.o), .d (.int .i64 x.t), .d (.int .i64 x.v), .d (.str x.nm), .d (.slice (encX x.args))]⟩ := by rw [hhp]; simp
  obtain ⟨q, id, g, W, hI1, hI2, hI3, hI4, hy, _, _, hlt, _⟩ := (namesAt82 x h).caller 1 c1 hp1
  simp only [aG, X.cells_eq, List.map_cons, List.map_nil, dB] at hI1
  refine wkciv (@hbx) ?_
  exact ⟨.inr rfl, _, rfl, .inl rfl, id, g, rfl, hy, hlt⟩
 obtain ⟨v, t, h1, id, g, h2, h3, h4⟩ := main
 exact ⟨_, id, g, h1, h2, h3, h4⟩
/-- What an equation reads. -/
def rdQ (q : Nq) : List Tx := (nmX [] q.r ++ q.args.flatMap (nmX [])) ++ (if q.ev = [] then [] else [q.ev]) ++ q.ck.map On.nm
theorem nmX_sz (x : X) : (nmX [] x).length ≤ x.sz := by have := (nmX_len x []).2; simpa using this
theorem nms_sz : ∀ l : List X, (l.flatMap (nmX [])).length ≤ szX l
 | [] => by simp
 | x :: r => by rw [List.flatMap_cons, List.length_append, szX]; have := nmX_sz x; have := nms_sz r; omega
theorem take_flat {l : List X} {i : Nat} {x : X} (h : l[i]? = some x) : (l.take (i + 1)).flatMap (nmX []) = (l.take i).flatMap (nmX []) ++ nmX [] x := by rw [take_snoc h]; simp
theorem nms_take (l : List X) (i : Nat) : ((l.take i).flatMap (nmX [])).length ≤ szX l := by
 have h := nms_sz (l.take i)
 have : szX (l.take i) ≤ szX l := by
  rw [szX_sum, szX_sum]
  conv => rhs; rw [← List.take_append_drop i l, List.map_append, List.sum_append]
  omega
 omega
theorem kf44 (r : Nat) : Ob.keep 44 r = Ob.k44 r := by kernel_rfl
attribute [local simp] kf44 Ob.k44
set_option maxHeartbeats 8000000 in
theorem reads44 (q : Nq) (h : q.sz ≤ 4194304) : den Tryz.prog Ob.cfg 44 [aG q.cells] = some (dL (encS (rdQ q))) := by
 unfold Nq.sz at h
 have k1 := len_szX q.args
 have k2 : q.ck.length ≤ szO q.ck := len_szO q.ck
 refine den_wp Tryz.func44 rfl (by kernel_rfl) rfl rfl ?_
 refine wkciv (jn @envOf.eq_1 (jn @envOf.eq_2 (jn @aG.eq_1 @Nq.cells.eq_1))) ?_
 apply WP.gen3
 intro hp1 c1 wl1 hhp hwl
 subst hwl
 have hbx : hp1.get 0 = some ⟨0, false, (q.cells.map V.d)⟩ := by rw [hhp]; rfl
 obtain ⟨u, id, g, W, hI1, hI2, hI3, hI4, hy, hfr, hlo, hlt, hge⟩ := (names68 q.r (by omega)).caller 1 c1 hp1
 have hbx2 := (hfr 0 (by omega)).trans hbx
 simp only [aG, X.cells_eq, List.map_cons, List.map_nil, dB] at hI1
 simp only [Nq.cells, List.map_cons, List.map_nil] at hbx hbx2
 refine wkciv (jn @hbx @hbx2) ?_
 apply WP.gen3
 intro hp2 c2 wl2 hhp2 hwl2
 subst hwl2
 rw [← hhp2] at hy hbx2
 obtain ⟨n1, hn1⟩ : ∃ n1, n1 = 1 + u.n := ⟨_, rfl⟩
 rw [← hn1] at hlt ⊢
 have h1n : 1 < n1 := by omega
 have hid0 : (id = 0) = False := eq_false (by omega)
 have h0id : (0 = id) = False := eq_false (by omega)
 obtain ⟨L0, hL0⟩ : ∃ L0, nmX [] q.r = L0 := ⟨_, rfl⟩
 have hl0 : L0.length ≤ q.r.sz := by rw [← hL0]; exact nmX_sz q.r
 rw [hL0] at hy ⊢
 clear hI1 hI2 hI3 hI4 hhp hhp2 hge hfr
 apply WP.loop' (I := fun D s => ∃ (i g' c' : Nat) (hp' : Hp) (B : List Tx), i + D = q.args.length ∧ B = L0 ++ (q.args.take i).flatMap (nmX []) ∧ hp'.get id = some ⟨g', false, fl (encS B)⟩ ∧ hp'.get 0 = some ⟨0, false, [.d (.int .i64 q.k), .d (.slice (encS q.left)), .d (.int .i64 q.r.k), .d (.int .i64 q.r.o), .d (.int .i64 q.r.t), .d (.int .i64 q.r.v), .d (.str q.r.nm), .d (.slice (encX q.r.args)), .d (.int .i64 q.ini), .d (.str q.node), .d (.slice (encX q.args)), .d (.str q.ev), .d (.slice (encO q.ck))]⟩ ∧
   s = ⟨[(1, .ptr 0 0 0), (3, .osl id g' 0 B.length 1 none), (12, dL (encX q.args)), (13, dI q.args.length), (14, dI i)], hp', n1, c', 0, []⟩) (d := q.args.length)
 ·exact ⟨0, g, _, _, L0, by simp, by simp, hy, hbx2, st_eq (by simp [dI, dL]) rfl⟩
 clear hy hbx2 hbx
 rintro D _ ⟨i, g', c', hp', B, hi, hB, hy, hbx, rfl⟩
 have hBl : B.length ≤ 4194304 := by rw [hB, List.length_append]; have := nms_take q.args i; omega
 refine wkiv (jn @dI.eq_1 @dL.eq_1) ?_
 show WP _ _ _ _ _ _
 refine WP.cond _ rfl (fun hb => ?_) (fun hb => ?_)
 ·simp at hb
  have hb' : i < q.args.length := by omega
  obtain ⟨y, hyx, hym, hix⟩ := at_lt hb'
  have hy' := encX_at hyx
  have hw := w_succ hb' (by omega)
  have hys := mem_szX hym
  refine wkciv (jn @dI.eq_1 (jn @dL.eq_1 (jn @hix (jn @hy' (jn @X.cells_eq (jn @fillV.eq_1 (jn @fillV.eq_2 @hbx))))))) ?_
  apply WP.gen3
  intro hp3 c3 wl3 hhp3 hwl3
  subst hwl3
  have nid : (n1 = id) = False := eq_false (by omega)
  have nid0 : (n1 = 0) = False := eq_false (by omega)
  have hx1 : hp3.get id = some ⟨g', false, fl (encS B)⟩ := by rw [hhp3]; simp [nid, hy]
  have hx2 : hp3.get 0 = hp'.get 0 := by rw [hhp3]; simp [nid0]
  have hx3 : hp3.get n1 = some ⟨c', false, [.d (.int .i64 y.k), .d (.int .i64 y.o), .d (.int .i64 y.t), .d (.int .i64 y.v), .d (.str y.nm), .d (.slice (encX y.args))]⟩ := by rw [hhp3]; simp
  clear hhp3
  obtain ⟨u2, id2, g2, W2, hI1, hI2, hI3, hI4, hz, hfr, hlo2, hlt2, hge⟩ := (names68 y (by omega)).caller (n1 + 1) c3 hp3
  simp only [aG, X.cells_eq, List.map_cons, List.map_nil, dB] at hI1
  have hz1 := (hfr id (by omega)).trans hx1
  have hz2 := (hfr 0 (by omega)).trans (hx2.trans hbx)
  have r2 := fl_len (encS_row B)
  have r3 := fl_take (encS_row B)
  have r4 := fl_len (encS_row (nmX [] y))
  have r5 := fl_take (encS_row (nmX [] y))
  rw [encS_len, Nat.mul_one] at r2 r3 r4 r5
  have r6 : fl (encS B) ++ fl (encS (nmX [] y)) = fl (encS (B ++ nmX [] y)) := by unfold fl encS; simp
  have f5 : fitsB (B.length + (nmX [] y).length) 16 = true := by have := nmX_sz y; simp [fitsB]; omega
  have hidn := eq_true (show id < n1 + 1 + u2.n by omega)
  repeat (first
 | apply WP.seq
 | (apply WP.reg; (case hR => dsimp only [prepL, prepO, List.map, gS, gZ]; exact iZ); (case hr => (repeat (first
 | (apply RT.op; simp [dI, dL, hx3, hz1, hz, r2, r3, r4, r5, r6, f5, hidn, nble_d]; exact iZ; (try dsimp only [putEnv]) <;> exact rfl)
 | (apply RT.call; (iterate 2 simp; exact iZ); exact iZ; (iterate 4 simp [dI, dL, hx3, hz1, hz, r2, r3, r4, r5, r6, f5, hidn, nble_d]; exact iZ); simp [Is]; (try dsimp only [putEnv]) <;> exact rfl; simp; exact iZ; simp; exact iZ)
 | (apply RT.callV; (iterate 2 simp; exact iZ); exact iZ; (iterate 3 simp [dI, dL, hx3, hz1, hz, r2, r3, r4, r5, r6, f5, hidn, nble_d]; exact iZ); (try dsimp only [putEnv]) <;> exact rfl)
 | (apply RT.callI (hd := hI1) (hne := hI2) (hw := hI3) (hwr := hI4); (iterate 2 simp; exact iZ); exact iZ; (iterate 2 simp [dI, dL, hx3, hz1, hz, r2, r3, r4, r5, r6, f5, hidn, nble_d]; exact iZ); (try dsimp only [putEnv]) <;> exact rfl; (first | omega | simp))
 | (apply RT.wr; simp [dI, dL, hx3, hz1, hz, r2, r3, r4, r5, r6, f5, hidn, nble_d]; exact iZ; (try dsimp only [putEnv]) <;> exact rfl; simp [dI, dL, hx3, hz1, hz, r2, r3, r4, r5, r6, f5, hidn, nble_d]; exact iZ; (iterate 2 exact iZ); simp; exact iZ))); exact RT.nil); (case hc => first | (refine checkR_un [(0, 1), (0, 2)] (by kernel_rfl) (by kernel_rfl) rfl ?_; simp [memA, disj, nbeq_dec, disj_ge hge, nid0]; done) | (show _ = _; kernel_rfl)); (case ht => simp [dI, dL, hx3, hz1, hz, r2, r3, r4, r5, r6, f5, hidn, nble_d]; exact iZ))
 | apply WP.block | apply WP.skip | apply WP.exit | apply WP.ret | refine WP.condT rfl ?_ | refine WP.condF rfl ?_)
  refine loop_next (by simp [hw]; exact Is.rfl) ?_
  exact ⟨D - 1, by omega, i + 1, _, _, _, B ++ nmX [] y, by omega, by rw [take_flat hyx, hB, List.append_assoc], by rw [get_trunc_lt (by omega)]; simp; rfl, by rw [get_trunc_lt (by omega)]; simp [hid0, hz2], st_eq (by simp [dI, dL, hw]) rfl⟩
 simp at hb
 have hie : i = q.args.length := by omega
 rw [hie, List.take_length] at hB
 clear hi hb hie
 have hBl := (show B.length ≤ q.r.sz + szX q.args by rw [hB, List.length_append]; have := nms_sz q.args; omega)
 obtain ⟨B2, hB2⟩ : ∃ B2, B2 = B ++ (if q.ev = [] then [] else [q.ev]) := ⟨_, rfl⟩
 have hB2l : B2.length ≤ B.length + 1 := by rw [hB2]; split <;> simp
 have hc1 : q.ev.isEmpty = true ∧ B2 = B ∨ q.ev.isEmpty = false ∧ B2 = B ++ [q.ev] := by
  rw [hB2]
  cases h : q.ev with
  | nil => exact .inl ⟨rfl, by simp⟩
  | cons _ _ => exact .inr ⟨rfl, by simp⟩
 rcases hc1 with ⟨c1, hB3⟩ | ⟨c1, hB3⟩
 refine wkciv (jn @dI.eq_1 (jn @dL.eq_1 (jn @hbx (jn @tx_bne @c1)))) ?_
 apply WP.gen3
 intro hp4 c4 wl4 hhp4 hwl4
 subst hwl4
 have hy4 : ∃ g4, g4 = g' ∧ hp4.get id = some ⟨g4, false, fl (encS B2)⟩ := ⟨g', rfl, by rw [hhp4, hB3]; exact hy⟩
 have hl4 : B.length = B2.length := by rw [hB3]
 rw [hl4]
 have hn2 : ∃ n2, n2 = n1 ∧ id < n2 := ⟨_, rfl, hlt⟩
 rotate_left
 have r2 := fl_len (encS_row B)
 have r3 := fl_take (encS_row B)
 have r6 : fl (encS B) ++ [V.d (.str q.ev)] = fl (encS (B ++ [q.ev])) := by unfold fl encS; simp
 have f5 : fitsB (B.length + 1) 16 = true := fitsB_snoc (by omega)
 rw [encS_len, Nat.mul_one] at r2 r3
 have hidn := eq_true (show id < n1 + 1 by omega)
 have hid1 : (n1 = id) = False := eq_false (by omega)
 have hid2 : (id = n1) = False := eq_false (by omega)
 have n10 : (n1 = 0) = False := eq_false (by omega)
 refine wkciv (jn @dI.eq_1 (jn @dL.eq_1 (jn @hbx (jn @tx_bne (jn @c1 (jn @fillV.eq_1 (jn @fillV.eq_2 (jn @closeParts.eq_1 (jn @closeParts.eq_2 (jn @cl2.eq_def (jn @toD_dep (jn @toD_d (jn @hy (jn @r2 (jn @r3 (jn @r6 (jn @f5 (jn @hidn (jn @hid1 (jn @hid2 (jn @hid0 (jn @n10 @nble_d)))))))))))))))))))))) ?_
 apply WP.gen3
 intro hp4 c4 wl4 hhp4 hwl4
 subst hwl4
 have hl4 : B.length + 1 = B2.length := by rw [hB3]; simp
 have hy4 : ∃ g4, g4 = c' + 1 ∧ hp4.get id = some ⟨g4, false, fl (encS B2)⟩ := ⟨c' + 1, rfl, by rw [hhp4, hB3]; simp [hid1, hid2]⟩
 rw [hl4]
 have hn2 : ∃ n2, n2 = n1 + 1 ∧ id < n2 := ⟨_, rfl, by omega⟩
 rotate_left
 all_goals
  obtain ⟨g4, hg4, hy4⟩ := hy4
  obtain ⟨n2, hn2, hlt2⟩ := hn2
  rw [← hg4, ← hn2]
  clear hg4 hn2 hhp4 hy hbx hl4
  have e : rdQ q = B2 ++ q.ck.map On.nm := by unfold rdQ; rw [hB2, hB, hL0]
  rw [e]
  apply WP.loop' (I := fun D s => ∃ (i g' c' : Nat) (hp' : Hp) (B : List Tx), i + D = q.ck.length ∧ B = B2 ++ (q.ck.take i).map On.nm ∧ hp'.get id = some ⟨g', false, fl (encS B)⟩ ∧
   s = ⟨[(3, .osl id g' 0 B.length 1 none), (32, dL (encO q.ck)), (33, dI q.ck.length), (34, dI i)], hp', n2, c', 0, []⟩) (d := q.ck.length)
  ·exact ⟨0, g4, _, _, B2, by simp, by simp, hy4, st_eq (by simp [dI, dL]) rfl⟩
  clear hy4 hB3
  rintro D _ ⟨i, g', c', hp', B9, hi, hB9, hy, rfl⟩
  have hBl9 : B9.length ≤ 8388608 := by rw [hB9]; simp; omega
  refine wkiv (jn @dI.eq_1 @dL.eq_1) ?_
  show WP _ _ _ _ _ _
  refine WP.cond _ rfl (fun hb => ?_) (fun hb => ?_)
  ·simp at hb
   have hb' : i < q.ck.length := by omega
   obtain ⟨y, hyx, hym, hix⟩ := at_lt hb'
   have hy' := encO_at hyx
   have hw := w_succ hb' (by omega)
   have r2 := fl_len (encS_row B9)
   have r3 := fl_take (encS_row B9)
   have r6 : fl (encS B9) ++ [V.d (.str y.nm)] = fl (encS (B9 ++ [y.nm])) := by unfold fl encS; simp
   have f5 : fitsB (B9.length + 1) 16 = true := fitsB_snoc (by omega)
   rw [encS_len, Nat.mul_one] at r2 r3
   have nid : (n2 = id) = False := eq_false (by omega)
   have nid1 : (n2 + 1 = id) = False := eq_false (by omega)
   have idn : (id = n2 + 1) = False := eq_false (by omega)
   have idn0 : (id = n2) = False := eq_false (by omega)
   have hidn := eq_true (show id < n2 + 1 + 1 by omega)
   refine wkciv (jn @dI.eq_1 (jn @dL.eq_1 (jn @hix (jn @hy' (jn @On.cells.eq_1 (jn @fillV.eq_1 (jn @fillV.eq_2 (jn @closeParts.eq_1 (jn @closeParts.eq_2 (jn @cl2.eq_def (jn @toD_dep (jn @toD_d (jn @hy (jn @r2 (jn @r3 (jn @r6 (jn @f5 (jn @hidn (jn @nid (jn @nid1 (jn @idn (jn @idn0 @nble_d)))))))))))))))))))))) ?_
   refine loop_next (by simp [hw]; exact Is.rfl) ?_
   exact ⟨D - 1, by omega, i + 1, _, _, _, B9 ++ [y.nm], by omega, by rw [take_snoc hyx, hB9]; simp, by rw [get_trunc_lt (by omega)]; simp; rfl, st_eq (by simp [dI, dL, hw]) rfl⟩
  ·simp at hb
   have hie : i = q.ck.length := by omega
   rw [hie, List.take_length] at hB9
   rw [← hB9]
   refine wkciv (jn @dI.eq_1 @dL.eq_1) ?_
   show retQ _ _ _ _ _
   exact ⟨.inr rfl, _, _, rfl, (nm_close hy)⟩
theorem kf32 (r : Nat) : Ob.keep 32 r = Ob.k32 r := by kernel_rfl
attribute [local simp] kf32 Ob.k32
set_option maxHeartbeats 8000000 in
theorem reads32 (q : Nq) (h : q.sz ≤ 4194304) : den Tryz.prog Ob.cfg 32 [aG q.cells] = some (dL (encS (rdQ q))) := by
 unfold Nq.sz at h
 have k1 := len_szX q.args
 have k2 : q.ck.length ≤ szO q.ck := len_szO q.ck
 refine den_wp Tryz.func32 rfl (by kernel_rfl) rfl rfl ?_
 refine wkciv (jn @envOf.eq_1 (jn @envOf.eq_2 (jn @aG.eq_1 @Nq.cells.eq_1))) ?_
 apply WP.gen3
 intro hp1 c1 wl1 hhp hwl
 subst hwl
 have hbx : hp1.get 0 = some ⟨0, false, (q.cells.map V.d)⟩ := by rw [hhp]; rfl
 obtain ⟨u, id, g, W, hI1, hI2, hI3, hI4, hy, hfr, hlo, hlt, hge⟩ := (names60 q.r (by omega)).caller 1 c1 hp1
 have hbx2 := (hfr 0 (by omega)).trans hbx
 simp only [aG, X.cells_eq, List.map_cons, List.map_nil, dB] at hI1
 simp only [Nq.cells, List.map_cons, List.map_nil] at hbx hbx2
 refine wkciv (jn @hbx @hbx2) ?_
 apply WP.gen3
 intro hp2 c2 wl2 hhp2 hwl2
 subst hwl2
 rw [← hhp2] at hy hbx2
 obtain ⟨n1, hn1⟩ : ∃ n1, n1 = 1 + u.n := ⟨_, rfl⟩
 rw [← hn1] at hlt ⊢
 have h1n : 1 < n1 := by omega
 have hid0 : (id = 0) = False := eq_false (by omega)
 have h0id : (0 = id) = False := eq_false (by omega)
 obtain ⟨L0, hL0⟩ : ∃ L0, nmX [] q.r = L0 := ⟨_, rfl⟩
 have hl0 : L0.length ≤ q.r.sz := by rw [← hL0]; exact nmX_sz q.r
 rw [hL0] at hy ⊢
 clear hI1 hI2 hI3 hI4 hhp hhp2 hge hfr
 apply WP.loop' (I := fun D s => ∃ (i g' c' : Nat) (hp' : Hp) (B : List Tx), i + D = q.args.length ∧ B = L0 ++ (q.args.take i).flatMap (nmX []) ∧ hp'.get id = some ⟨g', false, fl (encS B)⟩ ∧ hp'.get 0 = some ⟨0, false, [.d (.int .i64 q.k), .d (.slice (encS q.left)), .d (.int .i64 q.r.k), .d (.int .i64 q.r.o), .d (.int .i64 q.r.t), .d (.int .i64 q.r.v), .d (.str q.r.nm), .d (.slice (encX q.r.args)), .d (.int .i64 q.ini), .d (.str q.node), .d (.slice (encX q.args)), .d (.str q.ev), .d (.slice (encO q.ck))]⟩ ∧
   s = ⟨[(1, .ptr 0 0 0), (3, .osl id g' 0 B.length 1 none), (4, dI i)], hp', n1, c', 0, []⟩) (d := q.args.length)
 ·exact ⟨0, g, _, _, L0, by simp, by simp, hy, hbx2, st_eq (by simp [dI, dL]) rfl⟩
 clear hy hbx2 hbx
 rintro D _ ⟨i, g', c', hp', B, hi, hB, hy, hbx, rfl⟩
 have hBl : B.length ≤ 4194304 := by rw [hB, List.length_append]; have := nms_take q.args i; omega
 refine wkiv (jn @dI.eq_1 (jn @dL.eq_1 (jn @hbx @encX_len))) ?_
 show WP _ _ _ _ _ _
 refine WP.cond _ rfl (fun hb => ?_) (fun hb => ?_)
 ·simp at hb
  have hb' : i < q.args.length := by omega
  obtain ⟨y, hyx, hym, hix⟩ := at_lt hb'
  have hy' := encX_at hyx
  have hw := w_succ hb' (by omega)
  have hys := mem_szX hym
  obtain ⟨u2, id2, g2, W2, hI1, hI2, hI3, hI4, hz, hfr, hlo2, hlt2, hge⟩ := (names60 y (by omega)).caller n1 c' hp'
  simp only [aG, X.cells_eq, List.map_cons, List.map_nil, dB] at hI1
  have hz1 := (hfr id (by omega)).trans hy
  have hz2 := (hfr 0 (by omega)).trans hbx
  have r2 := fl_len (encS_row B)
  have r3 := fl_take (encS_row B)
  have r4 := fl_len (encS_row (nmX [] y))
  have r5 := fl_take (encS_row (nmX [] y))
  rw [encS_len, Nat.mul_one] at r2 r3 r4 r5
  have r6 : fl (encS B) ++ fl (encS (nmX [] y)) = fl (encS (B ++ nmX [] y)) := by unfold fl encS; simp
  have f5 : fitsB (B.length + (nmX [] y).length) 16 = true := by have := nmX_sz y; simp [fitsB]; omega
  have hidn := eq_true (show id < n1 + u2.n by omega)
  have n01 := eq_true (show 0 < n1 by omega)
  repeat (first
 | apply WP.seq
 | (apply WP.reg; (case hR => dsimp only [prepL, prepO, List.map, gS, gZ]; exact iZ); (case hr => (repeat (first
 | (apply RT.op; simp [dI, dL, hix, hy', X.cells_eq, fillV, hbx, hz1, hz, r2, r3, r4, r5, r6, f5, hidn, nble_d]; exact iZ; (try dsimp only [putEnv]) <;> exact rfl)
 | (apply RT.call; (iterate 2 simp; exact iZ); exact iZ; (iterate 4 simp [dI, dL, hix, hy', X.cells_eq, fillV, hbx, hz1, hz, r2, r3, r4, r5, r6, f5, hidn, nble_d]; exact iZ); simp [Is]; (try dsimp only [putEnv]) <;> exact rfl; simp; exact iZ; simp; exact iZ)
 | (apply RT.callV; (iterate 2 simp; exact iZ); exact iZ; (iterate 3 simp [dI, dL, hix, hy', X.cells_eq, fillV, hbx, hz1, hz, r2, r3, r4, r5, r6, f5, hidn, nble_d]; exact iZ); (try dsimp only [putEnv]) <;> exact rfl)
 | (apply RT.callI (hd := hI1) (hne := hI2) (hw := hI3) (hwr := hI4); (iterate 2 simp; exact iZ); exact iZ; (iterate 2 simp [dI, dL, hix, hy', X.cells_eq, fillV, hbx, hz1, hz, r2, r3, r4, r5, r6, f5, hidn, nble_d]; exact iZ); (try dsimp only [putEnv]) <;> exact rfl; (first | omega | simp))
 | (apply RT.wr; simp [dI, dL, hix, hy', X.cells_eq, fillV, hbx, hz1, hz, r2, r3, r4, r5, r6, f5, hidn, nble_d]; exact iZ; (try dsimp only [putEnv]) <;> exact rfl; simp [dI, dL, hix, hy', X.cells_eq, fillV, hbx, hz1, hz, r2, r3, r4, r5, r6, f5, hidn, nble_d]; exact iZ; (iterate 2 exact iZ); simp; exact iZ))); exact RT.nil); (case hc => first | (refine checkR_un [(0, 1), (0, 2), (0, 3), (1, 3), (2, 3), (0, 4), (0, 5), (0, 6)] (by kernel_rfl) (by kernel_rfl) rfl ?_; simp [memA, disj, nbeq_dec, disj_ge hge, n01]; done) | (show _ = _; kernel_rfl)); (case ht => simp [dI, dL, hix, hy', X.cells_eq, fillV, hbx, hz1, hz, r2, r3, r4, r5, r6, f5, hidn, nble_d]; exact iZ))
 | apply WP.block | apply WP.skip | apply WP.exit | apply WP.ret | refine WP.condT rfl ?_ | refine WP.condF rfl ?_)
  refine loop_next (by simp [hw]; exact Is.rfl) ?_
  exact ⟨D - 1, by omega, i + 1, _, _, _, B ++ nmX [] y, by omega, by rw [take_flat hyx, hB, List.append_assoc], by rw [get_trunc_lt (by omega)]; simp; rfl, by rw [get_trunc_lt (by omega)]; simp [hid0, hz2], st_eq (by simp [dI, dL, hw]) rfl⟩
 simp at hb
 have hie : i = q.args.length := by omega
 rw [hie, List.take_length] at hB
 clear hi hb hie
 have hBl := (show B.length ≤ q.r.sz + szX q.args by rw [hB, List.length_append]; have := nms_sz q.args; omega)
 obtain ⟨B2, hB2⟩ : ∃ B2, B2 = B ++ (if q.ev = [] then [] else [q.ev]) := ⟨_, rfl⟩
 have hB2l : B2.length ≤ B.length + 1 := by rw [hB2]; split <;> simp
 have hc1 : q.ev.isEmpty = true ∧ B2 = B ∨ q.ev.isEmpty = false ∧ B2 = B ++ [q.ev] := by
  rw [hB2]
  cases h : q.ev with
  | nil => exact .inl ⟨rfl, by simp⟩
  | cons _ _ => exact .inr ⟨rfl, by simp⟩
 rcases hc1 with ⟨c1, hB3⟩ | ⟨c1, hB3⟩
 refine wkciv (jn @dI.eq_1 (jn @dL.eq_1 (jn @hbx (jn @tx_bne @c1)))) ?_
 apply WP.gen3
 intro hp4 c4 wl4 hhp4 hwl4
 subst hwl4
 have hy4 : ∃ g4, g4 = g' ∧ hp4.get id = some ⟨g4, false, fl (encS B2)⟩ := ⟨g', rfl, by rw [hhp4, hB3]; exact hy⟩
 have hb4 : hp4.get 0 = hp'.get 0 := by rw [hhp4]
 have hl4 : B.length = B2.length := by rw [hB3]
 rw [hl4]
 have hn2 : ∃ n2, n2 = n1 ∧ id < n2 := ⟨_, rfl, hlt⟩
 rotate_left
 have r2 := fl_len (encS_row B)
 have r3 := fl_take (encS_row B)
 have r6 : fl (encS B) ++ [V.d (.str q.ev)] = fl (encS (B ++ [q.ev])) := by unfold fl encS; simp
 have f5 : fitsB (B.length + 1) 16 = true := fitsB_snoc (by omega)
 rw [encS_len, Nat.mul_one] at r2 r3
 have hidn := eq_true (show id < n1 + 1 by omega)
 have hid1 : (n1 = id) = False := eq_false (by omega)
 have hid2 : (id = n1) = False := eq_false (by omega)
 have n10 : (n1 = 0) = False := eq_false (by omega)
 refine wkciv (jn @dI.eq_1 (jn @dL.eq_1 (jn @hbx (jn @tx_bne (jn @c1 (jn @fillV.eq_1 (jn @fillV.eq_2 (jn @closeParts.eq_1 (jn @closeParts.eq_2 (jn @cl2.eq_def (jn @toD_dep (jn @toD_d (jn @hy (jn @r2 (jn @r3 (jn @r6 (jn @f5 (jn @hidn (jn @hid1 (jn @hid2 (jn @hid0 (jn @n10 @nble_d)))))))))))))))))))))) ?_
 apply WP.gen3
 intro hp4 c4 wl4 hhp4 hwl4
 subst hwl4
 have hl4 : B.length + 1 = B2.length := by rw [hB3]; simp
 have hb4 : hp4.get 0 = hp'.get 0 := by rw [hhp4]; simp [hid0, n10]
 have hy4 : ∃ g4, g4 = c' + 1 ∧ hp4.get id = some ⟨g4, false, fl (encS B2)⟩ := ⟨c' + 1, rfl, by rw [hhp4, hB3]; simp [hid1, hid2]⟩
 rw [hl4]
 have hn2 : ∃ n2, n2 = n1 + 1 ∧ id < n2 := ⟨_, rfl, by omega⟩
 rotate_left
 all_goals
  obtain ⟨g4, hg4, hy4⟩ := hy4
  obtain ⟨n2, hn2, hlt2⟩ := hn2
  rw [← hg4, ← hn2]
  rw [hbx] at hb4
  clear hg4 hn2 hhp4 hy hbx hl4
  have e : rdQ q = B2 ++ q.ck.map On.nm := by unfold rdQ; rw [hB2, hB, hL0]
  rw [e]
  apply WP.loop' (I := fun D s => ∃ (i g' c' : Nat) (hp' : Hp) (B : List Tx), i + D = q.ck.length ∧ B = B2 ++ (q.ck.take i).map On.nm ∧ hp'.get id = some ⟨g', false, fl (encS B)⟩ ∧ hp'.get 0 = some ⟨0, false, [.d (.int .i64 q.k), .d (.slice (encS q.left)), .d (.int .i64 q.r.k), .d (.int .i64 q.r.o), .d (.int .i64 q.r.t), .d (.int .i64 q.r.v), .d (.str q.r.nm), .d (.slice (encX q.r.args)), .d (.int .i64 q.ini), .d (.str q.node), .d (.slice (encX q.args)), .d (.str q.ev), .d (.slice (encO q.ck))]⟩ ∧
   s = ⟨[(1, .ptr 0 0 0), (3, .osl id g' 0 B.length 1 none), (5, dI i)], hp', n2, c', 0, []⟩) (d := q.ck.length)
  ·exact ⟨0, g4, _, _, B2, by simp, by simp, hy4, hb4, st_eq (by simp [dI, dL]) rfl⟩
  clear hy4 hB3 hb4
  rintro D _ ⟨i, g', c', hp', B9, hi, hB9, hy, hbx, rfl⟩
  have hBl9 : B9.length ≤ 8388608 := by rw [hB9]; simp; omega
  refine wkiv (jn @dI.eq_1 (jn @dL.eq_1 (jn @hbx @encO_len))) ?_
  show WP _ _ _ _ _ _
  refine WP.cond _ rfl (fun hb => ?_) (fun hb => ?_)
  ·simp at hb
   have hb' : i < q.ck.length := by omega
   obtain ⟨y, hyx, hym, hix⟩ := at_lt hb'
   have hy' := encO_at hyx
   have hw := w_succ hb' (by omega)
   have r2 := fl_len (encS_row B9)
   have r3 := fl_take (encS_row B9)
   have r6 : fl (encS B9) ++ [V.d (.str y.nm)] = fl (encS (B9 ++ [y.nm])) := by unfold fl encS; simp
   have f5 : fitsB (B9.length + 1) 16 = true := fitsB_snoc (by omega)
   rw [encS_len, Nat.mul_one] at r2 r3
   have nid : (n2 = id) = False := eq_false (by omega)
   have n20 : (n2 = 0) = False := eq_false (by omega)
   have idn0 : (id = n2) = False := eq_false (by omega)
   have hidn := eq_true (show id < n2 + 1 by omega)
   refine wkciv (jn @dI.eq_1 (jn @dL.eq_1 (jn @hix (jn @hy' (jn @On.cells.eq_1 (jn @fillV.eq_1 (jn @fillV.eq_2 (jn @closeParts.eq_1 (jn @closeParts.eq_2 (jn @cl2.eq_def (jn @toD_dep (jn @toD_d (jn @hy (jn @r2 (jn @r3 (jn @r6 (jn @f5 (jn @hidn (jn @nid (jn @n20 (jn @hid0 (jn @idn0 (jn @hbx @nble_d))))))))))))))))))))))) ?_
   refine loop_next (by simp [hw]; exact Is.rfl) ?_
   exact ⟨D - 1, by omega, i + 1, _, _, _, B9 ++ [y.nm], by omega, by rw [take_snoc hyx, hB9]; simp, by rw [get_trunc_lt (by omega)]; simp; rfl, by rw [get_trunc_lt (by omega)]; simp [hid0, n20, hbx], st_eq (by simp [dI, dL, hw]) rfl⟩
  ·simp at hb
   have hie : i = q.ck.length := by omega
   rw [hie, List.take_length] at hB9
   rw [← hB9]
   refine wkciv (jn @dI.eq_1 @dL.eq_1) ?_
   show retQ _ _ _ _ _
   exact ⟨.inr rfl, _, _, rfl, (nm_close hy)⟩
end Go.Ac
end

section
set_option maxRecDepth 8000
namespace Go.Ac
open Go.Proofs
attribute [local simp] Hp.get_set get_trunc_lt
/-- Whether an equation defines one of these names now. -/
def wtQ (l : List Tx) (q : Nq) : Bool := !decide (q.k = 2) && q.left.any (fun x => decide (x ∈ l))
/-- Whether all equations come in order. -/
def rgAt (n : Nn) (i : Nat) : Bool := match n.eqs[i]? with | none => true | some q => (n.eqs.drop i).all fun k => !wtQ (rdQ q) k
def rgN (n : Nn) : Bool := (List.range n.eqs.length).all (rgAt n)
theorem rdQ_len {q : Nq} (h : q.sz ≤ 4194304) : (rdQ q).length ≤ MX := by
 have hs0 : q.sz = szS q.left + q.r.sz + szT q.node + szX q.args + szT q.ev + szO q.ck + 13 := rfl
 unfold rdQ
 have h1 := nmX_sz q.r
 have h2 := nms_sz q.args
 have h3 := len_szO q.ck
 simp only [List.length_append, List.length_map]
 have h4 : (if q.ev = [] then ([] : List Tx) else [q.ev]).length ≤ 1 := by split <;> simp
 unfold MX; omega
theorem kf33 (r : Nat) : Ob.keep 33 r = Ob.k33 r := by kernel_rfl
theorem kf15 (r : Nat) : Ob.keep 15 r = Ob.k15 r := by kernel_rfl
attribute [local simp] kf33 Ob.k33 kf15 Ob.k15
set_option maxHeartbeats 8000000 in
theorem waits33 (l : List Tx) (q : Nq) (hl : l.length ≤ MX) (hq : q.left.length ≤ 8388608) : den Tryz.prog Ob.cfg 33 [dL (encS l), aG q.cells] = some (dB (wtQ l q)) := by
 refine den_wp Tryz.func33 rfl (by kernel_rfl) rfl rfl ?_
 have hSe : (encS q.left).length = q.left.length := encS_len _
 unfold wtQ
 by_cases k2 : q.k = 2
 ·have k2' := eq_true k2
  rw [decide_eq_true k2]
  refine wkc (jn @envOf.eq_1 (jn @envOf.eq_2 (jn @aG.eq_1 (jn @Nq.cells.eq_1 (jn @dL.eq_1 (jn @fillV.eq_1 (jn @fillV.eq_2 (jn @int_beq @k2')))))))) ?_
  show retQ _ _ _ _ _
  exact ⟨.inr rfl, _, _, rfl, rfl⟩
 ·have k2' := eq_false k2
  rw [decide_eq_false k2]
  simp only [Bool.not_false, Bool.true_and]
  refine wkc (jn @envOf.eq_1 (jn @envOf.eq_2 (jn @aG.eq_1 (jn @Nq.cells.eq_1 (jn @dL.eq_1 (jn @fillV.eq_1 (jn @fillV.eq_2 (jn @int_beq @k2')))))))) ?_
  apply WP.loop' (I := fun D s => ∃ (j c' : Nat) (hp' : Hp), j + D = q.left.length ∧ hp'.get 0 = some ⟨0, false, QC q⟩ ∧ (q.left.take j).any (fun x => decide (x ∈ l)) = false ∧
   s = ⟨[(0, dL (encS l)), (3, .ptr 0 0 0), (5, dI j)], hp', 1, c', 0, []⟩) (d := q.left.length)
  ·exact ⟨0, _, _, by simp, by rfl, by simp, st_eq (by simp [dI, dL]) rfl⟩
  rintro D _ ⟨j, c', hp', hj, h0, hno, rfl⟩
  unfold QC at h0
  refine wk (jn @dI.eq_1 (jn @dL.eq_1 (jn @h0 @hSe))) ?_
  show WP _ _ _ _ _ _
  refine WP.cond _ rfl (fun hb => ?_) (fun hb => ?_)
  ·simp at hb
   have hb' : j < q.left.length := by omega
   obtain ⟨x, hx, hxm, hix⟩ := at_lt hb'
   have hx' := encS_at hx
   have hwj := w_succ hb' (by omega)
   have hh := has61 l x hl
   have hsn := any_snoc2 hx hno
   simp only [dL, dS, dB] at hh
   by_cases h : x ∈ l
   ·rw [decide_eq_true h] at hh
    rw [List.any_eq_true.2 ⟨x, hxm, decide_eq_true h⟩]
    refine wkc (jn @dI.eq_1 (jn @dL.eq_1 (jn @dB.eq_1 (jn @hSe (jn @hix (jn @hx' (jn @h0 @hh))))))) ?_
    show retQ _ _ _ _ _
    exact ⟨.inr rfl, _, _, rfl, rfl⟩
   ·rw [decide_eq_false h] at hh hsn
    refine wkc (jn @dI.eq_1 (jn @dL.eq_1 (jn @dB.eq_1 (jn @hSe (jn @hix (jn @hx' (jn @h0 @hh))))))) ?_
    refine loop_next (by simp [hwj]; exact Is.rfl) ?_
    exact ⟨D - 1, by omega, j + 1, _, _, by omega, by simp [h0, QC], hsn, st_eq (by simp [dI, dL, hwj]) rfl⟩
  ·simp at hb
   have hje : j = q.left.length := by omega
   rw [hje, List.take_length] at hno
   rw [hno]
   refine wkc (jn @dI.eq_1 @dL.eq_1) ?_
   show retQ _ _ _ _ _
   exact ⟨.inr rfl, _, _, rfl, rfl⟩
theorem all_snoc3 {α : Type} {p : α → Bool} {l : List α} {j : Nat} {x : α} (h : l[j]? = some x) (hn : (l.take j).all p = true) : (l.take (j + 1)).all p = p x := by
 rw [take_snoc h, List.all_append, hn, Bool.true_and]; simp
theorem rgN_false {n : Nn} {i : Nat} {q : Nq} (hq : n.eqs[i]? = some q) {d : Nat} {k : Nq} (hk : (n.eqs.drop i)[d]? = some k) (h : wtQ (rdQ q) k = true) : rgN n = false := by
 unfold rgN
 rw [List.all_eq_false]
 refine ⟨i, List.mem_range.2 (List.getElem?_eq_some_iff.1 hq).1, ?_⟩
 unfold rgAt
 rw [hq]
 simp only
 rw [Bool.not_eq_true, List.all_eq_false]
 exact ⟨k, List.mem_of_getElem? hk, by simp [h]⟩
set_option maxHeartbeats 8000000 in
theorem right15 (n : Nn) (hs : n.sz ≤ 4194304) : den Tryz.prog Ob.cfg 15 [aG n.cells] = some (dB (rgN n)) := by
 refine den_wp Tryz.func15 rfl (by kernel_rfl) rfl rfl ?_
 have hsz : n.sz = szT n.nm + szD n.inn + szD n.out + szD n.loc + szN n.eqs + 5 := rfl
 have hNl := len_szN n.eqs
 have hNe : (encN n.eqs).length = n.eqs.length := encN_len _
 refine wkc (jn @envOf.eq_1 (jn @envOf.eq_2 (jn @aG.eq_1 (jn @Nn.cells.eq_1 (jn @fillV.eq_1 (jn @fillV.eq_2 @dL.eq_1)))))) ?_
 apply WP.loop' (I := fun D s => ∃ (i c' : Nat) (hp' : Hp), i + D = n.eqs.length ∧ hp'.get 0 = some ⟨0, false, oN n⟩ ∧ ((List.range n.eqs.length).take i).all (rgAt n) = true ∧
  s = ⟨[(1, .ptr 0 0 0), (3, dI i)], hp', 1, c', 0, []⟩) (d := n.eqs.length)
 ·exact ⟨0, _, _, by simp, by rfl, by simp, st_eq (by simp [dI]) rfl⟩
 rintro D _ ⟨i, c', hp', hi, h0, hall, rfl⟩
 unfold oN at h0
 refine wk (jn @dI.eq_1 (jn @dL.eq_1 (jn @h0 @hNe))) ?_
 show WP _ _ _ _ _ _
 refine WP.cond _ rfl (fun hb => ?_) (fun hb => ?_)
 ·simp at hb
  have hb' : i < n.eqs.length := by omega
  obtain ⟨q, hq, hqm, hix⟩ := at_lt hb'
  have hq' := encN_at hq
  have hwi := w_succ hb' (by omega)
  have hqs := mem_szN hqm
  have hrd := reads32 q (by omega)
  have hrl := rdQ_len (q := q) (by omega)
  have hsn := all_snoc3 (l := List.range n.eqs.length) (j := i) (x := i) (by rw [List.getElem?_range hb']) hall
  have hrg : rgAt n i = (n.eqs.drop i).all fun k => !wtQ (rdQ q) k := by unfold rgAt; rw [hq]
  have hfal := fun {d : Nat} {k : Nq} => rgN_false (n := n) hq (d := d) (k := k)
  obtain ⟨R, hR⟩ : ∃ R, rdQ q = R := ⟨_, rfl⟩
  rw [hR] at hrd hrl hrg hfal
  simp only [dL, aG, Nq.cells, List.map_cons, List.map_nil] at hrd
  refine wkc (jn @dI.eq_1 (jn @dL.eq_1 (jn @hNe (jn @Nq.cells.eq_1 (jn @hix (jn @hq' (jn @h0 (jn @hrd (jn @fillV.eq_1 @fillV.eq_2))))))))) ?_
  obtain ⟨U, hU⟩ : ∃ U, n.eqs.drop i = U := ⟨_, rfl⟩
  have hUl : U.length = n.eqs.length - i := by rw [← hU, List.length_drop]
  rw [hU] at hrg hfal
  apply WP.loop' (I := fun D2 s => ∃ (j c' : Nat) (hp' : Hp), j + D2 = U.length ∧ hp'.get 0 = some ⟨0, false, oN n⟩ ∧ (U.take j).all (fun k => !wtQ R k) = true ∧
   s = ⟨[(1, .ptr 0 0 0), (3, dI i), (4, dL (encS R)), (5, dI ((i + j : Nat) : Int))], hp', 1, c', 0, []⟩) (d := U.length)
  ·exact ⟨0, _, _, by simp, by simp [h0, oN], by simp, st_eq (by simp [dI, dL]) rfl⟩
  clear h0
  rintro D2 _ ⟨j, c', hp', hj, h0, hallj, rfl⟩
  unfold oN at h0
  refine wk (jn @dI.eq_1 (jn @dL.eq_1 (jn @h0 @hNe))) ?_
  show WP _ _ _ _ _ _
  refine WP.cond _ rfl (fun hb => ?_) (fun hb => ?_)
  ·simp at hb
   have hb2 : j < U.length := by omega
   obtain ⟨k, hk, hkm, _⟩ := at_lt hb2
   have hk2 : n.eqs[i + j]? = some k := by rw [← hU, List.getElem?_drop] at hk; exact hk
   have hkm2 : k ∈ n.eqs := List.mem_of_getElem? hk2
   have hk' := encN_at hk2
   have hks := mem_szN hkm2
   have hkz : k.sz = szS k.left + k.r.sz + szT k.node + szX k.args + szT k.ev + szO k.ck + 13 := rfl
   have hkl := len_szS k.left
   have hix2 : idx ((i : Int) + (j : Int)) n.eqs.length = some (i + j) := by have := idx_lt (show i + j < n.eqs.length by omega); simpa using this
   have hwt := waits33 R k hrl (by omega)
   have hw2 : IntKind.i64.wrap ((i : Int) + (j : Int) + 1) = (i : Int) + (j : Int) + 1 := by rw [w_id] <;> omega
   have hsnj := all_snoc3 hk hallj
   simp only [dL, dB, aG, Nq.cells, List.map_cons, List.map_nil] at hwt
   cases hw : wtQ R k with
   | true =>
    rw [hw] at hwt
    rw [hfal hk hw]
    refine wkc (jn @dI.eq_1 (jn @dL.eq_1 (jn @dB.eq_1 (jn @hNe (jn @Nq.cells.eq_1 (jn @hix2 (jn @hk' (jn @h0 (jn @hwt (jn @fillV.eq_1 @fillV.eq_2)))))))))) ?_
    show retQ _ _ _ _ _
    exact ⟨.inr rfl, _, _, rfl, rfl⟩
   | false =>
    rw [hw] at hwt hsnj
    refine wkc (jn @dI.eq_1 (jn @dL.eq_1 (jn @dB.eq_1 (jn @hNe (jn @Nq.cells.eq_1 (jn @hix2 (jn @hk' (jn @h0 (jn @hwt (jn @fillV.eq_1 @fillV.eq_2)))))))))) ?_
    refine loop_next (by simp [hw2]; exact Is.rfl) ?_
    exact ⟨D2 - 1, by omega, j + 1, _, _, by omega, by simp [h0, oN], hsnj, st_eq (by simp [dI, dL, hw2]; omega) rfl⟩
  ·simp at hb
   have hje : j = U.length := by omega
   rw [hje, List.take_length] at hallj
   rw [hallj] at hrg
   refine wkc (jn @dI.eq_1 @dL.eq_1) ?_
   refine loop_next (by simp [hwi]; exact Is.rfl) ?_
   exact ⟨D - 1, by omega, i + 1, _, _, by omega, by simp [h0, oN], by rw [hsn, hrg], st_eq (by simp [dI, hwi]) rfl⟩
 ·simp at hb
  have hie : i = n.eqs.length := by omega
  have : (List.range n.eqs.length).take i = List.range n.eqs.length := by rw [hie]; exact List.take_of_length_le (by simp)
  rw [this] at hall
  have hrn : rgN n = true := hall
  rw [hrn]
  refine wkc (jn @dI.eq_1 @dL.eq_1) ?_
  show retQ _ _ _ _ _
  exact ⟨.inr rfl, _, _, rfl, rfl⟩
end Go.Ac
end

section
set_option maxRecDepth 8000
namespace Go.Ac
open Go.Proofs
attribute [local simp] Hp.get_set get_trunc_lt
/-- A set of numbers, as the machine keeps it. -/
def mpI (S : List Nat) : V := .mpc (S.map fun d : Nat => D.int .i64 (d : Int)) (S.map fun _ => dB true) (List.range S.length) S.length
theorem findV_I (d : Nat) : ∀ (S : List Nat) (j : Nat), findV (.int .i64 (d : Int)) (S.map fun d : Nat => D.int .i64 (d : Int)) j = some ((S.findIdx? (fun e => decide (e = d))).map (j + ·))
 | [], j => rfl
 | e :: r, j => by
  have ih := findV_I d r (j + 1)
  have hk : keyEq (.int .i64 (d : Int)) (.int .i64 (e : Int)) = some (decide (e = d)) := by
   show (if IntKind.i64 = IntKind.i64 then some ((d : Int) == (e : Int)) else none) = _
   rw [if_pos rfl]
   by_cases h : e = d
   ·subst h; simp
   ·have : ((d : Int) == (e : Int)) = false := by simp; omega
    rw [this, decide_eq_false h]
  simp only [List.map_cons, findV, hk, List.findIdx?_cons]
  by_cases h : e = d
  ·rw [decide_eq_true h, if_pos rfl]; rfl
  ·rw [decide_eq_false h, if_neg (by simp)]
   simp only [ih, Option.map_map]
   congr 2
   funext i; simp; omega
theorem lookup_I (S : List Nat) {id g : Nat} {ro : Bool} {sz by_ : Nat} {zr : Option (List V)} {look : Look} {d : Nat} (h : look id = some ⟨g, ro, [mpI S]⟩) :
  lookupV look ⟨.int .i64, sz, by_, zr⟩ (some (.d (.bool false))) (.mp id g) (.d (.int .i64 d)) false = some ⟨.d (.bool (decide (d ∈ S))), [], [id], 0, 0, false⟩ := by
 unfold lookupV
 have hl : live look id g = some ⟨g, ro, [mpI S]⟩ := by unfold live; rw [h]; simp
 simp only [keyOK, decide_true, hl, mpI, findV_I]
 cases hf : S.findIdx? (fun e => decide (e = d)) with
 | none =>
  have hn : d ∉ S := fun hm => by
   have := List.findIdx?_eq_none_iff.1 hf d hm; simp at this
  rw [decide_eq_false hn]; rfl
 | some i =>
  obtain ⟨h1, h2, _⟩ := List.findIdx?_eq_some_iff_getElem.1 hf
  have hm : d ∈ S := by have : S[i] = d := (by simpa using h2); rw [← this]; exact List.getElem_mem h1
  rw [decide_eq_true hm]
  simp only [Option.map_some, Nat.zero_add, List.getElem?_map, List.getElem?_eq_getElem h1]; rfl
theorem insert_I (S : List Nat) {id g : Nat} {sz by_ : Nat} {zr : Option (List V)} {look : Look} {d : Nat} (hn : d ∉ S) (h : look id = some ⟨g, false, [mpI S]⟩) :
  insertV look ⟨.int .i64, sz, by_, zr⟩ (.mp id g) (.d (.int .i64 d)) (.d (.bool true)) = some ⟨.undef, [(id, ⟨g, false, [mpI (S ++ [d])]⟩)], [id], 0, 0, false⟩ := by
 unfold insertV
 have hl : live look id g = some ⟨g, false, [mpI S]⟩ := by unfold live; rw [h]; simp
 have hf : S.findIdx? (fun e => decide (e = d)) = none := by
  rw [List.findIdx?_eq_none_iff]; intro e he; simp; rintro rfl; exact hn he
 simp only [keyOK, decide_true, hl, mpI, findV_I, hf]
 simp [List.range_succ, dB]
/-- Edges. -/
def encEd (E : List (Nat × Nat)) : List (List D) := E.map fun p => [.int .i64 (p.1 : Int), .int .i64 (p.2 : Int)]
theorem encEd_len (E : List (Nat × Nat)) : (encEd E).length = E.length := by simp [encEd]
theorem encEd_at {E : List (Nat × Nat)} {i : Nat} {p : Nat × Nat} (h : E[i]? = some p) : (encEd E)[i]? = some [.int .i64 (p.1 : Int), .int .i64 (p.2 : Int)] := by unfold encEd; simp [h]
theorem encEd_row (E : List (Nat × Nat)) : ∀ r ∈ encEd E, r.length = 2 := by unfold encEd; intro r hr; obtain ⟨x, _, rfl⟩ := List.mem_map.1 hr; rfl
theorem encEd_snoc (E : List (Nat × Nat)) (p : Nat × Nat) : encEd E ++ [[.int .i64 (p.1 : Int), .int .i64 (p.2 : Int)]] = encEd (E ++ [p]) := by unfold encEd; simp
def bkE (p : Nat × Nat) : Bool := decide (p.2 ≤ p.1)
theorem kf29 (r : Nat) : Ob.keep 29 r = Ob.k29 r := by kernel_rfl
theorem kf45 (r : Nat) : Ob.keep 45 r = Ob.k45 r := by kernel_rfl
theorem kf28 (r : Nat) : Ob.keep 28 r = Ob.k28 r := by kernel_rfl
attribute [local simp] kf29 Ob.k29 kf45 Ob.k45 kf28 Ob.k28
theorem back29 (p : Nat × Nat) : den Tryz.prog Ob.cfg 29 [.agg [.d (.int .i64 (p.1 : Int)), .d (.int .i64 (p.2 : Int))]] = some (dB (bkE p)) := by
 refine den_wp Tryz.func29 rfl (by kernel_rfl) rfl rfl ?_
 unfold bkE
 by_cases h : p.2 ≤ p.1
 ·have h' := eq_true (show (p.1 : Int) ≥ (p.2 : Int) by omega)
  rw [decide_eq_true h]
  refine wkc (jn @envOf.eq_1 (jn @envOf.eq_2 @h')) ?_
  show retQ _ _ _ _ _
  exact ⟨.inr rfl, _, _, rfl, rfl⟩
 ·have h' := eq_false (show ¬ (p.1 : Int) ≥ (p.2 : Int) by omega)
  rw [decide_eq_false h]
  refine wkc (jn @envOf.eq_1 (jn @envOf.eq_2 @h')) ?_
  show retQ _ _ _ _ _
  exact ⟨.inr rfl, _, _, rfl, rfl⟩
set_option maxHeartbeats 4000000 in
theorem index45 (l : List (Nat × Nat)) (hl : l.length ≤ MX) : den Tryz.prog Ob.cfg 45 [dL (encEd l), .fn 29 []] = some (dI (ixP bkE l)) := by
 unfold MX at hl
 refine den_wp Tryz.func45 rfl (by kernel_rfl) rfl rfl ?_
 have hle := encEd_len l
 refine wkc (jn @envOf.eq_1 (jn @envOf.eq_2 @dL.eq_1)) ?_
 apply WP.loop' (I := fun D s => ∃ i : Nat, i + D = l.length ∧ (l.take i).all (fun y => !bkE y) = true ∧ SE [(0, dL (encEd l)), (1, .fn 29 []), (7, dI l.length), (8, dI i)] [] 0 s) (d := l.length)
 ·exact ⟨0, by simp, by simp, SE.mk (by simp [dL, dI, hle]) rfl⟩
 rintro D _ ⟨i, hi, hno, cc, rfl⟩
 refine wk (jn @dI.eq_1 @dL.eq_1) ?_
 show WP _ _ _ _ _ _
 refine WP.cond _ rfl (fun hb => ?_) (fun hb => ?_)
 ·simp at hb
  have hb' : i < l.length := by omega
  obtain ⟨y, hy, hym, hix⟩ := at_lt hb'
  have hy' := encEd_at hy
  have hw := w_succ hb' (by omega)
  have hs := all_snoc (p := fun y => !bkE y) hy
  have hd := back29 y
  simp only [dB] at hd
  cases hq : bkE y with
  | true =>
   rw [hq] at hd
   rw [ixP_some hno hy hq]
   refine wkc (jn @dI.eq_1 (jn @dL.eq_1 (jn @hle (jn @hix (jn @hy' @hd))))) ?_
   show retQ _ _ _ _ _
   exact ⟨.inr rfl, _, _, rfl, rfl⟩
  | false =>
   rw [hq] at hd
   refine wkc (jn @dI.eq_1 (jn @dL.eq_1 (jn @hle (jn @hix (jn @hy' @hd))))) ?_
   refine loop_next (by simp [hw]; exact Is.rfl) ?_
   exact ⟨D - 1, by omega, i + 1, by omega, by rw [hs, hno, hq]; rfl, SE.mk (by simp [dI, dL, hw]) rfl⟩
 ·simp at hb
  have hie : i = l.length := by omega
  rw [hie, List.take_length] at hno
  rw [ixP_none hno]
  refine wkc (jn @dI.eq_1 @dL.eq_1) ?_
  show retQ _ _ _ _ _
  exact ⟨.inr rfl, _, _, rfl, rfl⟩
theorem contains28 (l : List (Nat × Nat)) (hl : l.length ≤ MX) : den Tryz.prog Ob.cfg 28 [dL (encEd l), .fn 29 []] = some (dB (l.any bkE)) := by
 have h := index45 l hl
 simp only [dL, dI] at h
 rw [← ixP_any]
 refine den_wp Tryz.func28 rfl (by kernel_rfl) rfl rfl ?_
 refine wkc (jn @envOf.eq_1 (jn @envOf.eq_2 (jn @dL.eq_1 @h))) ?_
 show retQ _ _ _ _ _
 exact ⟨.inr rfl, _, _, rfl, rfl⟩
end Go.Ac
end
