/- Joining two cases: the loop. -/
import Derived.Test.YtofbmhmdpeclnaaFuZ
set_option linter.unusedVariables false
set_option linter.unusedSimpArgs false
set_option maxRecDepth 4000
set_option linter.unusedSimpArgs false
set_option linter.unusedVariables false
namespace Go.Ab
open Go.Proofs

theorem rowsOf_fnil (look : Look) (sz : Nat) : rowsOf look sz (.full []) = some (0, [], []) := rfl
attribute [simp] rowsOf_fnil

set_option maxHeartbeats 16000000 in
theorem join_both (N : Nat) (ihN : JoinAt N) (hp0 : Hp) (n0 : Nat) (ids0 : List Nat) (idl gl : Nat) (cl : List V) (io go m : Nat) (c1 : List V) (o1 : List Y) (io1 : List Nat) (ida ga : Nat) (a : Y) (idb gb : Nat) (vs : List V) (bs zs : List (List Y)) (cr : List V) (rest : List Y) (E : List Nat) (e11 e12 e13 : V)
    (hzs : zs = List.zipWith (fun x y => Jf N (x ++ y)) a.brs bs) (hfl : a.brs.length = bs.length) (hsz : szB a.brs + szB bs ≤ N) (hszm : szB a.brs + szB bs ≤ MB) (hc1 : c1.length = m * 12)
    (hp1 : Hp) (n1 cc1 : Nat) (wl1 : List Nat) (vsa1 : List V) (ia1 iz1 : List Nat)
    (hC : CI hp0 n0 ids0 idl gl cl hp1 n1 wl1 io go (c1 ++ (hdY a ++ [.osl ida ga 0 bs.length 1 (some bs.length)])) c1 o1 io1 ida ga vsa1 a.brs ia1 idb gb vs vs bs iz1 cr rest E) :
    WP Try.prog Hn.cfg 21 (inside Try.f21 4) ⟨[(3, .osl io go 0 (m + 1) 12 none), (8, dI m), (11, e11), (12, e12), (13, e13), (55, .osl idb gb 0 bs.length 1 (some bs.length)), (56, dI bs.length), (57, dI 0)], hp1, n1, cc1, n0, wl1⟩
      (fun e t => e = .exit 4 ∧ ∃ hp n c wl vsa ia, CI hp0 n0 ids0 idl gl cl hp n wl io go (c1 ++ (hdY a ++ [.osl ida ga 0 bs.length 1 (some bs.length)])) c1 o1 io1 ida ga vsa zs ia idb gb vs [] [] [] cr rest E ∧
        t = ⟨[(3, .osl io go 0 (m + 1) 12 none), (8, dI m), (11, e11), (12, e12), (13, e13), (55, .osl idb gb 0 bs.length 1 (some bs.length)), (56, dI bs.length), (57, dI bs.length), (58, .d (.bool false))], hp, n, c, n0, wl⟩) := by
  have hlb := len_szB bs
  unfold MB at hszm
  have hzl : zs.length = bs.length := by rw [hzs]; simp; omega
  obtain ⟨cg, hcg⟩ : ∃ cg, cg = c1 ++ (hdY a ++ [.osl ida ga 0 bs.length 1 (some bs.length)]) := ⟨_, rfl⟩
  have hcg1 : cg[m * 12 + 11]? = some (.osl ida ga 0 bs.length 1 (some bs.length)) := by
    rw [hcg, List.getElem?_append_right (by omega), hc1, Nat.add_sub_cancel_left]; rfl
  rw [← hcg] at hC ⊢
  refine WP.loop' (I := fun d s => ∃ k : Nat, k + d = bs.length ∧ ∃ hp n c wl vsa ia iz, CI hp0 n0 ids0 idl gl cl hp n wl io go cg c1 o1 io1 ida ga vsa (zs.take k ++ a.brs.drop k) ia idb gb vs (vs.drop k) (bs.drop k) iz cr rest E ∧
    s = ⟨[(3, .osl io go 0 (m + 1) 12 none), (8, dI m), (11, e11), (12, e12), (13, e13), (55, .osl idb gb 0 bs.length 1 (some bs.length)), (56, dI bs.length), (57, dI k)], hp, n, c, n0, wl⟩) (d := bs.length) ?_ ?_
  · exact ⟨0, by simp, hp1, n1, cc1, wl1, vsa1, ia1, iz1, by simpa using hC, rfl⟩
  rintro d _ ⟨k, hk, hp, n, c, wl, vsa, ia, iz, hC, rfl⟩
  repeat (first
    | apply WP.seq
    | (apply WP.reg
       case hR => dsimp only [prepL, prepO, List.map, List.getElem?_cons_succ, List.getElem?_cons_zero]; exact Is.rfl
       case hr =>
         repeat (first
           | (apply RT.op (h := by simp [dI, -addNew]; exact Is.rfl) (he := by (try dsimp only [putEnv]) <;> exact rfl))
           | (apply RT.call (hg := by simp; exact Is.rfl) (hfo := by simp; exact Is.rfl) (hvs := by simp [dI, -addNew]; exact Is.rfl) (hcl := by simp [dI, -addNew]; exact Is.rfl) (hd := by simp [dI, -addNew]; exact Is.rfl) (hwr := by simp [dI, -addNew]; exact Is.rfl) (hlt := by simp [Is]) (he := by (try dsimp only [putEnv]) <;> exact rfl) (hh := by simp; exact Is.rfl) (hw := by exact Is.rfl))
           | (apply RT.callI (hg := by simp; exact Is.rfl) (hfo := by simp; exact Is.rfl) (hvs := by simp [dI, -addNew]; exact Is.rfl) (hcl := by simp [dI, -addNew]; exact Is.rfl) (hd := hI1) (hne := hI2) (hw := hI3) (hwr := hI4) (he := by (try dsimp only [putEnv]) <;> exact rfl) (hn0 := by first | omega | simp))
           | (apply RT.callT (hg := by simp; exact Is.rfl) (hfo := by simp; exact Is.rfl) (hvs := by simp [dI, -addNew]; exact Is.rfl) (hcl := by simp [dI, -addNew]; exact Is.rfl) (hd := hT1) (hk := hT2) (he := by (try dsimp only [putEnv]) <;> exact rfl))
           | (apply RT.wr (h := by simp [dI, -addNew]; exact Is.rfl) (he := by (try dsimp only [putEnv]) <;> exact rfl) (hh := by simp [dI, -addNew]; exact Is.rfl) (hn := by exact Is.rfl) (hc := by exact Is.rfl) (hw := by exact Is.rfl)))
         exact RT.nil
       case hc => (show _ = _; kernel_rfl)
       case ht => simp [dI, -addNew]; exact Is.rfl)
    | apply WP.block
    | apply WP.skip
    | apply WP.exit
    | apply WP.ret)
  show WP _ _ _ _ _ _
  refine WP.cond _ rfl (fun hb => ?_) (fun hb => ?_)
  · simp at hb
    obtain ⟨z, hzr, hzm, hzx⟩ := at_lt hb
    obtain ⟨x, hxr, hxm, hxx⟩ := at_lt (l := a.brs) (i := k) (by omega)
    have hxs := mem_szB hxm
    have hzsz := mem_szB hzm
    have hw2 := w_succ hb (by omega)
    have hmx : idx (m : Int) (m + 1) = some m := by
      unfold idx
      rw [if_pos ⟨by omega, by omega⟩]
      simp
    have hszw : szY (x ++ z) = szY x + szY z := szY_app x z
    have hlx := len_szY x
    have hlz := len_szY z
    have hszN : szY (x ++ z) < N := by omega
    have hszM : szY (x ++ z) ≤ MB := by unfold MB; omega
    have hdz : bs.drop k = z :: bs.drop (k + 1) := by
      obtain ⟨h1, h2⟩ := List.getElem?_eq_some_iff.1 hzr
      rw [List.drop_eq_getElem_cons h1, h2]
    have hzsk : zs[k]? = some (Jf N (x ++ z)) := by rw [hzs]; simp [List.getElem?_zipWith, hxr, hzr]
    have hmid : (zs.take k ++ a.brs.drop k)[k]? = some x := by
      rw [List.getElem?_append_right (by simp; omega)]
      simp [hzl, show min k bs.length = k by omega, hxr]
    have hmix : (zs.take k ++ a.brs.drop k).set k (Jf N (x ++ z)) = zs.take (k + 1) ++ a.brs.drop (k + 1) := by
      obtain ⟨h1, h2⟩ := List.getElem?_eq_some_iff.1 hxr
      have hd : a.brs.drop k = x :: a.brs.drop (k + 1) := by rw [List.drop_eq_getElem_cons h1, h2]
      rw [hd, List.set_append_right _ _ (by simp; omega), take_S hzsk]
      simp [hzl, show min k bs.length = k by omega]
    rw [hdz] at hC
    obtain ⟨vz, vsr, izk, izr, hvz, hizq, hTz, htz⟩ := hC.tz.uncons
    obtain ⟨vx, i1, ix, i3, hvx, hiaq, hTx, hmk⟩ := hC.ta.at_ hmid
    have hvz2 : vs[k]? = some vz := by
      have := congrArg List.head? hvz
      rw [List.head?_drop] at this
      simpa using this
    have hvsr : vs.drop (k + 1) = vsr := by
      have := congrArg List.tail hvz
      rw [List.tail_drop] at this
      simpa using this
    rw [hvz, hizq, hiaq] at hC
    have hmk2 := fun look' v' i2' hf ht => hmk look' v' (Jf N (x ++ z)) i2' hf ht
    simp only [hmix] at hmk2
    have hK := hC.ko
    have hgo := hK.go
    have hga := hC.ga
    have hgb := hC.gb
    have hnn := hK.nn
    have hval : vsa.length = bs.length := by rw [hC.ta.len]; simp; omega
    have hset : ∀ w, vsa.take k ++ w :: vsa.drop (k + 1) = vsa.set k w := fun w => by rw [List.set_eq_take_append_cons_drop, if_pos (by omega)]
    have hkle : k + 1 ≤ bs.length := by omega
    have hfx : x.length * 176 ≤ 140737488355328 := by omega
    have hfz : z.length * 176 ≤ 140737488355328 := by omega
    have hfw : (x.length + z.length) * 176 ≤ 140737488355328 := by omega
    have hixE : ∀ j, j ∈ ix → j < n := fun j hj => hK.ltE (by simp [hj])
    have hizE : ∀ j, j ∈ izk → j < n := fun j hj => hK.ltE (by simp [hj])
    have hnd2 : (ix ++ izk).Nodup := by
      have h1 := hK.ndE
      have hperm : ((ida :: (i1 ++ (ix ++ i3))) ++ ((idb :: (izk ++ izr)) ++ E)).Perm ((ix ++ izk) ++ (ida :: (i1 ++ (i3 ++ (idb :: (izr ++ E)))))) := by
        have hc : ∀ j, List.count j ((ida :: (i1 ++ (ix ++ i3))) ++ ((idb :: (izk ++ izr)) ++ E)) = List.count j ((ix ++ izk) ++ (ida :: (i1 ++ (i3 ++ (idb :: (izr ++ E)))))) := fun j => by
          simp only [List.count_append, List.count_cons]
          omega
        exact List.perm_iff_count.2 hc
      rw [hperm.nodup_iff, List.nodup_append] at h1
      exact h1.1
    repeat (first
      | apply WP.seq
      | (apply WP.reg
         case hR => dsimp only [prepL, prepO, List.map, List.getElem?_cons_succ, List.getElem?_cons_zero]; exact Is.rfl
         case hr =>
           repeat (first
             | (apply RT.op (h := by simp [hgb, hzx, hvz2, -addNew]; exact Is.rfl) (he := by (try dsimp only [putEnv]) <;> exact rfl))
             | (apply RT.call (hg := by simp; exact Is.rfl) (hfo := by simp; exact Is.rfl) (hvs := by simp [hgb, hzx, hvz2, -addNew]; exact Is.rfl) (hcl := by simp [hgb, hzx, hvz2, -addNew]; exact Is.rfl) (hd := by simp [hgb, hzx, hvz2, -addNew]; exact Is.rfl) (hwr := by simp [hgb, hzx, hvz2, -addNew]; exact Is.rfl) (hlt := by simp [Is]) (he := by (try dsimp only [putEnv]) <;> exact rfl) (hh := by simp; exact Is.rfl) (hw := by exact Is.rfl))
             | (apply RT.callI (hg := by simp; exact Is.rfl) (hfo := by simp; exact Is.rfl) (hvs := by simp [hgb, hzx, hvz2, -addNew]; exact Is.rfl) (hcl := by simp [hgb, hzx, hvz2, -addNew]; exact Is.rfl) (hd := hI1) (hne := hI2) (hw := hI3) (hwr := hI4) (he := by (try dsimp only [putEnv]) <;> exact rfl) (hn0 := by first | omega | simp))
             | (apply RT.callT (hg := by simp; exact Is.rfl) (hfo := by simp; exact Is.rfl) (hvs := by simp [hgb, hzx, hvz2, -addNew]; exact Is.rfl) (hcl := by simp [hgb, hzx, hvz2, -addNew]; exact Is.rfl) (hd := hT1) (hk := hT2) (he := by (try dsimp only [putEnv]) <;> exact rfl))
             | (apply RT.wr (h := by simp [hgb, hzx, hvz2, -addNew]; exact Is.rfl) (he := by (try dsimp only [putEnv]) <;> exact rfl) (hh := by simp [hgb, hzx, hvz2, -addNew]; exact Is.rfl) (hn := by exact Is.rfl) (hc := by exact Is.rfl) (hw := by exact Is.rfl)))
           exact RT.nil
         case hc => (show _ = _; kernel_rfl)
         case ht => simp [hgb, hzx, hvz2, -addNew]; exact Is.rfl)
      | apply WP.block
      | apply WP.skip
      | apply WP.exit
      | apply WP.ret)
    have hxx2 : idx (k : Int) bs.length = some k := hzx
    cases hTx with
    | nil =>
      cases hTz with
      | nil =>
        simp only [List.append_nil] at hmk2
        have hTC : TC (hp.set n ⟨c, false, []⟩).get ([]) [] [] := .nil
        have hXn : (n :: ([] : List Nat)).Nodup := by simp
        have hX : ∀ j, j ∈ n :: ([] : List Nat) → (j ∈ ([] : List Nat) ∨ j ∈ ([] : List Nat)) ∨ (n ≤ j ∧ j < n + 1) := fun j hj => .inr (by rw [List.mem_singleton] at hj; omega)
        have hXlt : ∀ j, j ∈ n :: [] → j < (n + 1) := fun j hj => by
          rcases hX j hj with (h | h) | h
          · have := hixE j h; omega
          · have := hizE j h; omega
          · exact h.2
        obtain ⟨r, hT1, hP⟩ := ihN [] (by simpa using hszN) (by simpa using hszM) (hp.set n ⟨c, false, []⟩) (n + 1) (c + 1) n c ([]) [] (Hp.get_set_self ..) hTC hXn hXlt
        rw [List.length_nil] at hT1
        obtain ⟨io', go', inew, hrv, hC2, hcida, hkey, hXio, hXida, hidan⟩ := CI.round hC htz hmk2 hX hXn (by omega) hP
        have hT2 : ∀ q, q ∈ (tWr r (n + 1)).map (·.1) → q < (n + 1) + (r.n - (n + 1)) := fun q hq => (hkey q hq).2
        have hdk : disj ((tWr r (n + 1)).map (·.1)) [io] = true := disj_of fun q hq w hw => by
          rw [List.mem_singleton] at hw
          subst hw
          exact (hkey q hq).1
        have hb1 : Nat.beq n io = false := nbeq_ne hXio
        have hal : ida < (n + 1) + (r.n - (n + 1)) := by omega
        apply WP.reg
        case hR => dsimp only [prepL, prepO, List.map, List.getElem?_cons_succ, List.getElem?_cons_zero]; exact Is.rfl
        case hr =>
          repeat (first
            | (apply RT.op (h := by simp [hmx, hgo, hga, hval, hvx, hxx2, hcg1, hfx, hfz, hfw, hset, hkle, hrv, hcida, hal, closeVs_false, -addNew, thr_Hn]; exact Is.rfl) (he := by (try dsimp only [putEnv]) <;> exact rfl))
            | (apply RT.call (hg := by simp; exact Is.rfl) (hfo := by simp; exact Is.rfl) (hvs := by simp [hmx, hgo, hga, hval, hvx, hxx2, hcg1, hfx, hfz, hfw, hset, hkle, hrv, hcida, hal, closeVs_false, -addNew, thr_Hn]; exact Is.rfl) (hcl := by simp [hmx, hgo, hga, hval, hvx, hxx2, hcg1, hfx, hfz, hfw, hset, hkle, hrv, hcida, hal, closeVs_false, -addNew, thr_Hn]; exact Is.rfl) (hd := by simp [hmx, hgo, hga, hval, hvx, hxx2, hcg1, hfx, hfz, hfw, hset, hkle, hrv, hcida, hal, closeVs_false, -addNew, thr_Hn]; exact Is.rfl) (hwr := by simp [hmx, hgo, hga, hval, hvx, hxx2, hcg1, hfx, hfz, hfw, hset, hkle, hrv, hcida, hal, closeVs_false, -addNew, thr_Hn]; exact Is.rfl) (hlt := by simp [Is]) (he := by (try dsimp only [putEnv]) <;> exact rfl) (hh := by simp; exact Is.rfl) (hw := by exact Is.rfl))
            | (apply RT.callI (hg := by simp; exact Is.rfl) (hfo := by simp; exact Is.rfl) (hvs := by simp [hmx, hgo, hga, hval, hvx, hxx2, hcg1, hfx, hfz, hfw, hset, hkle, hrv, hcida, hal, closeVs_false, -addNew, thr_Hn]; exact Is.rfl) (hcl := by simp [hmx, hgo, hga, hval, hvx, hxx2, hcg1, hfx, hfz, hfw, hset, hkle, hrv, hcida, hal, closeVs_false, -addNew, thr_Hn]; exact Is.rfl) (hd := hI1) (hne := hI2) (hw := hI3) (hwr := hI4) (he := by (try dsimp only [putEnv]) <;> exact rfl) (hn0 := by first | omega | simp))
            | (apply RT.callT (hg := by simp; exact Is.rfl) (hfo := by simp; exact Is.rfl) (hvs := by simp [hmx, hgo, hga, hval, hvx, hxx2, hcg1, hfx, hfz, hfw, hset, hkle, hrv, hcida, hal, closeVs_false, -addNew, thr_Hn]; exact Is.rfl) (hcl := by simp [hmx, hgo, hga, hval, hvx, hxx2, hcg1, hfx, hfz, hfw, hset, hkle, hrv, hcida, hal, closeVs_false, -addNew, thr_Hn]; exact Is.rfl) (hd := hT1) (hk := hT2) (he := by (try dsimp only [putEnv]) <;> exact rfl))
            | (apply RT.wr (h := by simp [hmx, hgo, hga, hval, hvx, hxx2, hcg1, hfx, hfz, hfw, hset, hkle, hrv, hcida, hal, closeVs_false, -addNew, thr_Hn]; exact Is.rfl) (he := by (try dsimp only [putEnv]) <;> exact rfl) (hh := by simp [hmx, hgo, hga, hval, hvx, hxx2, hcg1, hfx, hfz, hfw, hset, hkle, hrv, hcida, hal, closeVs_false, -addNew, thr_Hn]; exact Is.rfl) (hn := by exact Is.rfl) (hc := by exact Is.rfl) (hw := by exact Is.rfl)))
          exact RT.nil
        case ht => simp [hmx, hgo, hga, hval, hvx, hxx2, hcg1, hfx, hfz, hfw, hset, hkle, hrv, hcida, hal, closeVs_false, -addNew, thr_Hn]; exact Is.rfl
        case hc =>
          refine checkR_un [(0, 1), (0, 5), (1, 5), (2, 5), (3, 5), (4, 5), (0, 6), (1, 6), (2, 6), (3, 6), (4, 6), (5, 6), (0, 7), (1, 7), (2, 7), (3, 7), (4, 7), (5, 7), (6, 7), (0, 8), (1, 8), (2, 8), (3, 8), (4, 8), (5, 8), (0, 9), (1, 9), (2, 9), (3, 9), (4, 9), (5, 9), (0, 10), (1, 10), (2, 10), (3, 10), (4, 10), (5, 10), (0, 11), (1, 11), (2, 11), (3, 11), (4, 11), (5, 11), (6, 11), (7, 11), (8, 11), (9, 11), (10, 11), (0, 12), (1, 12), (2, 12), (3, 12), (4, 12), (5, 12), (0, 13), (1, 13), (2, 13), (3, 13), (4, 13), (5, 13), (0, 14), (1, 14), (2, 14), (3, 14), (4, 14), (5, 14), (6, 14), (7, 14), (8, 14), (9, 14), (10, 14), (11, 14), (12, 14), (13, 14), (0, 15), (1, 15), (2, 15), (3, 15), (4, 15), (5, 15), (0, 16), (1, 16), (2, 16), (3, 16), (4, 16), (5, 16)] (by kernel_rfl) (by kernel_rfl) rfl ?_
          simp [memA, hdk, hb1]
        repeat (first
          | apply WP.seq
          | (apply WP.reg
             case hR => dsimp only [prepL, prepO, List.map, List.getElem?_cons_succ, List.getElem?_cons_zero]; exact Is.rfl
             case hr =>
               repeat (first
                 | (apply RT.op (h := by simp [-addNew]; exact Is.rfl) (he := by (try dsimp only [putEnv]) <;> exact rfl))
                 | (apply RT.call (hg := by simp; exact Is.rfl) (hfo := by simp; exact Is.rfl) (hvs := by simp [-addNew]; exact Is.rfl) (hcl := by simp [-addNew]; exact Is.rfl) (hd := by simp [-addNew]; exact Is.rfl) (hwr := by simp [-addNew]; exact Is.rfl) (hlt := by simp [Is]) (he := by (try dsimp only [putEnv]) <;> exact rfl) (hh := by simp; exact Is.rfl) (hw := by exact Is.rfl))
                 | (apply RT.callI (hg := by simp; exact Is.rfl) (hfo := by simp; exact Is.rfl) (hvs := by simp [-addNew]; exact Is.rfl) (hcl := by simp [-addNew]; exact Is.rfl) (hd := hI1) (hne := hI2) (hw := hI3) (hwr := hI4) (he := by (try dsimp only [putEnv]) <;> exact rfl) (hn0 := by first | omega | simp))
                 | (apply RT.callT (hg := by simp; exact Is.rfl) (hfo := by simp; exact Is.rfl) (hvs := by simp [-addNew]; exact Is.rfl) (hcl := by simp [-addNew]; exact Is.rfl) (hd := hT1) (hk := hT2) (he := by (try dsimp only [putEnv]) <;> exact rfl))
                 | (apply RT.wr (h := by simp [-addNew]; exact Is.rfl) (he := by (try dsimp only [putEnv]) <;> exact rfl) (hh := by simp [-addNew]; exact Is.rfl) (hn := by exact Is.rfl) (hc := by exact Is.rfl) (hw := by exact Is.rfl)))
               exact RT.nil
             case hc => (show _ = _; kernel_rfl)
             case ht => simp [-addNew]; exact Is.rfl)
          | apply WP.block
          | apply WP.skip
          | apply WP.exit
          | apply WP.ret)
        refine loop_next (by simp [-addNew]; exact Is.rfl) ?_
        refine ⟨d - 1, by omega, k + 1, by omega, _, _, _, _, _, _, _, hvsr ▸ hC2, st_eq (by simp [dI, hw2]) rfl⟩
      | osl hgz hcz =>
        rename_i idvz gz csz tlz
        have hczl := hcz.len
        have hczt : csz.take (z.length * 12) = csz := by rw [← hczl, List.take_length]
        simp only [List.nil_append] at hmk2
        have hTC : TC (hp.set n ⟨c, false, csz⟩).get (csz) z tlz := (hcz.frame fun j hj => Hp.get_set_ne _ _ _ _ (fun he => by have := hizE j (by simp [hj]); omega))
        have hXn : (n :: tlz).Nodup := by
          rw [List.nil_append, List.nodup_cons] at hnd2
          rw [List.nodup_cons]
          exact ⟨fun h => by have := hizE n (by simp [h]); omega, hnd2.2⟩
        have hX : ∀ j, j ∈ n :: tlz → (j ∈ ([] : List Nat) ∨ j ∈ idvz :: tlz) ∨ (n ≤ j ∧ j < n + 1) := fun j hj => by
          rcases List.mem_cons.1 hj with h | h
          · exact .inr (by omega)
          · exact .inl (.inr (List.mem_cons_of_mem _ h))
        have hXlt : ∀ j, j ∈ n :: tlz → j < (n + 1) := fun j hj => by
          rcases hX j hj with (h | h) | h
          · have := hixE j h; omega
          · have := hizE j h; omega
          · exact h.2
        obtain ⟨r, hT1, hP⟩ := ihN z (by simpa using hszN) (by simpa using hszM) (hp.set n ⟨c, false, csz⟩) (n + 1) (c + 1) n c (csz) tlz (Hp.get_set_self ..) hTC hXn hXlt
        obtain ⟨io', go', inew, hrv, hC2, hcida, hkey, hXio, hXida, hidan⟩ := CI.round hC htz hmk2 hX hXn (by omega) hP
        have hT2 : ∀ q, q ∈ (tWr r (n + 1)).map (·.1) → q < (n + 1) + (r.n - (n + 1)) := fun q hq => (hkey q hq).2
        have hdk : disj ((tWr r (n + 1)).map (·.1)) [io] = true := disj_of fun q hq w hw => by
          rw [List.mem_singleton] at hw
          subst hw
          exact (hkey q hq).1
        have hb1 : Nat.beq n io = false := nbeq_ne hXio
        have hal : ida < (n + 1) + (r.n - (n + 1)) := by omega
        apply WP.reg
        case hR => dsimp only [prepL, prepO, List.map, List.getElem?_cons_succ, List.getElem?_cons_zero]; exact Is.rfl
        case hr =>
          repeat (first
            | (apply RT.op (h := by simp [hmx, hgo, hga, hval, hvx, hxx2, hcg1, hfx, hfz, hfw, hset, hkle, hrv, hcida, hal, closeVs_false, -addNew, thr_Hn, hgz, hczl, hczt]; exact Is.rfl) (he := by (try dsimp only [putEnv]) <;> exact rfl))
            | (apply RT.call (hg := by simp; exact Is.rfl) (hfo := by simp; exact Is.rfl) (hvs := by simp [hmx, hgo, hga, hval, hvx, hxx2, hcg1, hfx, hfz, hfw, hset, hkle, hrv, hcida, hal, closeVs_false, -addNew, thr_Hn, hgz, hczl, hczt]; exact Is.rfl) (hcl := by simp [hmx, hgo, hga, hval, hvx, hxx2, hcg1, hfx, hfz, hfw, hset, hkle, hrv, hcida, hal, closeVs_false, -addNew, thr_Hn, hgz, hczl, hczt]; exact Is.rfl) (hd := by simp [hmx, hgo, hga, hval, hvx, hxx2, hcg1, hfx, hfz, hfw, hset, hkle, hrv, hcida, hal, closeVs_false, -addNew, thr_Hn, hgz, hczl, hczt]; exact Is.rfl) (hwr := by simp [hmx, hgo, hga, hval, hvx, hxx2, hcg1, hfx, hfz, hfw, hset, hkle, hrv, hcida, hal, closeVs_false, -addNew, thr_Hn, hgz, hczl, hczt]; exact Is.rfl) (hlt := by simp [Is]) (he := by (try dsimp only [putEnv]) <;> exact rfl) (hh := by simp; exact Is.rfl) (hw := by exact Is.rfl))
            | (apply RT.callI (hg := by simp; exact Is.rfl) (hfo := by simp; exact Is.rfl) (hvs := by simp [hmx, hgo, hga, hval, hvx, hxx2, hcg1, hfx, hfz, hfw, hset, hkle, hrv, hcida, hal, closeVs_false, -addNew, thr_Hn, hgz, hczl, hczt]; exact Is.rfl) (hcl := by simp [hmx, hgo, hga, hval, hvx, hxx2, hcg1, hfx, hfz, hfw, hset, hkle, hrv, hcida, hal, closeVs_false, -addNew, thr_Hn, hgz, hczl, hczt]; exact Is.rfl) (hd := hI1) (hne := hI2) (hw := hI3) (hwr := hI4) (he := by (try dsimp only [putEnv]) <;> exact rfl) (hn0 := by first | omega | simp))
            | (apply RT.callT (hg := by simp; exact Is.rfl) (hfo := by simp; exact Is.rfl) (hvs := by simp [hmx, hgo, hga, hval, hvx, hxx2, hcg1, hfx, hfz, hfw, hset, hkle, hrv, hcida, hal, closeVs_false, -addNew, thr_Hn, hgz, hczl, hczt]; exact Is.rfl) (hcl := by simp [hmx, hgo, hga, hval, hvx, hxx2, hcg1, hfx, hfz, hfw, hset, hkle, hrv, hcida, hal, closeVs_false, -addNew, thr_Hn, hgz, hczl, hczt]; exact Is.rfl) (hd := hT1) (hk := hT2) (he := by (try dsimp only [putEnv]) <;> exact rfl))
            | (apply RT.wr (h := by simp [hmx, hgo, hga, hval, hvx, hxx2, hcg1, hfx, hfz, hfw, hset, hkle, hrv, hcida, hal, closeVs_false, -addNew, thr_Hn, hgz, hczl, hczt]; exact Is.rfl) (he := by (try dsimp only [putEnv]) <;> exact rfl) (hh := by simp [hmx, hgo, hga, hval, hvx, hxx2, hcg1, hfx, hfz, hfw, hset, hkle, hrv, hcida, hal, closeVs_false, -addNew, thr_Hn, hgz, hczl, hczt]; exact Is.rfl) (hn := by exact Is.rfl) (hc := by exact Is.rfl) (hw := by exact Is.rfl)))
          exact RT.nil
        case ht => simp [hmx, hgo, hga, hval, hvx, hxx2, hcg1, hfx, hfz, hfw, hset, hkle, hrv, hcida, hal, closeVs_false, -addNew, thr_Hn, hgz, hczl, hczt]; exact Is.rfl
        case hc =>
          refine checkR_un [(0, 1), (0, 5), (1, 5), (2, 5), (3, 5), (4, 5), (0, 6), (1, 6), (2, 6), (3, 6), (4, 6), (5, 6), (0, 7), (1, 7), (2, 7), (3, 7), (4, 7), (5, 7), (6, 7), (0, 8), (1, 8), (2, 8), (3, 8), (4, 8), (5, 8), (0, 9), (1, 9), (2, 9), (3, 9), (4, 9), (5, 9), (0, 10), (1, 10), (2, 10), (3, 10), (4, 10), (5, 10), (0, 11), (1, 11), (2, 11), (3, 11), (4, 11), (5, 11), (6, 11), (7, 11), (8, 11), (9, 11), (10, 11), (0, 12), (1, 12), (2, 12), (3, 12), (4, 12), (5, 12), (0, 13), (1, 13), (2, 13), (3, 13), (4, 13), (5, 13), (0, 14), (1, 14), (2, 14), (3, 14), (4, 14), (5, 14), (6, 14), (7, 14), (8, 14), (9, 14), (10, 14), (11, 14), (12, 14), (13, 14), (0, 15), (1, 15), (2, 15), (3, 15), (4, 15), (5, 15), (0, 16), (1, 16), (2, 16), (3, 16), (4, 16), (5, 16)] (by kernel_rfl) (by kernel_rfl) rfl ?_
          simp [memA, hdk, hb1]
        repeat (first
          | apply WP.seq
          | (apply WP.reg
             case hR => dsimp only [prepL, prepO, List.map, List.getElem?_cons_succ, List.getElem?_cons_zero]; exact Is.rfl
             case hr =>
               repeat (first
                 | (apply RT.op (h := by simp [-addNew]; exact Is.rfl) (he := by (try dsimp only [putEnv]) <;> exact rfl))
                 | (apply RT.call (hg := by simp; exact Is.rfl) (hfo := by simp; exact Is.rfl) (hvs := by simp [-addNew]; exact Is.rfl) (hcl := by simp [-addNew]; exact Is.rfl) (hd := by simp [-addNew]; exact Is.rfl) (hwr := by simp [-addNew]; exact Is.rfl) (hlt := by simp [Is]) (he := by (try dsimp only [putEnv]) <;> exact rfl) (hh := by simp; exact Is.rfl) (hw := by exact Is.rfl))
                 | (apply RT.callI (hg := by simp; exact Is.rfl) (hfo := by simp; exact Is.rfl) (hvs := by simp [-addNew]; exact Is.rfl) (hcl := by simp [-addNew]; exact Is.rfl) (hd := hI1) (hne := hI2) (hw := hI3) (hwr := hI4) (he := by (try dsimp only [putEnv]) <;> exact rfl) (hn0 := by first | omega | simp))
                 | (apply RT.callT (hg := by simp; exact Is.rfl) (hfo := by simp; exact Is.rfl) (hvs := by simp [-addNew]; exact Is.rfl) (hcl := by simp [-addNew]; exact Is.rfl) (hd := hT1) (hk := hT2) (he := by (try dsimp only [putEnv]) <;> exact rfl))
                 | (apply RT.wr (h := by simp [-addNew]; exact Is.rfl) (he := by (try dsimp only [putEnv]) <;> exact rfl) (hh := by simp [-addNew]; exact Is.rfl) (hn := by exact Is.rfl) (hc := by exact Is.rfl) (hw := by exact Is.rfl)))
               exact RT.nil
             case hc => (show _ = _; kernel_rfl)
             case ht => simp [-addNew]; exact Is.rfl)
          | apply WP.block
          | apply WP.skip
          | apply WP.exit
          | apply WP.ret)
        refine loop_next (by simp [-addNew]; exact Is.rfl) ?_
        refine ⟨d - 1, by omega, k + 1, by omega, _, _, _, _, _, _, _, hvsr ▸ hC2, st_eq (by simp [dI, hw2]) rfl⟩
    | osl hgx hcx =>
      rename_i idvx gx csx tlx
      cases hTz with
      | nil =>
        have hcxl := hcx.len
        have hcxt : csx.take (x.length * 12) = csx := by rw [← hcxl, List.take_length]
        have hidx : idvx < n := hixE idvx (by simp)
        simp only [List.append_nil] at hmk2
        have hTC : TC (hp.set idvx ⟨c, false, csx⟩).get (csx) x tlx := (hcx.frame fun j hj => Hp.get_set_ne _ _ _ _ (fun he => by rw [List.nodup_append] at hnd2; have := hnd2.1; rw [List.nodup_cons] at this; exact this.1 (he ▸ hj)))
        have hXn : (idvx :: tlx).Nodup := by rw [List.append_nil] at hnd2; exact hnd2
        have hX : ∀ j, j ∈ idvx :: tlx → (j ∈ idvx :: tlx ∨ j ∈ ([] : List Nat)) ∨ (n ≤ j ∧ j < n) := fun j hj => .inl (.inl hj)
        have hXlt : ∀ j, j ∈ idvx :: tlx → j < n := fun j hj => by
          rcases hX j hj with (h | h) | h
          · have := hixE j h; omega
          · have := hizE j h; omega
          · exact h.2
        obtain ⟨r, hT1, hP⟩ := ihN x (by simpa using hszN) (by simpa using hszM) (hp.set idvx ⟨c, false, csx⟩) n (c + 1) idvx c (csx) tlx (Hp.get_set_self ..) hTC hXn hXlt
        obtain ⟨io', go', inew, hrv, hC2, hcida, hkey, hXio, hXida, hidan⟩ := CI.round hC htz hmk2 hX hXn (by omega) hP
        have hT2 : ∀ q, q ∈ (tWr r n).map (·.1) → q < n + (r.n - n) := fun q hq => (hkey q hq).2
        have hdk : disj ((tWr r n).map (·.1)) [io] = true := disj_of fun q hq w hw => by
          rw [List.mem_singleton] at hw
          subst hw
          exact (hkey q hq).1
        have hb1 : Nat.beq idvx io = false := nbeq_ne hXio
        have hal : ida < n + (r.n - n) := by omega
        apply WP.reg
        case hR => dsimp only [prepL, prepO, List.map, List.getElem?_cons_succ, List.getElem?_cons_zero]; exact Is.rfl
        case hr =>
          repeat (first
            | (apply RT.op (h := by simp [hmx, hgo, hga, hval, hvx, hxx2, hcg1, hfx, hfz, hfw, hset, hkle, hrv, hcida, hal, closeVs_false, -addNew, thr_Hn, hgx, hcxl, hcxt, hidx]; exact Is.rfl) (he := by (try dsimp only [putEnv]) <;> exact rfl))
            | (apply RT.call (hg := by simp; exact Is.rfl) (hfo := by simp; exact Is.rfl) (hvs := by simp [hmx, hgo, hga, hval, hvx, hxx2, hcg1, hfx, hfz, hfw, hset, hkle, hrv, hcida, hal, closeVs_false, -addNew, thr_Hn, hgx, hcxl, hcxt, hidx]; exact Is.rfl) (hcl := by simp [hmx, hgo, hga, hval, hvx, hxx2, hcg1, hfx, hfz, hfw, hset, hkle, hrv, hcida, hal, closeVs_false, -addNew, thr_Hn, hgx, hcxl, hcxt, hidx]; exact Is.rfl) (hd := by simp [hmx, hgo, hga, hval, hvx, hxx2, hcg1, hfx, hfz, hfw, hset, hkle, hrv, hcida, hal, closeVs_false, -addNew, thr_Hn, hgx, hcxl, hcxt, hidx]; exact Is.rfl) (hwr := by simp [hmx, hgo, hga, hval, hvx, hxx2, hcg1, hfx, hfz, hfw, hset, hkle, hrv, hcida, hal, closeVs_false, -addNew, thr_Hn, hgx, hcxl, hcxt, hidx]; exact Is.rfl) (hlt := by simp [Is]) (he := by (try dsimp only [putEnv]) <;> exact rfl) (hh := by simp; exact Is.rfl) (hw := by exact Is.rfl))
            | (apply RT.callI (hg := by simp; exact Is.rfl) (hfo := by simp; exact Is.rfl) (hvs := by simp [hmx, hgo, hga, hval, hvx, hxx2, hcg1, hfx, hfz, hfw, hset, hkle, hrv, hcida, hal, closeVs_false, -addNew, thr_Hn, hgx, hcxl, hcxt, hidx]; exact Is.rfl) (hcl := by simp [hmx, hgo, hga, hval, hvx, hxx2, hcg1, hfx, hfz, hfw, hset, hkle, hrv, hcida, hal, closeVs_false, -addNew, thr_Hn, hgx, hcxl, hcxt, hidx]; exact Is.rfl) (hd := hI1) (hne := hI2) (hw := hI3) (hwr := hI4) (he := by (try dsimp only [putEnv]) <;> exact rfl) (hn0 := by first | omega | simp))
            | (apply RT.callT (hg := by simp; exact Is.rfl) (hfo := by simp; exact Is.rfl) (hvs := by simp [hmx, hgo, hga, hval, hvx, hxx2, hcg1, hfx, hfz, hfw, hset, hkle, hrv, hcida, hal, closeVs_false, -addNew, thr_Hn, hgx, hcxl, hcxt, hidx]; exact Is.rfl) (hcl := by simp [hmx, hgo, hga, hval, hvx, hxx2, hcg1, hfx, hfz, hfw, hset, hkle, hrv, hcida, hal, closeVs_false, -addNew, thr_Hn, hgx, hcxl, hcxt, hidx]; exact Is.rfl) (hd := hT1) (hk := hT2) (he := by (try dsimp only [putEnv]) <;> exact rfl))
            | (apply RT.wr (h := by simp [hmx, hgo, hga, hval, hvx, hxx2, hcg1, hfx, hfz, hfw, hset, hkle, hrv, hcida, hal, closeVs_false, -addNew, thr_Hn, hgx, hcxl, hcxt, hidx]; exact Is.rfl) (he := by (try dsimp only [putEnv]) <;> exact rfl) (hh := by simp [hmx, hgo, hga, hval, hvx, hxx2, hcg1, hfx, hfz, hfw, hset, hkle, hrv, hcida, hal, closeVs_false, -addNew, thr_Hn, hgx, hcxl, hcxt, hidx]; exact Is.rfl) (hn := by exact Is.rfl) (hc := by exact Is.rfl) (hw := by exact Is.rfl)))
          exact RT.nil
        case ht => simp [hmx, hgo, hga, hval, hvx, hxx2, hcg1, hfx, hfz, hfw, hset, hkle, hrv, hcida, hal, closeVs_false, -addNew, thr_Hn, hgx, hcxl, hcxt, hidx]; exact Is.rfl
        case hc =>
          refine checkR_un [(0, 1), (0, 5), (1, 5), (2, 5), (3, 5), (4, 5), (0, 6), (1, 6), (2, 6), (3, 6), (4, 6), (5, 6), (0, 7), (1, 7), (2, 7), (3, 7), (4, 7), (5, 7), (6, 7), (0, 8), (1, 8), (2, 8), (3, 8), (4, 8), (5, 8), (0, 9), (1, 9), (2, 9), (3, 9), (4, 9), (5, 9), (0, 10), (1, 10), (2, 10), (3, 10), (4, 10), (5, 10), (0, 11), (1, 11), (2, 11), (3, 11), (4, 11), (5, 11), (6, 11), (7, 11), (8, 11), (9, 11), (10, 11), (0, 12), (1, 12), (2, 12), (3, 12), (4, 12), (5, 12), (0, 13), (1, 13), (2, 13), (3, 13), (4, 13), (5, 13), (0, 14), (1, 14), (2, 14), (3, 14), (4, 14), (5, 14), (6, 14), (7, 14), (8, 14), (9, 14), (10, 14), (11, 14), (12, 14), (13, 14), (0, 15), (1, 15), (2, 15), (3, 15), (4, 15), (5, 15), (0, 16), (1, 16), (2, 16), (3, 16), (4, 16), (5, 16)] (by kernel_rfl) (by kernel_rfl) rfl ?_
          simp [memA, hdk, hb1]
        repeat (first
          | apply WP.seq
          | (apply WP.reg
             case hR => dsimp only [prepL, prepO, List.map, List.getElem?_cons_succ, List.getElem?_cons_zero]; exact Is.rfl
             case hr =>
               repeat (first
                 | (apply RT.op (h := by simp [-addNew]; exact Is.rfl) (he := by (try dsimp only [putEnv]) <;> exact rfl))
                 | (apply RT.call (hg := by simp; exact Is.rfl) (hfo := by simp; exact Is.rfl) (hvs := by simp [-addNew]; exact Is.rfl) (hcl := by simp [-addNew]; exact Is.rfl) (hd := by simp [-addNew]; exact Is.rfl) (hwr := by simp [-addNew]; exact Is.rfl) (hlt := by simp [Is]) (he := by (try dsimp only [putEnv]) <;> exact rfl) (hh := by simp; exact Is.rfl) (hw := by exact Is.rfl))
                 | (apply RT.callI (hg := by simp; exact Is.rfl) (hfo := by simp; exact Is.rfl) (hvs := by simp [-addNew]; exact Is.rfl) (hcl := by simp [-addNew]; exact Is.rfl) (hd := hI1) (hne := hI2) (hw := hI3) (hwr := hI4) (he := by (try dsimp only [putEnv]) <;> exact rfl) (hn0 := by first | omega | simp))
                 | (apply RT.callT (hg := by simp; exact Is.rfl) (hfo := by simp; exact Is.rfl) (hvs := by simp [-addNew]; exact Is.rfl) (hcl := by simp [-addNew]; exact Is.rfl) (hd := hT1) (hk := hT2) (he := by (try dsimp only [putEnv]) <;> exact rfl))
                 | (apply RT.wr (h := by simp [-addNew]; exact Is.rfl) (he := by (try dsimp only [putEnv]) <;> exact rfl) (hh := by simp [-addNew]; exact Is.rfl) (hn := by exact Is.rfl) (hc := by exact Is.rfl) (hw := by exact Is.rfl)))
               exact RT.nil
             case hc => (show _ = _; kernel_rfl)
             case ht => simp [-addNew]; exact Is.rfl)
          | apply WP.block
          | apply WP.skip
          | apply WP.exit
          | apply WP.ret)
        refine loop_next (by simp [-addNew]; exact Is.rfl) ?_
        refine ⟨d - 1, by omega, k + 1, by omega, _, _, _, _, _, _, _, hvsr ▸ hC2, st_eq (by simp [dI, hw2]) rfl⟩
      | osl hgz hcz =>
        rename_i idvz gz csz tlz
        have hcxl := hcx.len
        have hcxt : csx.take (x.length * 12) = csx := by rw [← hcxl, List.take_length]
        have hczl := hcz.len
        have hczt : csz.take (z.length * 12) = csz := by rw [← hczl, List.take_length]
        have hidx : idvx < n := hixE idvx (by simp)
        have hTC : TC (hp.set idvx ⟨c, false, csx ++ csz⟩).get (csx ++ csz) (x ++ z) (tlx ++ tlz) := (TC.app (hcx.frame fun j hj => Hp.get_set_ne _ _ _ _ (fun he => by rw [List.nodup_append] at hnd2; have := hnd2.1; rw [List.nodup_cons] at this; exact this.1 (he ▸ hj))) (hcz.frame fun j hj => Hp.get_set_ne _ _ _ _ (fun he => by rw [List.nodup_append] at hnd2; exact hnd2.2.2 idvx (by simp) j (by simp [hj]) he)))
        have hXn : (idvx :: (tlx ++ tlz)).Nodup := by
          have h1 : (idvx :: (tlx ++ (idvz :: tlz))).Nodup := hnd2
          have h2 : (tlx ++ tlz).Sublist (tlx ++ (idvz :: tlz)) := List.Sublist.append_left (List.sublist_cons_self _ _) _
          rw [List.nodup_cons] at h1 ⊢
          exact ⟨fun h => h1.1 (h2.subset h), h1.2.sublist h2⟩
        have hX : ∀ j, j ∈ idvx :: (tlx ++ tlz) → (j ∈ idvx :: tlx ∨ j ∈ idvz :: tlz) ∨ (n ≤ j ∧ j < n) := fun j hj => by
          simp only [List.mem_cons, List.mem_append] at hj ⊢
          rcases hj with h | h | h
          · exact .inl (.inl (.inl h))
          · exact .inl (.inl (.inr h))
          · exact .inl (.inr (.inr h))
        have hXlt : ∀ j, j ∈ idvx :: (tlx ++ tlz) → j < n := fun j hj => by
          rcases hX j hj with (h | h) | h
          · have := hixE j h; omega
          · have := hizE j h; omega
          · exact h.2
        obtain ⟨r, hT1, hP⟩ := ihN (x ++ z) (by simpa using hszN) (by simpa using hszM) (hp.set idvx ⟨c, false, csx ++ csz⟩) n (c + 1) idvx c (csx ++ csz) (tlx ++ tlz) (Hp.get_set_self ..) hTC hXn hXlt
        rw [List.length_append] at hT1
        obtain ⟨io', go', inew, hrv, hC2, hcida, hkey, hXio, hXida, hidan⟩ := CI.round hC htz hmk2 hX hXn (by omega) hP
        have hT2 : ∀ q, q ∈ (tWr r n).map (·.1) → q < n + (r.n - n) := fun q hq => (hkey q hq).2
        have hdk : disj ((tWr r n).map (·.1)) [io] = true := disj_of fun q hq w hw => by
          rw [List.mem_singleton] at hw
          subst hw
          exact (hkey q hq).1
        have hb1 : Nat.beq idvx io = false := nbeq_ne hXio
        have hal : ida < n + (r.n - n) := by omega
        apply WP.reg
        case hR => dsimp only [prepL, prepO, List.map, List.getElem?_cons_succ, List.getElem?_cons_zero]; exact Is.rfl
        case hr =>
          repeat (first
            | (apply RT.op (h := by simp [hmx, hgo, hga, hval, hvx, hxx2, hcg1, hfx, hfz, hfw, hset, hkle, hrv, hcida, hal, closeVs_false, -addNew, thr_Hn, hgx, hcxl, hcxt, hidx, hgz, hczl, hczt]; exact Is.rfl) (he := by (try dsimp only [putEnv]) <;> exact rfl))
            | (apply RT.call (hg := by simp; exact Is.rfl) (hfo := by simp; exact Is.rfl) (hvs := by simp [hmx, hgo, hga, hval, hvx, hxx2, hcg1, hfx, hfz, hfw, hset, hkle, hrv, hcida, hal, closeVs_false, -addNew, thr_Hn, hgx, hcxl, hcxt, hidx, hgz, hczl, hczt]; exact Is.rfl) (hcl := by simp [hmx, hgo, hga, hval, hvx, hxx2, hcg1, hfx, hfz, hfw, hset, hkle, hrv, hcida, hal, closeVs_false, -addNew, thr_Hn, hgx, hcxl, hcxt, hidx, hgz, hczl, hczt]; exact Is.rfl) (hd := by simp [hmx, hgo, hga, hval, hvx, hxx2, hcg1, hfx, hfz, hfw, hset, hkle, hrv, hcida, hal, closeVs_false, -addNew, thr_Hn, hgx, hcxl, hcxt, hidx, hgz, hczl, hczt]; exact Is.rfl) (hwr := by simp [hmx, hgo, hga, hval, hvx, hxx2, hcg1, hfx, hfz, hfw, hset, hkle, hrv, hcida, hal, closeVs_false, -addNew, thr_Hn, hgx, hcxl, hcxt, hidx, hgz, hczl, hczt]; exact Is.rfl) (hlt := by simp [Is]) (he := by (try dsimp only [putEnv]) <;> exact rfl) (hh := by simp; exact Is.rfl) (hw := by exact Is.rfl))
            | (apply RT.callI (hg := by simp; exact Is.rfl) (hfo := by simp; exact Is.rfl) (hvs := by simp [hmx, hgo, hga, hval, hvx, hxx2, hcg1, hfx, hfz, hfw, hset, hkle, hrv, hcida, hal, closeVs_false, -addNew, thr_Hn, hgx, hcxl, hcxt, hidx, hgz, hczl, hczt]; exact Is.rfl) (hcl := by simp [hmx, hgo, hga, hval, hvx, hxx2, hcg1, hfx, hfz, hfw, hset, hkle, hrv, hcida, hal, closeVs_false, -addNew, thr_Hn, hgx, hcxl, hcxt, hidx, hgz, hczl, hczt]; exact Is.rfl) (hd := hI1) (hne := hI2) (hw := hI3) (hwr := hI4) (he := by (try dsimp only [putEnv]) <;> exact rfl) (hn0 := by first | omega | simp))
            | (apply RT.callT (hg := by simp; exact Is.rfl) (hfo := by simp; exact Is.rfl) (hvs := by simp [hmx, hgo, hga, hval, hvx, hxx2, hcg1, hfx, hfz, hfw, hset, hkle, hrv, hcida, hal, closeVs_false, -addNew, thr_Hn, hgx, hcxl, hcxt, hidx, hgz, hczl, hczt]; exact Is.rfl) (hcl := by simp [hmx, hgo, hga, hval, hvx, hxx2, hcg1, hfx, hfz, hfw, hset, hkle, hrv, hcida, hal, closeVs_false, -addNew, thr_Hn, hgx, hcxl, hcxt, hidx, hgz, hczl, hczt]; exact Is.rfl) (hd := hT1) (hk := hT2) (he := by (try dsimp only [putEnv]) <;> exact rfl))
            | (apply RT.wr (h := by simp [hmx, hgo, hga, hval, hvx, hxx2, hcg1, hfx, hfz, hfw, hset, hkle, hrv, hcida, hal, closeVs_false, -addNew, thr_Hn, hgx, hcxl, hcxt, hidx, hgz, hczl, hczt]; exact Is.rfl) (he := by (try dsimp only [putEnv]) <;> exact rfl) (hh := by simp [hmx, hgo, hga, hval, hvx, hxx2, hcg1, hfx, hfz, hfw, hset, hkle, hrv, hcida, hal, closeVs_false, -addNew, thr_Hn, hgx, hcxl, hcxt, hidx, hgz, hczl, hczt]; exact Is.rfl) (hn := by exact Is.rfl) (hc := by exact Is.rfl) (hw := by exact Is.rfl)))
          exact RT.nil
        case ht => simp [hmx, hgo, hga, hval, hvx, hxx2, hcg1, hfx, hfz, hfw, hset, hkle, hrv, hcida, hal, closeVs_false, -addNew, thr_Hn, hgx, hcxl, hcxt, hidx, hgz, hczl, hczt]; exact Is.rfl
        case hc =>
          refine checkR_un [(0, 1), (0, 5), (1, 5), (2, 5), (3, 5), (4, 5), (0, 6), (1, 6), (2, 6), (3, 6), (4, 6), (5, 6), (0, 7), (1, 7), (2, 7), (3, 7), (4, 7), (5, 7), (6, 7), (0, 8), (1, 8), (2, 8), (3, 8), (4, 8), (5, 8), (0, 9), (1, 9), (2, 9), (3, 9), (4, 9), (5, 9), (0, 10), (1, 10), (2, 10), (3, 10), (4, 10), (5, 10), (0, 11), (1, 11), (2, 11), (3, 11), (4, 11), (5, 11), (6, 11), (7, 11), (8, 11), (9, 11), (10, 11), (0, 12), (1, 12), (2, 12), (3, 12), (4, 12), (5, 12), (0, 13), (1, 13), (2, 13), (3, 13), (4, 13), (5, 13), (0, 14), (1, 14), (2, 14), (3, 14), (4, 14), (5, 14), (6, 14), (7, 14), (8, 14), (9, 14), (10, 14), (11, 14), (12, 14), (13, 14), (0, 15), (1, 15), (2, 15), (3, 15), (4, 15), (5, 15), (0, 16), (1, 16), (2, 16), (3, 16), (4, 16), (5, 16)] (by kernel_rfl) (by kernel_rfl) rfl ?_
          simp [memA, hdk, hb1]
        repeat (first
          | apply WP.seq
          | (apply WP.reg
             case hR => dsimp only [prepL, prepO, List.map, List.getElem?_cons_succ, List.getElem?_cons_zero]; exact Is.rfl
             case hr =>
               repeat (first
                 | (apply RT.op (h := by simp [-addNew]; exact Is.rfl) (he := by (try dsimp only [putEnv]) <;> exact rfl))
                 | (apply RT.call (hg := by simp; exact Is.rfl) (hfo := by simp; exact Is.rfl) (hvs := by simp [-addNew]; exact Is.rfl) (hcl := by simp [-addNew]; exact Is.rfl) (hd := by simp [-addNew]; exact Is.rfl) (hwr := by simp [-addNew]; exact Is.rfl) (hlt := by simp [Is]) (he := by (try dsimp only [putEnv]) <;> exact rfl) (hh := by simp; exact Is.rfl) (hw := by exact Is.rfl))
                 | (apply RT.callI (hg := by simp; exact Is.rfl) (hfo := by simp; exact Is.rfl) (hvs := by simp [-addNew]; exact Is.rfl) (hcl := by simp [-addNew]; exact Is.rfl) (hd := hI1) (hne := hI2) (hw := hI3) (hwr := hI4) (he := by (try dsimp only [putEnv]) <;> exact rfl) (hn0 := by first | omega | simp))
                 | (apply RT.callT (hg := by simp; exact Is.rfl) (hfo := by simp; exact Is.rfl) (hvs := by simp [-addNew]; exact Is.rfl) (hcl := by simp [-addNew]; exact Is.rfl) (hd := hT1) (hk := hT2) (he := by (try dsimp only [putEnv]) <;> exact rfl))
                 | (apply RT.wr (h := by simp [-addNew]; exact Is.rfl) (he := by (try dsimp only [putEnv]) <;> exact rfl) (hh := by simp [-addNew]; exact Is.rfl) (hn := by exact Is.rfl) (hc := by exact Is.rfl) (hw := by exact Is.rfl)))
               exact RT.nil
             case hc => (show _ = _; kernel_rfl)
             case ht => simp [-addNew]; exact Is.rfl)
          | apply WP.block
          | apply WP.skip
          | apply WP.exit
          | apply WP.ret)
        refine loop_next (by simp [-addNew]; exact Is.rfl) ?_
        refine ⟨d - 1, by omega, k + 1, by omega, _, _, _, _, _, _, _, hvsr ▸ hC2, st_eq (by simp [dI, hw2]) rfl⟩
  · simp at hb
    have hke : k = bs.length := by omega
    subst hke
    have h1 : zs.take bs.length ++ a.brs.drop bs.length = zs := by rw [← hzl, List.take_length, hzl, ← hfl]; simp
    have h2 : bs.drop bs.length = [] := by simp
    rw [h1, h2] at hC
    have htz := hC.tz
    obtain ⟨hv0, hi0⟩ : vs.drop bs.length = [] ∧ iz = [] := by
      cases hq : vs.drop bs.length with
      | nil => rw [hq] at htz; cases htz; exact ⟨rfl, rfl⟩
      | cons v r => rw [hq] at htz; cases htz
    rw [hv0, hi0] at hC
    repeat (first
      | apply WP.seq
      | (apply WP.reg
         case hR => dsimp only [prepL, prepO, List.map, List.getElem?_cons_succ, List.getElem?_cons_zero]; exact Is.rfl
         case hr =>
           repeat (first
             | (apply RT.op (h := by simp [-addNew]; exact Is.rfl) (he := by (try dsimp only [putEnv]) <;> exact rfl))
             | (apply RT.call (hg := by simp; exact Is.rfl) (hfo := by simp; exact Is.rfl) (hvs := by simp [-addNew]; exact Is.rfl) (hcl := by simp [-addNew]; exact Is.rfl) (hd := by simp [-addNew]; exact Is.rfl) (hwr := by simp [-addNew]; exact Is.rfl) (hlt := by simp [Is]) (he := by (try dsimp only [putEnv]) <;> exact rfl) (hh := by simp; exact Is.rfl) (hw := by exact Is.rfl))
             | (apply RT.callI (hg := by simp; exact Is.rfl) (hfo := by simp; exact Is.rfl) (hvs := by simp [-addNew]; exact Is.rfl) (hcl := by simp [-addNew]; exact Is.rfl) (hd := hI1) (hne := hI2) (hw := hI3) (hwr := hI4) (he := by (try dsimp only [putEnv]) <;> exact rfl) (hn0 := by first | omega | simp))
             | (apply RT.callT (hg := by simp; exact Is.rfl) (hfo := by simp; exact Is.rfl) (hvs := by simp [-addNew]; exact Is.rfl) (hcl := by simp [-addNew]; exact Is.rfl) (hd := hT1) (hk := hT2) (he := by (try dsimp only [putEnv]) <;> exact rfl))
             | (apply RT.wr (h := by simp [-addNew]; exact Is.rfl) (he := by (try dsimp only [putEnv]) <;> exact rfl) (hh := by simp [-addNew]; exact Is.rfl) (hn := by exact Is.rfl) (hc := by exact Is.rfl) (hw := by exact Is.rfl)))
           exact RT.nil
         case hc => (show _ = _; kernel_rfl)
         case ht => simp [-addNew]; exact Is.rfl)
      | apply WP.block
      | apply WP.skip
      | apply WP.exit
      | apply WP.ret)
    exact ⟨rfl, hp, n, c, wl, vsa, ia, hC, st_eq (by simp [dI]) rfl⟩
end Go.Ab
