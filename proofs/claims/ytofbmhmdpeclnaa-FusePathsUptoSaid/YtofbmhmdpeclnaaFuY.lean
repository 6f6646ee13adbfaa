/- Joining. -/
import Derived.Test.YtofbmhmdpeclnaaFuX
set_option linter.unusedVariables false
set_option linter.unusedSimpArgs false
set_option maxRecDepth 4000
set_option linter.unusedSimpArgs false
set_option linter.unusedVariables false
namespace Go.Ab
open Go.Proofs

theorem TC.uncons {look : Look} {cr : List V} {y : Y} {r : List Y} {E : List Nat} (h : TC look cr (y :: r) E) : ∃ sc cr' iy E', cr = sc ++ cr' ∧ E = iy ++ E' ∧ TS look sc y iy ∧ TC look cr' r E' := by
  cases h with
  | cons a b => exact ⟨_, _, _, _, rfl, rfl, a, b⟩
theorem TS.inv {look : Look} {sc : List V} {y : Y} {iy : List Nat} (h : TS look sc y iy) : ∃ id g vs i, sc = hdY y ++ [.osl id g 0 y.brs.length 1 (some y.brs.length)] ∧ iy = id :: i ∧ look id = some ⟨g, false, vs⟩ ∧ TB look vs y.brs i := by
  cases h with
  | mk a b => exact ⟨_, _, _, _, rfl, rfl, a, b⟩

def JoinAt (N : Nat) : Prop := ∀ (l : List Y), szY l < N → szY l ≤ MB → ∀ (hp0 : Hp) (n0 c0 idl gl : Nat) (cl : List V) (i0 : List Nat), hp0.get idl = some ⟨gl, false, cl⟩ → TC hp0.get cl l i0 → (idl :: i0).Nodup → (∀ j, j ∈ idl :: i0 → j < n0) →
  ∃ r, lim Try.prog Hn.cfg 21 [.osl idl gl 0 l.length 12 none] hp0 n0 c0 = some r ∧ JPost hp0 n0 (idl :: i0) (Jf N l) r

theorem nodup_rep {A B i2 i2' : List Nat} {n : Nat} (h : (A ++ (i2 ++ B)).Nodup) (h2 : i2'.Nodup) (hold : ∀ j, j ∈ A ++ (i2 ++ B) → j < n) (hnew : ∀ j, j ∈ i2' → j ∈ i2 ∨ n ≤ j) : (A ++ (i2' ++ B)).Nodup := by
  simp only [List.nodup_append, List.mem_append] at h hold ⊢
  obtain ⟨h1, ⟨h3, h4, h5⟩, h6⟩ := h
  refine ⟨h1, ⟨h2, h4, fun a ha b hb he => ?_⟩, fun a ha b hb he => ?_⟩
  · rcases hnew a ha with h7 | h7
    · exact h5 a h7 b hb he
    · have := hold b (by simp [hb]); omega
  · rcases hb with hb | hb
    · rcases hnew b hb with h7 | h7
      · exact h6 a ha b (.inl h7) he
      · have := hold a (by simp [ha]); omega
    · exact h6 a ha b (.inr hb) he
theorem addNew_new {n0 : Nat} {wl : List Nat} : ∀ {wr : List (Nat × Ob)}, (∀ p, p ∈ wr → n0 ≤ p.1) → addNew n0 wl wr = wl
  | [], _ => rfl
  | (k, o) :: r, h => by
    have hk := h (k, o) (List.mem_cons_self ..)
    have : Nat.blt k n0 = false := by
      cases hb : Nat.blt k n0 with
      | false => rfl
      | true => rw [Nat.blt_eq] at hb; simp only at hk; omega
    simp only [addNew, this]
    exact addNew_new fun p hp => h p (List.mem_cons_of_mem _ hp)

theorem Jf_nil (N : Nat) : Jf N [] = [] := by cases N <;> rfl

theorem disj_of {a b : List Nat} (h : ∀ x, x ∈ a → ∀ y, y ∈ b → x ≠ y) : disj a b = true := by
  unfold disj
  rw [List.all_eq_true]
  intro x hx
  rw [List.all_eq_true]
  intro y hy
  rw [nbeq_ne (h x hx y hy)]; rfl

/-- What is known while a case's branches are joined. -/
structure BI (hp0 : Hp) (n0 : Nat) (ids0 : List Nat) (idl gl : Nat) (cl : List V) (hp : Hp) (n : Nat) (wl : List Nat) (io go : Nat) (co : List V) (o : List Y) (ids : List Nat) (idb gb : Nat) (vs : List V) (bb : List (List Y)) (ib : List Nat) (cr : List V) (rest : List Y) (E : List Nat) (p : Nat) (box : Ob) : Prop where
  jo : JO hp0 n0 ids0 idl gl cl hp n wl io go co o ids ((idb :: ib) ++ E)
  gb : hp.get idb = some ⟨gb, false, vs⟩
  tb : TB hp.get vs bb ib
  tr : TC hp.get cr rest E
  pb : hp.get p = some box
  pn : p < n
  pl : ∀ j, j ∈ idl :: io :: (ids ++ ((idb :: ib) ++ E)) → j ≠ p
  po : n0 ≤ p

set_option maxHeartbeats 8000000 in
theorem join_inner (N : Nat) (ihN : JoinAt N) (hp0 : Hp) (n0 : Nat) (ids0 : List Nat) (idl gl : Nat) (cl : List V) (io go : Nat) (co : List V) (o : List Y) (ids : List Nat) (idb gb : Nat) (cr : List V) (rest : List Y) (E : List Nat) (p gs : Nat) (box11 : List V) (e11 e12 e13 : V) (y : Y) (bs : List (List Y))
    (hbs : bs = y.brs.map (Jf N)) (hbx11 : box11.length = 11) (hsz : szB y.brs ≤ N) (hszm : szB y.brs ≤ MB) (hpn0 : n0 ≤ p)
    (hp1 : Hp) (n1 c1 : Nat) (wl1 : List Nat) (vs1 : List V) (ib1 : List Nat)
    (hB : BI hp0 n0 ids0 idl gl cl hp1 n1 wl1 io go co o ids idb gb vs1 y.brs ib1 cr rest E p ⟨gs, false, box11 ++ [.osl idb gb 0 y.brs.length 1 (some y.brs.length)]⟩) :
    WP Try.prog Hn.cfg 21 (inside Try.f21 2) ⟨[(3, .osl io go 0 o.length 12 none), (5, .ptr p gs 0), (11, e11), (12, e12), (13, e13), (25, .osl idb gb 0 y.brs.length 1 (some y.brs.length)), (26, dI y.brs.length), (27, dI 0)], hp1, n1, c1, n0, wl1⟩
      (fun e t => e = .exit 2 ∧ ∃ hp n c wl vs ib, BI hp0 n0 ids0 idl gl cl hp n wl io go co o ids idb gb vs bs ib cr rest E p ⟨gs, false, box11 ++ [.osl idb gb 0 y.brs.length 1 (some y.brs.length)]⟩ ∧
        t = ⟨[(3, .osl io go 0 o.length 12 none), (5, .ptr p gs 0), (11, e11), (12, e12), (13, e13), (25, .osl idb gb 0 y.brs.length 1 (some y.brs.length)), (26, dI y.brs.length), (27, dI y.brs.length), (28, .d (.bool false))], hp, n, c, n0, wl⟩) := by
  have hlb := len_szB y.brs
  unfold MB at hszm
  have hbl : bs.length = y.brs.length := by rw [hbs]; simp
  refine WP.loop' (I := fun d s => ∃ k : Nat, k + d = y.brs.length ∧ ∃ hp n c wl vs ib, BI hp0 n0 ids0 idl gl cl hp n wl io go co o ids idb gb vs (bs.take k ++ y.brs.drop k) ib cr rest E p ⟨gs, false, box11 ++ [.osl idb gb 0 y.brs.length 1 (some y.brs.length)]⟩ ∧
    s = ⟨[(3, .osl io go 0 o.length 12 none), (5, .ptr p gs 0), (11, e11), (12, e12), (13, e13), (25, .osl idb gb 0 y.brs.length 1 (some y.brs.length)), (26, dI y.brs.length), (27, dI k)], hp, n, c, n0, wl⟩) (d := y.brs.length) ?_ ?_
  · exact ⟨0, by simp, hp1, n1, c1, wl1, vs1, ib1, by simpa using hB, rfl⟩
  rintro d _ ⟨k, hk, hp, n, c, wl, vs, ib, hB, rfl⟩
  repeat (first
    | apply WP.seq
    | (apply WP.reg
       case hR => dsimp only [prepL, prepO, List.map, List.getElem?_cons_succ, List.getElem?_cons_zero]; exact Is.rfl
       case hr =>
         repeat (first
           | (apply RT.op (h := by simp [dI, -addNew]; exact Is.rfl) (he := by (try dsimp only [putEnv]) <;> exact rfl))
           | (apply RT.call (hg := by simp; exact Is.rfl) (hfo := by simp; exact Is.rfl) (hvs := by simp [dI, -addNew]; exact Is.rfl) (hcl := by simp [dI, -addNew]; exact Is.rfl) (hd := by simp [dI, -addNew]; exact Is.rfl) (hwr := by simp [dI, -addNew]; exact Is.rfl) (hlt := by simp [Is]) (he := by (try dsimp only [putEnv]) <;> exact rfl) (hh := by simp; exact Is.rfl) (hw := by exact Is.rfl))
           | (apply RT.callI (hg := by simp; exact Is.rfl) (hfo := by simp; exact Is.rfl) (hvs := by simp [dI, -addNew]; exact Is.rfl) (hcl := by simp [dI, -addNew]; exact Is.rfl) (hd := hI1) (hne := hI2) (hw := hI3) (hwr := hI4) (he := by (try dsimp only [putEnv]) <;> exact rfl) (hn0 := by first | omega | simp))
           | (apply RT.callT (hg := by simp; exact Is.rfl) (hfo := by simp; exact Is.rfl) (hvs := by simp [dI, -addNew]; exact Is.rfl) (hcl := by simp [dI, -addNew]; exact Is.rfl) (hd := hT1) (hk := hT2) (he := by (try dsimp only [putEnv]) <;> exact rfl))
           | (apply RT.wr (h := by simp [dI, -addNew]; exact Is.rfl) (he := by (try dsimp only [putEnv]) <;> exact rfl) (hh := by simp [dI, -addNew]; exact Is.rfl) (hn := by exact Is.rfl) (hc := by exact Is.rfl) (hw := by exact Is.rfl)))
         exact RT.nil
       case hc => (show _ = _; kernel_rfl)
       case ht => simp [dI, -addNew]; exact Is.rfl)
    | apply WP.block
    | apply WP.skip
    | apply WP.exit
    | apply WP.ret)
  show WP _ _ _ _ _ _
  refine WP.cond _ rfl (fun hb => ?_) (fun hb => ?_)
  · simp at hb
    obtain ⟨x, hxr, hxm, hxx⟩ := at_lt hb
    have hxs := mem_szB hxm
    have hw2 := w_succ hb (by omega)
    have hJ := hB.jo
    have hgb := hB.gb
    have hpb := hB.pb
    have hpn := hB.pn
    have hvl := hB.tb.len
    have hmid : (bs.take k ++ y.brs.drop k)[k]? = some x := by
      rw [List.getElem?_append_right (by simp; omega)]
      simp [hbl, show min k y.brs.length = k by omega, hxr]
    have hbsk : bs[k]? = some (Jf N x) := by rw [hbs]; simp [hxr]
    have hmix : (bs.take k ++ y.brs.drop k).set k (Jf N x) = bs.take (k + 1) ++ y.brs.drop (k + 1) := by
      obtain ⟨h1, h2⟩ := List.getElem?_eq_some_iff.1 hxr
      have hd : y.brs.drop k = x :: y.brs.drop (k + 1) := by rw [List.drop_eq_getElem_cons h1, h2]
      rw [hd, List.set_append_right _ _ (by simp; omega), take_S hbsk]
      simp [hbl, show min k y.brs.length = k by omega]
    have hvl2 : vs.length = y.brs.length := by rw [hvl]; simp; omega
    obtain ⟨v, i1, i2, i3, hv, hieq, hTL, hmk⟩ := hB.tb.at_ hmid
    have hmk2 := fun look' v' i2' hf ht => hmk look' v' (Jf N x) i2' hf ht
    simp only [hmix] at hmk2
    have hidbp : ¬ idb = p := hB.pl idb (by simp)
    have hidbn : idb < n := hJ.ltE (by simp)
    have hb11 : ∀ w, (box11 ++ [w]).drop 11 = [w] := fun w => by rw [← hbx11]; exact List.drop_left
    have hbl12 : ∀ w, (box11 ++ [w]).length = 12 := fun w => by simp [hbx11]
    have hset : ∀ z, vs.take k ++ z :: vs.drop (k + 1) = vs.set k z := fun z => by rw [List.set_eq_take_append_cons_drop, if_pos (by omega)]
    have hkle : k + 1 ≤ y.brs.length := by omega
    have hib : ∀ j, j ∈ ib → j ≠ idb ∧ j ≠ p ∧ j < n := fun j hj => by
      refine ⟨fun he => ?_, hB.pl j (by simp [hj]), hJ.ltE (by simp [hj])⟩
      have := hJ.ndE
      subst he
      simp only [List.cons_append, List.nodup_cons, List.mem_append, not_or] at this
      exact this.1.1 hj
    repeat (first
      | apply WP.seq
      | (apply WP.reg
         case hR => dsimp only [prepL, prepO, List.map, List.getElem?_cons_succ, List.getElem?_cons_zero]; exact Is.rfl
         case hr =>
           repeat (first
             | (apply RT.op (h := by simp [hgb, hvl2, hv, hxx, -addNew]; exact Is.rfl) (he := by (try dsimp only [putEnv]) <;> exact rfl))
             | (apply RT.call (hg := by simp; exact Is.rfl) (hfo := by simp; exact Is.rfl) (hvs := by simp [hgb, hvl2, hv, hxx, -addNew]; exact Is.rfl) (hcl := by simp [hgb, hvl2, hv, hxx, -addNew]; exact Is.rfl) (hd := by simp [hgb, hvl2, hv, hxx, -addNew]; exact Is.rfl) (hwr := by simp [hgb, hvl2, hv, hxx, -addNew]; exact Is.rfl) (hlt := by simp [Is]) (he := by (try dsimp only [putEnv]) <;> exact rfl) (hh := by simp; exact Is.rfl) (hw := by exact Is.rfl))
             | (apply RT.callI (hg := by simp; exact Is.rfl) (hfo := by simp; exact Is.rfl) (hvs := by simp [hgb, hvl2, hv, hxx, -addNew]; exact Is.rfl) (hcl := by simp [hgb, hvl2, hv, hxx, -addNew]; exact Is.rfl) (hd := hI1) (hne := hI2) (hw := hI3) (hwr := hI4) (he := by (try dsimp only [putEnv]) <;> exact rfl) (hn0 := by first | omega | simp))
             | (apply RT.callT (hg := by simp; exact Is.rfl) (hfo := by simp; exact Is.rfl) (hvs := by simp [hgb, hvl2, hv, hxx, -addNew]; exact Is.rfl) (hcl := by simp [hgb, hvl2, hv, hxx, -addNew]; exact Is.rfl) (hd := hT1) (hk := hT2) (he := by (try dsimp only [putEnv]) <;> exact rfl))
             | (apply RT.wr (h := by simp [hgb, hvl2, hv, hxx, -addNew]; exact Is.rfl) (he := by (try dsimp only [putEnv]) <;> exact rfl) (hh := by simp [hgb, hvl2, hv, hxx, -addNew]; exact Is.rfl) (hn := by exact Is.rfl) (hc := by exact Is.rfl) (hw := by exact Is.rfl)))
           exact RT.nil
         case hc => (show _ = _; kernel_rfl)
         case ht => simp [hgb, hvl2, hv, hxx, -addNew]; exact Is.rfl)
      | apply WP.block
      | apply WP.skip
      | apply WP.exit
      | apply WP.ret)
    cases hTL with
    | nil =>
      obtain ⟨cq, hI1⟩ := join_nil
      have hI2 : closeT noLook (CR.mk (.osl 0 0 0 0 12 none) [(0, ⟨0, false, []⟩)] 1 cq []).v = none := rfl
      have hI3 : shiftV n c (CR.mk (.osl 0 0 0 0 12 none) [(0, ⟨0, false, []⟩)] 1 cq []).v = .osl n c 0 0 12 none := by simp [shiftV]
      have hI4 : shiftH n c (wrOf (CR.mk (.osl 0 0 0 0 12 none) [(0, ⟨0, false, []⟩)] 1 cq []).hp.get (List.range (CR.mk (.osl 0 0 0 0 12 none) [(0, ⟨0, false, []⟩)] 1 cq []).n)) = [(n, ⟨c, false, []⟩)] := by
        simp [shiftH, wrOf, List.range_succ, shiftVs]
      have hnp : ¬ n = p := by omega
      have hnb : ¬ n = idb := by omega
      have hbn1 : idb < n + 1 := by omega
      have hnn := hJ.nn
      apply WP.reg
      case hR => dsimp only [prepL, prepO, List.map, List.getElem?_cons_succ, List.getElem?_cons_zero]; exact Is.rfl
      case hr =>
        repeat (first
          | (apply RT.op (h := by simp [hgb, hpb, hvl2, hxx, Hp.get_set, hnp, hnb, hbn1, hidbp, hb11, hset, hkle, closeVs_false, -addNew]; exact Is.rfl) (he := by (try dsimp only [putEnv]) <;> exact rfl))
          | (apply RT.call (hg := by simp; exact Is.rfl) (hfo := by simp; exact Is.rfl) (hvs := by simp [hgb, hpb, hvl2, hxx, Hp.get_set, hnp, hnb, hbn1, hidbp, hb11, hset, hkle, closeVs_false, -addNew]; exact Is.rfl) (hcl := by simp [hgb, hpb, hvl2, hxx, Hp.get_set, hnp, hnb, hbn1, hidbp, hb11, hset, hkle, closeVs_false, -addNew]; exact Is.rfl) (hd := by simp [hgb, hpb, hvl2, hxx, Hp.get_set, hnp, hnb, hbn1, hidbp, hb11, hset, hkle, closeVs_false, -addNew]; exact Is.rfl) (hwr := by simp [hgb, hpb, hvl2, hxx, Hp.get_set, hnp, hnb, hbn1, hidbp, hb11, hset, hkle, closeVs_false, -addNew]; exact Is.rfl) (hlt := by simp [Is]) (he := by (try dsimp only [putEnv]) <;> exact rfl) (hh := by simp; exact Is.rfl) (hw := by exact Is.rfl))
          | (apply RT.callI (hg := by simp; exact Is.rfl) (hfo := by simp; exact Is.rfl) (hvs := by simp [hgb, hpb, hvl2, hxx, Hp.get_set, hnp, hnb, hbn1, hidbp, hb11, hset, hkle, closeVs_false, -addNew]; exact Is.rfl) (hcl := by simp [hgb, hpb, hvl2, hxx, Hp.get_set, hnp, hnb, hbn1, hidbp, hb11, hset, hkle, closeVs_false, -addNew]; exact Is.rfl) (hd := hI1) (hne := hI2) (hw := hI3) (hwr := hI4) (he := by (try dsimp only [putEnv]) <;> exact rfl) (hn0 := by first | omega | simp))
          | (apply RT.callT (hg := by simp; exact Is.rfl) (hfo := by simp; exact Is.rfl) (hvs := by simp [hgb, hpb, hvl2, hxx, Hp.get_set, hnp, hnb, hbn1, hidbp, hb11, hset, hkle, closeVs_false, -addNew]; exact Is.rfl) (hcl := by simp [hgb, hpb, hvl2, hxx, Hp.get_set, hnp, hnb, hbn1, hidbp, hb11, hset, hkle, closeVs_false, -addNew]; exact Is.rfl) (hd := hT1) (hk := hT2) (he := by (try dsimp only [putEnv]) <;> exact rfl))
          | (apply RT.wr (h := by simp [hgb, hpb, hvl2, hxx, Hp.get_set, hnp, hnb, hbn1, hidbp, hb11, hset, hkle, closeVs_false, -addNew]; exact Is.rfl) (he := by (try dsimp only [putEnv]) <;> exact rfl) (hh := by simp [hgb, hpb, hvl2, hxx, Hp.get_set, hnp, hnb, hbn1, hidbp, hb11, hset, hkle, closeVs_false, -addNew]; exact Is.rfl) (hn := by exact Is.rfl) (hc := by exact Is.rfl) (hw := by exact Is.rfl)))
        exact RT.nil
      case ht => simp [hgb, hpb, hvl2, hxx, Hp.get_set, hnp, hnb, hbn1, hidbp, hb11, hset, hkle, closeVs_false, -addNew]; exact Is.rfl
      case hc =>
        refine checkR_un [(0, 2), (1, 2), (0, 3), (1, 3), (2, 3), (0, 4), (1, 4), (2, 4)] (by kernel_rfl) (by kernel_rfl) rfl ?_
        simp [memA, nbeq_ne hnp]
      repeat (first
        | apply WP.seq
        | (apply WP.reg
           case hR => dsimp only [prepL, prepO, List.map, List.getElem?_cons_succ, List.getElem?_cons_zero]; exact Is.rfl
           case hr =>
             repeat (first
               | (apply RT.op (h := by simp [-addNew]; exact Is.rfl) (he := by (try dsimp only [putEnv]) <;> exact rfl))
               | (apply RT.call (hg := by simp; exact Is.rfl) (hfo := by simp; exact Is.rfl) (hvs := by simp [-addNew]; exact Is.rfl) (hcl := by simp [-addNew]; exact Is.rfl) (hd := by simp [-addNew]; exact Is.rfl) (hwr := by simp [-addNew]; exact Is.rfl) (hlt := by simp [Is]) (he := by (try dsimp only [putEnv]) <;> exact rfl) (hh := by simp; exact Is.rfl) (hw := by exact Is.rfl))
               | (apply RT.callI (hg := by simp; exact Is.rfl) (hfo := by simp; exact Is.rfl) (hvs := by simp [-addNew]; exact Is.rfl) (hcl := by simp [-addNew]; exact Is.rfl) (hd := hI1) (hne := hI2) (hw := hI3) (hwr := hI4) (he := by (try dsimp only [putEnv]) <;> exact rfl) (hn0 := by first | omega | simp))
               | (apply RT.callT (hg := by simp; exact Is.rfl) (hfo := by simp; exact Is.rfl) (hvs := by simp [-addNew]; exact Is.rfl) (hcl := by simp [-addNew]; exact Is.rfl) (hd := hT1) (hk := hT2) (he := by (try dsimp only [putEnv]) <;> exact rfl))
               | (apply RT.wr (h := by simp [-addNew]; exact Is.rfl) (he := by (try dsimp only [putEnv]) <;> exact rfl) (hh := by simp [-addNew]; exact Is.rfl) (hn := by exact Is.rfl) (hc := by exact Is.rfl) (hw := by exact Is.rfl)))
             exact RT.nil
           case hc => (show _ = _; kernel_rfl)
           case ht => simp [-addNew]; exact Is.rfl)
        | apply WP.block
        | apply WP.skip
        | apply WP.exit
        | apply WP.ret)
      refine loop_next (by simp [-addNew]; exact Is.rfl) ?_
      have hJ2 := (hJ.imp (wr := [(n, ⟨c, false, []⟩)]) (n' := n + 1) (fun q hq => by rw [List.mem_singleton] at hq; subst hq; exact Nat.le_refl _) (by omega)).1
      rw [addNew_new (fun q hq => by rw [List.mem_singleton] at hq; subst hq; exact hnn)] at hJ2
      have hJ3 := hJ2.set (k := idb) (n' := n + 1) (x := ⟨gb, false, vs.set k (.osl n c 0 0 12 none)⟩) (fun he => hJ.ne.2.2.2.2 (by rw [← he]; simp)) (fun he => hJ.ne.2.2.1 (by rw [← he]; simp)) (hJ.apart (by simp)) (hJ.ownE (by simp)) (by omega)
      have hold : ∀ j, j < n → j ≠ idb → (((hp.set n ⟨c, false, []⟩).set idb ⟨gb, false, vs.set k (.osl n c 0 0 12 none)⟩)).get j = hp.get j := fun j h1 h2 => by
        rw [Hp.get_set_ne _ _ _ _ (fun he => h2 he.symm), Hp.get_set_ne _ _ _ _ (by omega)]
      have hE2 : ((idb :: (i1 ++ ([n] ++ i3))) ++ E).Nodup := by
        have h1 := hJ.ndE
        rw [hieq] at h1
        have h2 := nodup_rep (A := idb :: i1) (B := i3 ++ E) (i2 := []) (i2' := [n]) (n := n) (by simpa using h1) (by simp) (fun j hj => hJ.ltE (by rw [hieq]; simpa using hj)) (fun j hj => .inr (by rw [List.mem_singleton] at hj; omega))
        simpa using h2
      have hJ4 := hJ3.reE (E' := (idb :: (i1 ++ ([n] ++ i3))) ++ E) (m := n) hE2 hJ.lt hnn (fun j hj => by
        rw [hieq]
        simp only [List.mem_cons, List.mem_append, List.cons_append, List.nil_append] at hj ⊢
        rcases hj with h | (h | h | h) | h
        · exact .inl (.inl h)
        · exact .inl (.inr (.inl (.inl h)))
        · exact .inr (by omega)
        · exact .inl (.inr (.inl (.inr h)))
        · exact .inl (.inr (.inr h)))
      refine ⟨d - 1, by omega, k + 1, by omega, (hp.set n ⟨c, false, []⟩).set idb ⟨gb, false, vs.set k (.osl n c 0 0 12 none)⟩, n + 1, c + cq, addNew n0 wl [(idb, ⟨gb, false, vs.set k (.osl n c 0 0 12 none)⟩)], vs.set k (.osl n c 0 0 12 none), i1 ++ ([n] ++ i3), ⟨hJ4, ?_, ?_, ?_, ?_, ?_, ?_, ?_⟩, ?_⟩
      · exact Hp.get_set_self ..
      · refine hmk2 _ (.osl n c 0 0 12 none) [n] (fun j hj => ?_) ?_
        · have := hib j (by rw [hieq]; rcases hj with h | h <;> simp [h])
          exact hold j this.2.2 this.1
        · rw [Jf_nil]
          exact .osl (l := []) (cs := []) (by show Hp.get (Hp.set (Hp.set hp n _) idb _) n = _; rw [Hp.get_set_ne _ _ _ _ (fun he => hnb he.symm), Hp.get_set_self]) .nil
      · refine hB.tr.frame fun j hj => hold j (hJ.ltE (by simp [hj])) fun he => ?_
        have := hJ.ndE
        subst he
        simp only [List.cons_append, List.nodup_cons, List.mem_append, not_or] at this
        exact this.1.2 hj
      · show Hp.get (Hp.set (Hp.set hp n _) idb _) p = _
        rw [Hp.get_set_ne _ _ _ _ hidbp, Hp.get_set_ne _ _ _ _ hnp, hpb]
      · omega
      · intro j hj he
        subst he
        have hlt4 := hJ4.lt
        simp only [List.mem_cons, List.mem_append, List.cons_append, List.nil_append] at hj
        have hpl := hB.pl
        simp only [List.mem_cons, List.mem_append, hieq, List.cons_append, List.nil_append] at hpl
        rcases hj with h | h | h | h | (h | h | h) | h
        · exact hpl _ (.inl h) rfl
        · exact hpl _ (.inr (.inl h)) rfl
        · exact hpl _ (.inr (.inr (.inl h))) rfl
        · exact hpl _ (.inr (.inr (.inr (.inl h)))) rfl
        · exact hpl _ (.inr (.inr (.inr (.inr (.inl (.inl h)))))) rfl
        · omega
        · exact hpl _ (.inr (.inr (.inr (.inr (.inl (.inr h)))))) rfl
        · exact hpl _ (.inr (.inr (.inr (.inr (.inr h))))) rfl
      · exact hB.po
      · exact st_eq (by simp [dI, hw2]) rfl
    | osl hg hc =>
      rename_i idv gv csv tl
      have hndE := hJ.ndE
      rw [hieq] at hndE
      have hnd2 : (idv :: tl).Nodup := by
        have h1 : ((idb :: i1) ++ ((idv :: tl) ++ (i3 ++ E))).Nodup := by simpa using hndE
        rw [List.nodup_append, List.nodup_append] at h1
        exact h1.2.1.1
      have h2E : ∀ j, j ∈ idv :: tl → j ∈ (idb :: ib) ++ E := fun j hj => by rw [hieq]; simp only [List.mem_cons, List.mem_append] at hj ⊢; exact .inl (.inr (.inr (.inl hj)))
      have h2n : ∀ j, j ∈ idv :: tl → j < n := fun j hj => hJ.ltE (h2E j hj)
      have h2b : idb ∉ idv :: tl := fun hj => by
        have h1 : (idb :: ((i1 ++ ((idv :: tl) ++ i3)) ++ E)).Nodup := hndE
        rw [List.nodup_cons] at h1
        exact h1.1 (by simp only [List.mem_append]; exact .inl (.inr (.inl hj)))
      have h2p : p ∉ idv :: tl := fun hj => hB.pl p (by have := h2E p hj; simp only [List.mem_cons, List.mem_append] at this ⊢; exact .inr (.inr (.inr this))) rfl
      obtain ⟨r, hT1, hP⟩ := ihN x (by omega) (by unfold MB; omega) hp n c idv gv csv tl hg hc hnd2 h2n
      obtain ⟨io', go', co', i', hrv, hcg, hcT, hcnd, hcb⟩ := hP.caller
      have hrn := hP.n
      have hT2 : ∀ q, q ∈ (tWr r n).map (·.1) → q < n + (r.n - n) := fun q hq => by have := (tWr_keys hP h2n hq).2; omega
      obtain ⟨hJ2, hold⟩ := hJ.call hP h2E
      have hcb2 : (hp.sets (tWr r n)).get idb = some ⟨gb, false, vs⟩ := by rw [hold idb hidbn h2b, hgb]
      have hcp : (hp.sets (tWr r n)).get p = hp.get p := hold p hpn h2p
      rw [hpb] at hcp
      have hdk : disj ((tWr r n).map (·.1)) [p] = true := disj_of fun q hq w hw => by
        rw [List.mem_singleton] at hw
        subst hw
        intro he
        subst he
        rcases (tWr_keys hP h2n hq).1 with h | h
        · exact h2p h
        · omega
      have hbn1 : idb < n + (r.n - n) := by omega
      have hnn := hJ.nn
      apply WP.reg
      case hR => dsimp only [prepL, prepO, List.map, List.getElem?_cons_succ, List.getElem?_cons_zero]; exact Is.rfl
      case hr =>
        repeat (first
          | (apply RT.op (h := by simp [hgb, hpb, hvl2, hxx, Hp.get_set, hrv, hcb2, hcp, hbn1, hidbp, hb11, hset, hkle, closeVs_false, -addNew, thr_Hn]; exact Is.rfl) (he := by (try dsimp only [putEnv]) <;> exact rfl))
          | (apply RT.call (hg := by simp; exact Is.rfl) (hfo := by simp; exact Is.rfl) (hvs := by simp [hgb, hpb, hvl2, hxx, Hp.get_set, hrv, hcb2, hcp, hbn1, hidbp, hb11, hset, hkle, closeVs_false, -addNew, thr_Hn]; exact Is.rfl) (hcl := by simp [hgb, hpb, hvl2, hxx, Hp.get_set, hrv, hcb2, hcp, hbn1, hidbp, hb11, hset, hkle, closeVs_false, -addNew, thr_Hn]; exact Is.rfl) (hd := by simp [hgb, hpb, hvl2, hxx, Hp.get_set, hrv, hcb2, hcp, hbn1, hidbp, hb11, hset, hkle, closeVs_false, -addNew, thr_Hn]; exact Is.rfl) (hwr := by simp [hgb, hpb, hvl2, hxx, Hp.get_set, hrv, hcb2, hcp, hbn1, hidbp, hb11, hset, hkle, closeVs_false, -addNew, thr_Hn]; exact Is.rfl) (hlt := by simp [Is]) (he := by (try dsimp only [putEnv]) <;> exact rfl) (hh := by simp; exact Is.rfl) (hw := by exact Is.rfl))
          | (apply RT.callI (hg := by simp; exact Is.rfl) (hfo := by simp; exact Is.rfl) (hvs := by simp [hgb, hpb, hvl2, hxx, Hp.get_set, hrv, hcb2, hcp, hbn1, hidbp, hb11, hset, hkle, closeVs_false, -addNew, thr_Hn]; exact Is.rfl) (hcl := by simp [hgb, hpb, hvl2, hxx, Hp.get_set, hrv, hcb2, hcp, hbn1, hidbp, hb11, hset, hkle, closeVs_false, -addNew, thr_Hn]; exact Is.rfl) (hd := hI1) (hne := hI2) (hw := hI3) (hwr := hI4) (he := by (try dsimp only [putEnv]) <;> exact rfl) (hn0 := by first | omega | simp))
          | (apply RT.callT (hg := by simp; exact Is.rfl) (hfo := by simp; exact Is.rfl) (hvs := by simp [hgb, hpb, hvl2, hxx, Hp.get_set, hrv, hcb2, hcp, hbn1, hidbp, hb11, hset, hkle, closeVs_false, -addNew, thr_Hn]; exact Is.rfl) (hcl := by simp [hgb, hpb, hvl2, hxx, Hp.get_set, hrv, hcb2, hcp, hbn1, hidbp, hb11, hset, hkle, closeVs_false, -addNew, thr_Hn]; exact Is.rfl) (hd := hT1) (hk := hT2) (he := by (try dsimp only [putEnv]) <;> exact rfl))
          | (apply RT.wr (h := by simp [hgb, hpb, hvl2, hxx, Hp.get_set, hrv, hcb2, hcp, hbn1, hidbp, hb11, hset, hkle, closeVs_false, -addNew, thr_Hn]; exact Is.rfl) (he := by (try dsimp only [putEnv]) <;> exact rfl) (hh := by simp [hgb, hpb, hvl2, hxx, Hp.get_set, hrv, hcb2, hcp, hbn1, hidbp, hb11, hset, hkle, closeVs_false, -addNew, thr_Hn]; exact Is.rfl) (hn := by exact Is.rfl) (hc := by exact Is.rfl) (hw := by exact Is.rfl)))
        exact RT.nil
      case ht => simp [hgb, hpb, hvl2, hxx, Hp.get_set, hrv, hcb2, hcp, hbn1, hidbp, hb11, hset, hkle, closeVs_false, -addNew, thr_Hn]; exact Is.rfl
      case hc =>
        refine checkR_un [(0, 2), (1, 2), (0, 3), (1, 3), (2, 3), (0, 4), (1, 4), (2, 4)] (by kernel_rfl) (by kernel_rfl) rfl ?_
        simp [memA, hdk]
      repeat (first
        | apply WP.seq
        | (apply WP.reg
           case hR => dsimp only [prepL, prepO, List.map, List.getElem?_cons_succ, List.getElem?_cons_zero]; exact Is.rfl
           case hr =>
             repeat (first
               | (apply RT.op (h := by simp [-addNew]; exact Is.rfl) (he := by (try dsimp only [putEnv]) <;> exact rfl))
               | (apply RT.call (hg := by simp; exact Is.rfl) (hfo := by simp; exact Is.rfl) (hvs := by simp [-addNew]; exact Is.rfl) (hcl := by simp [-addNew]; exact Is.rfl) (hd := by simp [-addNew]; exact Is.rfl) (hwr := by simp [-addNew]; exact Is.rfl) (hlt := by simp [Is]) (he := by (try dsimp only [putEnv]) <;> exact rfl) (hh := by simp; exact Is.rfl) (hw := by exact Is.rfl))
               | (apply RT.callI (hg := by simp; exact Is.rfl) (hfo := by simp; exact Is.rfl) (hvs := by simp [-addNew]; exact Is.rfl) (hcl := by simp [-addNew]; exact Is.rfl) (hd := hI1) (hne := hI2) (hw := hI3) (hwr := hI4) (he := by (try dsimp only [putEnv]) <;> exact rfl) (hn0 := by first | omega | simp))
               | (apply RT.callT (hg := by simp; exact Is.rfl) (hfo := by simp; exact Is.rfl) (hvs := by simp [-addNew]; exact Is.rfl) (hcl := by simp [-addNew]; exact Is.rfl) (hd := hT1) (hk := hT2) (he := by (try dsimp only [putEnv]) <;> exact rfl))
               | (apply RT.wr (h := by simp [-addNew]; exact Is.rfl) (he := by (try dsimp only [putEnv]) <;> exact rfl) (hh := by simp [-addNew]; exact Is.rfl) (hn := by exact Is.rfl) (hc := by exact Is.rfl) (hw := by exact Is.rfl)))
             exact RT.nil
           case hc => (show _ = _; kernel_rfl)
           case ht => simp [-addNew]; exact Is.rfl)
        | apply WP.block
        | apply WP.skip
        | apply WP.exit
        | apply WP.ret)
      refine loop_next (by simp [-addNew]; exact Is.rfl) ?_
      have hJ3 := hJ2.set (k := idb) (n' := n + (r.n - n)) (x := ⟨gb, false, vs.set k (.osl io' go' 0 (Jf N x).length 12 none)⟩) (fun he => hJ.ne.2.2.2.2 (by rw [← he]; simp)) (fun he => hJ.ne.2.2.1 (by rw [← he]; simp)) (hJ.apart (by simp)) (hJ.ownE (by simp)) (Nat.le_refl _)
      have hold2 : ∀ j, j < n → j ∉ idv :: tl → j ≠ idb → (((hp.sets (tWr r n)).set idb ⟨gb, false, vs.set k (.osl io' go' 0 (Jf N x).length 12 none)⟩)).get j = hp.get j := fun j h1 h2 h3 => by
        rw [Hp.get_set_ne _ _ _ _ (fun he => h3 he.symm), hold j h1 h2]
      have hnb : ∀ j, j ∈ io' :: i' → j ≠ idb := fun j hj he => by
        subst he
        rcases (hcb _ hj).1 with h | h
        · exact h2b h
        · omega
      have hE2 : ((idb :: (i1 ++ ((io' :: i') ++ i3))) ++ E).Nodup := by
        have h2 := nodup_rep (A := idb :: i1) (B := i3 ++ E) (i2 := idv :: tl) (i2' := io' :: i') (n := n) (by simpa using hndE) hcnd (fun j hj => hJ.ltE (by rw [hieq]; simpa using hj)) (fun j hj => (hcb j hj).1)
        simpa using h2
      have hJ4 := hJ3.reE (E' := (idb :: (i1 ++ ((io' :: i') ++ i3))) ++ E) (m := n) hE2 hJ.lt hnn (fun j hj => by
        rw [hieq]
        have hc1 := hcb j
        simp only [List.mem_cons, List.mem_append] at hj hc1 ⊢
        rcases hj with (h | h | (h | h) | h) | h
        · exact .inl (.inl (.inl h))
        · exact .inl (.inl (.inr (.inl h)))
        · rcases (hc1 (.inl h)).1 with h3 | h3
          · exact .inl (.inl (.inr (.inr (.inl h3))))
          · exact .inr ⟨h3, by have := (hc1 (.inl h)).2; omega⟩
        · rcases (hc1 (.inr h)).1 with h3 | h3
          · exact .inl (.inl (.inr (.inr (.inl h3))))
          · exact .inr ⟨h3, by have := (hc1 (.inr h)).2; omega⟩
        · exact .inl (.inl (.inr (.inr (.inr h))))
        · exact .inl (.inr h))
      have hap : ∀ j, j ∈ i1 ∨ j ∈ i3 ∨ j ∈ E → j ∉ idv :: tl := fun j hj h2 => by
        have h1 : ((idb :: i1) ++ ((idv :: tl) ++ (i3 ++ E))).Nodup := by simpa using hndE
        rw [List.nodup_append, List.nodup_append] at h1
        rcases hj with h | h | h
        · exact h1.2.2 j (by simp [h]) j (by simp only [List.mem_append]; exact .inl h2) rfl
        · exact h1.2.1.2.2 j h2 j (by simp [h]) rfl
        · exact h1.2.1.2.2 j h2 j (by simp [h]) rfl
      refine ⟨d - 1, by omega, k + 1, by omega, (hp.sets (tWr r n)).set idb ⟨gb, false, vs.set k (.osl io' go' 0 (Jf N x).length 12 none)⟩, n + (r.n - n), c + (r.c - c), addNew n0 (addNew n0 wl (tWr r n)) [(idb, ⟨gb, false, vs.set k (.osl io' go' 0 (Jf N x).length 12 none)⟩)], vs.set k (.osl io' go' 0 (Jf N x).length 12 none), i1 ++ ((io' :: i') ++ i3), ⟨hJ4, ?_, ?_, ?_, ?_, ?_, ?_, ?_⟩, ?_⟩
      · exact Hp.get_set_self ..
      · refine hmk2 _ (.osl io' go' 0 (Jf N x).length 12 none) (io' :: i') (fun j hj => ?_) ?_
        · have := hib j (by rw [hieq]; rcases hj with h | h <;> simp [h])
          exact hold2 j this.2.2 (hap j (hj.imp (fun h => h) .inl)) this.1
        · refine .osl (cs := co') (by rw [Hp.get_set_ne _ _ _ _ (fun he => hnb io' (by simp) he.symm)]; exact hcg) (hcT.frame fun j hj => ?_)
          exact Hp.get_set_ne _ _ _ _ (fun he => hnb j (by simp [hj]) he.symm)
      · refine hB.tr.frame fun j hj => hold2 j (hJ.ltE (by simp [hj])) (hap j (.inr (.inr hj))) fun he => ?_
        subst he
        simp only [List.cons_append, List.nodup_cons, List.mem_append, not_or] at hndE
        exact hndE.1.2 hj
      · show Hp.get (Hp.set _ idb _) p = _
        rw [Hp.get_set_ne _ _ _ _ hidbp, hcp]
      · omega
      · intro j hj he
        subst he
        have hc1 := hcb j
        have hpl := hB.pl
        simp only [List.mem_cons, List.mem_append, hieq] at hpl hj hc1
        rcases hj with h | h | h | (h | h | (h | h) | h) | h
        · exact hpl _ (.inl h) rfl
        · exact hpl _ (.inr (.inl h)) rfl
        · exact hpl _ (.inr (.inr (.inl h))) rfl
        · exact hpl _ (.inr (.inr (.inr (.inl (.inl h))))) rfl
        · exact hpl _ (.inr (.inr (.inr (.inl (.inr (.inl h)))))) rfl
        · rcases (hc1 (.inl h)).1 with h3 | h3
          · exact hpl _ (.inr (.inr (.inr (.inl (.inr (.inr (.inl h3))))))) rfl
          · omega
        · rcases (hc1 (.inr h)).1 with h3 | h3
          · exact hpl _ (.inr (.inr (.inr (.inl (.inr (.inr (.inl h3))))))) rfl
          · omega
        · exact hpl _ (.inr (.inr (.inr (.inl (.inr (.inr (.inr h))))))) rfl
        · exact hpl _ (.inr (.inr (.inr (.inr h)))) rfl
      · exact hB.po
      · exact st_eq (by simp [dI, hw2]) rfl
  · simp at hb
    have hke : k = y.brs.length := by omega
    subst hke
    repeat (first
      | apply WP.seq
      | (apply WP.reg
         case hR => dsimp only [prepL, prepO, List.map, List.getElem?_cons_succ, List.getElem?_cons_zero]; exact Is.rfl
         case hr =>
           repeat (first
             | (apply RT.op (h := by simp [-addNew]; exact Is.rfl) (he := by (try dsimp only [putEnv]) <;> exact rfl))
             | (apply RT.call (hg := by simp; exact Is.rfl) (hfo := by simp; exact Is.rfl) (hvs := by simp [-addNew]; exact Is.rfl) (hcl := by simp [-addNew]; exact Is.rfl) (hd := by simp [-addNew]; exact Is.rfl) (hwr := by simp [-addNew]; exact Is.rfl) (hlt := by simp [Is]) (he := by (try dsimp only [putEnv]) <;> exact rfl) (hh := by simp; exact Is.rfl) (hw := by exact Is.rfl))
             | (apply RT.callI (hg := by simp; exact Is.rfl) (hfo := by simp; exact Is.rfl) (hvs := by simp [-addNew]; exact Is.rfl) (hcl := by simp [-addNew]; exact Is.rfl) (hd := hI1) (hne := hI2) (hw := hI3) (hwr := hI4) (he := by (try dsimp only [putEnv]) <;> exact rfl) (hn0 := by first | omega | simp))
             | (apply RT.callT (hg := by simp; exact Is.rfl) (hfo := by simp; exact Is.rfl) (hvs := by simp [-addNew]; exact Is.rfl) (hcl := by simp [-addNew]; exact Is.rfl) (hd := hT1) (hk := hT2) (he := by (try dsimp only [putEnv]) <;> exact rfl))
             | (apply RT.wr (h := by simp [-addNew]; exact Is.rfl) (he := by (try dsimp only [putEnv]) <;> exact rfl) (hh := by simp [-addNew]; exact Is.rfl) (hn := by exact Is.rfl) (hc := by exact Is.rfl) (hw := by exact Is.rfl)))
           exact RT.nil
         case hc => (show _ = _; kernel_rfl)
         case ht => simp [-addNew]; exact Is.rfl)
      | apply WP.block
      | apply WP.skip
      | apply WP.exit
      | apply WP.ret)
    refine ⟨rfl, hp, n, c, wl, vs, ib, ?_, st_eq (by simp [dI]) rfl⟩
    have h1 : bs.take y.brs.length ++ y.brs.drop y.brs.length = bs := by rw [← hbl, List.take_length, hbl]; simp
    rw [← h1]; exact hB

end Go.Ab
