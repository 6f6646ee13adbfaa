/- A class is checked, the program's. -/
import Derived.Test.YtmjkclonkhempabGreatDoorEmXpM
set_option linter.unusedVariables false
set_option linter.unusedSimpArgs false
section
set_option maxRecDepth 4000
namespace Go.Ac
open Go.Proofs
attribute [local simp] Hp.get_set Ag_set Ag_refl Ag_trunc get_trunc_lt
theorem kf40 (r : Nat) : Ob.keep 40 r = Ob.k40 r := by kernel_rfl
theorem kf50 (r : Nat) : Ob.keep 50 r = Ob.k50 r := by kernel_rfl
theorem kf83 (r : Nat) : Ob.keep 83 r = Ob.k83 r := by kernel_rfl
theorem kf51 (r : Nat) : Ob.keep 51 r = Ob.k51 r := by kernel_rfl
attribute [local simp] kf40 Ob.k40 kf50 Ob.k50 kf83 Ob.k83 kf51 Ob.k51
theorem index78a {i1 g1 : Nat} {p : Cl → Bool} (l : List (Cl)) (hl : l.length ≤ MX) (hp : Hp) (n : Nat) (hq : ∀ v, v ∈ l → ∀ hp' c, Ag n hp hp' → Quiet Tryz.prog Ob.cfg 83 [aG v.cells, .ptr i1 g1 0] hp' n c (.bool (p v))) (c : Nat) :
  Quiet Tryz.prog Ob.cfg 40 [dL (encC l), .fn 83 [.ptr i1 g1 0]] hp n c (.int .i64 (ixP p l)) := by
 unfold MX at hl
 refine quiet_wp Tryz.func40 rfl (by kernel_rfl) rfl ?_
 refine wkv (jn @envOf.eq_1 (jn @envOf.eq_2 (jn @dL.eq_1 @encC_len))) ?_
 apply WP.loop' (I := fun d s => ∃ i : Nat, i + d = l.length ∧ (l.take i).all (fun v => !p v) = true ∧ SQ [(0, dL (encC l)), (1, .fn 83 [.ptr i1 g1 0]), (7, dI l.length), (8, dI i)] hp n n s) (d := l.length)
 ·exact ⟨0, by simp, by simp, _, _, Ag.refl n hp, st_eq (by simp [dL, dI]) rfl⟩
 rintro d _ ⟨i, hii, hno, hp', c1, hag, rfl⟩
 refine wkv (jn @dI.eq_1 @dL.eq_1) ?_
 show WP _ _ _ _ _ _
 refine WP.cond _ rfl (fun hb => ?_) (fun hb => ?_)
 ·simp at hb
  have hb' : i < l.length := hb
  obtain ⟨v, hv, hvm, hix⟩ := at_lt hb'
  have hv' := encC_at hv
  have hw := w_succ hb' (by omega)
  have hts := all_snoc (p := fun v => !p v) hv
  obtain ⟨h5, h6, h4⟩ := Quiet.fn (fun c => hq v hvm hp' c hag)
  simp only [aG, dL, dI, Cl.cells, List.map_cons, List.map_nil] at h4
  refine wkv (jn @hix (jn @hv' (jn @dL.eq_1 (jn @dI.eq_1 (jn @Cl.cells.eq_1 @h4))))) ?_
  show WP _ _ _ _ _ _
  refine WP.cond _ rfl (fun hb => ?_) (fun hb => ?_)
  ·refine wkv True.intro ?_
   rw [ixP_some hno hv hb]
   exact ⟨.inr rfl, rfl, _, rfl, rfl⟩
  ·refine wkv True.intro ?_
   refine loop_next (by simp [hw]; exact Is.rfl) ?_
   exact ⟨d - 1, by omega, i + 1, by omega, by rw [hts, hno]; simpa using hb, _, _, hag.trunc, st_eq (by simp [dI, dL, hw]) rfl⟩
 ·simp at hb
  have hil : i = l.length := by omega
  subst hil
  rw [List.take_length] at hno
  refine wkv True.intro ?_
  rw [ixP_none hno]
  exact ⟨.inr rfl, rfl, _, rfl, rfl⟩

theorem index78b {i1 g1 : Nat} {p : Cl → Bool} (l : List (Cl)) (hl : l.length ≤ MX) (hp : Hp) (n : Nat) (hq : ∀ v, v ∈ l → ∀ hp' c, Ag n hp hp' → Quiet Tryz.prog Ob.cfg 51 [aG v.cells, .ptr i1 g1 0] hp' n c (.bool (p v))) (c : Nat) :
  Quiet Tryz.prog Ob.cfg 40 [dL (encC l), .fn 51 [.ptr i1 g1 0]] hp n c (.int .i64 (ixP p l)) := by
 unfold MX at hl
 refine quiet_wp Tryz.func40 rfl (by kernel_rfl) rfl ?_
 refine wkv (jn @envOf.eq_1 (jn @envOf.eq_2 (jn @dL.eq_1 @encC_len))) ?_
 apply WP.loop' (I := fun d s => ∃ i : Nat, i + d = l.length ∧ (l.take i).all (fun v => !p v) = true ∧ SQ [(0, dL (encC l)), (1, .fn 51 [.ptr i1 g1 0]), (7, dI l.length), (8, dI i)] hp n n s) (d := l.length)
 ·exact ⟨0, by simp, by simp, _, _, Ag.refl n hp, st_eq (by simp [dL, dI]) rfl⟩
 rintro d _ ⟨i, hii, hno, hp', c1, hag, rfl⟩
 refine wkv (jn @dI.eq_1 @dL.eq_1) ?_
 show WP _ _ _ _ _ _
 refine WP.cond _ rfl (fun hb => ?_) (fun hb => ?_)
 ·simp at hb
  have hb' : i < l.length := hb
  obtain ⟨v, hv, hvm, hix⟩ := at_lt hb'
  have hv' := encC_at hv
  have hw := w_succ hb' (by omega)
  have hts := all_snoc (p := fun v => !p v) hv
  obtain ⟨h5, h6, h4⟩ := Quiet.fn (fun c => hq v hvm hp' c hag)
  simp only [aG, dL, dI, Cl.cells, List.map_cons, List.map_nil] at h4
  refine wkv (jn @hix (jn @hv' (jn @dL.eq_1 (jn @dI.eq_1 (jn @Cl.cells.eq_1 @h4))))) ?_
  show WP _ _ _ _ _ _
  refine WP.cond _ rfl (fun hb => ?_) (fun hb => ?_)
  ·refine wkv True.intro ?_
   rw [ixP_some hno hv hb]
   exact ⟨.inr rfl, rfl, _, rfl, rfl⟩
  ·refine wkv True.intro ?_
   refine loop_next (by simp [hw]; exact Is.rfl) ?_
   exact ⟨d - 1, by omega, i + 1, by omega, by rw [hts, hno]; simpa using hb, _, _, hag.trunc, st_eq (by simp [dI, dL, hw]) rfl⟩
 ·simp at hb
  have hil : i = l.length := by omega
  subst hil
  rw [List.take_length] at hno
  refine wkv True.intro ?_
  rw [ixP_none hno]
  exact ⟨.inr rfl, rfl, _, rfl, rfl⟩
theorem contains67 {i1 g1 : Nat} {p : Cl → Bool} (l : List (Cl)) (hl : l.length ≤ MX) (hp : Hp) (n : Nat) (hq : ∀ v, v ∈ l → ∀ hp' c, Ag n hp hp' → Quiet Tryz.prog Ob.cfg 51 [aG v.cells, .ptr i1 g1 0] hp' n c (.bool (p v))) (c : Nat) :
  Quiet Tryz.prog Ob.cfg 50 [dL (encC l), .fn 51 [.ptr i1 g1 0]] hp n c (.bool (l.any p)) := by
 obtain ⟨h5, h6, h4⟩ := Quiet.fn (fun c => index78b (p := p) l hl hp n hq c)
 simp only [dL] at h4
 rw [← ixP_any]
 refine quiet_wp Tryz.func50 rfl (by kernel_rfl) rfl ?_
 refine wkv (jn @envOf.eq_1 (jn @envOf.eq_2 (jn @dL.eq_1 @h4))) ?_
 exact ⟨.inr rfl, rfl, _, rfl, rfl⟩

theorem decl108 {nm : Tx} {w : V} {i1 g1 : Nat} (d : Cl) (hp : Hp) (n c : Nat) (h1 : hp.get i1 = some ⟨g1, false, [w, dS nm]⟩) (l1 : i1 < n) : Quiet Tryz.prog Ob.cfg 83 [aG d.cells, .ptr i1 g1 0] hp n c (.bool (decide (d.nm = nm))) := by
 have ne := nf l1
 simp only [dS] at h1
 refine quiet_wp Tryz.func83 rfl (by kernel_rfl) rfl ?_
 refine wkv (jn @envOf.eq_1 (jn @envOf.eq_2 (jn @aG.eq_1 (jn @Cl.cells.eq_1 (jn @ne (jn @h1 @tx_beq)))))) ?_
 exact ⟨.inr rfl, rfl, _, rfl, rfl⟩
theorem check68 {ic gc iv gv ip gp im gm ii gi : Nat} {o : Oc} {ea : List Cl} {c : Cl} {lv lm : List (Tx × Int)} {lp : List (Tx × Bool)} {li : List (Tx × Cl)} {i1 g1 : Nat} (d : Cl) (hp : Hp) (n cc : Nat) (hK : KG ic gc iv gv ip gp im gm ii gi o ea c lv lp lm li hp n) (h1 : hp.get i1 = some ⟨g1, false, [.ptr ic gc 0]⟩) (l1 : i1 < n) :
  Quiet Tryz.prog Ob.cfg 51 [aG d.cells, .ptr i1 g1 0] hp n cc (.bool (decide (d.nm = c.nm))) := by
 have ne := nf l1
 have nc := nf hK.lc
 have hco := hK.co
 refine quiet_wp Tryz.func51 rfl (by kernel_rfl) rfl ?_
 refine wkv (jn @envOf.eq_1 (jn @envOf.eq_2 (jn @aG.eq_1 (jn @Cl.cells.eq_1 (jn @ne (jn @nc (jn @h1 (jn @hco @tx_beq)))))))) ?_
 exact ⟨.inr rfl, rfl, _, rfl, rfl⟩
end Go.Ac
end

section
set_option maxRecDepth 4000
namespace Go.Ac
open Go.Proofs
attribute [local simp] Hp.get_set Ag_set Ag_refl Ag_trunc get_trunc_lt
theorem kf52 (r : Nat) : Ob.keep 52 r = Ob.k52 r := by kernel_rfl
attribute [local simp] kf52 Ob.k52
theorem WI.setN {ids0 : List Nat} {n0 : Nat} {hp0 hp : Hp} {wl : List Nat} (h : WI ids0 n0 hp0 wl hp) {k : Nat} {o : Ob} (hk : n0 ≤ k) : WI ids0 n0 hp0 wl (hp.set k o) :=
 ⟨h.1, fun j hj hn => by rw [Hp.get_set_ne _ _ _ _ (by omega)]; exact h.2 j hj hn⟩
def declP (o : Oc) (ea : List Cl) (c : Cl) : Int :=
 if declsW o.en c.inn ≠ 0 then declsW o.en c.inn
 else if declsW o.en c.out ≠ 0 then declsW o.en c.out
 else if declsW o.en c.loc ≠ 0 then declsW o.en c.loc
 else if c.mems.any (fun m => !memOk o.en m) = true then 10
 else if dupW [] c.names = true then 7
 else if c.ins.any (fun x => !(findC ea x.cl).2) = true then 6 else 0
theorem memOk_has (en : List En) (m : Mm) : memOk en m = hasE en m.t m.ini := by
 unfold memOk hasE
 by_cases h2 : m.t = 2
 ·rw [if_pos h2, show decide (0 < sizeE en m.t) = true by rw [h2]; rfl]; rfl
 ·rw [if_neg h2]
  by_cases hp : 0 < sizeE en m.t
  ·simp [hp]
  ·simp [hp]; omega
theorem declsW_app (en : List En) : ∀ a b : List Dc, declsW en (a ++ b) = if declsW en a ≠ 0 then declsW en a else declsW en b
 | [], b => by simp [declsW]
 | d :: r, b => by
  rw [List.cons_append, declsW, declsW, declsW_app en r b]
  split
  ·simp
  ·split
   ·simp
   ·rfl
theorem dupW_app : ∀ (a b p : List Tx), dupW p (a ++ b) = (dupW p a || dupW (p ++ a) b)
 | [], b, p => by simp [dupW]
 | x :: r, b, p => by rw [List.cons_append, dupW, dupW, dupW_app r b (p ++ [x])]; simp [Bool.or_assoc]
/-- Names that have been seen. -/
def seenL (l : List Tx) : List (Tx × Bool) := l.map fun x => (x, true)
theorem seen_get (l : List Tx) (x : Tx) : mget (puts [] (seenL l)) x = if x ∈ l then some true else none := by
 suffices h : ∀ (l : List Tx) (a : List (Tx × Bool)), mget (puts a (seenL l)) x = if x ∈ l then some true else mget a x by
  have := h l []; simpa [mget] using this
 intro l
 induction l with
 | nil => intro a; simp [seenL, puts]
 | cons y r ih =>
  intro a
  have e : seenL (y :: r) = (y, true) :: seenL r := rfl
  rw [e, puts, ih, mget_put]
  by_cases h1 : x ∈ r
  ·simp [h1]
  ·by_cases h2 : x = y
   ·simp [h2]
   ·simp [h1, h2]
def iV (ea : List Cl) (l : List Ii) : List (Tx × Cl) := l.map fun x => (x.nm, (findC ea x.cl).1)
/-- The insts map lies apart. -/
structure KD (ic iv ip im ii : Nat) : Prop where
 c : ic ≠ ii
 v : iv ≠ ii
 p : ip ≠ ii
 m : im ≠ ii

section
variable {ic gc iv gv ip gp im gm ii gi : Nat} {o : Oc} {ea : List Cl} {c : Cl} {lv lm : List (Tx × Int)} {lp : List (Tx × Bool)}
set_option maxHeartbeats 8000000 in
theorem declared69 (hen : ∀ t, knownE o.en t = decide (0 < sizeE o.en t)) (hea : ea.length ≤ MX) (hL : CLen c) (hok : c.ok) (hp : Hp) (n cc : Nat) (hD : KD ic iv ip im ii) (hK : KG ic gc iv gv ip gp im gm ii gi o ea c lv lp lm [] hp n) :
  ThrG Tryz.prog Ob.cfg 52 [.ptr ic gc 0] hp n cc (dI (declP o ea c)) [ii] (fun hp' => declP o ea c = 0 → KG ic gc iv gv ip gp im gm ii gi o ea c lv lp lm (puts [] (iV ea c.ins)) hp' n) := by
 have hLs := hL.sum
 have hco := hK.co
 have nc := nf hK.lc
 have ni := nf hK.li
 have hlc := hK.lc
 refine thrG_wp Tryz.func52 rfl (by kernel_rfl) rfl ?_
 refine wkcekv (jn @envOf.eq_1 (jn @envOf.eq_2 (jn @dI.eq_1 (jn @dL.eq_1 (jn @hco (jn @nc (jn @fillV.eq_1 @fillV.eq_2))))))) ?_
 apply WP.loop' (I := fun D s => ∃ (j c' : Nat) (wl : List Nat) (hp' : Hp), j + D = 3 ∧ (0 < j → declsW o.en c.inn = 0) ∧ (1 < j → declsW o.en c.out = 0) ∧ (2 < j → declsW o.en c.loc = 0) ∧ WI [] n hp wl hp' ∧ s = ⟨[(0, .ptr ic gc 0), (32, .agg [dL (encD c.inn), dL (encD c.out), dL (encD c.loc)]), (33, dI j)], hp', n, c', n, wl⟩) (d := 3)
 ·exact ⟨0, _, _, _, by simp, by simp, by simp, by simp, WI.refl, st_eq (by simp [dI, dL]) rfl⟩
 rintro D _ ⟨j, c', wl, hp', hj, d0, d1, d2, hwi, rfl⟩
 have hco := (hwi.frame hlc (by simp)).trans hK.co
 obtain rfl | rfl | rfl | rfl : j = 0 ∨ j = 1 ∨ j = 2 ∨ j = 3 := by omega
 ·refine wkcekv (jn @dI.eq_1 (jn @dL.eq_1 (jn @hco (jn @nc @idx.eq_def)))) ?_
  apply WP.loop' (I := fun D s => ∃ (i c' : Nat) (wl : List Nat) (hp' : Hp), i + D = c.inn.length ∧ declsW o.en (c.inn.take i) = 0 ∧ WI [] n hp wl hp' ∧ s = ⟨[(0, .ptr ic gc 0), (32, .agg [dL (encD c.inn), dL (encD c.out), dL (encD c.loc)]), (33, dI 0), (36, dL (encD c.inn)), (37, dI c.inn.length), (38, dI i)], hp', n, c', n, wl⟩) (d := c.inn.length)
  ·exact ⟨0, _, _, _, by simp, by simp [declsW], hwi, st_eq (by simp [dI, dL]) rfl⟩
  clear hwi hco
  rintro D2 _ ⟨i, c', wl, hp', hi, hdw, hwi, rfl⟩
  have hco := (hwi.frame hlc (by simp)).trans hK.co
  refine wkekv (jn @dI.eq_1 (jn @dL.eq_1 (jn @hco @nc))) ?_
  show WP _ _ _ _ _ _
  refine WP.cond _ rfl (fun hb => ?_) (fun hb => ?_)
  ·simp at hb
   have hb' : i < c.inn.length := by omega
   obtain ⟨d, hd, hdm, hix⟩ := at_lt hb'
   have hd' := encD_at hd
   have hwj := w_succ hb' (by omega)
   have htk := take_snoc hd
   have hdok : d.ok := hok.inn d hdm
   obtain ⟨nm0, h106⟩ := name106 o.en d.t hdok.1
   rw [hen] at h106
   simp only [dL, dI, dS, dB] at h106
   have hap := declsW_app o.en (c.inn.take i) [d]
   rw [← htk, hdw, if_neg (by simp)] at hap
   have hall := declsW_app o.en (c.inn.take (i + 1)) (c.inn.drop (i + 1))
   rw [List.take_append_drop, hap] at hall
   by_cases h1 : 0 < sizeE o.en d.t
   case neg =>
    have h1' := eq_false h1
    have hv : declsW o.en [d] = 10 := by rw [declsW, if_pos h1]
    rw [hv, if_pos (by decide)] at hall
    have hz : declsW o.en c.inn ≠ 0 := by rw [hall]; decide
    have hdp : declP o ea c = 10 := by rw [show declP o ea c = declsW o.en c.inn by unfold declP; rw [if_pos hz], hall]
    rw [hdp]
    rw [decide_eq_false h1] at h106
    refine wkcekv (jn @dI.eq_1 (jn @dL.eq_1 (jn @hco (jn @nc (jn @hix (jn @hd' (jn @Dc.cells.eq_1 (jn @fillV.eq_1 (jn @fillV.eq_2 @h106))))))))) ?_
    exact ⟨.inr rfl, _, [], rfl, rfl, rfl, (by repeat' (first | exact hwi | exact hwi.mono (by simp) | exact WI.refl | (refine WI.trunc ?_ (by omega)) | (refine WI.set ?_ (.inr (by omega))) | (refine WI.setN ?_ (by omega)) | (refine WI.set ?_ (.inl (by simp))))), fun h0 => absurd h0 (by decide)⟩
   rw [decide_eq_true h1] at h106
   by_cases h2 : d.ck = []
   case neg =>
    have h2' : (0 < d.ck.length) = True := eq_true (by cases hck : d.ck with | nil => exact absurd hck h2 | cons a r => simp)
    have h2'' : ((0 : Int) < (d.ck.length : Int)) = True := eq_true (by have := h2'; simp at this; omega)
    have hv : declsW o.en [d] = 5 := by rw [declsW, if_neg (by simp [h1]), if_pos h2]
    rw [hv, if_pos (by decide)] at hall
    have hz : declsW o.en c.inn ≠ 0 := by rw [hall]; decide
    have hdp : declP o ea c = 5 := by rw [show declP o ea c = declsW o.en c.inn by unfold declP; rw [if_pos hz], hall]
    rw [hdp]
    refine wkcekv (jn @dI.eq_1 (jn @dL.eq_1 (jn @hco (jn @nc (jn @hix (jn @hd' (jn @Dc.cells.eq_1 (jn @fillV.eq_1 (jn @fillV.eq_2 (jn @h106 (jn @h2' (jn @h2'' @encO_len)))))))))))) ?_
    exact ⟨.inr rfl, _, [], rfl, rfl, rfl, (by repeat' (first | exact hwi | exact hwi.mono (by simp) | exact WI.refl | (refine WI.trunc ?_ (by omega)) | (refine WI.set ?_ (.inr (by omega))) | (refine WI.setN ?_ (by omega)) | (refine WI.set ?_ (.inl (by simp))))), fun h0 => absurd h0 (by decide)⟩
   have hv : declsW o.en [d] = 0 := by rw [declsW, if_neg (by simp [h1]), if_neg (by simp [h2]), declsW]
   have h2' : (0 < d.ck.length) = False := by rw [h2]; simp
   have h2'' : ((0 : Int) < (d.ck.length : Int)) = False := by rw [h2]; simp
   refine wkcekv (jn @dI.eq_1 (jn @dL.eq_1 (jn @hco (jn @nc (jn @hix (jn @hd' (jn @Dc.cells.eq_1 (jn @fillV.eq_1 (jn @fillV.eq_2 (jn @h106 (jn @h2' (jn @h2'' @encO_len)))))))))))) ?_
   refine loop_next (by simp [-addNew, hwj]; exact Is.rfl) ?_
   exact ⟨D2 - 1, by omega, i + 1, _, _, _, by omega, by rw [hap, hv], (by repeat' (first | exact hwi | exact hwi.mono (by simp) | exact WI.refl | (refine WI.trunc ?_ (by omega)) | (refine WI.set ?_ (.inr (by omega))) | (refine WI.setN ?_ (by omega)) | (refine WI.set ?_ (.inl (by simp))))), st_eq (by simp [dI, dL, hwj]) rfl⟩
  simp at hb
  have hie : i = c.inn.length := by omega
  rw [hie, List.take_length] at hdw
  refine wkcekv (jn @dI.eq_1 @dL.eq_1) ?_
  refine loop_next (by simp [-addNew]; exact Is.rfl) ?_
  exact ⟨2, by omega, 1, _, _, _, by omega, fun _ => hdw, fun h => absurd h (by omega), fun h => absurd h (by omega), (by repeat' (first | exact hwi | exact hwi.mono (by simp) | exact WI.refl | (refine WI.trunc ?_ (by omega)) | (refine WI.set ?_ (.inr (by omega))) | (refine WI.setN ?_ (by omega)) | (refine WI.set ?_ (.inl (by simp))))), st_eq (by simp [dI, dL]; try decide) rfl⟩
 ·refine wkcekv (jn @dI.eq_1 (jn @dL.eq_1 (jn @hco (jn @nc @idx.eq_def)))) ?_
  apply WP.loop' (I := fun D s => ∃ (i c' : Nat) (wl : List Nat) (hp' : Hp), i + D = c.out.length ∧ declsW o.en (c.out.take i) = 0 ∧ WI [] n hp wl hp' ∧ s = ⟨[(0, .ptr ic gc 0), (32, .agg [dL (encD c.inn), dL (encD c.out), dL (encD c.loc)]), (33, dI 1), (36, dL (encD c.out)), (37, dI c.out.length), (38, dI i)], hp', n, c', n, wl⟩) (d := c.out.length)
  ·exact ⟨0, _, _, _, by simp, by simp [declsW], hwi, st_eq (by simp [dI, dL]) rfl⟩
  clear hwi hco
  rintro D2 _ ⟨i, c', wl, hp', hi, hdw, hwi, rfl⟩
  have hco := (hwi.frame hlc (by simp)).trans hK.co
  refine wkekv (jn @dI.eq_1 (jn @dL.eq_1 (jn @hco @nc))) ?_
  show WP _ _ _ _ _ _
  refine WP.cond _ rfl (fun hb => ?_) (fun hb => ?_)
  ·simp at hb
   have hb' : i < c.out.length := by omega
   obtain ⟨d, hd, hdm, hix⟩ := at_lt hb'
   have hd' := encD_at hd
   have hwj := w_succ hb' (by omega)
   have htk := take_snoc hd
   have hdok : d.ok := hok.out d hdm
   obtain ⟨nm0, h106⟩ := name106 o.en d.t hdok.1
   rw [hen] at h106
   simp only [dL, dI, dS, dB] at h106
   have hap := declsW_app o.en (c.out.take i) [d]
   rw [← htk, hdw, if_neg (by simp)] at hap
   have hall := declsW_app o.en (c.out.take (i + 1)) (c.out.drop (i + 1))
   rw [List.take_append_drop, hap] at hall
   by_cases h1 : 0 < sizeE o.en d.t
   case neg =>
    have h1' := eq_false h1
    have hv : declsW o.en [d] = 10 := by rw [declsW, if_pos h1]
    rw [hv, if_pos (by decide)] at hall
    have hz : declsW o.en c.out ≠ 0 := by rw [hall]; decide
    have hdp : declP o ea c = 10 := by rw [show declP o ea c = declsW o.en c.out by unfold declP; rw [if_neg (by simp [d0 (by omega)]), if_pos hz], hall]
    rw [hdp]
    rw [decide_eq_false h1] at h106
    refine wkcekv (jn @dI.eq_1 (jn @dL.eq_1 (jn @hco (jn @nc (jn @hix (jn @hd' (jn @Dc.cells.eq_1 (jn @fillV.eq_1 (jn @fillV.eq_2 @h106))))))))) ?_
    exact ⟨.inr rfl, _, [], rfl, rfl, rfl, (by repeat' (first | exact hwi | exact hwi.mono (by simp) | exact WI.refl | (refine WI.trunc ?_ (by omega)) | (refine WI.set ?_ (.inr (by omega))) | (refine WI.setN ?_ (by omega)) | (refine WI.set ?_ (.inl (by simp))))), fun h0 => absurd h0 (by decide)⟩
   rw [decide_eq_true h1] at h106
   by_cases h2 : d.ck = []
   case neg =>
    have h2' : (0 < d.ck.length) = True := eq_true (by cases hck : d.ck with | nil => exact absurd hck h2 | cons a r => simp)
    have h2'' : ((0 : Int) < (d.ck.length : Int)) = True := eq_true (by have := h2'; simp at this; omega)
    have hv : declsW o.en [d] = 5 := by rw [declsW, if_neg (by simp [h1]), if_pos h2]
    rw [hv, if_pos (by decide)] at hall
    have hz : declsW o.en c.out ≠ 0 := by rw [hall]; decide
    have hdp : declP o ea c = 5 := by rw [show declP o ea c = declsW o.en c.out by unfold declP; rw [if_neg (by simp [d0 (by omega)]), if_pos hz], hall]
    rw [hdp]
    refine wkcekv (jn @dI.eq_1 (jn @dL.eq_1 (jn @hco (jn @nc (jn @hix (jn @hd' (jn @Dc.cells.eq_1 (jn @fillV.eq_1 (jn @fillV.eq_2 (jn @h106 (jn @h2' (jn @h2'' @encO_len)))))))))))) ?_
    exact ⟨.inr rfl, _, [], rfl, rfl, rfl, (by repeat' (first | exact hwi | exact hwi.mono (by simp) | exact WI.refl | (refine WI.trunc ?_ (by omega)) | (refine WI.set ?_ (.inr (by omega))) | (refine WI.setN ?_ (by omega)) | (refine WI.set ?_ (.inl (by simp))))), fun h0 => absurd h0 (by decide)⟩
   have hv : declsW o.en [d] = 0 := by rw [declsW, if_neg (by simp [h1]), if_neg (by simp [h2]), declsW]
   have h2' : (0 < d.ck.length) = False := by rw [h2]; simp
   have h2'' : ((0 : Int) < (d.ck.length : Int)) = False := by rw [h2]; simp
   refine wkcekv (jn @dI.eq_1 (jn @dL.eq_1 (jn @hco (jn @nc (jn @hix (jn @hd' (jn @Dc.cells.eq_1 (jn @fillV.eq_1 (jn @fillV.eq_2 (jn @h106 (jn @h2' (jn @h2'' @encO_len)))))))))))) ?_
   refine loop_next (by simp [-addNew, hwj]; exact Is.rfl) ?_
   exact ⟨D2 - 1, by omega, i + 1, _, _, _, by omega, by rw [hap, hv], (by repeat' (first | exact hwi | exact hwi.mono (by simp) | exact WI.refl | (refine WI.trunc ?_ (by omega)) | (refine WI.set ?_ (.inr (by omega))) | (refine WI.setN ?_ (by omega)) | (refine WI.set ?_ (.inl (by simp))))), st_eq (by simp [dI, dL, hwj]) rfl⟩
  simp at hb
  have hie : i = c.out.length := by omega
  rw [hie, List.take_length] at hdw
  refine wkcekv (jn @dI.eq_1 @dL.eq_1) ?_
  refine loop_next (by simp [-addNew]; exact Is.rfl) ?_
  exact ⟨1, by omega, 2, _, _, _, by omega, fun _ => d0 (by omega), fun _ => hdw, fun h => absurd h (by omega), (by repeat' (first | exact hwi | exact hwi.mono (by simp) | exact WI.refl | (refine WI.trunc ?_ (by omega)) | (refine WI.set ?_ (.inr (by omega))) | (refine WI.setN ?_ (by omega)) | (refine WI.set ?_ (.inl (by simp))))), st_eq (by simp [dI, dL]; try decide) rfl⟩
 ·refine wkcekv (jn @dI.eq_1 (jn @dL.eq_1 (jn @hco (jn @nc @idx.eq_def)))) ?_
  apply WP.loop' (I := fun D s => ∃ (i c' : Nat) (wl : List Nat) (hp' : Hp), i + D = c.loc.length ∧ declsW o.en (c.loc.take i) = 0 ∧ WI [] n hp wl hp' ∧ s = ⟨[(0, .ptr ic gc 0), (32, .agg [dL (encD c.inn), dL (encD c.out), dL (encD c.loc)]), (33, dI 2), (36, dL (encD c.loc)), (37, dI c.loc.length), (38, dI i)], hp', n, c', n, wl⟩) (d := c.loc.length)
  ·exact ⟨0, _, _, _, by simp, by simp [declsW], hwi, st_eq (by simp [dI, dL]) rfl⟩
  clear hwi hco
  rintro D2 _ ⟨i, c', wl, hp', hi, hdw, hwi, rfl⟩
  have hco := (hwi.frame hlc (by simp)).trans hK.co
  refine wkekv (jn @dI.eq_1 (jn @dL.eq_1 (jn @hco @nc))) ?_
  show WP _ _ _ _ _ _
  refine WP.cond _ rfl (fun hb => ?_) (fun hb => ?_)
  ·simp at hb
   have hb' : i < c.loc.length := by omega
   obtain ⟨d, hd, hdm, hix⟩ := at_lt hb'
   have hd' := encD_at hd
   have hwj := w_succ hb' (by omega)
   have htk := take_snoc hd
   have hdok : d.ok := hok.loc d hdm
   obtain ⟨nm0, h106⟩ := name106 o.en d.t hdok.1
   rw [hen] at h106
   simp only [dL, dI, dS, dB] at h106
   have hap := declsW_app o.en (c.loc.take i) [d]
   rw [← htk, hdw, if_neg (by simp)] at hap
   have hall := declsW_app o.en (c.loc.take (i + 1)) (c.loc.drop (i + 1))
   rw [List.take_append_drop, hap] at hall
   by_cases h1 : 0 < sizeE o.en d.t
   case neg =>
    have h1' := eq_false h1
    have hv : declsW o.en [d] = 10 := by rw [declsW, if_pos h1]
    rw [hv, if_pos (by decide)] at hall
    have hz : declsW o.en c.loc ≠ 0 := by rw [hall]; decide
    have hdp : declP o ea c = 10 := by rw [show declP o ea c = declsW o.en c.loc by unfold declP; rw [if_neg (by simp [d0 (by omega)]), if_neg (by simp [d1 (by omega)]), if_pos hz], hall]
    rw [hdp]
    rw [decide_eq_false h1] at h106
    refine wkcekv (jn @dI.eq_1 (jn @dL.eq_1 (jn @hco (jn @nc (jn @hix (jn @hd' (jn @Dc.cells.eq_1 (jn @fillV.eq_1 (jn @fillV.eq_2 @h106))))))))) ?_
    exact ⟨.inr rfl, _, [], rfl, rfl, rfl, (by repeat' (first | exact hwi | exact hwi.mono (by simp) | exact WI.refl | (refine WI.trunc ?_ (by omega)) | (refine WI.set ?_ (.inr (by omega))) | (refine WI.setN ?_ (by omega)) | (refine WI.set ?_ (.inl (by simp))))), fun h0 => absurd h0 (by decide)⟩
   rw [decide_eq_true h1] at h106
   by_cases h2 : d.ck = []
   case neg =>
    have h2' : (0 < d.ck.length) = True := eq_true (by cases hck : d.ck with | nil => exact absurd hck h2 | cons a r => simp)
    have h2'' : ((0 : Int) < (d.ck.length : Int)) = True := eq_true (by have := h2'; simp at this; omega)
    have hv : declsW o.en [d] = 5 := by rw [declsW, if_neg (by simp [h1]), if_pos h2]
    rw [hv, if_pos (by decide)] at hall
    have hz : declsW o.en c.loc ≠ 0 := by rw [hall]; decide
    have hdp : declP o ea c = 5 := by rw [show declP o ea c = declsW o.en c.loc by unfold declP; rw [if_neg (by simp [d0 (by omega)]), if_neg (by simp [d1 (by omega)]), if_pos hz], hall]
    rw [hdp]
    refine wkcekv (jn @dI.eq_1 (jn @dL.eq_1 (jn @hco (jn @nc (jn @hix (jn @hd' (jn @Dc.cells.eq_1 (jn @fillV.eq_1 (jn @fillV.eq_2 (jn @h106 (jn @h2' (jn @h2'' @encO_len)))))))))))) ?_
    exact ⟨.inr rfl, _, [], rfl, rfl, rfl, (by repeat' (first | exact hwi | exact hwi.mono (by simp) | exact WI.refl | (refine WI.trunc ?_ (by omega)) | (refine WI.set ?_ (.inr (by omega))) | (refine WI.setN ?_ (by omega)) | (refine WI.set ?_ (.inl (by simp))))), fun h0 => absurd h0 (by decide)⟩
   have hv : declsW o.en [d] = 0 := by rw [declsW, if_neg (by simp [h1]), if_neg (by simp [h2]), declsW]
   have h2' : (0 < d.ck.length) = False := by rw [h2]; simp
   have h2'' : ((0 : Int) < (d.ck.length : Int)) = False := by rw [h2]; simp
   refine wkcekv (jn @dI.eq_1 (jn @dL.eq_1 (jn @hco (jn @nc (jn @hix (jn @hd' (jn @Dc.cells.eq_1 (jn @fillV.eq_1 (jn @fillV.eq_2 (jn @h106 (jn @h2' (jn @h2'' @encO_len)))))))))))) ?_
   refine loop_next (by simp [-addNew, hwj]; exact Is.rfl) ?_
   exact ⟨D2 - 1, by omega, i + 1, _, _, _, by omega, by rw [hap, hv], (by repeat' (first | exact hwi | exact hwi.mono (by simp) | exact WI.refl | (refine WI.trunc ?_ (by omega)) | (refine WI.set ?_ (.inr (by omega))) | (refine WI.setN ?_ (by omega)) | (refine WI.set ?_ (.inl (by simp))))), st_eq (by simp [dI, dL, hwj]) rfl⟩
  simp at hb
  have hie : i = c.loc.length := by omega
  rw [hie, List.take_length] at hdw
  refine wkcekv (jn @dI.eq_1 @dL.eq_1) ?_
  refine loop_next (by simp [-addNew]; exact Is.rfl) ?_
  exact ⟨0, by omega, 3, _, _, _, by omega, fun _ => d0 (by omega), fun _ => d1 (by omega), fun _ => hdw, (by repeat' (first | exact hwi | exact hwi.mono (by simp) | exact WI.refl | (refine WI.trunc ?_ (by omega)) | (refine WI.set ?_ (.inr (by omega))) | (refine WI.setN ?_ (by omega)) | (refine WI.set ?_ (.inl (by simp))))), st_eq (by simp [dI, dL]; try decide) rfl⟩
 replace d0 := d0 (by omega)
 replace d1 := d1 (by omega)
 replace d2 := d2 (by omega)
 refine wkcekv (jn @dI.eq_1 (jn @dL.eq_1 (jn @hco @nc))) ?_
 apply WP.loop' (I := fun D s => ∃ (i c' : Nat) (wl : List Nat) (hp' : Hp), i + D = c.mems.length ∧ (c.mems.take i).all (fun m => !(!memOk o.en m)) = true ∧ WI [] n hp wl hp' ∧ s = ⟨[(0, .ptr ic gc 0), (64, dL (encM c.mems)), (65, dI c.mems.length), (66, dI i)], hp', n, c', n, wl⟩) (d := c.mems.length)
 ·exact ⟨0, _, _, _, by simp, by simp, hwi, st_eq (by simp [dI, dL]) rfl⟩
 clear hwi hco hj D
 rintro D _ ⟨i, c', wl, hp', hi, hno, hwi, rfl⟩
 have hco := (hwi.frame hlc (by simp)).trans hK.co
 refine wkekv (jn @dI.eq_1 (jn @dL.eq_1 (jn @hco @nc))) ?_
 show WP _ _ _ _ _ _
 refine WP.cond _ rfl (fun hb => ?_) (fun hb => ?_)
 ·simp at hb
  have hb' : i < c.mems.length := by omega
  obtain ⟨d, hd, hdm, hix⟩ := at_lt hb'
  have hd' := encM_at hd
  have hwj := w_succ hb' (by omega)
  have hs := all_snoc (p := fun m => !(!memOk o.en m)) hd
  have hdok : d.ok := hok.mems d hdm
  have hh := has15 o.en d.t d.ini hdok.1
  rw [← memOk_has] at hh
  simp only [dL, dI, dB] at hh
  cases hm : memOk o.en d with
  | false =>
   rw [hm] at hh
   have hdp : declP o ea c = 10 := by unfold declP; rw [if_neg (by simp [d0]), if_neg (by simp [d1]), if_neg (by simp [d2]), if_pos (List.any_eq_true.2 ⟨d, hdm, by simp [hm]⟩)]
   rw [hdp]
   refine wkcekv (jn @dI.eq_1 (jn @dL.eq_1 (jn @hco (jn @nc (jn @hix (jn @hd' (jn @Mm.cells.eq_1 (jn @fillV.eq_1 (jn @fillV.eq_2 @hh))))))))) ?_
   exact ⟨.inr rfl, _, [], rfl, rfl, rfl, (by repeat' (first | exact hwi | exact hwi.mono (by simp) | exact WI.refl | (refine WI.trunc ?_ (by omega)) | (refine WI.set ?_ (.inr (by omega))) | (refine WI.setN ?_ (by omega)) | (refine WI.set ?_ (.inl (by simp))))), fun h0 => absurd h0 (by decide)⟩
  | true =>
   rw [hm] at hh
   refine wkcekv (jn @dI.eq_1 (jn @dL.eq_1 (jn @hco (jn @nc (jn @hix (jn @hd' (jn @Mm.cells.eq_1 (jn @fillV.eq_1 (jn @fillV.eq_2 @hh))))))))) ?_
   refine loop_next (by simp [-addNew, hwj]; exact Is.rfl) ?_
   exact ⟨D - 1, by omega, i + 1, _, _, _, by omega, by rw [hs, hno, hm]; rfl, (by repeat' (first | exact hwi | exact hwi.mono (by simp) | exact WI.refl | (refine WI.trunc ?_ (by omega)) | (refine WI.set ?_ (.inr (by omega))) | (refine WI.setN ?_ (by omega)) | (refine WI.set ?_ (.inl (by simp))))), st_eq (by simp [dI, dL, hwj]) rfl⟩
 simp at hb
 have hie : i = c.mems.length := by omega
 rw [hie, List.take_length] at hno
 have d3 := any_no hno
 clear hno hb hi hie
 obtain ⟨F, G, hnm⟩ := lim_fn (C := fun hp2 n2 => Ag n hp hp2 ∧ n ≤ n2) (P := Tryz.prog) (cfg := Ob.cfg) (f := 82) (vs := [.ptr ic gc 0]) (v := dL (encS c.names)) (fun hp2 n2 c2 hC => names107 hL hp2 n2 c2 (hK.ag hC.1 hC.2))
 have hnm' := fun hp2 n2 c2 a b => hnm hp2 n2 c2 ⟨a, b⟩
 have hagt : Ag n hp hp' = True := eq_true fun id hi => hwi.frame hi (by simp)
 simp only [dL] at hnm'
 refine wkcekv (jn @dI.eq_1 (jn @dL.eq_1 (jn @hco (jn @nc (jn @makeMapV.eq_1 (jn @hnm' @hagt)))))) ?_
 have hnl : c.names.length ≤ 8388608 := by unfold Cl.names; simp; omega
 apply WP.loop' (I := fun D s => ∃ (i c' g : Nat) (wl : List Nat) (hp' : Hp), i + D = c.names.length ∧ dupW [] (c.names.take i) = false ∧ hp'.get n = some ⟨g, false, [mpC eBo (puts [] (seenL (c.names.take i)))]⟩ ∧ WI [] n hp wl hp' ∧ s = ⟨[(0, .ptr ic gc 0), (11, .mp n g), (83, dL (encS c.names)), (84, dI c.names.length), (85, dI i)], hp', n + 1, c', n, wl⟩) (d := c.names.length)
 ·exact ⟨0, _, c', _, _, by simp, by simp [dupW], by simp [seenL, puts, mpC], (by repeat' (first | exact hwi | exact hwi.mono (by simp) | exact WI.refl | (refine WI.trunc ?_ (by omega)) | (refine WI.set ?_ (.inr (by omega))) | (refine WI.setN ?_ (by omega)) | (refine WI.set ?_ (.inl (by simp))))), st_eq (by simp [dI, dL]) rfl⟩
 clear hwi hco hagt
 rintro D _ ⟨i, c', g, wl, hp', hi, hno, hseen, hwi, rfl⟩
 have hco := (hwi.frame hlc (by simp)).trans hK.co
 refine wkekv (jn @dI.eq_1 (jn @dL.eq_1 (jn @hco @nc))) ?_
 show WP _ _ _ _ _ _
 refine WP.cond _ rfl (fun hb => ?_) (fun hb => ?_)
 ·simp at hb
  have hb' : i < c.names.length := by omega
  obtain ⟨x, hx, hxm, hix⟩ := at_lt hb'
  have hx' := encS_at hx
  have hwj := w_succ hb' (by omega)
  have htk := take_snoc hx
  have hlk := fun (look : Look) (sz by_ : Nat) (zr : Option (List V)) (h : look n = some ⟨g, false, [mpC eBo (puts [] (seenL (c.names.take i)))]⟩) => lookup_mp eBo (puts [] (seenL (c.names.take i))) (ok := false) (z := .d (.bool false)) (sz := sz) (by_ := by_) (zr := zr) (x := x) h
  rw [seen_get] at hlk
  have hins := fun (look : Look) (sz by_ : Nat) (zr : Option (List V)) (h : look n = some ⟨g, false, [mpC eBo (puts [] (seenL (c.names.take i)))]⟩) => insert_mp eBo (puts [] (seenL (c.names.take i))) true (w := .d (.bool true)) (sz := sz) (by_ := by_) (zr := zr) (x := x) rfl h
  have hdu := dupW_app (c.names.take i) [x] []
  rw [← htk, hno, List.nil_append, Bool.false_or] at hdu
  have hda := dupW_app (c.names.take (i + 1)) (c.names.drop (i + 1)) []
  rw [List.take_append_drop, hdu] at hda
  by_cases hm : x ∈ c.names.take i
  ·have hdp : declP o ea c = 7 := by
    unfold declP
    rw [if_neg (by simp [d0]), if_neg (by simp [d1]), if_neg (by simp [d2]), if_neg (by rw [d3]; decide), if_pos (by rw [hda]; simp [dupW, hm])]
   rw [hdp]
   simp only [if_pos hm] at hlk
   refine wkcekv (jn @dI.eq_1 (jn @dL.eq_1 (jn @hco (jn @nc (jn @hix (jn @hx' (jn @hlk (jn @hseen (jn @zt4 (jn @lookRes.eq_1 (jn @lookRes.eq_2 @eBo.eq_1))))))))))) ?_
   exact ⟨.inr rfl, _, [], rfl, rfl, rfl, (by repeat' (first | exact hwi | exact hwi.mono (by simp) | exact WI.refl | (refine WI.trunc ?_ (by omega)) | (refine WI.set ?_ (.inr (by omega))) | (refine WI.setN ?_ (by omega)) | (refine WI.set ?_ (.inl (by simp))))), fun h0 => absurd h0 (by decide)⟩
  ·simp only [if_neg hm] at hlk
   refine wkcekv (jn @dI.eq_1 (jn @dL.eq_1 (jn @hco (jn @nc (jn @hix (jn @hx' (jn @hlk (jn @hins (jn @hseen (jn @zt4 (jn @lookRes.eq_1 @lookRes.eq_2))))))))))) ?_
   refine loop_next (by simp [-addNew, hwj]; exact Is.rfl) ?_
   exact ⟨D - 1, by omega, i + 1, _, g, _, _, by omega, by rw [hdu]; simp [dupW, hm], by rw [htk]; simp [seenL, puts_snoc], (by repeat' (first | exact hwi | exact hwi.mono (by simp) | exact WI.refl | (refine WI.trunc ?_ (by omega)) | (refine WI.set ?_ (.inr (by omega))) | (refine WI.setN ?_ (by omega)) | (refine WI.set ?_ (.inl (by simp))))), st_eq (by simp [dI, dL, hwj]) rfl⟩
 simp at hb
 have hie : i = c.names.length := by omega
 rw [hie, List.take_length] at hno
 have d4 : dupW [] c.names ≠ true := by rw [hno]; decide
 clear hno hb hi hie hnm hnm'
 refine wkcekv (jn @dI.eq_1 (jn @dL.eq_1 (jn @hco @nc))) ?_
 apply WP.loop' (I := fun D s => ∃ (i c' : Nat) (wl : List Nat) (hp' : Hp), i + D = c.ins.length ∧ (c.ins.take i).all (fun x => !(!(findC ea x.cl).2)) = true ∧ hp'.get ii = some ⟨gi, false, [mpC eC (puts [] (iV ea (c.ins.take i)))]⟩ ∧ WI [ii] n hp wl hp' ∧ s = ⟨[(0, .ptr ic gc 0), (99, dL (encJ c.ins)), (100, dI c.ins.length), (101, dI i)], hp', n + 1, c', n, wl⟩) (d := c.ins.length)
 ·exact ⟨0, _, _, _, by simp, by simp, by rw [hwi.frame hK.li (by simp), hK.ins]; rfl, (by repeat' (first | exact hwi | exact hwi.mono (by simp) | exact WI.refl | (refine WI.trunc ?_ (by omega)) | (refine WI.set ?_ (.inr (by omega))) | (refine WI.setN ?_ (by omega)) | (refine WI.set ?_ (.inl (by simp))))), st_eq (by simp [dI, dL]) rfl⟩
 clear hwi hco hseen
 rintro D _ ⟨i, c', wl, hp', hi, hno, hins, hwi, rfl⟩
 have hco := (hwi.frame hlc (by simp; exact hD.c)).trans hK.co
 refine wkekv (jn @dI.eq_1 (jn @dL.eq_1 (jn @hco @nc))) ?_
 show WP _ _ _ _ _ _
 refine WP.cond _ rfl (fun hb => ?_) (fun hb => ?_)
 ·simp at hb
  have hb' : i < c.ins.length := by omega
  obtain ⟨d, hd, hdm, hix⟩ := at_lt hb'
  have hd' := encJ_at hd
  have hwj := w_succ hb' (by omega)
  have htk := take_snoc hd
  have hs := all_snoc (p := fun x : Ii => !(!(findC ea x.cl).2)) hd
  obtain ⟨F, G, hF⟩ := lim_fn (C := fun hp2 n2 => hp2.get (n + 1) = some ⟨c', false, [dS d.nm, dS d.cl]⟩ ∧ n + 1 < n2) (P := Tryz.prog) (cfg := Ob.cfg) (f := 40) (vs := [dL (encC ea), .fn 83 [.ptr (n + 1) c' 0]]) (v := .d (.int .i64 (ixP (fun e : Cl => decide (e.nm = d.cl)) ea)))
   (fun hp2 n2 c2 hC => index78a (p := fun e : Cl => decide (e.nm = d.cl)) ea hea hp2 n2 (fun v hv hp3 c3 hag => decl108 v hp3 n2 c3 ((hag (n + 1) hC.2).trans hC.1) hC.2) c2)
  have hF' := fun hp2 n2 c2 a b => hF hp2 n2 c2 ⟨a, b⟩
  simp only [dL, dS] at hF'
  rcases first_cases (fun e : Cl => decide (e.nm = d.cl)) ea with ⟨k, e, he, hn1, he2⟩ | hn1
  ·have hf : findC ea d.cl = (e, true) := by unfold findC; rw [find_hit hn1 he he2]
   rw [ixP_some hn1 he he2] at hF'
   have hkl : k < ea.length := (List.getElem?_eq_some_iff.1 he).1
   have hixk := idx_lt hkl
   have he' := encC_at he
   have hnn : ((k : Int) < 0) = False := eq_false (by omega)
   have hin2 := fun (look : Look) (sz by_ : Nat) (zr : Option (List V)) (h : look ii = some ⟨gi, false, [mpC eC (puts [] (iV ea (c.ins.take i)))]⟩) => insert_mp eC (puts [] (iV ea (c.ins.take i))) e (w := .agg [V.d (.str e.nm), V.d (.slice (encD e.inn)), V.d (.slice (encD e.out)), V.d (.slice (encD e.loc)), V.d (.slice (encM e.mems)), V.d (.slice (encJ e.ins)), V.d (.slice (encY e.step))]) (sz := sz) (by_ := by_) (zr := zr) (x := d.nm) rfl h
   have hii := hK.li
   have hi2 : (ii < n + 2) = True := eq_true (by omega)
   have hi1 : (ii < n + 1) = True := eq_true (by omega)
   refine wkcekv (jn @dI.eq_1 (jn @dL.eq_1 (jn @hco (jn @nc (jn @ni (jn @hix (jn @hd' (jn @Ii.cells.eq_1 (jn @fillV.eq_1 (jn @fillV.eq_2 (jn @hF' (jn @hnn (jn @hixk (jn @he' (jn @Cl.cells.eq_1 (jn @hins (jn @hin2 @hi2))))))))))))))))) ?_
   refine loop_next (by simp [-addNew, hwj]; exact Is.rfl) ?_
   exact ⟨D - 1, by omega, i + 1, _, _, _, by omega, by rw [hs, hno, hf]; rfl, by rw [htk]; simp [iV, puts_snoc, hf, hi1], (by repeat' (first | exact hwi | exact hwi.mono (by simp) | exact WI.refl | (refine WI.trunc ?_ (by omega)) | (refine WI.set ?_ (.inr (by omega))) | (refine WI.setN ?_ (by omega)) | (refine WI.set ?_ (.inl (by simp))))), st_eq (by simp [dI, dL, hwj]) rfl⟩
  ·have hf : findC ea d.cl = (clZ, false) := by unfold findC; rw [find_none hn1]
   rw [ixP_none hn1] at hF'
   have hdp : declP o ea c = 6 := by
    unfold declP
    rw [if_neg (by simp [d0]), if_neg (by simp [d1]), if_neg (by simp [d2]), if_neg (by rw [d3]; decide), if_neg d4, if_pos (List.any_eq_true.2 ⟨d, hdm, by simp [hf]⟩)]
   rw [hdp]
   refine wkcekv (jn @dI.eq_1 (jn @dL.eq_1 (jn @hco (jn @nc (jn @ni (jn @hix (jn @hd' (jn @Ii.cells.eq_1 (jn @fillV.eq_1 (jn @fillV.eq_2 @hF')))))))))) ?_
   exact ⟨.inr rfl, _, [], rfl, rfl, rfl, (by repeat' (first | exact hwi | exact hwi.mono (by simp) | exact WI.refl | (refine WI.trunc ?_ (by omega)) | (refine WI.set ?_ (.inr (by omega))) | (refine WI.setN ?_ (by omega)) | (refine WI.set ?_ (.inl (by simp))))), fun h0 => absurd h0 (by decide)⟩
 simp at hb
 have hie : i = c.ins.length := by omega
 rw [hie, List.take_length] at hno hins
 have hdp : declP o ea c = 0 := by
  unfold declP
  rw [if_neg (by simp [d0]), if_neg (by simp [d1]), if_neg (by simp [d2]), if_neg (by rw [d3]; decide), if_neg d4, if_neg (by rw [any_no hno]; decide)]
 rw [hdp]
 refine wkcekv (jn @dI.eq_1 (jn @dL.eq_1 (jn @hco @nc))) ?_
 refine ⟨.inr rfl, _, [], rfl, rfl, rfl, (by repeat' (first | exact hwi | exact hwi.mono (by simp) | exact WI.refl | (refine WI.trunc ?_ (by omega)) | (refine WI.set ?_ (.inr (by omega))) | (refine WI.setN ?_ (by omega)) | (refine WI.set ?_ (.inl (by simp))))), fun _ => ?_⟩
 have fr : ∀ j, j < n → j ≠ ii → (Hp.trunc n hp').get j = hp.get j := fun j hj hne => by rw [Hp.get_trunc _ _ _ hj]; exact hwi.frame hj (by simp; exact hne)
 exact ⟨(fr _ hK.lc hD.c).trans hK.co, (fr _ hK.lv hD.v).trans hK.vars, (fr _ hK.lp hD.p).trans hK.ports, (fr _ hK.lm hD.m).trans hK.mems, by rw [Hp.get_trunc _ _ _ hK.li]; exact hins, hK.lc, hK.lv, hK.lp, hK.lm, hK.li⟩
end
end Go.Ac
end

section
set_option maxRecDepth 4000
namespace Go.Ac
open Go.Proofs
attribute [local simp] Hp.get_set Ag_set Ag_refl Ag_trunc get_trunc_lt
theorem kf32 (r : Nat) : Ob.keep 32 r = Ob.k32 r := by kernel_rfl
attribute [local simp] kf32 Ob.k32
theorem WP.gen3 {fid : FuncId} {code : Code} {e : Env} {hp : Hp} {n c n0 : Nat} {wl : List Nat} {Q : Ex → St → Prop}
  (h : ∀ hp' c' wl', hp' = hp → wl' = wl → WP Tryz.prog Ob.cfg fid code ⟨e, hp', n, c', n0, wl'⟩ Q) : WP Tryz.prog Ob.cfg fid code ⟨e, hp, n, c, n0, wl⟩ Q := h hp c wl rfl rfl
def classP (o : Oc) (ea : List Cl) (c : Cl) : Int :=
 if ea.any (fun d => decide (d.nm = c.nm)) = true then 7
 else if declP o ea c ≠ 0 then declP o ea c
 else if listW o c [] [] c.step ≠ 0 then listW o c [] [] c.step
 else if c.out.any (fun d => !asL d.nm true [] c.step) = true then 22 else 0
/-- What the maps say of a class whose declarations are right. -/
structure KF (o : Oc) (ea : List Cl) (c : Cl) (lv : List (Tx × Int)) (lp : List (Tx × Bool)) (lm : List (Tx × Int)) (li : List (Tx × Cl)) : Prop where
 vars : ∀ x, mget lv x = if getT c x = 0 then none else some (getT c x)
 ports : ∀ x, mget lp x = if setT c x = 0 then none else some true
 mems : ∀ x, mget lm x = if findM c.mems x = 0 then none else some (findM c.mems x)
 ins : ∀ x, mget li x = if (findI c.ins o.cl x).2 = true then some (findI c.ins o.cl x).1 else none
 kw : KW o c
 pos : ∀ x, getT c x ≠ 0 → 0 < sizeE o.en (getT c x)
section
variable {ic gc iv gv ip gp im gm ii gi : Nat} {o : Oc} {ea : List Cl} {c : Cl} {lv lm : List (Tx × Int)} {lp : List (Tx × Bool)} {li : List (Tx × Cl)}
theorem KG.at {hp : Hp} {n : Nat} (h : KG ic gc iv gv ip gp im gm ii gi o ea c lv lp lm li hp n) (f : KF o ea c lv lp lm li) : KAt ic gc iv gv ip gp im gm ii gi o ea c hp n :=
 ⟨h.co, ⟨lv, h.vars, f.vars⟩, ⟨lp, h.ports, f.ports⟩, ⟨lm, h.mems, f.mems⟩, ⟨li, h.ins, f.ins⟩, h.lc, h.lv, h.lp, h.lm, h.li⟩
theorem KG.same {hp hp' : Hp} {n : Nat} (h : KG ic gc iv gv ip gp im gm ii gi o ea c lv lp lm li hp n) (hs : ∀ j, j < n → (hp.get j).isSome = true → hp'.get j = hp.get j) : KG ic gc iv gv ip gp im gm ii gi o ea c lv lp lm li hp' n :=
 ⟨(hs _ h.lc (by rw [h.co]; rfl)).trans h.co, (hs _ h.lv (by rw [h.vars]; rfl)).trans h.vars, (hs _ h.lp (by rw [h.ports]; rfl)).trans h.ports, (hs _ h.lm (by rw [h.mems]; rfl)).trans h.mems, (hs _ h.li (by rw [h.ins]; rfl)).trans h.ins, h.lc, h.lv, h.lp, h.lm, h.li⟩
set_option maxHeartbeats 8000000 in
theorem check30 (hen : ∀ t, knownE o.en t = decide (0 < sizeE o.en t)) (hea : ea.length ≤ MX) (hL : CLen c) (hok : c.ok) (hst : szY c.step ≤ 8388600) (hp : Hp) (n cc : Nat) (hD : KD ic iv ip im ii) (hK : KG ic gc iv gv ip gp im gm ii gi o ea c lv lp lm [] hp n) (hF : declP o ea c = 0 → KF o ea c lv lp lm (puts [] (iV ea c.ins))) :
  ThrG Tryz.prog Ob.cfg 32 [.ptr ic gc 0] hp n cc (dI (classP o ea c)) [ii] (fun _ => True) := by
 have hLs := hL.sum
 have hco := hK.co
 have nc := nf hK.lc
 have ni := nf hK.li
 have hlc := hK.lc
 have hli := hK.li
 obtain ⟨F1, G1, hF1⟩ := lim_fn (C := fun hp2 n2 => Ag n hp hp2 ∧ hp2.get n = some ⟨cc, false, [.ptr ic gc 0]⟩ ∧ n < n2) (P := Tryz.prog) (cfg := Ob.cfg) (f := 50) (vs := [dL (encC ea), .fn 51 [.ptr n cc 0]]) (v := .d (.bool (ea.any fun d => decide (d.nm = c.nm))))
  (fun hp2 n2 c2 hC => contains67 (p := fun d => decide (d.nm = c.nm)) ea hea hp2 n2 (fun v hv hp3 c3 hag => check68 v hp3 n2 c3 ((hK.ag hC.1 (by omega)).ag hag (Nat.le_refl _)) ((hag n hC.2.2).trans hC.2.1) hC.2.2) c2)
 have hF1' := fun hp2 n2 c2 a b d => hF1 hp2 n2 c2 ⟨a, b, d⟩
 simp only [dL] at hF1'
 refine thrG_wp Tryz.func32 rfl (by kernel_rfl) rfl ?_
 have hwi : WI [] n hp [] hp := WI.refl
 unfold classP
 cases h7 : ea.any (fun d => decide (d.nm = c.nm)) with
 | true =>
  rw [h7] at hF1'
  rw [if_pos rfl]
  refine wkcektv (jn @envOf.eq_1 (jn @envOf.eq_2 (jn @dI.eq_1 (jn @dL.eq_1 (jn @hco (jn @nc @hF1')))))) ?_
  exact ⟨.inr rfl, _, [], rfl, rfl, rfl, (WI.refl.set (.inr (Nat.le_refl _))), trivial⟩
 | false =>
 rw [h7] at hF1'
 rw [if_neg (by decide)]
 refine wkcektv (jn @envOf.eq_1 (jn @envOf.eq_2 (jn @dI.eq_1 (jn @dL.eq_1 (jn @hco (jn @nc @hF1')))))) ?_
 apply WP.gen3
 intro hp1 c1 wl1 hhp hwl
 have hx1 : hp1.get n = some ⟨cc, false, [.ptr ic gc 0]⟩ := by rw [hhp]; simp
 have hwi1 : WI [] n hp wl1 hp1 := by rw [hhp, hwl]; repeat' (first | exact hwi | exact hwi.mono (by simp) | exact WI.refl | (refine WI.trunc ?_ (by omega)) | (refine WI.set ?_ (.inr (by omega))) | (refine WI.setN ?_ (by omega)) | (refine WI.set ?_ (.inl (by simp))))
 have hK1 : KG ic gc iv gv ip gp im gm ii gi o ea c lv lp lm [] hp1 (n + 1) := hK.ag (fun id hi => hwi1.frame hi (by simp)) (by omega)
 clear hhp hwl hwi
 have hwi := hwi1
 obtain ⟨q, hT1, hv, hn, hT2, hki, hfr, hpz, hΦ, hsame⟩ := (declared69 (cc := c1) hen hea hL hok hp1 (n + 1) hD hK1).caller (by intro j hj; simp at hj; omega)
 have hwq : ∀ (W : List Nat) (H : Hp), WI [] n hp W H → WI [ii] n hp (addNew n W (tWr q (n + 1))) (H.sets (tWr q (n + 1))) := fun W H h => (h.mono (by simp)).sets fun p hp' => .inl (hki p.1 (List.mem_map.2 ⟨p, hp', rfl⟩))
 simp only [dI] at hv
 by_cases hz : declP o ea c = 0
 case neg =>
  have hz' := eq_false hz
  rw [if_pos hz]
  have hwi := hwq _ _ hwi
  refine wkcektv (jn @dI.eq_1 (jn @dL.eq_1 (jn @hx1 (jn @hv (jn @hn (jn @int_bne @hz')))))) ?_
  exact ⟨.inr rfl, _, [], rfl, rfl, rfl, (by repeat' (first | exact hwi | exact hwi.mono (by simp) | exact WI.refl | (refine WI.trunc ?_ (by omega)) | (refine WI.set ?_ (.inr (by omega))) | (refine WI.setN ?_ (by omega)) | (refine WI.set ?_ (.inl (by simp))))), trivial⟩
 rw [if_neg (by simp [hz])]
 rw [hz] at hv
 have hf := hF hz
 refine wkcektv (jn @dI.eq_1 (jn @dL.eq_1 (jn @hx1 (jn @hv (jn @hn @int_bne))))) ?_
 apply WP.gen3
 intro hp2 c2 wl2 hhp hwl
 have hK2 : KG ic gc iv gv ip gp im gm ii gi o ea c lv lp lm (puts [] (iV ea c.ins)) hp2 (n + 1) := (hΦ hz).same fun j hj hs => by rw [hhp]; exact hsame j hj hs
 have hx2 : hp2.get n = some ⟨cc, false, [.ptr ic gc 0]⟩ := by rw [hhp, hfr n (by omega) (by simp; omega)]; exact hx1
 have hwi2 : WI [ii] n hp wl2 hp2 := by rw [hhp, hwl]; exact hwq _ _ hwi
 clear hhp hwl hwi hwi1 hT1 hT2 hki hfr hΦ hsame hwq hv hn hK1 hx1 hp1 hpz
 have hwi := hwi2
 have hKA := hK2.at hf
 have hco := hK2.co
 obtain ⟨F2, G2, hr⟩ := (list_nil (N := szY c.step) (ic := ic) (gc := gc) (iv := iv) (gv := gv) (ip := ip) (gp := gp) (im := im) (gm := gm) (ii := ii) (gi := gi) (ea := ea) (list70 hf.kw hf.pos _) hf.kw hf.pos c.step (Nat.lt_succ_self _) trivial hst hok.step).fn hKA
 simp only [dI, dL] at hr
 by_cases hl : listW o c [] [] c.step = 0
 case neg =>
  have hl' := eq_false hl
  rw [if_pos hl]
  refine wkcektv (jn @dI.eq_1 (jn @dL.eq_1 (jn @hx2 (jn @hco (jn @nc (jn @fillV.eq_1 (jn @fillV.eq_2 (jn @hr (jn @int_bne @hl'))))))))) ?_
  exact ⟨.inr rfl, _, [], rfl, rfl, rfl, (by repeat' (first | exact hwi | exact hwi.mono (by simp) | exact WI.refl | (refine WI.trunc ?_ (by omega)) | (refine WI.set ?_ (.inr (by omega))) | (refine WI.setN ?_ (by omega)) | (refine WI.set ?_ (.inl (by simp))))), trivial⟩
 rw [if_neg (by simp [hl])]
 rw [hl] at hr
 have hnb : nbB [c.step] = true := by rw [nbB, nb_of hf.pos _ c.step [] [] (Nat.lt_succ_self _) hl, nbB]; rfl
 have hasg := fun nm => assigned71 nm false [] [c.step] (by simp [MX]) hnb (by simp; omega)
 simp only [pP, dL, dS, dB, show encP [] = [] from rfl, show encB [c.step] = [[.slice (encY c.step)]] from by simp [encB], show [c.step].flatten = c.step from by simp, Bool.not_false] at hasg
 refine wkcektv (jn @dI.eq_1 (jn @dL.eq_1 (jn @hx2 (jn @hco (jn @nc (jn @fillV.eq_1 (jn @fillV.eq_2 (jn @hr (jn @int_bne (jn @closeParts.eq_1 (jn @closeParts.eq_2 @cl2.eq_def))))))))))) ?_
 apply WP.loop' (I := fun D s => ∃ (i c' g1 g2 : Nat) (wl : List Nat) (hp' : Hp), i + D = c.out.length ∧ (c.out.take i).all (fun d => !(!asL d.nm true [] c.step)) = true ∧ hp'.get (n + 1) = some ⟨g1, false, [.d (.slice (encY c.step))]⟩ ∧ hp'.get (n + 2) = some ⟨g2, false, [.full [], .osl (n + 1) g1 0 1 1 (some 1)]⟩ ∧ WI [ii] n hp wl hp' ∧ s = ⟨[(5, .ptr (n + 2) g2 0), (41, dL (encD c.out)), (42, dI c.out.length), (43, dI i)], hp', n + 3, c', n, wl⟩) (d := c.out.length)
 ·exact ⟨0, _, _, _, _, _, by simp, by simp, by simp; rfl, by simp; rfl, (by repeat' (first | exact hwi | exact hwi.mono (by simp) | exact WI.refl | (refine WI.trunc ?_ (by omega)) | (refine WI.set ?_ (.inr (by omega))) | (refine WI.setN ?_ (by omega)) | (refine WI.set ?_ (.inl (by simp))))), st_eq (by simp [dI, dL]; try exact ⟨rfl, rfl⟩) rfl⟩
 clear hwi hwi2
 rintro D _ ⟨i, c', g1, g2, wl, hp', hi, hno, hx1, hx2, hwi, rfl⟩
 refine wkektv (jn @dI.eq_1 @dL.eq_1) ?_
 show WP _ _ _ _ _ _
 refine WP.cond _ rfl (fun hb => ?_) (fun hb => ?_)
 ·simp at hb
  have hb' : i < c.out.length := by omega
  obtain ⟨d, hd, hdm, hix⟩ := at_lt hb'
  have hd' := encD_at hd
  have hwj := w_succ hb' (by omega)
  have hs := all_snoc (p := fun d : Dc => !(!asL d.nm true [] c.step)) hd
  have ha := hasg d.nm
  cases has : asL d.nm true [] c.step with
  | false =>
   rw [has] at ha
   rw [if_pos (List.any_eq_true.2 ⟨d, hdm, by simp [has]⟩)]
   refine wkcektv (jn @dI.eq_1 (jn @dL.eq_1 (jn @hix (jn @hd' (jn @Dc.cells.eq_1 (jn @fillV.eq_1 (jn @fillV.eq_2 (jn @hx1 (jn @hx2 (jn @toD_dep (jn @toD_d (jn @toDs.eq_1 (jn @toDs.eq_2 (jn @chunk.eq_1 (jn @chunk.eq_2 (jn @nble_d @ha)))))))))))))))) ?_
   exact ⟨.inr rfl, _, [], rfl, rfl, rfl, (by repeat' (first | exact hwi | exact hwi.mono (by simp) | exact WI.refl | (refine WI.trunc ?_ (by omega)) | (refine WI.set ?_ (.inr (by omega))) | (refine WI.setN ?_ (by omega)) | (refine WI.set ?_ (.inl (by simp))))), trivial⟩
  | true =>
   rw [has] at ha
   refine wkcektv (jn @dI.eq_1 (jn @dL.eq_1 (jn @hix (jn @hd' (jn @Dc.cells.eq_1 (jn @fillV.eq_1 (jn @fillV.eq_2 (jn @hx1 (jn @hx2 (jn @toD_dep (jn @toD_d (jn @toDs.eq_1 (jn @toDs.eq_2 (jn @chunk.eq_1 (jn @chunk.eq_2 (jn @nble_d @ha)))))))))))))))) ?_
   refine loop_next (by simp [-addNew, hwj]; exact Is.rfl) ?_
   exact ⟨D - 1, by omega, i + 1, _, g1, g2, _, _, by omega, by rw [hs, hno, has]; rfl, by simp [hx1], by simp [hx2], (by repeat' (first | exact hwi | exact hwi.mono (by simp) | exact WI.refl | (refine WI.trunc ?_ (by omega)) | (refine WI.set ?_ (.inr (by omega))) | (refine WI.setN ?_ (by omega)) | (refine WI.set ?_ (.inl (by simp))))), st_eq (by simp [dI, dL, hwj]) rfl⟩
 simp at hb
 have hie : i = c.out.length := by omega
 rw [hie, List.take_length] at hno
 rw [if_neg (by rw [any_no hno]; decide)]
 refine wkcektv (jn @dI.eq_1 @dL.eq_1) ?_
 exact ⟨.inr rfl, _, [], rfl, rfl, rfl, (by repeat' (first | exact hwi | exact hwi.mono (by simp) | exact WI.refl | (refine WI.trunc ?_ (by omega)) | (refine WI.set ?_ (.inr (by omega))) | (refine WI.setN ?_ (by omega)) | (refine WI.set ?_ (.inl (by simp))))), trivial⟩
end
end Go.Ac
end
