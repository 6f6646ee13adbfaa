/- The form of an expression, without its arguments: of a text that is no word. No conditions. -/
import Derived.Test.YtkimfnammkljoaaGreatDoorHeBM
set_option linter.unusedVariables false
set_option linter.unusedSimpArgs false
section
set_option maxRecDepth 4000
set_option linter.unusedSectionVars false
namespace Go.Ac
open Go.Proofs
variable [GwR]
theorem isOb_ok {o : Ob} {g : Nat} {l : List V} (h : isOb o g l = true) : o = ⟨g, false, l⟩ := by
 unfold isOb at h
 simp only [Bool.and_eq_true, Bool.not_eq_true'] at h
 obtain ⟨⟨h1, h2⟩, h3⟩ := h
 obtain ⟨g', ro, cs⟩ := o
 simp only at h1 h2 h3
 rw [Nat.eq_of_beq_eq_true h1, h2, beqVs_ok _ _ h3]
theorem top_lt {hp : Hp} {n i : Nat} {o : Ob} (ht : Tops hp n) (h : hp.get i = some o) : i < n := by
 apply Classical.byContradiction
 intro hn
 rw [ht i (by omega)] at h
 cases h
theorem same_of {hp hp1 : Hp} (h : ∀ id, hp1.get id = hp.get id ∨ ∃ o q, hp.get id = some o ∧ hp1.get id = some q ∧ EqOb o q) : SameH hp hp1 := by
 refine ⟨fun id x hx => ?_, fun id x hx => ?_⟩
 ·rcases h id with e | ⟨o, q, h1, h2, h3⟩
  ·exact ⟨x, e ▸ hx, .refl _⟩
  ·rw [h2] at hx; cases hx; exact ⟨o, h1, h3⟩
 ·rcases h id with e | ⟨o, q, h1, h2, h3⟩
  ·exact ⟨x, e.symm ▸ hx, .refl _⟩
  ·rw [h1] at hx; cases hx; exact ⟨q, h2, h3.symm⟩
theorem one_all {xs ys : List V} (hx : xs.all V.one = true) (hy : ys.all V.one = true) : ∀ (j : Nat) (a b : V), xs[j]? = some a → ys[j]? = some b → a.one = b.one := by
 intro j a b ha hb
 rw [List.all_eq_true.1 hx a (List.mem_of_getElem? ha), List.all_eq_true.1 hy b (List.mem_of_getElem? hb)]
theorem EqVs.app {a a' b b' : List V} (h : EqVs a a') (hs : EqVs b b') : EqVs (a ++ b) (a' ++ b') :=
 ⟨by simp [h.1, hs.1], fun j x y hx hy => by
  rw [List.getElem?_append] at hx hy
  rw [← h.1] at hy
  split at hx
  ·rename_i hl
   rw [if_pos hl] at hy
   exact h.2 j x y hx hy
  ·rename_i hl
   rw [if_neg hl] at hy
   exact hs.2 _ x y hx hy⟩
theorem cl_ptr (look : Look) (i g o : Nat) : close1 look (.ptr i g o) = none := by
 have : toD look depthD (.ptr i g o) = none := by unfold toD; rfl
 show ofD (toD look depthD (.ptr i g o)) = none
 rw [this]; rfl
theorem rf_tup2 (I : Nat → Nat → Prop) (a b : D) : RF I (.tuple [.d a, .d b]) := .tuple fun j x hx => by
 rcases j with _ | _ | j
 ·cases hx; exact .d
 ·cases hx; exact .d
 ·cases hx
def clR (hd lp : List Bool) : List V := [.d (.str (plW hd lp).nm), .d (.slice (encD (plW hd lp).inn)), .d (.slice (encD (plW hd lp).out)), .d (.slice (encD (plW hd lp).loc)), .d (.slice (encM (plW hd lp).mems)), .d (.slice (encJ (plW hd lp).ins)), .d (.slice (encY (plW hd lp).step))]
section
variable {s : Tx} {hd lp : List Bool}
theorem WR.cls (h : WR s hd lp) : EqVs clsC (clR hd lp) :=
 .cons (.refl _) (.cons (.refl _) (.cons (.refl _) (.cons (.refl _) (.cons (.refl _) (.cons (.refl _) (.cons (EqR.slice h.step).v .nil))))))
theorem plW_kw (hd lp : List Bool) : KW ⟨[], [plW hd lp]⟩ (plW hd lp) := by
 refine ⟨fun x => ?_, fun x _ => rfl, fun x => ?_, ?_⟩
 ·simp [plW, findD]
 ·simp only [getT, setT, findD, plW, List.find?_cons, List.find?_nil]
  by_cases e : ([98] : Tx) = x <;> simp [e, I64]
 ·simp [plW, MX]
/-- The cells of a class object. -/
def ob419 (g3 g4 g5 g6 : Nat) (l : List V) : List V := [.d (.slice []), .d (.slice [])] ++ l ++ [.mp 3 g3, .mp 4 g4, .mp 5 g5, .mp 6 g6]
theorem look419 (h : WR s hd lp) {a g g3 g4 g5 g6 : Nat} {hp : Hp} {n c : Nat} (ht : Tops hp n) (ha : hp.get a = some ⟨g, false, ob419 g3 g4 g5 g6 clsC⟩) (h3 : hp.get 3 = some ⟨g3, false, [.mpc [.str [98]] [.d (zi 1)] [0] 1]⟩) (h4 : hp.get 4 = some ⟨g4, false, [.mpc [.str [98]] [.d (.bool true)] [0] 1]⟩)
  (h5 : hp.get 5 = some ⟨g5, false, [.mpc [.str m1] [.d (zi 2)] [0] 1]⟩) (h6 : hp.get 6 = some ⟨g6, false, [.mpc [] [] [] 0]⟩) {r : List D} {x : X} {t : Nat} {pre : List (List D)} {pY : List Y} (hr : EqDs r x.cells) (hg : XG ⟨⟨[], [plW hd lp]⟩, plW hd lp, [pY].flatten, []⟩ t x)
  (hpre : EqR pre (encY pY)) (hB : BOK [] [pY]) :
  ∃ vs1 hp1 v1, LookOK Tryz.prog Ob.cfg 419 [.ptr a g 0, .agg (r.map .d), .agg [.d (.slice []), .d (.slice [[.slice pre]])]] hp n c ⟨.tuple [.d (zi t), .d (zi 0)], [], [], 0, 4096, true⟩ vs1 hp1 v1 := by
 have hne : ∀ i o, hp.get i = some o → o.cells.length = 1 → ¬ a = i := by
  rintro i o hi ho rfl
  rw [ha] at hi; cases hi; simp [ob419, clsC] at ho
 have n3 := hne 3 _ h3 rfl
 have n4 := hne 4 _ h4 rfl
 have n5 := hne 5 _ h5 rfl
 have n6 := hne 6 _ h6 rfl
 have hK : KAt a g 3 g3 4 g4 5 g5 6 g6 ⟨[], [plW hd lp]⟩ [] (plW hd lp) (hp.set a ⟨g, false, ob419 g3 g4 g5 g6 (clR hd lp)⟩) n := by
  refine ⟨?_, ⟨[([98], 1)], ?_, fun x => ?_⟩, ⟨[([98], true)], ?_, fun x => ?_⟩, ⟨[(m1, 2)], ?_, fun x => ?_⟩, ⟨[], ?_, fun x => ?_⟩, top_lt ht ha, top_lt ht h3, top_lt ht h4, top_lt ht h5, top_lt ht h6⟩
  ·rw [Hp.get_set, if_pos rfl]; rfl
  ·rw [Hp.get_set, if_neg n3, h3]; rfl
  ·simp only [mget, getT, setT, findD, plW, List.find?_cons, List.find?_nil]
   by_cases e : ([98] : Tx) = x <;> simp [e]
  ·rw [Hp.get_set, if_neg n4, h4]; rfl
  ·simp only [mget, getT, setT, findD, plW, List.find?_cons, List.find?_nil]
   by_cases e : ([98] : Tx) = x <;> simp [e]
  ·rw [Hp.get_set, if_neg n5, h5]; rfl
  ·simp only [mget, findM, plW, List.find?_cons, List.find?_nil]
   by_cases e : m1 = x <;> simp [e]
  ·rw [Hp.get_set, if_neg n6, h6]; rfl
  ·simp [mget, findI, plW]
 have hq := typed174 (plW_kw hd lp) [] [pY] hB (x.sz + 1) x (by omega) hg.form hg.ok _ n c hK
 rw [kindT_ok hg.form (by rw [hg.kind]), hg.kind] at hq
 refine ⟨[.ptr a g 0, aG x.cells, pP [] [pY]], _, .tuple [dI t, dI 0], ⟨rfl, rfl, hq, ?_, ?_, ?_, .refl _, fun I => rf_tup2 I _ _, same_of fun id => ?_⟩⟩
 ·simp only [closeArgs, closeVs, closeA, close, cl_ptr]
 ·intro i hi
  have := top_lt ht ha
  rw [Hp.get_set, if_neg (by omega)]
  exact ht i hi
 ·exact .cons (.refl _) (.cons (EqVs.agg hr.vs) (.cons (EqVs.agg (.cons (.refl _) (.cons (by
   simp only [encB]
   exact (EqR.slice (.cons (.cons (EqR.slice hpre) .nil) .nil)).v) .nil))) .nil))
 ·by_cases e : a = id
  ·subst e
   refine .inr ⟨_, _, ha, by rw [Hp.get_set, if_pos rfl], EqOb.cells ?_ (one_all rfl rfl) rfl rfl⟩
   exact .app (.app (.refl _) h.cls) (.refl _)
  ·exact .inl (by rw [Hp.get_set, if_neg e])
theorem bok_nil : BOK [] [[]] := ⟨by simp [MX], rfl, by simp [szY]⟩
theorem bok_one {x : X} (h : x.sz ≤ 5100) : BOK [] [[.mk 1 [98] 0 x [] [] []]] := by
 refine ⟨by simp [MX], rfl, ?_⟩
 have e : szT [98] ≤ 4 := by decide
 simp [szY, Y.sz, szS, szX, szB]
 omega
theorem ent419 (h : WR s hd lp) : ∀ vs ids k, p419 vs = some (ids, k) → ∀ (hp : Hp) n c r, Tops hp n → k (ids.map hp.get) n c = some r → ∃ vs1 hp1 v1, LookOK Tryz.prog Ob.cfg 419 vs hp n c r vs1 hp1 v1 := by
 intro vs ids k hv hp n c r ht hk
 unfold p419 at hv
 split at hv
 ·rename_i a g es pre
  split at hv
  ·rename_i ty hty
   simp only [Option.some.injEq, Prod.mk.injEq] at hv
   obtain ⟨rfl, rfl⟩ := hv
   simp only [List.map_cons, List.map_nil] at hk
   split at hk
   ·rename_i oc o3 o4 o5 o6 heq
    simp only [List.cons.injEq, and_true] at heq
    obtain ⟨ha, h3, h4, h5, h6⟩ := heq
    split at hk
    ·rename_i hc
     simp only [Option.some.injEq] at hk
     subst hk
     simp only [Bool.and_eq_true] at hc
     obtain ⟨⟨⟨⟨c1, c3⟩, c4⟩, c5⟩, c6⟩ := hc
     rw [isOb_ok c1] at ha
     rw [isOb_ok c3] at h3
     rw [isOb_ok c4] at h4
     rw [isOb_ok c5] at h5
     rw [isOb_ok c6] at h6
     rcases pre with _ | ⟨r1, _ | ⟨r2, rr⟩⟩
     ·simp only [List.isEmpty_nil, Bool.and_true, Bool.and_false, Bool.false_eq_true, if_false] at hty
      split at hty
      ·rename_i h1
       cases hty
       rw [row_of h1]
       exact look419 h ht ha h3 h4 h5 h6 h.row1 (h.x _ (plW_m hd lp)).1 (by simp only [encY]; exact .nil) bok_nil
      ·cases hty
     ·simp only [List.isEmpty_cons, Bool.and_false, Bool.false_eq_true, if_false] at hty
      split at hty
      ·rename_i h2
       rw [Bool.and_eq_true] at h2
       cases hty
       rw [row_of h2.1]
       have := map_d (beqVs_ok _ _ h2.2)
       subst this
       exact look419 h ht ha h3 h4 h5 h6 h.row2 (h.y _ (plW_m hd lp)).1 (pY := [.mk 1 [98] 0 (xW hd lp) [] [] []]) (by
        simp only [encY, Y.cells, encS, encX, encB, List.map_nil]
        exact .cons (stm_eq 1 [98] h.row1) .nil) (bok_one h.x'.2)
      ·cases hty
     ·simp only [List.isEmpty_cons, Bool.and_false, Bool.false_eq_true, if_false] at hty
      cases hty
    ·cases hk
   ·cases hk
  ·cases hv
 ·cases hv
/-! ### Values -/
theorem sy_bit {t : Nat} (ht : t < 1000) : syW (1000 + t) = .int .i64 (GwR.bit t) := by
 unfold syW
 split <;> first | (exfalso; omega) | skip
 rw [if_pos (by omega), show 1000 + t - 1000 = t by omega]
theorem sy_ks {t : Nat} : syW (2000 + t) = .int .i64 (GwR.ks t) := by
 unfold syW
 split <;> first | (exfalso; omega) | skip
 rw [if_neg (by omega), show 2000 + t - 2000 = t by omega]
theorem sy_int {q : Nat} (hq : 1000 ≤ q) : ∃ v, syW q = .int .i64 v := by
 unfold syW
 split <;> first | (exfalso; omega) | skip
 split <;> exact ⟨_, rfl⟩
def ob132 (gm ii gi : Nat) (l : List V) : List V := [.d (.slice [])] ++ l ++ [.mp MID gm, .mp ii gi]
theorem look132 (h : WR s hd lp) {a g gm ii gi v gv : Nat} {hp : Hp} {n c : Nat} (ht : Tops hp n) (ha : hp.get a = some ⟨g, false, ob132 gm ii gi clsC⟩) {om ov : List V} (hm : hp.get MID = some ⟨gm, false, om⟩) (hv : hp.get v = some ⟨gv, false, ov⟩)
  {kv : Int} {vl : List (Tx × Int)} (hm2 : EqOb ⟨gm, false, om⟩ ⟨gm, false, [mpC eI [(m1, kv)]]⟩) (hv2 : EqOb ⟨gv, false, ov⟩ ⟨gv, false, [mpC eI vl]⟩) (l1 : om.length = 1) (l2 : ov.length = 1) (hmv : MID = v → False)
  {r : List D} {x : X} {w : Pl} {ty : Int} (hr : EqDs r x.cells) (hg : XG w ty x) (hs : x.sz ≤ 5100) {q : Nat} (hq : syW q = .int .i64 (evE vl [(m1, kv)] x)) :
  ∃ vs1 hp1 v1, LookOK Tryz.prog Ob.cfg 132 [.agg [.ptr a g 0, .mp v gv], .agg (r.map .d)] hp n c ⟨.d (.sym q), [], [], 0, 4096, true⟩ vs1 hp1 v1 := by
 have hne : ∀ i g' o, hp.get i = some ⟨g', false, o⟩ → o.length = 1 → ¬ a = i := by
  rintro i g' o hi ho rfl
  rw [ha] at hi; cases hi; simp [ob132, clsC] at ho
 have n1 := hne _ _ _ hm l1
 have n2 := hne _ _ _ hv l2
 obtain ⟨hp1, e1⟩ : ∃ hp1, hp1 = ((hp.set a ⟨g, false, ob132 gm ii gi (clR hd lp)⟩).set MID ⟨gm, false, [mpC eI [(m1, kv)]]⟩).set v ⟨gv, false, [mpC eI vl]⟩ := ⟨_, rfl⟩
 have ga : hp1.get a = some ⟨g, false, ob132 gm ii gi (clR hd lp)⟩ := by rw [e1, Hp.get_set, if_neg (fun e => n2 e.symm), Hp.get_set, if_neg (fun e => n1 e.symm), Hp.get_set, if_pos rfl]
 have gm' : hp1.get MID = some ⟨gm, false, [mpC eI [(m1, kv)]]⟩ := by rw [e1, Hp.get_set, if_neg (fun e => hmv e.symm), Hp.get_set, if_pos rfl]
 have gv' : hp1.get v = some ⟨gv, false, [mpC eI vl]⟩ := by rw [e1, Hp.get_set, if_pos rfl]
 have hK : RA ⟨a, g, MID, gm, ii, gi, v, gv⟩ [] (plW hd lp) [(m1, kv)] vl hp1 n := ⟨ga, gm', gv', top_lt ht ha, top_lt ht hm, top_lt ht hv⟩
 have hqv := value123 5101 (by omega) x (by omega) hg.form hg.ok hp1 n c hK
 refine ⟨[rV ⟨a, g, MID, gm, ii, gi, v, gv⟩, aG x.cells], hp1, dI (evE vl [(m1, kv)] x), ⟨rfl, rfl, hqv, ?_, ?_, ?_, ?_, fun I => .d, same_of fun id => ?_⟩⟩
 ·simp only [closeArgs, closeVs, closeA, close, rV, cl_ptr]
 ·intro i hi
  have b1 := top_lt ht ha
  have b2 := top_lt ht hm
  have b3 := top_lt ht hv
  rw [e1, Hp.get_set, if_neg (by omega), Hp.get_set, if_neg (by omega), Hp.get_set, if_neg (by omega)]
  exact ht i hi
 ·exact .cons (.refl _) (.cons (EqVs.agg hr.vs) .nil)
 ·exact (EqD.sym (k := q) hq).symm.v
 ·by_cases e : a = id
  ·subst e
   refine .inr ⟨_, _, ha, ga, EqOb.cells ?_ (one_all rfl rfl) rfl rfl⟩
   exact .app (.app (.refl _) h.cls) (.refl _)
  by_cases e2 : MID = id
  ·subst e2
   exact .inr ⟨_, _, hm, gm', hm2⟩
  by_cases e3 : v = id
  ·subst e3
   exact .inr ⟨_, _, hv, gv', hv2⟩
  exact .inl (by rw [e1, Hp.get_set, if_neg e3, Hp.get_set, if_neg e2, Hp.get_set, if_neg e])
theorem gz_one (k : Tx) (v : Int) : gz [(k, v)] k = v := by simp [gz, mget]
theorem memK_ok (h : WR s hd lp) {g : Nat} {om : Ob} {t : Nat} (hg : om.gen = g) (hro : om.ro = false) (hk : memK om = some t) :
  t < 900 ∧ om = ⟨g, false, om.cells⟩ ∧ om.cells.length = 1 ∧ (∀ ks vs bs c, om.cells = [.mpc ks vs bs c] → ks = [.str m1]) ∧ EqOb om ⟨g, false, [mpC eI [(m1, (kW hd.length lp.length t : Int))]]⟩ := by
 obtain ⟨g', ro, cs⟩ := om
 simp only at hg hro
 subst hg; subst hro
 unfold memK at hk
 simp only at hk
 split at hk
 ·rename_i k
  split at hk
  ·rename_i hk1
   cases hk
   subst hk1
   refine ⟨by omega, rfl, rfl, fun _ _ _ _ e => by cases e; rfl, ?_⟩
   rw [kW_zero]
   exact .refl _
  ·cases hk
 ·rename_i k q
  split at hk
  ·rename_i hk1
   simp only [Bool.and_eq_true, decide_eq_true_eq] at hk1
   simp only [Option.some.injEq] at hk
   subst hk
   obtain ⟨⟨e, h1⟩, h2⟩ := hk1
   subst e
   refine ⟨by omega, rfl, rfl, fun _ _ _ _ e => by cases e; rfl, ?_⟩
   obtain ⟨j, rfl⟩ : ∃ j, q = 2000 + j := ⟨q - 2000, by omega⟩
   rw [show 2000 + j - 2000 = j by omega]
   have e := sy_ks (t := j)
   rw [h.ks] at e
   exact EqOb.map (.cons (EqD.sym e).v .nil)
  ·cases hk
 ·cases hk
theorem isVars_ok {g : Nat} {ov : Ob} (hg : ov.gen = g) (hk : isVars ov = true) :
  ov = ⟨g, false, ov.cells⟩ ∧ ov.cells.length = 1 ∧ (∀ ks vs bs c, ov.cells = [.mpc ks vs bs c] → ks ≠ [.str m1]) ∧ ∃ vl, EqOb ov ⟨g, false, [mpC eI vl]⟩ := by
 obtain ⟨g', ro, cs⟩ := ov
 simp only at hg
 subst hg
 unfold isVars at hk
 simp only [Bool.and_eq_true, Bool.not_eq_true', Bool.or_eq_true] at hk
 obtain ⟨h1, hk⟩ := hk
 subst h1
 have hm : (D.str [98] : D) ≠ .str m1 := by intro e; cases e
 rcases hk with hk | hk
 ·have := beqVs_ok _ _ hk
  subst this
  exact ⟨rfl, rfl, fun _ _ _ _ e => by cases e; simp, [], .refl _⟩
 ·split at hk
  ·rename_i q
   obtain ⟨v, hv⟩ := sy_int (of_decide_eq_true hk)
   exact ⟨rfl, rfl, fun _ _ _ _ e => by cases e; simpa using hm, [([98], v)], EqOb.map (.cons (EqD.sym hv).v .nil)⟩
  ·exact ⟨rfl, rfl, fun _ _ _ _ e => by cases e; simpa using hm, [([98], 0)], .refl _⟩
  ·cases hk
theorem ent132 (h : WR s hd lp) : ∀ vs ids k, p132 vs = some (ids, k) → ∀ (hp : Hp) n c r, Tops hp n → k (ids.map hp.get) n c = some r → ∃ vs1 hp1 v1, LookOK Tryz.prog Ob.cfg 132 vs hp n c r vs1 hp1 v1 := by
 intro vs ids k hv hp n c r ht hk
 have hl := h.len
 unfold p132 at hv
 split at hv
 ·rename_i a g v gv es
  split at hv
  ·rename_i q hty
   simp only [Option.some.injEq, Prod.mk.injEq] at hv
   obtain ⟨rfl, rfl⟩ := hv
   simp only [List.map_cons, List.map_nil] at hk
   split at hk
   ·rename_i ox om ov heq
    simp only [List.cons.injEq, and_true] at heq
    obtain ⟨ha, hm, hv⟩ := heq
    split at hk
    ·rename_i gm ii gi hcs
     split at hk
     ·rename_i hc
      split at hk
      ·rename_i t hmk
       simp only [Option.some.injEq] at hk
       subst hk
       simp only [Bool.and_eq_true, Bool.not_eq_true'] at hc
       obtain ⟨⟨⟨⟨c1, c2⟩, c3⟩, c4⟩, c5⟩ := hc
       obtain ⟨ht9, em, lm, km, hm2⟩ := memK_ok h (Nat.eq_of_beq_eq_true c2) c3 hmk
       obtain ⟨ev, lv, kv, vl, hv2⟩ := isVars_ok (Nat.eq_of_beq_eq_true c4) c5
       have hmv : MID = v → False := by
        intro e
        rw [← e, hm] at hv
        cases hv
        unfold memK at hmk
        split at hmk
        ·rename_i e2; exact kv _ _ _ _ e2 (km _ _ _ _ e2)
        ·rename_i e2; exact kv _ _ _ _ e2 (km _ _ _ _ e2)
        ·cases hmk
       rw [isOb_ok c1] at ha
       rw [em] at hm hm2
       rw [ev] at hv hv2
       split at hty
       ·rename_i h1
        cases hty
        rw [row_of h1]
        refine look132 h ht ha hm hv hm2 hv2 lm lv hmv h.row1 h.x'.1 h.x'.2 ?_
        rw [sy_bit (by omega), h.bit]
        unfold xW
        rw [ltX_ev m1 vl _ (kW hd.length lp.length t) (gz_one _ _) _ 0 _ (Nat.le_refl _) (Nat.zero_le _) (by have := kW_lt hl.2.2 t (h := hd.length); rw [List.length_append]; omega) (by rw [List.length_append]; omega)]
        rfl
       ·split at hty
        ·rename_i h2
         cases hty
         rw [row_of h2]
         refine look132 h ht ha hm hv hm2 hv2 lm lv hmv h.row2 h.y'.1 (by have := h.y'.2; omega) ?_
         have := sy_ks (t := t + 1)
         rw [h.ks] at this
         rw [show 2001 + t = 2000 + (t + 1) by omega, this]
         unfold yW
         rw [List.length_append, stepX_ev m1 vl _ hl.2.2 (by omega) (gz_one _ _)]
        ·cases hty
      ·cases hk
     ·cases hk
    ·cases hk
   ·cases hk
  ·cases hv
 ·cases hv
end
end Go.Ac
end

section
set_option maxRecDepth 4000
set_option linter.unusedSectionVars false
namespace Go.Ac
open Go.Proofs
variable [GwR]
attribute [local simp] Hp.get_set get_trunc_lt
def lettK (hd lp : List Bool) (k : Nat) : Bool := (hd ++ lp)[kW hd.length lp.length k]?.getD false
theorem kf445 (r : Nat) : Ob.keep 445 r = Ob.k445 r := by kernel_rfl
theorem kf457 (r : Nat) : Ob.keep 457 r = Ob.k457 r := by kernel_rfl
theorem kf415 (r : Nat) : Ob.keep 415 r = Ob.k415 r := by kernel_rfl
attribute [local simp] kf445 Ob.k445 kf457 Ob.k457 kf415 Ob.k415
set_option maxHeartbeats 4000000 in
theorem letter457 (hd lp : List Bool) (k : Nat) (hl : 0 < lp.length) (hb : hd.length + lp.length ≤ 64) (hk : k ≤ 8388608) : den Tryz.prog Ob.cfg 457 [aW hd lp, dI k] = some (dB (lettK hd lp k)) := by
 refine den_wp Tryz.func457 rfl (by kernel_rfl) rfl rfl ?_
 unfold lettK kW
 by_cases h : k < hd.length
 ·have h' := eq_true (show (k : Int) < (hd.length : Int) by omega)
  obtain ⟨y, hy, hym, hix⟩ := at_lt h
  have hy' := encT_at hy
  rw [if_pos h, List.getElem?_append_left h, hy]
  refine wkc (jn @envOf.eq_1 (jn @envOf.eq_2 (jn @aW.eq_1 (jn @dI.eq_1 (jn @dL.eq_1 (jn @dB.eq_1 (jn @fillV.eq_1 (jn @fillV.eq_2 (jn @h' (jn @hix @hy')))))))))) ?_
  show retQ _ _ _ _ _
  exact ⟨.inr rfl, _, _, rfl, rfl⟩
 ·have h' := eq_false (show ¬ (k : Int) < (hd.length : Int) by omega)
  obtain ⟨m, hm⟩ : ∃ m, k - hd.length = m := ⟨_, rfl⟩
  obtain ⟨j, hj0⟩ : ∃ j, m % lp.length = j := ⟨_, rfl⟩
  have w1 : IntKind.i64.wrap ((k : Int) - (hd.length : Int)) = (m : Int) := by rw [w_id] <;> omega
  have hj : j < lp.length := by rw [← hj0]; exact Nat.mod_lt _ hl
  have w4 : Int.tmod (m : Int) (lp.length : Int) = (j : Int) := by rw [← hj0]; rfl
  have w3 := eq_false (show ¬ (lp = []) by rintro rfl; simp at hl)
  obtain ⟨y, hy, hym, hix⟩ := at_lt hj
  have hy' := encT_at hy
  rw [if_neg h, hm, hj0, List.getElem?_append_right (by omega), show hd.length + j - hd.length = j by omega, hy]
  refine wkc (jn @envOf.eq_1 (jn @envOf.eq_2 (jn @aW.eq_1 (jn @dI.eq_1 (jn @dL.eq_1 (jn @dB.eq_1 (jn @fillV.eq_1 (jn @fillV.eq_2 (jn @h' (jn @w1 (jn @w3 (jn @w4 (jn @hix @hy'))))))))))))) ?_
  show retQ _ _ _ _ _
  exact ⟨.inr rfl, _, _, rfl, rfl⟩
set_option maxHeartbeats 4000000 in
theorem at445 (hd lp : List Bool) (k : Nat) (hl : 0 < lp.length) (hb : hd.length + lp.length ≤ 64) (hk : k ≤ 8388608) : den Tryz.prog Ob.cfg 445 [aW hd lp, dI k] = some (dB (lettK hd lp k)) := by
 have hc := check49 hd lp (by omega)
 have h0 : ckW hd lp = 0 := by
  unfold ckW
  rw [if_neg (by rintro rfl; simp at hl), if_neg (by omega)]
 rw [h0] at hc
 have hl4 := letter457 hd lp k hl hb hk
 simp only [aW, dL, dI, dB] at hc hl4
 refine den_wp Tryz.func445 rfl (by kernel_rfl) rfl rfl ?_
 have h' := eq_true (show (k : Int) ≥ 0 by omega)
 refine wkc (jn @envOf.eq_1 (jn @envOf.eq_2 (jn @aW.eq_1 (jn @dI.eq_1 (jn @dL.eq_1 (jn @dB.eq_1 (jn @fillV.eq_1 (jn @fillV.eq_2 (jn @hc (jn @hl4 @h')))))))))) ?_
 show retQ _ _ _ _ _
 exact ⟨.inr rfl, _, _, rfl, rfl⟩
/-- The cells of an operator's occurrence: the word, how many letters have been given. -/
def ocC (c0 c1 c2 c3 c4 c5 c6 c7 c8 c9 c10 : V) (k : Int) (w1 w2 z : V) : List V := [c0, c1, c2, c3, c4, c5, c6, c7, c8, c9, c10, w1, w2, .d (.int .i64 k), z]
set_option maxHeartbeats 8000000 in
theorem letter415 (hd lp : List Bool) (k : Nat) (hl : 0 < lp.length) (hb : hd.length + lp.length ≤ 64) (hk : k ≤ 200) (o g n c p1 p2 p3 : Nat) (hp : Hp) (ho : o < n) (c0 c1 c2 c3 c4 c5 c6 c7 c8 c9 c10 z x2 : V)
  (hx : hp.get o = some ⟨g, false, ocC c0 c1 c2 c3 c4 c5 c6 c7 c8 c9 c10 (k : Int) (.d (.slice (encT hd))) (.d (.slice (encT lp))) z⟩) :
  ∃ (v : V) (t : St), lim Tryz.prog Ob.cfg 415 [.ptr o g 0, .ptr p1 p2 p3, x2, .d (.bool true)] hp n c = some ⟨v, Hp.trunc n t.hp, n, t.c, t.wl⟩ ∧ (v = .agg [.d (.int .i64 1), .d (.int .i64 (if lettK hd lp k = true then 1 else 0))] ∧ t.wl = [o] ∧
   (∀ id, id < n → id ≠ o → t.hp.get id = hp.get id) ∧ t.hp.get o = some ⟨g, false, ocC c0 c1 c2 c3 c4 c5 c6 c7 c8 c9 c10 ((k + 1 : Nat) : Int) (.d (.slice (encT hd))) (.d (.slice (encT lp))) z⟩) := by
 have hat := at445 hd lp k hl hb (by omega)
 simp only [aW, dL, dI, dB] at hat
 unfold ocC at hx ⊢
 have hw : IntKind.i64.wrap ((k : Int) + 1) = ((k + 1 : Nat) : Int) := by rw [w_id] <;> omega
 have l1 := eq_true ho
 have l2 := eq_true (show o < n + 1 by omega)
 have l3 := eq_true (show o < n + 2 by omega)
 obtain ⟨f0, f1, f2, f3, f4, f5, f6, f7⟩ := nf ho
 have g0 := eq_false (show ¬ o = n by omega)
 have g1 := eq_false (show ¬ o = n + 1 by omega)
 refine lim_wpD Tryz.func415 rfl (by kernel_rfl) rfl ?_
 cases hlk : lettK hd lp k with
 | true =>
  rw [hlk] at hat
  refine wkc (jn @envOf.eq_1 (jn @envOf.eq_2 (jn @fillV.eq_1 (jn @fillV.eq_2 (jn @hx (jn @hat (jn @hw (jn @l1 (jn @l2 (jn @l3 (jn @f0 (jn @f1 (jn @f2 (jn @g0 @g1)))))))))))))) ?_
  refine ⟨.inr rfl, [.agg [.d (.int .i64 1), .d (.int .i64 1)]], .agg [.d (.int .i64 1), .d (.int .i64 1)], [], ?_, ?_, rfl, rfl, rfl, fun id h1 h2 => ?_, ?_⟩
  ·show resultsV Tryz.prog _ [_] = _
   simp [resultsV, resultV, f0, f1, f2, g0, g1]
  ·simp only [tup, closeT, close, closeVs, cl_d, List.nil_append]
  ·have k1 : ¬ n = id := by omega
   have k2 : ¬ n + 1 = id := by omega
   have k3 : ¬ o = id := fun e => h2 e.symm
   simp [k1, k2, k3]
  ·simp [f0, f1, f2, g0, g1]
 | false =>
  rw [hlk] at hat
  refine wkc (jn @envOf.eq_1 (jn @envOf.eq_2 (jn @fillV.eq_1 (jn @fillV.eq_2 (jn @hx (jn @hat (jn @hw (jn @l1 (jn @l2 (jn @l3 (jn @f0 (jn @f1 (jn @f2 (jn @g0 @g1)))))))))))))) ?_
  refine ⟨.inr rfl, [.agg [.d (.int .i64 1), .d (.int .i64 0)]], .agg [.d (.int .i64 1), .d (.int .i64 0)], [], ?_, ?_, rfl, rfl, rfl, fun id h1 h2 => ?_, ?_⟩
  ·show resultsV Tryz.prog _ [_] = _
   simp [resultsV, resultV, f0, f1, f2, g0, g1]
  ·simp only [tup, closeT, close, closeVs, cl_d, List.nil_append]
  ·have k1 : ¬ n = id := by omega
   have k2 : ¬ n + 1 = id := by omega
   have k3 : ¬ o = id := fun e => h2 e.symm
   simp [k1, k2, k3]
  ·simp [f0, f1, f2, g0, g1]
theorem all419 : ∀ vs ids k, p419 vs = some (ids, k) → ∀ obs n c r, k obs n c = some r → r.all = true := by
 intro vs ids k h obs n c r hk
 unfold p419 at h
 split at h
 ·split at h
  ·simp only [Option.some.injEq, Prod.mk.injEq] at h
   obtain ⟨_, rfl⟩ := h
   simp only at hk
   split at hk
   ·split at hk
    ·cases hk; rfl
    ·cases hk
   ·cases hk
  ·cases h
 ·cases h
theorem all132 : ∀ vs ids k, p132 vs = some (ids, k) → ∀ obs n c r, k obs n c = some r → r.all = true := by
 intro vs ids k h obs n c r hk
 unfold p132 at h
 split at h
 ·split at h
  ·simp only [Option.some.injEq, Prod.mk.injEq] at h
   obtain ⟨_, rfl⟩ := h
   simp only at hk
   split at hk
   ·split at hk
    ·split at hk
     ·split at hk
      ·cases hk; rfl
      ·cases hk
     ·cases hk
    ·cases hk
   ·cases hk
  ·cases h
 ·cases h
theorem all415 : ∀ vs ids k, p415 vs = some (ids, k) → ∀ obs n c r, k obs n c = some r → r.all = true := by
 intro vs ids k h obs n c r hk
 unfold p415 at h
 split at h
 ·simp only [Option.some.injEq, Prod.mk.injEq] at h
  obtain ⟨_, rfl⟩ := h
  simp only at hk
  split at hk
  ·split at hk
   ·split at hk
    ·cases hk; rfl
    ·cases hk
   ·cases hk
  ·cases hk
 ·cases h
theorem rfr_two (I : Nat → Nat → Prop) (x y : V) (r : List V) : RFr I (x :: y :: r) = ∀ (j : Nat) (z : V), (x :: y :: r)[j]? = some z → RF I z := by cases x <;> rfl
theorem kindL_two (x y : V) (r : List V) : kindL (x :: y :: r) = 0 := by cases x <;> rfl
theorem hupd_1 (look : Look) (k : Nat) (o : Ob) (id : Nat) : hupd look [(k, o)] id = if k = id then some o else look id := by
 simp only [hupd, upd]
 by_cases e : id = k
 ·rw [if_pos e, if_pos e.symm]
 ·rw [if_neg e, if_neg (fun h => e h.symm)]
theorem ocC_rf (I : Nat → Nat → Prop) (c0 c1 c2 c3 c4 c5 c6 c7 c8 c9 c10 : V) (j k : Int) (w1 w2 z : V) (h : RFr I (ocC c0 c1 c2 c3 c4 c5 c6 c7 c8 c9 c10 j w1 w2 z)) : RFr I (ocC c0 c1 c2 c3 c4 c5 c6 c7 c8 c9 c10 k w1 w2 z) := by
 unfold ocC at h ⊢
 rw [rfr_two] at h ⊢
 intro i x hx
 by_cases e : i = 13
 ·subst e
  simp at hx; rw [← hx]; exact .d
 ·refine h i x ?_
  rw [← hx]
  match i, e with
  | 0, _ | 1, _ | 2, _ | 3, _ | 4, _ | 5, _ | 6, _ | 7, _ | 8, _ | 9, _ | 10, _ | 11, _ | 12, _ | 14, _ => rfl
  | i + 15, _ => rfl
  | 13, e => exact absurd rfl e
section
variable {s : Tx} {hd lp : List Bool}
theorem oc_eq (h : WR s hd lp) (c0 c1 c2 c3 c4 c5 c6 c7 c8 c9 c10 : V) (k : Int) (z : V) (g : Nat) : EqOb ⟨g, false, ocC c0 c1 c2 c3 c4 c5 c6 c7 c8 c9 c10 k (.d (.sym 1)) (.d (.sym 2)) z⟩ ⟨g, false, ocC c0 c1 c2 c3 c4 c5 c6 c7 c8 c9 c10 k (.d (.slice (encT hd))) (.d (.slice (encT lp))) z⟩ := by
 have e1 : EqV (.d (.sym 1)) (.d (.slice (encT hd))) := (EqD.sym (by rw [← h.eh]; rfl)).v
 have e2 : EqV (.d (.sym 2)) (.d (.slice (encT lp))) := (EqD.sym (by rw [← h.el]; rfl)).v
 refine EqOb.cells ?_ ?_ (kindL_two _ _ _) (kindL_two _ _ _)
 ·unfold ocC
  exact .cons (.refl _) (.cons (.refl _) (.cons (.refl _) (.cons (.refl _) (.cons (.refl _) (.cons (.refl _) (.cons (.refl _) (.cons (.refl _) (.cons (.refl _) (.cons (.refl _) (.cons (.refl _) (.cons e1 (.cons e2 (.cons (.refl _) (.cons (.refl _) .nil))))))))))))))
 ·intro i a b ha hb
  unfold ocC at ha hb
  match i with
  | 0 | 1 | 2 | 3 | 4 | 5 | 6 | 7 | 8 | 9 | 10 | 13 | 14 => simp at ha hb; rw [← ha, ← hb]
  | 11 | 12 => simp at ha hb; rw [← ha, ← hb]; rfl
  | i + 15 => simp at ha
theorem ent415 (h : WR s hd lp) : ∀ vs ids k, p415 vs = some (ids, k) → ∀ (hp : Hp) n c r, Tops hp n → k (ids.map hp.get) n c = some r → ∃ K vs1 hp1 r1, callR Ob.cfg (callF Tryz.prog Ob.cfg K) hp1 n c 415 vs1 = some r1 ∧ Tops hp1 n ∧ EqVs vs vs1 ∧ EqV r1.v r.v ∧ (∀ I, RF I r1.v) ∧
   (∀ id o, hupd hp1.get r1.wr id = some o → ∃ o0, hp1.get id = some o0 ∧ o0.gen = o.gen ∧ ∀ I, RFr I o0.cells → RFr I o.cells) ∧
   (∀ id o, hp1.get id = some o → ∃ q, hp.get id = some q ∧ EqOb q o) ∧ (∀ id o, hupd hp.get r.wr id = some o → ∃ q, hupd hp1.get r1.wr id = some q ∧ EqOb q o) := by
 have hl := h.len
 have hsum := prsT_sum h.prs
 intro vs ids k hv hp n c r ht hk
 unfold p415 at hv
 split at hv
 ·rename_i o g p1 p2 p3 x2
  simp only [Option.some.injEq, Prod.mk.injEq] at hv
  obtain ⟨rfl, rfl⟩ := hv
  simp only [List.map_cons, List.map_nil] at hk
  split at hk
  ·rename_i ob heq
   simp only [List.cons.injEq, and_true] at heq
   split at hk
   ·rename_i c0 c1 c2 c3 c4 c5 c6 c7 c8 c9 c10 kk z hcs
    split at hk
    ·rename_i hc
     simp only [Option.some.injEq] at hk
     subst hk
     simp only [Bool.and_eq_true, Bool.not_eq_true', decide_eq_true_eq] at hc
     obtain ⟨⟨⟨a1, a2⟩, a3⟩, a4⟩ := hc
     obtain ⟨j, rfl⟩ : ∃ j : Nat, kk = (j : Int) := ⟨kk.toNat, by omega⟩
     have eo : ob = ⟨g, false, ocC c0 c1 c2 c3 c4 c5 c6 c7 c8 c9 c10 (j : Int) (.d (.sym 1)) (.d (.sym 2)) z⟩ := by
      obtain ⟨g', ro, cs⟩ := ob
      simp only at a1 a2 hcs
      rw [Nat.eq_of_beq_eq_true a1, a2, hcs]; rfl
     rw [eo] at heq
     have ho := top_lt ht heq
     obtain ⟨o1, e1⟩ : ∃ o1 : Ob, o1 = ⟨g, false, ocC c0 c1 c2 c3 c4 c5 c6 c7 c8 c9 c10 (j : Int) (.d (.slice (encT hd))) (.d (.slice (encT lp))) z⟩ := ⟨_, rfl⟩
     obtain ⟨v, t, hlim, hv, hwl, hold, hnew⟩ := letter415 hd lp j hl.2.2 hsum (by omega) o g n c p1 p2 p3 (hp.set o o1) ho c0 c1 c2 c3 c4 c5 c6 c7 c8 c9 c10 z x2 (by rw [Hp.get_set, if_pos rfl, e1])
     obtain ⟨K, hK⟩ := lim_callF hlim
     have hbit : (if lettK hd lp j = true then (1 : Int) else 0) = GwR.bit j := by
      rw [h.bit]
      unfold lettK
      cases (hd ++ lp)[kW hd.length lp.length j]? with
      | none => rfl
      | some b => cases b <;> rfl
     have hw : (Hp.trunc n t.hp).get o = some ⟨g, false, ocC c0 c1 c2 c3 c4 c5 c6 c7 c8 c9 c10 ((j + 1 : Nat) : Int) (.d (.slice (encT hd))) (.d (.slice (encT lp))) z⟩ := by rw [Hp.get_trunc _ _ _ ho, hnew]
     refine ⟨K, [.ptr o g 0, .ptr p1 p2 p3, x2, .d (.bool true)], hp.set o o1, ⟨v, [(o, ⟨g, false, ocC c0 c1 c2 c3 c4 c5 c6 c7 c8 c9 c10 ((j + 1 : Nat) : Int) (.d (.slice (encT hd))) (.d (.slice (encT lp))) z⟩)], [], 0, t.c - c, true⟩, ?_, ?_, .refl _, ?_, ?_, ?_, ?_, ?_⟩
     ·have hcl : ∀ look : Look, closeArgs look [.ptr o g 0, .ptr p1 p2 p3, x2, .d (.bool true)] = none := fun look => by simp only [closeArgs, closeVs, closeA, close, cl_ptr]
      unfold callR
      rw [hcl]
      simp only [hK, hwl, Nat.sub_self, List.range_zero, List.map_nil, List.append_nil, wrOf, hw]
     ·intro i hi
      rw [Hp.get_set, if_neg (by omega)]
      exact ht i hi
     ·rw [hv, hbit]
      refine EqVs.agg (.cons (.refl _) (.cons (EqD.sym (k := 1000 + j) ?_).symm.v .nil))
      exact sy_bit (by omega)
     ·intro I
      rw [hv]
      exact .agg fun i x hx => by
       rcases i with _ | _ | i
       ·cases hx; exact .d
       ·cases hx; exact .d
       ·cases hx
     ·intro id q hq
      by_cases e : o = id
      ·subst e
       have : hupd (hp.set o o1).get [(o, ⟨g, false, ocC c0 c1 c2 c3 c4 c5 c6 c7 c8 c9 c10 ((j + 1 : Nat) : Int) (.d (.slice (encT hd))) (.d (.slice (encT lp))) z⟩)] o = some ⟨g, false, ocC c0 c1 c2 c3 c4 c5 c6 c7 c8 c9 c10 ((j + 1 : Nat) : Int) (.d (.slice (encT hd))) (.d (.slice (encT lp))) z⟩ := by rw [hupd_1, if_pos rfl]
       rw [this] at hq
       cases hq
       exact ⟨o1, by rw [Hp.get_set, if_pos rfl], by rw [e1], fun I hI => by rw [e1] at hI; exact ocC_rf I c0 c1 c2 c3 c4 c5 c6 c7 c8 c9 c10 _ _ _ _ _ hI⟩
      ·have : hupd (hp.set o o1).get [(o, ⟨g, false, ocC c0 c1 c2 c3 c4 c5 c6 c7 c8 c9 c10 ((j + 1 : Nat) : Int) (.d (.slice (encT hd))) (.d (.slice (encT lp))) z⟩)] id = (hp.set o o1).get id := by rw [hupd_1, if_neg e]
       rw [this] at hq
       exact ⟨q, hq, rfl, fun _ h => h⟩
     ·intro id q hq
      rw [Hp.get_set] at hq
      split at hq
      ·rename_i e
       subst e
       cases hq
       exact ⟨_, heq, by rw [e1]; exact oc_eq h c0 c1 c2 c3 c4 c5 c6 c7 c8 c9 c10 _ _ _⟩
      ·exact ⟨q, hq, .refl _⟩
     ·intro id q hq
      by_cases e : o = id
      ·subst e
       have e2 : hupd hp.get [(o, ⟨g, false, ocC c0 c1 c2 c3 c4 c5 c6 c7 c8 c9 c10 ((j : Int) + 1) (.d (.sym 1)) (.d (.sym 2)) z⟩)] o = some ⟨g, false, ocC c0 c1 c2 c3 c4 c5 c6 c7 c8 c9 c10 ((j : Int) + 1) (.d (.sym 1)) (.d (.sym 2)) z⟩ := by rw [hupd_1, if_pos rfl]
       have hq := e2.symm.trans hq
       cases hq
       exact ⟨⟨g, false, ocC c0 c1 c2 c3 c4 c5 c6 c7 c8 c9 c10 ((j + 1 : Nat) : Int) (.d (.slice (encT hd))) (.d (.slice (encT lp))) z⟩, by rw [hupd_1, if_pos rfl], (oc_eq h c0 c1 c2 c3 c4 c5 c6 c7 c8 c9 c10 _ _ _).symm⟩
      ·have e2 : hupd hp.get [(o, ⟨g, false, ocC c0 c1 c2 c3 c4 c5 c6 c7 c8 c9 c10 ((j : Int) + 1) (.d (.sym 1)) (.d (.sym 2)) z⟩)] id = hp.get id := by rw [hupd_1, if_neg e]
       have hq := e2.symm.trans hq
       refine ⟨q, ?_, .refl _⟩
       rw [← hq]
       rw [hupd_1, if_neg e, Hp.get_set, if_neg e]
    ·cases hk
   ·cases hk
  ·cases hk
 ·cases hv
end
end Go.Ac
end

section
namespace Go.Ac
def rowV (c : List UInt8) : List D := [zi 2, zi 0, zi 0, zi 0, .str c, .slice []]
def rowN (n : Nat) : List D := [zi 1, zi 0, zi 2, zi n, .str [], .slice []]
def rowW : List D := [zi 11, zi 0, zi 0, zi 0, .sym 0, .slice []]
def rows394 : List (List D) := [rowV [120], rowV [121], rowN 1, cOp 6 (rowV [120]) (rowN 1), rowN 0]
/-- The form of an expression without its arguments: of the word, and of those of the example. -/
def p394 : List V → Option V
 | [.agg es] => if beqVs es (rowW.map .d) then some (.d (zi 5)) else if rows394.any (fun r => beqVs es (r.map .d)) then some (.d (zi 0)) else none
 | _ => none
/-- The program with the text's node. -/
def nodeE : List D := [.str [102], .slice [], .slice [[.str [98], zi 1, .slice []]], .slice [], .slice [[.slice [[.str [98]]], zi 11, zi 0, zi 0, zi 0, .sym 0, .slice []]], .slice [], .slice [], .slice []]
def progE : List V := [.agg [.d (.slice []), .d (.slice [nodeE])]]
def resE5 : V := .tuple [.agg [.d (zi 0), .d (zi 0)], .d (zi 5)]
def p105 (vs : List V) : Option V := if beqVs vs progE then some resE5 else none
def primL (f : Nat) : Option PK := match f with
 | 19 => some (.std 1 16)
 | 56 => some (.std 3 32)
 | 65 => some (.std 3 48)
 | 66 => some (.std 3 32)
 | 67 => some (.std 2 32)
 | 103 => some (.std 2 40)
 | 168 => some (.std 7 96)
 | 234 => some (.std 8 88)
 | 282 => some (.std 1 24)
 | 357 => some (.std 2 24)
 | 291 => some (.std 0 0)
 | _ => none
def primE (f : Nat) : Option PK := match f with
 | 394 => some (.dat p394)
 | f => primL f
/-- The reader of a word's text: it refuses with the error er. -/
def p37e (er : Nat) : List V → Option V
 | [.d (.sym 0)] => some (.tuple [.agg [.d (.slice []), .d (.slice [])], .d (zi er)])
 | _ => none
def primF (er : Nat) (f : Nat) : Option PK := match f with
 | 105 => some (.dat p105)
 | 37 => some (.dat (p37e er))
 | f => primE f
def ownT (_ : Nat) : Bool := true
def cfgE : Cfg := { prim := primE, thr := thrB, own := ownT, fz := fun _ _ => (false, false), keep := fun _ _ => none, mat := fun _ _ => [] }
def cfgF (er : Nat) : Cfg := { prim := primF er, thr := thrB, own := ownT, fz := fun _ _ => (false, false), keep := fun _ _ => none, mat := fun _ _ => [] }
def cfgL : Cfg := { prim := primL, thr := thrB, own := ownT, fz := fun _ _ => (false, false), keep := fun _ _ => none, mat := fun _ _ => [] }
end Go.Ac
end

section
namespace Go.Ac.Gw
open Go Go.Ac Go.Proofs
def i (n : Nat) : D := .int .i64 (.ofNat n)
def s (l : List Nat) : D := .str (l.map UInt8.ofNat)
def s0 : D := .str []
def l0 : D := .slice []
def q (v : V) (c : Nat) : CR := ⟨v, [], 0, c, []⟩
def d0 : D := .slice [[(s [98]),(i 1),l0]]
def d1 : D := .slice [[(s [98])]]
def d2 : D := .slice [[(i 4),d1,(i 0),(i 0),(i 0),(i 0),s0,l0,(i 0),(.sym 0),l0,s0,l0]]
def E0 : Ent := ⟨12,[(.agg [(.d (s [102])),(.d l0),(.d d0),(.d l0),(.d d2)])],(q (.d (.bool true)) 11)⟩
def d3 : D := s [109,95,49]
def d4 : D := .slice [[d3,(i 2),(i 0)]]
def d5 : D := .slice [[(i 1),(s [98]),(i 0),(.sym 10),(i 0),(.sym 11),(.sym 12),s0,(.sym 13),l0,l0,l0],[(i 2),d3,(i 0),(i 4),(i 0),(i 0),(i 0),s0,(.slice [[(i 3),(i 11),(i 0),(i 0),s0,(.slice [[(i 12),(i 0),(i 0),(i 0),d3,l0],[(i 1),(i 0),(i 2),(.sym 14),s0,l0]])],[(i 1),(i 0),(i 2),(.sym 15),s0,l0],[(i 3),(i 6),(i 0),(i 0),s0,(.slice [[(i 12),(i 0),(i 0),(i 0),d3,l0],[(i 1),(i 0),(i 2),(i 1),s0,l0]])]]),l0,l0,l0]]
def E1 : Ent := ⟨5,[(.agg [(.d (s [102])),(.d l0),(.d d0),(.d l0),(.d d2)])],(q (.tuple [(.agg [(.d (s [102])),(.d l0),(.d d0),(.d l0),(.d d4),(.d l0),(.d d5)]),(.d (i 0))]) 18)⟩
def d6 : D := .slice [[(s [102]),l0,d0,l0,d2]]
def d7 : D := .slice [[d1,(i 11),(i 0),(i 0),(i 0),(.sym 0),l0]]
def d8 : D := .slice [[(s [102]),l0,d0,l0,d7,l0,l0,l0]]
def E2 : Ent := ⟨8,[(.agg [(.d l0),(.d d6)])],(q (.agg [(.d l0),(.d d8)]) 15)⟩
def E3 : Ent := ⟨105,[(.agg [(.d l0),(.d d8)])],(q (.tuple [(.agg [(.d (i 0)),(.d (i 0))]),(.d (i 0))]) 10)⟩
def E4 : Ent := ⟨96,[(.agg [(.d l0),(.d d8)])],(q (.tuple [(.agg [(.d (i 0)),(.d (i 0))]),(.d (i 0))]) 41)⟩
def E5 : Ent := ⟨45,[(.agg [(.d l0),(.d d8)])],(q (.tuple [(.agg [(.d (i 0)),(.d (i 0))]),(.d (i 0))]) 6)⟩
def E6 : Ent := ⟨46,[(.agg [(.d l0),(.d d8)])],(q (.tuple [(.agg [(.d l0),(.d d8)]),(.d (i 0))]) 33)⟩
def E7 : Ent := ⟨47,[(.agg [(.d l0),(.d d8)])],(q (.tuple [(.agg [(.d (i 0)),(.d (i 0))]),(.d (i 0))]) 4)⟩
def E8 : Ent := ⟨48,[(.agg [(.d l0),(.d d8)])],(q (.tuple [(.agg [(.d (i 0)),(.d (i 0))]),(.d (i 0))]) 4)⟩
def d9 : D := .slice [[(s [102]),l0,d0,l0,d4,l0,d5]]
def E9 : Ent := ⟨6,[(.agg [(.d l0),(.d d6)])],(q (.tuple [(.agg [(.d l0),(.d d9)]),(.d (i 0))]) 22)⟩
def E10 : Ent := ⟨21,[(.agg [(.d l0),(.d d8)]),(.d (s [102]))],⟨(.tuple [(.ptr 5 5 0),(.d (i 0))]),[(0,⟨0,false,[(.d l0),(.d d8)]⟩),(1,⟨1,false,[(.d (i 0)),(.d (i 0))]⟩),(2,⟨2,false,[(.d l0),(.d d8)]⟩),(3,⟨3,false,[(.d (i 0)),(.d (i 0))]⟩),(4,⟨4,false,[(.d (i 0)),(.d (i 0))]⟩),(5,⟨5,false,[(.d l0),(.d d8),(.d (i 0)),(.ptr 15 15 0),(.d (i 0)),(.con (.map none)),(.d (i 0)),(.d (i 0)),(.d (i 0)),(.d (i 0))]⟩),(6,⟨6,false,[(.d l0),(.d d8)]⟩),(7,⟨7,false,[(.d (s [102])),(.d l0),(.d d0),(.d l0),(.d d7),(.d l0),(.d l0),(.d l0)]⟩),(8,⟨8,false,[(.d l0),(.d d8)]⟩),(9,⟨9,false,[(.d d1),(.d (i 11)),(.d (i 0)),(.d (i 0)),(.d (i 0)),(.d (.sym 0)),(.d l0)]⟩),(10,⟨10,false,[(.d l0),(.d d8)]⟩),(11,⟨11,false,[(.d (i 11)),(.d (i 0)),(.d (i 0)),(.d (i 0)),(.d (.sym 0)),(.d l0)]⟩),(12,⟨12,false,[(.d (i 11)),(.d (i 0)),(.d (i 0)),(.d (i 0)),(.d (.sym 0)),(.d l0),(.full []),(.fn 415 []),(.d (.bool false)),(.d (i 0)),(.d (i 0)),(.d (.sym 1)),(.d (.sym 2)),(.d (i 0)),(.con (.pointer none))]⟩),(13,⟨13,false,[(.ptr 12 12 0)]⟩),(14,⟨14,false,[(.ptr 12 12 0)]⟩),(15,⟨15,false,[(.d (i 0)),(.osl 14 14 0 1 1 none),(.d l0),(.full []),(.full []),(.full [])]⟩)],16,16,[]⟩⟩
def E11 : Ent := ⟨9,[(.agg [(.d l0),(.d d9)]),(.d (s [102]))],⟨(.tuple [(.ptr 4 4 0),(.d (i 0))]),[(0,⟨0,false,[(.d l0),(.d d9)]⟩),(1,⟨1,false,[(.d l0),(.d d9)]⟩),(2,⟨2,false,[(.mpc [d3] [(.d (i 0))] [0] 1)]⟩),(3,⟨3,false,[(.mpc [] [] [] 0)]⟩),(4,⟨4,false,[(.d l0),(.d (s [102])),(.d l0),(.d d0),(.d l0),(.d d4),(.d l0),(.d d5),(.mp 2 2),(.mp 3 3)]⟩),(5,⟨5,false,[(.d d3),(.d (i 2)),(.d (i 0))]⟩)],6,6,[]⟩⟩
def E12 : Ent := ⟨4,[],(q (.d (.bool true)) 1)⟩
end Go.Ac.Gw
end

section
namespace Go.Ac.Gw
open Go Go.Ac Go.Proofs
def cL : Code → Code
 | .seq a _ => a
 | c => c
def cR : Code → Code
 | .seq _ b => b
 | c => c
def cB : Code → Code
 | .block _ b => b
 | .loop b => b
 | c => c
noncomputable def bodyOf (f : Func) : Code := f.body.getD .skip
/-- The part of a round behind its condition. -/
noncomputable def round3 : Code := cR (cB (cB (cR (cL (cR (cR (cR (cR (cR (cR (cR (cR (cR (cR (cR (bodyOf Tryz.f3))))))))))))))))
noncomputable def round7 : Code := cR (cR (cB (cB (cR (cL (cR (cR (cR (cR (cR (cR (bodyOf Tryz.f7))))))))))))
/-- The letters' cells, the rows that sim.Run gives for t instants. -/
def wantC (t : Nat) : List (List D) := [[i 1, .sym (1000 + t)]]
def wantG (n : Nat) : Nat → List (List (List D))
 | 0 => []
 | t + 1 => wantC (n - (t + 1)) :: wantG n t
def wantR (t : Nat) : List (List (List D)) := wantG t t
def wantD (t : Nat) : List (List D) := (wantR t).map fun r => [.slice r]
def kS : Nat → D
 | 0 => i 0
 | t + 1 => .sym (2001 + t)
def c7 : Nat → V
 | 0 => .con (.map none)
 | t + 1 => .mp 37 (4133 + 4123 * t)
def o7 : Nat → D
 | 0 => i 0
 | _ + 1 => i 1
def S3 (N : Nat) (want : List (List D)) (t : Nat) : St := ⟨[(16, .d (i t)), (14, .ptr 13 13 0), (12, .d (.slice want)), (11, .osl 8 8 0 N 1 (some N))], [
 (0, ⟨0, true, [(.d (s [98])),(.d (i 1)),(.full [])]⟩),
 (1, ⟨1, true, [(.d (s [98]))]⟩),
 (2, ⟨2, true, [(.d (i 4)),(.osl 1 1 0 1 1 (some 1)),(.d (i 0)),(.d (i 0)),(.d (i 0)),(.d (i 0)),(.d s0),(.full []),(.d (i 0)),(.d (.sym 0)),(.full []),(.d s0),(.full [])]⟩),
 (3, ⟨3, false, [(.d (s [102])),(.full []),(.osl 0 0 0 1 3 (some 1)),(.full []),(.osl 2 2 0 1 13 (some 1))]⟩),
 (4, ⟨4, true, [(.d (s [102])),(.full []),(.osl 0 0 0 1 3 (some 1)),(.full []),(.osl 2 2 0 1 13 (some 1))]⟩),
 (5, ⟨5, false, [(.full []),(.osl 4 4 0 1 5 (some 1))]⟩),
 (6, ⟨6, false, [(.d (s [102])),(.d l0),(.d (.slice [[(s [98]),(i 1),l0]])),(.d l0),(.d (.slice [[(s [109,95,49]),(i 2),(i 0)]])),(.d l0),(.d (.slice [[(i 1),(s [98]),(i 0),(.sym 10),(i 0),(.sym 11),(.sym 12),s0,(.sym 13),l0,l0,l0],[(i 2),(s [109,95,49]),(i 0),(i 4),(i 0),(i 0),(i 0),s0,(.slice [[(i 3),(i 11),(i 0),(i 0),s0,(.slice [[(i 12),(i 0),(i 0),(i 0),(s [109,95,49]),l0],[(i 1),(i 0),(i 2),(.sym 14),s0,l0]])],[(i 1),(i 0),(i 2),(.sym 15),s0,l0],[(i 3),(i 6),(i 0),(i 0),s0,(.slice [[(i 12),(i 0),(i 0),(i 0),(s [109,95,49]),l0],[(i 1),(i 0),(i 2),(i 1),s0,l0]])]]),l0,l0,l0]]))]⟩),
 (7, ⟨7, false, [(.d l0),(.d (.slice [[(s [102]),l0,(.slice [[(s [98]),(i 1),l0]]),l0,(.slice [[(s [109,95,49]),(i 2),(i 0)]]),l0,(.slice [[(i 1),(s [98]),(i 0),(.sym 10),(i 0),(.sym 11),(.sym 12),s0,(.sym 13),l0,l0,l0],[(i 2),(s [109,95,49]),(i 0),(i 4),(i 0),(i 0),(i 0),s0,(.slice [[(i 3),(i 11),(i 0),(i 0),s0,(.slice [[(i 12),(i 0),(i 0),(i 0),(s [109,95,49]),l0],[(i 1),(i 0),(i 2),(.sym 14),s0,l0]])],[(i 1),(i 0),(i 2),(.sym 15),s0,l0],[(i 3),(i 6),(i 0),(i 0),s0,(.slice [[(i 12),(i 0),(i 0),(i 0),(s [109,95,49]),l0],[(i 1),(i 0),(i 2),(i 1),s0,l0]])]]),l0,l0,l0]])]]))]⟩),
 (8, ⟨8, true, List.replicate N (.full [])⟩),
 (9, ⟨9, false, [(.d l0),(.d (.slice [[(s [102]),l0,(.slice [[(s [98]),(i 1),l0]]),l0,(.slice [[(s [109,95,49]),(i 2),(i 0)]]),l0,(.slice [[(i 1),(s [98]),(i 0),(.sym 10),(i 0),(.sym 11),(.sym 12),s0,(.sym 13),l0,l0,l0],[(i 2),(s [109,95,49]),(i 0),(i 4),(i 0),(i 0),(i 0),s0,(.slice [[(i 3),(i 11),(i 0),(i 0),s0,(.slice [[(i 12),(i 0),(i 0),(i 0),(s [109,95,49]),l0],[(i 1),(i 0),(i 2),(.sym 14),s0,l0]])],[(i 1),(i 0),(i 2),(.sym 15),s0,l0],[(i 3),(i 6),(i 0),(i 0),s0,(.slice [[(i 12),(i 0),(i 0),(i 0),(s [109,95,49]),l0],[(i 1),(i 0),(i 2),(i 1),s0,l0]])]]),l0,l0,l0]])]]))]⟩),
 (10, ⟨10, false, [(.d l0),(.d (.slice [[(s [102]),l0,(.slice [[(s [98]),(i 1),l0]]),l0,(.slice [[(s [109,95,49]),(i 2),(i 0)]]),l0,(.slice [[(i 1),(s [98]),(i 0),(.sym 10),(i 0),(.sym 11),(.sym 12),s0,(.sym 13),l0,l0,l0],[(i 2),(s [109,95,49]),(i 0),(i 4),(i 0),(i 0),(i 0),s0,(.slice [[(i 3),(i 11),(i 0),(i 0),s0,(.slice [[(i 12),(i 0),(i 0),(i 0),(s [109,95,49]),l0],[(i 1),(i 0),(i 2),(.sym 14),s0,l0]])],[(i 1),(i 0),(i 2),(.sym 15),s0,l0],[(i 3),(i 6),(i 0),(i 0),s0,(.slice [[(i 12),(i 0),(i 0),(i 0),(s [109,95,49]),l0],[(i 1),(i 0),(i 2),(i 1),s0,l0]])]]),l0,l0,l0]])]]))]⟩),
 (11, ⟨11, false, [.mpc [.str m1] [.d (kS t)] [0] 1]⟩),
 (12, ⟨12, false, [(.mpc [] [] [] 0)]⟩),
 (13, ⟨13, false, [(.d l0),(.d (s [102])),(.d l0),(.d (.slice [[(s [98]),(i 1),l0]])),(.d l0),(.d (.slice [[(s [109,95,49]),(i 2),(i 0)]])),(.d l0),(.d (.slice [[(i 1),(s [98]),(i 0),(.sym 10),(i 0),(.sym 11),(.sym 12),s0,(.sym 13),l0,l0,l0],[(i 2),(s [109,95,49]),(i 0),(i 4),(i 0),(i 0),(i 0),s0,(.slice [[(i 3),(i 11),(i 0),(i 0),s0,(.slice [[(i 12),(i 0),(i 0),(i 0),(s [109,95,49]),l0],[(i 1),(i 0),(i 2),(.sym 14),s0,l0]])],[(i 1),(i 0),(i 2),(.sym 15),s0,l0],[(i 3),(i 6),(i 0),(i 0),s0,(.slice [[(i 12),(i 0),(i 0),(i 0),(s [109,95,49]),l0],[(i 1),(i 0),(i 2),(i 1),s0,l0]])]]),l0,l0,l0]])),(.mp 11 11),(.mp 12 12)]⟩),
 (14, ⟨14, false, [(.d (s [109,95,49])),(.d (i 2)),(.d (i 0))]⟩)], 15, 15 + 8200 * t, 0, []⟩
def H7 (t g : Nat) (L : List V) : Hp := [
 (0, ⟨0, false, [(.d l0),(.d (.slice [[(s [102]),l0,(.slice [[(s [98]),(i 1),l0]]),l0,(.slice [[(.slice [[(s [98])]]),(i 11),(i 0),(i 0),(i 0),(.sym 0),l0]]),l0,l0,l0]]))]⟩),
 (1, ⟨1, false, [(.d l0),(.d (.slice [[(s [102]),l0,(.slice [[(s [98]),(i 1),l0]]),l0,(.slice [[(.slice [[(s [98])]]),(i 11),(i 0),(i 0),(i 0),(.sym 0),l0]]),l0,l0,l0]]))]⟩),
 (2, ⟨2, false, [(.d (i 0)),(.d (i 0))]⟩),
 (3, ⟨3, false, [(.d l0),(.d (.slice [[(s [102]),l0,(.slice [[(s [98]),(i 1),l0]]),l0,(.slice [[(.slice [[(s [98])]]),(i 11),(i 0),(i 0),(i 0),(.sym 0),l0]]),l0,l0,l0]]))]⟩),
 (4, ⟨4, false, [(.d (i 0)),(.d (i 0))]⟩),
 (5, ⟨5, false, [(.d (i 0)),(.d (i 0))]⟩),
 (6, ⟨6, false, [(.d l0),(.d (.slice [[(s [102]),l0,(.slice [[(s [98]),(i 1),l0]]),l0,(.slice [[(.slice [[(s [98])]]),(i 11),(i 0),(i 0),(i 0),(.sym 0),l0]]),l0,l0,l0]])),(.d (i 0)),(.ptr 16 16 0),(.d (i t)),(c7 t),(.d (o7 t)),(.d (o7 t)),(.d (o7 t)),(.d (o7 t))]⟩),
 (7, ⟨7, false, [(.d l0),(.d (.slice [[(s [102]),l0,(.slice [[(s [98]),(i 1),l0]]),l0,(.slice [[(.slice [[(s [98])]]),(i 11),(i 0),(i 0),(i 0),(.sym 0),l0]]),l0,l0,l0]]))]⟩),
 (8, ⟨8, false, [(.d (s [102])),(.d l0),(.d (.slice [[(s [98]),(i 1),l0]])),(.d l0),(.d (.slice [[(.slice [[(s [98])]]),(i 11),(i 0),(i 0),(i 0),(.sym 0),l0]])),(.d l0),(.d l0),(.d l0)]⟩),
 (9, ⟨9, false, [(.d l0),(.d (.slice [[(s [102]),l0,(.slice [[(s [98]),(i 1),l0]]),l0,(.slice [[(.slice [[(s [98])]]),(i 11),(i 0),(i 0),(i 0),(.sym 0),l0]]),l0,l0,l0]]))]⟩),
 (10, ⟨10, false, [(.d (.slice [[(s [98])]])),(.d (i 11)),(.d (i 0)),(.d (i 0)),(.d (i 0)),(.d (.sym 0)),(.d l0)]⟩),
 (11, ⟨11, false, [(.d l0),(.d (.slice [[(s [102]),l0,(.slice [[(s [98]),(i 1),l0]]),l0,(.slice [[(.slice [[(s [98])]]),(i 11),(i 0),(i 0),(i 0),(.sym 0),l0]]),l0,l0,l0]]))]⟩),
 (12, ⟨12, false, [(.d (i 11)),(.d (i 0)),(.d (i 0)),(.d (i 0)),(.d (.sym 0)),(.d l0)]⟩),
 (13, ⟨13, false, [(.d (i 11)),(.d (i 0)),(.d (i 0)),(.d (i 0)),(.d (.sym 0)),(.d l0),(.full []),(.fn 415 []),(.d (.bool false)),(.d (i 0)),(.d (i 0)),(.d (.sym 1)),(.d (.sym 2)),(.d (i t)),(.con (.pointer none))]⟩),
 (14, ⟨14, false, [(.ptr 13 13 0)]⟩),
 (15, ⟨15, false, [(.ptr 13 13 0)]⟩),
 (16, ⟨16, false, [(.d (i 0)),(.osl 15 15 0 1 1 none),(.d l0),(.full []),(.full []),(.full [])]⟩),
 (17, ⟨g, false, L⟩)]
def S7 (N : Nat) (rows : List (List D)) (t g : Nat) (L : List V) : St := ⟨[(32, .d (i t)), (31, .d (i N)), (30, .d (.slice rows)), (11, .mv 22 (.ptr 6 6 0)), (10, .osl 17 g 0 t 1 none)], H7 t g L, 18, 18 + 4123 * t, 0, []⟩
/-- Behind the condition of a round. -/
def S3c (N : Nat) (want : List (List D)) (t : Nat) : St := { S3 N want t with env := [(16, .d (i t)), (14, .ptr 13 13 0), (12, .d (.slice want)), (11, .osl 8 8 0 N 1 (some N)), (100, .d (.bool true))] }
def S7c (N : Nat) (rows : List (List D)) (t g : Nat) (L : List V) : St := ⟨[(32, .d (i t)), (31, .d (i N)), (30, .d (.slice rows)), (11, .mv 22 (.ptr 6 6 0)), (10, .osl 17 g 0 t 1 none), (33, .d (.bool true))], H7 t g L, 18, 18 + 4123 * t, 0, []⟩
/-- The first three regions of sim.Run's round: the step. -/
noncomputable def r7a : Code := cL (cB (cL round7))
noncomputable def r7b : Code := cL (cR (cB (cL round7)))
noncomputable def r7c : Code := cL (cR (cR (cB (cL round7))))
noncomputable def pre7 : Code := .seq r7a (.seq r7b r7c)
/-- The slots behind them. -/
def ev7 (N : Nat) (rows : List (List D)) (t g : Nat) : Env := [(32, .d (i t)), (31, .d (i N)), (30, .d (.slice rows)), (11, .mv 22 (.ptr 6 6 0)), (10, .osl 17 g 0 t 1 none), (14, .osl 42 (4138 + 4123 * t) 0 1 2 none), (43, .d (.bool false))]
def row7 (t : Nat) : Ob := ⟨4138 + 4123 * t, false, [.d (i 1), .d (.sym (1000 + t))]⟩
def q7 (t : Nat) : Option (Ex × St) → Bool × List V × Hp
 | some (.normal, ⟨[(k0, a), (k1, b), (k2, r), (k3, m), (k4, o), (k5, w), (k6, x)], hp, n, c, n0, wl⟩) =>
  (beqNs [k0, k1, k2, k3, k4, k5, k6] [32, 31, 30, 11, 10, 14, 43] && beqVs [a, m, w, x] [.d (i t), .mv 22 (.ptr 6 6 0), .osl 42 (4138 + 4123 * t) 0 1 2 none, .d (.bool false)] && beqHp ((Hp.trunc 18 hp).take 17) ((H7 (t + 1) 0 []).take 17) &&
   (match hp.get 42 with | some ob => beqO ob (row7 t) | none => false) && Nat.beq n 43 && Nat.beq c (4139 + 4123 * t) && Nat.beq n0 0 && wl.isEmpty, [b, r, o], List.drop 17 (Hp.trunc 18 hp))
 | _ => (false, [], [])
def noT : Tab := fun _ _ => none
/-- What a round leaves, cut at its head's names. -/
def qS (n c : Nat) : Option (Ex × St) → Env × Hp × Bool
 | some (.normal, u) => (u.env, Hp.trunc n u.hp, Nat.beq u.c c && Nat.beq u.n0 0 && u.wl.isEmpty)
 | _ => ([], [], false)
section
variable [GwR]
/-- A round of the law's loop; of sim.Run's. -/
def R3 (t : Nat) : Prop := ∀ (N : Nat) (rest : List (List D)), qS 15 (15 + 8200 * (t + 1)) (execQ noT Tryz.prog cfg2 2000 3 round3 (S3c N (wantD (t + 1) ++ rest) t)) = ((S3 N (wantD (t + 1) ++ rest) (t + 1)).env, (S3 N (wantD (t + 1) ++ rest) (t + 1)).hp, true)
def R7 (t : Nat) : Prop := ∀ (N g : Nat) (rest : List (List D)) (L : List V), q7 t (execQ noT Tryz.prog cfg2 2000 7 pre7 (S7c N (List.replicate (t + 1) [.slice []] ++ rest) t g L)) = (true, [.d (i N), .d (.slice (List.replicate (t + 1) [.slice []] ++ rest)), .osl 17 g 0 t 1 none], [(17, ⟨g, false, L⟩)])
end
end Go.Ac.Gw
end

section
namespace Go.Ac
open Go.Proofs
theorem execQ_seq [Gl] {P : Program} {cfg : Cfg} {T : Tab} (k : Nat) (fid : FuncId) (a b : Code) (s : St) : execQ T P cfg (k + 1) fid (.seq a b) s = (match execQ T P cfg k fid a s with
 | some (.normal, s) => execQ T P cfg k fid b s
 | r => r) := rfl
theorem WP.run3 [Gl] {P : Program} {cfg : Cfg} {T : Tab} (hT : TabOK P cfg T) (k : Nat) {fid : FuncId} {a b c d : Code} {s : St} {Q : Ex → St → Prop} (h : isN (execQ T P cfg (k + 2) fid (.seq a (.seq b c)) s) = true)
  (hq : WP P cfg fid d (stQ s (execQ T P cfg (k + 2) fid (.seq a (.seq b c)) s)) Q) : WP P cfg fid (.seq a (.seq b (.seq c d))) s Q := by
 simp only [execQ_seq] at h hq
 cases ha : execQ T P cfg (k + 1) fid a s with
 | none => rw [ha] at h; cases h
 | some r =>
  obtain ⟨e, u⟩ := r
  rw [ha] at h hq
  cases e with
  | ret => cases h
  | exit i => cases h
  | normal =>
   simp only at h hq
   cases hb : execQ T P cfg k fid b u with
   | none => rw [hb] at h; cases h
   | some r =>
    obtain ⟨e, v⟩ := r
    rw [hb] at h hq
    cases e with
    | ret => cases h
    | exit i => cases h
    | normal =>
     simp only at h hq
     cases hc : execQ T P cfg k fid c v with
     | none => rw [hc] at h; cases h
     | some r =>
      obtain ⟨e, x⟩ := r
      rw [hc] at h hq
      cases e with
      | ret => cases h
      | exit i => cases h
      | normal =>
       exact .seq ⟨_, _, execQ_runs hT _ _ _ _ _ _ ha, .seq ⟨_, _, execQ_runs hT _ _ _ _ _ _ hb, .seq ⟨_, _, execQ_runs hT _ _ _ _ _ _ hc, hq⟩⟩⟩
theorem noT_ok [Gl] {P : Program} {cfg : Cfg} : TabOK P cfg Gw.noT := fun _ _ _ h => by cases h
theorem trunc_set_ge {n k : Nat} (hk : n ≤ k) (o : Ob) : ∀ h : Hp, Hp.trunc n (h.set k o) = Hp.trunc n h
 | [] => by
  have : Nat.blt k n = false := by rw [Bool.eq_false_iff]; intro h; rw [Nat.blt_eq] at h; omega
  simp only [Hp.set, Hp.trunc, this]
 | (j, p) :: r => by
  have e : Nat.blt k n = false := by rw [Bool.eq_false_iff]; intro h; rw [Nat.blt_eq] at h; omega
  cases hb : Nat.beq j k with
  | true =>
   have : j = k := Nat.eq_of_beq_eq_true hb
   subst this
   simp only [Hp.set, hb, Hp.trunc, e]
  | false => simp only [Hp.set, hb, Hp.trunc, trunc_set_ge hk o r]
theorem trunc_set_lt {n k : Nat} (hk : k < n) (o : Ob) : ∀ h : Hp, Hp.trunc n (h.set k o) = (Hp.trunc n h).set k o
 | [] => by
  have : Nat.blt k n = true := by rw [Nat.blt_eq]; exact hk
  simp only [Hp.set, Hp.trunc, this]
 | (j, p) :: r => by
  have e : Nat.blt k n = true := by rw [Nat.blt_eq]; exact hk
  cases hb : Nat.beq j k with
  | true =>
   have : j = k := Nat.eq_of_beq_eq_true hb
   subst this
   simp only [Hp.set, hb, Hp.trunc, e]
  | false =>
   cases hj : Nat.blt j n with
   | true => simp only [Hp.set, hb, Hp.trunc, hj, trunc_set_lt hk o r]
   | false => simp only [Hp.set, hb, Hp.trunc, hj, trunc_set_lt hk o r]
namespace Gw
theorem wantG_eq (n : Nat) : ∀ t, t ≤ n → wantG n t = (List.range' (n - t) t).map wantC
 | 0, _ => rfl
 | t + 1, h => by
  rw [wantG, wantG_eq n t (by omega), List.range'_succ, List.map_cons, show n - (t + 1) + 1 = n - t by omega]
theorem wantR_eq (t : Nat) : wantR t = (List.range t).map wantC := by
 unfold wantR
 rw [wantG_eq t t (Nat.le_refl _), Nat.sub_self, List.range_eq_range']
theorem wantR_succ (t : Nat) : wantR (t + 1) = wantR t ++ [wantC t] := by
 rw [wantR_eq, wantR_eq, List.range_succ, List.map_append]; rfl
theorem wantR_len (t : Nat) : (wantR t).length = t := by rw [wantR_eq]; simp
theorem wantD_len (t : Nat) : (wantD t).length = t := by unfold wantD; rw [List.length_map, wantR_len]
theorem wantD_take {t N : Nat} (h : t ≤ N) : wantD N = wantD t ++ (wantD N).drop t := by
 have e : wantD t = (wantD N).take t := by
  unfold wantD
  rw [wantR_eq, wantR_eq, ← List.map_take, ← List.map_take, List.take_range, Nat.min_eq_left h]
 rw [e, List.take_append_drop]
theorem wantR_row (t : Nat) : ∀ r ∈ wantD t, r.length = 1 := by
 intro r hr
 obtain ⟨x, _, rfl⟩ := List.mem_map.1 hr
 rfl
theorem rep_take {α : Type} (x : α) {t N : Nat} (h : t ≤ N) : List.replicate N x = List.replicate t x ++ List.replicate (N - t) x := by
 rw [List.replicate_append_replicate]; congr 1; omega
/-- From one number to the next. -/
theorem upS {p : Nat → Prop} {n : Nat} (h : ∀ t, t < n → p t) (hn : p n) : ∀ t, t < n + 1 → p t := by
 intro t ht
 rcases Nat.lt_or_ge t n with h1 | h1
 ·exact h t h1
 ·have : t = n := by omega
  subst this; exact hn
theorem up0 {p : Nat → Prop} : ∀ t, t < 0 → p t := fun _ h => absurd h (Nat.not_lt_zero _)
end Gw
end Go.Ac
end

section
set_option maxRecDepth 8000
set_option linter.unusedSectionVars false
namespace Go.Ac
open Go.Proofs
variable [GwR]
attribute [local simp] Hp.get_set get_trunc_lt
theorem kn394 (r : Nat) : Ob.keep 394 r = none := by kernel_rfl
attribute [local simp] kn394
def wordX (s : Tx) : X := .mk 11 0 0 0 s []
set_option maxHeartbeats 4000000 in
theorem one394 (s : Tx) (hs : s.length ≤ 8388608) (he : (prsT s).2 ≠ 0) : den Tryz.prog Ob.cfg 394 [aG (wordX s).cells] = some (dI 5) := by
 by_cases h0 : s = []
 ·subst h0
  exact den_t 100000 (by kernel_rfl)
 have h37 := parse30 s hs
 obtain ⟨e, he2⟩ : ∃ e, (prsT s).2 = e := ⟨_, rfl⟩
 rw [he2] at h37 he
 obtain ⟨hd, hhd⟩ : ∃ x, (prsT s).1.1 = x := ⟨_, rfl⟩
 obtain ⟨lp, hlp⟩ : ∃ x, (prsT s).1.2 = x := ⟨_, rfl⟩
 rw [hhd, hlp] at h37
 simp only [aW, dS, dI] at h37
 have e0 := eq_false he
 have s0 := eq_false h0
 refine den_wp Tryz.func394 rfl (by kernel_rfl) rfl rfl ?_
 refine WP.seq (WP.run noT_ok 2000 (by kernel_rfl) ?_)
 refine WP.seq (WP.run noT_ok 2000 (by kernel_rfl) ?_)
 refine WP.seq (WP.run noT_ok 2000 (by kernel_rfl) ?_)
 refine WP.seq (WP.run noT_ok 2000 (by kernel_rfl) ?_)
 refine WP.seq (WP.block (WP.seq (WP.block (WP.seq (WP.run noT_ok 2000 (by kernel_rfl) ?_)))))
 generalize hσ : stQ _ _ = σ
 have g1 : σ.env.get 1 = .ptr 0 0 0 := by rw [← hσ]; kernel_rfl
 have g0 : σ.hp.get 0 = some ⟨0, false, [.d (.int .i64 11), .d (.int .i64 0), .d (.int .i64 0), .d (.int .i64 0), .d (.str s), .d (.slice [])]⟩ := by rw [← hσ]; kernel_rfl
 have gn : σ.n = 2 := by rw [← hσ]; kernel_rfl
 have gz : σ.n0 = 0 := by rw [← hσ]; kernel_rfl
 have gw : σ.wl = [] := by rw [← hσ]; kernel_rfl
 clear hσ
 obtain ⟨env, hp, n, c, n0, wl⟩ := σ
 simp only at g1 g0 gn gz gw
 subst gn; subst gz; subst gw
 show WP _ _ _ _ _ _
 refine wkc (jn @g1 (jn @g0 (jn @h37 (jn @e0 (jn @s0 (jn @fillV.eq_1 (jn @fillV.eq_2 (jn @tx_beq @int_beq)))))))) ?_
 show retQ _ _ _ _ _
 exact ⟨.inr rfl, _, _, rfl, rfl⟩
theorem rows_ok : ∀ r, r ∈ rows394 → den Tryz.prog Ob.cfg 394 [.agg (r.map .d)] = some (.d (zi 0)) := by
 intro r hr
 simp only [rows394, List.mem_cons, List.not_mem_nil, or_false] at hr
 rcases hr with rfl | rfl | rfl | rfl | rfl
 ·exact den_t 100000 (by kernel_rfl)
 ·exact den_t 100000 (by kernel_rfl)
 ·exact den_t 100000 (by kernel_rfl)
 ·exact den_t 100000 (by kernel_rfl)
 ·exact den_t 100000 (by kernel_rfl)
theorem ent394 {s : Tx} (hs : GwR.s = s) (he : (prsT s).2 ≠ 0) (hl : s.length ≤ 8388608) : ∀ vs v, p394 vs = some v → ∃ vs1 v1, DatOK Tryz.prog Ob.cfg 394 vs v vs1 v1 := by
 intro vs v hv
 unfold p394 at hv
 split at hv
 ·split at hv
  ·rename_i hr
   cases hv
   have := beqVs_ok _ _ hr
   subst this
   refine ⟨_, _, one394 s hl he, ?_, ?_, ?_, .refl _⟩
   ·simp only [closeArgs, closeVs, closeA, close, aG, cl_ds, List.nil_append]
   ·simp only [closeT, cl_dd, dI]; rfl
   ·refine .cons (EqVs.agg ?_) .nil
    refine EqDs.vs (.cons (.refl _) (.cons (.refl _) (.cons (.refl _) (.cons (.refl _) (.cons (EqD.sym (k := 0) ?_) (.cons (.refl _) .nil))))))
    rw [← hs]; rfl
  ·split at hv
   ·rename_i hr
    cases hv
    obtain ⟨r, hm, hb⟩ := List.any_eq_true.1 hr
    have := beqVs_ok _ _ hb
    subst this
    refine ⟨_, _, rows_ok r hm, ?_, ?_, .refl _, .refl _⟩
    ·simp only [closeArgs, closeVs, closeA, close, cl_ds, List.nil_append]
    ·simp only [closeT, cl_dd]; rfl
   ·cases hv
 ·cases hv
end Go.Ac
end
