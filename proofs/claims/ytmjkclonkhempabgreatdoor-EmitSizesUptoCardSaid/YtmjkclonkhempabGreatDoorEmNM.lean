/- Forms of expressions and statements, types of operators: the reference's. -/
import Derived.Test.YtmjkclonkhempabGreatDoorEmLM
set_option linter.unusedVariables false
set_option linter.unusedSimpArgs false
section
set_option maxRecDepth 4000
namespace Go.Ac
open Go.Proofs

/-! ### Rows laid flat -/
def fl (l : List (List D)) : List V := l.flatten.map .d
theorem toDs_d (look : Look) (f : Nat) : ∀ l : List D, toDs (toD look f) (l.map V.d) = some (l, [])
 | [] => rfl
 | x :: r => by
  have h1 := toDs_d look f r
  simp only [List.map_cons, toDs, h1, toD_d]; rfl
theorem chunk_flat {sz : Nat} : ∀ {l : List (List D)}, (∀ r ∈ l, r.length = sz) → chunk sz l.length l.flatten = l
 | [], _ => rfl
 | r :: l, h => by
  have h1 := h r (by simp)
  have ih := chunk_flat (l := l) (fun x hx => h x (by simp [hx]))
  simp only [List.length_cons, List.flatten_cons, chunk]
  rw [List.take_append_of_le_length (by omega), List.drop_append_of_le_length (by omega), ← h1, List.take_length, List.drop_length, List.nil_append, h1, ih]
theorem flat_len {sz : Nat} : ∀ {l : List (List D)}, (∀ r ∈ l, r.length = sz) → l.flatten.length = l.length * sz
 | [], _ => by simp
 | r :: l, h => by
  have h1 := h r (by simp)
  have ih := flat_len (l := l) (fun x hx => h x (by simp [hx]))
  simp [ih, h1, Nat.add_mul]; omega
theorem fl_len {sz : Nat} {l : List (List D)} (h : ∀ r ∈ l, r.length = sz) : (fl l).length = l.length * sz := by unfold fl; rw [List.length_map, flat_len h]
theorem fl_take {sz : Nat} {l : List (List D)} (h : ∀ r ∈ l, r.length = sz) : (fl l).take (l.length * sz) = fl l := by rw [← fl_len h, List.take_length]
theorem rows_fl (look : Look) {sz : Nat} {l : List (List D)} (h : ∀ r ∈ l, r.length = sz) : rowsOf look sz (.d (.slice l)) = some (l.length, fl l, []) := by
 have : l.all (fun r => Nat.beq r.length sz) = true := by rw [List.all_eq_true]; intro r hr; rw [h r hr]; exact nbeq_self sz
 simp only [rowsOf, this, if_true]; rfl
theorem toDs_fl (look : Look) (f : Nat) (l : List (List D)) : toDs (toD look f) (fl l) = some (l.flatten, []) := toDs_d look f _
theorem fl_snoc (l : List (List D)) (r : List D) : fl l ++ r.map .d = fl (l ++ [r]) := by unfold fl; simp
theorem encP_row (l : List Pr) : ∀ r ∈ encP l, r.length = 2 := by unfold encP; intro r hr; obtain ⟨x, _, rfl⟩ := List.mem_map.1 hr; rfl
theorem encP_snoc (l : List Pr) (p : Pr) : encP l ++ [p.cells] = encP (l ++ [p]) := by unfold encP; simp

theorem close_fl {look : Look} {id g sz : Nat} {ro : Bool} {l : List (List D)} {cap : Option Nat} (h : ∀ r ∈ l, r.length = sz) (hl : look id = some ⟨g, ro, fl l⟩) : closeT look (.osl id g 0 l.length sz cap) = some (dL l, [id]) := by
 show ofD (toD look depthD _) = _
 rw [toD_dep]
 have : live look id g = some ⟨g, ro, fl l⟩ := by simp [live, hl]
 rw [this]
 simp only [Nat.zero_add, List.drop_zero, fl_len h, fl_take h, toDs_fl, chunk_flat h, nble_d, Nat.le_refl, decide_true]
 rfl

theorem kf79 (r : Nat) : Ob.keep 79 r = Ob.k79 r := by kernel_rfl
theorem kf30 (r : Nat) : Ob.keep 30 r = Ob.k30 r := by kernel_rfl
theorem kf49 (r : Nat) : Ob.keep 49 r = Ob.k49 r := by kernel_rfl
attribute [local simp] kf79 Ob.k79 kf30 Ob.k30 kf49 Ob.k49
set_option maxHeartbeats 1000000 in
theorem inside121 (cx : List Pr) (nm : Tx) (k : Nat) (hl : cx.length ≤ 16777216) : den Tryz.prog Ob.cfg 79 [dL (encP cx), dS nm, dI k] = some (dL (encP (cx ++ [⟨nm, k⟩]))) := by
 have r1 := fun look => rows_fl look (encP_row cx)
 have r2 := fl_len (encP_row cx)
 have r3 := fl_take (encP_row cx)
 have r4 := fl_snoc (encP cx) (Pr.cells ⟨nm, k⟩)
 have r5 := encP_snoc cx ⟨nm, k⟩
 have f1 : fitsB cx.length 24 = true := by simp [fitsB]; omega
 have f2 : fitsB (cx.length + 1) 24 = true := by simp [fitsB]; omega
 rw [r5] at r4
 rw [encP_len] at r2 r3
 simp only [Pr.cells, List.map_cons, List.map_nil] at r4
 refine den_wp Tryz.func79 rfl (by kernel_rfl) rfl rfl ?_
 refine wkc (jn @dL.eq_1 (jn @dS.eq_1 (jn @dI.eq_1 (jn @r1 (jn @r2 (jn @r3 (jn @r4 (jn @f1 (jn @f2 (jn @fillV.eq_1 (jn @fillV.eq_2 (jn @closeParts.eq_1 (jn @closeParts.eq_2 @nble_d))))))))))))) ?_
 have hc := fun look hl => close_fl (look := look) (id := 0) (g := 3) (ro := false) (cap := none) (encP_row (cx ++ [⟨nm, k⟩])) hl
 simp only [encP_len, List.length_append, List.length_cons, List.length_nil] at hc
 exact ⟨.inr rfl, _, [0], rfl, hc _ rfl⟩

/-! ### Assignments -/
mutual
/-- Does a statement assign x (all: on each way)? -/
def asY (x : Tx) (all : Bool) : List Pr → Y → Bool
 | cx, .mk k nm _ _ outs _ brs =>
  if k = 1 then decide (nm = x) else if k = 4 then decide (x ∈ outs) else if k = 3 then
   match cx.find? (fun p => decide (p.nm = nm)) with
   | some p => asN x all cx brs p.br
   | none => if all then decide (asC x all cx nm 0 brs = brs.length) else decide (0 < asC x all cx nm 0 brs)
  else false
def asL (x : Tx) (all : Bool) : List Pr → List Y → Bool
 | _, [] => false
 | cx, y :: r => asY x all cx y || asL x all cx r
/-- The branch with a number. -/
def asN (x : Tx) (all : Bool) : List Pr → List (List Y) → Nat → Bool
 | _, [], _ => false
 | cx, b :: _, 0 => asL x all cx b
 | cx, _ :: r, n + 1 => asN x all cx r n
/-- How many branches do. -/
def asC (x : Tx) (all : Bool) : List Pr → Tx → Nat → List (List Y) → Nat
 | _, _, _, [] => 0
 | cx, nm, k, b :: r => (if asL x all (cx ++ [⟨nm, k⟩]) b then 1 else 0) + asC x all cx nm (k + 1) r
end
theorem asY_eq (x : Tx) (all : Bool) (cx : List Pr) (y : Y) : asY x all cx y = if y.k = 1 then decide (y.nm = x) else if y.k = 4 then decide (x ∈ y.outs) else if y.k = 3 then
   match cx.find? (fun p => decide (p.nm = y.nm)) with
   | some p => asN x all cx y.brs p.br
   | none => if all then decide (asC x all cx y.nm 0 y.brs = y.brs.length) else decide (0 < asC x all cx y.nm 0 y.brs)
  else false := by cases y; rw [asY]; rfl
theorem asL_any (x : Tx) (all : Bool) (cx : List Pr) : ∀ l : List Y, asL x all cx l = l.any (asY x all cx)
 | [] => by rw [asL]; rfl
 | y :: r => by rw [asL, asL_any x all cx r]; rfl
theorem asN_at (x : Tx) (all : Bool) (cx : List Pr) : ∀ (l : List (List Y)) (n : Nat) (b : List Y), l[n]? = some b → asN x all cx l n = asL x all cx b
 | [], n, b, h => by simp at h
 | c :: r, 0, b, h => by simp at h; subst h; rw [asN]
 | c :: r, n + 1, b, h => by rw [asN]; exact asN_at x all cx r n b (by simpa using h)
theorem asN_out (x : Tx) (all : Bool) (cx : List Pr) : ∀ (l : List (List Y)) (n : Nat), l.length ≤ n → asN x all cx l n = false
 | [], n, h => by rw [asN]
 | c :: r, 0, h => by simp at h
 | c :: r, n + 1, h => by rw [asN]; exact asN_out x all cx r n (by simpa using h)
theorem asC_snoc (x : Tx) (all : Bool) (cx : List Pr) (nm : Tx) : ∀ (l : List (List Y)) (k : Nat) (b : List Y), asC x all cx nm k (l ++ [b]) = asC x all cx nm k l + (if asL x all (cx ++ [⟨nm, k + l.length⟩]) b then 1 else 0)
 | [], k, b => by simp [asC]
 | c :: r, k, b => by
  rw [List.cons_append, asC, asC, asC_snoc x all cx nm r (k + 1) b]
  simp only [List.length_cons]
  rw [show k + 1 + r.length = k + (r.length + 1) by omega]
  omega

/-- What some33 says. -/
def SomeAt (x : Tx) (all : Bool) (N : Nat) : Prop := ∀ (l : List Y) (cx : List Pr), szY l < N → cx.length + szY l ≤ 8388608 → den Tryz.prog Ob.cfg 30 [dL (encY l), dS x, dL (encP cx), dB all] = some (dB (asL x all cx l))
theorem count_le (x : Tx) (all : Bool) (cx : List Pr) (nm : Tx) : ∀ (l : List (List Y)) (k : Nat), asC x all cx nm k l ≤ l.length
 | [], k => by simp [asC]
 | b :: r, k => by rw [asC]; have := count_le x all cx nm r (k + 1); simp only [List.length_cons]; split <;> omega

set_option maxHeartbeats 4000000 in
theorem assigns77 {x : Tx} {all : Bool} {N : Nat} (h : SomeAt x all N) (y : Y) (cx : List Pr) (hy : y.sz ≤ N) (hb0 : cx.length + y.sz ≤ 8388608) : den Tryz.prog Ob.cfg 49 [aG y.cells, dS x, dL (encP cx), dB all] = some (dB (asY x all cx y)) := by
 rw [Y.sz_eq] at hy hb0
 have k1 := len_szS y.outs
 have k2 := len_szB y.brs
 have ho := has75 y.outs x (by unfold MX; omega)
 simp only [dL, dS, dB] at ho
 rw [asY_eq]
 refine den_wp Tryz.func49 rfl (by kernel_rfl) rfl rfl ?_
 by_cases q1 : y.k = 1
 ·rw [if_pos q1]
  refine wkc (jn @aG.eq_1 (jn @Y.cells_eq (jn @dL.eq_1 (jn @dS.eq_1 (jn @dB.eq_1 (jn @int_beq (jn @tx_beq @q1))))))) ?_
  show retQ _ _ _ _ _
  exact ⟨.inr rfl, _, _, rfl, rfl⟩
 rw [if_neg q1]
 by_cases q4 : y.k = 4
 ·rw [if_pos q4]
  refine wkc (jn @aG.eq_1 (jn @Y.cells_eq (jn @dL.eq_1 (jn @dS.eq_1 (jn @dB.eq_1 (jn @int_beq (jn @tx_beq (jn @q4 @ho)))))))) ?_
  show retQ _ _ _ _ _
  exact ⟨.inr rfl, _, _, rfl, rfl⟩
 rw [if_neg q4]
 by_cases q3 : y.k = 3
 case neg =>
  rw [if_neg q3]
  refine wkc (jn @aG.eq_1 (jn @Y.cells_eq (jn @dL.eq_1 (jn @dS.eq_1 (jn @dB.eq_1 (jn @int_beq (jn @q1 (jn @q4 @q3)))))))) ?_
  show retQ _ _ _ _ _
  exact ⟨.inr rfl, _, _, rfl, rfl⟩
 rw [if_pos q3]
 refine wkc (jn @aG.eq_1 (jn @Y.cells_eq (jn @dL.eq_1 (jn @dS.eq_1 (jn @dB.eq_1 (jn @int_beq @q3)))))) ?_
 apply WP.loop' (I := fun D s => ∃ j : Nat, j + D = cx.length ∧ (cx.take j).all (fun p : Pr => !decide (p.nm = y.nm)) = true ∧ SE [(1, dS x), (2, dL (encP cx)), (3, dB all), (4, .ptr 0 0 0), (9, dI j)] [(0, ⟨0, false, y.cells.map .d⟩)] 1 s) (d := cx.length)
 ·exact ⟨0, by simp, by simp, SE.mk (by simp [dI, dL, dS, dB]) (by simp [Y.cells_eq, q3])⟩
 rintro D _ ⟨j, hj, hno, cc, rfl⟩
 refine wk (jn @dI.eq_1 (jn @dL.eq_1 (jn @dS.eq_1 (jn @dB.eq_1 @Y.cells_eq)))) ?_
 show WP _ _ _ _ _ _
 refine WP.cond _ rfl (fun hb => ?_) (fun hb => ?_)
 ·simp at hb
  have hb' : j < cx.length := by omega
  obtain ⟨p, hp, hpm, hix⟩ := at_lt hb'
  have hp' := encP_at hp
  have hw := w_succ hb' (by omega)
  have hs := all_snoc (p := fun p : Pr => !decide (p.nm = y.nm)) hp
  by_cases hq : p.nm = y.nm
  case neg =>
   have hq' := eq_false hq
   refine wkc (jn @dI.eq_1 (jn @dL.eq_1 (jn @dS.eq_1 (jn @dB.eq_1 (jn @Y.cells_eq (jn @Pr.cells.eq_1 (jn @hix (jn @hp' (jn @tx_beq @hq'))))))))) ?_
   refine loop_next (by simp [hw]; exact Is.rfl) ?_
   exact ⟨D - 1, by omega, j + 1, by omega, by rw [hs, hno, decide_eq_false hq]; rfl, SE.mk (by simp [dI, dL, dS, dB, hw]) (by simp [Y.cells_eq])⟩
  have hq' := eq_true hq
  have hf := find_hit (p := fun p : Pr => decide (p.nm = y.nm)) hno hp (decide_eq_true hq)
  rw [hf]
  by_cases hlt : p.br < y.brs.length
  ·have c1 : ((p.br : Int) < y.brs.length) = True := eq_true (by omega)
   have c1' : (p.br < y.brs.length) = True := eq_true hlt
   obtain ⟨b, hb1, hbm, hib⟩ := at_lt hlt
   have hb2 := encB_at hb1
   have hr := h b cx (by have := mem_szB hbm; omega) (by have := mem_szB hbm; omega)
   have he := asN_at x all cx y.brs p.br b hb1
   simp only [he]
   simp only [dL, dS, dB] at hr
   refine wkc (jn @dI.eq_1 (jn @dL.eq_1 (jn @dS.eq_1 (jn @dB.eq_1 (jn @Y.cells_eq (jn @Pr.cells.eq_1 (jn @hix (jn @hp' (jn @tx_beq (jn @hq' (jn @hib (jn @hb2 (jn @hr @c1))))))))))))) ?_
   show retQ _ _ _ _ _
   exact ⟨.inr rfl, _, _, rfl, rfl⟩
  ·have c1 : ((p.br : Int) < y.brs.length) = False := eq_false (by omega)
   have c1' : (p.br < y.brs.length) = False := eq_false hlt
   have he := asN_out x all cx y.brs p.br (by omega)
   simp only [he]
   refine wkc (jn @dI.eq_1 (jn @dL.eq_1 (jn @dS.eq_1 (jn @dB.eq_1 (jn @Y.cells_eq (jn @Pr.cells.eq_1 (jn @hix (jn @hp' (jn @tx_beq (jn @hq' (jn @c1 @c1'))))))))))) ?_
   show retQ _ _ _ _ _
   exact ⟨.inr rfl, _, _, rfl, rfl⟩
 ·simp at hb
  have hje : j = cx.length := by omega
  rw [hje, List.take_length] at hno
  have hf := find_none (p := fun p : Pr => decide (p.nm = y.nm)) hno
  rw [hf]
  refine wkc (jn @dI.eq_1 (jn @dL.eq_1 (jn @dS.eq_1 (jn @dB.eq_1 @Y.cells_eq)))) ?_
  apply WP.loop' (I := fun D s => ∃ i n : Nat, i + D = y.brs.length ∧ n = asC x all cx y.nm 0 (y.brs.take i) ∧ SE [(1, dS x), (2, dL (encP cx)), (3, dB all), (4, .ptr 0 0 0), (10, dI n), (11, dI i)] [(0, ⟨0, false, y.cells.map .d⟩)] 1 s) (d := y.brs.length)
  ·exact ⟨0, 0, by simp, by simp [asC], SE.mk (by simp [dI, dL, dS, dB]) (by simp [Y.cells_eq])⟩
  rintro D2 _ ⟨i, n, hi, hn, cc2, rfl⟩
  refine wk (jn @dI.eq_1 (jn @dL.eq_1 (jn @dS.eq_1 (jn @dB.eq_1 @Y.cells_eq)))) ?_
  show WP _ _ _ _ _ _
  refine WP.cond _ rfl (fun hb => ?_) (fun hb => ?_)
  ·simp at hb
   have hc' : i < y.brs.length := by omega
   obtain ⟨b, hb1, hbm, hib⟩ := at_lt hc'
   have hb2 := encB_at hb1
   have hw2 := w_succ hc' (by omega)
   have hin := inside121 cx y.nm i (by omega)
   have hr := h b (cx ++ [⟨y.nm, i⟩]) (by have := mem_szB hbm; omega) (by have := mem_szB hbm; simp; omega)
   have hts : y.brs.take (i + 1) = y.brs.take i ++ [b] := take_snoc hb1
   have hcn := asC_snoc x all cx y.nm (y.brs.take i) 0 b
   rw [← hts, ← hn, List.length_take, Nat.min_eq_left (by omega), Nat.zero_add] at hcn
   have hnl := count_le x all cx y.nm (y.brs.take i) 0
   rw [← hn] at hnl
   have hnl2 : n ≤ y.brs.length := by rw [List.length_take] at hnl; omega
   have hwn : IntKind.i64.wrap ((n : Int) + 1) = ((n + 1 : Nat) : Int) := by rw [w_id'] <;> omega
   simp only [dL, dS, dB, dI] at hin hr
   cases he : asL x all (cx ++ [⟨y.nm, i⟩]) b with
   | true =>
    rw [he] at hr hcn
    refine wkc (jn @dI.eq_1 (jn @dL.eq_1 (jn @dS.eq_1 (jn @dB.eq_1 (jn @Y.cells_eq (jn @hib (jn @hb2 (jn @hin @hr)))))))) ?_
    refine loop_next (by simp [hw2, hwn]; exact Is.rfl) ?_
    exact ⟨D2 - 1, by omega, i + 1, n + 1, by omega, by rw [hcn]; simp, SE.mk (by simp [dI, dL, dS, dB, hw2, hwn]) (by simp [Y.cells_eq])⟩
   | false =>
    rw [he] at hr hcn
    refine wkc (jn @dI.eq_1 (jn @dL.eq_1 (jn @dS.eq_1 (jn @dB.eq_1 (jn @Y.cells_eq (jn @hib (jn @hb2 (jn @hin @hr)))))))) ?_
    refine loop_next (by simp [hw2]; exact Is.rfl) ?_
    exact ⟨D2 - 1, by omega, i + 1, n, by omega, by rw [hcn]; simp, SE.mk (by simp [dI, dL, dS, dB, hw2]) (by simp [Y.cells_eq])⟩
  ·simp at hb
   have hie : i = y.brs.length := by omega
   rw [hie, List.take_length] at hn
   simp only [← hn]
   cases all with
   | true =>
    by_cases hnn : n = y.brs.length
    ·have e1 : ((n : Int) = y.brs.length) = True := eq_true (by omega)
     refine wkc (jn @dI.eq_1 (jn @dL.eq_1 (jn @dS.eq_1 (jn @dB.eq_1 (jn @Y.cells_eq (jn @int_beq (jn @e1 @hnn))))))) ?_
     exact ⟨.inr rfl, _, _, rfl, by simp [hnn]; rfl⟩
    ·have e1 : ((n : Int) = y.brs.length) = False := eq_false (by omega)
     refine wkc (jn @dI.eq_1 (jn @dL.eq_1 (jn @dS.eq_1 (jn @dB.eq_1 (jn @Y.cells_eq (jn @int_beq (jn @e1 @hnn))))))) ?_
     exact ⟨.inr rfl, _, _, rfl, by simp [hnn]; rfl⟩
   | false =>
    refine wkc (jn @dI.eq_1 (jn @dL.eq_1 (jn @dS.eq_1 (jn @dB.eq_1 (jn @Y.cells_eq @int_beq))))) ?_
    exact ⟨.inr rfl, _, _, rfl, by simp; rfl⟩

set_option maxHeartbeats 1000000 in
theorem some33 (x : Tx) (all : Bool) : ∀ N, SomeAt x all N := by
 intro N
 induction N with
 | zero => intro l cx h; omega
 | succ N ih =>
 intro l cx hN hb0
 have k1 := len_szY l
 refine den_wp Tryz.func30 rfl (by kernel_rfl) rfl rfl ?_
 rw [asL_any]
 refine wkc (jn @dL.eq_1 (jn @dS.eq_1 @dB.eq_1)) ?_
 apply WP.loop' (I := fun D s => ∃ j : Nat, j + D = l.length ∧ (l.take j).all (fun y => !asY x all cx y) = true ∧ SE [(0, dL (encY l)), (1, dS x), (2, dL (encP cx)), (3, dB all), (9, dI j)] [] 0 s) (d := l.length)
 ·exact ⟨0, by simp, by simp, SE.mk (by simp [dI, dL, dS, dB]) rfl⟩
 rintro D _ ⟨j, hj, hno, cc, rfl⟩
 refine wk (jn @dI.eq_1 (jn @dL.eq_1 (jn @dS.eq_1 @dB.eq_1))) ?_
 show WP _ _ _ _ _ _
 refine WP.cond _ rfl (fun hb => ?_) (fun hb => ?_)
 ·simp at hb
  have hb' : j < l.length := by omega
  obtain ⟨y, hy, hym, hix⟩ := at_lt hb'
  have hy' := encY_at hy
  have hw := w_succ hb' (by omega)
  have hs := all_snoc (p := fun y => !asY x all cx y) hy
  have hr := assigns77 ih y cx (by have := mem_szY hym; omega) (by have := mem_szY hym; omega)
  simp only [aG, Y.cells_eq, List.map_cons, List.map_nil, dL, dS, dB] at hr
  cases he : asY x all cx y with
  | true =>
   rw [he] at hr
   have ha : l.any (asY x all cx) = true := List.any_eq_true.2 ⟨y, hym, he⟩
   rw [ha]
   refine wkc (jn @dI.eq_1 (jn @dL.eq_1 (jn @dS.eq_1 (jn @dB.eq_1 (jn @Y.cells_eq (jn @hix (jn @hy' @hr))))))) ?_
   show retQ _ _ _ _ _
   exact ⟨.inr rfl, _, _, rfl, rfl⟩
  | false =>
   rw [he] at hr hs
   refine wkc (jn @dI.eq_1 (jn @dL.eq_1 (jn @dS.eq_1 (jn @dB.eq_1 (jn @Y.cells_eq (jn @hix (jn @hy' @hr))))))) ?_
   refine loop_next (by simp [hw]; exact Is.rfl) ?_
   exact ⟨D - 1, by omega, j + 1, by omega, by rw [hs, hno]; rfl, SE.mk (by simp [dI, dL, dS, dB, hw]) rfl⟩
 ·simp at hb
  have hje : j = l.length := by omega
  rw [hje, List.take_length] at hno
  have ha : l.any (asY x all cx) = false := by
   cases hany : l.any (asY x all cx) with
   | false => rfl
   | true =>
    obtain ⟨y, hy, hye⟩ := List.any_eq_true.1 hany
    have := List.all_eq_true.1 hno y hy
    rw [hye] at this; cases this
  rw [ha]
  refine wkc (jn @dI.eq_1 (jn @dL.eq_1 (jn @dS.eq_1 @dB.eq_1))) ?_
  show retQ _ _ _ _ _
  exact ⟨.inr rfl, _, _, rfl, rfl⟩
end Go.Ac
end

section
set_option maxRecDepth 4000
namespace Go.Ac
open Go.Proofs

def zeroE (x : X) : Bool := decide (x.k = 0) && decide (x.o = 0) && decide (x.t = 0) && decide (x.v = 0) && decide (x.nm = []) && decide (x.args = [])
theorem len0 {α : Type} (l : List α) : ((l.length : Int) = 0) = (l = []) := by cases l <;> simp; omega
theorem dFalse {p : Prop} [Decidable p] (h : ¬ p) : decide p = false := decide_eq_false h
theorem dTrue {p : Prop} [Decidable p] (h : p) : decide p = true := decide_eq_true h
theorem kf100 (r : Nat) : Ob.keep 100 r = Ob.k100 r := by kernel_rfl
theorem kf118 (r : Nat) : Ob.keep 118 r = Ob.k118 r := by kernel_rfl
theorem kf131 (r : Nat) : Ob.keep 131 r = Ob.k131 r := by kernel_rfl
theorem kf132 (r : Nat) : Ob.keep 132 r = Ob.k132 r := by kernel_rfl
theorem kf133 (r : Nat) : Ob.keep 133 r = Ob.k133 r := by kernel_rfl
attribute [local simp] kf100 Ob.k100 kf118 Ob.k118 kf131 Ob.k131 kf132 Ob.k132 kf133 Ob.k133
set_option maxHeartbeats 1000000 in
theorem zero142 (x : X) : den Tryz.prog Ob.cfg 100 [aG x.cells] = some (dB (zeroE x)) := by
 refine den_wp Tryz.func100 rfl (by kernel_rfl) rfl rfl ?_
 unfold zeroE
 rw [X.cells_eq]
 by_cases c0 : x.k = 0
 case neg =>
  have c' := eq_false c0
  rw [dFalse c0]
  refine wkc (jn @aG.eq_1 (jn @int_beq (jn @tx_beq (jn @len0 @c')))) ?_
  exact ⟨.inr rfl, _, _, rfl, by simp; rfl⟩
 by_cases c1 : x.o = 0
 case neg =>
  have c' := eq_false c1
  rw [dFalse c1]
  refine wkc (jn @aG.eq_1 (jn @int_beq (jn @tx_beq (jn @len0 (jn @c0 @c'))))) ?_
  exact ⟨.inr rfl, _, _, rfl, by simp; rfl⟩
 by_cases c2 : x.t = 0
 case neg =>
  have c' := eq_false c2
  rw [dFalse c2]
  refine wkc (jn @aG.eq_1 (jn @int_beq (jn @tx_beq (jn @len0 (jn @c0 (jn @c1 @c')))))) ?_
  exact ⟨.inr rfl, _, _, rfl, by simp; rfl⟩
 by_cases c3 : x.v = 0
 case neg =>
  have c' := eq_false c3
  rw [dFalse c3]
  refine wkc (jn @aG.eq_1 (jn @int_beq (jn @tx_beq (jn @len0 (jn @c0 (jn @c1 (jn @c2 @c'))))))) ?_
  exact ⟨.inr rfl, _, _, rfl, by simp; rfl⟩
 by_cases c4 : x.nm = []
 case neg =>
  have c' := eq_false c4
  rw [dFalse c4]
  refine wkc (jn @aG.eq_1 (jn @int_beq (jn @tx_beq (jn @len0 (jn @c0 (jn @c1 (jn @c2 (jn @c3 @c')))))))) ?_
  exact ⟨.inr rfl, _, _, rfl, by simp; rfl⟩
 by_cases c5 : x.args = []
 case neg =>
  have c' := eq_false c5
  rw [dFalse c5]
  refine wkc (jn @aG.eq_1 (jn @int_beq (jn @tx_beq (jn @len0 (jn @c0 (jn @c1 (jn @c2 (jn @c3 (jn @c4 @c'))))))))) ?_
  exact ⟨.inr rfl, _, _, rfl, by simp; rfl⟩
 refine wkc (jn @aG.eq_1 (jn @int_beq (jn @tx_beq (jn @len0 (jn @c0 (jn @c1 (jn @c2 (jn @c3 (jn @c4 @c5))))))))) ?_
 exact ⟨.inr rfl, _, _, rfl, by simp [c0, c1, c2, c3, c4, c5]; rfl⟩

def booE (o : Int) : Bool := decide (o = 1 ∨ o = 3 ∨ o = 4 ∨ o = 5)
theorem boo167 (o : Int) : den Tryz.prog Ob.cfg 131 [dI o] = some (dB (booE o)) := by
 refine den_wp Tryz.func131 rfl (by kernel_rfl) rfl rfl ?_
 unfold booE
 by_cases c0 : o = 1
 ·rw [dTrue (by simp [c0])]
  refine wkc (jn @dI.eq_1 (jn @int_beq @c0)) ?_
  show retQ _ _ _ _ _
  exact ⟨.inr rfl, _, _, rfl, rfl⟩
 by_cases c1 : o = 3
 ·rw [dTrue (by simp [c1])]
  refine wkc (jn @dI.eq_1 (jn @int_beq (jn @c0 @c1))) ?_
  show retQ _ _ _ _ _
  exact ⟨.inr rfl, _, _, rfl, rfl⟩
 by_cases c2 : o = 4
 ·rw [dTrue (by simp [c2])]
  refine wkc (jn @dI.eq_1 (jn @int_beq (jn @c0 (jn @c1 @c2)))) ?_
  show retQ _ _ _ _ _
  exact ⟨.inr rfl, _, _, rfl, rfl⟩
 by_cases c3 : o = 5
 ·rw [dTrue (by simp [c3])]
  refine wkc (jn @dI.eq_1 (jn @int_beq (jn @c0 (jn @c1 (jn @c2 @c3))))) ?_
  show retQ _ _ _ _ _
  exact ⟨.inr rfl, _, _, rfl, rfl⟩
 rw [dFalse (by simp [c0, c1, c2, c3])]
 refine wkc (jn @dI.eq_1 (jn @int_beq (jn @c0 (jn @c1 (jn @c2 @c3))))) ?_
 show retQ _ _ _ _ _
 exact ⟨.inr rfl, _, _, rfl, rfl⟩
def eqlE (o : Int) : Bool := decide (o = 11 ∨ o = 12)
theorem eql168 (o : Int) : den Tryz.prog Ob.cfg 132 [dI o] = some (dB (eqlE o)) := by
 refine den_wp Tryz.func132 rfl (by kernel_rfl) rfl rfl ?_
 unfold eqlE
 by_cases c0 : o = 11
 ·rw [dTrue (by simp [c0])]
  refine wkc (jn @dI.eq_1 (jn @int_beq @c0)) ?_
  show retQ _ _ _ _ _
  exact ⟨.inr rfl, _, _, rfl, rfl⟩
 by_cases c1 : o = 12
 ·rw [dTrue (by simp [c1])]
  refine wkc (jn @dI.eq_1 (jn @int_beq (jn @c0 @c1))) ?_
  show retQ _ _ _ _ _
  exact ⟨.inr rfl, _, _, rfl, rfl⟩
 rw [dFalse (by simp [c0, c1])]
 refine wkc (jn @dI.eq_1 (jn @int_beq (jn @c0 @c1))) ?_
 show retQ _ _ _ _ _
 exact ⟨.inr rfl, _, _, rfl, rfl⟩
def ariE (o : Int) : Bool := decide (o = 2 ∨ (6 ≤ o ∧ o ≤ 10))
theorem ari176 (o : Int) : den Tryz.prog Ob.cfg 133 [dI o] = some (dB (ariE o)) := by
 refine den_wp Tryz.func133 rfl (by kernel_rfl) rfl rfl ?_
 unfold ariE
 by_cases c0 : o = 2
 ·rw [dTrue (by simp [c0])]
  refine wkc (jn @dI.eq_1 (jn @int_beq @c0)) ?_
  show retQ _ _ _ _ _
  exact ⟨.inr rfl, _, _, rfl, rfl⟩
 by_cases c1 : 6 ≤ o
 ·have c1' := eq_true c1
  by_cases c2 : o ≤ 10
  ·have c2' := eq_true c2
   rw [dTrue (by simp [c1, c2])]
   refine wkc (jn @dI.eq_1 (jn @int_beq (jn @c0 (jn @c1' @c2')))) ?_
   show retQ _ _ _ _ _
   exact ⟨.inr rfl, _, _, rfl, rfl⟩
  ·have c2' := eq_false c2
   rw [dFalse (by simp [c0, c2])]
   refine wkc (jn @dI.eq_1 (jn @int_beq (jn @c0 (jn @c1' @c2')))) ?_
   show retQ _ _ _ _ _
   exact ⟨.inr rfl, _, _, rfl, rfl⟩
 ·have c1' := eq_false c1
  rw [dFalse (by simp [c0, c1])]
  refine wkc (jn @dI.eq_1 (jn @int_beq (jn @c0 @c1'))) ?_
  show retQ _ _ _ _ _
  exact ⟨.inr rfl, _, _, rfl, rfl⟩
def wantE (o : Int) (l : List Int) : Int := if eqlE o then l.headD 0 else if booE o then 1 else 2
def resE (o : Int) (l : List Int) : Int × Int := if arE o = 0 then (0, 2) else if (l.length : Int) ≠ arE o then (0, 9) else if wantE o l < 1 then (0, 10) else if l.any (fun t => !decide (t = wantE o l)) then (0, 10) else if ariE o then (2, 0) else (1, 0)
theorem resE_loop {o : Int} {l : List Int} (h1 : arE o ≠ 0) (h2 : (l.length : Int) = arE o) (h3 : ¬ wantE o l < 1) : resE o l = if l.any (fun t => !decide (t = wantE o l)) then (0, 10) else if ariE o then (2, 0) else (1, 0) := by
 unfold resE; rw [if_neg h1, if_neg (by omega), if_neg h3]
theorem arE_le (o : Int) : arE o ≤ 2 := by unfold arE; split; omega; split <;> omega

set_option maxHeartbeats 2000000 in
theorem resc_true_true (o : Int) (l : List Int) (y0 : Int) (hy : l.head? = some y0) (c1 : arE o ≠ 0) (c2 : (l.length : Int) = arE o) (hb : booE o = true) (hq : eqlE o = true) : den Tryz.prog Ob.cfg 118 [dI o, dL (encI l)] = some (.tuple [dI (resE o l).1, dI (resE o l).2]) := by
 have a1 := ar166 o
 have a2 := boo167 o
 have a3 := eql168 o
 have a4 := ari176 o
 rw [hb] at a2
 rw [hq] at a3
 simp only [dI, dB] at a1 a2 a3 a4
 have har := arE_le o
 have c1' := eq_false c1
 have c2' := eq_true c2
 have hp : 0 < l.length := by cases l with
  | nil => simp at hy
  | cons a r => simp
 have hl1 : idx 0 l.length = some 0 := by unfold idx; rw [if_pos ⟨by omega, by omega⟩]; rfl
 have e0 : (encI l)[0]? = some [.int .i64 y0] := encI_at (by rw [← List.head?_eq_getElem?]; exact hy)
 have hu : wantE o l = y0 := by cases l with
  | nil => simp at hy
  | cons a r => simp at hy; subst hy; simp [wantE, hb, hq]
 refine den_wp Tryz.func118 rfl (by kernel_rfl) rfl rfl ?_
 by_cases c3 : y0 < 1
 ·have c3' := eq_true c3
  have hr : resE o l = (0, 10) := by unfold resE; rw [if_neg c1, if_neg (by omega), hu, if_pos c3]
  rw [hr]
  refine wkc (jn @dI.eq_1 (jn @dL.eq_1 (jn @a1 (jn @a2 (jn @a3 (jn @c1' (jn @c2' (jn @int_beq (jn @int_bne (jn @encI_len (jn @e0 (jn @hl1 @c3')))))))))))) ?_
  exact ⟨.inr rfl, _, _, rfl, rfl⟩
 have c3' := eq_false c3
 have hr := resE_loop c1 c2 (by rw [hu]; exact c3)
 rw [hu] at hr
 rw [hr]
 refine wkc (jn @dI.eq_1 (jn @dL.eq_1 (jn @a1 (jn @a2 (jn @a3 (jn @c1' (jn @c2' (jn @int_beq (jn @int_bne (jn @encI_len (jn @e0 (jn @hl1 @c3')))))))))))) ?_
 apply WP.loop' (I := fun D s => ∃ j : Nat, j + D = l.length ∧ (l.take j).all (fun t => decide (t = y0)) = true ∧ SE [(0, dI o), (1, dL (encI l)), (6, dI y0), (7, dI j)] [] 0 s) (d := l.length)
 ·exact ⟨0, by simp, by simp, SE.mk (by simp [dI, dL]) rfl⟩
 rintro D _ ⟨j, hj, hno, cc, rfl⟩
 refine wk (jn @dI.eq_1 (jn @dL.eq_1 @encI_len)) ?_
 show WP _ _ _ _ _ _
 refine WP.cond _ rfl (fun hb => ?_) (fun hb => ?_)
 ·simp at hb
  have hb' : j < l.length := by omega
  obtain ⟨d, hd, hdm, hix⟩ := at_lt hb'
  have hd' := encI_at hd
  have hw := w_succ hb' (by omega)
  have hs := all_snoc (p := fun t : Int => decide (t = y0)) hd
  by_cases hq : d = y0
  ·have hq' := eq_true hq
   refine wkc (jn @dI.eq_1 (jn @dL.eq_1 (jn @encI_len (jn @hix (jn @hd' (jn @int_bne @hq')))))) ?_
   refine loop_next (by simp [hw]; exact Is.rfl) ?_
   exact ⟨D - 1, by omega, j + 1, by omega, by rw [hs, hno, dTrue hq]; rfl, SE.mk (by simp [dI, dL, hw]) rfl⟩
  ·have hq' := eq_false hq
   have ha : l.any (fun t => !decide (t = y0)) = true := List.any_eq_true.2 ⟨d, hdm, by simp [hq]⟩
   rw [ha]
   refine wkc (jn @dI.eq_1 (jn @dL.eq_1 (jn @encI_len (jn @hix (jn @hd' (jn @int_bne @hq')))))) ?_
   exact ⟨.inr rfl, _, _, rfl, rfl⟩
 ·simp at hb
  have hje : j = l.length := by omega
  rw [hje, List.take_length] at hno
  have ha : l.any (fun t => !decide (t = y0)) = false := by
   rw [List.any_eq_false]; intro t ht; simpa using List.all_eq_true.1 hno t ht
  rw [ha]
  cases hz : ariE o with
  | true =>
   rw [hz] at a4
   refine wkc (jn @dI.eq_1 (jn @dL.eq_1 @a4)) ?_
   exact ⟨.inr rfl, _, _, rfl, rfl⟩
  | false =>
   rw [hz] at a4
   refine wkc (jn @dI.eq_1 (jn @dL.eq_1 @a4)) ?_
   exact ⟨.inr rfl, _, _, rfl, rfl⟩

set_option maxHeartbeats 2000000 in
theorem resc_true_false (o : Int) (l : List Int) (y0 : Int) (hy : l.head? = some y0) (c1 : arE o ≠ 0) (c2 : (l.length : Int) = arE o) (hb : booE o = true) (hq : eqlE o = false) : den Tryz.prog Ob.cfg 118 [dI o, dL (encI l)] = some (.tuple [dI (resE o l).1, dI (resE o l).2]) := by
 have a1 := ar166 o
 have a2 := boo167 o
 have a3 := eql168 o
 have a4 := ari176 o
 rw [hb] at a2
 rw [hq] at a3
 simp only [dI, dB] at a1 a2 a3 a4
 have har := arE_le o
 have c1' := eq_false c1
 have c2' := eq_true c2
 have hp : 0 < l.length := by cases l with
  | nil => simp at hy
  | cons a r => simp
 have hl1 : idx 0 l.length = some 0 := by unfold idx; rw [if_pos ⟨by omega, by omega⟩]; rfl
 have e0 : (encI l)[0]? = some [.int .i64 y0] := encI_at (by rw [← List.head?_eq_getElem?]; exact hy)
 have hu : wantE o l = 1 := by cases l with
  | nil => simp at hy
  | cons a r => simp at hy; subst hy; simp [wantE, hb, hq]
 refine den_wp Tryz.func118 rfl (by kernel_rfl) rfl rfl ?_
 have c3 : ¬ ((1 : Int) < 1) := by omega
 have hr := resE_loop c1 c2 (by rw [hu]; exact c3)
 rw [hu] at hr
 rw [hr]
 refine wkc (jn @dI.eq_1 (jn @dL.eq_1 (jn @a1 (jn @a2 (jn @a3 (jn @c1' (jn @c2' (jn @int_beq (jn @int_bne (jn @encI_len (jn @e0 @hl1))))))))))) ?_
 apply WP.loop' (I := fun D s => ∃ j : Nat, j + D = l.length ∧ (l.take j).all (fun t => decide (t = 1)) = true ∧ SE [(0, dI o), (1, dL (encI l)), (6, dI 1), (7, dI j)] [] 0 s) (d := l.length)
 ·exact ⟨0, by simp, by simp, SE.mk (by simp [dI, dL]) rfl⟩
 rintro D _ ⟨j, hj, hno, cc, rfl⟩
 refine wk (jn @dI.eq_1 (jn @dL.eq_1 @encI_len)) ?_
 show WP _ _ _ _ _ _
 refine WP.cond _ rfl (fun hb => ?_) (fun hb => ?_)
 ·simp at hb
  have hb' : j < l.length := by omega
  obtain ⟨d, hd, hdm, hix⟩ := at_lt hb'
  have hd' := encI_at hd
  have hw := w_succ hb' (by omega)
  have hs := all_snoc (p := fun t : Int => decide (t = 1)) hd
  by_cases hq : d = 1
  ·have hq' := eq_true hq
   refine wkc (jn @dI.eq_1 (jn @dL.eq_1 (jn @encI_len (jn @hix (jn @hd' (jn @int_bne @hq')))))) ?_
   refine loop_next (by simp [hw]; exact Is.rfl) ?_
   exact ⟨D - 1, by omega, j + 1, by omega, by rw [hs, hno, dTrue hq]; rfl, SE.mk (by simp [dI, dL, hw]) rfl⟩
  ·have hq' := eq_false hq
   have ha : l.any (fun t => !decide (t = 1)) = true := List.any_eq_true.2 ⟨d, hdm, by simp [hq]⟩
   rw [ha]
   refine wkc (jn @dI.eq_1 (jn @dL.eq_1 (jn @encI_len (jn @hix (jn @hd' (jn @int_bne @hq')))))) ?_
   exact ⟨.inr rfl, _, _, rfl, rfl⟩
 ·simp at hb
  have hje : j = l.length := by omega
  rw [hje, List.take_length] at hno
  have ha : l.any (fun t => !decide (t = 1)) = false := by
   rw [List.any_eq_false]; intro t ht; simpa using List.all_eq_true.1 hno t ht
  rw [ha]
  cases hz : ariE o with
  | true =>
   rw [hz] at a4
   refine wkc (jn @dI.eq_1 (jn @dL.eq_1 @a4)) ?_
   exact ⟨.inr rfl, _, _, rfl, rfl⟩
  | false =>
   rw [hz] at a4
   refine wkc (jn @dI.eq_1 (jn @dL.eq_1 @a4)) ?_
   exact ⟨.inr rfl, _, _, rfl, rfl⟩

set_option maxHeartbeats 2000000 in
theorem resc_false_true (o : Int) (l : List Int) (y0 : Int) (hy : l.head? = some y0) (c1 : arE o ≠ 0) (c2 : (l.length : Int) = arE o) (hb : booE o = false) (hq : eqlE o = true) : den Tryz.prog Ob.cfg 118 [dI o, dL (encI l)] = some (.tuple [dI (resE o l).1, dI (resE o l).2]) := by
 have a1 := ar166 o
 have a2 := boo167 o
 have a3 := eql168 o
 have a4 := ari176 o
 rw [hb] at a2
 rw [hq] at a3
 simp only [dI, dB] at a1 a2 a3 a4
 have har := arE_le o
 have c1' := eq_false c1
 have c2' := eq_true c2
 have hp : 0 < l.length := by cases l with
  | nil => simp at hy
  | cons a r => simp
 have hl1 : idx 0 l.length = some 0 := by unfold idx; rw [if_pos ⟨by omega, by omega⟩]; rfl
 have e0 : (encI l)[0]? = some [.int .i64 y0] := encI_at (by rw [← List.head?_eq_getElem?]; exact hy)
 have hu : wantE o l = y0 := by cases l with
  | nil => simp at hy
  | cons a r => simp at hy; subst hy; simp [wantE, hb, hq]
 refine den_wp Tryz.func118 rfl (by kernel_rfl) rfl rfl ?_
 by_cases c3 : y0 < 1
 ·have c3' := eq_true c3
  have hr : resE o l = (0, 10) := by unfold resE; rw [if_neg c1, if_neg (by omega), hu, if_pos c3]
  rw [hr]
  refine wkc (jn @dI.eq_1 (jn @dL.eq_1 (jn @a1 (jn @a2 (jn @a3 (jn @c1' (jn @c2' (jn @int_beq (jn @int_bne (jn @encI_len (jn @e0 (jn @hl1 @c3')))))))))))) ?_
  exact ⟨.inr rfl, _, _, rfl, rfl⟩
 have c3' := eq_false c3
 have hr := resE_loop c1 c2 (by rw [hu]; exact c3)
 rw [hu] at hr
 rw [hr]
 refine wkc (jn @dI.eq_1 (jn @dL.eq_1 (jn @a1 (jn @a2 (jn @a3 (jn @c1' (jn @c2' (jn @int_beq (jn @int_bne (jn @encI_len (jn @e0 (jn @hl1 @c3')))))))))))) ?_
 apply WP.loop' (I := fun D s => ∃ j : Nat, j + D = l.length ∧ (l.take j).all (fun t => decide (t = y0)) = true ∧ SE [(0, dI o), (1, dL (encI l)), (6, dI y0), (7, dI j)] [] 0 s) (d := l.length)
 ·exact ⟨0, by simp, by simp, SE.mk (by simp [dI, dL]) rfl⟩
 rintro D _ ⟨j, hj, hno, cc, rfl⟩
 refine wk (jn @dI.eq_1 (jn @dL.eq_1 @encI_len)) ?_
 show WP _ _ _ _ _ _
 refine WP.cond _ rfl (fun hb => ?_) (fun hb => ?_)
 ·simp at hb
  have hb' : j < l.length := by omega
  obtain ⟨d, hd, hdm, hix⟩ := at_lt hb'
  have hd' := encI_at hd
  have hw := w_succ hb' (by omega)
  have hs := all_snoc (p := fun t : Int => decide (t = y0)) hd
  by_cases hq : d = y0
  ·have hq' := eq_true hq
   refine wkc (jn @dI.eq_1 (jn @dL.eq_1 (jn @encI_len (jn @hix (jn @hd' (jn @int_bne @hq')))))) ?_
   refine loop_next (by simp [hw]; exact Is.rfl) ?_
   exact ⟨D - 1, by omega, j + 1, by omega, by rw [hs, hno, dTrue hq]; rfl, SE.mk (by simp [dI, dL, hw]) rfl⟩
  ·have hq' := eq_false hq
   have ha : l.any (fun t => !decide (t = y0)) = true := List.any_eq_true.2 ⟨d, hdm, by simp [hq]⟩
   rw [ha]
   refine wkc (jn @dI.eq_1 (jn @dL.eq_1 (jn @encI_len (jn @hix (jn @hd' (jn @int_bne @hq')))))) ?_
   exact ⟨.inr rfl, _, _, rfl, rfl⟩
 ·simp at hb
  have hje : j = l.length := by omega
  rw [hje, List.take_length] at hno
  have ha : l.any (fun t => !decide (t = y0)) = false := by
   rw [List.any_eq_false]; intro t ht; simpa using List.all_eq_true.1 hno t ht
  rw [ha]
  cases hz : ariE o with
  | true =>
   rw [hz] at a4
   refine wkc (jn @dI.eq_1 (jn @dL.eq_1 @a4)) ?_
   exact ⟨.inr rfl, _, _, rfl, rfl⟩
  | false =>
   rw [hz] at a4
   refine wkc (jn @dI.eq_1 (jn @dL.eq_1 @a4)) ?_
   exact ⟨.inr rfl, _, _, rfl, rfl⟩

set_option maxHeartbeats 2000000 in
theorem resc_false_false (o : Int) (l : List Int) (y0 : Int) (hy : l.head? = some y0) (c1 : arE o ≠ 0) (c2 : (l.length : Int) = arE o) (hb : booE o = false) (hq : eqlE o = false) : den Tryz.prog Ob.cfg 118 [dI o, dL (encI l)] = some (.tuple [dI (resE o l).1, dI (resE o l).2]) := by
 have a1 := ar166 o
 have a2 := boo167 o
 have a3 := eql168 o
 have a4 := ari176 o
 rw [hb] at a2
 rw [hq] at a3
 simp only [dI, dB] at a1 a2 a3 a4
 have har := arE_le o
 have c1' := eq_false c1
 have c2' := eq_true c2
 have hp : 0 < l.length := by cases l with
  | nil => simp at hy
  | cons a r => simp
 have hl1 : idx 0 l.length = some 0 := by unfold idx; rw [if_pos ⟨by omega, by omega⟩]; rfl
 have e0 : (encI l)[0]? = some [.int .i64 y0] := encI_at (by rw [← List.head?_eq_getElem?]; exact hy)
 have hu : wantE o l = 2 := by cases l with
  | nil => simp at hy
  | cons a r => simp at hy; subst hy; simp [wantE, hb, hq]
 refine den_wp Tryz.func118 rfl (by kernel_rfl) rfl rfl ?_
 have c3 : ¬ ((2 : Int) < 1) := by omega
 have hr := resE_loop c1 c2 (by rw [hu]; exact c3)
 rw [hu] at hr
 rw [hr]
 refine wkc (jn @dI.eq_1 (jn @dL.eq_1 (jn @a1 (jn @a2 (jn @a3 (jn @c1' (jn @c2' (jn @int_beq (jn @int_bne (jn @encI_len (jn @e0 @hl1))))))))))) ?_
 apply WP.loop' (I := fun D s => ∃ j : Nat, j + D = l.length ∧ (l.take j).all (fun t => decide (t = 2)) = true ∧ SE [(0, dI o), (1, dL (encI l)), (6, dI 2), (7, dI j)] [] 0 s) (d := l.length)
 ·exact ⟨0, by simp, by simp, SE.mk (by simp [dI, dL]) rfl⟩
 rintro D _ ⟨j, hj, hno, cc, rfl⟩
 refine wk (jn @dI.eq_1 (jn @dL.eq_1 @encI_len)) ?_
 show WP _ _ _ _ _ _
 refine WP.cond _ rfl (fun hb => ?_) (fun hb => ?_)
 ·simp at hb
  have hb' : j < l.length := by omega
  obtain ⟨d, hd, hdm, hix⟩ := at_lt hb'
  have hd' := encI_at hd
  have hw := w_succ hb' (by omega)
  have hs := all_snoc (p := fun t : Int => decide (t = 2)) hd
  by_cases hq : d = 2
  ·have hq' := eq_true hq
   refine wkc (jn @dI.eq_1 (jn @dL.eq_1 (jn @encI_len (jn @hix (jn @hd' (jn @int_bne @hq')))))) ?_
   refine loop_next (by simp [hw]; exact Is.rfl) ?_
   exact ⟨D - 1, by omega, j + 1, by omega, by rw [hs, hno, dTrue hq]; rfl, SE.mk (by simp [dI, dL, hw]) rfl⟩
  ·have hq' := eq_false hq
   have ha : l.any (fun t => !decide (t = 2)) = true := List.any_eq_true.2 ⟨d, hdm, by simp [hq]⟩
   rw [ha]
   refine wkc (jn @dI.eq_1 (jn @dL.eq_1 (jn @encI_len (jn @hix (jn @hd' (jn @int_bne @hq')))))) ?_
   exact ⟨.inr rfl, _, _, rfl, rfl⟩
 ·simp at hb
  have hje : j = l.length := by omega
  rw [hje, List.take_length] at hno
  have ha : l.any (fun t => !decide (t = 2)) = false := by
   rw [List.any_eq_false]; intro t ht; simpa using List.all_eq_true.1 hno t ht
  rw [ha]
  cases hz : ariE o with
  | true =>
   rw [hz] at a4
   refine wkc (jn @dI.eq_1 (jn @dL.eq_1 @a4)) ?_
   exact ⟨.inr rfl, _, _, rfl, rfl⟩
  | false =>
   rw [hz] at a4
   refine wkc (jn @dI.eq_1 (jn @dL.eq_1 @a4)) ?_
   exact ⟨.inr rfl, _, _, rfl, rfl⟩

set_option maxHeartbeats 1000000 in
theorem res160 (o : Int) (l : List Int) : den Tryz.prog Ob.cfg 118 [dI o, dL (encI l)] = some (.tuple [dI (resE o l).1, dI (resE o l).2]) := by
 by_cases c1 : arE o = 0
 ·have a1 := ar166 o
  simp only [dI] at a1
  refine den_wp Tryz.func118 rfl (by kernel_rfl) rfl rfl ?_
  have hr : resE o l = (0, 2) := by unfold resE; rw [if_pos c1]
  rw [hr]
  rw [c1] at a1
  refine wkc (jn @dI.eq_1 (jn @dL.eq_1 @a1)) ?_
  exact ⟨.inr rfl, _, _, rfl, rfl⟩
 by_cases c2 : (l.length : Int) = arE o
 case neg =>
  have a1 := ar166 o
  simp only [dI] at a1
  refine den_wp Tryz.func118 rfl (by kernel_rfl) rfl rfl ?_
  have c1' := eq_false c1
  have hr : resE o l = (0, 9) := by unfold resE; rw [if_neg c1, if_pos c2]
  have c2' := eq_false c2
  rw [hr]
  refine wkc (jn @dI.eq_1 (jn @dL.eq_1 (jn @a1 (jn @c1' (jn @c2' (jn @int_beq (jn @int_bne @encI_len))))))) ?_
  exact ⟨.inr rfl, _, _, rfl, rfl⟩
 obtain ⟨y0, hy⟩ : ∃ y0, l.head? = some y0 := by
  cases l with
  | nil => unfold arE at c1 c2; simp at c2; omega
  | cons a r => exact ⟨a, rfl⟩
 cases hb : booE o <;> cases hq : eqlE o
 ·exact resc_false_false o l y0 hy c1 c2 hb hq
 ·exact resc_false_true o l y0 hy c1 c2 hb hq
 ·exact resc_true_false o l y0 hy c1 c2 hb hq
 ·exact resc_true_true o l y0 hy c1 c2 hb hq
end Go.Ac
end
