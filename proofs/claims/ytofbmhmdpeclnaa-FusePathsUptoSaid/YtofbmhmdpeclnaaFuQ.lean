/- Copies of expressions. -/
import Derived.Test.YtofbmhmdpeclnaaFuP
set_option linter.unusedVariables false
set_option linter.unusedSimpArgs false
set_option maxRecDepth 4000
set_option linter.unusedSimpArgs false
set_option linter.unusedVariables false
namespace Go.Ab
open Go.Proofs

/-- The cells of expressions, in an object. -/
def cX (l : List X) : List V := (encX l).flatten.map .d
theorem encX_row (l : List X) : ∀ r ∈ encX l, r.length = 6 := by
  rw [encX_map]; intro r hr; simp only [List.mem_map] at hr; obtain ⟨y, _, rfl⟩ := hr; exact y.cells_len
theorem cX_len (l : List X) : (cX l).length = l.length * 6 := by unfold cX; rw [List.length_map, flat_len (encX_row l), encX_len]
theorem cX_take (l : List X) : (cX l).take (l.length * 6) = cX l := by rw [← cX_len, List.take_length]
theorem cX_toDs (look : Look) (f : Nat) (l : List X) : toDs (toD look f) (cX l) = some ((encX l).flatten, []) := toDs_d look f _
theorem cX_chunk (l : List X) : chunk 6 l.length (encX l).flatten = encX l := by
  have := chunk_flat (encX_row l); rwa [encX_len] at this

/-- An object's cells while they are filled with copies: the first ones are done. -/
def half (sz : Nat) (z : List V) (rows : List (List D)) (i : Nat) : List V := (((rows.take i).map fun r => r.map V.d) ++ List.replicate (rows.length - i) z).flatten
theorem half_zero (sz : Nat) (z : List V) (rows : List (List D)) : half sz z rows 0 = (List.replicate rows.length z).flatten := by simp [half]
theorem half_len {sz : Nat} {z : List V} (hz : z.length = sz) {rows : List (List D)} (h : ∀ r ∈ rows, r.length = sz) (i : Nat) (hi : i ≤ rows.length) : (half sz z rows i).length = rows.length * sz := by
  unfold half
  rw [flat_len (sz := sz)]
  · have hm : min i rows.length + (rows.length - i) = rows.length := by omega
    simp [hm]
  · intro r hr
    simp only [List.mem_append, List.mem_map] at hr
    rcases hr with ⟨x, hx, rfl⟩ | hr
    · rw [List.length_map]; exact h x (List.mem_of_mem_take hx)
    · rw [List.eq_of_mem_replicate hr, hz]
theorem half_done (sz : Nat) (z : List V) (rows : List (List D)) : half sz z rows rows.length = rows.flatten.map .d := by
  unfold half
  simp [List.map_flatten]
theorem half_step {sz : Nat} {z : List V} (hz : z.length = sz) {rows : List (List D)} (h : ∀ r ∈ rows, r.length = sz) {i : Nat} {r : List D} (hi : rows[i]? = some r) :
    (half sz z rows i).take (i * sz) ++ r.map .d ++ (half sz z rows i).drop (i * sz + sz) = half sz z rows (i + 1) := by
  have hlt : i < rows.length := by
    rw [List.getElem?_eq_some_iff] at hi; exact hi.1
  unfold half
  rw [flat_set (sz := sz)]
  · congr 1
    rw [List.set_append_right _ _ (by simp; omega)]
    have : (List.map (fun r => List.map V.d r) (List.take i rows)).length = i := by simp; omega
    rw [this, Nat.sub_self, take_S hi, List.map_append, List.append_assoc]
    congr 1
    obtain ⟨k, hk⟩ : ∃ k, rows.length - i = k + 1 := ⟨rows.length - i - 1, by omega⟩
    rw [hk, List.replicate_succ, List.set_cons_zero]
    have : rows.length - (i + 1) = k := by omega
    rw [this]; rfl
  · intro r hr
    simp only [List.mem_append, List.mem_map] at hr
    rcases hr with ⟨x, hx, rfl⟩ | hr
    · rw [List.length_map]; exact h x (List.mem_of_mem_take hx)
    · rw [List.eq_of_mem_replicate hr, hz]
  · simp; omega

def hX (l : List X) (i : Nat) : List V := half 6 z34 (encX l) i
theorem hX_zero (l : List X) : hX l 0 = (List.replicate l.length z34).flatten := by unfold hX; rw [half_zero, encX_len]
theorem hX_len (l : List X) (i : Nat) (hi : i ≤ l.length) : (hX l i).length = l.length * 6 := by unfold hX; rw [half_len (sz := 6) (z := z34) rfl (encX_row l) i (by rw [encX_len]; exact hi), encX_len]
theorem hX_done (l : List X) : hX l l.length = cX l := by unfold hX cX; rw [← half_done 6 z34, encX_len]
theorem hX_step {l : List X} {i : Nat} {y : X} (h : l[i]? = some y) : (hX l i).take (i * 6) ++ y.cells.map .d ++ (hX l i).drop (i * 6 + 6) = hX l (i + 1) := half_step (sz := 6) (z := z34) rfl (encX_row l) (encX_at h)

def rest2 (f : Func) : Code := match f.body with | some (.seq _ (.seq _ b)) => b | _ => .skip

attribute [simp] cX_len cX_take cX_toDs cX_chunk makeV copyV

set_option maxHeartbeats 4000000 in
theorem rename_den : ∀ (N : Nat) (x : X), x.sz < N → x.sz ≤ MB → den Try.prog Hn.cfg 38 [aX' x, dS [], dS []] = some (aX' x) := by
  intro N
  induction N with
  | zero => intro x h; omega
  | succ N ihN =>
  intro x hN hl
  rw [X.sz_eq] at hN hl
  have hll := len_szX x.args
  unfold MB at hl
  have hv := variable_den x
  simp only [aX', X.cells_eq, List.map] at hv
  refine den_wp Try.func38 rfl (by kernel_rfl) rfl (by rw [aX', X.cells_eq]; rfl) ?_
  have hcont : ∀ c e, WP Try.prog Hn.cfg 38 (rest2 Try.f38) ⟨[(1, .d (.str [])), (2, .d (.str [])), (3, .ptr 0 0 0), (6, .ptr 1 1 0)] ++ e,
      [(0, ⟨0, false, [.d (.int .i64 x.k), .d (.int .i64 x.o), .d (.int .i64 x.t), .d (.int .i64 x.v), .d (.str x.nm), .d (.slice (encX x.args))]⟩),
       (1, ⟨1, false, [.d (.int .i64 0), .d (.int .i64 0), .d (.int .i64 0), .d (.int .i64 0), .d (.str []), .full []]⟩)], 2, c, 0, []⟩ (retQ Try.prog Try.f38 (aX' x)) := by
    intro c e
    have hf1 : x.args.length * 72 ≤ 140737488355328 := by omega
    have hf2 : (x.args.length : Int) ≤ 9223372036854775807 := by omega
    show WP _ _ _ (.seq _ _) _ _
    have hrow := encX_row x.args
    have hel := encX_len x.args
    repeat (first
      | apply WP.seq
      | (apply WP.reg
         case hR => dsimp only [prepL, prepO, List.map, List.getElem?_cons_succ, List.getElem?_cons_zero]; exact Is.rfl
         case hr =>
           repeat (first
             | (apply RT.op (h := by simp [hf1, hf2]; exact Is.rfl) (he := rfl))
             | (apply RT.call (hg := by simp; exact Is.rfl) (hfo := by simp; exact Is.rfl) (hvs := by simp [hf1, hf2]; exact Is.rfl) (hcl := by simp [hf1, hf2]; exact Is.rfl) (hd := by simp [hf1, hf2]; exact Is.rfl) (hwr := by simp [hf1, hf2]; exact Is.rfl) (hlt := by simp [Is]) (he := rfl) (hh := by simp; exact Is.rfl) (hw := by simp; exact Is.rfl))
             | (apply RT.wr (h := by simp [hf1, hf2]; exact Is.rfl) (he := rfl) (hh := by simp [hf1, hf2]; exact Is.rfl) (hn := by exact Is.rfl) (hc := by exact Is.rfl) (hw := by simp; exact Is.rfl)))
           exact RT.nil
         case hc => (show _ = _; kernel_rfl)
         case ht => simp [hf1, hf2]; exact Is.rfl)
      | apply WP.block
      | apply WP.skip
      | apply WP.exit
      | apply WP.ret)
    apply WP.loop' (I := fun d s => ∃ i : Nat, i + d = x.args.length ∧ ∃ gl c, s = ⟨[(1, .d (.str [])), (2, .d (.str [])), (3, .ptr 0 0 0), (6, .ptr 1 1 0), (7, .osl 2 gl 0 x.args.length 6 (some x.args.length)), (25, .d (.slice (encX x.args))), (26, dI x.args.length), (27, dI i)],
      [(0, ⟨0, false, [.d (.int .i64 x.k), .d (.int .i64 x.o), .d (.int .i64 x.t), .d (.int .i64 x.v), .d (.str x.nm), .d (.slice (encX x.args))]⟩),
       (1, ⟨1, false, [.d (.int .i64 0), .d (.int .i64 0), .d (.int .i64 0), .d (.int .i64 0), .d (.str []), .full []]⟩), (2, ⟨gl, false, hX x.args i⟩)], 3, c, 0, []⟩) (d := x.args.length)
    · exact ⟨0, by simp, c, _, st_eq (by simp [dI]) (by simp [hX_zero])⟩
    rintro d _ ⟨i, hi, gl, c, rfl⟩
    repeat (first
      | apply WP.seq
      | (apply WP.reg
         case hR => dsimp only [prepL, prepO, List.map, List.getElem?_cons_succ, List.getElem?_cons_zero]; exact Is.rfl
         case hr =>
           repeat (first
             | (apply RT.op (h := by simp [dI]; exact Is.rfl) (he := rfl))
             | (apply RT.call (hg := by simp; exact Is.rfl) (hfo := by simp; exact Is.rfl) (hvs := by simp [dI]; exact Is.rfl) (hcl := by simp [dI]; exact Is.rfl) (hd := by simp [dI]; exact Is.rfl) (hwr := by simp [dI]; exact Is.rfl) (hlt := by simp [Is]) (he := rfl) (hh := by simp; exact Is.rfl) (hw := by simp; exact Is.rfl))
             | (apply RT.wr (h := by simp [dI]; exact Is.rfl) (he := rfl) (hh := by simp [dI]; exact Is.rfl) (hn := by exact Is.rfl) (hc := by exact Is.rfl) (hw := by simp; exact Is.rfl)))
           exact RT.nil
         case hc => (show _ = _; kernel_rfl)
         case ht => simp [dI]; exact Is.rfl)
      | apply WP.block
      | apply WP.skip
      | apply WP.exit
      | apply WP.ret)
    show WP _ _ _ _ _ _
    refine WP.cond _ rfl (fun hb => ?_) (fun hb => ?_)
    · simp at hb
      obtain ⟨y, hy, hym, hix⟩ := at_lt hb
      have hy' := encX_at hy
      have hw := w_succ hb (by omega)
      have hs := mem_szX hym
      have ih := ihN y (by omega) (by unfold MB; omega)
      simp only [aX', X.cells_eq y, List.map, dS] at ih
      have hlen := hX_len x.args i (by omega)
      have hst := hX_step hy
      simp only [X.cells_eq y, List.map, List.append_assoc, List.cons_append, List.nil_append] at hst
      have hle : i * 6 + 6 ≤ x.args.length * 6 := by omega
      repeat (first
        | apply WP.seq
        | (apply WP.reg
           case hR => dsimp only [prepL, prepO, List.map, List.getElem?_cons_succ, List.getElem?_cons_zero]; exact Is.rfl
           case hr =>
             repeat (first
               | (apply RT.op (h := by simp [hix, hy', X.cells_eq, ih, hlen, hst, hle]; exact Is.rfl) (he := rfl))
               | (apply RT.call (hg := by simp; exact Is.rfl) (hfo := by simp; exact Is.rfl) (hvs := by simp [hix, hy', X.cells_eq, ih, hlen, hst, hle]; exact Is.rfl) (hcl := by simp [hix, hy', X.cells_eq, ih, hlen, hst, hle]; exact Is.rfl) (hd := by simp [hix, hy', X.cells_eq, ih, hlen, hst, hle]; exact Is.rfl) (hwr := by simp [hix, hy', X.cells_eq, ih, hlen, hst, hle]; exact Is.rfl) (hlt := by simp [Is]) (he := rfl) (hh := by simp; exact Is.rfl) (hw := by simp; exact Is.rfl))
               | (apply RT.wr (h := by simp [hix, hy', X.cells_eq, ih, hlen, hst, hle]; exact Is.rfl) (he := rfl) (hh := by simp [hix, hy', X.cells_eq, ih, hlen, hst, hle]; exact Is.rfl) (hn := by exact Is.rfl) (hc := by exact Is.rfl) (hw := by simp; exact Is.rfl)))
             exact RT.nil
           case hc => (show _ = _; kernel_rfl)
           case ht => simp [hix, hy', X.cells_eq, ih, hlen, hst, hle]; exact Is.rfl)
        | apply WP.block
        | apply WP.skip
        | apply WP.exit
        | apply WP.ret)
      refine loop_next (by simp; exact Is.rfl) ?_
      exact ⟨d - 1, by omega, i + 1, by omega, gl, _, st_eq (by simp [dI, hw]) (by simp)⟩
    · simp at hb
      have hie : i = x.args.length := by omega
      subst hie
      rw [hX_done]
      repeat (first
        | apply WP.seq
        | (apply WP.reg
           case hR => dsimp only [prepL, prepO, List.map, List.getElem?_cons_succ, List.getElem?_cons_zero]; exact Is.rfl
           case hr =>
             repeat (first
               | (apply RT.op (h := by simp; exact Is.rfl) (he := rfl))
               | (apply RT.call (hg := by simp; exact Is.rfl) (hfo := by simp; exact Is.rfl) (hvs := by simp; exact Is.rfl) (hcl := by simp; exact Is.rfl) (hd := by simp; exact Is.rfl) (hwr := by simp; exact Is.rfl) (hlt := by simp [Is]) (he := rfl) (hh := by simp; exact Is.rfl) (hw := by simp; exact Is.rfl))
               | (apply RT.wr (h := by simp; exact Is.rfl) (he := rfl) (hh := by simp; exact Is.rfl) (hn := by exact Is.rfl) (hc := by exact Is.rfl) (hw := by simp; exact Is.rfl)))
             exact RT.nil
           case hc => (show _ = _; kernel_rfl)
           case ht => simp; exact Is.rfl)
        | apply WP.block
        | apply WP.skip
        | apply WP.exit
        | apply WP.ret)
      refine ⟨.inr rfl, [.agg [.d (.int .i64 x.k), .d (.int .i64 x.o), .d (.int .i64 x.t), .d (.int .i64 x.v), .d (.str x.nm), .osl 2 gl 0 x.args.length 6 (some x.args.length)]], [2], ?_, ?_⟩
      · show resultsV _ _ [.cell 6 34] = _
        simp [resultsV, resultV]
      · simp [tup, closeT, aX', X.cells_eq]
  repeat (first
    | apply WP.seq
    | (apply WP.reg
       case hR => dsimp only [prepL, prepO, List.map, List.getElem?_cons_succ, List.getElem?_cons_zero]; exact Is.rfl
       case hr =>
         repeat (first
           | (apply RT.op (h := by simp [envOf, aX', X.cells_eq]; exact Is.rfl) (he := rfl))
           | (apply RT.call (hg := by simp; exact Is.rfl) (hfo := by simp; exact Is.rfl) (hvs := by simp [envOf, aX', X.cells_eq]; exact Is.rfl) (hcl := by simp [envOf, aX', X.cells_eq]; exact Is.rfl) (hd := by simp [envOf, aX', X.cells_eq]; exact Is.rfl) (hwr := by simp [envOf, aX', X.cells_eq]; exact Is.rfl) (hlt := by simp [Is]) (he := rfl) (hh := by simp; exact Is.rfl) (hw := by simp; exact Is.rfl))
           | (apply RT.wr (h := by simp [envOf, aX', X.cells_eq]; exact Is.rfl) (he := rfl) (hh := by simp [envOf, aX', X.cells_eq]; exact Is.rfl) (hn := by exact Is.rfl) (hc := by exact Is.rfl) (hw := by simp; exact Is.rfl)))
         exact RT.nil
       case hc => (show _ = _; kernel_rfl)
       case ht => simp [envOf, aX', X.cells_eq]; exact Is.rfl)
    | apply WP.block
    | apply WP.skip
    | apply WP.exit
    | apply WP.ret)
  cases hq : varX x with
  | false =>
    rw [hq] at hv
    repeat (first
      | apply WP.seq
      | (apply WP.reg
         case hR => dsimp only [prepL, prepO, List.map, List.getElem?_cons_succ, List.getElem?_cons_zero]; exact Is.rfl
         case hr =>
           repeat (first
             | (apply RT.op (h := by simp [X.cells_eq, hv, dS]; exact Is.rfl) (he := rfl))
             | (apply RT.call (hg := by simp; exact Is.rfl) (hfo := by simp; exact Is.rfl) (hvs := by simp [X.cells_eq, hv, dS]; exact Is.rfl) (hcl := by simp [X.cells_eq, hv, dS]; exact Is.rfl) (hd := by simp [X.cells_eq, hv, dS]; exact Is.rfl) (hwr := by simp [X.cells_eq, hv, dS]; exact Is.rfl) (hlt := by simp [Is]) (he := rfl) (hh := by simp; exact Is.rfl) (hw := by simp; exact Is.rfl))
             | (apply RT.wr (h := by simp [X.cells_eq, hv, dS]; exact Is.rfl) (he := rfl) (hh := by simp [X.cells_eq, hv, dS]; exact Is.rfl) (hn := by exact Is.rfl) (hc := by exact Is.rfl) (hw := by simp; exact Is.rfl)))
           exact RT.nil
         case hc => (show _ = _; kernel_rfl)
         case ht => simp [X.cells_eq, hv, dS]; exact Is.rfl)
      | apply WP.block
      | apply WP.skip
      | apply WP.exit
      | apply WP.ret)
    show WP _ _ _ _ _ _
    refine WP.cond _ rfl (fun hb => ?_) (fun hb => ?_)
    · simp at hb
    · apply WP.skip
      exact hcont _ _
  | true =>
    rw [hq] at hv
    by_cases hnm : x.nm = []
    · simp only [hnm] at hv
      repeat (first
        | apply WP.seq
        | (apply WP.reg
           case hR => dsimp only [prepL, prepO, List.map, List.getElem?_cons_succ, List.getElem?_cons_zero]; exact Is.rfl
           case hr =>
             repeat (first
               | (apply RT.op (h := by simp [X.cells_eq, hv, dS, hnm]; exact Is.rfl) (he := rfl))
               | (apply RT.call (hg := by simp; exact Is.rfl) (hfo := by simp; exact Is.rfl) (hvs := by simp [X.cells_eq, hv, dS, hnm]; exact Is.rfl) (hcl := by simp [X.cells_eq, hv, dS, hnm]; exact Is.rfl) (hd := by simp [X.cells_eq, hv, dS, hnm]; exact Is.rfl) (hwr := by simp [X.cells_eq, hv, dS, hnm]; exact Is.rfl) (hlt := by simp [Is]) (he := rfl) (hh := by simp; exact Is.rfl) (hw := by simp; exact Is.rfl))
               | (apply RT.wr (h := by simp [X.cells_eq, hv, dS, hnm]; exact Is.rfl) (he := rfl) (hh := by simp [X.cells_eq, hv, dS, hnm]; exact Is.rfl) (hn := by exact Is.rfl) (hc := by exact Is.rfl) (hw := by simp; exact Is.rfl)))
             exact RT.nil
           case hc => (show _ = _; kernel_rfl)
           case ht => simp [X.cells_eq, hv, dS, hnm]; exact Is.rfl)
        | apply WP.block
        | apply WP.skip
        | apply WP.exit
        | apply WP.ret)
      show WP _ _ _ _ _ _
      refine WP.cond _ rfl (fun hb => ?_) (fun hb => ?_)
      · apply WP.reg
        case hR => dsimp only [prepL, prepO, List.map, List.getElem?_cons_succ, List.getElem?_cons_zero]; exact Is.rfl
        case hr =>
          repeat (first
            | (apply RT.op (h := by simp [hnm]; exact Is.rfl) (he := rfl))
            | (apply RT.call (hg := by simp; exact Is.rfl) (hfo := by simp; exact Is.rfl) (hvs := by simp [hnm]; exact Is.rfl) (hcl := by simp [hnm]; exact Is.rfl) (hd := by simp [hnm]; exact Is.rfl) (hwr := by simp [hnm]; exact Is.rfl) (hlt := by simp [Is]) (he := rfl) (hh := by simp; exact Is.rfl) (hw := by simp; exact Is.rfl))
            | (apply RT.wr (h := by simp [hnm]; exact Is.rfl) (he := rfl) (hh := by simp [hnm]; exact Is.rfl) (hn := by exact Is.rfl) (hc := by exact Is.rfl) (hw := by simp; exact Is.rfl)))
          exact RT.nil
        case hc => (show _ = _; kernel_rfl)
        case ht => simp [hnm]; exact Is.rfl
        have := hcont 2 []
        rw [hnm] at this
        exact this
      · simp at hb
    · repeat (first
        | apply WP.seq
        | (apply WP.reg
           case hR => dsimp only [prepL, prepO, List.map, List.getElem?_cons_succ, List.getElem?_cons_zero]; exact Is.rfl
           case hr =>
             repeat (first
               | (apply RT.op (h := by simp [X.cells_eq, hv, dS, hnm]; exact Is.rfl) (he := rfl))
               | (apply RT.call (hg := by simp; exact Is.rfl) (hfo := by simp; exact Is.rfl) (hvs := by simp [X.cells_eq, hv, dS, hnm]; exact Is.rfl) (hcl := by simp [X.cells_eq, hv, dS, hnm]; exact Is.rfl) (hd := by simp [X.cells_eq, hv, dS, hnm]; exact Is.rfl) (hwr := by simp [X.cells_eq, hv, dS, hnm]; exact Is.rfl) (hlt := by simp [Is]) (he := rfl) (hh := by simp; exact Is.rfl) (hw := by simp; exact Is.rfl))
               | (apply RT.wr (h := by simp [X.cells_eq, hv, dS, hnm]; exact Is.rfl) (he := rfl) (hh := by simp [X.cells_eq, hv, dS, hnm]; exact Is.rfl) (hn := by exact Is.rfl) (hc := by exact Is.rfl) (hw := by simp; exact Is.rfl)))
             exact RT.nil
           case hc => (show _ = _; kernel_rfl)
           case ht => simp [X.cells_eq, hv, dS, hnm]; exact Is.rfl)
        | apply WP.block
        | apply WP.skip
        | apply WP.exit
        | apply WP.ret)
      show WP _ _ _ _ _ _
      refine WP.cond _ rfl (fun hb => ?_) (fun hb => ?_)
      · simp [hnm] at hb
      · apply WP.skip
        exact hcont _ _

theorem copied_den (x : X) (hl : x.sz ≤ MB) : den Try.prog Hn.cfg 32 [aX' x] = some (aX' x) := by
  have h1 := rename_den (x.sz + 1) x (by omega) hl
  simp only [aX', X.cells_eq, List.map, dS] at h1
  refine den_wp Try.func32 rfl (by kernel_rfl) rfl (by rw [aX', X.cells_eq]; rfl) ?_
  repeat (first
    | apply WP.seq
    | (apply WP.reg
       case hR => dsimp only [prepL, prepO, List.map, List.getElem?_cons_succ, List.getElem?_cons_zero]; exact Is.rfl
       case hr =>
         repeat (first
           | (apply RT.op (h := by simp [envOf, aX', X.cells_eq, h1]; exact Is.rfl) (he := rfl))
           | (apply RT.call (hg := by simp; exact Is.rfl) (hfo := by simp; exact Is.rfl) (hvs := by simp [envOf, aX', X.cells_eq, h1]; exact Is.rfl) (hcl := by simp [envOf, aX', X.cells_eq, h1]; exact Is.rfl) (hd := by simp [envOf, aX', X.cells_eq, h1]; exact Is.rfl) (hwr := by simp [envOf, aX', X.cells_eq, h1]; exact Is.rfl) (hlt := by simp [Is]) (he := rfl) (hh := by simp; exact Is.rfl) (hw := by simp; exact Is.rfl))
           | (apply RT.wr (h := by simp [envOf, aX', X.cells_eq, h1]; exact Is.rfl) (he := rfl) (hh := by simp [envOf, aX', X.cells_eq, h1]; exact Is.rfl) (hn := by exact Is.rfl) (hc := by exact Is.rfl) (hw := by simp; exact Is.rfl)))
         exact RT.nil
       case hc => (show _ = _; kernel_rfl)
       case ht => simp [envOf, aX', X.cells_eq, h1]; exact Is.rfl)
    | apply WP.block
    | apply WP.skip
    | apply WP.exit
    | apply WP.ret)
  refine ⟨.inr rfl, [.agg [.d (.int .i64 x.k), .d (.int .i64 x.o), .d (.int .i64 x.t), .d (.int .i64 x.v), .d (.str x.nm), .d (.slice (encX x.args))]], [], ?_, ?_⟩
  · show resultsV _ _ [.cell 2 34] = _
    simp [resultsV, resultV]
  · simp [tup, closeT, aX', X.cells_eq]
end Go.Ab
