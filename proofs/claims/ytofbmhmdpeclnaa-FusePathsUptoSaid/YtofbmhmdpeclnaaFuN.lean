/- Lists of statements in objects; Join of the document. -/
import Derived.Test.YtofbmhmdpeclnaaFuM
set_option linter.unusedVariables false
set_option linter.unusedSimpArgs false
set_option maxRecDepth 4000
set_option linter.unusedSimpArgs false
set_option linter.unusedVariables false
namespace Go.Ab
open Go.Proofs

/-! ### Rows in objects -/
theorem nble_eq (a b : Nat) : Nat.ble a b = decide (a ≤ b) := by
  by_cases h : a ≤ b
  · rw [decide_eq_true h, Nat.ble_eq]; exact h
  · rw [decide_eq_false h]
    cases hb : Nat.ble a b with
    | false => rfl
    | true => rw [Nat.ble_eq] at hb; exact absurd hb h
theorem flat_len {α : Type} {sz : Nat} : ∀ {rows : List (List α)}, (∀ r ∈ rows, r.length = sz) → rows.flatten.length = rows.length * sz
  | [], _ => by simp
  | r :: l, h => by
    simp only [List.mem_cons, forall_eq_or_imp] at h
    rw [List.flatten_cons, List.length_append, h.1, flat_len h.2, List.length_cons, Nat.succ_mul]; omega
theorem toDs_d (look : Look) (f : Nat) : ∀ l : List D, toDs (toD look f) (l.map .d) = some (l, [])
  | [] => rfl
  | x :: l => by
    have h1 : toD look f (.d x) = some (x, []) := by cases f <;> rfl
    simp only [List.map, toDs, h1, toDs_d look f l]; rfl
theorem chunk_flat {sz : Nat} : ∀ {rows : List (List D)}, (∀ r ∈ rows, r.length = sz) → chunk sz rows.length rows.flatten = rows
  | [], _ => rfl
  | r :: l, h => by
    simp only [List.mem_cons, forall_eq_or_imp] at h
    have h1 : (r ++ l.flatten).take sz = r := by rw [← h.1]; simp
    have h2 : (r ++ l.flatten).drop sz = l.flatten := by rw [← h.1]; simp
    simp only [List.length_cons, chunk, List.flatten_cons, h1, h2, chunk_flat h.2]
theorem flat_get {α : Type} {sz : Nat} : ∀ {rows : List (List α)} {i : Nat} {r : List α}, (∀ r ∈ rows, r.length = sz) → rows[i]? = some r → (rows.flatten.drop (i * sz)).take sz = r
  | [], i, r, _, h => by simp at h
  | a :: l, 0, r, h, hi => by
    simp only [List.mem_cons, forall_eq_or_imp] at h
    simp at hi; subst hi
    rw [List.flatten_cons, Nat.zero_mul, List.drop_zero, ← h.1]; simp
  | a :: l, i + 1, r, h, hi => by
    simp only [List.mem_cons, forall_eq_or_imp] at h
    simp at hi
    have := flat_get h.2 hi
    rw [List.flatten_cons, ← this, Nat.succ_mul, Nat.add_comm, ← h.1, ← List.drop_drop, List.drop_left]
theorem flat_set {α : Type} {sz : Nat} : ∀ {rows : List (List α)} {i : Nat} {r : List α}, (∀ r ∈ rows, r.length = sz) → i < rows.length → rows.flatten.take (i * sz) ++ r ++ rows.flatten.drop (i * sz + sz) = (rows.set i r).flatten
  | [], i, r, _, h => by simp at h
  | a :: l, 0, r, h, hi => by
    simp only [List.mem_cons, forall_eq_or_imp] at h
    have : (a ++ l.flatten).drop sz = l.flatten := by rw [← h.1]; simp
    simp [this]
  | a :: l, i + 1, r, h, hi => by
    simp only [List.mem_cons, forall_eq_or_imp] at h
    simp at hi
    have := flat_set (r := r) h.2 hi
    rw [List.set_cons_succ, List.flatten_cons, List.flatten_cons, ← this]
    have h1 : (a ++ l.flatten).take ((i + 1) * sz) = a ++ l.flatten.take (i * sz) := by
      rw [Nat.succ_mul, Nat.add_comm, ← h.1, List.take_length_add_append]
    have h2 : (a ++ l.flatten).drop ((i + 1) * sz + sz) = l.flatten.drop (i * sz + sz) := by
      rw [show (i + 1) * sz + sz = a.length + (i * sz + sz) by rw [Nat.succ_mul, h.1]; omega, List.drop_length_add_append]
    rw [h1, h2]; simp

/-- The cells of statements, in an object. -/
def cY (l : List Y) : List V := (encY l).flatten.map .d
theorem encY_row (l : List Y) : ∀ r ∈ encY l, r.length = 12 := by
  rw [encY_map]; intro r hr; simp only [List.mem_map] at hr; obtain ⟨y, _, rfl⟩ := hr; exact y.cells_len
theorem cY_len (l : List Y) : (cY l).length = l.length * 12 := by unfold cY; rw [List.length_map, flat_len (encY_row l), encY_len]
theorem cY_take (l : List Y) : (cY l).take (l.length * 12) = cY l := by rw [← cY_len, List.take_length]
theorem cY_toDs (look : Look) (f : Nat) (l : List Y) : toDs (toD look f) (cY l) = some ((encY l).flatten, []) := toDs_d look f _
theorem cY_chunk (l : List Y) : chunk 12 l.length (encY l).flatten = encY l := by
  have := chunk_flat (encY_row l); rwa [encY_len] at this
theorem encY_app : ∀ a b : List Y, encY (a ++ b) = encY a ++ encY b
  | [], b => by simp [encY]
  | y :: a, b => by simp [encY, encY_app a b]
theorem cY_app (a b : List Y) : cY (a ++ b) = cY a ++ cY b := by unfold cY; rw [encY_app]; simp
theorem cY_one (y : Y) : cY [y] = y.cells.map .d := by simp [cY, encY]
theorem cY_nil : cY [] = [] := by simp [cY, encY]
theorem cY_get {l : List Y} {i : Nat} {y : Y} (h : l[i]? = some y) : ((cY l).drop (i * 12)).take 12 = y.cells.map .d := by
  unfold cY
  rw [← List.map_drop, ← List.map_take, flat_get (encY_row l) (encY_at h)]
theorem cY_set {l : List Y} {i : Nat} {y : Y} (h : i < l.length) : (cY l).take (i * 12) ++ y.cells.map .d ++ (cY l).drop (i * 12 + 12) = cY (l.set i y) := by
  unfold cY
  rw [← List.map_take, ← List.map_drop, ← List.map_append, ← List.map_append, flat_set (encY_row l) (by rw [encY_len]; exact h)]
  congr 2
  rw [encY_map, encY_map, List.map_set]

/-- The cells of branches, in an object. -/
def cB (l : List (List Y)) : List V := l.map fun b => .d (.slice (encY b))
theorem cB_len (l : List (List Y)) : (cB l).length = l.length := by simp [cB]
theorem cB_take (l : List (List Y)) : (cB l).take l.length = cB l := by rw [← cB_len, List.take_length]
theorem cB_app (a b : List (List Y)) : cB (a ++ b) = cB a ++ cB b := by simp [cB]
theorem cB_one (b : List Y) : cB [b] = [.d (.slice (encY b))] := rfl
theorem cB_eq (l : List (List Y)) : cB l = (encB l).flatten.map .d := by
  rw [encB_map]; unfold cB
  induction l with
  | nil => rfl
  | cons b r ih => simp only [List.map, List.flatten_cons, ih]; rfl
theorem encB_row (l : List (List Y)) : ∀ r ∈ encB l, r.length = 1 := by
  rw [encB_map]; intro r hr; simp only [List.mem_map] at hr; obtain ⟨y, _, rfl⟩ := hr; rfl
theorem cB_toDs (look : Look) (f : Nat) (l : List (List Y)) : toDs (toD look f) (cB l) = some ((encB l).flatten, []) := by rw [cB_eq]; exact toDs_d look f _
theorem cB_chunk (l : List (List Y)) : chunk 1 l.length (encB l).flatten = encB l := by
  have := chunk_flat (encB_row l); rwa [encB_len] at this
theorem cB_get {l : List (List Y)} {i : Nat} {b : List Y} (h : l[i]? = some b) : (cB l)[i]? = some (.d (.slice (encY b))) := by simp [cB, h]

theorem toD_dep (look : Look) (id g off len sz : Nat) (cap : Option Nat) : toD look depthD (.osl id g off len sz cap) = match live look id g with
    | some o => match Nat.ble (off + len * sz) o.cells.length, toDs (toD look 4611686018427387903) ((o.cells.drop off).take (len * sz)) with
      | true, some (ds, r) => some (.slice (chunk sz len ds), id :: r)
      | _, _ => none
    | none => none := Eq.trans rfl rfl

attribute [simp] toD_dep nble_eq cY_len cY_take cY_toDs cY_chunk cB_len cB_take cB_toDs cB_chunk fitsB fillV closeParts cl2 cY_nil

theorem lim_some_iff : True := trivial

/-- The bound under which lists are built. -/
def MB : Nat := 100000000000

theorem Y.with_cells (y : Y) (b : List (List Y)) : (y.with b).cells = [.int .i64 y.k, .str y.nm, .int .i64 y.t, .int .i64 y.r.k, .int .i64 y.r.o, .int .i64 y.r.t, .int .i64 y.r.v, .str y.r.nm, .slice (encX y.r.args), .slice (encN y.outs), .slice (encX y.args), .slice (encB b)] := by
  rw [Y.cells_eq]; simp [Y.with, Y.k, Y.nm, Y.t, Y.r, Y.outs, Y.args, Y.brs]

theorem rowsOf_Y (look : Look) (x : List Y) : rowsOf look 12 (.d (.slice (encY x))) = some (x.length, cY x, []) := by
  have : (encY x).all (fun r => Nat.beq r.length 12) = true := by rw [List.all_eq_true]; intro r hr; rw [encY_row x r hr]; rfl
  simp only [rowsOf, this, if_true, encY_len]; rfl
theorem rowsOf_nil (look : Look) (sz : Nat) : rowsOf look sz (.d (.slice [])) = some (0, [], []) := rfl
attribute [simp] rowsOf_Y rowsOf_nil

theorem jstep_emp {rec : List Y → List Y} {out : List Y} {s : Y} {bs : List (List Y)} (hk : s.k = 3) (hbs : bs = s.brs.map rec) (he : empB bs = true) : jstep rec out s = out := by
  subst hbs; simp [jstep, hk, he]
theorem jstep_none {rec : List Y → List Y} {out : List Y} {s : Y} {bs : List (List Y)} (hk : s.k = 3) (hbs : bs = s.brs.map rec) (he : empB bs = false) (ho : out.getLast? = none) : jstep rec out s = out ++ [s.with bs] := by
  subst hbs; simp [jstep, hk, he, ho]
theorem jstep_no {rec : List Y → List Y} {out : List Y} {s a : Y} {bs : List (List Y)} (hk : s.k = 3) (hbs : bs = s.brs.map rec) (he : empB bs = false) (ho : out.getLast? = some a) (hf : fitY a (s.with bs) = false) : jstep rec out s = out ++ [s.with bs] := by
  subst hbs; simp [jstep, hk, he, ho, hf]
theorem jstep_fit {rec : List Y → List Y} {out : List Y} {s a : Y} {bs : List (List Y)} (hk : s.k = 3) (hbs : bs = s.brs.map rec) (he : empB bs = false) (ho : out.getLast? = some a) (hf : fitY a (s.with bs) = true) :
    jstep rec out s = out.dropLast ++ [a.with (List.zipWith (fun x y => rec (x ++ y)) a.brs bs)] := by
  subst hbs; simp [jstep, hk, he, ho, hf]

set_option maxHeartbeats 4000000 in
theorem refBoth (N : Nat) (ihN : ∀ l : List Y, szY l < N → szY l ≤ MB → den Try.prog Hn.cfg 11 [dY l] = some (dY (Jf N l))) (l o : List Y) (i g gb gl0 g40 c0 : Nat) (a : Y) (bs zs : List (List Y)) (o1 : Ob)
    (hzs : zs = List.zipWith (fun x y => Jf N (x ++ y)) a.brs bs) (hfl : a.brs.length = bs.length) (hzl : zs.length = bs.length) (hsz : szB a.brs + szB bs ≤ N) (hszm : szB a.brs + szB bs ≤ MB) :
    WP Try.prog Hn.cfg 11 (inside Try.f11 4) ⟨[(0, dY l), (3, .osl 0 g 0 o.length 12 none), (4, dI i), (6, .osl 2 gb 0 bs.length 1 none), (8, .ptr 3 gl0 0), (9, .osl 4 g40 0 0 1 none), (10, dI 0)],
      [(0, ⟨g, false, cY o⟩), (1, o1), (2, ⟨gb, false, cB bs⟩), (3, ⟨gl0, false, a.cells.map .d⟩), (4, ⟨g40, false, []⟩)], 5, c0, 0, []⟩
      (fun e t => e = .exit 4 ∧ ∃ gl g4 c, t = ⟨[(0, dY l), (3, .osl 0 g 0 o.length 12 none), (4, dI i), (6, .osl 2 gb 0 bs.length 1 none), (8, .ptr 3 gl 0), (9, .osl 4 g4 0 bs.length 1 none), (10, dI bs.length), (75, .d (.bool false))],
      [(0, ⟨g, false, cY o⟩), (1, o1), (2, ⟨gb, false, cB bs⟩), (3, ⟨gl, false, a.cells.map .d⟩), (4, ⟨g4, false, cB zs⟩)], 5, c, 0, []⟩) := by
  have hlab := len_szB bs
  unfold MB at hszm
  refine WP.loop' (I := fun d s => ∃ j : Nat, j + d = bs.length ∧ ∃ gl g4 c, s = ⟨[(0, dY l), (3, .osl 0 g 0 o.length 12 none), (4, dI i), (6, .osl 2 gb 0 bs.length 1 none), (8, .ptr 3 gl 0), (9, .osl 4 g4 0 j 1 none), (10, dI j)],
                [(0, ⟨g, false, cY o⟩), (1, o1), (2, ⟨gb, false, cB bs⟩), (3, ⟨gl, false, a.cells.map .d⟩), (4, ⟨g4, false, cB (zs.take j)⟩)], 5, c, 0, []⟩) (d := bs.length) ?_ ?_
  · exact ⟨0, by simp, gl0, g40, c0, st_eq (by simp [dI, dY]) (by simp [Y.cells_eq, cB])⟩
  rintro d3 _ ⟨j, hj3, gl, g4, c, rfl⟩
  repeat (first
    | apply WP.seq
    | (apply WP.reg
       case hR => dsimp only [prepL, prepO, List.map, List.getElem?_cons_succ, List.getElem?_cons_zero]; exact Is.rfl
       case hr =>
         repeat (first
           | (apply RT.op (h := by simp [dI, dY]; exact Is.rfl) (he := rfl))
           | (apply RT.call (hg := by simp; exact Is.rfl) (hfo := by simp; exact Is.rfl) (hvs := by simp [dI, dY]; exact Is.rfl) (hcl := by simp [dI, dY]; exact Is.rfl) (hd := by simp [dI, dY]; exact Is.rfl) (hwr := by simp [dI, dY]; exact Is.rfl) (hlt := by simp [Is]) (he := rfl) (hh := by simp; exact Is.rfl) (hw := by simp; exact Is.rfl))
           | (apply RT.wr (h := by simp [dI, dY]; exact Is.rfl) (he := rfl) (hh := by simp [dI, dY]; exact Is.rfl) (hn := by exact Is.rfl) (hc := by exact Is.rfl) (hw := by simp; exact Is.rfl)))
         exact RT.nil
       case hc => (show _ = _; kernel_rfl)
       case ht => simp [dI, dY]; exact Is.rfl)
    | apply WP.block
    | apply WP.skip
    | apply WP.exit
    | apply WP.ret)
  show WP _ _ _ _ _ _
  refine WP.cond _ rfl (fun hb => ?_) (fun hb => ?_)
  · simp at hb
    obtain ⟨z, hzr, hzm, hzx⟩ := at_lt hb
    obtain ⟨x, hxr, hxm, hxx⟩ := at_lt (l := a.brs) (i := j) (by omega)
    have hxa := encB_at hxr
    have hza := cB_get hzr
    have hxs := mem_szB hxm
    have hzsz := mem_szB hzm
    have hw2 := w_succ hb (by omega)
    obtain ⟨w, hww⟩ : ∃ w, w = x ++ z := ⟨_, rfl⟩
    have hws : szY w = szY x + szY z := by rw [hww, szY_app]
    have ih := ihN w (by omega) (by unfold MB; omega)
    simp only [dY] at ih
    have hcw : cY x ++ cY z = cY w := by rw [hww, cY_app]
    have hlw : x.length + z.length = w.length := by rw [hww]; simp
    have hlws := len_szY w
    have hfit : (j + 1) * 24 ≤ 140737488355328 := by omega
    have hfx : x.length * 176 ≤ 140737488355328 := by omega
    have hfw : w.length * 176 ≤ 140737488355328 := by omega
    have hmin : min j zs.length = j := by omega
    have hct := cB_take (zs.take j)
    simp [hmin] at hct
    have hzj : zs[j]? = some (Jf N w) := by rw [hzs]; simp [List.getElem?_zipWith, hxr, hzr, hww]
    by_cases hx : x = []
    · subst hx
      have hwz : w = z := by rw [hww]; rfl
      subst hwz
      by_cases hz : w = []
      · subst hz
        simp [encY] at ih
        repeat (first
          | apply WP.seq
          | (apply WP.reg
             case hR => dsimp only [prepL, prepO, List.map, List.getElem?_cons_succ, List.getElem?_cons_zero]; exact Is.rfl
             case hr =>
               repeat (first
                 | (apply RT.op (h := by simp [Y.cells_eq, hxx, hxa, hzx, hza, ih, hfit, hmin, hct]; exact Is.rfl) (he := rfl))
                 | (apply RT.call (hg := by simp; exact Is.rfl) (hfo := by simp; exact Is.rfl) (hvs := by simp [Y.cells_eq, hxx, hxa, hzx, hza, ih, hfit, hmin, hct]; exact Is.rfl) (hcl := by simp [Y.cells_eq, hxx, hxa, hzx, hza, ih, hfit, hmin, hct]; exact Is.rfl) (hd := by simp [Y.cells_eq, hxx, hxa, hzx, hza, ih, hfit, hmin, hct]; exact Is.rfl) (hwr := by simp [Y.cells_eq, hxx, hxa, hzx, hza, ih, hfit, hmin, hct]; exact Is.rfl) (hlt := by simp [Is]) (he := rfl) (hh := by simp; exact Is.rfl) (hw := by simp; exact Is.rfl))
                 | (apply RT.wr (h := by simp [Y.cells_eq, hxx, hxa, hzx, hza, ih, hfit, hmin, hct]; exact Is.rfl) (he := rfl) (hh := by simp [Y.cells_eq, hxx, hxa, hzx, hza, ih, hfit, hmin, hct]; exact Is.rfl) (hn := by exact Is.rfl) (hc := by exact Is.rfl) (hw := by simp; exact Is.rfl)))
               exact RT.nil
             case hc => (show _ = _; kernel_rfl)
             case ht => simp [Y.cells_eq, hxx, hxa, hzx, hza, ih, hfit, hmin, hct]; exact Is.rfl)
          | apply WP.block
          | apply WP.skip
          | apply WP.exit
          | apply WP.ret)
        refine loop_next (by simp; exact Is.rfl) ?_
        exact ⟨d3 - 1, by omega, j + 1, by omega, gl, c + 1 + 1, _, st_eq (by simp [dI, dY, hw2]) (by simp [take_S hzj, cB_app, cB_one, Y.cells_eq])⟩
      · simp [encY] at hxa
        repeat (first
          | apply WP.seq
          | (apply WP.reg
             case hR => dsimp only [prepL, prepO, List.map, List.getElem?_cons_succ, List.getElem?_cons_zero]; exact Is.rfl
             case hr =>
               repeat (first
                 | (apply RT.op (h := by simp [Y.cells_eq, hxx, hxa, hzx, hza, ih, hfit, hmin, hct, hz, hfw]; exact Is.rfl) (he := rfl))
                 | (apply RT.call (hg := by simp; exact Is.rfl) (hfo := by simp; exact Is.rfl) (hvs := by simp [Y.cells_eq, hxx, hxa, hzx, hza, ih, hfit, hmin, hct, hz, hfw]; exact Is.rfl) (hcl := by simp [Y.cells_eq, hxx, hxa, hzx, hza, ih, hfit, hmin, hct, hz, hfw]; exact Is.rfl) (hd := by simp [Y.cells_eq, hxx, hxa, hzx, hza, ih, hfit, hmin, hct, hz, hfw]; exact Is.rfl) (hwr := by simp [Y.cells_eq, hxx, hxa, hzx, hza, ih, hfit, hmin, hct, hz, hfw]; exact Is.rfl) (hlt := by simp [Is]) (he := rfl) (hh := by simp; exact Is.rfl) (hw := by simp; exact Is.rfl))
                 | (apply RT.wr (h := by simp [Y.cells_eq, hxx, hxa, hzx, hza, ih, hfit, hmin, hct, hz, hfw]; exact Is.rfl) (he := rfl) (hh := by simp [Y.cells_eq, hxx, hxa, hzx, hza, ih, hfit, hmin, hct, hz, hfw]; exact Is.rfl) (hn := by exact Is.rfl) (hc := by exact Is.rfl) (hw := by simp; exact Is.rfl)))
               exact RT.nil
             case hc => (show _ = _; kernel_rfl)
             case ht => simp [Y.cells_eq, hxx, hxa, hzx, hza, ih, hfit, hmin, hct, hz, hfw]; exact Is.rfl)
          | apply WP.block
          | apply WP.skip
          | apply WP.exit
          | apply WP.ret)
        refine loop_next (by simp; exact Is.rfl) ?_
        exact ⟨d3 - 1, by omega, j + 1, by omega, gl, _, _, st_eq (by simp [dI, dY, hw2] <;> rfl) (by simp [take_S hzj, cB_app, cB_one, Y.cells_eq])⟩
    · repeat (first
        | apply WP.seq
        | (apply WP.reg
           case hR => dsimp only [prepL, prepO, List.map, List.getElem?_cons_succ, List.getElem?_cons_zero]; exact Is.rfl
           case hr =>
             repeat (first
               | (apply RT.op (h := by simp [Y.cells_eq, hxx, hxa, hzx, hza, ih, hfit, hmin, hct, hx, hfw, hfx, hcw, hlw]; exact Is.rfl) (he := rfl))
               | (apply RT.call (hg := by simp; exact Is.rfl) (hfo := by simp; exact Is.rfl) (hvs := by simp [Y.cells_eq, hxx, hxa, hzx, hza, ih, hfit, hmin, hct, hx, hfw, hfx, hcw, hlw]; exact Is.rfl) (hcl := by simp [Y.cells_eq, hxx, hxa, hzx, hza, ih, hfit, hmin, hct, hx, hfw, hfx, hcw, hlw]; exact Is.rfl) (hd := by simp [Y.cells_eq, hxx, hxa, hzx, hza, ih, hfit, hmin, hct, hx, hfw, hfx, hcw, hlw]; exact Is.rfl) (hwr := by simp [Y.cells_eq, hxx, hxa, hzx, hza, ih, hfit, hmin, hct, hx, hfw, hfx, hcw, hlw]; exact Is.rfl) (hlt := by simp [Is]) (he := rfl) (hh := by simp; exact Is.rfl) (hw := by simp; exact Is.rfl))
               | (apply RT.wr (h := by simp [Y.cells_eq, hxx, hxa, hzx, hza, ih, hfit, hmin, hct, hx, hfw, hfx, hcw, hlw]; exact Is.rfl) (he := rfl) (hh := by simp [Y.cells_eq, hxx, hxa, hzx, hza, ih, hfit, hmin, hct, hx, hfw, hfx, hcw, hlw]; exact Is.rfl) (hn := by exact Is.rfl) (hc := by exact Is.rfl) (hw := by simp; exact Is.rfl)))
             exact RT.nil
           case hc => (show _ = _; kernel_rfl)
           case ht => simp [Y.cells_eq, hxx, hxa, hzx, hza, ih, hfit, hmin, hct, hx, hfw, hfx, hcw, hlw]; exact Is.rfl)
        | apply WP.block
        | apply WP.skip
        | apply WP.exit
        | apply WP.ret)
      refine loop_next (by simp; exact Is.rfl) ?_
      exact ⟨d3 - 1, by omega, j + 1, by omega, gl, _, _, st_eq (by simp [dI, dY, hw2] <;> rfl) (by simp [take_S hzj, cB_app, cB_one, Y.cells_eq])⟩
  · simp at hb
    have hje : j = bs.length := by omega
    subst hje
    have htz : zs.take bs.length = zs := by rw [← hzl]; exact List.take_length
    repeat (first
      | apply WP.seq
      | (apply WP.reg
         case hR => dsimp only [prepL, prepO, List.map, List.getElem?_cons_succ, List.getElem?_cons_zero]; exact Is.rfl
         case hr =>
           repeat (first
             | (apply RT.op (h := by simp; exact Is.rfl) (he := rfl))
             | (apply RT.call (hg := by simp; exact Is.rfl) (hfo := by simp; exact Is.rfl) (hvs := by simp; exact Is.rfl) (hcl := by simp; exact Is.rfl) (hd := by simp; exact Is.rfl) (hwr := by simp; exact Is.rfl) (hlt := by simp [Is]) (he := rfl) (hh := by simp; exact Is.rfl) (hw := by simp; exact Is.rfl))
             | (apply RT.wr (h := by simp; exact Is.rfl) (he := rfl) (hh := by simp; exact Is.rfl) (hn := by exact Is.rfl) (hc := by exact Is.rfl) (hw := by simp; exact Is.rfl)))
           exact RT.nil
         case hc => (show _ = _; kernel_rfl)
         case ht => simp; exact Is.rfl)
      | apply WP.block
      | apply WP.skip
      | apply WP.exit
      | apply WP.ret)
    exact ⟨rfl, gl, g4, _, st_eq (by simp [dI, dY]) (by simp [htz, Y.cells_eq])⟩

set_option maxHeartbeats 4000000 in
theorem refJoin_den : ∀ (N : Nat) (l : List Y), szY l < N → szY l ≤ MB → den Try.prog Hn.cfg 11 [dY l] = some (dY (Jf N l)) := by
  intro N
  induction N with
  | zero => intro l hN hl; omega
  | succ N ihN =>
  intro l hN hl
  have hll := len_szY l
  unfold MB at hl
  refine den_wp Try.func11 rfl (by kernel_rfl) rfl rfl ?_
  repeat (first
    | apply WP.seq
    | (apply WP.reg
       case hR => dsimp only [prepL, prepO, List.map, List.getElem?_cons_succ, List.getElem?_cons_zero]; exact Is.rfl
       case hr =>
         repeat (first
           | (apply RT.op (h := by simp [envOf]; exact Is.rfl) (he := rfl))
           | (apply RT.call (hg := by simp; exact Is.rfl) (hfo := by simp; exact Is.rfl) (hvs := by simp [envOf]; exact Is.rfl) (hcl := by simp [envOf]; exact Is.rfl) (hd := by simp [envOf]; exact Is.rfl) (hwr := by simp [envOf]; exact Is.rfl) (hlt := by simp [Is]) (he := rfl) (hh := by simp; exact Is.rfl) (hw := by simp; exact Is.rfl))
           | (apply RT.wr (h := by simp [envOf]; exact Is.rfl) (he := rfl) (hh := by simp [envOf]; exact Is.rfl) (hn := by exact Is.rfl) (hc := by exact Is.rfl) (hw := by simp; exact Is.rfl)))
         exact RT.nil
       case hc => (show _ = _; kernel_rfl)
       case ht => simp [envOf]; exact Is.rfl)
    | apply WP.block
    | apply WP.skip
    | apply WP.exit
    | apply WP.ret)
  apply WP.loop' (I := fun d s => ∃ i : Nat, i + d = l.length ∧ ∃ g c, s = ⟨[(0, dY l), (3, .osl 0 g 0 (Jp N l i).length 12 none), (4, dI i)], [(0, ⟨g, false, cY (Jp N l i)⟩)], 1, c, 0, []⟩) (d := l.length)
  · exact ⟨0, by simp, 0, _, st_eq (by simp [dI, Jp_zero]) (by simp [Jp_zero])⟩
  rintro d _ ⟨i, hi, g, c, rfl⟩
  repeat (first
    | apply WP.seq
    | (apply WP.reg
       case hR => dsimp only [prepL, prepO, List.map, List.getElem?_cons_succ, List.getElem?_cons_zero]; exact Is.rfl
       case hr =>
         repeat (first
           | (apply RT.op (h := by simp [dI, dY]; exact Is.rfl) (he := rfl))
           | (apply RT.call (hg := by simp; exact Is.rfl) (hfo := by simp; exact Is.rfl) (hvs := by simp [dI, dY]; exact Is.rfl) (hcl := by simp [dI, dY]; exact Is.rfl) (hd := by simp [dI, dY]; exact Is.rfl) (hwr := by simp [dI, dY]; exact Is.rfl) (hlt := by simp [Is]) (he := rfl) (hh := by simp; exact Is.rfl) (hw := by simp; exact Is.rfl))
           | (apply RT.wr (h := by simp [dI, dY]; exact Is.rfl) (he := rfl) (hh := by simp [dI, dY]; exact Is.rfl) (hn := by exact Is.rfl) (hc := by exact Is.rfl) (hw := by simp; exact Is.rfl)))
         exact RT.nil
       case hc => (show _ = _; kernel_rfl)
       case ht => simp [dI, dY]; exact Is.rfl)
    | apply WP.block
    | apply WP.skip
    | apply WP.exit
    | apply WP.ret)
  show WP _ _ _ _ _ _
  refine WP.cond _ rfl (fun hb => ?_) (fun hb => ?_)
  · simp at hb
    obtain ⟨y, hy, hym, hix⟩ := at_lt hb
    have hy' := encY_at hy
    have hw := w_succ hb (by omega)
    have hJ := Jp_succ (n := N) hy
    have h1 := szY_takeS hy
    have h1' := h1
    have hJs := Jp_sz N l i
    have hJl := len_szY (Jp N l i)
    rw [Y.sz_eq] at h1
    have h3 := len_szB y.brs
    repeat (first
      | apply WP.seq
      | (apply WP.reg
         case hR => dsimp only [prepL, prepO, List.map, List.getElem?_cons_succ, List.getElem?_cons_zero]; exact Is.rfl
         case hr =>
           repeat (first
             | (apply RT.op (h := by simp [dY, hix, hy', Y.cells_eq]; exact Is.rfl) (he := rfl))
             | (apply RT.call (hg := by simp; exact Is.rfl) (hfo := by simp; exact Is.rfl) (hvs := by simp [dY, hix, hy', Y.cells_eq]; exact Is.rfl) (hcl := by simp [dY, hix, hy', Y.cells_eq]; exact Is.rfl) (hd := by simp [dY, hix, hy', Y.cells_eq]; exact Is.rfl) (hwr := by simp [dY, hix, hy', Y.cells_eq]; exact Is.rfl) (hlt := by simp [Is]) (he := rfl) (hh := by simp; exact Is.rfl) (hw := by simp; exact Is.rfl))
             | (apply RT.wr (h := by simp [dY, hix, hy', Y.cells_eq]; exact Is.rfl) (he := rfl) (hh := by simp [dY, hix, hy', Y.cells_eq]; exact Is.rfl) (hn := by exact Is.rfl) (hc := by exact Is.rfl) (hw := by simp; exact Is.rfl)))
           exact RT.nil
         case hc => (show _ = _; kernel_rfl)
         case ht => simp [dY, hix, hy', Y.cells_eq]; exact Is.rfl)
      | apply WP.block
      | apply WP.skip
      | apply WP.exit
      | apply WP.ret)
    show WP _ _ _ _ _ _
    refine WP.cond _ rfl (fun hb => ?_) (fun hb => ?_)
    · simp at hb
      have hfit : ((Jp N l i).length + 1) * 176 ≤ 140737488355328 := by omega
      have hJn : Jp N l (i + 1) = Jp N l i ++ [y] := by rw [hJ]; simp [jstep, hb]
      repeat (first
        | apply WP.seq
        | (apply WP.reg
           case hR => dsimp only [prepL, prepO, List.map, List.getElem?_cons_succ, List.getElem?_cons_zero]; exact Is.rfl
           case hr =>
             repeat (first
               | (apply RT.op (h := by simp [Y.cells_eq, hfit]; exact Is.rfl) (he := rfl))
               | (apply RT.call (hg := by simp; exact Is.rfl) (hfo := by simp; exact Is.rfl) (hvs := by simp [Y.cells_eq, hfit]; exact Is.rfl) (hcl := by simp [Y.cells_eq, hfit]; exact Is.rfl) (hd := by simp [Y.cells_eq, hfit]; exact Is.rfl) (hwr := by simp [Y.cells_eq, hfit]; exact Is.rfl) (hlt := by simp [Is]) (he := rfl) (hh := by simp; exact Is.rfl) (hw := by simp; exact Is.rfl))
               | (apply RT.wr (h := by simp [Y.cells_eq, hfit]; exact Is.rfl) (he := rfl) (hh := by simp [Y.cells_eq, hfit]; exact Is.rfl) (hn := by exact Is.rfl) (hc := by exact Is.rfl) (hw := by simp; exact Is.rfl)))
             exact RT.nil
           case hc => (show _ = _; kernel_rfl)
           case ht => simp [Y.cells_eq, hfit]; exact Is.rfl)
        | apply WP.block
        | apply WP.skip
        | apply WP.exit
        | apply WP.ret)
      refine loop_next (by simp; exact Is.rfl) ?_
      exact ⟨d - 1, by omega, i + 1, by omega, c + 1 + 1, _, st_eq (by simp [dI, dY, hw, hJn]) (by simp [hJn, cY_app, cY_one, Y.cells_eq])⟩
    · simp at hb
      have hbk := hb
      obtain ⟨bs, hbs⟩ : ∃ bs, bs = y.brs.map (Jf N) := ⟨_, rfl⟩
      have hbl : bs.length = y.brs.length := by rw [hbs]; simp
      have hbz : szB bs ≤ szB y.brs := by rw [hbs]; exact szB_map (Jf_sz N) _
      have hysz := Y.sz_eq y
      have hwz := Y.with_sz y bs
      repeat (first
        | apply WP.seq
        | (apply WP.reg
           case hR => dsimp only [prepL, prepO, List.map, List.getElem?_cons_succ, List.getElem?_cons_zero]; exact Is.rfl
           case hr =>
             repeat (first
               | (apply RT.op (h := by simp; exact Is.rfl) (he := rfl))
               | (apply RT.call (hg := by simp; exact Is.rfl) (hfo := by simp; exact Is.rfl) (hvs := by simp; exact Is.rfl) (hcl := by simp; exact Is.rfl) (hd := by simp; exact Is.rfl) (hwr := by simp; exact Is.rfl) (hlt := by simp [Is]) (he := rfl) (hh := by simp; exact Is.rfl) (hw := by simp; exact Is.rfl))
               | (apply RT.wr (h := by simp; exact Is.rfl) (he := rfl) (hh := by simp; exact Is.rfl) (hn := by exact Is.rfl) (hc := by exact Is.rfl) (hw := by simp; exact Is.rfl)))
             exact RT.nil
           case hc => (show _ = _; kernel_rfl)
           case ht => simp; exact Is.rfl)
        | apply WP.block
        | apply WP.skip
        | apply WP.exit
        | apply WP.ret)
      apply WP.loop' (I := fun d s => ∃ j : Nat, j + d = y.brs.length ∧ ∃ gs gb c, s = ⟨[(0, dY l), (3, .osl 0 g 0 (Jp N l i).length 12 none), (4, dI i), (5, .ptr 1 gs 0), (6, .osl 2 gb 0 j 1 none), (7, dI j)],
        [(0, ⟨g, false, cY (Jp N l i)⟩), (1, ⟨gs, false, y.cells.map .d⟩), (2, ⟨gb, false, cB (bs.take j)⟩)], 3, c, 0, []⟩) (d := y.brs.length)
      · exact ⟨0, by simp, c, c + 1, _, st_eq (by simp [dI, dY]) (by simp [Y.cells_eq, cB])⟩
      rintro d2 _ ⟨j, hj, gs, gb, c, rfl⟩
      repeat (first
        | apply WP.seq
        | (apply WP.reg
           case hR => dsimp only [prepL, prepO, List.map, List.getElem?_cons_succ, List.getElem?_cons_zero]; exact Is.rfl
           case hr =>
             repeat (first
               | (apply RT.op (h := by simp [dI, dY, Y.cells_eq]; exact Is.rfl) (he := rfl))
               | (apply RT.call (hg := by simp; exact Is.rfl) (hfo := by simp; exact Is.rfl) (hvs := by simp [dI, dY, Y.cells_eq]; exact Is.rfl) (hcl := by simp [dI, dY, Y.cells_eq]; exact Is.rfl) (hd := by simp [dI, dY, Y.cells_eq]; exact Is.rfl) (hwr := by simp [dI, dY, Y.cells_eq]; exact Is.rfl) (hlt := by simp [Is]) (he := rfl) (hh := by simp; exact Is.rfl) (hw := by simp; exact Is.rfl))
               | (apply RT.wr (h := by simp [dI, dY, Y.cells_eq]; exact Is.rfl) (he := rfl) (hh := by simp [dI, dY, Y.cells_eq]; exact Is.rfl) (hn := by exact Is.rfl) (hc := by exact Is.rfl) (hw := by simp; exact Is.rfl)))
             exact RT.nil
           case hc => (show _ = _; kernel_rfl)
           case ht => simp [dI, dY, Y.cells_eq]; exact Is.rfl)
        | apply WP.block
        | apply WP.skip
        | apply WP.exit
        | apply WP.ret)
      show WP _ _ _ _ _ _
      refine WP.cond _ rfl (fun hb => ?_) (fun hb => ?_)
      · simp at hb
        obtain ⟨b, hbr, hbm, hbx⟩ := at_lt hb
        have hb' := encB_at hbr
        have h2 := mem_szB hbm
        have hw2 := w_succ hb (by omega)
        have ih := ihN b (by omega) (by unfold MB; omega)
        simp only [dY] at ih
        have hfit : (j + 1) * 24 ≤ 140737488355328 := by omega
        have hmin : min j bs.length = j := by omega
        have hct := cB_take (bs.take j)
        simp [hmin] at hct
        have hba : bs[j]? = some (Jf N b) := by rw [hbs]; simp [hbr]
        repeat (first
          | apply WP.seq
          | (apply WP.reg
             case hR => dsimp only [prepL, prepO, List.map, List.getElem?_cons_succ, List.getElem?_cons_zero]; exact Is.rfl
             case hr =>
               repeat (first
                 | (apply RT.op (h := by simp [Y.cells_eq, hbx, hb', ih, hfit, hmin, hct]; exact Is.rfl) (he := rfl))
                 | (apply RT.call (hg := by simp; exact Is.rfl) (hfo := by simp; exact Is.rfl) (hvs := by simp [Y.cells_eq, hbx, hb', ih, hfit, hmin, hct]; exact Is.rfl) (hcl := by simp [Y.cells_eq, hbx, hb', ih, hfit, hmin, hct]; exact Is.rfl) (hd := by simp [Y.cells_eq, hbx, hb', ih, hfit, hmin, hct]; exact Is.rfl) (hwr := by simp [Y.cells_eq, hbx, hb', ih, hfit, hmin, hct]; exact Is.rfl) (hlt := by simp [Is]) (he := rfl) (hh := by simp; exact Is.rfl) (hw := by simp; exact Is.rfl))
                 | (apply RT.wr (h := by simp [Y.cells_eq, hbx, hb', ih, hfit, hmin, hct]; exact Is.rfl) (he := rfl) (hh := by simp [Y.cells_eq, hbx, hb', ih, hfit, hmin, hct]; exact Is.rfl) (hn := by exact Is.rfl) (hc := by exact Is.rfl) (hw := by simp; exact Is.rfl)))
               exact RT.nil
             case hc => (show _ = _; kernel_rfl)
             case ht => simp [Y.cells_eq, hbx, hb', ih, hfit, hmin, hct]; exact Is.rfl)
          | apply WP.block
          | apply WP.skip
          | apply WP.exit
          | apply WP.ret)
        refine loop_next (by simp; exact Is.rfl) ?_
        exact ⟨d2 - 1, by omega, j + 1, by omega, gs, c + 1, _, st_eq (by simp [dI, dY, hw2]) (by simp [Y.cells_eq, take_S hba, cB_app, cB_one])⟩
      · simp at hb
        have hje : j = y.brs.length := by omega
        subst hje
        have hemp := refEmpty_den (y.with bs) (by unfold MX; omega)
        simp [aY, Y.with_cells] at hemp
        rw [show (y.with bs).brs = bs from rfl] at hemp
        have htk : bs.take y.brs.length = bs := by rw [← hbl]; exact List.take_length
        have hct2 : List.take y.brs.length (cB bs) = cB bs := by rw [← hbl]; exact cB_take bs
        have hch2 : chunk 1 y.brs.length (encB bs).flatten = encB bs := by rw [← hbl]; exact cB_chunk bs
        repeat (first
          | apply WP.seq
          | (apply WP.reg
             case hR => dsimp only [prepL, prepO, List.map, List.getElem?_cons_succ, List.getElem?_cons_zero]; exact Is.rfl
             case hr =>
               repeat (first
                 | (apply RT.op (h := by simp [Y.cells_eq, htk, hbl, hct2, hch2, hemp]; exact Is.rfl) (he := rfl))
                 | (apply RT.call (hg := by simp; exact Is.rfl) (hfo := by simp; exact Is.rfl) (hvs := by simp [Y.cells_eq, htk, hbl, hct2, hch2, hemp]; exact Is.rfl) (hcl := by simp [Y.cells_eq, htk, hbl, hct2, hch2, hemp]; exact Is.rfl) (hd := by simp [Y.cells_eq, htk, hbl, hct2, hch2, hemp]; exact Is.rfl) (hwr := by simp [Y.cells_eq, htk, hbl, hct2, hch2, hemp]; exact Is.rfl) (hlt := by simp [Is]) (he := rfl) (hh := by simp; exact Is.rfl) (hw := by simp; exact Is.rfl))
                 | (apply RT.wr (h := by simp [Y.cells_eq, htk, hbl, hct2, hch2, hemp]; exact Is.rfl) (he := rfl) (hh := by simp [Y.cells_eq, htk, hbl, hct2, hch2, hemp]; exact Is.rfl) (hn := by exact Is.rfl) (hc := by exact Is.rfl) (hw := by simp; exact Is.rfl)))
               exact RT.nil
             case hc => (show _ = _; kernel_rfl)
             case ht => simp [Y.cells_eq, htk, hbl, hct2, hch2, hemp]; exact Is.rfl)
          | apply WP.block
          | apply WP.skip
          | apply WP.exit
          | apply WP.ret)
        show WP _ _ _ _ _ _
        refine WP.cond _ rfl (fun hb => ?_) (fun hb => ?_)
        · repeat (first
            | apply WP.seq
            | (apply WP.reg
               case hR => dsimp only [prepL, prepO, List.map, List.getElem?_cons_succ, List.getElem?_cons_zero]; exact Is.rfl
               case hr =>
                 repeat (first
                   | (apply RT.op (h := by simp; exact Is.rfl) (he := rfl))
                   | (apply RT.call (hg := by simp; exact Is.rfl) (hfo := by simp; exact Is.rfl) (hvs := by simp; exact Is.rfl) (hcl := by simp; exact Is.rfl) (hd := by simp; exact Is.rfl) (hwr := by simp; exact Is.rfl) (hlt := by simp [Is]) (he := rfl) (hh := by simp; exact Is.rfl) (hw := by simp; exact Is.rfl))
                   | (apply RT.wr (h := by simp; exact Is.rfl) (he := rfl) (hh := by simp; exact Is.rfl) (hn := by exact Is.rfl) (hc := by exact Is.rfl) (hw := by simp; exact Is.rfl)))
                 exact RT.nil
               case hc => (show _ = _; kernel_rfl)
               case ht => simp; exact Is.rfl)
            | apply WP.block
            | apply WP.skip
            | apply WP.exit
            | apply WP.ret)
          refine loop_next (by simp; exact Is.rfl) ?_
          have hJn : Jp N l (i + 1) = Jp N l i := by rw [hJ]; simp [jstep, hbk, ← hbs, hb]
          exact ⟨d - 1, by omega, i + 1, by omega, g, _, st_eq (by simp [dI, dY, hw, hJn]) (by simp [hJn])⟩
        · repeat (first
            | apply WP.seq
            | (apply WP.reg
               case hR => dsimp only [prepL, prepO, List.map, List.getElem?_cons_succ, List.getElem?_cons_zero]; exact Is.rfl
               case hr =>
                 repeat (first
                   | (apply RT.op (h := by simp; exact Is.rfl) (he := rfl))
                   | (apply RT.call (hg := by simp; exact Is.rfl) (hfo := by simp; exact Is.rfl) (hvs := by simp; exact Is.rfl) (hcl := by simp; exact Is.rfl) (hd := by simp; exact Is.rfl) (hwr := by simp; exact Is.rfl) (hlt := by simp [Is]) (he := rfl) (hh := by simp; exact Is.rfl) (hw := by simp; exact Is.rfl))
                   | (apply RT.wr (h := by simp; exact Is.rfl) (he := rfl) (hh := by simp; exact Is.rfl) (hn := by exact Is.rfl) (hc := by exact Is.rfl) (hw := by simp; exact Is.rfl)))
                 exact RT.nil
               case hc => (show _ = _; kernel_rfl)
               case ht => simp; exact Is.rfl)
            | apply WP.block
            | apply WP.skip
            | apply WP.exit
            | apply WP.ret)
          have hfit : ((Jp N l i).length + 1) * 176 ≤ 140737488355328 := by omega
          cases hout : (Jp N l i).getLast? with
          | none =>
            have hnil : Jp N l i = [] := List.getLast?_eq_none_iff.1 hout
            have hJn : Jp N l (i + 1) = [y.with bs] := by rw [hJ, hnil]; simp [jstep, hbk, ← hbs, hb]
            rw [hnil]
            repeat (first
              | apply WP.seq
              | (apply WP.reg
                 case hR => dsimp only [prepL, prepO, List.map, List.getElem?_cons_succ, List.getElem?_cons_zero]; exact Is.rfl
                 case hr =>
                   repeat (first
                     | (apply RT.op (h := by simp [hct2, hch2, hbl]; exact Is.rfl) (he := rfl))
                     | (apply RT.call (hg := by simp; exact Is.rfl) (hfo := by simp; exact Is.rfl) (hvs := by simp [hct2, hch2, hbl]; exact Is.rfl) (hcl := by simp [hct2, hch2, hbl]; exact Is.rfl) (hd := by simp [hct2, hch2, hbl]; exact Is.rfl) (hwr := by simp [hct2, hch2, hbl]; exact Is.rfl) (hlt := by simp [Is]) (he := rfl) (hh := by simp; exact Is.rfl) (hw := by simp; exact Is.rfl))
                     | (apply RT.wr (h := by simp [hct2, hch2, hbl]; exact Is.rfl) (he := rfl) (hh := by simp [hct2, hch2, hbl]; exact Is.rfl) (hn := by exact Is.rfl) (hc := by exact Is.rfl) (hw := by simp; exact Is.rfl)))
                   exact RT.nil
                 case hc => (show _ = _; kernel_rfl)
                 case ht => simp [hct2, hch2, hbl]; exact Is.rfl)
              | apply WP.block
              | apply WP.skip
              | apply WP.exit
              | apply WP.ret)
            show WP _ _ _ _ _ _
            refine WP.cond _ rfl (fun hb => ?_) (fun hb => ?_)
            · repeat (first
                | apply WP.seq
                | (apply WP.reg
                   case hR => dsimp only [prepL, prepO, List.map, List.getElem?_cons_succ, List.getElem?_cons_zero]; exact Is.rfl
                   case hr =>
                     repeat (first
                       | (apply RT.op (h := by simp [hct2, hch2, hbl]; exact Is.rfl) (he := rfl))
                       | (apply RT.call (hg := by simp; exact Is.rfl) (hfo := by simp; exact Is.rfl) (hvs := by simp [hct2, hch2, hbl]; exact Is.rfl) (hcl := by simp [hct2, hch2, hbl]; exact Is.rfl) (hd := by simp [hct2, hch2, hbl]; exact Is.rfl) (hwr := by simp [hct2, hch2, hbl]; exact Is.rfl) (hlt := by simp [Is]) (he := rfl) (hh := by simp; exact Is.rfl) (hw := by simp; exact Is.rfl))
                       | (apply RT.wr (h := by simp [hct2, hch2, hbl]; exact Is.rfl) (he := rfl) (hh := by simp [hct2, hch2, hbl]; exact Is.rfl) (hn := by exact Is.rfl) (hc := by exact Is.rfl) (hw := by simp; exact Is.rfl)))
                     exact RT.nil
                   case hc => (show _ = _; kernel_rfl)
                   case ht => simp [hct2, hch2, hbl]; exact Is.rfl)
                | apply WP.block
                | apply WP.skip
                | apply WP.exit
                | apply WP.ret)
              refine loop_next (by simp; exact Is.rfl) ?_
              exact ⟨d - 1, by omega, i + 1, by omega, c + 1, _, st_eq (by simp [dI, dY, hw, hJn]) (by simp [hJn, cY_one, Y.with_cells])⟩
            · simp at hb
          | some a =>
            obtain ⟨o, ho⟩ : ∃ o, o = Jp N l i := ⟨_, rfl⟩
            rw [← ho] at hout hJ hJs hJl hfit ⊢
            have hsp := getLast_split hout
            obtain ⟨m, hm⟩ : ∃ m, m = o.length - 1 := ⟨_, rfl⟩
            have hol : o.length = m + 1 := by
              have := congrArg List.length hsp
              simp at this
              omega
            have hoa : o[m]? = some a := by
              rw [List.getLast?_eq_getElem?] at hout
              rw [hm]; exact hout
            have hset : ∀ z, o.set m z = o.dropLast ++ [z] := fun z => by
              have hdl : o.dropLast.length = m := by simp; omega
              conv => lhs; rw [hsp]
              rw [List.set_append_right _ _ (by omega), hdl]
              simp
            have hwl : IntKind.i64.wrap ((o.length : Int) - 1) = (m : Int) := by rw [w_id] <;> omega
            have hixm : idx (m : Int) o.length = some m := by obtain ⟨_, _, _, h⟩ := at_lt (l := o) (i := m) (by omega); exact h
            have hne := bne_of (a := (o.length : Int)) (b := 0) (by omega)
            have hget := cY_get hoa
            rw [Y.cells_eq a] at hget
            simp only [List.map] at hget
            have hl12 : min 12 (o.length * 12 - m * 12) = 12 := by omega
            have hasz : szY o.dropLast + a.sz = szY o := by
              conv => rhs; rw [hsp]
              rw [szY_app, szY_one]
            have hmt := mates_den a (y.with bs) (by unfold MX; omega) (by unfold MX; omega)
            rw [fitR_eq] at hmt
            simp only [aY, Y.with_cells] at hmt
            rw [Y.cells_eq a] at hmt
            simp only [List.map] at hmt
            repeat (first
              | apply WP.seq
              | (apply WP.reg
                 case hR => dsimp only [prepL, prepO, List.map, List.getElem?_cons_succ, List.getElem?_cons_zero]; exact Is.rfl
                 case hr =>
                   repeat (first
                     | (apply RT.op (h := by simp [hwl, hixm, hne.1, hne.2, hl12, hget, hct2, hch2, hbl, hmt]; exact Is.rfl) (he := rfl))
                     | (apply RT.call (hg := by simp; exact Is.rfl) (hfo := by simp; exact Is.rfl) (hvs := by simp [hwl, hixm, hne.1, hne.2, hl12, hget, hct2, hch2, hbl, hmt]; exact Is.rfl) (hcl := by simp [hwl, hixm, hne.1, hne.2, hl12, hget, hct2, hch2, hbl, hmt]; exact Is.rfl) (hd := by simp [hwl, hixm, hne.1, hne.2, hl12, hget, hct2, hch2, hbl, hmt]; exact Is.rfl) (hwr := by simp [hwl, hixm, hne.1, hne.2, hl12, hget, hct2, hch2, hbl, hmt]; exact Is.rfl) (hlt := by simp [Is]) (he := rfl) (hh := by simp; exact Is.rfl) (hw := by simp; exact Is.rfl))
                     | (apply RT.wr (h := by simp [hwl, hixm, hne.1, hne.2, hl12, hget, hct2, hch2, hbl, hmt]; exact Is.rfl) (he := rfl) (hh := by simp [hwl, hixm, hne.1, hne.2, hl12, hget, hct2, hch2, hbl, hmt]; exact Is.rfl) (hn := by exact Is.rfl) (hc := by exact Is.rfl) (hw := by simp; exact Is.rfl)))
                   exact RT.nil
                 case hc => (show _ = _; kernel_rfl)
                 case ht => simp [hwl, hixm, hne.1, hne.2, hl12, hget, hct2, hch2, hbl, hmt]; exact Is.rfl)
              | apply WP.block
              | apply WP.skip
              | apply WP.exit
              | apply WP.ret)
            show WP _ _ _ _ _ _
            refine WP.cond _ rfl (fun hb => ?_) (fun hb => ?_)
            · simp at hb
              have hJn : Jp N l (i + 1) = o ++ [y.with bs] := by rw [hJ]; exact jstep_no hbk hbs ‹_› hout hb
              repeat (first
                | apply WP.seq
                | (apply WP.reg
                   case hR => dsimp only [prepL, prepO, List.map, List.getElem?_cons_succ, List.getElem?_cons_zero]; exact Is.rfl
                   case hr =>
                     repeat (first
                       | (apply RT.op (h := by simp [hct2, hch2, hbl, hfit]; exact Is.rfl) (he := rfl))
                       | (apply RT.call (hg := by simp; exact Is.rfl) (hfo := by simp; exact Is.rfl) (hvs := by simp [hct2, hch2, hbl, hfit]; exact Is.rfl) (hcl := by simp [hct2, hch2, hbl, hfit]; exact Is.rfl) (hd := by simp [hct2, hch2, hbl, hfit]; exact Is.rfl) (hwr := by simp [hct2, hch2, hbl, hfit]; exact Is.rfl) (hlt := by simp [Is]) (he := rfl) (hh := by simp; exact Is.rfl) (hw := by simp; exact Is.rfl))
                       | (apply RT.wr (h := by simp [hct2, hch2, hbl, hfit]; exact Is.rfl) (he := rfl) (hh := by simp [hct2, hch2, hbl, hfit]; exact Is.rfl) (hn := by exact Is.rfl) (hc := by exact Is.rfl) (hw := by simp; exact Is.rfl)))
                     exact RT.nil
                   case hc => (show _ = _; kernel_rfl)
                   case ht => simp [hct2, hch2, hbl, hfit]; exact Is.rfl)
                | apply WP.block
                | apply WP.skip
                | apply WP.exit
                | apply WP.ret)
              refine loop_next (by simp; exact Is.rfl) ?_
              exact ⟨d - 1, by omega, i + 1, by omega, c + 1, _, st_eq (by simp [dI, dY, hw, hJn]) (by simp [hJn, cY_app, cY_one, Y.with_cells])⟩
            · simp at hb
              have hJn := jstep_fit (rec := Jf N) hbk hbs ‹_› hout hb
              rw [← hJ] at hJn
              have hfl : a.brs.length = bs.length := by
                simp only [fitY, Bool.and_eq_true, beq_iff_eq] at hb
                exact hb.1.2
              obtain ⟨zs, hzs⟩ : ∃ zs, zs = List.zipWith (fun x y => Jf N (x ++ y)) a.brs bs := ⟨_, rfl⟩
              rw [← hzs] at hJn
              have hzl : zs.length = bs.length := by rw [hzs]; simp; omega
              have hla := Y.sz_eq a
              have hlab := len_szB a.brs
              repeat (first
                | apply WP.seq
                | (apply WP.reg
                   case hR => dsimp only [prepL, prepO, List.map, List.getElem?_cons_succ, List.getElem?_cons_zero]; exact Is.rfl
                   case hr =>
                     repeat (first
                       | (apply RT.op (h := by simp [hwl, hixm, hl12, hget]; exact Is.rfl) (he := rfl))
                       | (apply RT.call (hg := by simp; exact Is.rfl) (hfo := by simp; exact Is.rfl) (hvs := by simp [hwl, hixm, hl12, hget]; exact Is.rfl) (hcl := by simp [hwl, hixm, hl12, hget]; exact Is.rfl) (hd := by simp [hwl, hixm, hl12, hget]; exact Is.rfl) (hwr := by simp [hwl, hixm, hl12, hget]; exact Is.rfl) (hlt := by simp [Is]) (he := rfl) (hh := by simp; exact Is.rfl) (hw := by simp; exact Is.rfl))
                       | (apply RT.wr (h := by simp [hwl, hixm, hl12, hget]; exact Is.rfl) (he := rfl) (hh := by simp [hwl, hixm, hl12, hget]; exact Is.rfl) (hn := by exact Is.rfl) (hc := by exact Is.rfl) (hw := by simp; exact Is.rfl)))
                     exact RT.nil
                   case hc => (show _ = _; kernel_rfl)
                   case ht => simp [hwl, hixm, hl12, hget]; exact Is.rfl)
                | apply WP.block
                | apply WP.skip
                | apply WP.exit
                | apply WP.ret)
              have hw3 := fun o1 => refBoth N ihN l o i g gb c (c + 1) (c + 1 + 1) a bs zs o1 hzs hfl hzl (by omega) (by unfold MB; omega)
              rw [Y.cells_eq a, hbl] at hw3
              simp only [List.map] at hw3
              refine WP.mono (hw3 _) ?_
              rintro e t ⟨rfl, gl, g4, c2, rfl⟩
              have htz : zs.take y.brs.length = zs := by rw [← hbl, ← hzl]; exact List.take_length
              have hctz : List.take y.brs.length (cB zs) = cB zs := by rw [← hbl, ← hzl]; exact cB_take zs
              have hchz : chunk 1 y.brs.length (encB zs).flatten = encB zs := by rw [← hbl, ← hzl]; exact cB_chunk zs
              have hzl2 : zs.length = y.brs.length := by rw [hzl, hbl]
              have hle : m * 12 + 12 ≤ o.length * 12 := by omega
              have hset2 := cY_set (l := o) (i := m) (y := a.with zs) (by omega)
              rw [hset, Y.with_cells] at hset2
              simp only [List.map, List.append_assoc, List.cons_append, List.nil_append] at hset2
              show WP _ _ _ _ _ _
              repeat (first
                | apply WP.seq
                | (apply WP.reg
                   case hR => dsimp only [prepL, prepO, List.map, List.getElem?_cons_succ, List.getElem?_cons_zero]; exact Is.rfl
                   case hr =>
                     repeat (first
                       | (apply RT.op (h := by simp [dY, dI, hwl, hixm, hctz, hchz, hzl2, hset2, hle]; exact Is.rfl) (he := rfl))
                       | (apply RT.call (hg := by simp; exact Is.rfl) (hfo := by simp; exact Is.rfl) (hvs := by simp [dY, dI, hwl, hixm, hctz, hchz, hzl2, hset2, hle]; exact Is.rfl) (hcl := by simp [dY, dI, hwl, hixm, hctz, hchz, hzl2, hset2, hle]; exact Is.rfl) (hd := by simp [dY, dI, hwl, hixm, hctz, hchz, hzl2, hset2, hle]; exact Is.rfl) (hwr := by simp [dY, dI, hwl, hixm, hctz, hchz, hzl2, hset2, hle]; exact Is.rfl) (hlt := by simp [Is]) (he := rfl) (hh := by simp; exact Is.rfl) (hw := by simp; exact Is.rfl))
                       | (apply RT.wr (h := by simp [dY, dI, hwl, hixm, hctz, hchz, hzl2, hset2, hle]; exact Is.rfl) (he := rfl) (hh := by simp [dY, dI, hwl, hixm, hctz, hchz, hzl2, hset2, hle]; exact Is.rfl) (hn := by exact Is.rfl) (hc := by exact Is.rfl) (hw := by simp; exact Is.rfl)))
                     exact RT.nil
                   case hc => (show _ = _; kernel_rfl)
                   case ht => simp [dY, dI, hwl, hixm, hctz, hchz, hzl2, hset2, hle]; exact Is.rfl)
                | apply WP.block
                | apply WP.skip
                | apply WP.exit
                | apply WP.ret)
              refine loop_next (by simp; exact Is.rfl) ?_
              have hlm : o.length - 1 + 1 = o.length := by omega
              exact ⟨d - 1, by omega, i + 1, by omega, g, _, st_eq (by simp [dI, dY, hw, hJn, hlm]) (by simp [hJn])⟩
  · simp at hb
    have := Jp_len N l i hb
    repeat (first
      | apply WP.seq
      | (apply WP.reg
         case hR => dsimp only [prepL, prepO, List.map, List.getElem?_cons_succ, List.getElem?_cons_zero]; exact Is.rfl
         case hr =>
           repeat (first
             | (apply RT.op (h := by simp [cY_take]; exact Is.rfl) (he := rfl))
             | (apply RT.call (hg := by simp; exact Is.rfl) (hfo := by simp; exact Is.rfl) (hvs := by simp [cY_take]; exact Is.rfl) (hcl := by simp [cY_take]; exact Is.rfl) (hd := by simp [cY_take]; exact Is.rfl) (hwr := by simp [cY_take]; exact Is.rfl) (hlt := by simp [Is]) (he := rfl) (hh := by simp; exact Is.rfl) (hw := by simp; exact Is.rfl))
             | (apply RT.wr (h := by simp [cY_take]; exact Is.rfl) (he := rfl) (hh := by simp [cY_take]; exact Is.rfl) (hn := by exact Is.rfl) (hc := by exact Is.rfl) (hw := by simp; exact Is.rfl)))
           exact RT.nil
         case hc => (show _ = _; kernel_rfl)
         case ht => simp [cY_take]; exact Is.rfl)
      | apply WP.block
      | apply WP.skip
      | apply WP.exit
      | apply WP.ret)
    rw [← this]
    refine ⟨.inr rfl, _, [0], rfl, ?_⟩
    simp [tup, closeT, dY, cY_chunk]
end Go.Ab
