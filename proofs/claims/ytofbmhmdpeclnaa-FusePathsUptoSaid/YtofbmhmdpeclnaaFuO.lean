/- The statements on a path of branches. -/
import Derived.Test.YtofbmhmdpeclnaaFuN
set_option linter.unusedVariables false
set_option linter.unusedSimpArgs false
set_option maxRecDepth 4000
set_option linter.unusedSimpArgs false
set_option linter.unusedVariables false
namespace Go.Ab
open Go.Proofs

/-- The number that a case's variable has. -/
def kName (seed : Int) (nm : List UInt8) : Int := nm.foldl (fun k b => IntKind.i64.wrap (IntKind.i64.wrap (5 * k) + IntKind.i64.wrap (b.toNat : Int))) seed
def kAnd (k t : Int) : Int := IntKind.i64.wrap (BitVec.ofInt 64 (IntKind.i64.wrap (k + t)) &&& BitVec.ofInt 64 1048575).toNat
def kOf (seed : Int) (y : Y) : Int := kAnd (kName seed y.nm) y.t
def selY (seed : Int) (y : Y) : Nat := ((kOf seed y).tmod (y.brs.length : Int)).toNat
def pstep (rec : List Y → List Y) (seed : Int) (y : Y) : List Y := if y.k = 3 then (match y.brs[selY seed y]? with | some b => rec b | none => []) else [y]
def Pf : Nat → Int → List Y → List Y
  | 0, _, _ => []
  | n + 1, seed, l => l.flatMap (pstep (Pf n seed) seed)

theorem kAnd_nonneg (k t : Int) : 0 ≤ kAnd k t ∧ kAnd k t ≤ 1048575 := by
  unfold kAnd
  have h : (BitVec.ofInt 64 (IntKind.i64.wrap (k + t)) &&& BitVec.ofInt 64 1048575).toNat ≤ 1048575 := by
    rw [BitVec.toNat_and]
    exact Nat.le_trans Nat.and_le_right (by decide)
  rw [w_id] <;> omega

theorem sel_lt {seed : Int} {y : Y} (h : 0 < y.brs.length) : selY seed y < y.brs.length ∧ (kOf seed y).tmod (y.brs.length : Int) = (selY seed y : Int) := by
  have h1 := kAnd_nonneg (kName seed y.nm) y.t
  have h2 : 0 ≤ (kOf seed y).tmod (y.brs.length : Int) := Int.tmod_nonneg _ h1.1
  have h3 : (kOf seed y).tmod (y.brs.length : Int) < (y.brs.length : Int) := Int.tmod_lt_of_pos _ (by omega)
  unfold selY
  omega

theorem pstep_sz {rec : List Y → List Y} (h : ∀ l, szY (rec l) ≤ szY l) (seed : Int) (y : Y) : szY (pstep rec seed y) ≤ y.sz := by
  unfold pstep
  split
  · split
    · rename_i b hb
      have h1 := h b
      have h2 := mem_szB (List.mem_of_getElem? hb)
      have h3 := Y.sz_eq y
      omega
    · simp [szY]
  · rw [szY_one]; exact Nat.le_refl _

theorem Pf_sz (seed : Int) : ∀ (n : Nat) (l : List Y), szY (Pf n seed l) ≤ szY l
  | 0, l => by simp [Pf, szY]
  | n + 1, l => by
    simp only [Pf]
    induction l with
    | nil => simp [szY]
    | cons y r ih =>
      have := pstep_sz (Pf_sz seed n) seed y
      simp only [List.flatMap_cons, szY_app, szY]; omega

theorem kName_take {nm : List UInt8} {j : Nat} {b : UInt8} (seed : Int) (h : nm[j]? = some b) : kName seed (nm.take (j + 1)) = IntKind.i64.wrap (IntKind.i64.wrap (5 * kName seed (nm.take j)) + IntKind.i64.wrap (b.toNat : Int)) := by
  unfold kName; rw [take_S h, List.foldl_append]; rfl

theorem nm_at {nm : List UInt8} {j : Nat} (h : j < nm.length) : ∃ b, nm[j]? = some b ∧ idx (j : Int) nm.length = some j := by
  obtain ⟨b, h1, _, h2⟩ := at_lt h
  exact ⟨b, h1, h2⟩

def Pp (n : Nat) (seed : Int) (l : List Y) (i : Nat) : List Y := Pf (n + 1) seed (l.take i)
theorem Pp_succ {n : Nat} {seed : Int} {l : List Y} {i : Nat} {y : Y} (h : l[i]? = some y) : Pp n seed l (i + 1) = Pp n seed l i ++ pstep (Pf n seed) seed y := by
  unfold Pp; rw [take_S h]; simp [Pf]

set_option maxHeartbeats 4000000 in
theorem path_den (seed : Int) : ∀ (N : Nat) (l : List Y), szY l < N → szY l ≤ MB → den Try.prog Hn.cfg 15 [dY l, dI seed] = some (dY (Pf N seed l)) := by
  intro N
  induction N with
  | zero => intro l hN hl; omega
  | succ N ihN =>
  intro l hN hl
  have hll := len_szY l
  unfold MB at hl
  refine den_wp Try.func15 rfl (by kernel_rfl) rfl rfl ?_
  repeat (first
    | apply WP.seq
    | (apply WP.reg
       case hR => dsimp only [prepL, prepO, List.map, List.getElem?_cons_succ, List.getElem?_cons_zero]; exact Is.rfl
       case hr =>
         repeat (first
           | (apply RT.op (h := by simp [envOf, dI]; exact Is.rfl) (he := rfl))
           | (apply RT.call (hg := by simp; exact Is.rfl) (hfo := by simp; exact Is.rfl) (hvs := by simp [envOf, dI]; exact Is.rfl) (hcl := by simp [envOf, dI]; exact Is.rfl) (hd := by simp [envOf, dI]; exact Is.rfl) (hwr := by simp [envOf, dI]; exact Is.rfl) (hlt := by simp [Is]) (he := rfl) (hh := by simp; exact Is.rfl) (hw := by simp; exact Is.rfl))
           | (apply RT.wr (h := by simp [envOf, dI]; exact Is.rfl) (he := rfl) (hh := by simp [envOf, dI]; exact Is.rfl) (hn := by exact Is.rfl) (hc := by exact Is.rfl) (hw := by simp; exact Is.rfl)))
         exact RT.nil
       case hc => (show _ = _; kernel_rfl)
       case ht => simp [envOf, dI]; exact Is.rfl)
    | apply WP.block
    | apply WP.skip
    | apply WP.exit
    | apply WP.ret)
  apply WP.loop' (I := fun d s => ∃ i : Nat, i + d = l.length ∧ ∃ g c, s = ⟨[(0, dY l), (1, dI seed), (5, .osl 0 g 0 (Pp N seed l i).length 12 none), (6, dI i)], [(0, ⟨g, false, cY (Pp N seed l i)⟩)], 1, c, 0, []⟩) (d := l.length)
  · exact ⟨0, by simp, 0, _, st_eq (by simp [dI, Pp, Pf]) (by simp [Pp, Pf])⟩
  rintro d _ ⟨i, hi, g, c, rfl⟩
  repeat (first
    | apply WP.seq
    | (apply WP.reg
       case hR => dsimp only [prepL, prepO, List.map, List.getElem?_cons_succ, List.getElem?_cons_zero]; exact Is.rfl
       case hr =>
         repeat (first
           | (apply RT.op (h := by simp [dI, dY]; exact Is.rfl) (he := rfl))
           | (apply RT.call (hg := by simp; exact Is.rfl) (hfo := by simp; exact Is.rfl) (hvs := by simp [dI, dY]; exact Is.rfl) (hcl := by simp [dI, dY]; exact Is.rfl) (hd := by simp [dI, dY]; exact Is.rfl) (hwr := by simp [dI, dY]; exact Is.rfl) (hlt := by simp [Is]) (he := rfl) (hh := by simp; exact Is.rfl) (hw := by simp; exact Is.rfl))
           | (apply RT.wr (h := by simp [dI, dY]; exact Is.rfl) (he := rfl) (hh := by simp [dI, dY]; exact Is.rfl) (hn := by exact Is.rfl) (hc := by exact Is.rfl) (hw := by simp; exact Is.rfl)))
         exact RT.nil
       case hc => (show _ = _; kernel_rfl)
       case ht => simp [dI, dY]; exact Is.rfl)
    | apply WP.block
    | apply WP.skip
    | apply WP.exit
    | apply WP.ret)
  show WP _ _ _ _ _ _
  refine WP.cond _ rfl (fun hb => ?_) (fun hb => ?_)
  · simp at hb
    obtain ⟨y, hy, hym, hix⟩ := at_lt hb
    have hy' := encY_at hy
    have hw := w_succ hb (by omega)
    have hP := Pp_succ (n := N) (seed := seed) hy
    have h1 := szY_takeS hy
    have hPs : szY (Pp N seed l i) ≤ szY (l.take i) := Pf_sz seed (N + 1) (l.take i)
    have hPs2 := pstep_sz (Pf_sz seed N) seed y
    rw [Y.sz_eq] at h1 hPs2
    obtain ⟨o, ho⟩ : ∃ o, o = Pp N seed l i := ⟨_, rfl⟩
    rw [← ho] at hP hPs ⊢
    have hJl := len_szY o
    have h3 := len_szB y.brs
    repeat (first
      | apply WP.seq
      | (apply WP.reg
         case hR => dsimp only [prepL, prepO, List.map, List.getElem?_cons_succ, List.getElem?_cons_zero]; exact Is.rfl
         case hr =>
           repeat (first
             | (apply RT.op (h := by simp [dY, hix, hy', Y.cells_eq]; exact Is.rfl) (he := rfl))
             | (apply RT.call (hg := by simp; exact Is.rfl) (hfo := by simp; exact Is.rfl) (hvs := by simp [dY, hix, hy', Y.cells_eq]; exact Is.rfl) (hcl := by simp [dY, hix, hy', Y.cells_eq]; exact Is.rfl) (hd := by simp [dY, hix, hy', Y.cells_eq]; exact Is.rfl) (hwr := by simp [dY, hix, hy', Y.cells_eq]; exact Is.rfl) (hlt := by simp [Is]) (he := rfl) (hh := by simp; exact Is.rfl) (hw := by simp; exact Is.rfl))
             | (apply RT.wr (h := by simp [dY, hix, hy', Y.cells_eq]; exact Is.rfl) (he := rfl) (hh := by simp [dY, hix, hy', Y.cells_eq]; exact Is.rfl) (hn := by exact Is.rfl) (hc := by exact Is.rfl) (hw := by simp; exact Is.rfl)))
           exact RT.nil
         case hc => (show _ = _; kernel_rfl)
         case ht => simp [dY, hix, hy', Y.cells_eq]; exact Is.rfl)
      | apply WP.block
      | apply WP.skip
      | apply WP.exit
      | apply WP.ret)
    show WP _ _ _ _ _ _
    refine WP.cond _ rfl (fun hb => ?_) (fun hb => ?_)
    · simp at hb
      have hfit : (o.length + 1) * 176 ≤ 140737488355328 := by omega
      have hPn : Pp N seed l (i + 1) = o ++ [y] := by rw [hP]; simp [pstep, hb]
      repeat (first
        | apply WP.seq
        | (apply WP.reg
           case hR => dsimp only [prepL, prepO, List.map, List.getElem?_cons_succ, List.getElem?_cons_zero]; exact Is.rfl
           case hr =>
             repeat (first
               | (apply RT.op (h := by simp [Y.cells_eq, hfit]; exact Is.rfl) (he := rfl))
               | (apply RT.call (hg := by simp; exact Is.rfl) (hfo := by simp; exact Is.rfl) (hvs := by simp [Y.cells_eq, hfit]; exact Is.rfl) (hcl := by simp [Y.cells_eq, hfit]; exact Is.rfl) (hd := by simp [Y.cells_eq, hfit]; exact Is.rfl) (hwr := by simp [Y.cells_eq, hfit]; exact Is.rfl) (hlt := by simp [Is]) (he := rfl) (hh := by simp; exact Is.rfl) (hw := by simp; exact Is.rfl))
               | (apply RT.wr (h := by simp [Y.cells_eq, hfit]; exact Is.rfl) (he := rfl) (hh := by simp [Y.cells_eq, hfit]; exact Is.rfl) (hn := by exact Is.rfl) (hc := by exact Is.rfl) (hw := by simp; exact Is.rfl)))
             exact RT.nil
           case hc => (show _ = _; kernel_rfl)
           case ht => simp [Y.cells_eq, hfit]; exact Is.rfl)
        | apply WP.block
        | apply WP.skip
        | apply WP.exit
        | apply WP.ret)
      refine loop_next (by simp; exact Is.rfl) ?_
      exact ⟨d - 1, by omega, i + 1, by omega, c + 1 + 1, _, st_eq (by simp [dI, dY, hw, hPn]) (by simp [hPn, cY_app, cY_one, Y.cells_eq])⟩
    · simp at hb
      have hbk := hb
      repeat (first
        | apply WP.seq
        | (apply WP.reg
           case hR => dsimp only [prepL, prepO, List.map, List.getElem?_cons_succ, List.getElem?_cons_zero]; exact Is.rfl
           case hr =>
             repeat (first
               | (apply RT.op (h := by simp; exact Is.rfl) (he := rfl))
               | (apply RT.call (hg := by simp; exact Is.rfl) (hfo := by simp; exact Is.rfl) (hvs := by simp; exact Is.rfl) (hcl := by simp; exact Is.rfl) (hd := by simp; exact Is.rfl) (hwr := by simp; exact Is.rfl) (hlt := by simp [Is]) (he := rfl) (hh := by simp; exact Is.rfl) (hw := by simp; exact Is.rfl))
               | (apply RT.wr (h := by simp; exact Is.rfl) (he := rfl) (hh := by simp; exact Is.rfl) (hn := by exact Is.rfl) (hc := by exact Is.rfl) (hw := by simp; exact Is.rfl)))
             exact RT.nil
           case hc => (show _ = _; kernel_rfl)
           case ht => simp; exact Is.rfl)
        | apply WP.block
        | apply WP.skip
        | apply WP.exit
        | apply WP.ret)
      apply WP.loop' (I := fun d s => ∃ j : Nat, j + d = y.nm.length ∧ ∃ gs c, s = ⟨[(0, dY l), (1, dI seed), (5, .osl 0 g 0 o.length 12 none), (6, dI i), (7, .ptr 1 gs 0), (8, dI (kName seed (y.nm.take j))), (9, dI j)],
        [(0, ⟨g, false, cY o⟩), (1, ⟨gs, false, y.cells.map .d⟩)], 2, c, 0, []⟩) (d := y.nm.length)
      · exact ⟨0, by simp, c, _, st_eq (by simp [dI, dY, kName]) (by simp [Y.cells_eq])⟩
      rintro d2 _ ⟨j, hj, gs, c, rfl⟩
      repeat (first
        | apply WP.seq
        | (apply WP.reg
           case hR => dsimp only [prepL, prepO, List.map, List.getElem?_cons_succ, List.getElem?_cons_zero]; exact Is.rfl
           case hr =>
             repeat (first
               | (apply RT.op (h := by simp [dI, dY, Y.cells_eq]; exact Is.rfl) (he := rfl))
               | (apply RT.call (hg := by simp; exact Is.rfl) (hfo := by simp; exact Is.rfl) (hvs := by simp [dI, dY, Y.cells_eq]; exact Is.rfl) (hcl := by simp [dI, dY, Y.cells_eq]; exact Is.rfl) (hd := by simp [dI, dY, Y.cells_eq]; exact Is.rfl) (hwr := by simp [dI, dY, Y.cells_eq]; exact Is.rfl) (hlt := by simp [Is]) (he := rfl) (hh := by simp; exact Is.rfl) (hw := by simp; exact Is.rfl))
               | (apply RT.wr (h := by simp [dI, dY, Y.cells_eq]; exact Is.rfl) (he := rfl) (hh := by simp [dI, dY, Y.cells_eq]; exact Is.rfl) (hn := by exact Is.rfl) (hc := by exact Is.rfl) (hw := by simp; exact Is.rfl)))
             exact RT.nil
           case hc => (show _ = _; kernel_rfl)
           case ht => simp [dI, dY, Y.cells_eq]; exact Is.rfl)
        | apply WP.block
        | apply WP.skip
        | apply WP.exit
        | apply WP.ret)
      show WP _ _ _ _ _ _
      refine WP.cond _ rfl (fun hb => ?_) (fun hb => ?_)
      · simp at hb
        obtain ⟨b, hbr, hbx⟩ := nm_at hb
        have hnl : y.nm.length ≤ szS y.nm := by unfold szS; omega
        have hw2 := w_succ hb (by omega)
        have hkt := kName_take seed hbr
        repeat (first
          | apply WP.seq
          | (apply WP.reg
             case hR => dsimp only [prepL, prepO, List.map, List.getElem?_cons_succ, List.getElem?_cons_zero]; exact Is.rfl
             case hr =>
               repeat (first
                 | (apply RT.op (h := by simp [Y.cells_eq, hbx, hbr]; exact Is.rfl) (he := rfl))
                 | (apply RT.call (hg := by simp; exact Is.rfl) (hfo := by simp; exact Is.rfl) (hvs := by simp [Y.cells_eq, hbx, hbr]; exact Is.rfl) (hcl := by simp [Y.cells_eq, hbx, hbr]; exact Is.rfl) (hd := by simp [Y.cells_eq, hbx, hbr]; exact Is.rfl) (hwr := by simp [Y.cells_eq, hbx, hbr]; exact Is.rfl) (hlt := by simp [Is]) (he := rfl) (hh := by simp; exact Is.rfl) (hw := by simp; exact Is.rfl))
                 | (apply RT.wr (h := by simp [Y.cells_eq, hbx, hbr]; exact Is.rfl) (he := rfl) (hh := by simp [Y.cells_eq, hbx, hbr]; exact Is.rfl) (hn := by exact Is.rfl) (hc := by exact Is.rfl) (hw := by simp; exact Is.rfl)))
               exact RT.nil
             case hc => (show _ = _; kernel_rfl)
             case ht => simp [Y.cells_eq, hbx, hbr]; exact Is.rfl)
          | apply WP.block
          | apply WP.skip
          | apply WP.exit
          | apply WP.ret)
        refine loop_next (by simp; exact Is.rfl) ?_
        exact ⟨d2 - 1, by omega, j + 1, by omega, gs, _, st_eq (by simp [dI, dY, hw2, hkt]) (by simp [Y.cells_eq])⟩
      · simp at hb
        have hnt : y.nm.take j = y.nm := by rw [List.take_of_length_le hb]
        rw [hnt]
        have hk : IntKind.i64.wrap (((IntKind.i64.wrap (kName seed y.nm + y.t) % 2 ^ IntKind.i64.bits).toNat &&& 1048575 % 2 ^ IntKind.i64.bits : Nat) : Int) = kOf seed y := by
          simp [kOf, kAnd, IntKind.bits]
        repeat (first
          | apply WP.seq
          | (apply WP.reg
             case hR => dsimp only [prepL, prepO, List.map, List.getElem?_cons_succ, List.getElem?_cons_zero]; exact Is.rfl
             case hr =>
               repeat (first
                 | (apply RT.op (h := by simp [Y.cells_eq, hk]; exact Is.rfl) (he := rfl))
                 | (apply RT.call (hg := by simp; exact Is.rfl) (hfo := by simp; exact Is.rfl) (hvs := by simp [Y.cells_eq, hk]; exact Is.rfl) (hcl := by simp [Y.cells_eq, hk]; exact Is.rfl) (hd := by simp [Y.cells_eq, hk]; exact Is.rfl) (hwr := by simp [Y.cells_eq, hk]; exact Is.rfl) (hlt := by simp [Is]) (he := rfl) (hh := by simp; exact Is.rfl) (hw := by simp; exact Is.rfl))
                 | (apply RT.wr (h := by simp [Y.cells_eq, hk]; exact Is.rfl) (he := rfl) (hh := by simp [Y.cells_eq, hk]; exact Is.rfl) (hn := by exact Is.rfl) (hc := by exact Is.rfl) (hw := by simp; exact Is.rfl)))
               exact RT.nil
             case hc => (show _ = _; kernel_rfl)
             case ht => simp [Y.cells_eq, hk]; exact Is.rfl)
          | apply WP.block
          | apply WP.skip
          | apply WP.exit
          | apply WP.ret)
        show WP _ _ _ _ _ _
        refine WP.cond _ rfl (fun hb => ?_) (fun hb => ?_)
        · simp at hb
          obtain ⟨hs1, hs2⟩ := sel_lt (seed := seed) (y := y) hb
          obtain ⟨b, hbr, hbm, hbx⟩ := at_lt hs1
          have hb' := encB_at hbr
          have h2 := mem_szB hbm
          have ih := ihN b (by omega) (by unfold MB; omega)
          simp only [dY, dI] at ih
          have hne : ¬ ((y.brs.length : Int) = 0) := by omega
          have hne2 : ¬ (y.brs = []) := by intro h0; rw [h0] at hb; simp at hb
          obtain ⟨w, hwe⟩ : ∃ w, w = Pf N seed b := ⟨_, rfl⟩
          rw [← hwe] at ih
          have hPn : Pp N seed l (i + 1) = o ++ w := by rw [hP, hwe]; simp [pstep, hbk, hbr]
          have hlw := len_szY w
          have hps : pstep (Pf N seed) seed y = w := by rw [hwe]; simp [pstep, hbk, hbr]
          rw [hps] at hPs2
          have hfit : (o.length + w.length) * 176 ≤ 140737488355328 := by omega
          repeat (first
            | apply WP.seq
            | (apply WP.reg
               case hR => dsimp only [prepL, prepO, List.map, List.getElem?_cons_succ, List.getElem?_cons_zero]; exact Is.rfl
               case hr =>
                 repeat (first
                   | (apply RT.op (h := by simp [Y.cells_eq, hs2, hbx, hb', ih, hfit, hne, hne2]; exact Is.rfl) (he := rfl))
                   | (apply RT.call (hg := by simp; exact Is.rfl) (hfo := by simp; exact Is.rfl) (hvs := by simp [Y.cells_eq, hs2, hbx, hb', ih, hfit, hne, hne2]; exact Is.rfl) (hcl := by simp [Y.cells_eq, hs2, hbx, hb', ih, hfit, hne, hne2]; exact Is.rfl) (hd := by simp [Y.cells_eq, hs2, hbx, hb', ih, hfit, hne, hne2]; exact Is.rfl) (hwr := by simp [Y.cells_eq, hs2, hbx, hb', ih, hfit, hne, hne2]; exact Is.rfl) (hlt := by simp [Is]) (he := rfl) (hh := by simp; exact Is.rfl) (hw := by simp; exact Is.rfl))
                   | (apply RT.wr (h := by simp [Y.cells_eq, hs2, hbx, hb', ih, hfit, hne, hne2]; exact Is.rfl) (he := rfl) (hh := by simp [Y.cells_eq, hs2, hbx, hb', ih, hfit, hne, hne2]; exact Is.rfl) (hn := by exact Is.rfl) (hc := by exact Is.rfl) (hw := by simp; exact Is.rfl)))
                 exact RT.nil
               case hc => (show _ = _; kernel_rfl)
               case ht => simp [Y.cells_eq, hs2, hbx, hb', ih, hfit, hne, hne2]; exact Is.rfl)
            | apply WP.block
            | apply WP.skip
            | apply WP.exit
            | apply WP.ret)
          refine loop_next (by simp; exact Is.rfl) ?_
          exact ⟨d - 1, by omega, i + 1, by omega, _, _, st_eq (by simp [dI, dY, hw, hPn] <;> rfl) (by simp [hPn, cY_app])⟩
        · simp at hb
          have hPn : Pp N seed l (i + 1) = o := by rw [hP]; simp [pstep, hbk, hb]
          repeat (first
            | apply WP.seq
            | (apply WP.reg
               case hR => dsimp only [prepL, prepO, List.map, List.getElem?_cons_succ, List.getElem?_cons_zero]; exact Is.rfl
               case hr =>
                 repeat (first
                   | (apply RT.op (h := by simp; exact Is.rfl) (he := rfl))
                   | (apply RT.call (hg := by simp; exact Is.rfl) (hfo := by simp; exact Is.rfl) (hvs := by simp; exact Is.rfl) (hcl := by simp; exact Is.rfl) (hd := by simp; exact Is.rfl) (hwr := by simp; exact Is.rfl) (hlt := by simp [Is]) (he := rfl) (hh := by simp; exact Is.rfl) (hw := by simp; exact Is.rfl))
                   | (apply RT.wr (h := by simp; exact Is.rfl) (he := rfl) (hh := by simp; exact Is.rfl) (hn := by exact Is.rfl) (hc := by exact Is.rfl) (hw := by simp; exact Is.rfl)))
                 exact RT.nil
               case hc => (show _ = _; kernel_rfl)
               case ht => simp; exact Is.rfl)
            | apply WP.block
            | apply WP.skip
            | apply WP.exit
            | apply WP.ret)
          refine loop_next (by simp; exact Is.rfl) ?_
          exact ⟨d - 1, by omega, i + 1, by omega, g, _, st_eq (by simp [dI, dY, hw, hPn]) (by simp [hPn])⟩
  · simp at hb
    have : Pp N seed l i = Pf (N + 1) seed l := by unfold Pp; rw [List.take_of_length_le hb]
    repeat (first
      | apply WP.seq
      | (apply WP.reg
         case hR => dsimp only [prepL, prepO, List.map, List.getElem?_cons_succ, List.getElem?_cons_zero]; exact Is.rfl
         case hr =>
           repeat (first
             | (apply RT.op (h := by simp [cY_take]; exact Is.rfl) (he := rfl))
             | (apply RT.call (hg := by simp; exact Is.rfl) (hfo := by simp; exact Is.rfl) (hvs := by simp [cY_take]; exact Is.rfl) (hcl := by simp [cY_take]; exact Is.rfl) (hd := by simp [cY_take]; exact Is.rfl) (hwr := by simp [cY_take]; exact Is.rfl) (hlt := by simp [Is]) (he := rfl) (hh := by simp; exact Is.rfl) (hw := by simp; exact Is.rfl))
             | (apply RT.wr (h := by simp [cY_take]; exact Is.rfl) (he := rfl) (hh := by simp [cY_take]; exact Is.rfl) (hn := by exact Is.rfl) (hc := by exact Is.rfl) (hw := by simp; exact Is.rfl)))
           exact RT.nil
         case hc => (show _ = _; kernel_rfl)
         case ht => simp [cY_take]; exact Is.rfl)
      | apply WP.block
      | apply WP.skip
      | apply WP.exit
      | apply WP.ret)
    rw [← this]
    refine ⟨.inr rfl, _, [0], rfl, ?_⟩
    simp [tup, closeT, dY, cY_chunk]
end Go.Ab
