/- The copy of a statement. -/
import Derived.Test.YtofbmhmdpeclnaaFuT
set_option linter.unusedVariables false
set_option linter.unusedSimpArgs false
set_option maxRecDepth 4000
set_option linter.unusedSimpArgs false
set_option linter.unusedVariables false
namespace Go.Ab
open Go.Proofs

/-- The cells of names, in an object. -/
def cN (l : List (List UInt8)) : List V := l.map fun s => .d (.str s)
theorem cN_len (l : List (List UInt8)) : (cN l).length = l.length := by simp [cN]
theorem cN_take (l : List (List UInt8)) : (cN l).take l.length = cN l := by rw [← cN_len, List.take_length]
theorem cN_eq (l : List (List UInt8)) : cN l = (encN l).flatten.map .d := by
  unfold cN encN
  induction l with
  | nil => rfl
  | cons b r ih => simp only [List.map, List.flatten_cons, ih]; rfl
theorem encN_row (l : List (List UInt8)) : ∀ r ∈ encN l, r.length = 1 := by
  unfold encN; intro r hr; simp only [List.mem_map] at hr; obtain ⟨y, _, rfl⟩ := hr; rfl
theorem cN_toDs (look : Look) (f : Nat) (l : List (List UInt8)) : toDs (toD look f) (cN l) = some ((encN l).flatten, []) := by rw [cN_eq]; exact toDs_d look f _
theorem cN_chunk (l : List (List UInt8)) : chunk 1 l.length (encN l).flatten = encN l := by
  have := chunk_flat (encN_row l); rwa [encN_len] at this
theorem rowsOf_N (look : Look) (x : List (List UInt8)) : rowsOf look 1 (.d (.slice (encN x))) = some (x.length, cN x, []) := by
  have : (encN x).all (fun r => Nat.beq r.length 1) = true := by rw [List.all_eq_true]; intro r hr; rw [encN_row x r hr]; rfl
  simp only [rowsOf, this, if_true, encN_len, cN_eq]
attribute [simp] cN_len cN_take cN_toDs cN_chunk rowsOf_N

theorem disj_nil_l (l : List Nat) : disj [] l = true := rfl
theorem disj_nil_r (l : List Nat) : disj l [] = true := by unfold disj; rw [List.all_eq_true]; intro x _; rfl
theorem disj_single (a b : Nat) : disj [a] [b] = !(Nat.beq a b) := by simp [disj]
attribute [simp] disj_nil_l disj_nil_r disj_single

theorem TB.nils (look : Look) : ∀ n : Nat, TB look (List.replicate n (.full [])) (List.replicate n []) []
  | 0 => .nil
  | n + 1 => by
    rw [List.replicate_succ, List.replicate_succ]
    exact .cons (i := []) (j := []) .nil (TB.nils look n)

theorem nodup_mid {i1 i2 i3 S : List Nat} {n : Nat} (h : (i1 ++ (i2 ++ i3)).Nodup) (hS : S.Nodup) (hold : ∀ id, id ∈ i1 ++ (i2 ++ i3) → id < n) (hnew : ∀ id, id ∈ S → n ≤ id) : (i1 ++ ((i2 ++ S) ++ i3)).Nodup := by
  have hp : (i1 ++ ((i2 ++ S) ++ i3)).Perm ((i1 ++ (i2 ++ i3)) ++ S) := by
    rw [List.append_assoc i2 S i3, List.append_assoc i1]
    refine List.Perm.append_left i1 ?_
    rw [List.append_assoc]
    exact List.Perm.append_left i2 List.perm_append_comm
  rw [hp.nodup_iff, List.nodup_append]
  exact ⟨h, hS, fun a ha b hb hab => by have := hold a ha; have := hnew b hb; omega⟩

theorem cl1_false (look : Look) (v : V) : cl1 look false v = some (v, []) := by cases v <;> rfl
theorem closeVs_false (look : Look) : ∀ l : List V, closeVs (cl1 look false) l = some (l, [])
  | [] => rfl
  | v :: r => by simp only [closeVs, cl1_false, closeVs_false look r, List.append_nil]

/-- A statement's copy has been made. -/
def Copied (y : Y) : Prop := ∃ q, lim Try.prog Hn.cfg 27 [aY y] [] 0 0 = some q ∧ ∃ sc i, q.v = .agg sc ∧ TS q.hp.get sc y i ∧ i.Nodup ∧ ∀ id, id ∈ i → id < q.n

set_option maxHeartbeats 4000000 in
theorem statement_ok (y : Y) (hl : y.sz ≤ MB) (ih : ∀ b ∈ y.brs, ∀ x ∈ b, Copied x) : Copied y := by
  have hysz := Y.sz_eq y
  rw [hysz] at hl
  unfold MB at hl
  have hlo := len_szN y.outs
  have hla := len_szX y.args
  have hlb := len_szB y.brs
  have hcr := copied_den y.r (by unfold MB; omega)
  simp only [aX', X.cells_eq, List.map] at hcr
  have main : ∃ (v : V) (t : St), lim Try.prog Hn.cfg 27 [aY y] [] 0 0 = some ⟨v, t.hp, t.n, t.c, t.wl⟩ ∧ (∃ sc i, v = .agg sc ∧ TS t.hp.get sc y i ∧ i.Nodup ∧ ∀ id, id ∈ i → id < t.n) := by
    refine lim_wp (Q := fun v (t : St) => ∃ sc i, v = .agg sc ∧ TS t.hp.get sc y i ∧ i.Nodup ∧ ∀ id, id ∈ i → id < t.n) Try.func27 rfl (by kernel_rfl) rfl ?_
    have hf1 : y.outs.length * 16 ≤ 140737488355328 := by omega
    have hf2 : y.args.length * 72 ≤ 140737488355328 := by omega
    have hf3 : y.brs.length * 24 ≤ 140737488355328 := by omega
    have hi1 : (y.outs.length : Int) ≤ 9223372036854775807 := by omega
    have hi2 : (y.args.length : Int) ≤ 9223372036854775807 := by omega
    have hi3 : (y.brs.length : Int) ≤ 9223372036854775807 := by omega
    repeat (first
      | apply WP.seq
      | (apply WP.reg
         case hR => dsimp only [prepL, prepO, List.map, List.getElem?_cons_succ, List.getElem?_cons_zero]; exact Is.rfl
         case hr =>
           repeat (first
             | (apply RT.op (h := by simp [envOf, aY, Y.cells_eq, hcr, hf1, hf2, hf3, hi1, hi2, hi3]; exact Is.rfl) (he := by (try dsimp only [putEnv]) <;> exact rfl))
             | (apply RT.call (hg := by simp; exact Is.rfl) (hfo := by simp; exact Is.rfl) (hvs := by simp [envOf, aY, Y.cells_eq, hcr, hf1, hf2, hf3, hi1, hi2, hi3]; exact Is.rfl) (hcl := by simp [envOf, aY, Y.cells_eq, hcr, hf1, hf2, hf3, hi1, hi2, hi3]; exact Is.rfl) (hd := by simp [envOf, aY, Y.cells_eq, hcr, hf1, hf2, hf3, hi1, hi2, hi3]; exact Is.rfl) (hwr := by simp [envOf, aY, Y.cells_eq, hcr, hf1, hf2, hf3, hi1, hi2, hi3]; exact Is.rfl) (hlt := by simp [Is]) (he := by (try dsimp only [putEnv]) <;> exact rfl) (hh := by simp; exact Is.rfl) (hw := by simp; exact Is.rfl))
             | (apply RT.callI (hg := by simp; exact Is.rfl) (hfo := by simp; exact Is.rfl) (hvs := by simp [envOf, aY, Y.cells_eq, hcr, hf1, hf2, hf3, hi1, hi2, hi3]; exact Is.rfl) (hcl := by simp [envOf, aY, Y.cells_eq, hcr, hf1, hf2, hf3, hi1, hi2, hi3]; exact Is.rfl) (hd := hI1) (hne := hI2) (hw := hI3) (hwr := hI4) (he := by (try dsimp only [putEnv]) <;> exact rfl) (hn0 := by simp))
             | (apply RT.wr (h := by simp [envOf, aY, Y.cells_eq, hcr, hf1, hf2, hf3, hi1, hi2, hi3]; exact Is.rfl) (he := by (try dsimp only [putEnv]) <;> exact rfl) (hh := by simp [envOf, aY, Y.cells_eq, hcr, hf1, hf2, hf3, hi1, hi2, hi3]; exact Is.rfl) (hn := by exact Is.rfl) (hc := by exact Is.rfl) (hw := by simp; exact Is.rfl)))
           exact RT.nil
         case hc => (show _ = _; kernel_rfl)
         case ht => simp [envOf, aY, Y.cells_eq, hcr, hf1, hf2, hf3, hi1, hi2, hi3]; exact Is.rfl)
      | apply WP.block
      | apply WP.skip
      | apply WP.exit
      | apply WP.ret)
    apply WP.loop' (I := fun d s => ∃ i : Nat, i + d = y.args.length ∧ ∃ (hp : Hp) (m gl c : Nat), hp.get 0 = some ⟨0, false, [.d (.int .i64 y.k), .d (.str y.nm), .d (.int .i64 y.t), .d (.int .i64 y.r.k), .d (.int .i64 y.r.o), .d (.int .i64 y.r.t), .d (.int .i64 y.r.v), .d (.str y.r.nm), .d (.slice (encX y.r.args)), .d (.slice (encN y.outs)), .d (.slice (encX y.args)), .d (.slice (encB y.brs))]⟩ ∧ hp.get 1 = some ⟨1, false, [.d (.int .i64 0), .d (.str []), .d (.int .i64 0), .d (.int .i64 0), .d (.int .i64 0), .d (.int .i64 0), .d (.int .i64 0), .d (.str []), .full [], .full [], .full [], .full []]⟩ ∧ hp.get 3 = some ⟨gl, false, hX y.args i⟩ ∧
      s = ⟨[(1, .ptr 0 0 0), (2, .ptr 1 1 0), (4, .osl 3 gl 0 y.args.length 6 (some y.args.length)), (31, .d (.slice (encX y.args))), (32, dI y.args.length), (33, dI i)], hp, m + 4, c, 0, []⟩) (d := y.args.length)
    · exact ⟨0, by simp, _, 0, 3, _, rfl, rfl, by rw [hX_zero]; rfl, rfl⟩
    rintro d _ ⟨i, hi, hp, m, gl, c, hg0, hg1, hg3, rfl⟩
    repeat (first
      | apply WP.seq
      | (apply WP.reg
         case hR => dsimp only [prepL, prepO, List.map, List.getElem?_cons_succ, List.getElem?_cons_zero]; exact Is.rfl
         case hr =>
           repeat (first
             | (apply RT.op (h := by simp [dI]; exact Is.rfl) (he := by (try dsimp only [putEnv]) <;> exact rfl))
             | (apply RT.call (hg := by simp; exact Is.rfl) (hfo := by simp; exact Is.rfl) (hvs := by simp [dI]; exact Is.rfl) (hcl := by simp [dI]; exact Is.rfl) (hd := by simp [dI]; exact Is.rfl) (hwr := by simp [dI]; exact Is.rfl) (hlt := by simp [Is]) (he := by (try dsimp only [putEnv]) <;> exact rfl) (hh := by simp; exact Is.rfl) (hw := by simp; exact Is.rfl))
             | (apply RT.callI (hg := by simp; exact Is.rfl) (hfo := by simp; exact Is.rfl) (hvs := by simp [dI]; exact Is.rfl) (hcl := by simp [dI]; exact Is.rfl) (hd := hI1) (hne := hI2) (hw := hI3) (hwr := hI4) (he := by (try dsimp only [putEnv]) <;> exact rfl) (hn0 := by simp))
             | (apply RT.wr (h := by simp [dI]; exact Is.rfl) (he := by (try dsimp only [putEnv]) <;> exact rfl) (hh := by simp [dI]; exact Is.rfl) (hn := by exact Is.rfl) (hc := by exact Is.rfl) (hw := by simp; exact Is.rfl)))
           exact RT.nil
         case hc => (show _ = _; kernel_rfl)
         case ht => simp [dI]; exact Is.rfl)
      | apply WP.block
      | apply WP.skip
      | apply WP.exit
      | apply WP.ret)
    show WP _ _ _ _ _ _
    refine WP.cond _ rfl (fun hb => ?_) (fun hb => ?_)
    · simp at hb
      obtain ⟨x, hx, hxm, hix⟩ := at_lt hb
      have hx' := encX_at hx
      have hw := w_succ hb (by omega)
      have hs := mem_szX hxm
      have hc := copied_den x (by unfold MB; omega)
      simp only [aX', X.cells_eq x, List.map] at hc
      have hlen := hX_len y.args i (by omega)
      have hst := hX_step hx
      simp only [X.cells_eq x, List.map, List.append_assoc, List.cons_append, List.nil_append] at hst
      have hle : i * 6 + 6 ≤ y.args.length * 6 := by omega
      repeat (first
        | apply WP.seq
        | (apply WP.reg
           case hR => dsimp only [prepL, prepO, List.map, List.getElem?_cons_succ, List.getElem?_cons_zero]; exact Is.rfl
           case hr =>
             repeat (first
               | (apply RT.op (h := by simp [hix, hx', X.cells_eq, hc, hlen, hst, hle, hg0, hg1, hg3, Hp.get_set]; exact Is.rfl) (he := by (try dsimp only [putEnv]) <;> exact rfl))
               | (apply RT.call (hg := by simp; exact Is.rfl) (hfo := by simp; exact Is.rfl) (hvs := by simp [hix, hx', X.cells_eq, hc, hlen, hst, hle, hg0, hg1, hg3, Hp.get_set]; exact Is.rfl) (hcl := by simp [hix, hx', X.cells_eq, hc, hlen, hst, hle, hg0, hg1, hg3, Hp.get_set]; exact Is.rfl) (hd := by simp [hix, hx', X.cells_eq, hc, hlen, hst, hle, hg0, hg1, hg3, Hp.get_set]; exact Is.rfl) (hwr := by simp [hix, hx', X.cells_eq, hc, hlen, hst, hle, hg0, hg1, hg3, Hp.get_set]; exact Is.rfl) (hlt := by simp [Is]) (he := by (try dsimp only [putEnv]) <;> exact rfl) (hh := by simp; exact Is.rfl) (hw := by simp; exact Is.rfl))
               | (apply RT.callI (hg := by simp; exact Is.rfl) (hfo := by simp; exact Is.rfl) (hvs := by simp [hix, hx', X.cells_eq, hc, hlen, hst, hle, hg0, hg1, hg3, Hp.get_set]; exact Is.rfl) (hcl := by simp [hix, hx', X.cells_eq, hc, hlen, hst, hle, hg0, hg1, hg3, Hp.get_set]; exact Is.rfl) (hd := hI1) (hne := hI2) (hw := hI3) (hwr := hI4) (he := by (try dsimp only [putEnv]) <;> exact rfl) (hn0 := by simp))
               | (apply RT.wr (h := by simp [hix, hx', X.cells_eq, hc, hlen, hst, hle, hg0, hg1, hg3, Hp.get_set]; exact Is.rfl) (he := by (try dsimp only [putEnv]) <;> exact rfl) (hh := by simp [hix, hx', X.cells_eq, hc, hlen, hst, hle, hg0, hg1, hg3, Hp.get_set]; exact Is.rfl) (hn := by exact Is.rfl) (hc := by exact Is.rfl) (hw := by simp; exact Is.rfl)))
             exact RT.nil
           case hc => (show _ = _; kernel_rfl)
           case ht => simp [hix, hx', X.cells_eq, hc, hlen, hst, hle, hg0, hg1, hg3, Hp.get_set]; exact Is.rfl)
        | apply WP.block
        | apply WP.skip
        | apply WP.exit
        | apply WP.ret)
      refine loop_next (by simp; exact Is.rfl) ?_
      exact ⟨d - 1, by omega, i + 1, by omega, _, m + 1, gl, _, by simp [Hp.get_set, hg0], by simp [Hp.get_set, hg1], by simp [Hp.get_set], st_eq (by simp [dI, hw]) rfl⟩
    · simp at hb
      have hie : i = y.args.length := by omega
      subst hie
      rw [hX_done] at hg3
      repeat (first
        | apply WP.seq
        | (apply WP.reg
           case hR => dsimp only [prepL, prepO, List.map, List.getElem?_cons_succ, List.getElem?_cons_zero]; exact Is.rfl
           case hr =>
             repeat (first
               | (apply RT.op (h := by simp [hg0, hg1, hg3, Hp.get_set, hf3, hi3]; exact Is.rfl) (he := by (try dsimp only [putEnv]) <;> exact rfl))
               | (apply RT.call (hg := by simp; exact Is.rfl) (hfo := by simp; exact Is.rfl) (hvs := by simp [hg0, hg1, hg3, Hp.get_set, hf3, hi3]; exact Is.rfl) (hcl := by simp [hg0, hg1, hg3, Hp.get_set, hf3, hi3]; exact Is.rfl) (hd := by simp [hg0, hg1, hg3, Hp.get_set, hf3, hi3]; exact Is.rfl) (hwr := by simp [hg0, hg1, hg3, Hp.get_set, hf3, hi3]; exact Is.rfl) (hlt := by simp [Is]) (he := by (try dsimp only [putEnv]) <;> exact rfl) (hh := by simp; exact Is.rfl) (hw := by simp; exact Is.rfl))
               | (apply RT.callI (hg := by simp; exact Is.rfl) (hfo := by simp; exact Is.rfl) (hvs := by simp [hg0, hg1, hg3, Hp.get_set, hf3, hi3]; exact Is.rfl) (hcl := by simp [hg0, hg1, hg3, Hp.get_set, hf3, hi3]; exact Is.rfl) (hd := hI1) (hne := hI2) (hw := hI3) (hwr := hI4) (he := by (try dsimp only [putEnv]) <;> exact rfl) (hn0 := by simp))
               | (apply RT.wr (h := by simp [hg0, hg1, hg3, Hp.get_set, hf3, hi3]; exact Is.rfl) (he := by (try dsimp only [putEnv]) <;> exact rfl) (hh := by simp [hg0, hg1, hg3, Hp.get_set, hf3, hi3]; exact Is.rfl) (hn := by exact Is.rfl) (hc := by exact Is.rfl) (hw := by simp; exact Is.rfl)))
             exact RT.nil
           case hc => (show _ = _; kernel_rfl)
           case ht => simp [hg0, hg1, hg3, Hp.get_set, hf3, hi3]; exact Is.rfl)
        | apply WP.block
        | apply WP.skip
        | apply WP.exit
        | apply WP.ret)
      obtain ⟨p, hp4⟩ : ∃ p, p = m + 4 := ⟨_, rfl⟩
      rw [← hp4]
      have hp0 : ¬ p = 0 := by omega
      have hp1 : ¬ p = 1 := by omega
      apply WP.loop' (I := fun d s => ∃ i : Nat, i + d = y.brs.length ∧ ∃ (hp : Hp) (n gb c : Nat) (vs : List V) (ids : List Nat), hp.get 0 = some ⟨0, false, [.d (.int .i64 y.k), .d (.str y.nm), .d (.int .i64 y.t), .d (.int .i64 y.r.k), .d (.int .i64 y.r.o), .d (.int .i64 y.r.t), .d (.int .i64 y.r.v), .d (.str y.r.nm), .d (.slice (encX y.r.args)), .d (.slice (encN y.outs)), .d (.slice (encX y.args)), .d (.slice (encB y.brs))]⟩ ∧ hp.get 1 = some ⟨1, false, [.d (.int .i64 0), .d (.str []), .d (.int .i64 0), .d (.int .i64 0), .d (.int .i64 0), .d (.int .i64 0), .d (.int .i64 0), .d (.str []), .full [], .full [], .full [], .full []]⟩ ∧ hp.get p = some ⟨gb, false, vs⟩ ∧
        TB hp.get vs (y.brs.take i ++ List.replicate (y.brs.length - i) []) ids ∧ ids.Nodup ∧ (∀ id, id ∈ ids → p < id ∧ id < n) ∧ p < n ∧
        s = ⟨[(1, .ptr 0 0 0), (2, .ptr 1 1 0), (7, .osl p gb 0 y.brs.length 1 (some y.brs.length)), (51, .d (.slice (encB y.brs))), (52, dI y.brs.length), (53, dI i)], hp, n, c, 0, []⟩) (d := y.brs.length)
      · refine ⟨0, by simp, _, p + 1, c, _, List.replicate y.brs.length (.full []), [], by simp [Hp.get_set, hp0], by simp [Hp.get_set, hp1, hg1], by simp [Hp.get_set], ?_, by simp, by simp, by omega, rfl⟩
        simp only [List.take_zero, List.nil_append, Nat.sub_zero]
        exact TB.nils _ _
      rintro d2 _ ⟨i, hi, hp, n, gb, c, vs, ids, hg0, hg1, hgb, hTB, hnd, hids, hpn, rfl⟩
      repeat (first
        | apply WP.seq
        | (apply WP.reg
           case hR => dsimp only [prepL, prepO, List.map, List.getElem?_cons_succ, List.getElem?_cons_zero]; exact Is.rfl
           case hr =>
             repeat (first
               | (apply RT.op (h := by simp [dI]; exact Is.rfl) (he := by (try dsimp only [putEnv]) <;> exact rfl))
               | (apply RT.call (hg := by simp; exact Is.rfl) (hfo := by simp; exact Is.rfl) (hvs := by simp [dI]; exact Is.rfl) (hcl := by simp [dI]; exact Is.rfl) (hd := by simp [dI]; exact Is.rfl) (hwr := by simp [dI]; exact Is.rfl) (hlt := by simp [Is]) (he := by (try dsimp only [putEnv]) <;> exact rfl) (hh := by simp; exact Is.rfl) (hw := by simp; exact Is.rfl))
               | (apply RT.callI (hg := by simp; exact Is.rfl) (hfo := by simp; exact Is.rfl) (hvs := by simp [dI]; exact Is.rfl) (hcl := by simp [dI]; exact Is.rfl) (hd := hI1) (hne := hI2) (hw := hI3) (hwr := hI4) (he := by (try dsimp only [putEnv]) <;> exact rfl) (hn0 := by simp))
               | (apply RT.wr (h := by simp [dI]; exact Is.rfl) (he := by (try dsimp only [putEnv]) <;> exact rfl) (hh := by simp [dI]; exact Is.rfl) (hn := by exact Is.rfl) (hc := by exact Is.rfl) (hw := by simp; exact Is.rfl)))
             exact RT.nil
           case hc => (show _ = _; kernel_rfl)
           case ht => simp [dI]; exact Is.rfl)
        | apply WP.block
        | apply WP.skip
        | apply WP.exit
        | apply WP.ret)
      show WP _ _ _ _ _ _
      refine WP.cond _ rfl (fun hb => ?_) (fun hb => ?_)
      · simp at hb
        obtain ⟨b, hbr, hbm, hbx⟩ := at_lt hb
        have hb' := encB_at hbr
        have hbs := mem_szB hbm
        have hbl := len_szY b
        have hw := w_succ hb (by omega)
        repeat (first
          | apply WP.seq
          | (apply WP.reg
             case hR => dsimp only [prepL, prepO, List.map, List.getElem?_cons_succ, List.getElem?_cons_zero]; exact Is.rfl
             case hr =>
               repeat (first
                 | (apply RT.op (h := by simp [hbx, hb']; exact Is.rfl) (he := by (try dsimp only [putEnv]) <;> exact rfl))
                 | (apply RT.call (hg := by simp; exact Is.rfl) (hfo := by simp; exact Is.rfl) (hvs := by simp [hbx, hb']; exact Is.rfl) (hcl := by simp [hbx, hb']; exact Is.rfl) (hd := by simp [hbx, hb']; exact Is.rfl) (hwr := by simp [hbx, hb']; exact Is.rfl) (hlt := by simp [Is]) (he := by (try dsimp only [putEnv]) <;> exact rfl) (hh := by simp; exact Is.rfl) (hw := by simp; exact Is.rfl))
                 | (apply RT.callI (hg := by simp; exact Is.rfl) (hfo := by simp; exact Is.rfl) (hvs := by simp [hbx, hb']; exact Is.rfl) (hcl := by simp [hbx, hb']; exact Is.rfl) (hd := hI1) (hne := hI2) (hw := hI3) (hwr := hI4) (he := by (try dsimp only [putEnv]) <;> exact rfl) (hn0 := by simp))
                 | (apply RT.wr (h := by simp [hbx, hb']; exact Is.rfl) (he := by (try dsimp only [putEnv]) <;> exact rfl) (hh := by simp [hbx, hb']; exact Is.rfl) (hn := by exact Is.rfl) (hc := by exact Is.rfl) (hw := by simp; exact Is.rfl)))
               exact RT.nil
             case hc => (show _ = _; kernel_rfl)
             case ht => simp [hbx, hb']; exact Is.rfl)
          | apply WP.block
          | apply WP.skip
          | apply WP.exit
          | apply WP.ret)
        apply WP.loop' (I := fun d s => ∃ k : Nat, k + d = b.length ∧ ∃ (hp : Hp) (n c : Nat) (vs : List V) (ids : List Nat), hp.get 0 = some ⟨0, false, [.d (.int .i64 y.k), .d (.str y.nm), .d (.int .i64 y.t), .d (.int .i64 y.r.k), .d (.int .i64 y.r.o), .d (.int .i64 y.r.t), .d (.int .i64 y.r.v), .d (.str y.r.nm), .d (.slice (encX y.r.args)), .d (.slice (encN y.outs)), .d (.slice (encX y.args)), .d (.slice (encB y.brs))]⟩ ∧ hp.get 1 = some ⟨1, false, [.d (.int .i64 0), .d (.str []), .d (.int .i64 0), .d (.int .i64 0), .d (.int .i64 0), .d (.int .i64 0), .d (.int .i64 0), .d (.str []), .full [], .full [], .full [], .full []]⟩ ∧ hp.get p = some ⟨gb, false, vs⟩ ∧
          TB hp.get vs (y.brs.take i ++ b.take k :: List.replicate (y.brs.length - i - 1) []) ids ∧ ids.Nodup ∧ (∀ id, id ∈ ids → p < id ∧ id < n) ∧ p < n ∧
          s = ⟨[(1, .ptr 0 0 0), (2, .ptr 1 1 0), (7, .osl p gb 0 y.brs.length 1 (some y.brs.length)), (8, dI i), (51, .d (.slice (encB y.brs))), (52, dI y.brs.length), (53, dI i), (58, dY b), (59, dI b.length), (60, dI k)], hp, n, c, 0, []⟩) (d := b.length)
        · refine ⟨0, by simp, hp, n, c, vs, ids, hg0, hg1, hgb, ?_, hnd, hids, hpn, rfl⟩
          rw [show y.brs.length - i = (y.brs.length - i - 1) + 1 by omega, List.replicate_succ] at hTB
          simpa using hTB
        rintro d3 _ ⟨k, hk, hp, n, c, vs, ids, hg0, hg1, hgb, hTB, hnd, hids, hpn, rfl⟩
        repeat (first
          | apply WP.seq
          | (apply WP.reg
             case hR => dsimp only [prepL, prepO, List.map, List.getElem?_cons_succ, List.getElem?_cons_zero]; exact Is.rfl
             case hr =>
               repeat (first
                 | (apply RT.op (h := by simp [dI]; exact Is.rfl) (he := by (try dsimp only [putEnv]) <;> exact rfl))
                 | (apply RT.call (hg := by simp; exact Is.rfl) (hfo := by simp; exact Is.rfl) (hvs := by simp [dI]; exact Is.rfl) (hcl := by simp [dI]; exact Is.rfl) (hd := by simp [dI]; exact Is.rfl) (hwr := by simp [dI]; exact Is.rfl) (hlt := by simp [Is]) (he := by (try dsimp only [putEnv]) <;> exact rfl) (hh := by simp; exact Is.rfl) (hw := by simp; exact Is.rfl))
                 | (apply RT.callI (hg := by simp; exact Is.rfl) (hfo := by simp; exact Is.rfl) (hvs := by simp [dI]; exact Is.rfl) (hcl := by simp [dI]; exact Is.rfl) (hd := hI1) (hne := hI2) (hw := hI3) (hwr := hI4) (he := by (try dsimp only [putEnv]) <;> exact rfl) (hn0 := by simp))
                 | (apply RT.wr (h := by simp [dI]; exact Is.rfl) (he := by (try dsimp only [putEnv]) <;> exact rfl) (hh := by simp [dI]; exact Is.rfl) (hn := by exact Is.rfl) (hc := by exact Is.rfl) (hw := by simp; exact Is.rfl)))
               exact RT.nil
             case hc => (show _ = _; kernel_rfl)
             case ht => simp [dI]; exact Is.rfl)
          | apply WP.block
          | apply WP.skip
          | apply WP.exit
          | apply WP.ret)
        show WP _ _ _ _ _ _
        refine WP.cond _ rfl (fun hb => ?_) (fun hb => ?_)
        · simp at hb
          obtain ⟨x, hxr, hxm, hxx⟩ := at_lt hb
          have hx' := encY_at hxr
          have hw2 := w_succ hb (by omega)
          obtain ⟨q, hI1, sc, ix, hqv, hTS, hxnd, hxlt⟩ := ih b hbm x hxm
          simp only [aY, Y.cells_eq x, List.map] at hI1
          have hlt : (y.brs.take i).length = i := by simp; omega
          obtain ⟨bk, hbk⟩ : ∃ bk, bk = b.take k := ⟨_, rfl⟩
          have hbkl : bk.length = k := by rw [hbk]; simp; omega
          have hbk1 : b.take (k + 1) = bk ++ [x] := by rw [hbk, take_S hxr]
          rw [← hbk] at hTB
          have hvl := hTB.len
          have hvl2 : vs.length = y.brs.length := by rw [hvl]; simp; omega
          obtain ⟨v, i1, i2, i3, hv, hieq, hTL, hmk⟩ := hTB.at_ (k := i) (b := bk) (by rw [List.getElem?_append_right (by omega), hlt]; simp)
          have hmk2 : ∀ z, (y.brs.take i ++ bk :: List.replicate (y.brs.length - i - 1) []).set i z = y.brs.take i ++ z :: List.replicate (y.brs.length - i - 1) [] := fun z => by
            rw [List.set_append_right _ _ (by omega), hlt]; simp
          obtain ⟨scS, hscS⟩ : ∃ s, s = shiftVs (n + 1) (c + 1) sc := ⟨_, rfl⟩
          have hI2 : closeT noLook q.v = none := by rw [hqv]; exact hTS.names
          have hI3 : shiftV (n + 1) (c + 1) q.v = .agg scS := by rw [hqv, hscS]; simp [shiftV]
          obtain ⟨W, hI4⟩ : ∃ W, shiftH (n + 1) (c + 1) (wrOf q.hp.get (List.range q.n)) = W := ⟨_, rfl⟩
          have hTS2 : ∀ hpX : Hp, TS (hpX.sets W).get scS x (ix.map (· + (n + 1))) := fun hpX => by
            rw [hscS, ← hI4]; exact hTS.shift fun id o hid ho => import_new (hxlt id hid) ho
          have hone := (hTS2 []).one
          have hl12 := (hTS2 []).len
          have htk : scS.take 12 = scS := by rw [← hl12, List.take_length]
          have hold : ∀ (hpX : Hp) (id : Nat), id < n + 1 → (hpX.sets W).get id = hpX.get id := fun hpX id h => by rw [← hI4]; exact import_old h
          have hW : ∀ w, w ∈ W.map (·.1) → n + 1 ≤ w ∧ w < n + 1 + q.n := fun w hw => by rw [← hI4] at hw; exact import_keys hw
          have hFp : ∀ o o', (((Hp.set hp n o).set n o').sets W).get p = some ⟨gb, false, vs⟩ := fun o o' => by rw [hold _ _ (by omega), Hp.get_set_ne _ _ _ _ (by omega), Hp.get_set_ne _ _ _ _ (by omega), hgb]
          have hnp : ¬ n = p := by omega
          have hn2p : ¬ n + 1 + q.n = p := by omega
          have hn3p : ¬ n + 1 + q.n + 1 = p := by omega
          have hpn3 : p < n + 1 + q.n + 1 + 1 := by omega
          have hset : ∀ z, vs.take i ++ z :: vs.drop (i + 1) = vs.set i z := fun z => by rw [List.set_eq_take_append_cons_drop, if_pos (by omega)]
          have hfit : (k + 1) * 176 ≤ 140737488355328 := by omega
          have hble : i + 1 ≤ y.brs.length := by omega
          have hdW : ∀ z, z ≤ n → disj (W.map (·.1)) [z] = true := fun z hz => by
            unfold disj
            rw [List.all_eq_true]
            intro w hw
            have := hW w hw
            simp [nbeq_ne (show w ≠ z by omega)]
          have hfr : ∀ A B o2 o3 oB id, id < n → id ≠ p → ((((((hp.set n A).set n B).sets W).set (n + 1 + q.n) o2).set (n + 1 + q.n + 1) o3).set p oB).get id = hp.get id := fun A B o2 o3 oB id h1 h2 => by
            rw [Hp.get_set_ne _ _ _ _ (by omega), Hp.get_set_ne _ _ _ _ (by omega), Hp.get_set_ne _ _ _ _ (by omega), hold _ _ (by omega), Hp.get_set_ne _ _ _ _ (by omega), Hp.get_set_ne _ _ _ _ (by omega)]
          have hTS3 : ∀ A B o2 o3 oB, TS ((((((hp.set n A).set n B).sets W).set (n + 1 + q.n) o2).set (n + 1 + q.n + 1) o3).set p oB).get scS x (ix.map (· + (n + 1))) := fun A B o2 o3 oB =>
            (hTS2 ((hp.set n A).set n B)).frame fun id hid => by
              obtain ⟨j, hj, rfl⟩ := List.mem_map.1 hid
              have := hxlt j hj
              rw [Hp.get_set_ne _ _ _ _ (by omega), Hp.get_set_ne _ _ _ _ (by omega), Hp.get_set_ne _ _ _ _ (by omega)]
          have hsub : ∀ id, id ∈ i1 ∨ id ∈ i3 → id ∈ ids := fun id hid => by rw [hieq]; simp only [List.mem_append]; rcases hid with h | h <;> simp [h]
          have hidn : ∀ id, id ∈ i1 ∨ id ∈ i3 → id < n := fun id hid => (hids id (hsub id hid)).2
          have hidp : ∀ id, id ∈ i1 ∨ id ∈ i3 → id ≠ p := fun id hid => by have := (hids id (hsub id hid)).1; omega
          have hixnd : (ix.map (· + (n + 1))).Nodup := List.Pairwise.map _ (fun a b hab => by simp only [ne_eq]; omega) hxnd
          have hixb : ∀ id, id ∈ ix.map (· + (n + 1)) → n + 1 ≤ id ∧ id < n + 1 + q.n := fun id hid => by
            obtain ⟨j, hj, rfl⟩ := List.mem_map.1 hid
            have := hxlt j hj
            omega
          have hSnd : ((n + 1 + q.n + 1) :: ix.map (· + (n + 1))).Nodup := by
            rw [List.nodup_cons]
            exact ⟨fun h => by have := hixb _ h; omega, hixnd⟩
          have hSb : ∀ id, id ∈ (n + 1 + q.n + 1) :: ix.map (· + (n + 1)) → n ≤ id ∧ id < n + 1 + q.n + 2 := fun id hid => by
            rcases List.mem_cons.1 hid with rfl | h
            · omega
            · have := hixb _ h; omega
          have hSn := fun id hid => (hSb id hid).1
          have hmem : ∀ id, id ∈ i1 ++ (([] ++ ((n + 1 + q.n + 1) :: ix.map (· + (n + 1)))) ++ i3) → id ∈ ids ∨ id ∈ (n + 1 + q.n + 1) :: ix.map (· + (n + 1)) := fun id hid => by
            rw [hieq]
            simp only [List.mem_append, List.nil_append] at hid ⊢
            rcases hid with h | h | h
            · exact .inl (.inl h)
            · exact .inr h
            · exact .inl (.inr (.inr h))
          repeat (first
            | apply WP.seq
            | (apply WP.reg
               case hR => dsimp only [prepL, prepO, List.map, List.getElem?_cons_succ, List.getElem?_cons_zero]; exact Is.rfl
               case hr =>
                 repeat (first
                   | (apply RT.op (h := by simp [dY, hxx, hx', Y.cells_eq x]; exact Is.rfl) (he := by (try dsimp only [putEnv]) <;> exact rfl))
                   | (apply RT.call (hg := by simp; exact Is.rfl) (hfo := by simp; exact Is.rfl) (hvs := by simp [dY, hxx, hx', Y.cells_eq x]; exact Is.rfl) (hcl := by simp [dY, hxx, hx', Y.cells_eq x]; exact Is.rfl) (hd := by simp [dY, hxx, hx', Y.cells_eq x]; exact Is.rfl) (hwr := by simp [dY, hxx, hx', Y.cells_eq x]; exact Is.rfl) (hlt := by simp [Is]) (he := by (try dsimp only [putEnv]) <;> exact rfl) (hh := by simp; exact Is.rfl) (hw := by simp; exact Is.rfl))
                   | (apply RT.callI (hg := by simp; exact Is.rfl) (hfo := by simp; exact Is.rfl) (hvs := by simp [dY, hxx, hx', Y.cells_eq x]; exact Is.rfl) (hcl := by simp [dY, hxx, hx', Y.cells_eq x]; exact Is.rfl) (hd := hI1) (hne := hI2) (hw := hI3) (hwr := hI4) (he := by (try dsimp only [putEnv]) <;> exact rfl) (hn0 := by simp))
                   | (apply RT.wr (h := by simp [dY, hxx, hx', Y.cells_eq x]; exact Is.rfl) (he := by (try dsimp only [putEnv]) <;> exact rfl) (hh := by simp [dY, hxx, hx', Y.cells_eq x]; exact Is.rfl) (hn := by exact Is.rfl) (hc := by exact Is.rfl) (hw := by simp; exact Is.rfl)))
                 exact RT.nil
               case hc => (show _ = _; kernel_rfl)
               case ht => simp [dY, hxx, hx', Y.cells_eq x]; exact Is.rfl)
            | apply WP.block
            | apply WP.skip
            | apply WP.exit
            | apply WP.ret)
          cases hTL with
          | nil =>
            apply WP.reg
            case hR => dsimp only [prepL, prepO, List.map, List.getElem?_cons_succ, List.getElem?_cons_zero]; exact Is.rfl
            case hr =>
              repeat (first
                | (apply RT.op (h := by simp [hgb, hvl2, hv, hbx, Hp.get_set, hnp, hn2p, hn3p, hpn3, hset, hFp, closeVs_false, hone, hl12, htk, hfit, hble]; exact Is.rfl) (he := by (try dsimp only [putEnv]) <;> exact rfl))
                | (apply RT.call (hg := by simp; exact Is.rfl) (hfo := by simp; exact Is.rfl) (hvs := by simp [hgb, hvl2, hv, hbx, Hp.get_set, hnp, hn2p, hn3p, hpn3, hset, hFp, closeVs_false, hone, hl12, htk, hfit, hble]; exact Is.rfl) (hcl := by simp [hgb, hvl2, hv, hbx, Hp.get_set, hnp, hn2p, hn3p, hpn3, hset, hFp, closeVs_false, hone, hl12, htk, hfit, hble]; exact Is.rfl) (hd := by simp [hgb, hvl2, hv, hbx, Hp.get_set, hnp, hn2p, hn3p, hpn3, hset, hFp, closeVs_false, hone, hl12, htk, hfit, hble]; exact Is.rfl) (hwr := by simp [hgb, hvl2, hv, hbx, Hp.get_set, hnp, hn2p, hn3p, hpn3, hset, hFp, closeVs_false, hone, hl12, htk, hfit, hble]; exact Is.rfl) (hlt := by simp [Is]) (he := by (try dsimp only [putEnv]) <;> exact rfl) (hh := by simp; exact Is.rfl) (hw := by simp; exact Is.rfl))
                | (apply RT.callI (hg := by simp; exact Is.rfl) (hfo := by simp; exact Is.rfl) (hvs := by simp [hgb, hvl2, hv, hbx, Hp.get_set, hnp, hn2p, hn3p, hpn3, hset, hFp, closeVs_false, hone, hl12, htk, hfit, hble]; exact Is.rfl) (hcl := by simp [hgb, hvl2, hv, hbx, Hp.get_set, hnp, hn2p, hn3p, hpn3, hset, hFp, closeVs_false, hone, hl12, htk, hfit, hble]; exact Is.rfl) (hd := hI1) (hne := hI2) (hw := hI3) (hwr := hI4) (he := by (try dsimp only [putEnv]) <;> exact rfl) (hn0 := by simp))
                | (apply RT.wr (h := by simp [hgb, hvl2, hv, hbx, Hp.get_set, hnp, hn2p, hn3p, hpn3, hset, hFp, closeVs_false, hone, hl12, htk, hfit, hble]; exact Is.rfl) (he := by (try dsimp only [putEnv]) <;> exact rfl) (hh := by simp [hgb, hvl2, hv, hbx, Hp.get_set, hnp, hn2p, hn3p, hpn3, hset, hFp, closeVs_false, hone, hl12, htk, hfit, hble]; exact Is.rfl) (hn := by exact Is.rfl) (hc := by exact Is.rfl) (hw := by simp; exact Is.rfl)))
              exact RT.nil
            case ht => simp [hgb, hvl2, hv, hbx, Hp.get_set, hnp, hn2p, hn3p, hpn3, hset, hFp, closeVs_false, hone, hl12, htk, hfit, hble]; exact Is.rfl
            case hc =>
              refine checkR_un [(0, 1), (0, 2), (1, 2), (0, 3), (1, 3), (2, 3), (0, 4), (1, 4), (0, 5), (1, 5), (0, 6), (1, 6), (2, 6), (3, 6), (4, 6), (5, 6), (0, 7), (1, 7), (2, 7), (3, 7), (4, 7), (5, 7), (0, 8), (1, 8), (2, 8), (3, 8), (4, 8), (5, 8), (0, 9), (1, 9)] (by kernel_rfl) (by kernel_rfl) rfl ?_
              simp [memA, hdW p (by omega), nbeq_ne hn2p]
            repeat (first
              | apply WP.seq
              | (apply WP.reg
                 case hR => dsimp only [prepL, prepO, List.map, List.getElem?_cons_succ, List.getElem?_cons_zero]; exact Is.rfl
                 case hr =>
                   repeat (first
                     | (apply RT.op (h := by simp; exact Is.rfl) (he := by (try dsimp only [putEnv]) <;> exact rfl))
                     | (apply RT.call (hg := by simp; exact Is.rfl) (hfo := by simp; exact Is.rfl) (hvs := by simp; exact Is.rfl) (hcl := by simp; exact Is.rfl) (hd := by simp; exact Is.rfl) (hwr := by simp; exact Is.rfl) (hlt := by simp [Is]) (he := by (try dsimp only [putEnv]) <;> exact rfl) (hh := by simp; exact Is.rfl) (hw := by simp; exact Is.rfl))
                     | (apply RT.callI (hg := by simp; exact Is.rfl) (hfo := by simp; exact Is.rfl) (hvs := by simp; exact Is.rfl) (hcl := by simp; exact Is.rfl) (hd := hI1) (hne := hI2) (hw := hI3) (hwr := hI4) (he := by (try dsimp only [putEnv]) <;> exact rfl) (hn0 := by simp))
                     | (apply RT.wr (h := by simp; exact Is.rfl) (he := by (try dsimp only [putEnv]) <;> exact rfl) (hh := by simp; exact Is.rfl) (hn := by exact Is.rfl) (hc := by exact Is.rfl) (hw := by simp; exact Is.rfl)))
                   exact RT.nil
                 case hc => (show _ = _; kernel_rfl)
                 case ht => simp; exact Is.rfl)
              | apply WP.block
              | apply WP.skip
              | apply WP.exit
              | apply WP.ret)
            refine loop_next (by simp; exact Is.rfl) ?_
            refine ⟨d3 - 1, by omega, k + 1, by omega, ?hp, ?n, ?c, ?vs, i1 ++ (([] ++ ((n + 1 + q.n + 1) :: ix.map (· + (n + 1)))) ++ i3), ?a0, ?a1, ?ap, ?aT, ?an, ?ai, ?al, ?az⟩
            case az =>
              refine st_eq ?_ rfl
              simp [dI, dY, hw2]
            case a0 => rw [hfr _ _ _ _ _ 0 (by omega) (by omega), hg0]
            case a1 => rw [hfr _ _ _ _ _ 1 (by omega) (by omega), hg1]
            case ap => rw [Hp.get_set_self]
            case al => omega
            case aT =>
              rw [hbk1, ← hmk2]
              exact hmk _ _ _ _ (fun id hid => hfr _ _ _ _ _ id (hidn id hid) (hidp id hid)) (.osl (l := [] ++ [x]) (by rw [Hp.get_set_ne _ _ _ _ (by omega), Hp.get_set_self]) (TC.one (hTS3 _ _ _ _ _)))
            case an => exact nodup_mid (n := n) (hieq ▸ hnd) hSnd (fun id hid => (hids id (hieq ▸ hid)).2) hSn
            case ai =>
              intro id hid
              rcases hmem id hid with h | h
              · have := hids id h; omega
              · have := hSb id h; omega
          | osl hg hc =>
            rename_i idv gv csv tl
            have hidv := hids idv (by rw [hieq]; simp)
            have hFv : ∀ o o', (((Hp.set hp n o).set n o').sets W).get idv = some ⟨gv, false, csv⟩ := fun o o' => by rw [hold _ _ (by omega), Hp.get_set_ne _ _ _ _ (by omega), Hp.get_set_ne _ _ _ _ (by omega), hg]
            have hv1 : ¬ n + 1 + q.n = idv := by omega
            have hv2 : ¬ idv = p := by omega
            have hv3 : idv < n + 1 + q.n + 1 := by omega
            have hv4 : ¬ n = idv := by omega
            have hv5 : p < n + 1 + q.n + 1 := by omega
            have hcl := hc.len
            rw [hbkl] at hcl
            have hct : csv.take (k * 12) = csv := by rw [← hcl, List.take_length]
            apply WP.reg
            case hR => dsimp only [prepL, prepO, List.map, List.getElem?_cons_succ, List.getElem?_cons_zero]; exact Is.rfl
            case hr =>
              repeat (first
                | (apply RT.op (h := by simp [hgb, hvl2, hv, hbx, hbkl, Hp.get_set, hnp, hn2p, hv1, hv2, hv3, hv4, hv5, hset, hFp, hFv, hg, hcl, hct, closeVs_false, hone, hl12, htk, hfit, hble]; exact Is.rfl) (he := by (try dsimp only [putEnv]) <;> exact rfl))
                | (apply RT.call (hg := by simp; exact Is.rfl) (hfo := by simp; exact Is.rfl) (hvs := by simp [hgb, hvl2, hv, hbx, hbkl, Hp.get_set, hnp, hn2p, hv1, hv2, hv3, hv4, hv5, hset, hFp, hFv, hg, hcl, hct, closeVs_false, hone, hl12, htk, hfit, hble]; exact Is.rfl) (hcl := by simp [hgb, hvl2, hv, hbx, hbkl, Hp.get_set, hnp, hn2p, hv1, hv2, hv3, hv4, hv5, hset, hFp, hFv, hg, hcl, hct, closeVs_false, hone, hl12, htk, hfit, hble]; exact Is.rfl) (hd := by simp [hgb, hvl2, hv, hbx, hbkl, Hp.get_set, hnp, hn2p, hv1, hv2, hv3, hv4, hv5, hset, hFp, hFv, hg, hcl, hct, closeVs_false, hone, hl12, htk, hfit, hble]; exact Is.rfl) (hwr := by simp [hgb, hvl2, hv, hbx, hbkl, Hp.get_set, hnp, hn2p, hv1, hv2, hv3, hv4, hv5, hset, hFp, hFv, hg, hcl, hct, closeVs_false, hone, hl12, htk, hfit, hble]; exact Is.rfl) (hlt := by simp [Is]) (he := by (try dsimp only [putEnv]) <;> exact rfl) (hh := by simp; exact Is.rfl) (hw := by simp; exact Is.rfl))
                | (apply RT.callI (hg := by simp; exact Is.rfl) (hfo := by simp; exact Is.rfl) (hvs := by simp [hgb, hvl2, hv, hbx, hbkl, Hp.get_set, hnp, hn2p, hv1, hv2, hv3, hv4, hv5, hset, hFp, hFv, hg, hcl, hct, closeVs_false, hone, hl12, htk, hfit, hble]; exact Is.rfl) (hcl := by simp [hgb, hvl2, hv, hbx, hbkl, Hp.get_set, hnp, hn2p, hv1, hv2, hv3, hv4, hv5, hset, hFp, hFv, hg, hcl, hct, closeVs_false, hone, hl12, htk, hfit, hble]; exact Is.rfl) (hd := hI1) (hne := hI2) (hw := hI3) (hwr := hI4) (he := by (try dsimp only [putEnv]) <;> exact rfl) (hn0 := by simp))
                | (apply RT.wr (h := by simp [hgb, hvl2, hv, hbx, hbkl, Hp.get_set, hnp, hn2p, hv1, hv2, hv3, hv4, hv5, hset, hFp, hFv, hg, hcl, hct, closeVs_false, hone, hl12, htk, hfit, hble]; exact Is.rfl) (he := by (try dsimp only [putEnv]) <;> exact rfl) (hh := by simp [hgb, hvl2, hv, hbx, hbkl, Hp.get_set, hnp, hn2p, hv1, hv2, hv3, hv4, hv5, hset, hFp, hFv, hg, hcl, hct, closeVs_false, hone, hl12, htk, hfit, hble]; exact Is.rfl) (hn := by exact Is.rfl) (hc := by exact Is.rfl) (hw := by simp; exact Is.rfl)))
              exact RT.nil
            case ht => simp [hgb, hvl2, hv, hbx, hbkl, Hp.get_set, hnp, hn2p, hv1, hv2, hv3, hv4, hv5, hset, hFp, hFv, hg, hcl, hct, closeVs_false, hone, hl12, htk, hfit, hble]; exact Is.rfl
            case hc =>
              refine checkR_un [(0, 1), (0, 2), (1, 2), (0, 3), (1, 3), (2, 3), (0, 4), (1, 4), (0, 5), (1, 5), (0, 6), (1, 6), (2, 6), (3, 6), (4, 6), (5, 6), (0, 7), (1, 7), (2, 7), (3, 7), (4, 7), (5, 7), (0, 8), (1, 8), (2, 8), (3, 8), (4, 8), (5, 8), (0, 9), (1, 9)] (by kernel_rfl) (by kernel_rfl) rfl ?_
              simp [memA, hdW p (by omega), nbeq_ne hn2p]
            repeat (first
              | apply WP.seq
              | (apply WP.reg
                 case hR => dsimp only [prepL, prepO, List.map, List.getElem?_cons_succ, List.getElem?_cons_zero]; exact Is.rfl
                 case hr =>
                   repeat (first
                     | (apply RT.op (h := by simp; exact Is.rfl) (he := by (try dsimp only [putEnv]) <;> exact rfl))
                     | (apply RT.call (hg := by simp; exact Is.rfl) (hfo := by simp; exact Is.rfl) (hvs := by simp; exact Is.rfl) (hcl := by simp; exact Is.rfl) (hd := by simp; exact Is.rfl) (hwr := by simp; exact Is.rfl) (hlt := by simp [Is]) (he := by (try dsimp only [putEnv]) <;> exact rfl) (hh := by simp; exact Is.rfl) (hw := by simp; exact Is.rfl))
                     | (apply RT.callI (hg := by simp; exact Is.rfl) (hfo := by simp; exact Is.rfl) (hvs := by simp; exact Is.rfl) (hcl := by simp; exact Is.rfl) (hd := hI1) (hne := hI2) (hw := hI3) (hwr := hI4) (he := by (try dsimp only [putEnv]) <;> exact rfl) (hn0 := by simp))
                     | (apply RT.wr (h := by simp; exact Is.rfl) (he := by (try dsimp only [putEnv]) <;> exact rfl) (hh := by simp; exact Is.rfl) (hn := by exact Is.rfl) (hc := by exact Is.rfl) (hw := by simp; exact Is.rfl)))
                   exact RT.nil
                 case hc => (show _ = _; kernel_rfl)
                 case ht => simp; exact Is.rfl)
              | apply WP.block
              | apply WP.skip
              | apply WP.exit
              | apply WP.ret)
            refine loop_next (by simp; exact Is.rfl) ?_
            have hfr2 : ∀ A B o2 oV oB id, id < n → id ≠ p → id ≠ idv → ((((((hp.set n A).set n B).sets W).set (n + 1 + q.n) o2).set idv oV).set p oB).get id = hp.get id := fun A B o2 oV oB id h1 h2 h3 => by
              rw [Hp.get_set_ne _ _ _ _ (by omega), Hp.get_set_ne _ _ _ _ (by omega), Hp.get_set_ne _ _ _ _ (by omega), hold _ _ (by omega), Hp.get_set_ne _ _ _ _ (by omega), Hp.get_set_ne _ _ _ _ (by omega)]
            have hnd2 : (i1 ++ ((idv :: tl) ++ i3)).Nodup := hieq ▸ hnd
            rw [List.nodup_append, List.nodup_append] at hnd2
            obtain ⟨hn1, ⟨hn2, hn3, hn4⟩, hn5⟩ := hnd2
            rw [List.nodup_cons] at hn2
            have hne1 : ∀ id, id ∈ i1 ∨ id ∈ i3 → id ≠ idv := fun id hid he => by
              subst he
              rcases hid with h | h
              · exact hn5 _ h _ (by simp) rfl
              · exact hn4 _ (by simp) _ h rfl
            have htl : ∀ id, id ∈ tl → id ∈ ids := fun id hid => by rw [hieq]; simp [hid]
            have hTS4 : ∀ A B o2 oV oB, TS ((((((hp.set n A).set n B).sets W).set (n + 1 + q.n) o2).set idv oV).set p oB).get scS x (ix.map (· + (n + 1))) := fun A B o2 oV oB =>
              (hTS2 ((hp.set n A).set n B)).frame fun id hid => by
                have := hixb id hid
                rw [Hp.get_set_ne _ _ _ _ (by omega), Hp.get_set_ne _ _ _ _ (by omega), Hp.get_set_ne _ _ _ _ (by omega)]
            refine ⟨d3 - 1, by omega, k + 1, by omega, ?hp2, ?n2, ?c2, ?vs2, i1 ++ (((idv :: tl) ++ ix.map (· + (n + 1))) ++ i3), ?a02, ?a12, ?ap2, ?aT2, ?an2, ?ai2, ?al2, ?az2⟩
            case az2 =>
              refine st_eq ?_ rfl
              simp [dI, dY, hw2]
            case a02 => rw [hfr2 _ _ _ _ _ 0 (by omega) (by omega) (by omega), hg0]
            case a12 => rw [hfr2 _ _ _ _ _ 1 (by omega) (by omega) (by omega), hg1]
            case ap2 => rw [Hp.get_set_self]
            case al2 => omega
            case aT2 =>
              have hlen : (bk ++ [x]).length = k + 1 := by simp [hbkl]
              rw [hbk1, ← hmk2, ← hlen]
              refine hmk _ _ _ _ (fun id hid => hfr2 _ _ _ _ _ id (hidn id hid) (hidp id hid) (hne1 id hid)) (.osl (cs := csv ++ scS) (by rw [Hp.get_set_ne _ _ _ _ (by omega), Hp.get_set_self]) (TC.app (hc.frame fun id hid => ?_) (TC.one (hTS4 _ _ _ _ _))))
              have h1 := hids id (htl id hid)
              exact hfr2 _ _ _ _ _ id (by omega) (by omega) (fun he => hn2.1 (he ▸ hid))
            case an2 => exact nodup_mid (n := n) (hieq ▸ hnd) hixnd (fun id hid => (hids id (hieq ▸ hid)).2) (fun id hid => by have := hixb id hid; omega)
            case ai2 =>
              intro id hid
              simp only [List.mem_append] at hid
              rcases hid with h | (h | h) | h
              · have := hids id (hsub id (.inl h)); omega
              · have := hids id (by rw [hieq]; simp only [List.mem_append]; exact .inr (.inl h)); omega
              · have := hixb id h; omega
              · have := hids id (hsub id (.inr h)); omega
        · simp at hb
          have hkb : b.take k = b := by rw [List.take_of_length_le hb]
          repeat (first
            | apply WP.seq
            | (apply WP.reg
               case hR => dsimp only [prepL, prepO, List.map, List.getElem?_cons_succ, List.getElem?_cons_zero]; exact Is.rfl
               case hr =>
                 repeat (first
                   | (apply RT.op (h := by simp; exact Is.rfl) (he := by (try dsimp only [putEnv]) <;> exact rfl))
                   | (apply RT.call (hg := by simp; exact Is.rfl) (hfo := by simp; exact Is.rfl) (hvs := by simp; exact Is.rfl) (hcl := by simp; exact Is.rfl) (hd := by simp; exact Is.rfl) (hwr := by simp; exact Is.rfl) (hlt := by simp [Is]) (he := by (try dsimp only [putEnv]) <;> exact rfl) (hh := by simp; exact Is.rfl) (hw := by simp; exact Is.rfl))
                   | (apply RT.callI (hg := by simp; exact Is.rfl) (hfo := by simp; exact Is.rfl) (hvs := by simp; exact Is.rfl) (hcl := by simp; exact Is.rfl) (hd := hI1) (hne := hI2) (hw := hI3) (hwr := hI4) (he := by (try dsimp only [putEnv]) <;> exact rfl) (hn0 := by simp))
                   | (apply RT.wr (h := by simp; exact Is.rfl) (he := by (try dsimp only [putEnv]) <;> exact rfl) (hh := by simp; exact Is.rfl) (hn := by exact Is.rfl) (hc := by exact Is.rfl) (hw := by simp; exact Is.rfl)))
                 exact RT.nil
               case hc => (show _ = _; kernel_rfl)
               case ht => simp; exact Is.rfl)
            | apply WP.block
            | apply WP.skip
            | apply WP.exit
            | apply WP.ret)
          refine loop_next (by simp; exact Is.rfl) ?_
          refine ⟨d2 - 1, by omega, i + 1, by omega, hp, n, gb, c, vs, ids, hg0, hg1, hgb, ?_, hnd, hids, hpn, st_eq (by simp [dI, hw]) rfl⟩
          rw [hkb] at hTB
          rw [take_S hbr, List.append_assoc]
          exact hTB
      · simp at hb
        have hie : i = y.brs.length := by omega
        subst hie
        simp only [List.take_length, Nat.sub_self, List.replicate_zero, List.append_nil] at hTB
        have hn0 : 0 < n := by omega
        have hn1 : 1 < n := by omega
        repeat (first
          | apply WP.seq
          | (apply WP.reg
             case hR => dsimp only [prepL, prepO, List.map, List.getElem?_cons_succ, List.getElem?_cons_zero]; exact Is.rfl
             case hr =>
               repeat (first
                 | (apply RT.op (h := by simp [hg0, hg1, Hp.get_set, hn0, hn1, closeVs_false]; exact Is.rfl) (he := by (try dsimp only [putEnv]) <;> exact rfl))
                 | (apply RT.call (hg := by simp; exact Is.rfl) (hfo := by simp; exact Is.rfl) (hvs := by simp [hg0, hg1, Hp.get_set, hn0, hn1, closeVs_false]; exact Is.rfl) (hcl := by simp [hg0, hg1, Hp.get_set, hn0, hn1, closeVs_false]; exact Is.rfl) (hd := by simp [hg0, hg1, Hp.get_set, hn0, hn1, closeVs_false]; exact Is.rfl) (hwr := by simp [hg0, hg1, Hp.get_set, hn0, hn1, closeVs_false]; exact Is.rfl) (hlt := by simp [Is]) (he := by (try dsimp only [putEnv]) <;> exact rfl) (hh := by simp; exact Is.rfl) (hw := by simp; exact Is.rfl))
                 | (apply RT.callI (hg := by simp; exact Is.rfl) (hfo := by simp; exact Is.rfl) (hvs := by simp [hg0, hg1, Hp.get_set, hn0, hn1, closeVs_false]; exact Is.rfl) (hcl := by simp [hg0, hg1, Hp.get_set, hn0, hn1, closeVs_false]; exact Is.rfl) (hd := hI1) (hne := hI2) (hw := hI3) (hwr := hI4) (he := by (try dsimp only [putEnv]) <;> exact rfl) (hn0 := by simp))
                 | (apply RT.wr (h := by simp [hg0, hg1, Hp.get_set, hn0, hn1, closeVs_false]; exact Is.rfl) (he := by (try dsimp only [putEnv]) <;> exact rfl) (hh := by simp [hg0, hg1, Hp.get_set, hn0, hn1, closeVs_false]; exact Is.rfl) (hn := by exact Is.rfl) (hc := by exact Is.rfl) (hw := by simp; exact Is.rfl)))
               exact RT.nil
             case hc => (show _ = _; kernel_rfl)
             case ht => simp [hg0, hg1, Hp.get_set, hn0, hn1, closeVs_false]; exact Is.rfl)
          | apply WP.block
          | apply WP.skip
          | apply WP.exit
          | apply WP.ret)
        refine ⟨.inr rfl, [.agg (hdY y ++ [.osl p gb 0 y.brs.length 1 (some y.brs.length)])], ?_, _, p :: ids, rfl, ?_, ?_, ?_⟩
        · show resultsV _ _ [.cell 2 38] = _
          simp [resultsV, resultV, Hp.get_set, hdY]
        · refine .mk (vs := vs) (by simp [Hp.get_set, hgb, show ¬ 1 = p by omega, show ¬ 0 = p by omega]) (hTB.frame fun id hid => ?_)
          have := hids id hid
          simp [Hp.get_set, show ¬ 1 = id by omega, show ¬ 0 = id by omega]
        · rw [List.nodup_cons]
          exact ⟨fun h => by have := hids p h; omega, hnd⟩
        · intro id hid
          rcases List.mem_cons.1 hid with rfl | h
          · exact hpn
          · exact (hids id h).2
  obtain ⟨v, t, h1, sc, i, h2, h3, h4, h5⟩ := main
  exact ⟨_, h1, sc, i, h2, h3, h4, h5⟩
end Go.Ab
