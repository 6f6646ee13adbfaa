/- Of the program: is a variable assigned (closures that are handed the memory); do two cases go together. -/
import Derived.Test.YtofbmhmdpeclnaaFuL
set_option linter.unusedVariables false
set_option linter.unusedSimpArgs false
set_option maxRecDepth 4000
set_option linter.unusedSimpArgs false
set_option linter.unusedVariables false
namespace Go.Ab
open Go.Proofs

def fIdx {α : Type} (f : α → Bool) : List α → Int
  | [] => -1
  | y :: r => if f y then 0 else if fIdx f r < 0 then -1 else fIdx f r + 1
theorem fIdx_any {α : Type} (f : α → Bool) : ∀ l : List α, decide (0 ≤ fIdx f l) = l.any f
  | [] => by simp [fIdx]
  | y :: r => by
    have ih := fIdx_any f r
    simp only [fIdx, List.any_cons]
    by_cases hy : f y = true
    · simp [hy]
    · rw [← ih]
      have hy2 : f y = false := by simpa using hy
      simp only [hy2, Bool.false_eq_true, if_false, Bool.false_or]
      split
      · rw [decide_eq_false (by omega), decide_eq_false (by omega)]
      · rw [decide_eq_true (by omega), decide_eq_true (by omega)]
theorem fIdx_none {α : Type} {f : α → Bool} : ∀ {l : List α}, l.any f = false → fIdx f l = -1
  | [], _ => rfl
  | y :: r, h => by
    simp only [List.any_cons, Bool.or_eq_false_iff] at h
    simp [fIdx, h.1, fIdx_none h.2]
theorem fIdx_hit {α : Type} {f : α → Bool} : ∀ {l : List α} {i : Nat} {y : α}, (l.take i).any f = false → l[i]? = some y → f y = true → fIdx f l = i
  | [], i, y, _, h, _ => by simp at h
  | a :: r, 0, y, _, h, hy => by simp at h; subst h; simp [fIdx, hy]
  | a :: r, i + 1, y, h, hi, hy => by
    simp only [List.take_succ_cons, List.any_cons, Bool.or_eq_false_iff] at h
    simp only [List.getElem?_cons_succ] at hi
    have := fIdx_hit h.2 hi hy
    simp only [fIdx, h.1, this]
    simp
    omega

def Ag (n : Nat) (hp hp' : Hp) : Prop := ∀ id, id < n → hp'.get id = hp.get id
theorem Ag.refl (n : Nat) (hp : Hp) : Ag n hp hp := fun _ _ => rfl
theorem Ag.trunc {n : Nat} {hp hp' : Hp} (h : Ag n hp hp') : Ag n hp (Hp.trunc n hp') := fun id hi => (Hp.get_trunc hp' n id hi).trans (h id hi)
theorem Ag.set {n : Nat} {hp hp' : Hp} {o : Ob} (h : Ag n hp hp') : Ag n hp (hp'.set n o) := fun id hi => (Hp.get_set_ne hp' n id o (by omega)).trans (h id hi)

def SQ (e : Env) (hp : Hp) (n n0 : Nat) (s : St) : Prop := ∃ hp' c, Ag n hp hp' ∧ s = ⟨e, hp', n, c, n0, []⟩

/-- A list that can be read: data, or an object of one statement. -/
structure LV (look : Look) (v : V) (l : List Y) (rd : List Nat) (p : Nat → V) : Prop where
  len : ∀ s b z, lenV look ⟨.slice 38 12 176, s, b, z⟩ v = some ⟨.d (.int .i64 l.length), [], rd, 0, 0, false⟩
  idx : ∀ (i : Nat) y s b z, l[i]? = some y → indexAddrV look ⟨.slice 38 12 176, s, b, z⟩ v (.d (.int .i64 i)) = some ⟨p i, [], rd, 0, 0, false⟩
  get : ∀ (i : Nat) y fs z, l[i]? = some y → loadV look ⟨.struct fs, 12, 176, z⟩ (p i) = some ⟨aY y, [], rd, 0, 0, false⟩

theorem LV.data (look : Look) (l : List Y) : LV look (dY l) l [] (fun i => .vref (((l[i]?).map Y.cells).getD [])) where
  len s b z := by simp [dY]
  idx i y s b z h := by
    have hlt : i < l.length := by
      rw [List.getElem?_eq_some_iff] at h; exact h.1
    obtain ⟨y', hy', _, hix⟩ := at_lt hlt
    have hy2 := encY_at h
    simp [dY, hix, hy2, h, Y.cells_len]
  get i y fs z h := by
    simp [h, aY, Y.cells_eq]

theorem LV.one {look : Look} {id g : Nat} {y : Y} (h : look id = some ⟨g, false, y.cells.map .d⟩) : LV look (.osl id g 0 1 12 (some 1)) [y] [id] (fun i => .ptr id g (i * 12)) where
  len s b z := by simp [h]
  idx i y' s b z hi := by
    cases i with
    | zero => simp [h, Go.Ab.idx]
    | succ i => simp at hi
  get i y' fs z hi := by
    cases i with
    | zero => simp at hi; subst hi; simp [h, Y.cells_eq, aY]
    | succ i => simp at hi

theorem closeArgs_fn (look : Look) (v : V) (fc : FuncId) (w : V) (r : List V) : closeArgs look [v, .fn fc (w :: r)] = none := by
  simp

theorem index44 (l : List Y) (hl : szY l ≤ MX) (f : Y → Bool) (v : V) (rd : List Nat) (p : Nat → V) (fc idp gp : Nat) (hthr : Hn.cfg.thr fc = false) (hp : Hp) (n c : Nat) (hv : ∀ hp', Ag n hp hp' → LV hp'.get v l rd p)
    (hcl : ∀ y, y ∈ l → ∀ hp' c, Ag n hp hp' → Quiet Try.prog Hn.cfg fc [aY y, .ptr idp gp 0] hp' n c (.bool (f y))) : Quiet Try.prog Hn.cfg 44 [v, .fn fc [.ptr idp gp 0]] hp n c (.int .i64 (fIdx f l)) := by
  have hll := len_szY l
  unfold MX at hl
  refine quiet_wp Try.func44 rfl (by kernel_rfl) rfl ?_
  have hv0 := hv hp (Ag.refl n hp)
  have hlen := hv0.len
  repeat (first
    | apply WP.seq
    | (apply WP.reg
       case hR => dsimp only [prepL, prepO, List.map, List.getElem?_cons_succ, List.getElem?_cons_zero]; exact Is.rfl
       case hr =>
         repeat (first
           | (apply RT.op (h := by simp [envOf, -lenV, hlen]; exact Is.rfl) (he := rfl))
           | (apply RT.call (hg := by simp; exact Is.rfl) (hfo := by simp; exact Is.rfl) (hvs := by simp [envOf, -lenV, hlen]; exact Is.rfl) (hcl := by simp [envOf, -lenV, hlen]; exact Is.rfl) (hd := by simp [envOf, -lenV, hlen]; exact Is.rfl) (hwr := by simp [envOf, -lenV, hlen]; exact Is.rfl) (hlt := by simp [Is]) (he := rfl) (hh := by simp; exact Is.rfl) (hw := by simp; exact Is.rfl))
           | (apply RT.callQ (hg := by simp; exact Is.rfl) (hfo := by simp; exact Is.rfl) (hvs := by simp [envOf, -lenV, hlen]; exact Is.rfl) (hcl := by simp [envOf, -lenV, hlen]; exact Is.rfl) (hd := by simp [envOf, -lenV, hlen]; exact Is.rfl) (he := rfl))
           | (apply RT.wr (h := by simp [envOf, -lenV, hlen]; exact Is.rfl) (he := rfl) (hh := by simp [envOf, -lenV, hlen]; exact Is.rfl) (hn := by exact Is.rfl) (hc := by exact Is.rfl) (hw := by simp; exact Is.rfl)))
         exact RT.nil
       case hc => (show _ = _; kernel_rfl)
       case ht => simp [envOf, -lenV, hlen]; exact Is.rfl)
    | apply WP.block
    | apply WP.skip
    | apply WP.exit
    | apply WP.ret)
  apply WP.loop' (I := fun d s => ∃ i : Nat, i + d = l.length ∧ (l.take i).any f = false ∧ SQ [(0, v), (1, .fn fc [.ptr idp gp 0]), (7, dI l.length), (8, dI i)] hp n n s) (d := l.length)
  · exact ⟨0, by simp, by simp, _, _, Ag.refl n hp, rfl⟩
  rintro d _ ⟨i, hi, hno, hp', c1, hag, rfl⟩
  repeat (first
    | apply WP.seq
    | (apply WP.reg
       case hR => dsimp only [prepL, prepO, List.map, List.getElem?_cons_succ, List.getElem?_cons_zero]; exact Is.rfl
       case hr =>
         repeat (first
           | (apply RT.op (h := by simp [dI]; exact Is.rfl) (he := rfl))
           | (apply RT.call (hg := by simp; exact Is.rfl) (hfo := by simp; exact Is.rfl) (hvs := by simp [dI]; exact Is.rfl) (hcl := by simp [dI]; exact Is.rfl) (hd := by simp [dI]; exact Is.rfl) (hwr := by simp [dI]; exact Is.rfl) (hlt := by simp [Is]) (he := rfl) (hh := by simp; exact Is.rfl) (hw := by simp; exact Is.rfl))
           | (apply RT.callQ (hg := by simp; exact Is.rfl) (hfo := by simp; exact Is.rfl) (hvs := by simp [dI]; exact Is.rfl) (hcl := by simp [dI]; exact Is.rfl) (hd := by simp [dI]; exact Is.rfl) (he := rfl))
           | (apply RT.wr (h := by simp [dI]; exact Is.rfl) (he := rfl) (hh := by simp [dI]; exact Is.rfl) (hn := by exact Is.rfl) (hc := by exact Is.rfl) (hw := by simp; exact Is.rfl)))
         exact RT.nil
       case hc => (show _ = _; kernel_rfl)
       case ht => simp [dI]; exact Is.rfl)
    | apply WP.block
    | apply WP.skip
    | apply WP.exit
    | apply WP.ret)
  show WP _ _ _ _ _ _
  refine WP.cond _ rfl (fun hb => ?_) (fun hb => ?_)
  · simp at hb
    obtain ⟨y, hy, hym, hix⟩ := at_lt hb
    have hw := w_succ hb (by omega)
    have h1 := (hv hp' hag).idx i y
    have h2 := fun fs z => (hv hp' hag).get i y fs z hy
    have h3 := fun c => hcl y hym hp' c hag
    obtain ⟨h5, h6, h4⟩ := Quiet.fn h3
    simp only [aY, Y.cells_eq, List.map] at h4 h2
    repeat (first
      | apply WP.seq
      | (apply WP.reg
         case hR => dsimp only [prepL, prepO, List.map, List.getElem?_cons_succ, List.getElem?_cons_zero]; exact Is.rfl
         case hr =>
           repeat (first
             | (apply RT.op (h := by simp [-lenV, -indexAddrV, -loadV, h1, h2, h4, hy, hthr]; exact Is.rfl) (he := rfl))
             | (apply RT.call (hg := by simp; exact Is.rfl) (hfo := by simp; exact Is.rfl) (hvs := by simp [-lenV, -indexAddrV, -loadV, h1, h2, h4, hy, hthr]; exact Is.rfl) (hcl := by simp [-lenV, -indexAddrV, -loadV, h1, h2, h4, hy, hthr]; exact Is.rfl) (hd := by simp [-lenV, -indexAddrV, -loadV, h1, h2, h4, hy, hthr]; exact Is.rfl) (hwr := by simp [-lenV, -indexAddrV, -loadV, h1, h2, h4, hy, hthr]; exact Is.rfl) (hlt := by simp [Is]) (he := rfl) (hh := by simp; exact Is.rfl) (hw := by simp; exact Is.rfl))
             | (apply RT.callQ (hg := by simp; exact Is.rfl) (hfo := by simp; exact Is.rfl) (hvs := by simp [-lenV, -indexAddrV, -loadV, h1, h2, h4, hy, hthr]; exact Is.rfl) (hcl := by simp [-lenV, -indexAddrV, -loadV, h1, h2, h4, hy, hthr]; exact Is.rfl) (hd := by simp [-lenV, -indexAddrV, -loadV, h1, h2, h4, hy, hthr]; exact Is.rfl) (he := rfl))
             | (apply RT.wr (h := by simp [-lenV, -indexAddrV, -loadV, h1, h2, h4, hy, hthr]; exact Is.rfl) (he := rfl) (hh := by simp [-lenV, -indexAddrV, -loadV, h1, h2, h4, hy, hthr]; exact Is.rfl) (hn := by exact Is.rfl) (hc := by exact Is.rfl) (hw := by simp; exact Is.rfl)))
           exact RT.nil
         case hc => (show _ = _; kernel_rfl)
         case ht => simp [-lenV, -indexAddrV, -loadV, h1, h2, h4, hy, hthr]; exact Is.rfl)
      | apply WP.block
      | apply WP.skip
      | apply WP.exit
      | apply WP.ret)
    show WP _ _ _ _ _ _
    refine WP.cond _ rfl (fun hb => ?_) (fun hb => ?_)
    · repeat (first
        | apply WP.seq
        | (apply WP.reg
           case hR => dsimp only [prepL, prepO, List.map, List.getElem?_cons_succ, List.getElem?_cons_zero]; exact Is.rfl
           case hr =>
             repeat (first
               | (apply RT.op (h := by simp; exact Is.rfl) (he := rfl))
               | (apply RT.call (hg := by simp; exact Is.rfl) (hfo := by simp; exact Is.rfl) (hvs := by simp; exact Is.rfl) (hcl := by simp; exact Is.rfl) (hd := by simp; exact Is.rfl) (hwr := by simp; exact Is.rfl) (hlt := by simp [Is]) (he := rfl) (hh := by simp; exact Is.rfl) (hw := by simp; exact Is.rfl))
               | (apply RT.callQ (hg := by simp; exact Is.rfl) (hfo := by simp; exact Is.rfl) (hvs := by simp; exact Is.rfl) (hcl := by simp; exact Is.rfl) (hd := by simp; exact Is.rfl) (he := rfl))
               | (apply RT.wr (h := by simp; exact Is.rfl) (he := rfl) (hh := by simp; exact Is.rfl) (hn := by exact Is.rfl) (hc := by exact Is.rfl) (hw := by simp; exact Is.rfl)))
             exact RT.nil
           case hc => (show _ = _; kernel_rfl)
           case ht => simp; exact Is.rfl)
        | apply WP.block
        | apply WP.skip
        | apply WP.exit
        | apply WP.ret)
      rw [fIdx_hit hno hy hb]
      exact ⟨.inr rfl, rfl, _, rfl, rfl⟩
    · repeat (first
        | apply WP.seq
        | (apply WP.reg
           case hR => dsimp only [prepL, prepO, List.map, List.getElem?_cons_succ, List.getElem?_cons_zero]; exact Is.rfl
           case hr =>
             repeat (first
               | (apply RT.op (h := by simp; exact Is.rfl) (he := rfl))
               | (apply RT.call (hg := by simp; exact Is.rfl) (hfo := by simp; exact Is.rfl) (hvs := by simp; exact Is.rfl) (hcl := by simp; exact Is.rfl) (hd := by simp; exact Is.rfl) (hwr := by simp; exact Is.rfl) (hlt := by simp [Is]) (he := rfl) (hh := by simp; exact Is.rfl) (hw := by simp; exact Is.rfl))
               | (apply RT.callQ (hg := by simp; exact Is.rfl) (hfo := by simp; exact Is.rfl) (hvs := by simp; exact Is.rfl) (hcl := by simp; exact Is.rfl) (hd := by simp; exact Is.rfl) (he := rfl))
               | (apply RT.wr (h := by simp; exact Is.rfl) (he := rfl) (hh := by simp; exact Is.rfl) (hn := by exact Is.rfl) (hc := by exact Is.rfl) (hw := by simp; exact Is.rfl)))
             exact RT.nil
           case hc => (show _ = _; kernel_rfl)
           case ht => simp; exact Is.rfl)
        | apply WP.block
        | apply WP.skip
        | apply WP.exit
        | apply WP.ret)
      refine loop_next (by simp; exact Is.rfl) ?_
      exact ⟨d - 1, by omega, i + 1, by omega, by rw [any_takeS hy, hno, hb]; rfl, _, _, hag.trunc, st_eq (by simp [dI, hw]) rfl⟩
  · simp at hb
    rw [List.take_of_length_le hb] at hno
    repeat (first
      | apply WP.seq
      | (apply WP.reg
         case hR => dsimp only [prepL, prepO, List.map, List.getElem?_cons_succ, List.getElem?_cons_zero]; exact Is.rfl
         case hr =>
           repeat (first
             | (apply RT.op (h := by simp; exact Is.rfl) (he := rfl))
             | (apply RT.call (hg := by simp; exact Is.rfl) (hfo := by simp; exact Is.rfl) (hvs := by simp; exact Is.rfl) (hcl := by simp; exact Is.rfl) (hd := by simp; exact Is.rfl) (hwr := by simp; exact Is.rfl) (hlt := by simp [Is]) (he := rfl) (hh := by simp; exact Is.rfl) (hw := by simp; exact Is.rfl))
             | (apply RT.callQ (hg := by simp; exact Is.rfl) (hfo := by simp; exact Is.rfl) (hvs := by simp; exact Is.rfl) (hcl := by simp; exact Is.rfl) (hd := by simp; exact Is.rfl) (he := rfl))
             | (apply RT.wr (h := by simp; exact Is.rfl) (he := rfl) (hh := by simp; exact Is.rfl) (hn := by exact Is.rfl) (hc := by exact Is.rfl) (hw := by simp; exact Is.rfl)))
           exact RT.nil
         case hc => (show _ = _; kernel_rfl)
         case ht => simp; exact Is.rfl)
      | apply WP.block
      | apply WP.skip
      | apply WP.exit
      | apply WP.ret)
    rw [fIdx_none hno]
    exact ⟨.inr rfl, rfl, _, rfl, rfl⟩
theorem contains39 (l : List Y) (hl : szY l ≤ MX) (f : Y → Bool) (v : V) (rd : List Nat) (p : Nat → V) (fc idp gp : Nat) (hthr : Hn.cfg.thr fc = false) (hp : Hp) (n c : Nat) (hv : ∀ hp', Ag n hp hp' → LV hp'.get v l rd p)
    (hcl : ∀ y, y ∈ l → ∀ hp' c, Ag n hp hp' → Quiet Try.prog Hn.cfg fc [aY y, .ptr idp gp 0] hp' n c (.bool (f y))) : Quiet Try.prog Hn.cfg 39 [v, .fn fc [.ptr idp gp 0]] hp n c (.bool (l.any f)) := by
  obtain ⟨h5, h6, h4⟩ := Quiet.fn (fun c => index44 l hl f v rd p fc idp gp hthr hp n c hv hcl)
  rw [← fIdx_any]
  refine quiet_wp Try.func39 rfl (by kernel_rfl) rfl ?_
  repeat (first
    | apply WP.seq
    | (apply WP.reg
       case hR => dsimp only [prepL, prepO, List.map, List.getElem?_cons_succ, List.getElem?_cons_zero]; exact Is.rfl
       case hr =>
         repeat (first
           | (apply RT.op (h := by simp [envOf, h4]; exact Is.rfl) (he := rfl))
           | (apply RT.call (hg := by simp; exact Is.rfl) (hfo := by simp; exact Is.rfl) (hvs := by simp [envOf, h4]; exact Is.rfl) (hcl := by simp [envOf, h4]; exact Is.rfl) (hd := by simp [envOf, h4]; exact Is.rfl) (hwr := by simp [envOf, h4]; exact Is.rfl) (hlt := by simp [Is]) (he := rfl) (hh := by simp; exact Is.rfl) (hw := by simp; exact Is.rfl))
           | (apply RT.callQ (hg := by simp; exact Is.rfl) (hfo := by simp; exact Is.rfl) (hvs := by simp [envOf, h4]; exact Is.rfl) (hcl := by simp [envOf, h4]; exact Is.rfl) (hd := by simp [envOf, h4]; exact Is.rfl) (he := rfl))
           | (apply RT.wr (h := by simp [envOf, h4]; exact Is.rfl) (he := rfl) (hh := by simp [envOf, h4]; exact Is.rfl) (hn := by exact Is.rfl) (hc := by exact Is.rfl) (hw := by simp; exact Is.rfl)))
         exact RT.nil
       case hc => (show _ = _; kernel_rfl)
       case ht => simp [envOf, h4]; exact Is.rfl)
    | apply WP.block
    | apply WP.skip
    | apply WP.exit
    | apply WP.ret)
  exact ⟨.inr rfl, rfl, _, rfl, rfl⟩

theorem index34 (l : List (List Y)) (hl : szB l ≤ MX) (f : List Y → Bool) (fc idp gp : Nat) (hthr : Hn.cfg.thr fc = false) (hp : Hp) (n c : Nat)
    (hcl : ∀ y, y ∈ l → ∀ hp' c, Ag n hp hp' → Quiet Try.prog Hn.cfg fc [dY y, .ptr idp gp 0] hp' n c (.bool (f y))) : Quiet Try.prog Hn.cfg 34 [.d (.slice (encB l)), .fn fc [.ptr idp gp 0]] hp n c (.int .i64 (fIdx f l)) := by
  have hll := len_szB l
  unfold MX at hl
  refine quiet_wp Try.func34 rfl (by kernel_rfl) rfl ?_
  repeat (first
    | apply WP.seq
    | (apply WP.reg
       case hR => dsimp only [prepL, prepO, List.map, List.getElem?_cons_succ, List.getElem?_cons_zero]; exact Is.rfl
       case hr =>
         repeat (first
           | (apply RT.op (h := by simp [envOf]; exact Is.rfl) (he := rfl))
           | (apply RT.call (hg := by simp; exact Is.rfl) (hfo := by simp; exact Is.rfl) (hvs := by simp [envOf]; exact Is.rfl) (hcl := by simp [envOf]; exact Is.rfl) (hd := by simp [envOf]; exact Is.rfl) (hwr := by simp [envOf]; exact Is.rfl) (hlt := by simp [Is]) (he := rfl) (hh := by simp; exact Is.rfl) (hw := by simp; exact Is.rfl))
           | (apply RT.callQ (hg := by simp; exact Is.rfl) (hfo := by simp; exact Is.rfl) (hvs := by simp [envOf]; exact Is.rfl) (hcl := by simp [envOf]; exact Is.rfl) (hd := by simp [envOf]; exact Is.rfl) (he := rfl))
           | (apply RT.wr (h := by simp [envOf]; exact Is.rfl) (he := rfl) (hh := by simp [envOf]; exact Is.rfl) (hn := by exact Is.rfl) (hc := by exact Is.rfl) (hw := by simp; exact Is.rfl)))
         exact RT.nil
       case hc => (show _ = _; kernel_rfl)
       case ht => simp [envOf]; exact Is.rfl)
    | apply WP.block
    | apply WP.skip
    | apply WP.exit
    | apply WP.ret)
  apply WP.loop' (I := fun d s => ∃ i : Nat, i + d = l.length ∧ (l.take i).any f = false ∧ SQ [(0, .d (.slice (encB l))), (1, .fn fc [.ptr idp gp 0]), (7, dI l.length), (8, dI i)] hp n n s) (d := l.length)
  · exact ⟨0, by simp, by simp, _, _, Ag.refl n hp, rfl⟩
  rintro d _ ⟨i, hi, hno, hp', c1, hag, rfl⟩
  repeat (first
    | apply WP.seq
    | (apply WP.reg
       case hR => dsimp only [prepL, prepO, List.map, List.getElem?_cons_succ, List.getElem?_cons_zero]; exact Is.rfl
       case hr =>
         repeat (first
           | (apply RT.op (h := by simp [dI]; exact Is.rfl) (he := rfl))
           | (apply RT.call (hg := by simp; exact Is.rfl) (hfo := by simp; exact Is.rfl) (hvs := by simp [dI]; exact Is.rfl) (hcl := by simp [dI]; exact Is.rfl) (hd := by simp [dI]; exact Is.rfl) (hwr := by simp [dI]; exact Is.rfl) (hlt := by simp [Is]) (he := rfl) (hh := by simp; exact Is.rfl) (hw := by simp; exact Is.rfl))
           | (apply RT.callQ (hg := by simp; exact Is.rfl) (hfo := by simp; exact Is.rfl) (hvs := by simp [dI]; exact Is.rfl) (hcl := by simp [dI]; exact Is.rfl) (hd := by simp [dI]; exact Is.rfl) (he := rfl))
           | (apply RT.wr (h := by simp [dI]; exact Is.rfl) (he := rfl) (hh := by simp [dI]; exact Is.rfl) (hn := by exact Is.rfl) (hc := by exact Is.rfl) (hw := by simp; exact Is.rfl)))
         exact RT.nil
       case hc => (show _ = _; kernel_rfl)
       case ht => simp [dI]; exact Is.rfl)
    | apply WP.block
    | apply WP.skip
    | apply WP.exit
    | apply WP.ret)
  show WP _ _ _ _ _ _
  refine WP.cond _ rfl (fun hb => ?_) (fun hb => ?_)
  · simp at hb
    obtain ⟨y, hy, hym, hix⟩ := at_lt hb
    have hw := w_succ hb (by omega)
    have hy' := encB_at hy
    have h3 := fun c => hcl y hym hp' c hag
    obtain ⟨h5, h6, h4⟩ := Quiet.fn h3
    simp only [dY] at h4
    repeat (first
      | apply WP.seq
      | (apply WP.reg
         case hR => dsimp only [prepL, prepO, List.map, List.getElem?_cons_succ, List.getElem?_cons_zero]; exact Is.rfl
         case hr =>
           repeat (first
             | (apply RT.op (h := by simp [hix, hy', h4, hthr]; exact Is.rfl) (he := rfl))
             | (apply RT.call (hg := by simp; exact Is.rfl) (hfo := by simp; exact Is.rfl) (hvs := by simp [hix, hy', h4, hthr]; exact Is.rfl) (hcl := by simp [hix, hy', h4, hthr]; exact Is.rfl) (hd := by simp [hix, hy', h4, hthr]; exact Is.rfl) (hwr := by simp [hix, hy', h4, hthr]; exact Is.rfl) (hlt := by simp [Is]) (he := rfl) (hh := by simp; exact Is.rfl) (hw := by simp; exact Is.rfl))
             | (apply RT.callQ (hg := by simp; exact Is.rfl) (hfo := by simp; exact Is.rfl) (hvs := by simp [hix, hy', h4, hthr]; exact Is.rfl) (hcl := by simp [hix, hy', h4, hthr]; exact Is.rfl) (hd := by simp [hix, hy', h4, hthr]; exact Is.rfl) (he := rfl))
             | (apply RT.wr (h := by simp [hix, hy', h4, hthr]; exact Is.rfl) (he := rfl) (hh := by simp [hix, hy', h4, hthr]; exact Is.rfl) (hn := by exact Is.rfl) (hc := by exact Is.rfl) (hw := by simp; exact Is.rfl)))
           exact RT.nil
         case hc => (show _ = _; kernel_rfl)
         case ht => simp [hix, hy', h4, hthr]; exact Is.rfl)
      | apply WP.block
      | apply WP.skip
      | apply WP.exit
      | apply WP.ret)
    show WP _ _ _ _ _ _
    refine WP.cond _ rfl (fun hb => ?_) (fun hb => ?_)
    · repeat (first
        | apply WP.seq
        | (apply WP.reg
           case hR => dsimp only [prepL, prepO, List.map, List.getElem?_cons_succ, List.getElem?_cons_zero]; exact Is.rfl
           case hr =>
             repeat (first
               | (apply RT.op (h := by simp; exact Is.rfl) (he := rfl))
               | (apply RT.call (hg := by simp; exact Is.rfl) (hfo := by simp; exact Is.rfl) (hvs := by simp; exact Is.rfl) (hcl := by simp; exact Is.rfl) (hd := by simp; exact Is.rfl) (hwr := by simp; exact Is.rfl) (hlt := by simp [Is]) (he := rfl) (hh := by simp; exact Is.rfl) (hw := by simp; exact Is.rfl))
               | (apply RT.callQ (hg := by simp; exact Is.rfl) (hfo := by simp; exact Is.rfl) (hvs := by simp; exact Is.rfl) (hcl := by simp; exact Is.rfl) (hd := by simp; exact Is.rfl) (he := rfl))
               | (apply RT.wr (h := by simp; exact Is.rfl) (he := rfl) (hh := by simp; exact Is.rfl) (hn := by exact Is.rfl) (hc := by exact Is.rfl) (hw := by simp; exact Is.rfl)))
             exact RT.nil
           case hc => (show _ = _; kernel_rfl)
           case ht => simp; exact Is.rfl)
        | apply WP.block
        | apply WP.skip
        | apply WP.exit
        | apply WP.ret)
      rw [fIdx_hit hno hy hb]
      exact ⟨.inr rfl, rfl, _, rfl, rfl⟩
    · repeat (first
        | apply WP.seq
        | (apply WP.reg
           case hR => dsimp only [prepL, prepO, List.map, List.getElem?_cons_succ, List.getElem?_cons_zero]; exact Is.rfl
           case hr =>
             repeat (first
               | (apply RT.op (h := by simp; exact Is.rfl) (he := rfl))
               | (apply RT.call (hg := by simp; exact Is.rfl) (hfo := by simp; exact Is.rfl) (hvs := by simp; exact Is.rfl) (hcl := by simp; exact Is.rfl) (hd := by simp; exact Is.rfl) (hwr := by simp; exact Is.rfl) (hlt := by simp [Is]) (he := rfl) (hh := by simp; exact Is.rfl) (hw := by simp; exact Is.rfl))
               | (apply RT.callQ (hg := by simp; exact Is.rfl) (hfo := by simp; exact Is.rfl) (hvs := by simp; exact Is.rfl) (hcl := by simp; exact Is.rfl) (hd := by simp; exact Is.rfl) (he := rfl))
               | (apply RT.wr (h := by simp; exact Is.rfl) (he := rfl) (hh := by simp; exact Is.rfl) (hn := by exact Is.rfl) (hc := by exact Is.rfl) (hw := by simp; exact Is.rfl)))
             exact RT.nil
           case hc => (show _ = _; kernel_rfl)
           case ht => simp; exact Is.rfl)
        | apply WP.block
        | apply WP.skip
        | apply WP.exit
        | apply WP.ret)
      refine loop_next (by simp; exact Is.rfl) ?_
      exact ⟨d - 1, by omega, i + 1, by omega, by rw [any_takeS hy, hno, hb]; rfl, _, _, hag.trunc, st_eq (by simp [dI, hw]) rfl⟩
  · simp at hb
    rw [List.take_of_length_le hb] at hno
    repeat (first
      | apply WP.seq
      | (apply WP.reg
         case hR => dsimp only [prepL, prepO, List.map, List.getElem?_cons_succ, List.getElem?_cons_zero]; exact Is.rfl
         case hr =>
           repeat (first
             | (apply RT.op (h := by simp; exact Is.rfl) (he := rfl))
             | (apply RT.call (hg := by simp; exact Is.rfl) (hfo := by simp; exact Is.rfl) (hvs := by simp; exact Is.rfl) (hcl := by simp; exact Is.rfl) (hd := by simp; exact Is.rfl) (hwr := by simp; exact Is.rfl) (hlt := by simp [Is]) (he := rfl) (hh := by simp; exact Is.rfl) (hw := by simp; exact Is.rfl))
             | (apply RT.callQ (hg := by simp; exact Is.rfl) (hfo := by simp; exact Is.rfl) (hvs := by simp; exact Is.rfl) (hcl := by simp; exact Is.rfl) (hd := by simp; exact Is.rfl) (he := rfl))
             | (apply RT.wr (h := by simp; exact Is.rfl) (he := rfl) (hh := by simp; exact Is.rfl) (hn := by exact Is.rfl) (hc := by exact Is.rfl) (hw := by simp; exact Is.rfl)))
           exact RT.nil
         case hc => (show _ = _; kernel_rfl)
         case ht => simp; exact Is.rfl)
      | apply WP.block
      | apply WP.skip
      | apply WP.exit
      | apply WP.ret)
    rw [fIdx_none hno]
    exact ⟨.inr rfl, rfl, _, rfl, rfl⟩

theorem contains29 (l : List (List Y)) (hl : szB l ≤ MX) (f : List Y → Bool) (fc idp gp : Nat) (hthr : Hn.cfg.thr fc = false) (hp : Hp) (n c : Nat)
    (hcl : ∀ y, y ∈ l → ∀ hp' c, Ag n hp hp' → Quiet Try.prog Hn.cfg fc [dY y, .ptr idp gp 0] hp' n c (.bool (f y))) : Quiet Try.prog Hn.cfg 29 [.d (.slice (encB l)), .fn fc [.ptr idp gp 0]] hp n c (.bool (l.any f)) := by
  obtain ⟨h5, h6, h4⟩ := Quiet.fn (fun c => index34 l hl f fc idp gp hthr hp n c hcl)
  rw [← fIdx_any]
  refine quiet_wp Try.func29 rfl (by kernel_rfl) rfl ?_
  repeat (first
    | apply WP.seq
    | (apply WP.reg
       case hR => dsimp only [prepL, prepO, List.map, List.getElem?_cons_succ, List.getElem?_cons_zero]; exact Is.rfl
       case hr =>
         repeat (first
           | (apply RT.op (h := by simp [envOf, h4]; exact Is.rfl) (he := rfl))
           | (apply RT.call (hg := by simp; exact Is.rfl) (hfo := by simp; exact Is.rfl) (hvs := by simp [envOf, h4]; exact Is.rfl) (hcl := by simp [envOf, h4]; exact Is.rfl) (hd := by simp [envOf, h4]; exact Is.rfl) (hwr := by simp [envOf, h4]; exact Is.rfl) (hlt := by simp [Is]) (he := rfl) (hh := by simp; exact Is.rfl) (hw := by simp; exact Is.rfl))
           | (apply RT.callQ (hg := by simp; exact Is.rfl) (hfo := by simp; exact Is.rfl) (hvs := by simp [envOf, h4]; exact Is.rfl) (hcl := by simp [envOf, h4]; exact Is.rfl) (hd := by simp [envOf, h4]; exact Is.rfl) (he := rfl))
           | (apply RT.wr (h := by simp [envOf, h4]; exact Is.rfl) (he := rfl) (hh := by simp [envOf, h4]; exact Is.rfl) (hn := by exact Is.rfl) (hc := by exact Is.rfl) (hw := by simp; exact Is.rfl)))
         exact RT.nil
       case hc => (show _ = _; kernel_rfl)
       case ht => simp [envOf, h4]; exact Is.rfl)
    | apply WP.block
    | apply WP.skip
    | apply WP.exit
    | apply WP.ret)
  exact ⟨.inr rfl, rfl, _, rfl, rfl⟩

theorem index42_den (l : List (List UInt8)) (nm : List UInt8) (hl : szN l ≤ MX) : den Try.prog Hn.cfg 42 [dN l, dS nm] = some (dI (fIdx (· == nm) l)) := by
  have hll := len_szN l
  unfold MX at hl
  refine den_wp Try.func42 rfl (by kernel_rfl) rfl rfl ?_
  repeat (first
    | apply WP.seq
    | (apply WP.reg
       case hR => dsimp only [prepL, prepO, List.map, List.getElem?_cons_succ, List.getElem?_cons_zero]; exact Is.rfl
       case hr =>
         repeat (first
           | (apply RT.op (h := by simp [envOf, dN]; exact Is.rfl) (he := rfl))
           | (apply RT.call (hg := by simp; exact Is.rfl) (hfo := by simp; exact Is.rfl) (hvs := by simp [envOf, dN]; exact Is.rfl) (hcl := by simp [envOf, dN]; exact Is.rfl) (hd := by simp [envOf, dN]; exact Is.rfl) (hwr := by simp [envOf, dN]; exact Is.rfl) (hlt := by simp [Is]) (he := rfl) (hh := by simp; exact Is.rfl) (hw := by simp; exact Is.rfl))
           | (apply RT.callQ (hg := by simp; exact Is.rfl) (hfo := by simp; exact Is.rfl) (hvs := by simp [envOf, dN]; exact Is.rfl) (hcl := by simp [envOf, dN]; exact Is.rfl) (hd := by simp [envOf, dN]; exact Is.rfl) (he := rfl))
           | (apply RT.wr (h := by simp [envOf, dN]; exact Is.rfl) (he := rfl) (hh := by simp [envOf, dN]; exact Is.rfl) (hn := by exact Is.rfl) (hc := by exact Is.rfl) (hw := by simp; exact Is.rfl)))
         exact RT.nil
       case hc => (show _ = _; kernel_rfl)
       case ht => simp [envOf, dN]; exact Is.rfl)
    | apply WP.block
    | apply WP.skip
    | apply WP.exit
    | apply WP.ret)
  apply WP.loop' (I := fun d s => ∃ i : Nat, i + d = l.length ∧ (l.take i).any (· == nm) = false ∧ SE [(0, dN l), (1, dS nm), (7, dI l.length), (8, dI i)] [] 0 s) (d := l.length)
  · exact ⟨0, by simp, by simp, SE.mk rfl rfl⟩
  rintro d _ ⟨i, hi, hno, c, rfl⟩
  repeat (first
    | apply WP.seq
    | (apply WP.reg
       case hR => dsimp only [prepL, prepO, List.map, List.getElem?_cons_succ, List.getElem?_cons_zero]; exact Is.rfl
       case hr =>
         repeat (first
           | (apply RT.op (h := by simp [dI, dN, dS]; exact Is.rfl) (he := rfl))
           | (apply RT.call (hg := by simp; exact Is.rfl) (hfo := by simp; exact Is.rfl) (hvs := by simp [dI, dN, dS]; exact Is.rfl) (hcl := by simp [dI, dN, dS]; exact Is.rfl) (hd := by simp [dI, dN, dS]; exact Is.rfl) (hwr := by simp [dI, dN, dS]; exact Is.rfl) (hlt := by simp [Is]) (he := rfl) (hh := by simp; exact Is.rfl) (hw := by simp; exact Is.rfl))
           | (apply RT.callQ (hg := by simp; exact Is.rfl) (hfo := by simp; exact Is.rfl) (hvs := by simp [dI, dN, dS]; exact Is.rfl) (hcl := by simp [dI, dN, dS]; exact Is.rfl) (hd := by simp [dI, dN, dS]; exact Is.rfl) (he := rfl))
           | (apply RT.wr (h := by simp [dI, dN, dS]; exact Is.rfl) (he := rfl) (hh := by simp [dI, dN, dS]; exact Is.rfl) (hn := by exact Is.rfl) (hc := by exact Is.rfl) (hw := by simp; exact Is.rfl)))
         exact RT.nil
       case hc => (show _ = _; kernel_rfl)
       case ht => simp [dI, dN, dS]; exact Is.rfl)
    | apply WP.block
    | apply WP.skip
    | apply WP.exit
    | apply WP.ret)
  show WP _ _ _ _ _ _
  refine WP.cond _ rfl (fun hb => ?_) (fun hb => ?_)
  · simp at hb
    obtain ⟨s, hy, hym, hix⟩ := at_lt hb
    have hy' := encN_at hy
    have hw := w_succ hb (by omega)
    have hts := any_takeS (p := (· == nm)) hy
    repeat (first
      | apply WP.seq
      | (apply WP.reg
         case hR => dsimp only [prepL, prepO, List.map, List.getElem?_cons_succ, List.getElem?_cons_zero]; exact Is.rfl
         case hr =>
           repeat (first
             | (apply RT.op (h := by simp [hix, hy', dN]; exact Is.rfl) (he := rfl))
             | (apply RT.call (hg := by simp; exact Is.rfl) (hfo := by simp; exact Is.rfl) (hvs := by simp [hix, hy', dN]; exact Is.rfl) (hcl := by simp [hix, hy', dN]; exact Is.rfl) (hd := by simp [hix, hy', dN]; exact Is.rfl) (hwr := by simp [hix, hy', dN]; exact Is.rfl) (hlt := by simp [Is]) (he := rfl) (hh := by simp; exact Is.rfl) (hw := by simp; exact Is.rfl))
             | (apply RT.callQ (hg := by simp; exact Is.rfl) (hfo := by simp; exact Is.rfl) (hvs := by simp [hix, hy', dN]; exact Is.rfl) (hcl := by simp [hix, hy', dN]; exact Is.rfl) (hd := by simp [hix, hy', dN]; exact Is.rfl) (he := rfl))
             | (apply RT.wr (h := by simp [hix, hy', dN]; exact Is.rfl) (he := rfl) (hh := by simp [hix, hy', dN]; exact Is.rfl) (hn := by exact Is.rfl) (hc := by exact Is.rfl) (hw := by simp; exact Is.rfl)))
           exact RT.nil
         case hc => (show _ = _; kernel_rfl)
         case ht => simp [hix, hy', dN]; exact Is.rfl)
      | apply WP.block
      | apply WP.skip
      | apply WP.exit
      | apply WP.ret)
    show WP _ _ _ _ _ _
    refine WP.cond _ rfl (fun hb => ?_) (fun hb => ?_)
    · repeat (first
        | apply WP.seq
        | (apply WP.reg
           case hR => dsimp only [prepL, prepO, List.map, List.getElem?_cons_succ, List.getElem?_cons_zero]; exact Is.rfl
           case hr =>
             repeat (first
               | (apply RT.op (h := by simp; exact Is.rfl) (he := rfl))
               | (apply RT.call (hg := by simp; exact Is.rfl) (hfo := by simp; exact Is.rfl) (hvs := by simp; exact Is.rfl) (hcl := by simp; exact Is.rfl) (hd := by simp; exact Is.rfl) (hwr := by simp; exact Is.rfl) (hlt := by simp [Is]) (he := rfl) (hh := by simp; exact Is.rfl) (hw := by simp; exact Is.rfl))
               | (apply RT.callQ (hg := by simp; exact Is.rfl) (hfo := by simp; exact Is.rfl) (hvs := by simp; exact Is.rfl) (hcl := by simp; exact Is.rfl) (hd := by simp; exact Is.rfl) (he := rfl))
               | (apply RT.wr (h := by simp; exact Is.rfl) (he := rfl) (hh := by simp; exact Is.rfl) (hn := by exact Is.rfl) (hc := by exact Is.rfl) (hw := by simp; exact Is.rfl)))
             exact RT.nil
           case hc => (show _ = _; kernel_rfl)
           case ht => simp; exact Is.rfl)
        | apply WP.block
        | apply WP.skip
        | apply WP.exit
        | apply WP.ret)
      have hb2 : (s == nm) = true := by rw [BEq.comm]; exact hb
      rw [fIdx_hit (f := (· == nm)) hno hy hb2]
      exact ⟨.inr rfl, _, _, rfl, rfl⟩
    · have hb2 : (s == nm) = false := by rw [BEq.comm]; exact hb
      repeat (first
        | apply WP.seq
        | (apply WP.reg
           case hR => dsimp only [prepL, prepO, List.map, List.getElem?_cons_succ, List.getElem?_cons_zero]; exact Is.rfl
           case hr =>
             repeat (first
               | (apply RT.op (h := by simp; exact Is.rfl) (he := rfl))
               | (apply RT.call (hg := by simp; exact Is.rfl) (hfo := by simp; exact Is.rfl) (hvs := by simp; exact Is.rfl) (hcl := by simp; exact Is.rfl) (hd := by simp; exact Is.rfl) (hwr := by simp; exact Is.rfl) (hlt := by simp [Is]) (he := rfl) (hh := by simp; exact Is.rfl) (hw := by simp; exact Is.rfl))
               | (apply RT.callQ (hg := by simp; exact Is.rfl) (hfo := by simp; exact Is.rfl) (hvs := by simp; exact Is.rfl) (hcl := by simp; exact Is.rfl) (hd := by simp; exact Is.rfl) (he := rfl))
               | (apply RT.wr (h := by simp; exact Is.rfl) (he := rfl) (hh := by simp; exact Is.rfl) (hn := by exact Is.rfl) (hc := by exact Is.rfl) (hw := by simp; exact Is.rfl)))
             exact RT.nil
           case hc => (show _ = _; kernel_rfl)
           case ht => simp; exact Is.rfl)
        | apply WP.block
        | apply WP.skip
        | apply WP.exit
        | apply WP.ret)
      refine loop_next (by simp; exact Is.rfl) ?_
      exact ⟨d - 1, by omega, i + 1, by omega, by rw [hts, hno, hb2]; rfl, SE.mk (by simp [dI, hw, dN, dS]) rfl⟩
  · simp at hb
    rw [List.take_of_length_le hb] at hno
    repeat (first
      | apply WP.seq
      | (apply WP.reg
         case hR => dsimp only [prepL, prepO, List.map, List.getElem?_cons_succ, List.getElem?_cons_zero]; exact Is.rfl
         case hr =>
           repeat (first
             | (apply RT.op (h := by simp; exact Is.rfl) (he := rfl))
             | (apply RT.call (hg := by simp; exact Is.rfl) (hfo := by simp; exact Is.rfl) (hvs := by simp; exact Is.rfl) (hcl := by simp; exact Is.rfl) (hd := by simp; exact Is.rfl) (hwr := by simp; exact Is.rfl) (hlt := by simp [Is]) (he := rfl) (hh := by simp; exact Is.rfl) (hw := by simp; exact Is.rfl))
             | (apply RT.callQ (hg := by simp; exact Is.rfl) (hfo := by simp; exact Is.rfl) (hvs := by simp; exact Is.rfl) (hcl := by simp; exact Is.rfl) (hd := by simp; exact Is.rfl) (he := rfl))
             | (apply RT.wr (h := by simp; exact Is.rfl) (he := rfl) (hh := by simp; exact Is.rfl) (hn := by exact Is.rfl) (hc := by exact Is.rfl) (hw := by simp; exact Is.rfl)))
           exact RT.nil
         case hc => (show _ = _; kernel_rfl)
         case ht => simp; exact Is.rfl)
      | apply WP.block
      | apply WP.skip
      | apply WP.exit
      | apply WP.ret)
    rw [fIdx_none hno]
    exact ⟨.inr rfl, _, _, rfl, rfl⟩

theorem contains37_den (l : List (List UInt8)) (nm : List UInt8) (hl : szN l ≤ MX) : den Try.prog Hn.cfg 37 [dN l, dS nm] = some (.d (.bool (l.any (· == nm)))) := by
  have h1 := index42_den l nm hl
  rw [← fIdx_any]
  simp only [dN, dS, dI] at h1
  refine den_wp Try.func37 rfl (by kernel_rfl) rfl rfl ?_
  repeat (first
    | apply WP.seq
    | (apply WP.reg
       case hR => dsimp only [prepL, prepO, List.map, List.getElem?_cons_succ, List.getElem?_cons_zero]; exact Is.rfl
       case hr =>
         repeat (first
           | (apply RT.op (h := by simp [envOf, dN, dS, h1]; exact Is.rfl) (he := rfl))
           | (apply RT.call (hg := by simp; exact Is.rfl) (hfo := by simp; exact Is.rfl) (hvs := by simp [envOf, dN, dS, h1]; exact Is.rfl) (hcl := by simp [envOf, dN, dS, h1]; exact Is.rfl) (hd := by simp [envOf, dN, dS, h1]; exact Is.rfl) (hwr := by simp [envOf, dN, dS, h1]; exact Is.rfl) (hlt := by simp [Is]) (he := rfl) (hh := by simp; exact Is.rfl) (hw := by simp; exact Is.rfl))
           | (apply RT.callQ (hg := by simp; exact Is.rfl) (hfo := by simp; exact Is.rfl) (hvs := by simp [envOf, dN, dS, h1]; exact Is.rfl) (hcl := by simp [envOf, dN, dS, h1]; exact Is.rfl) (hd := by simp [envOf, dN, dS, h1]; exact Is.rfl) (he := rfl))
           | (apply RT.wr (h := by simp [envOf, dN, dS, h1]; exact Is.rfl) (he := rfl) (hh := by simp [envOf, dN, dS, h1]; exact Is.rfl) (hn := by exact Is.rfl) (hc := by exact Is.rfl) (hw := by simp; exact Is.rfl)))
         exact RT.nil
       case hc => (show _ = _; kernel_rfl)
       case ht => simp [envOf, dN, dS, h1]; exact Is.rfl)
    | apply WP.block
    | apply WP.skip
    | apply WP.exit
    | apply WP.ret)
  exact ⟨.inr rfl, _, _, rfl, rfl⟩

/-- The test that 'assigns' hands on. -/
def asg1 (nm : List UInt8) (y : Y) : Bool := ((y.k == 1) && (y.nm == nm)) || ((y.k == 4) && y.outs.any (· == nm))

theorem assigns36 (y : Y) (hl : y.sz ≤ MX) (nm : List UInt8) (hp : Hp) (n c idn gn : Nat) (hg : hp.get idn = some ⟨gn, false, [dS nm]⟩) (hn : idn < n) : Quiet Try.prog Hn.cfg 36 [aY y, .ptr idn gn 0] hp n c (.bool (asg1 nm y)) := by
  rw [Y.sz_eq] at hl
  have h1 := contains37_den y.outs nm (by omega)
  simp only [dN, dS] at h1 hg
  have hg1 : ∀ o, (Hp.set hp n o).get idn = some ⟨gn, false, [.d (.str nm)]⟩ := fun o => by rw [Hp.get_set_ne _ _ _ _ (by omega), hg]
  refine quiet_wp Try.func36 rfl (by kernel_rfl) rfl ?_
  repeat (first
    | apply WP.seq
    | (apply WP.reg
       case hR => dsimp only [prepL, prepO, List.map, List.getElem?_cons_succ, List.getElem?_cons_zero]; exact Is.rfl
       case hr =>
         repeat (first
           | (apply RT.op (h := by simp [envOf, aY, Y.cells_eq]; exact Is.rfl) (he := rfl))
           | (apply RT.call (hg := by simp; exact Is.rfl) (hfo := by simp; exact Is.rfl) (hvs := by simp [envOf, aY, Y.cells_eq]; exact Is.rfl) (hcl := by simp [envOf, aY, Y.cells_eq]; exact Is.rfl) (hd := by simp [envOf, aY, Y.cells_eq]; exact Is.rfl) (hwr := by simp [envOf, aY, Y.cells_eq]; exact Is.rfl) (hlt := by simp [Is]) (he := rfl) (hh := by simp; exact Is.rfl) (hw := by simp; exact Is.rfl))
           | (apply RT.callQ (hg := by simp; exact Is.rfl) (hfo := by simp; exact Is.rfl) (hvs := by simp [envOf, aY, Y.cells_eq]; exact Is.rfl) (hcl := by simp [envOf, aY, Y.cells_eq]; exact Is.rfl) (hd := by simp [envOf, aY, Y.cells_eq]; exact Is.rfl) (he := rfl))
           | (apply RT.wr (h := by simp [envOf, aY, Y.cells_eq]; exact Is.rfl) (he := rfl) (hh := by simp [envOf, aY, Y.cells_eq]; exact Is.rfl) (hn := by exact Is.rfl) (hc := by exact Is.rfl) (hw := by simp; exact Is.rfl)))
         exact RT.nil
       case hc => (show _ = _; kernel_rfl)
       case ht => simp [envOf, aY, Y.cells_eq]; exact Is.rfl)
    | apply WP.block
    | apply WP.skip
    | apply WP.exit
    | apply WP.ret)
  by_cases h2 : y.k = 1
  · cases h3 : y.nm == nm with
    | true =>
      repeat (first
        | apply WP.seq
        | (apply WP.reg
           case hR => dsimp only [prepL, prepO, List.map, List.getElem?_cons_succ, List.getElem?_cons_zero]; exact Is.rfl
           case hr =>
             repeat (first
               | (apply RT.op (h := by simp [h2, h3, hg1]; exact Is.rfl) (he := rfl))
               | (apply RT.call (hg := by simp; exact Is.rfl) (hfo := by simp; exact Is.rfl) (hvs := by simp [h2, h3, hg1]; exact Is.rfl) (hcl := by simp [h2, h3, hg1]; exact Is.rfl) (hd := by simp [h2, h3, hg1]; exact Is.rfl) (hwr := by simp [h2, h3, hg1]; exact Is.rfl) (hlt := by simp [Is]) (he := rfl) (hh := by simp; exact Is.rfl) (hw := by simp; exact Is.rfl))
               | (apply RT.callQ (hg := by simp; exact Is.rfl) (hfo := by simp; exact Is.rfl) (hvs := by simp [h2, h3, hg1]; exact Is.rfl) (hcl := by simp [h2, h3, hg1]; exact Is.rfl) (hd := by simp [h2, h3, hg1]; exact Is.rfl) (he := rfl))
               | (apply RT.wr (h := by simp [h2, h3, hg1]; exact Is.rfl) (he := rfl) (hh := by simp [h2, h3, hg1]; exact Is.rfl) (hn := by exact Is.rfl) (hc := by exact Is.rfl) (hw := by simp; exact Is.rfl)))
             exact RT.nil
           case hc => (show _ = _; kernel_rfl)
           case ht => simp [h2, h3, hg1]; exact Is.rfl)
        | apply WP.block
        | apply WP.skip
        | apply WP.exit
        | apply WP.ret)
      rw [show asg1 nm y = true by unfold asg1; rw [h2, h3]; rfl]
      exact ⟨.inr rfl, rfl, _, rfl, rfl⟩
    | false =>
      repeat (first
        | apply WP.seq
        | (apply WP.reg
           case hR => dsimp only [prepL, prepO, List.map, List.getElem?_cons_succ, List.getElem?_cons_zero]; exact Is.rfl
           case hr =>
             repeat (first
               | (apply RT.op (h := by simp [h2, h3, hg1]; exact Is.rfl) (he := rfl))
               | (apply RT.call (hg := by simp; exact Is.rfl) (hfo := by simp; exact Is.rfl) (hvs := by simp [h2, h3, hg1]; exact Is.rfl) (hcl := by simp [h2, h3, hg1]; exact Is.rfl) (hd := by simp [h2, h3, hg1]; exact Is.rfl) (hwr := by simp [h2, h3, hg1]; exact Is.rfl) (hlt := by simp [Is]) (he := rfl) (hh := by simp; exact Is.rfl) (hw := by simp; exact Is.rfl))
               | (apply RT.callQ (hg := by simp; exact Is.rfl) (hfo := by simp; exact Is.rfl) (hvs := by simp [h2, h3, hg1]; exact Is.rfl) (hcl := by simp [h2, h3, hg1]; exact Is.rfl) (hd := by simp [h2, h3, hg1]; exact Is.rfl) (he := rfl))
               | (apply RT.wr (h := by simp [h2, h3, hg1]; exact Is.rfl) (he := rfl) (hh := by simp [h2, h3, hg1]; exact Is.rfl) (hn := by exact Is.rfl) (hc := by exact Is.rfl) (hw := by simp; exact Is.rfl)))
             exact RT.nil
           case hc => (show _ = _; kernel_rfl)
           case ht => simp [h2, h3, hg1]; exact Is.rfl)
        | apply WP.block
        | apply WP.skip
        | apply WP.exit
        | apply WP.ret)
      rw [show asg1 nm y = false by unfold asg1; rw [h2, h3]; rfl]
      exact ⟨.inr rfl, rfl, _, rfl, rfl⟩
  · have h6 := bne_of h2
    by_cases h4 : y.k = 4
    · repeat (first
        | apply WP.seq
        | (apply WP.reg
           case hR => dsimp only [prepL, prepO, List.map, List.getElem?_cons_succ, List.getElem?_cons_zero]; exact Is.rfl
           case hr =>
             repeat (first
               | (apply RT.op (h := by simp [h6.1, h6.2, h4, h1, hg1]; exact Is.rfl) (he := rfl))
               | (apply RT.call (hg := by simp; exact Is.rfl) (hfo := by simp; exact Is.rfl) (hvs := by simp [h6.1, h6.2, h4, h1, hg1]; exact Is.rfl) (hcl := by simp [h6.1, h6.2, h4, h1, hg1]; exact Is.rfl) (hd := by simp [h6.1, h6.2, h4, h1, hg1]; exact Is.rfl) (hwr := by simp [h6.1, h6.2, h4, h1, hg1]; exact Is.rfl) (hlt := by simp [Is]) (he := rfl) (hh := by simp; exact Is.rfl) (hw := by simp; exact Is.rfl))
               | (apply RT.callQ (hg := by simp; exact Is.rfl) (hfo := by simp; exact Is.rfl) (hvs := by simp [h6.1, h6.2, h4, h1, hg1]; exact Is.rfl) (hcl := by simp [h6.1, h6.2, h4, h1, hg1]; exact Is.rfl) (hd := by simp [h6.1, h6.2, h4, h1, hg1]; exact Is.rfl) (he := rfl))
               | (apply RT.wr (h := by simp [h6.1, h6.2, h4, h1, hg1]; exact Is.rfl) (he := rfl) (hh := by simp [h6.1, h6.2, h4, h1, hg1]; exact Is.rfl) (hn := by exact Is.rfl) (hc := by exact Is.rfl) (hw := by simp; exact Is.rfl)))
             exact RT.nil
           case hc => (show _ = _; kernel_rfl)
           case ht => simp [h6.1, h6.2, h4, h1, hg1]; exact Is.rfl)
        | apply WP.block
        | apply WP.skip
        | apply WP.exit
        | apply WP.ret)
      rw [show asg1 nm y = y.outs.any (· == nm) by unfold asg1; rw [h4]; rfl]
      exact ⟨.inr rfl, rfl, _, rfl, rfl⟩
    · have h7 := bne_of h4
      repeat (first
        | apply WP.seq
        | (apply WP.reg
           case hR => dsimp only [prepL, prepO, List.map, List.getElem?_cons_succ, List.getElem?_cons_zero]; exact Is.rfl
           case hr =>
             repeat (first
               | (apply RT.op (h := by simp [h6.1, h6.2, h7.1, h7.2, hg1]; exact Is.rfl) (he := rfl))
               | (apply RT.call (hg := by simp; exact Is.rfl) (hfo := by simp; exact Is.rfl) (hvs := by simp [h6.1, h6.2, h7.1, h7.2, hg1]; exact Is.rfl) (hcl := by simp [h6.1, h6.2, h7.1, h7.2, hg1]; exact Is.rfl) (hd := by simp [h6.1, h6.2, h7.1, h7.2, hg1]; exact Is.rfl) (hwr := by simp [h6.1, h6.2, h7.1, h7.2, hg1]; exact Is.rfl) (hlt := by simp [Is]) (he := rfl) (hh := by simp; exact Is.rfl) (hw := by simp; exact Is.rfl))
               | (apply RT.callQ (hg := by simp; exact Is.rfl) (hfo := by simp; exact Is.rfl) (hvs := by simp [h6.1, h6.2, h7.1, h7.2, hg1]; exact Is.rfl) (hcl := by simp [h6.1, h6.2, h7.1, h7.2, hg1]; exact Is.rfl) (hd := by simp [h6.1, h6.2, h7.1, h7.2, hg1]; exact Is.rfl) (he := rfl))
               | (apply RT.wr (h := by simp [h6.1, h6.2, h7.1, h7.2, hg1]; exact Is.rfl) (he := rfl) (hh := by simp [h6.1, h6.2, h7.1, h7.2, hg1]; exact Is.rfl) (hn := by exact Is.rfl) (hc := by exact Is.rfl) (hw := by simp; exact Is.rfl)))
             exact RT.nil
           case hc => (show _ = _; kernel_rfl)
           case ht => simp [h6.1, h6.2, h7.1, h7.2, hg1]; exact Is.rfl)
        | apply WP.block
        | apply WP.skip
        | apply WP.exit
        | apply WP.ret)
      rw [show asg1 nm y = false by unfold asg1; rw [h6.2, h7.2]; rfl]
      exact ⟨.inr rfl, rfl, _, rfl, rfl⟩

theorem Y.asg_split (nm : List UInt8) (y : Y) : y.asg nm = (asg1 nm y || ((y.k == 3) && y.brs.any (asgY nm))) := by
  rw [Y.asg_eq, asgB_any]; rfl

/-- 'any1' over an assigned variable, by the size of the list. -/
def AnyOK (nm : List UInt8) (N : Nat) : Prop := ∀ (l : List Y), szY l < N → szY l ≤ MX → ∀ (v : V) (rd : List Nat) (p : Nat → V) (hp : Hp) (n c idn gn : Nat), (∀ hp', Ag n hp hp' → LV hp'.get v l rd p) →
  hp.get idn = some ⟨gn, false, [dS nm]⟩ → idn < n → Quiet Try.prog Hn.cfg 35 [v, .fn 36 [.ptr idn gn 0]] hp n c (.bool (asgY nm l))

theorem any41 {nm : List UInt8} {N : Nat} (h : AnyOK nm N) (b : List Y) (hb : szY b < N) (hl : szY b ≤ MX) (hp : Hp) (n c idn gn idp gp : Nat) (hg : hp.get idn = some ⟨gn, false, [dS nm]⟩) (hn : idn < n)
    (hq : hp.get idp = some ⟨gp, false, [.fn 36 [.ptr idn gn 0]]⟩) (hpn : idp < n) : Quiet Try.prog Hn.cfg 41 [dY b, .ptr idp gp 0] hp n c (.bool (asgY nm b)) := by
  obtain ⟨h5, h6, h4⟩ := Quiet.fn (fun c => h b hb hl (dY b) [] _ hp n c idn gn (fun hp' _ => LV.data hp'.get b) hg hn)
  simp only [dY] at h4
  refine quiet_wp Try.func41 rfl (by kernel_rfl) rfl ?_
  repeat (first
    | apply WP.seq
    | (apply WP.reg
       case hR => dsimp only [prepL, prepO, List.map, List.getElem?_cons_succ, List.getElem?_cons_zero]; exact Is.rfl
       case hr =>
         repeat (first
           | (apply RT.op (h := by simp [envOf, dY, hq, h4]; exact Is.rfl) (he := rfl))
           | (apply RT.call (hg := by simp; exact Is.rfl) (hfo := by simp; exact Is.rfl) (hvs := by simp [envOf, dY, hq, h4]; exact Is.rfl) (hcl := by simp [envOf, dY, hq, h4]; exact Is.rfl) (hd := by simp [envOf, dY, hq, h4]; exact Is.rfl) (hwr := by simp [envOf, dY, hq, h4]; exact Is.rfl) (hlt := by simp [Is]) (he := rfl) (hh := by simp; exact Is.rfl) (hw := by simp; exact Is.rfl))
           | (apply RT.callQ (hg := by simp; exact Is.rfl) (hfo := by simp; exact Is.rfl) (hvs := by simp [envOf, dY, hq, h4]; exact Is.rfl) (hcl := by simp [envOf, dY, hq, h4]; exact Is.rfl) (hd := by simp [envOf, dY, hq, h4]; exact Is.rfl) (he := rfl))
           | (apply RT.wr (h := by simp [envOf, dY, hq, h4]; exact Is.rfl) (he := rfl) (hh := by simp [envOf, dY, hq, h4]; exact Is.rfl) (hn := by exact Is.rfl) (hc := by exact Is.rfl) (hw := by simp; exact Is.rfl)))
         exact RT.nil
       case hc => (show _ = _; kernel_rfl)
       case ht => simp [envOf, dY, hq, h4]; exact Is.rfl)
    | apply WP.block
    | apply WP.skip
    | apply WP.exit
    | apply WP.ret)
  exact ⟨.inr rfl, rfl, _, rfl, rfl⟩

theorem any40 {nm : List UInt8} {N : Nat} (h : AnyOK nm N) (y : Y) (hy : szB y.brs ≤ N) (hl : y.sz ≤ MX) (hp : Hp) (n c idn gn idp gp : Nat) (hg : hp.get idn = some ⟨gn, false, [dS nm]⟩) (hn : idn < n)
    (hq : hp.get idp = some ⟨gp, false, [.fn 36 [.ptr idn gn 0]]⟩) (hpn : idp < n) : Quiet Try.prog Hn.cfg 40 [aY y, .ptr idp gp 0] hp n c (.bool (y.asg nm)) := by
  have hl2 := hl
  rw [Y.sz_eq] at hl2
  have hg1 : ∀ o, (Hp.set hp n o).get idn = some ⟨gn, false, [dS nm]⟩ := fun o => by rw [Hp.get_set_ne _ _ _ _ (by omega), hg]
  have hq1 : ∀ o, (Hp.set hp n o).get idp = some ⟨gp, false, [.fn 36 [.ptr idn gn 0]]⟩ := fun o => by rw [Hp.get_set_ne _ _ _ _ (by omega), hq]
  have h36 := fun o => Quiet.fn (fun c => assigns36 y hl nm (Hp.set hp n o) (n + 1) c idn gn (hg1 o) (by omega))
  obtain ⟨a5, h36⟩ := Classical.axiomOfChoice h36
  obtain ⟨a6, h36⟩ := Classical.axiomOfChoice h36
  have h29 := fun o => Quiet.fn (fun c => contains29 y.brs (by omega) (asgY nm) 41 idp gp rfl (Hp.set hp n o) (n + 1) c (fun b hb hp' c hag => by
    have hs := mem_szB hb
    exact any41 h b (by omega) (by omega) hp' (n + 1) c idn gn idp gp (by rw [hag idn (by omega), hg1]) (by omega) (by rw [hag idp (by omega), hq1]) (by omega)))
  obtain ⟨b5, h29⟩ := Classical.axiomOfChoice h29
  obtain ⟨b6, h29⟩ := Classical.axiomOfChoice h29
  simp only [aY, Y.cells_eq, List.map] at h36
  rw [Y.asg_split]
  refine quiet_wp Try.func40 rfl (by kernel_rfl) rfl ?_
  repeat (first
    | apply WP.seq
    | (apply WP.reg
       case hR => dsimp only [prepL, prepO, List.map, List.getElem?_cons_succ, List.getElem?_cons_zero]; exact Is.rfl
       case hr =>
         repeat (first
           | (apply RT.op (h := by simp [envOf, aY, Y.cells_eq, hq1, h36]; exact Is.rfl) (he := rfl))
           | (apply RT.call (hg := by simp; exact Is.rfl) (hfo := by simp; exact Is.rfl) (hvs := by simp [envOf, aY, Y.cells_eq, hq1, h36]; exact Is.rfl) (hcl := by simp [envOf, aY, Y.cells_eq, hq1, h36]; exact Is.rfl) (hd := by simp [envOf, aY, Y.cells_eq, hq1, h36]; exact Is.rfl) (hwr := by simp [envOf, aY, Y.cells_eq, hq1, h36]; exact Is.rfl) (hlt := by simp [Is]) (he := rfl) (hh := by simp; exact Is.rfl) (hw := by simp; exact Is.rfl))
           | (apply RT.callQ (hg := by simp; exact Is.rfl) (hfo := by simp; exact Is.rfl) (hvs := by simp [envOf, aY, Y.cells_eq, hq1, h36]; exact Is.rfl) (hcl := by simp [envOf, aY, Y.cells_eq, hq1, h36]; exact Is.rfl) (hd := by simp [envOf, aY, Y.cells_eq, hq1, h36]; exact Is.rfl) (he := rfl))
           | (apply RT.wr (h := by simp [envOf, aY, Y.cells_eq, hq1, h36]; exact Is.rfl) (he := rfl) (hh := by simp [envOf, aY, Y.cells_eq, hq1, h36]; exact Is.rfl) (hn := by exact Is.rfl) (hc := by exact Is.rfl) (hw := by simp; exact Is.rfl)))
         exact RT.nil
       case hc => (show _ = _; kernel_rfl)
       case ht => simp [envOf, aY, Y.cells_eq, hq1, h36]; exact Is.rfl)
    | apply WP.block
    | apply WP.skip
    | apply WP.exit
    | apply WP.ret)
  show WP _ _ _ _ _ _
  refine WP.cond _ rfl (fun hb => ?_) (fun hb => ?_)
  · rw [hb]
    repeat (first
      | apply WP.seq
      | (apply WP.reg
         case hR => dsimp only [prepL, prepO, List.map, List.getElem?_cons_succ, List.getElem?_cons_zero]; exact Is.rfl
         case hr =>
           repeat (first
             | (apply RT.op (h := by simp; exact Is.rfl) (he := rfl))
             | (apply RT.call (hg := by simp; exact Is.rfl) (hfo := by simp; exact Is.rfl) (hvs := by simp; exact Is.rfl) (hcl := by simp; exact Is.rfl) (hd := by simp; exact Is.rfl) (hwr := by simp; exact Is.rfl) (hlt := by simp [Is]) (he := rfl) (hh := by simp; exact Is.rfl) (hw := by simp; exact Is.rfl))
             | (apply RT.callQ (hg := by simp; exact Is.rfl) (hfo := by simp; exact Is.rfl) (hvs := by simp; exact Is.rfl) (hcl := by simp; exact Is.rfl) (hd := by simp; exact Is.rfl) (he := rfl))
             | (apply RT.wr (h := by simp; exact Is.rfl) (he := rfl) (hh := by simp; exact Is.rfl) (hn := by exact Is.rfl) (hc := by exact Is.rfl) (hw := by simp; exact Is.rfl)))
           exact RT.nil
         case hc => (show _ = _; kernel_rfl)
         case ht => simp; exact Is.rfl)
      | apply WP.block
      | apply WP.skip
      | apply WP.exit
      | apply WP.ret)
    exact ⟨.inr rfl, rfl, _, rfl, rfl⟩
  · rw [hb]
    by_cases h3 : y.k = 3
    · repeat (first
        | apply WP.seq
        | (apply WP.reg
           case hR => dsimp only [prepL, prepO, List.map, List.getElem?_cons_succ, List.getElem?_cons_zero]; exact Is.rfl
           case hr =>
             repeat (first
               | (apply RT.op (h := by simp [h3, h29, hq1]; exact Is.rfl) (he := rfl))
               | (apply RT.call (hg := by simp; exact Is.rfl) (hfo := by simp; exact Is.rfl) (hvs := by simp [h3, h29, hq1]; exact Is.rfl) (hcl := by simp [h3, h29, hq1]; exact Is.rfl) (hd := by simp [h3, h29, hq1]; exact Is.rfl) (hwr := by simp [h3, h29, hq1]; exact Is.rfl) (hlt := by simp [Is]) (he := rfl) (hh := by simp; exact Is.rfl) (hw := by simp; exact Is.rfl))
               | (apply RT.callQ (hg := by simp; exact Is.rfl) (hfo := by simp; exact Is.rfl) (hvs := by simp [h3, h29, hq1]; exact Is.rfl) (hcl := by simp [h3, h29, hq1]; exact Is.rfl) (hd := by simp [h3, h29, hq1]; exact Is.rfl) (he := rfl))
               | (apply RT.wr (h := by simp [h3, h29, hq1]; exact Is.rfl) (he := rfl) (hh := by simp [h3, h29, hq1]; exact Is.rfl) (hn := by exact Is.rfl) (hc := by exact Is.rfl) (hw := by simp; exact Is.rfl)))
             exact RT.nil
           case hc => (show _ = _; kernel_rfl)
           case ht => simp [h3, h29, hq1]; exact Is.rfl)
        | apply WP.block
        | apply WP.skip
        | apply WP.exit
        | apply WP.ret)
      rw [h3]
      exact ⟨.inr rfl, rfl, _, rfl, rfl⟩
    · have h6 := bne_of h3
      repeat (first
        | apply WP.seq
        | (apply WP.reg
           case hR => dsimp only [prepL, prepO, List.map, List.getElem?_cons_succ, List.getElem?_cons_zero]; exact Is.rfl
           case hr =>
             repeat (first
               | (apply RT.op (h := by simp [h6.1, h6.2, h29, hq1]; exact Is.rfl) (he := rfl))
               | (apply RT.call (hg := by simp; exact Is.rfl) (hfo := by simp; exact Is.rfl) (hvs := by simp [h6.1, h6.2, h29, hq1]; exact Is.rfl) (hcl := by simp [h6.1, h6.2, h29, hq1]; exact Is.rfl) (hd := by simp [h6.1, h6.2, h29, hq1]; exact Is.rfl) (hwr := by simp [h6.1, h6.2, h29, hq1]; exact Is.rfl) (hlt := by simp [Is]) (he := rfl) (hh := by simp; exact Is.rfl) (hw := by simp; exact Is.rfl))
               | (apply RT.callQ (hg := by simp; exact Is.rfl) (hfo := by simp; exact Is.rfl) (hvs := by simp [h6.1, h6.2, h29, hq1]; exact Is.rfl) (hcl := by simp [h6.1, h6.2, h29, hq1]; exact Is.rfl) (hd := by simp [h6.1, h6.2, h29, hq1]; exact Is.rfl) (he := rfl))
               | (apply RT.wr (h := by simp [h6.1, h6.2, h29, hq1]; exact Is.rfl) (he := rfl) (hh := by simp [h6.1, h6.2, h29, hq1]; exact Is.rfl) (hn := by exact Is.rfl) (hc := by exact Is.rfl) (hw := by simp; exact Is.rfl)))
             exact RT.nil
           case hc => (show _ = _; kernel_rfl)
           case ht => simp [h6.1, h6.2, h29, hq1]; exact Is.rfl)
        | apply WP.block
        | apply WP.skip
        | apply WP.exit
        | apply WP.ret)
      rw [h6.2]
      exact ⟨.inr rfl, rfl, _, rfl, rfl⟩

theorem any35 (nm : List UInt8) : ∀ N, AnyOK nm N
  | 0 => fun l h => by omega
  | N + 1 => by
    intro l hl hm v rd p hp n c idn gn hv hg hn
    have ih := any35 nm N
    rw [asgY_any]
    have hg1 : ∀ o, (Hp.set hp n o).get idn = some ⟨gn, false, [dS nm]⟩ := fun o => by rw [Hp.get_set_ne _ _ _ _ (by omega), hg]
    have h39 := Quiet.fn (fun c' => contains39 l hm (Y.asg nm) v rd p 40 n c rfl (Hp.set hp n ⟨c, false, [.fn 36 [.ptr idn gn 0]]⟩) (n + 1) c' (fun hp' hag => hv hp' (fun id hid => by rw [hag id (by omega), Hp.get_set_ne _ _ _ _ (by omega)]))
      (fun y hy hp' c2 hag => any40 ih y (by have := mem_szY hy; rw [Y.sz_eq] at this; omega) (by have := mem_szY hy; omega) hp' (n + 1) c2 idn gn n c (by rw [hag idn (by omega), hg1]) (by omega) (by rw [hag n (by omega), Hp.get_set_self]) (by omega)))
    obtain ⟨a5, a6, h39⟩ := h39
    refine quiet_wp Try.func35 rfl (by kernel_rfl) rfl ?_
    repeat (first
      | apply WP.seq
      | (apply WP.reg
         case hR => dsimp only [prepL, prepO, List.map, List.getElem?_cons_succ, List.getElem?_cons_zero]; exact Is.rfl
         case hr =>
           repeat (first
             | (apply RT.op (h := by simp [envOf, h39]; exact Is.rfl) (he := rfl))
             | (apply RT.call (hg := by simp; exact Is.rfl) (hfo := by simp; exact Is.rfl) (hvs := by simp [envOf, h39]; exact Is.rfl) (hcl := by simp [envOf, h39]; exact Is.rfl) (hd := by simp [envOf, h39]; exact Is.rfl) (hwr := by simp [envOf, h39]; exact Is.rfl) (hlt := by simp [Is]) (he := rfl) (hh := by simp; exact Is.rfl) (hw := by simp; exact Is.rfl))
             | (apply RT.callQ (hg := by simp; exact Is.rfl) (hfo := by simp; exact Is.rfl) (hvs := by simp [envOf, h39]; exact Is.rfl) (hcl := by simp [envOf, h39]; exact Is.rfl) (hd := by simp [envOf, h39]; exact Is.rfl) (he := rfl))
             | (apply RT.wr (h := by simp [envOf, h39]; exact Is.rfl) (he := rfl) (hh := by simp [envOf, h39]; exact Is.rfl) (hn := by exact Is.rfl) (hc := by exact Is.rfl) (hw := by simp; exact Is.rfl)))
           exact RT.nil
         case hc => (show _ = _; kernel_rfl)
         case ht => simp [envOf, h39]; exact Is.rfl)
      | apply WP.block
      | apply WP.skip
      | apply WP.exit
      | apply WP.ret)
    exact ⟨.inr rfl, rfl, _, rfl, rfl⟩

theorem assigns_den (y : Y) (hl : y.sz ≤ MX) (nm : List UInt8) : den Try.prog Hn.cfg 31 [aY y, dS nm] = some (.d (.bool (y.asg nm))) := by
  have h1 : y.asg nm = asgY nm [y] := by simp [asgY]
  rw [h1]
  have h35 := fun (c : Nat) => Quiet.fn (fun c' => any35 nm (szY [y] + 1) [y] (by omega) (by rw [szY_one]; exact hl) (.osl 2 2 0 1 12 (some 1)) [2] (fun i => .ptr 2 2 (i * 12)) [(0, ⟨0, false, y.cells.map .d⟩), (1, ⟨1, false, [dS nm]⟩), (2, ⟨2, false, y.cells.map .d⟩)] 3 c' 1 1
    (fun hp' hag => LV.one (by rw [hag 2 (by omega)]; rfl)) rfl (by omega))
  obtain ⟨a5, a6, h35⟩ := h35 0
  simp only [Y.cells_eq, List.map, dS] at h35
  refine den_wp Try.func31 rfl (by kernel_rfl) rfl rfl ?_
  repeat (first
    | apply WP.seq
    | (apply WP.reg
       case hR => dsimp only [prepL, prepO, List.map, List.getElem?_cons_succ, List.getElem?_cons_zero]; exact Is.rfl
       case hr =>
         repeat (first
           | (apply RT.op (h := by simp [envOf, aY, Y.cells_eq, dS, h35, fillV, closeParts, cl2]; exact Is.rfl) (he := rfl))
           | (apply RT.call (hg := by simp; exact Is.rfl) (hfo := by simp; exact Is.rfl) (hvs := by simp [envOf, aY, Y.cells_eq, dS, h35, fillV, closeParts, cl2]; exact Is.rfl) (hcl := by simp [envOf, aY, Y.cells_eq, dS, h35, fillV, closeParts, cl2]; exact Is.rfl) (hd := by simp [envOf, aY, Y.cells_eq, dS, h35, fillV, closeParts, cl2]; exact Is.rfl) (hwr := by simp [envOf, aY, Y.cells_eq, dS, h35, fillV, closeParts, cl2]; exact Is.rfl) (hlt := by simp [Is]) (he := rfl) (hh := by simp; exact Is.rfl) (hw := by simp; exact Is.rfl))
           | (apply RT.callQ (hg := by simp; exact Is.rfl) (hfo := by simp; exact Is.rfl) (hvs := by simp [envOf, aY, Y.cells_eq, dS, h35, fillV, closeParts, cl2]; exact Is.rfl) (hcl := by simp [envOf, aY, Y.cells_eq, dS, h35, fillV, closeParts, cl2]; exact Is.rfl) (hd := by simp [envOf, aY, Y.cells_eq, dS, h35, fillV, closeParts, cl2]; exact Is.rfl) (he := rfl))
           | (apply RT.wr (h := by simp [envOf, aY, Y.cells_eq, dS, h35, fillV, closeParts, cl2]; exact Is.rfl) (he := rfl) (hh := by simp [envOf, aY, Y.cells_eq, dS, h35, fillV, closeParts, cl2]; exact Is.rfl) (hn := by exact Is.rfl) (hc := by exact Is.rfl) (hw := by simp; exact Is.rfl)))
         exact RT.nil
       case hc => (show _ = _; kernel_rfl)
       case ht => simp [envOf, aY, Y.cells_eq, dS, h35, fillV, closeParts, cl2]; exact Is.rfl)
    | apply WP.block
    | apply WP.skip
    | apply WP.exit
    | apply WP.ret)
  exact ⟨.inr rfl, _, _, rfl, rfl⟩

theorem fits_den (a b : Y) (ha : a.sz ≤ MX) (hb : b.sz ≤ MX) : den Try.prog Hn.cfg 26 [aY a, aY b] = some (.d (.bool (fitY a b))) := by
  have h1 := assigns_den a ha b.nm
  refine den_wp Try.func26 rfl (by kernel_rfl) rfl rfl ?_
  repeat (first
    | apply WP.seq
    | (apply WP.reg
       case hR => dsimp only [prepL, prepO, List.map, List.getElem?_cons_succ, List.getElem?_cons_zero]; exact Is.rfl
       case hr =>
         repeat (first
           | (apply RT.op (h := by simp [aY, envOf, Y.cells_eq]; exact Is.rfl) (he := rfl))
           | (apply RT.call (hg := by simp; exact Is.rfl) (hfo := by simp; exact Is.rfl) (hvs := by simp [aY, envOf, Y.cells_eq]; exact Is.rfl) (hcl := by simp [aY, envOf, Y.cells_eq]; exact Is.rfl) (hd := by simp [aY, envOf, Y.cells_eq]; exact Is.rfl) (hwr := by simp [aY, envOf, Y.cells_eq]; exact Is.rfl) (hlt := by simp [Is]) (he := rfl) (hh := by simp; exact Is.rfl) (hw := by simp; exact Is.rfl))
           | (apply RT.callQ (hg := by simp; exact Is.rfl) (hfo := by simp; exact Is.rfl) (hvs := by simp [aY, envOf, Y.cells_eq]; exact Is.rfl) (hcl := by simp [aY, envOf, Y.cells_eq]; exact Is.rfl) (hd := by simp [aY, envOf, Y.cells_eq]; exact Is.rfl) (he := rfl))
           | (apply RT.wr (h := by simp [aY, envOf, Y.cells_eq]; exact Is.rfl) (he := rfl) (hh := by simp [aY, envOf, Y.cells_eq]; exact Is.rfl) (hn := by exact Is.rfl) (hc := by exact Is.rfl) (hw := by simp; exact Is.rfl)))
         exact RT.nil
       case hc => (show _ = _; kernel_rfl)
       case ht => simp [aY, envOf, Y.cells_eq]; exact Is.rfl)
    | apply WP.block
    | apply WP.skip
    | apply WP.exit
    | apply WP.ret)
  by_cases h2 : a.k = 3
  · by_cases h3 : a.nm = b.nm
    · by_cases h4 : a.t = b.t
      · by_cases h5 : a.brs.length = b.brs.length
        · simp [aY, dS, Y.cells_eq, h2, h3, h4] at h1
          repeat (first
            | apply WP.seq
            | (apply WP.reg
               case hR => dsimp only [prepL, prepO, List.map, List.getElem?_cons_succ, List.getElem?_cons_zero]; exact Is.rfl
               case hr =>
                 repeat (first
                   | (apply RT.op (h := by simp [h2, h3, h4, h5, h1]; exact Is.rfl) (he := rfl))
                   | (apply RT.call (hg := by simp; exact Is.rfl) (hfo := by simp; exact Is.rfl) (hvs := by simp [h2, h3, h4, h5, h1]; exact Is.rfl) (hcl := by simp [h2, h3, h4, h5, h1]; exact Is.rfl) (hd := by simp [h2, h3, h4, h5, h1]; exact Is.rfl) (hwr := by simp [h2, h3, h4, h5, h1]; exact Is.rfl) (hlt := by simp [Is]) (he := rfl) (hh := by simp; exact Is.rfl) (hw := by simp; exact Is.rfl))
                   | (apply RT.callQ (hg := by simp; exact Is.rfl) (hfo := by simp; exact Is.rfl) (hvs := by simp [h2, h3, h4, h5, h1]; exact Is.rfl) (hcl := by simp [h2, h3, h4, h5, h1]; exact Is.rfl) (hd := by simp [h2, h3, h4, h5, h1]; exact Is.rfl) (he := rfl))
                   | (apply RT.wr (h := by simp [h2, h3, h4, h5, h1]; exact Is.rfl) (he := rfl) (hh := by simp [h2, h3, h4, h5, h1]; exact Is.rfl) (hn := by exact Is.rfl) (hc := by exact Is.rfl) (hw := by simp; exact Is.rfl)))
                 exact RT.nil
               case hc => (show _ = _; kernel_rfl)
               case ht => simp [h2, h3, h4, h5, h1]; exact Is.rfl)
            | apply WP.block
            | apply WP.skip
            | apply WP.exit
            | apply WP.ret)
          rw [show fitY a b = !a.asg b.nm by simp [fitY, h2, h3, h4, h5]]
          exact ⟨.inr rfl, _, _, rfl, rfl⟩
        · have h6 := bne_of (a := (a.brs.length : Int)) (b := (b.brs.length : Int)) (by omega)
          repeat (first
            | apply WP.seq
            | (apply WP.reg
               case hR => dsimp only [prepL, prepO, List.map, List.getElem?_cons_succ, List.getElem?_cons_zero]; exact Is.rfl
               case hr =>
                 repeat (first
                   | (apply RT.op (h := by simp [h2, h3, h4, h6.1, h6.2]; exact Is.rfl) (he := rfl))
                   | (apply RT.call (hg := by simp; exact Is.rfl) (hfo := by simp; exact Is.rfl) (hvs := by simp [h2, h3, h4, h6.1, h6.2]; exact Is.rfl) (hcl := by simp [h2, h3, h4, h6.1, h6.2]; exact Is.rfl) (hd := by simp [h2, h3, h4, h6.1, h6.2]; exact Is.rfl) (hwr := by simp [h2, h3, h4, h6.1, h6.2]; exact Is.rfl) (hlt := by simp [Is]) (he := rfl) (hh := by simp; exact Is.rfl) (hw := by simp; exact Is.rfl))
                   | (apply RT.callQ (hg := by simp; exact Is.rfl) (hfo := by simp; exact Is.rfl) (hvs := by simp [h2, h3, h4, h6.1, h6.2]; exact Is.rfl) (hcl := by simp [h2, h3, h4, h6.1, h6.2]; exact Is.rfl) (hd := by simp [h2, h3, h4, h6.1, h6.2]; exact Is.rfl) (he := rfl))
                   | (apply RT.wr (h := by simp [h2, h3, h4, h6.1, h6.2]; exact Is.rfl) (he := rfl) (hh := by simp [h2, h3, h4, h6.1, h6.2]; exact Is.rfl) (hn := by exact Is.rfl) (hc := by exact Is.rfl) (hw := by simp; exact Is.rfl)))
                 exact RT.nil
               case hc => (show _ = _; kernel_rfl)
               case ht => simp [h2, h3, h4, h6.1, h6.2]; exact Is.rfl)
            | apply WP.block
            | apply WP.skip
            | apply WP.exit
            | apply WP.ret)
          rw [show fitY a b = false by simp [fitY, h2, h3, h4, h5]]
          exact ⟨.inr rfl, _, _, rfl, rfl⟩
      · have h6 := bne_of h4
        repeat (first
          | apply WP.seq
          | (apply WP.reg
             case hR => dsimp only [prepL, prepO, List.map, List.getElem?_cons_succ, List.getElem?_cons_zero]; exact Is.rfl
             case hr =>
               repeat (first
                 | (apply RT.op (h := by simp [h2, h3, h4, h6.1, h6.2]; exact Is.rfl) (he := rfl))
                 | (apply RT.call (hg := by simp; exact Is.rfl) (hfo := by simp; exact Is.rfl) (hvs := by simp [h2, h3, h4, h6.1, h6.2]; exact Is.rfl) (hcl := by simp [h2, h3, h4, h6.1, h6.2]; exact Is.rfl) (hd := by simp [h2, h3, h4, h6.1, h6.2]; exact Is.rfl) (hwr := by simp [h2, h3, h4, h6.1, h6.2]; exact Is.rfl) (hlt := by simp [Is]) (he := rfl) (hh := by simp; exact Is.rfl) (hw := by simp; exact Is.rfl))
                 | (apply RT.callQ (hg := by simp; exact Is.rfl) (hfo := by simp; exact Is.rfl) (hvs := by simp [h2, h3, h4, h6.1, h6.2]; exact Is.rfl) (hcl := by simp [h2, h3, h4, h6.1, h6.2]; exact Is.rfl) (hd := by simp [h2, h3, h4, h6.1, h6.2]; exact Is.rfl) (he := rfl))
                 | (apply RT.wr (h := by simp [h2, h3, h4, h6.1, h6.2]; exact Is.rfl) (he := rfl) (hh := by simp [h2, h3, h4, h6.1, h6.2]; exact Is.rfl) (hn := by exact Is.rfl) (hc := by exact Is.rfl) (hw := by simp; exact Is.rfl)))
               exact RT.nil
             case hc => (show _ = _; kernel_rfl)
             case ht => simp [h2, h3, h4, h6.1, h6.2]; exact Is.rfl)
          | apply WP.block
          | apply WP.skip
          | apply WP.exit
          | apply WP.ret)
        rw [show fitY a b = false by simp [fitY, h2, h3, h4]]
        exact ⟨.inr rfl, _, _, rfl, rfl⟩
    · have h6 := bne_of h3
      repeat (first
        | apply WP.seq
        | (apply WP.reg
           case hR => dsimp only [prepL, prepO, List.map, List.getElem?_cons_succ, List.getElem?_cons_zero]; exact Is.rfl
           case hr =>
             repeat (first
               | (apply RT.op (h := by simp [h2, h3, h6.1, h6.2]; exact Is.rfl) (he := rfl))
               | (apply RT.call (hg := by simp; exact Is.rfl) (hfo := by simp; exact Is.rfl) (hvs := by simp [h2, h3, h6.1, h6.2]; exact Is.rfl) (hcl := by simp [h2, h3, h6.1, h6.2]; exact Is.rfl) (hd := by simp [h2, h3, h6.1, h6.2]; exact Is.rfl) (hwr := by simp [h2, h3, h6.1, h6.2]; exact Is.rfl) (hlt := by simp [Is]) (he := rfl) (hh := by simp; exact Is.rfl) (hw := by simp; exact Is.rfl))
               | (apply RT.callQ (hg := by simp; exact Is.rfl) (hfo := by simp; exact Is.rfl) (hvs := by simp [h2, h3, h6.1, h6.2]; exact Is.rfl) (hcl := by simp [h2, h3, h6.1, h6.2]; exact Is.rfl) (hd := by simp [h2, h3, h6.1, h6.2]; exact Is.rfl) (he := rfl))
               | (apply RT.wr (h := by simp [h2, h3, h6.1, h6.2]; exact Is.rfl) (he := rfl) (hh := by simp [h2, h3, h6.1, h6.2]; exact Is.rfl) (hn := by exact Is.rfl) (hc := by exact Is.rfl) (hw := by simp; exact Is.rfl)))
             exact RT.nil
           case hc => (show _ = _; kernel_rfl)
           case ht => simp [h2, h3, h6.1, h6.2]; exact Is.rfl)
        | apply WP.block
        | apply WP.skip
        | apply WP.exit
        | apply WP.ret)
      rw [show fitY a b = false by simp [fitY, h2, h3]]
      exact ⟨.inr rfl, _, _, rfl, rfl⟩
  · have h6 := bne_of h2
    repeat (first
      | apply WP.seq
      | (apply WP.reg
         case hR => dsimp only [prepL, prepO, List.map, List.getElem?_cons_succ, List.getElem?_cons_zero]; exact Is.rfl
         case hr =>
           repeat (first
             | (apply RT.op (h := by simp [h2, h6.1, h6.2]; exact Is.rfl) (he := rfl))
             | (apply RT.call (hg := by simp; exact Is.rfl) (hfo := by simp; exact Is.rfl) (hvs := by simp [h2, h6.1, h6.2]; exact Is.rfl) (hcl := by simp [h2, h6.1, h6.2]; exact Is.rfl) (hd := by simp [h2, h6.1, h6.2]; exact Is.rfl) (hwr := by simp [h2, h6.1, h6.2]; exact Is.rfl) (hlt := by simp [Is]) (he := rfl) (hh := by simp; exact Is.rfl) (hw := by simp; exact Is.rfl))
             | (apply RT.callQ (hg := by simp; exact Is.rfl) (hfo := by simp; exact Is.rfl) (hvs := by simp [h2, h6.1, h6.2]; exact Is.rfl) (hcl := by simp [h2, h6.1, h6.2]; exact Is.rfl) (hd := by simp [h2, h6.1, h6.2]; exact Is.rfl) (he := rfl))
             | (apply RT.wr (h := by simp [h2, h6.1, h6.2]; exact Is.rfl) (he := rfl) (hh := by simp [h2, h6.1, h6.2]; exact Is.rfl) (hn := by exact Is.rfl) (hc := by exact Is.rfl) (hw := by simp; exact Is.rfl)))
           exact RT.nil
         case hc => (show _ = _; kernel_rfl)
         case ht => simp [h2, h6.1, h6.2]; exact Is.rfl)
      | apply WP.block
      | apply WP.skip
      | apply WP.exit
      | apply WP.ret)
    rw [show fitY a b = false by simp [fitY, h2]]
    exact ⟨.inr rfl, _, _, rfl, rfl⟩

theorem fitR_eq (a b : Y) : fitR a b = fitY a b := by
  unfold fitR fitY
  cases h : (a.nm == b.nm) with
  | false => simp
  | true =>
    have : a.nm = b.nm := eq_of_beq h
    simp [this, asgY]

end Go.Ab
