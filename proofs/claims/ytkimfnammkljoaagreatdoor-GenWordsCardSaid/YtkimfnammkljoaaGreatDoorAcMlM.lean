/- The abstract machine: walking through a loop over a map, in any order. No conditions. -/
import Derived.Test.YtkimfnammkljoaaGreatDoorAcYM
import Derived.KernelRfl
set_option linter.unusedVariables false
set_option linter.unusedSimpArgs false
section
namespace Go.Ac
variable {P : Program} {cfg : Cfg} {fid : FuncId} {rid : Nat}

/-- A call that writes nothing of its caller's, and gives data. -/
def Quiet [Gl] (P : Program) (cfg : Cfg) (f : FuncId) (vs : List V) (hp : Hp) (n c : Nat) (x : D) : Prop := ∃ h' c', lim P cfg f vs hp n c = some ⟨.d x, h', n, c', []⟩

/-- What a body must come to for a quiet call. -/
def quietQ (P : Program) (fn : Func) (n : Nat) (x : D) (e : Ex) (t : St) : Prop :=
 (e = .normal ∨ e = .ret) ∧ t.wl = [] ∧ ∃ rs, resultsV P t fn.results.toList = some rs ∧ tup rs = .d x

theorem quiet_wp [Gl] {f : FuncId} {fn : Func} {body : Code} {vs : List V} {x : D} {hp : Hp} {n c : Nat} (hf : P.funcs[f]? = some fn) (hb : fn.body = some body) (hok : (Nat.ble vs.length fn.ntmps && codeOK fn.ntmps body) = true)
  (hthr : cfg.thr f = false) (h : WP P cfg f body ⟨envOf 0 vs, hp, n, c, n, []⟩ (quietQ P fn n x)) : Quiet P cfg f vs hp n c x := by
 obtain ⟨e, t, ⟨K, hK⟩, he, hwl, rs, hrs, hcl⟩ := h
 have hfin : finish (cfg.thr f) n t (tup rs) = some ⟨.d x, Hp.trunc n t.hp, n, t.c, []⟩ := by
  unfold finish
  rw [hthr, hcl]
  have : closeT t.hp.get (.d x) = some (.d x, []) := rfl
  simp only [Bool.false_eq_true, if_false, this, hwl]
  rw [if_pos]
  simp
 refine ⟨Hp.trunc n t.hp, t.c, lim_of ⟨K, fun k hk => ?_⟩⟩
 show callFn P cfg (execF P cfg k) f _ _ _ _ = _
 unfold callFn
 rw [hf]
 simp only [hb, hok]
 rw [show enter vs hp n c = ⟨envOf 0 vs, hp, n, c, n, []⟩ from rfl, hK k hk]
 rcases he with rfl | rfl <;> simp only [leave, hrs, hfin]

/-- A quiet call as a region's operation. -/
theorem RT.callQ [Gl] {fo : Operand} {args : Array Operand} {ts : Array TypeId} {dst : Option Nat} {g : Gd} {r : List PO} {e e' : Env} {hp h' : Hp} {n c c' n0 : Nat} {wl : List Nat} {f : FuncId} {caps vs : List V} {x : D} {t : St} {qs : List Tq}
  (hg : Is (wantedP e g) (some true)) (hfo : Is (evalV e fo) (.fn f caps)) (hpr : Is (cfg.prim f) none) (hvs : Is (args.toList.map (evalV e) ++ caps) vs) (hcl : Is (closeArgs (if cfg.thr f then noLook else hp.get) vs) none) (hd : Is (lim P cfg f vs hp n c) (some ⟨.d x, h', n, c', []⟩))
  (he : putEnv e dst (.d x) = e') (h' : RT P cfg fid rid r ⟨e', hp, n, c + (c' - c), n0, wl⟩ t qs) :
  RT P cfg fid rid (⟨.call ⟨.value fo, args, ts⟩, dst, g⟩ :: r) ⟨e, hp, n, c, n0, wl⟩ t (⟨[], [], true, c' - c⟩ :: qs) := by
 unfold Is at *
 have : callR cfg (lim P cfg) hp n c f vs = some ⟨.d x, [], [], 0, c' - c, true⟩ := by
  unfold callR
  rw [hcl]
  simp only [hd, Nat.sub_self, List.range_zero, List.map_nil, List.append_nil, wrOf]
 refine RT.wr (v := .d x) (wr := []) (dn := 0) (dc := c' - c) ?_ he rfl rfl rfl rfl h'
 show opP P cfg fid rid _ _ = _
 unfold opP
 simp only [hg]
 have h2 : opP0 P cfg fid rid ⟨.call ⟨.value fo, args, ts⟩, dst, g⟩ ⟨e, hp, n, c, n0, wl⟩ = some ⟨.d x, [], [], 0, c' - c, true⟩ := by
  simp only [opP0, hfo, hpr]
  rw [hvs, this]
 rw [h2]
 rfl

theorem Quiet.fn [Gl] {f : FuncId} {vs : List V} {hp : Hp} {n : Nat} {x : D} (h : ∀ c, Quiet P cfg f vs hp n c x) : ∃ (h' : Nat → Hp) (c' : Nat → Nat), ∀ c, lim P cfg f vs hp n c = some ⟨.d x, h' c, n, c' c, []⟩ := by
 obtain ⟨h1, h2⟩ := Classical.axiomOfChoice h
 obtain ⟨h3, h4⟩ := Classical.axiomOfChoice h2
 exact ⟨h1, h3, h4⟩

/-! ### The check of a region whose order is drawn, pair by pair -/

/-- The pairs that no edge binds. -/
def unord : List (List Nat) → Nat → List (Nat × Nat)
 | [], _ => []
 | a :: r, k => ((List.range k).filter fun i => !a.contains i).map (fun i => (i, k)) ++ unord r (k + 1)

def memA (a b : Tq) : Bool := disj a.wr (b.rd ++ b.wr) && disj b.wr a.rd && (!a.all || (b.wr.isEmpty && Nat.beq b.dc 0)) && (!b.all || (a.wr.isEmpty && Nat.beq a.dc 0))

def noTq : Tq := ⟨[], [], true, 1⟩

/-- A trace, its slots, what it has looked at. -/
def Alike3 (t t0 : Tr) (q : Tq) : Prop := t.sl = t0.sl ∧ t.ds = t0.ds ∧ t.rd = q.rd ∧ t.wr = q.wr ∧ t.all = q.all ∧ t.dc = q.dc

def Alikes3 : List Tr → List Tr → List Tq → Prop
 | [], [], [] => True
 | t :: r, t0 :: r0, q :: l => Alike3 t t0 q ∧ Alikes3 r r0 l
 | _, _, _ => False

theorem Alikes3.snoc : ∀ {r r0 : List Tr} {l : List Tq} {t t0 : Tr} {q : Tq}, Alikes3 r r0 l → Alike3 t t0 q → Alikes3 (r ++ [t]) (r0 ++ [t0]) (l ++ [q])
 | [], [], [], t, t0, q, _, h => ⟨h, trivial⟩
 | _ :: _, _ :: _, _ :: _, t, t0, q, h, h' => ⟨h.1, Alikes3.snoc h.2 h'⟩
 | [], [], _ :: _, _, _, _, h, _ => h.elim
 | [], _ :: _, _, _, _, _, h, _ => h.elim
 | _ :: _, [], _, _, _, _, h, _ => h.elim
 | _ :: _, _ :: _, [], _, _, _, h, _ => h.elim

theorem Alikes3.len : ∀ {r r0 : List Tr} {l : List Tq}, Alikes3 r r0 l → r.length = l.length
 | [], [], [], _ => rfl
 | _ :: _, _ :: _, _ :: _, h => by simp [Alikes3.len h.2]
 | [], [], _ :: _, h => h.elim
 | [], _ :: _, _, h => h.elim
 | _ :: _, [], _, h => h.elim
 | _ :: _, _ :: _, [], h => h.elim

theorem apartT_of {t t0 u u0 : Tr} {q p : Tq} (h : Alike3 t t0 q) (k : Alike3 u u0 p) (hs : slotsApart t0 u0 = true) (hm : memA q p = true) : apartT t u = true := by
 obtain ⟨a1, a2, a3, a4, a5, a6⟩ := h
 obtain ⟨b1, b2, b3, b4, b5, b6⟩ := k
 unfold memA at hm
 unfold slotsApart at hs
 unfold apartT
 rw [a1, a2, a3, a4, a5, a6, b1, b2, b3, b4, b5, b6]
 simp only [Bool.and_eq_true] at hm hs ⊢
 exact ⟨⟨⟨⟨⟨hm.1.1.1, hm.1.1.2⟩, hm.1.2⟩, hm.2⟩, hs.1⟩, hs.2⟩

theorem Alikes3.all {a : List Nat} {u u0 : Tr} {p : Tq} (hu : Alike3 u u0 p) : ∀ {r r0 : List Tr} {l : List Tq} {k : Nat}, Alikes3 r r0 l → ((r0.zipIdx k).all fun x => a.contains x.2 || slotsApart x.1 u0) = true →
  (∀ i q, l[i]? = some q → a.contains (k + i) = false → memA q p = true) → ((r.zipIdx k).all fun x => a.contains x.2 || apartT x.1 u) = true
 | [], [], [], k, _, _, _ => rfl
 | t :: r, t0 :: r0, q :: l, k, h, hs, hm => by
  simp only [List.zipIdx_cons, List.all_cons, Bool.and_eq_true] at hs ⊢
  refine ⟨?_, Alikes3.all hu h.2 hs.2 fun i q' hi hc => hm (i + 1) q' (by simpa using hi) (by rw [show k + (i + 1) = k + 1 + i by omega]; exact hc)⟩
  cases hc : a.contains k with
  | true => rfl
  | false =>
   rw [hc] at hs
   exact apartT_of h.1 hu hs.1 (hm 0 q rfl hc)
 | [], [], _ :: _, _, h, _, _ => h.elim
 | [], _ :: _, _, _, h, _, _ => h.elim
 | _ :: _, [], _, _, h, _, _ => h.elim
 | _ :: _, _ :: _, [], _, h, _, _ => h.elim

theorem checkQ_of {all : List Oper} : ∀ {l : List Oper} {ancs : List (List Nat)} {tr ts : List Tr} {past qs : List Tq}, Alikes3 tr ts past → stillCheck all l ancs ts = true → qs.length = l.length →
  (∀ p, p ∈ unord ancs tr.length → memA ((past ++ qs).getD p.1 noTq) ((past ++ qs).getD p.2 noTq) = true) → checkQ all l ancs tr qs = true
 | [], ancs, tr, ts, past, qs, h, hs, hl, hm => by
  cases qs with
  | nil =>
   cases ancs with
   | nil => rfl
   | cons a r => simp [stillCheck] at hs
  | cons q r => simp at hl
 | o :: r, ancs, tr, ts, past, qs, h, hs, hl, hm => by
  cases qs with
  | nil => simp at hl
  | cons q qs =>
   cases ancs with
   | nil => simp [stillCheck] at hs
   | cons a ancs =>
    simp only [stillCheck, Bool.and_eq_true] at hs
    simp only [checkQ, Bool.and_eq_true]
    have hlen := h.len
    have hal : Alike3 (trQ o all q) (stillTr o all) q := ⟨rfl, rfl, rfl, rfl, rfl, rfl⟩
    refine ⟨Alikes3.all (k := 0) hal h hs.1 fun i q' hi hc => ?_, checkQ_of (past := past ++ [q]) (h.snoc hal) hs.2 (by simpa using hl) fun p hp => ?_⟩
    ·have hi' : i < past.length := by rw [List.getElem?_eq_some_iff] at hi; exact hi.1
     have := hm (i, tr.length) (by
      simp only [unord, List.mem_append, List.mem_map, List.mem_filter, List.mem_range]
      exact .inl ⟨i, ⟨by omega, by rw [Nat.zero_add] at hc; rw [hc]; rfl⟩, rfl⟩)
     rw [hlen] at this
     simp only [List.getD_eq_getElem?_getD, List.getElem?_append_left hi', hi, Option.getD_some, List.getElem?_append_right (Nat.le_refl _), Nat.sub_self, List.getElem?_cons_zero] at this
     exact this
    ·have := hm p (by
      simp only [unord, List.mem_append]
      right
      simpa using hp)
     simpa using this

theorem checkR_un {ops : Array Oper} {qs : List Tq} (U : List (Nat × Nat)) (hs : stillOK ops true = true) (hU : unord (ancL ops.toList) 0 = U) (hl : qs.length = ops.toList.length)
  (hm : (U.all fun p => memA (qs.getD p.1 noTq) (qs.getD p.2 noTq)) = true) : Is (checkR ops true qs) true := by
 unfold stillOK at hs
 simp only [Bool.not_true, Bool.false_or, Bool.and_eq_true] at hs
 show checkR ops true qs = true
 unfold checkR
 simp only [Bool.not_true, Bool.false_or, Bool.and_eq_true]
 refine ⟨hs.1, checkQ_of (tr := []) (ts := []) (past := []) trivial hs.2 hl fun p hp => ?_⟩
 rw [List.all_eq_true] at hm
 rw [← hU] at hm
 exact hm p hp

/-! ### A call whose memory is taken over -/

theorem RT.callI [Gl] {fo : Operand} {args : Array Operand} {ts : Array TypeId} {dst : Option Nat} {g : Gd} {r : List PO} {e e' : Env} {hp : Hp} {n c n0 : Nat} {wl : List Nat} {f : FuncId} {caps vs ws : List V} {q : CR} {t : St} {qs : List Tq} {w : V} {wr : List (Nat × Ob)}
  (hg : Is (wantedP e g) (some true)) (hfo : Is (evalV e fo) (.fn f caps)) (hpr : Is (cfg.prim f) none) (hvs : Is (args.toList.map (evalV e) ++ caps) vs) (hcl : Is (closeArgs (if cfg.thr f then noLook else hp.get) vs) (some (ws, []))) (hd : lim P cfg f ws [] 0 0 = some q) (hne : closeT noLook q.v = none)
  (hw : shiftV n c q.v = w) (hwr : shiftH n c (wrOf q.hp.get (List.range q.n)) = wr) (he : putEnv e dst w = e') (hn0 : n0 ≤ n) (h' : RT P cfg fid rid r ⟨e', hp.sets wr, n + q.n, c + q.c, n0, wl⟩ t qs) :
  RT P cfg fid rid (⟨.call ⟨.value fo, args, ts⟩, dst, g⟩ :: r) ⟨e, hp, n, c, n0, wl⟩ t (⟨[], wr.map (·.1), false, q.c⟩ :: qs) := by
 unfold Is at *
 subst hw
 have hkeys : ∀ p, p ∈ wr → n ≤ p.1 ∧ p.1 < n + q.n := by
  intro p hp
  rw [← hwr] at hp
  unfold shiftH at hp
  rw [List.mem_map] at hp
  obtain ⟨x, hx, rfl⟩ := hp
  have : ∀ (ids : List Nat) (look : Look), x ∈ wrOf look ids → x.1 ∈ ids := by
   intro ids look
   induction ids with
   | nil => intro h; simp [wrOf] at h
   | cons a r ih =>
    intro h
    simp only [wrOf] at h
    split at h
    ·simp only [List.mem_cons] at h
     rcases h with rfl | h
     ·simp
     ·exact List.mem_cons_of_mem _ (ih h)
    ·exact List.mem_cons_of_mem _ (ih h)
  have := this _ _ hx
  rw [List.mem_range] at this
  exact ⟨Nat.le_add_left _ _, by simp only; omega⟩
 have hadd : ∀ (l : List (Nat × Ob)), (∀ p, p ∈ l → n ≤ p.1 ∧ p.1 < n + q.n) → addNew n0 wl l = wl := by
  intro l
  induction l with
  | nil => intro _; rfl
  | cons a r ih =>
   intro h
   obtain ⟨k, o⟩ := a
   have hk := (h (k, o) (List.mem_cons_self ..)).1
   have : Nat.blt k n0 = false := by
    cases hb : Nat.blt k n0 with
    | false => rfl
    | true => rw [Nat.blt_eq] at hb; simp only at hk; omega
   simp only [addNew, this]
   exact ih fun p hp => h p (List.mem_cons_of_mem _ hp)
 refine RT.wr (wr := wr) (dn := q.n) (dc := q.c) ?_ he rfl rfl rfl (hadd wr hkeys) h'
 show opP P cfg fid rid _ _ = _
 unfold opP
 simp only [hg]
 have : callR cfg (lim P cfg) hp n c f vs = some ⟨shiftV n c q.v, wr, [], q.n, q.c, false⟩ := by
  unfold callR
  rw [hcl]
  simp only [hd, hne, roOf, List.nil_append, hwr]
 have h2 : opP0 P cfg fid rid ⟨.call ⟨.value fo, args, ts⟩, dst, g⟩ ⟨e, hp, n, c, n0, wl⟩ = some ⟨shiftV n c q.v, wr, [], q.n, q.c, false⟩ := by
  simp only [opP0, hfo, hpr]
  rw [hvs, this]
 rw [h2]
 simp only
 rw [if_pos]
 rw [List.all_eq_true]
 intro p hp
 rw [Nat.blt_eq]
 exact (hkeys p hp).2

/-- A copy of a slice, as a region's operation. -/
theorem RT.clone [Gl] {fo : Operand} {args : Array Operand} {ts : Array TypeId} {dst : Option Nat} {g : Gd} {r : List PO} {e e' : Env} {hp hp' : Hp} {n c n0 : Nat} {wl wl' : List Nat} {f : FuncId} {caps : List V} {x : V} {sz by_ m : Nat} {xs : List V} {rx : List Nat} {t : St} {qs : List Tq}
  (hg : Is (wantedP e g) (some true)) (hfo : Is (evalV e fo) (.fn f caps)) (hpr : Is (cfg.prim f) (some (.std sz by_))) (hvs : Is (args.toList.map (evalV e) ++ caps) [x]) (hrows : Is (rowsOf hp.get sz x) (some (m, xs, rx))) (hfit : fitsB m by_ = true)
  (he : putEnv e dst (.osl n c 0 m sz none) = e') (hh : Is (hp.sets [(n, ⟨c, false, xs⟩)]) hp') (hw : Is (addNew n0 wl [(n, ⟨c, false, xs⟩)]) wl')
  (h' : RT P cfg fid rid r ⟨e', hp', n + 1, c + 1, n0, wl'⟩ t qs) :
  RT P cfg fid rid (⟨.call ⟨.value fo, args, ts⟩, dst, g⟩ :: r) ⟨e, hp, n, c, n0, wl⟩ t (⟨rx, [n], false, 1⟩ :: qs) := by
 unfold Is at *
 refine RT.wr (dn := 1) (dc := 1) (v := .osl n c 0 m sz none) (wr := [(n, ⟨c, false, xs⟩)]) ?_ he hh rfl rfl hw h'
 show opP P cfg fid rid _ _ = _
 unfold opP
 simp only [hg]
 have : opP0 P cfg fid rid ⟨.call ⟨.value fo, args, ts⟩, dst, g⟩ ⟨e, hp, n, c, n0, wl⟩ = some ⟨.osl n c 0 m sz none, [(n, ⟨c, false, xs⟩)], rx, 1, 1, false⟩ := by
  simp only [opP0, hfo, hpr]
  rw [hvs]
  simp only [primV, primS, cloneV, hrows, hfit]
 rw [this]
 simp

end Go.Ac
end

section
namespace Go.Ac
variable {P : Program} {cfg : Cfg}

theorem WP.gen [Gl] {fid : FuncId} {code : Code} {e : Env} {hp : Hp} {n c n0 : Nat} {wl : List Nat} {Q : Ex → St → Prop}
  (h : ∀ hp' wl', hp' = hp → wl' = wl → WP P cfg fid code ⟨e, hp', n, c, n0, wl'⟩ Q) : WP P cfg fid code ⟨e, hp, n, c, n0, wl⟩ Q := h hp wl rfl rfl

theorem WP.condT [Gl] {fid : FuncId} {s : St} {q : Operand} {a b : Code} {Q : Ex → St → Prop} (hq : evalV s.env q = .d (.bool true)) (h : WP P cfg fid a s Q) : WP P cfg fid (.cond q a b) s Q :=
 WP.cond true hq (fun _ => h) (fun h => by cases h)
theorem WP.condF [Gl] {fid : FuncId} {s : St} {q : Operand} {a b : Code} {Q : Ex → St → Prop} (hq : evalV s.env q = .d (.bool false)) (h : WP P cfg fid b s Q) : WP P cfg fid (.cond q a b) s Q :=
 WP.cond false hq (fun h => by cases h) (fun _ => h)

/-- A call of a function that is handed the memory: the memory is handed back. -/
theorem lim_wp [Gl] {f : FuncId} {fn : Func} {body : Code} {vs : List V} {hp : Hp} {n c : Nat} {Q : V → St → Prop} (hf : P.funcs[f]? = some fn) (hb : fn.body = some body) (hok : (Nat.ble vs.length fn.ntmps && codeOK fn.ntmps body) = true)
  (h : WP P cfg f body ⟨envOf 0 vs, hp, n, c, n, []⟩ (fun e t => (e = .normal ∨ e = .ret) ∧ ∃ rs, resultsV P t fn.results.toList = some rs ∧ (cfg.thr f = true ∨ closeT t.hp.get (tup rs) = none) ∧ Q (tup rs) t)) :
  ∃ v t, lim P cfg f vs hp n c = some ⟨v, t.hp, t.n, t.c, t.wl⟩ ∧ Q v t := by
 obtain ⟨e, t, ⟨K, hK⟩, he, rs, hrs, ht, hq⟩ := h
 have hfin : finish (cfg.thr f) n t (tup rs) = some ⟨tup rs, t.hp, t.n, t.c, t.wl⟩ := by
  unfold finish
  rcases ht with ht | ht
  ·rw [ht]; rfl
  ·cases hc : cfg.thr f with
   | true => rfl
   | false => simp only [Bool.false_eq_true, if_false, ht]
 refine ⟨tup rs, t, lim_of ⟨K, fun k hk => ?_⟩, hq⟩
 show callFn P cfg (execF P cfg k) f _ _ _ _ = _
 unfold callFn
 rw [hf]
 simp only [hb, hok]
 rw [show enter vs hp n c = ⟨envOf 0 vs, hp, n, c, n, []⟩ from rfl, hK k hk]
 rcases he with rfl | rfl <;> simp only [leave, hrs, hfin]

/-- The same: its own objects are let go, its result is data. -/
theorem lim_wpD [Gl] {f : FuncId} {fn : Func} {body : Code} {vs : List V} {hp : Hp} {n c : Nat} {Q : V → St → Prop} (hf : P.funcs[f]? = some fn) (hb : fn.body = some body) (hok : (Nat.ble vs.length fn.ntmps && codeOK fn.ntmps body) = true)
  (hthr : cfg.thr f = false) (h : WP P cfg f body ⟨envOf 0 vs, hp, n, c, n, []⟩ (fun e t => (e = .normal ∨ e = .ret) ∧ ∃ rs w ids, resultsV P t fn.results.toList = some rs ∧ closeT t.hp.get (tup rs) = some (w, ids) ∧ (w.flat || ids.all (fun i => Nat.ble n i)) = true ∧ Q w t)) :
  ∃ v t, lim P cfg f vs hp n c = some ⟨v, Hp.trunc n t.hp, n, t.c, t.wl⟩ ∧ Q v t := by
 obtain ⟨e, t, ⟨K, hK⟩, he, rs, w, ids, hrs, hcl, hfl, hq⟩ := h
 have hfin : finish (cfg.thr f) n t (tup rs) = some ⟨w, Hp.trunc n t.hp, n, t.c, t.wl⟩ := by
  unfold finish
  rw [hthr]
  simp only [Bool.false_eq_true, if_false, hcl, hfl, if_true]
 refine ⟨w, t, lim_of ⟨K, fun k hk => ?_⟩, hq⟩
 show callFn P cfg (execF P cfg k) f _ _ _ _ = _
 unfold callFn
 rw [hf]
 simp only [hb, hok]
 rw [show enter vs hp n c = ⟨envOf 0 vs, hp, n, c, n, []⟩ from rfl, hK k hk]
 rcases he with rfl | rfl <;> simp only [leave, hrs, hfin]

/-! ### What has been written -/
theorem mem_addNew {n0 j : Nat} : ∀ {wr : List (Nat × Ob)} {wl : List Nat}, j ∈ addNew n0 wl wr ↔ j ∈ wl ∨ (j < n0 ∧ j ∈ wr.map (·.1))
 | [], wl => by simp [addNew]
 | (k, o) :: r, wl => by
  simp only [addNew]
  cases hb : Nat.blt k n0 with
  | true =>
   have hk : k < n0 := by rw [Nat.blt_eq] at hb; exact hb
   cases ha : wl.any (Nat.beq k) with
   | true =>
    have hin : k ∈ wl := by
     rw [List.any_eq_true] at ha
     obtain ⟨x, hx, he⟩ := ha
     rw [Nat.eq_of_beq_eq_true he]; exact hx
    simp only [mem_addNew, List.map_cons, List.mem_cons]
    constructor
    ·rintro (h | ⟨h1, h2⟩)
     ·exact .inl h
     ·exact .inr ⟨h1, .inr h2⟩
    ·rintro (h | ⟨h1, rfl | h2⟩)
     ·exact .inl h
     ·exact .inl hin
     ·exact .inr ⟨h1, h2⟩
   | false =>
    simp only [mem_addNew, List.map_cons, List.mem_cons]
    constructor
    ·rintro ((rfl | h) | ⟨h1, h2⟩)
     ·exact .inr ⟨hk, .inl rfl⟩
     ·exact .inl h
     ·exact .inr ⟨h1, .inr h2⟩
    ·rintro (h | ⟨h1, rfl | h2⟩)
     ·exact .inl (.inr h)
     ·exact .inl (.inl rfl)
     ·exact .inr ⟨h1, h2⟩
  | false =>
   have hk : ¬ k < n0 := by intro h; rw [← Nat.blt_eq] at h; rw [hb] at h; cases h
   simp only [mem_addNew, List.map_cons, List.mem_cons]
   constructor
   ·rintro (h | ⟨h1, h2⟩)
    ·exact .inl h
    ·exact .inr ⟨h1, .inr h2⟩
   ·rintro (h | ⟨h1, rfl | h2⟩)
    ·exact .inl h
    ·exact absurd h1 hk
    ·exact .inr ⟨h1, h2⟩

theorem Hp.get_sets_ne : ∀ (wr : List (Nat × Ob)) (h : Hp) (j : Nat), (∀ p, p ∈ wr → p.1 ≠ j) → (Hp.sets h wr).get j = h.get j
 | [], h, j, _ => rfl
 | (k, o) :: r, h, j, hn => by
  simp only [Hp.sets]
  rw [Hp.get_sets_ne r _ j fun p hp => hn p (List.mem_cons_of_mem _ hp), Hp.get_set_ne _ _ _ _ (hn (k, o) (List.mem_cons_self ..))]

/-- Only what is named, or new, has been written; and that has been noted. -/
def WI (ids0 : List Nat) (n0 : Nat) (hp0 : Hp) (wl : List Nat) (hp : Hp) : Prop := (∀ j, j ∈ wl → j ∈ ids0) ∧ ∀ j, j < n0 → j ∉ wl → hp.get j = hp0.get j

theorem WI.refl {ids0 : List Nat} {n0 : Nat} {hp : Hp} : WI ids0 n0 hp [] hp := ⟨fun j h => by simp at h, fun _ _ _ => rfl⟩
theorem WI.sets {ids0 : List Nat} {n0 : Nat} {hp0 hp : Hp} {wl : List Nat} (h : WI ids0 n0 hp0 wl hp) {wr : List (Nat × Ob)} (hw : ∀ p, p ∈ wr → p.1 ∈ ids0 ∨ n0 ≤ p.1) : WI ids0 n0 hp0 (addNew n0 wl wr) (hp.sets wr) := by
 refine ⟨fun j hj => ?_, fun j hj hn => ?_⟩
 ·rcases mem_addNew.1 hj with h1 | ⟨h1, h2⟩
  ·exact h.1 j h1
  ·obtain ⟨p, hp, rfl⟩ := List.mem_map.1 h2
   exact (hw p hp).resolve_right (by omega)
 ·rw [Hp.get_sets_ne]
  ·exact h.2 j hj fun h1 => hn (mem_addNew.2 (.inl h1))
  ·intro p hp he
   exact hn (mem_addNew.2 (.inr ⟨hj, List.mem_map.2 ⟨p, hp, he⟩⟩))
theorem WI.set {ids0 : List Nat} {n0 : Nat} {hp0 hp : Hp} {wl : List Nat} (h : WI ids0 n0 hp0 wl hp) {k : Nat} {o : Ob} (hk : k ∈ ids0 ∨ n0 ≤ k) : WI ids0 n0 hp0 (addNew n0 wl [(k, o)]) (hp.set k o) :=
 h.sets (wr := [(k, o)]) fun p hp => by rw [List.mem_singleton] at hp; subst hp; exact hk
theorem WI.frame {ids0 : List Nat} {n0 : Nat} {hp0 hp : Hp} {wl : List Nat} (h : WI ids0 n0 hp0 wl hp) {j : Nat} (hj : j < n0) (hn : j ∉ ids0) : hp.get j = hp0.get j := h.2 j hj fun hw => hn (h.1 j hw)
theorem WI.mono {ids0 ids1 : List Nat} {n0 : Nat} {hp0 hp : Hp} {wl : List Nat} (h : WI ids0 n0 hp0 wl hp) (hs : ∀ j, j ∈ ids0 → j ∈ ids1) : WI ids1 n0 hp0 wl hp := ⟨fun j hj => hs j (h.1 j hj), h.2⟩
theorem WI.trunc {ids0 : List Nat} {n0 m : Nat} {hp0 hp : Hp} {wl : List Nat} (h : WI ids0 n0 hp0 wl hp) (hm : n0 ≤ m) : WI ids0 n0 hp0 wl (Hp.trunc m hp) :=
 ⟨h.1, fun j hj hn => by rw [Hp.get_trunc _ _ _ (by omega)]; exact h.2 j hj hn⟩

/-- What a caller writes of what a callee has written. -/
def tWr (r : CR) (n : Nat) : List (Nat × Ob) := wrOf r.hp.get (r.wl ++ (List.range (r.n - n)).map (n + ·))

section
variable {hp0 : Hp} {n0 : Nat} {ids0 : List Nat} {r : CR}

end

/-- A call that is handed objects, as a region's operation. -/
theorem RT.callT [Gl] {fid : FuncId} {rid : Nat} {fo : Operand} {args : Array Operand} {ts : Array TypeId} {dst : Option Nat} {g : Gd} {r : List PO} {e e' : Env} {hp : Hp} {n c n0 : Nat} {wl : List Nat} {f : FuncId} {caps vs : List V} {q : CR} {t : St} {qs : List Tq}
  (hg : Is (wantedP e g) (some true)) (hfo : Is (evalV e fo) (.fn f caps)) (hpr : Is (cfg.prim f) none) (hvs : Is (args.toList.map (evalV e) ++ caps) vs) (hcl : Is (closeArgs (if cfg.thr f then noLook else hp.get) vs) none) (hd : lim P cfg f vs hp n c = some q)
  (hk : ∀ k, k ∈ (tWr q n).map (·.1) → k < n + (q.n - n)) (he : putEnv e dst q.v = e') (h' : RT P cfg fid rid r ⟨e', hp.sets (tWr q n), n + (q.n - n), c + (q.c - c), n0, addNew n0 wl (tWr q n)⟩ t qs) :
  RT P cfg fid rid (⟨.call ⟨.value fo, args, ts⟩, dst, g⟩ :: r) ⟨e, hp, n, c, n0, wl⟩ t (⟨[], (tWr q n).map (·.1), true, q.c - c⟩ :: qs) := by
 unfold Is at *
 have : callR cfg (lim P cfg) hp n c f vs = some ⟨q.v, tWr q n, [], q.n - n, q.c - c, true⟩ := by
  unfold callR
  rw [hcl]
  simp only [hd]
  rfl
 refine RT.wr (wr := tWr q n) (dn := q.n - n) (dc := q.c - c) ?_ he rfl rfl rfl rfl h'
 show opP P cfg fid rid _ _ = _
 unfold opP
 simp only [hg]
 have h2 : opP0 P cfg fid rid ⟨.call ⟨.value fo, args, ts⟩, dst, g⟩ ⟨e, hp, n, c, n0, wl⟩ = some ⟨q.v, tWr q n, [], q.n - n, q.c - c, true⟩ := by
  simp only [opP0, hfo, hpr]
  rw [hvs, this]
 rw [h2]
 simp only
 rw [if_pos]
 rw [List.all_eq_true]
 intro p hp
 rw [Nat.blt_eq]
 exact hk p.1 (List.mem_map.2 ⟨p, hp, rfl⟩)

end Go.Ac
end

section
namespace Go.Ac
variable {P : Program} {cfg : Cfg}

/-- The operations that lie before: a number's bits. -/
def ancM (all : List Oper) : List Nat :=
 all.foldl (fun acc o => acc ++ [o.after.toList.foldl (fun s e => if Region.binds .any e then s ||| ((1 <<< e.on) ||| acc.getD e.on 0) else s) 0]) []

def MaskOK (m : List Nat) (a : List (List Nat)) : Prop := m.length = a.length ∧ ∀ j i, (m.getD j 0).testBit i = true → (a.getD j []).contains i = true

theorem fold_mask {acc : List Nat} {anc : List (List Nat)} (h : MaskOK acc anc) : ∀ (l : List Edge) (s : Nat) (t : List Nat), (∀ i, s.testBit i = true → t.contains i = true) →
  ∀ i, (l.foldl (fun s e => if Region.binds .any e then s ||| ((1 <<< e.on) ||| acc.getD e.on 0) else s) s).testBit i = true → (l.foldl (fun s e => if Region.binds .any e then e.on :: (anc.getD e.on [] ++ s) else s) t).contains i = true
 | [], s, t, hs, i, hi => hs i hi
 | e :: l, s, t, hs, i, hi => by
  simp only [List.foldl_cons] at hi ⊢
  refine fold_mask h l _ _ (fun i hi => ?_) i hi
  by_cases hb : Region.binds .any e = true
  ·rw [if_pos hb] at hi ⊢
   rw [Nat.testBit_or, Nat.testBit_or, Bool.or_eq_true, Bool.or_eq_true] at hi
   rw [List.contains_cons, Bool.or_eq_true, List.contains_eq_mem]
   rcases hi with hi | hi | hi
   ·right
    have := hs i hi
    rw [List.contains_eq_mem] at this
    rw [decide_eq_true_eq] at this ⊢
    exact List.mem_append_right _ this
   ·left
    rw [Nat.shiftLeft_eq, Nat.one_mul, Nat.testBit_two_pow] at hi
    simp only [decide_eq_true_eq] at hi
    subst hi
    exact beq_self_eq_true _
   ·right
    have := h.2 e.on i hi
    rw [List.contains_eq_mem] at this
    rw [decide_eq_true_eq] at this ⊢
    exact List.mem_append_left _ this
  ·rw [if_neg hb] at hi ⊢
   exact hs i hi

theorem MaskOK.snoc {m : List Nat} {a : List (List Nat)} {x : Nat} {y : List Nat} (h : MaskOK m a) (hx : ∀ i, x.testBit i = true → y.contains i = true) : MaskOK (m ++ [x]) (a ++ [y]) := by
 refine ⟨by simp [h.1], fun j i hj => ?_⟩
 rw [List.getD_eq_getElem?_getD] at hj ⊢
 by_cases h1 : j < m.length
 ·rw [List.getElem?_append_left h1] at hj
  rw [List.getElem?_append_left (by rw [← h.1]; exact h1), ← List.getD_eq_getElem?_getD]
  exact h.2 j i (by rw [List.getD_eq_getElem?_getD]; exact hj)
 ·rw [List.getElem?_append_right (by omega)] at hj
  rw [List.getElem?_append_right (by rw [← h.1]; omega), ← h.1]
  cases hk : j - m.length with
  | zero => rw [hk] at hj; exact hx i hj
  | succ k => rw [hk] at hj; simp at hj

theorem ancM_gen : ∀ (l : List Oper) (m : List Nat) (a : List (List Nat)), MaskOK m a →
  MaskOK (l.foldl (fun acc o => acc ++ [o.after.toList.foldl (fun s e => if Region.binds .any e then s ||| ((1 <<< e.on) ||| acc.getD e.on 0) else s) 0]) m)
   (l.foldl (fun acc o => acc ++ [o.after.toList.foldl (fun s e => if Region.binds .any e then e.on :: (acc.getD e.on [] ++ s) else s) []]) a)
 | [], m, a, h => h
 | o :: l, m, a, h => by
  simp only [List.foldl_cons]
  exact ancM_gen l _ _ (h.snoc fun i hi => fold_mask h o.after.toList 0 [] (fun i hi => by simp at hi) i hi)

theorem ancM_ok0 (all : List Oper) : MaskOK (ancM all) (anc all) := ancM_gen all [] [] ⟨rfl, fun j i h => by simp at h⟩
def ancLM (all : List Oper) : List Nat := match lateOK all with
 | true => (ancM all).set (all.length - 2) (2 ^ (all.length - 2) - 1)
 | false => ancM all
theorem ancM_ok (all : List Oper) : MaskOK (ancLM all) (ancL all) := by
 have h := ancM_ok0 all
 unfold ancLM ancL
 cases lateOK all with
 | true =>
  simp only
  refine ⟨by simp [h.1], fun j i hj => ?_⟩
  rw [List.getD_eq_getElem?_getD, List.getElem?_set] at hj ⊢
  by_cases hk : all.length - 2 = j
  ·rw [if_pos hk] at hj ⊢
   by_cases hl : all.length - 2 < (ancM all).length
   ·rw [if_pos hl] at hj
    rw [if_pos (by rw [← h.1]; exact hl)]
    simp only [Option.getD_some] at hj ⊢
    rw [Nat.testBit_two_pow_sub_one] at hj
    simpa using hj
   ·rw [if_neg hl] at hj
    simp at hj
  ·rw [if_neg hk] at hj ⊢
   rw [← List.getD_eq_getElem?_getD] at hj ⊢
   exact h.2 j i hj
 | false => exact h

def stillCheckM (all : List Oper) : List Oper → List Nat → List Tr → Bool
 | o :: r, m :: ms, tr => (tr.zipIdx.all fun p => m.testBit p.2 || slotsApart p.1 (stillTr o all)) && stillCheckM all r ms (tr ++ [stillTr o all])
 | [], [], _ => true
 | _, _, _ => false

def unordM : List Nat → Nat → List (Nat × Nat)
 | [], _ => []
 | m :: r, k => ((List.range k).filter fun i => !m.testBit i).map (fun i => (i, k)) ++ unordM r (k + 1)

theorem stillCheckM_ok {all : List Oper} : ∀ {l : List Oper} {m : List Nat} {a : List (List Nat)} {tr : List Tr}, MaskOK m a → stillCheckM all l m tr = true → stillCheck all l a tr = true
 | [], [], [], tr, h, hs => rfl
 | [], _ :: _, a, tr, h, hs => by simp [stillCheckM] at hs
 | [], [], x :: a, tr, h, hs => by have := h.1; simp at this
 | o :: l, [], a, tr, h, hs => by simp [stillCheckM] at hs
 | o :: l, x :: m, [], tr, h, hs => by have := h.1; simp at this
 | o :: l, x :: m, y :: a, tr, h, hs => by
  simp only [stillCheckM, Bool.and_eq_true] at hs
  simp only [stillCheck, Bool.and_eq_true]
  refine ⟨?_, stillCheckM_ok ⟨by have := h.1; simpa using this, fun j i hj => h.2 (j + 1) i hj⟩ hs.2⟩
  rw [List.all_eq_true] at hs ⊢
  intro p hp
  have := hs.1 p hp
  rw [Bool.or_eq_true] at this ⊢
  exact this.imp (fun h1 => h.2 0 p.2 h1) id

theorem unordM_mem : ∀ {m : List Nat} {a : List (List Nat)} {k : Nat} {p : Nat × Nat}, MaskOK m a → p ∈ unord a k → p ∈ unordM m k
 | [], [], k, p, h, hp => by simp [unord] at hp
 | x :: m, [], k, p, h, hp => by simp [unord] at hp
 | [], y :: a, k, p, h, hp => by have := h.1; simp at this
 | x :: m, y :: a, k, p, h, hp => by
  simp only [unord, unordM, List.mem_append, List.mem_map, List.mem_filter] at hp ⊢
  rcases hp with ⟨i, ⟨h1, h2⟩, h3⟩ | hp
  ·refine .inl ⟨i, ⟨h1, ?_⟩, h3⟩
   cases hb : x.testBit i with
   | false => rfl
   | true =>
    have := h.2 0 i hb
    rw [show (y :: a).getD 0 [] = y from rfl] at this
    rw [this] at h2; simp at h2
  ·exact .inr (unordM_mem ⟨by have := h.1; simpa using this, fun j i hj => h.2 (j + 1) i hj⟩ hp)

/-- What can be told of a drawn region beforehand; then over what it has looked at and written. -/
def stillM (all : List Oper) : Bool := orderOK all && stillCheckM all all (ancLM all) []
def checkM (ops : Array Oper) (draw : Bool) (qs : List Tq) : Bool := match draw with
 | false => true
 | true => stillM ops.toList && (unordM (ancLM ops.toList) 0).all fun p => memA (qs.getD p.1 noTq) (qs.getD p.2 noTq)

theorem checkM_ok {ops : Array Oper} {draw : Bool} {qs : List Tq} (hl : qs.length = ops.toList.length) (h : checkM ops draw qs = true) : Is (checkR ops draw qs) true := by
 cases draw with
 | false => rfl
 | true =>
  simp only [checkM, stillM, Bool.and_eq_true] at h
  obtain ⟨⟨h1, h2⟩, h3⟩ := h
  have hok := ancM_ok ops.toList
  refine checkR_un _ (by unfold stillOK; rw [h1, stillCheckM_ok hok h2]; rfl) rfl hl ?_
  rw [List.all_eq_true] at h3 ⊢
  exact fun p hp => h3 p (unordM_mem hok hp)

/-! ### The run -/
def runT [Gl] (P : Program) (cfg : Cfg) (call : CallF) (fid rid : Nat) (all : List Oper) : List Oper → St → Option (St × List Tq)
 | [], s => some (s, [])
 | o :: r, s => match opW P cfg fid rid call all o s with
  | some q => match runT P cfg call fid rid all r (s.put o.dst q) with
   | some (t, qs) => some (t, Tq.of q :: qs)
   | none => none
  | none => none

def execT [Gl] (P : Program) (cfg : Cfg) : Nat → FuncId → Code → St → Option (Ex × St)
 | 0, _, _, _ => none
 | k + 1, fid, c, s =>
  match c with
  | .skip => some (.normal, s)
  | .ret => some (.ret, s)
  | .exit id => some (.exit id, s)
  | .seq a b => match execT P cfg k fid a s with
   | some (.normal, s) => execT P cfg k fid b s
   | r => r
  | .cond q a b => match evalV s.env q with
   | .d (.bool true) => execT P cfg k fid a s
   | .d (.bool false) => execT P cfg k fid b s
   | _ => none
  | .block id b => match execT P cfg k fid b s with
   | some (.exit i, s) => match Nat.beq i id with | true => some (.normal, s) | false => some (.exit i, s)
   | r => r
  | .loop b => match execT P cfg k fid b s with
   | some (.normal, t) => execT P cfg k fid (.loop b) (match cfg.own fid with | true => t | false => { t with hp := Hp.trunc s.n t.hp, n := s.n })
   | r => r
  | .region id ops draw => match runT P cfg (callBy P cfg (execT P cfg k)) fid id ops.toList ops.toList s with
   | some (t, qs) => match checkM ops draw qs with
    | true => some (.normal, keepSt (mats t (cfg.mat fid id)) (cfg.keep fid id))
    | false => none
   | none => none
  | .rangeFunc g ps asg body => rangeR (callBy P cfg (execT P cfg k)) fid (evalV s.env g) ps.toList asg body s
  | _ => none

def callT [Gl] (P : Program) (cfg : Cfg) (k : Nat) : CallF := callBy P cfg (execT P cfg k)

/-- A way of calling that gives no more than the machine does. -/
structure Under [Gl] (P : Program) (cfg : Cfg) (call : CallF) : Prop where
 fn : ∀ f vs hp n c r, call f vs hp n c = some r → lim P cfg f vs hp n c = some r
 yd : ∀ id g vs hp n c r, call.yd id g vs hp n c = some r → (lim P cfg).yd id g vs hp n c = some r

theorem callR_under [Gl] {call : CallF} (hc : Under P cfg call) {hp : Hp} {n c : Nat} {f : FuncId} {vs : List V} {r : Res} (h : callR cfg call hp n c f vs = some r) : callR cfg (lim P cfg) hp n c f vs = some r := by
 unfold callR at h ⊢
 split at h
 ·rename_i ws ids hcl
  split at h
  ·rename_i r0 hr0
   simp only [hc.fn _ _ _ _ _ _ hr0]
   exact h
  ·simp at h
 ·rename_i hcl
  split at h
  ·rename_i r0 hr0
   simp only [hc.fn _ _ _ _ _ _ hr0]
   exact h
  ·simp at h

theorem opW_under [Gl] {call : CallF} (hc : Under P cfg call) {fid rid : Nat} {all : List Oper} {o : Oper} {s : St} {r : Res} (h : opW P cfg fid rid call all o s = some r) : opW P cfg fid rid (lim P cfg) all o s = some r := by
 unfold opW at h ⊢
 split at h
 ·split at h
  ·rename_i q hq
   have : opR P cfg fid rid (lim P cfg) o s = some q := by
    unfold opR at hq ⊢
    split at hq
    ·rename_i fo args ts ho
     split at hq
     ·rename_i f caps hf
      split at hq
      ·exact hq
      ·exact callR_under hc hq
     ·unfold yieldR at hq ⊢
      split at hq
      ·rename_i r0 hr0
       simp only [hc.yd _ _ _ _ _ _ _ hr0]
       exact hq
      ·simp at hq
     ·exact callR_under hc hq
     ·simp at hq
    ·unfold invokeR at hq ⊢
     split at hq
     ·split at hq
      ·rename_i hm
       split at hq
       ·rename_i q0 hq0
        rw [callR_under hc hq0]
        exact hq
       ·simp at hq
      ·simp at hq
     ·simp at hq
    ·exact hq
   rw [this]
   exact h
  ·simp at h
 ·exact h
 ·simp at h

theorem runT_RT [Gl] {call : CallF} (hc : Under P cfg call) {fid rid : Nat} {all : List Oper} : ∀ {l : List Oper} {s t : St} {qs : List Tq}, runT P cfg call fid rid all l s = some (t, qs) → RT P cfg fid rid (l.map (prepO all)) s t qs ∧ qs.length = l.length
 | [], s, t, qs, h => by simp only [runT, Option.some.injEq, Prod.mk.injEq] at h; obtain ⟨rfl, rfl⟩ := h; exact ⟨.nil, rfl⟩
 | o :: r, s, t, qs, h => by
  simp only [runT] at h
  split at h
  ·rename_i q hq
   split at h
   ·rename_i t' qs' hr
    simp only [Option.some.injEq, Prod.mk.injEq] at h; obtain ⟨rfl, rfl⟩ := h
    obtain ⟨h1, h2⟩ := runT_RT hc hr
    exact ⟨.cons (by rw [opP_eq]; exact opW_under hc hq) h1, by simp [h2]⟩
   ·simp at h
  ·simp at h

theorem runD_under [Gl] {run : FuncId → Code → St → Option (Ex × St)} (hr : ∀ f c s e t, run f c s = some (e, t) → Runs P cfg f c s e t) {f : FuncId} : ∀ {c : Code} {s : St} {q : Ex × St × Option (FuncId × List V)}, runD P cfg run f c s = some q → ∃ K, ∀ k, K ≤ k → runD P cfg (execF P cfg k) f c s = some q := by
 intro c
 induction c with
 | seq a b iha ihb =>
  intro s q h
  simp only [runD] at h
  split at h
  ·rename_i hd
   split at h
   ·rename_i s1 h1
    split at h
    ·rename_i hfo
     split at h
     ·rename_i e2 s2 h2
      obtain ⟨K, hK⟩ := hr _ _ _ _ _ h2
      refine ⟨K, fun k hk => ?_⟩
      simp only [runD, hd, h1, hfo, hK k hk]
      exact h
     ·simp at h
    ·simp at h
   ·simp at h
  ·rename_i hd
   split at h
   ·rename_i s1 h1
    obtain ⟨K1, k1⟩ := hr _ _ _ _ _ h1
    obtain ⟨K2, k2⟩ := ihb h
    refine ⟨max K1 K2, fun k hk => ?_⟩
    simp only [runD, hd, k1 k (Nat.le_trans (Nat.le_max_left _ _) hk)]
    exact k2 k (Nat.le_trans (Nat.le_max_right _ _) hk)
   ·rename_i e1 s1 hne h1
    obtain ⟨K1, k1⟩ := hr _ _ _ _ _ h1
    refine ⟨K1, fun k hk => ?_⟩
    simp only [runD, hd, k1 k hk]
    cases e1 with
    | normal => exact absurd rfl hne
    | exit i => exact h
    | ret => exact h
   ·simp at h
 | _ => intro s q h; simp [runD] at h

theorem defF_under [Gl] {run : FuncId → Code → St → Option (Ex × St)} (hr : ∀ f c s e t, run f c s = some (e, t) → Runs P cfg f c s e t) {g : FuncId} {caps : List V} {s s' : St} (h : defF P cfg run g caps s = some s') : ∃ K, ∀ k, K ≤ k → defF P cfg (execF P cfg k) g caps s = some s' := by
 unfold defF at h
 split at h
 ·rename_i gn h1
  split at h
  ·rename_i gb h2
   split at h
   ·rename_i id ops rest h3
    split at h
    ·rename_i h4
     split at h
     ·rename_i t1 h5
      cases h6 : run g rest t1 with
      | none => rw [h6] at h; simp at h
      | some q =>
       obtain ⟨e, t⟩ := q
       obtain ⟨K, hK⟩ := hr _ _ _ _ _ h6
       refine ⟨K, fun k hk => ?_⟩
       rw [h6] at h
       unfold defF
       simp only [h1, h2, h3, h4, h5, hK k hk]
       exact h
     ·simp at h
    ·simp at h
   ·simp at h
  ·simp at h
 ·simp at h

theorem callDf_under [Gl] {run : FuncId → Code → St → Option (Ex × St)} (hr : ∀ f c s e t, run f c s = some (e, t) → Runs P cfg f c s e t) {f : FuncId} {fn : Func} {body : Code} {vs : List V} {hp : Hp} {n c : Nat} {r : CR} (h : callDf P cfg run f fn body vs hp n c = some r) :
  ∃ K, ∀ k, K ≤ k → callDf P cfg (execF P cfg k) f fn body vs hp n c = some r := by
 unfold callDf at h
 split at h
 ·rename_i hok
  split at h
  ·rename_i e s hd
   obtain ⟨K, hK⟩ := runD_under hr hd
   refine ⟨K, fun k hk => ?_⟩
   unfold callDf
   simp only [hok, hK k hk]
   exact h
  ·rename_i e s g caps hd
   obtain ⟨K1, k1⟩ := runD_under hr hd
   have key : ∀ s', defF P cfg run g caps s = some s' → ∃ K, ∀ k, K ≤ k → defF P cfg (execF P cfg k) g caps s = some s' := fun s' h => defF_under hr h
   cases hdf : defF P cfg run g caps s with
   | none => rw [hdf] at h; cases e <;> simp at h
   | some s' =>
    obtain ⟨K2, k2⟩ := key s' hdf
    refine ⟨max K1 K2, fun k hk => ?_⟩
    unfold callDf
    simp only [hok, k1 k (Nat.le_trans (Nat.le_max_left _ _) hk), k2 k (Nat.le_trans (Nat.le_max_right _ _) hk)]
    rw [hdf] at h
    exact h
  ·simp at h
 ·simp at h

theorem callFn_under [Gl] {run : FuncId → Code → St → Option (Ex × St)} (hr : ∀ f c s e t, run f c s = some (e, t) → Runs P cfg f c s e t) {f : FuncId} {vs : List V} {hp : Hp} {n c : Nat} {r : CR} (h : callFn P cfg run f vs hp n c = some r) : lim P cfg f vs hp n c = some r := by
 unfold callFn at h
 split at h
 ·rename_i fn hf
  split at h
  ·rename_i body hb
   split at h
   ·rename_i hok
    cases hrun : run f body (enter vs hp n c) with
    | none => rw [hrun] at h; simp [leave] at h
    | some q =>
     obtain ⟨e, t⟩ := q
     obtain ⟨K, hK⟩ := hr _ _ _ _ _ hrun
     rw [hrun] at h
     refine lim_of ⟨K, fun k hk => ?_⟩
     show callFn P cfg (execF P cfg k) f _ _ _ _ = _
     unfold callFn
     rw [hf]
     simp only [hb, hok, hK k hk]
     exact h
   ·rename_i hok
    obtain ⟨K, hK⟩ := callDf_under hr h
    refine lim_of ⟨K, fun k hk => ?_⟩
    show callFn P cfg (execF P cfg k) f _ _ _ _ = _
    unfold callFn
    rw [hf]
    simp only [hb, hok]
    exact hK k hk
  ·simp at h
 ·simp at h

theorem callYd_under [Gl] {run : FuncId → Code → St → Option (Ex × St)} (hr : ∀ f c s e t, run f c s = some (e, t) → Runs P cfg f c s e t) {id g : Nat} {vs : List V} {hp : Hp} {n c : Nat} {r : CR} (h : callYd run id g vs hp n c = some r) : (lim P cfg).yd id g vs hp n c = some r := by
 obtain ⟨g0, fid, env, ps, asg, body, s1, g1, fid1, env1, ps1, asg1, body1, e, s2, g2, fid2, env2, ps2, asg2, body2, h1, h2, h3, h4, h5, h6, rfl⟩ := callYd_inv h
 obtain ⟨K1, k1⟩ := hr _ _ _ _ _ h3
 obtain ⟨K2, k2⟩ := hr _ _ _ _ _ h5
 exact limY_of ⟨max K1 K2, fun k hk => callYd_of h1 h2 (k1 k (Nat.le_trans (Nat.le_max_left _ _) hk)) h4 (k2 k (Nat.le_trans (Nat.le_max_right _ _) hk)) h6⟩

theorem callBy_under [Gl] {run : FuncId → Code → St → Option (Ex × St)} (hr : ∀ f c s e t, run f c s = some (e, t) → Runs P cfg f c s e t) : Under P cfg (callBy P cfg run) :=
 ⟨fun _ _ _ _ _ _ h => callFn_under hr h, fun _ _ _ _ _ _ _ h => callYd_under hr h⟩

theorem rangeR_of {call : CallF} {fid : Nat} {f : FuncId} {caps : List V} {ps : List Nat} {asg body : Code} {s : St} {r : CR} (h : call.fn f (.yd s.n s.c :: caps) (s.hp.set s.n ⟨s.c, false, [.lp 0 none fid s.env ps asg body]⟩) (s.n + 1) (s.c + 1) = some r) :
  rangeR call fid (.fn f caps) ps asg body s = afterRange s r := by
 unfold rangeR
 simp only [h]

theorem range_runs [Gl] {call : CallF} (hc : Under P cfg call) {fid : FuncId} {g : Operand} {ps : Array Tmp} {asg body : Code} {s t : St} {e : Ex} (h : rangeR call fid (evalV s.env g) ps.toList asg body s = some (e, t)) : Runs P cfg fid (.rangeFunc g ps asg body) s e t := by
 obtain ⟨f, caps, r, g0, st, pend, fid', env', ps', asg', body', hg, hcall, _⟩ := rangeR_inv h
 obtain ⟨K, hK⟩ := lim_some (hc.fn _ _ _ _ _ _ hcall)
 refine ⟨K + 1, fun k hk => ?_⟩
 obtain ⟨k, rfl⟩ : ∃ j, k = j + 1 := ⟨k - 1, by omega⟩
 simp only [execF]
 rw [hg] at h ⊢
 rw [rangeR_of hcall] at h
 exact (rangeR_of (hK k (by omega))).trans h

theorem execT_runs [Gl] : ∀ (k : Nat) (fid : FuncId) (c : Code) (s : St) (e : Ex) (t : St), execT P cfg k fid c s = some (e, t) → Runs P cfg fid c s e t
 | 0, fid, c, s, e, t, h => by simp [execT] at h
 | k + 1, fid, c, s, e, t, h => by
  have ih := execT_runs k
  cases c with
  | skip => simp [execT] at h; obtain ⟨rfl, rfl⟩ := h; exact .skip
  | ret => simp [execT] at h; obtain ⟨rfl, rfl⟩ := h; exact .ret
  | exit id => simp [execT] at h; obtain ⟨rfl, rfl⟩ := h; exact .exit
  | seq a b =>
   simp only [execT] at h
   split at h
   ·rename_i s' ha
    exact (ih _ _ _ _ _ ha).seq (ih _ _ _ _ _ h)
   ·rename_i hn
    exact (ih _ _ _ _ _ h).seq_out (by rintro rfl; exact hn _ h)
  | cond q a b =>
   simp only [execT] at h
   split at h
   ·rename_i hq; exact .cond_true hq (ih _ _ _ _ _ h)
   ·rename_i hq; exact .cond_false hq (ih _ _ _ _ _ h)
   ·simp at h
  | block id b =>
   simp only [execT] at h
   split at h
   ·rename_i i s' hb
    split at h
    ·rename_i hi
     have := Nat.eq_of_beq_eq_true hi
     subst this
     simp at h; obtain ⟨rfl, rfl⟩ := h
     exact .block_exit (ih _ _ _ _ _ hb)
    ·rename_i hi
     simp at h; obtain ⟨rfl, rfl⟩ := h
     exact .block_other (ih _ _ _ _ _ hb) (by rintro rfl; simp at hi)
   ·rename_i hn
    exact .block (ih _ _ _ _ _ h) (by rintro j rfl; exact hn _ _ h)
  | loop b =>
   simp only [execT] at h
   split at h
   ·rename_i t' hb
    refine .round (ih _ _ _ _ _ hb) ?_
    have := ih _ _ _ _ _ h
    unfold cut
    cases ho : cfg.own fid with
    | true => rw [ho] at this; exact this
    | false => rw [ho] at this; exact this
   ·rename_i hn
    exact .loop_out (ih _ _ _ _ _ h) (by rintro rfl; exact hn _ h)
  | rangeFunc g ps asg body =>
   simp only [execT] at h
   exact range_runs (callBy_under ih) h
  | region id ops draw =>
   simp only [execT] at h
   split at h
   ·rename_i t' qs hr
    split at h
    ·rename_i hc
     simp only [Option.some.injEq, Prod.mk.injEq] at h; obtain ⟨rfl, rfl⟩ := h
     obtain ⟨h1, h2⟩ := runT_RT (callBy_under ih) hr
     obtain ⟨e', t'', hw, hq⟩ := WP.reg (Q := fun e u => e = .normal ∧ u = endR cfg fid id t') (hR := rfl) (hr := h1) (checkM_ok h2 hc) (ht := rfl) ⟨rfl, rfl⟩
     obtain ⟨rfl, rfl⟩ := hq
     exact hw
    ·simp at h
   ·simp at h
  | _ => simp [execT] at h

theorem callT_lim [Gl] {k : Nat} {f : FuncId} {vs : List V} {hp : Hp} {n c : Nat} {r : CR} (h : callT P cfg k f vs hp n c = some r) : lim P cfg f vs hp n c = some r :=
 callFn_under (fun f c s e t h => execT_runs k f c s e t h) h

theorem den_t [Gl] (k : Nat) {f : FuncId} {vs : List V} {v : V} (h : (match callT P cfg k f vs [] 0 0 with | some r => (match closeT noLook r.v with | some _ => some r.v | none => none) | none => none) = some v) : den P cfg f vs = some v := by
 split at h
 ·rename_i r hr
  have hl := lim_some (callT_lim hr)
  split at h
  ·rename_i w hw
   simp only [Option.some.injEq] at h
   subst h
   exact den_of hl (by rw [hw]; rfl)
  ·simp at h
 ·simp at h
end Go.Ac
end

section
namespace Go.Ac
variable {P : Program} {cfg : Cfg} {fid : FuncId} {rid : Nat}

/-- A call that writes nothing of its caller's, and gives a value without names. -/
def QuietV [Gl] (P : Program) (cfg : Cfg) (f : FuncId) (vs : List V) (hp : Hp) (n c : Nat) (v : V) : Prop := ∃ h' c', lim P cfg f vs hp n c = some ⟨v, h', n, c', []⟩

def quietVQ (P : Program) (fn : Func) (n : Nat) (v : V) (e : Ex) (t : St) : Prop :=
 (e = .normal ∨ e = .ret) ∧ t.wl = [] ∧ ∃ rs, resultsV P t fn.results.toList = some rs ∧ tup rs = v

theorem quietV_wp [Gl] {f : FuncId} {fn : Func} {body : Code} {vs : List V} {v : V} {hp : Hp} {n c : Nat} (hf : P.funcs[f]? = some fn) (hb : fn.body = some body) (hok : (Nat.ble vs.length fn.ntmps && codeOK fn.ntmps body) = true)
  (hthr : cfg.thr f = false) (hcl : ∀ look : Look, closeT look v = some (v, [])) (h : WP P cfg f body ⟨envOf 0 vs, hp, n, c, n, []⟩ (quietVQ P fn n v)) : QuietV P cfg f vs hp n c v := by
 obtain ⟨e, t, ⟨K, hK⟩, he, hwl, rs, hrs, htup⟩ := h
 have hfin : finish (cfg.thr f) n t (tup rs) = some ⟨v, Hp.trunc n t.hp, n, t.c, []⟩ := by
  unfold finish
  rw [hthr, htup]
  simp only [Bool.false_eq_true, if_false, hcl, hwl]
  rw [if_pos]
  simp
 refine ⟨Hp.trunc n t.hp, t.c, lim_of ⟨K, fun k hk => ?_⟩⟩
 show callFn P cfg (execF P cfg k) f _ _ _ _ = _
 unfold callFn
 rw [hf]
 simp only [hb, hok]
 rw [show enter vs hp n c = ⟨envOf 0 vs, hp, n, c, n, []⟩ from rfl, hK k hk]
 rcases he with rfl | rfl <;> simp only [leave, hrs, hfin]

theorem RT.callV [Gl] {fo : Operand} {args : Array Operand} {ts : Array TypeId} {dst : Option Nat} {g : Gd} {r : List PO} {e e' : Env} {hp h' : Hp} {n c c' n0 : Nat} {wl : List Nat} {f : FuncId} {caps vs : List V} {x : V} {t : St} {qs : List Tq}
  (hg : Is (wantedP e g) (some true)) (hfo : Is (evalV e fo) (.fn f caps)) (hpr : Is (cfg.prim f) none) (hvs : Is (args.toList.map (evalV e) ++ caps) vs) (hcl : Is (closeArgs (if cfg.thr f then noLook else hp.get) vs) none) (hd : Is (lim P cfg f vs hp n c) (some ⟨x, h', n, c', []⟩))
  (he : putEnv e dst x = e') (h' : RT P cfg fid rid r ⟨e', hp, n, c + (c' - c), n0, wl⟩ t qs) :
  RT P cfg fid rid (⟨.call ⟨.value fo, args, ts⟩, dst, g⟩ :: r) ⟨e, hp, n, c, n0, wl⟩ t (⟨[], [], true, c' - c⟩ :: qs) := by
 unfold Is at *
 have : callR cfg (lim P cfg) hp n c f vs = some ⟨x, [], [], 0, c' - c, true⟩ := by
  unfold callR
  rw [hcl]
  simp only [hd, Nat.sub_self, List.range_zero, List.map_nil, List.append_nil, wrOf]
 refine RT.wr (v := x) (wr := []) (dn := 0) (dc := c' - c) ?_ he rfl rfl rfl rfl h'
 show opP P cfg fid rid _ _ = _
 unfold opP
 simp only [hg]
 have h2 : opP0 P cfg fid rid ⟨.call ⟨.value fo, args, ts⟩, dst, g⟩ ⟨e, hp, n, c, n0, wl⟩ = some ⟨x, [], [], 0, c' - c, true⟩ := by
  simp only [opP0, hfo, hpr]
  rw [hvs, this]
 rw [h2]
 rfl

theorem QuietV.fn [Gl] {f : FuncId} {vs : List V} {hp : Hp} {n : Nat} {x : V} (h : ∀ c, QuietV P cfg f vs hp n c x) : ∃ (h' : Nat → Hp) (c' : Nat → Nat), ∀ c, lim P cfg f vs hp n c = some ⟨x, h' c, n, c' c, []⟩ := by
 obtain ⟨h1, h2⟩ := Classical.axiomOfChoice h
 obtain ⟨h3, h4⟩ := Classical.axiomOfChoice h2
 exact ⟨h1, h3, h4⟩
theorem Quiet.v [Gl] {f : FuncId} {vs : List V} {hp : Hp} {n c : Nat} {x : D} (h : Quiet P cfg f vs hp n c x) : QuietV P cfg f vs hp n c (.d x) := h

end Go.Ac
end

section
namespace Go.Ac
variable {P : Program} {cfg : Cfg} {fid : FuncId}

/-- One round comes to an end. -/
def RoundT [Gl] (P : Program) (cfg : Cfg) (fid : FuncId) (rid : Nat) (ops : Array Oper) (d : Nat) (rest : Code) (s : St) (e : Ex) (u : St) : Prop :=
 ∃ K, ∀ k, K ≤ k → roundR (runRegion P cfg (callBy P cfg (execF P cfg k)) fid rid (handed ops d) false) (execF P cfg k fid rest) s = some (e, u)

theorem RoundT.of [Gl] {rid d : Nat} {ops : Array Oper} {rest : Code} {s : St} {Q : Ex → St → Prop} (h : WP P cfg fid (.region rid (handed ops d) false) s (seqQ P cfg fid rest Q)) : ∃ e u, RoundT P cfg fid rid ops d rest s e u ∧ Q e u := by
 obtain ⟨e1, t1, ⟨K, hK⟩, hq⟩ := h
 have hreg : ∀ k, K ≤ k → e1 = .normal ∧ runRegion P cfg (callBy P cfg (execF P cfg k)) fid rid (handed ops d) false s = some t1 := fun k hk => by
  have := hK (k + 1) (by omega)
  simp only [execF, Option.map_eq_some_iff] at this
  obtain ⟨x, hx, he⟩ := this
  simp only [Prod.mk.injEq] at he
  obtain ⟨rfl, rfl⟩ := he
  exact ⟨rfl, hx⟩
 obtain ⟨rfl, _⟩ := hreg K (Nat.le_refl _)
 obtain ⟨e, u, ⟨L, hL⟩, hq⟩ := hq
 refine ⟨e, u, ⟨max K L, fun k hk => ?_⟩, hq⟩
 unfold roundR
 rw [(hreg k (Nat.le_trans (Nat.le_max_left _ _) hk)).2]
 exact hL k (Nat.le_trans (Nat.le_max_right _ _) hk)

/-- The last state: what is kept of it. -/
structure FinS (E : Ex) (U : Nat → V) (G : Nat → Option Ob) (n n0 it : Nat) (W : Nat → Prop) (e : Ex) (u : St) : Prop where
 e : e = E
 env : ∀ t, U t = .any ∨ u.env.get t = U t
 hp : ∀ id, id < n → id ≠ it → u.hp.get id = G id
 n0 : u.n0 = n0
 wl : ∀ i, i ∈ u.wl ↔ W i

/-- What is so from some number on for each of a list. -/
theorem uniform {α : Type} {Pr : α → Nat → Nat → Prop} (hm : ∀ x K K' C C', K ≤ K' → C ≤ C' → Pr x K C → Pr x K' C') : ∀ (l : List α), (∀ x, x ∈ l → ∃ K C, Pr x K C) → ∃ K C, ∀ x, x ∈ l → Pr x K C
 | [], _ => ⟨0, 0, fun x h => by cases h⟩
 | a :: r, h => by
  obtain ⟨K1, C1, h1⟩ := h a (List.mem_cons_self ..)
  obtain ⟨K2, C2, h2⟩ := uniform hm r fun x hx => h x (List.mem_cons_of_mem _ hx)
  refine ⟨max K1 K2, max C1 C2, fun x hx => ?_⟩
  rcases List.mem_cons.1 hx with rfl | hx
  ·exact hm _ _ _ _ _ (Nat.le_max_left _ _) (Nat.le_max_left _ _) h1
  ·exact hm _ _ _ _ _ (Nat.le_max_right _ _) (Nat.le_max_right _ _) (h2 x hx)

section
variable {b rest : Code} {rid t d : Nat} {ops : Array Oper} {E : Ex} {U : Nat → V} {G : Nat → Option Ob} {n n0 it : Nat} {W : Nat → Prop}

end
end Go.Ac
end
