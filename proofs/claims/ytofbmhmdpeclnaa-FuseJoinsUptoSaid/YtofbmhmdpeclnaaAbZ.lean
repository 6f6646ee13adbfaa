/- The abstract machine: calls that are handed the memory and leave it as it was. No conditions. -/
import Derived.Test.YtofbmhmdpeclnaaAbY
set_option linter.unusedVariables false
set_option linter.unusedSimpArgs false
namespace Go.Ab
variable {P : Program} {cfg : Cfg} {fid : FuncId} {rid : Nat}

/-- A call that writes nothing of its caller's, and gives data. -/
def Quiet (P : Program) (cfg : Cfg) (f : FuncId) (vs : List V) (hp : Hp) (n c : Nat) (x : D) : Prop := ∃ h' c', lim P cfg f vs hp n c = some ⟨.d x, h', n, c', []⟩

/-- What a body must come to for a quiet call. -/
def quietQ (P : Program) (fn : Func) (n : Nat) (x : D) (e : Ex) (t : St) : Prop :=
  (e = .normal ∨ e = .ret) ∧ t.wl = [] ∧ ∃ rs, resultsV P t fn.results.toList = some rs ∧ tup rs = .d x

theorem quiet_wp {f : FuncId} {fn : Func} {body : Code} {vs : List V} {x : D} {hp : Hp} {n c : Nat} (hf : P.funcs[f]? = some fn) (hb : fn.body = some body) (hok : (Nat.ble vs.length fn.ntmps && codeOK fn.ntmps body) = true)
    (hthr : cfg.thr f = false) (h : WP P cfg f body ⟨envOf 0 vs, hp, n, c, n, []⟩ (quietQ P fn n x)) : Quiet P cfg f vs hp n c x := by
  obtain ⟨e, t, ⟨K, hK⟩, he, hwl, rs, hrs, hcl⟩ := h
  have hfin : finish (cfg.thr f) n t (tup rs) = some ⟨.d x, Hp.trunc n t.hp, n, t.c, []⟩ := by
    unfold finish
    rw [hthr, hcl]
    have : closeT t.hp.get (.d x) = some (.d x, []) := rfl
    simp only [Bool.false_eq_true, if_false, this, hwl]
    rw [if_pos]
    simp
  refine ⟨Hp.trunc n t.hp, t.c, lim_of ⟨K, fun k hk => ?_⟩⟩
  unfold callF callBy
  rw [hf]
  simp only [hb, hok]
  rw [show enter vs hp n c = ⟨envOf 0 vs, hp, n, c, n, []⟩ from rfl, hK k hk]
  rcases he with rfl | rfl <;> simp only [leave, hrs, hfin]

/-- A quiet call as a region's operation. -/
theorem RT.callQ {fo : Operand} {args : Array Operand} {ts : Array TypeId} {dst : Option Nat} {g : Gd} {r : List PO} {e e' : Env} {hp h' : Hp} {n c c' n0 : Nat} {wl : List Nat} {f : FuncId} {caps vs : List V} {x : D} {t : St} {qs : List Tq}
    (hg : Is (wantedP e g) (some true)) (hfo : Is (evalV e fo) (.fn f caps)) (hvs : Is (args.toList.map (evalV e) ++ caps) vs) (hcl : Is (closeArgs (if cfg.thr f then noLook else hp.get) vs) none) (hd : Is (lim P cfg f vs hp n c) (some ⟨.d x, h', n, c', []⟩))
    (he : putEnv e dst (.d x) = e') (h' : RT P cfg fid rid r ⟨e', hp, n, c + (c' - c), n0, wl⟩ t qs) :
    RT P cfg fid rid (⟨.call ⟨.value fo, args, ts⟩, dst, g⟩ :: r) ⟨e, hp, n, c, n0, wl⟩ t (⟨[], [], true, c' - c⟩ :: qs) := by
  unfold Is at *
  have : callR cfg (lim P cfg) hp n c f vs = some ⟨.d x, [], [], 0, c' - c, true⟩ := by
    unfold callR
    rw [hcl]
    simp only [hd, Nat.sub_self, List.range_zero, List.map_nil, List.append_nil, wrOf]
  refine RT.wr (v := .d x) (wr := []) (dn := 0) (dc := c' - c) ?_ he rfl rfl rfl rfl h'
  show opP P cfg fid rid _ _ = _
  unfold opP
  simp only [hg]
  have h2 : opP0 P cfg fid rid ⟨.call ⟨.value fo, args, ts⟩, dst, g⟩ ⟨e, hp, n, c, n0, wl⟩ = some ⟨.d x, [], [], 0, c' - c, true⟩ := by
    simp only [opP0, hfo]
    rw [hvs, this]
  rw [h2]
  rfl

theorem Quiet.fn {f : FuncId} {vs : List V} {hp : Hp} {n : Nat} {x : D} (h : ∀ c, Quiet P cfg f vs hp n c x) : ∃ (h' : Nat → Hp) (c' : Nat → Nat), ∀ c, lim P cfg f vs hp n c = some ⟨.d x, h' c, n, c' c, []⟩ := by
  obtain ⟨h1, h2⟩ := Classical.axiomOfChoice h
  obtain ⟨h3, h4⟩ := Classical.axiomOfChoice h2
  exact ⟨h1, h3, h4⟩

/-! ### The check of a region whose order is drawn, pair by pair -/

/-- The pairs that no edge binds. -/
def unord : List (List Nat) → Nat → List (Nat × Nat)
  | [], _ => []
  | a :: r, k => ((List.range k).filter fun i => !a.contains i).map (fun i => (i, k)) ++ unord r (k + 1)

def memA (a b : Tq) : Bool := disj a.wr (b.rd ++ b.wr) && disj b.wr a.rd && (!a.all || (b.wr.isEmpty && Nat.beq b.dc 0)) && (!b.all || (a.wr.isEmpty && Nat.beq a.dc 0))

def noTq : Tq := ⟨[], [], true, 1⟩

/-- A trace, its slots, what it has looked at. -/
def Alike3 (t t0 : Tr) (q : Tq) : Prop := t.sl = t0.sl ∧ t.ds = t0.ds ∧ t.rd = q.rd ∧ t.wr = q.wr ∧ t.all = q.all ∧ t.dc = q.dc

def Alikes3 : List Tr → List Tr → List Tq → Prop
  | [], [], [] => True
  | t :: r, t0 :: r0, q :: l => Alike3 t t0 q ∧ Alikes3 r r0 l
  | _, _, _ => False

theorem Alikes3.snoc : ∀ {r r0 : List Tr} {l : List Tq} {t t0 : Tr} {q : Tq}, Alikes3 r r0 l → Alike3 t t0 q → Alikes3 (r ++ [t]) (r0 ++ [t0]) (l ++ [q])
  | [], [], [], t, t0, q, _, h => ⟨h, trivial⟩
  | _ :: _, _ :: _, _ :: _, t, t0, q, h, h' => ⟨h.1, Alikes3.snoc h.2 h'⟩
  | [], [], _ :: _, _, _, _, h, _ => h.elim
  | [], _ :: _, _, _, _, _, h, _ => h.elim
  | _ :: _, [], _, _, _, _, h, _ => h.elim
  | _ :: _, _ :: _, [], _, _, _, h, _ => h.elim

theorem Alikes3.len : ∀ {r r0 : List Tr} {l : List Tq}, Alikes3 r r0 l → r.length = l.length
  | [], [], [], _ => rfl
  | _ :: _, _ :: _, _ :: _, h => by simp [Alikes3.len h.2]
  | [], [], _ :: _, h => h.elim
  | [], _ :: _, _, h => h.elim
  | _ :: _, [], _, h => h.elim
  | _ :: _, _ :: _, [], h => h.elim

theorem apartT_of {t t0 u u0 : Tr} {q p : Tq} (h : Alike3 t t0 q) (k : Alike3 u u0 p) (hs : slotsApart t0 u0 = true) (hm : memA q p = true) : apartT t u = true := by
  obtain ⟨a1, a2, a3, a4, a5, a6⟩ := h
  obtain ⟨b1, b2, b3, b4, b5, b6⟩ := k
  unfold memA at hm
  unfold slotsApart at hs
  unfold apartT
  rw [a1, a2, a3, a4, a5, a6, b1, b2, b3, b4, b5, b6]
  simp only [Bool.and_eq_true] at hm hs ⊢
  exact ⟨⟨⟨⟨⟨hm.1.1.1, hm.1.1.2⟩, hm.1.2⟩, hm.2⟩, hs.1⟩, hs.2⟩

theorem Alikes3.all {a : List Nat} {u u0 : Tr} {p : Tq} (hu : Alike3 u u0 p) : ∀ {r r0 : List Tr} {l : List Tq} {k : Nat}, Alikes3 r r0 l → ((r0.zipIdx k).all fun x => a.contains x.2 || slotsApart x.1 u0) = true →
    (∀ i q, l[i]? = some q → a.contains (k + i) = false → memA q p = true) → ((r.zipIdx k).all fun x => a.contains x.2 || apartT x.1 u) = true
  | [], [], [], k, _, _, _ => rfl
  | t :: r, t0 :: r0, q :: l, k, h, hs, hm => by
    simp only [List.zipIdx_cons, List.all_cons, Bool.and_eq_true] at hs ⊢
    refine ⟨?_, Alikes3.all hu h.2 hs.2 fun i q' hi hc => hm (i + 1) q' (by simpa using hi) (by rw [show k + (i + 1) = k + 1 + i by omega]; exact hc)⟩
    cases hc : a.contains k with
    | true => rfl
    | false =>
      rw [hc] at hs
      exact apartT_of h.1 hu hs.1 (hm 0 q rfl hc)
  | [], [], _ :: _, _, h, _, _ => h.elim
  | [], _ :: _, _, _, h, _, _ => h.elim
  | _ :: _, [], _, _, h, _, _ => h.elim
  | _ :: _, _ :: _, [], _, h, _, _ => h.elim

theorem checkQ_of {all : List Oper} : ∀ {l : List Oper} {ancs : List (List Nat)} {tr ts : List Tr} {past qs : List Tq}, Alikes3 tr ts past → stillCheck all l ancs ts = true → qs.length = l.length →
    (∀ p, p ∈ unord ancs tr.length → memA ((past ++ qs).getD p.1 noTq) ((past ++ qs).getD p.2 noTq) = true) → checkQ all l ancs tr qs = true
  | [], ancs, tr, ts, past, qs, h, hs, hl, hm => by
    cases qs with
    | nil =>
      cases ancs with
      | nil => rfl
      | cons a r => simp [stillCheck] at hs
    | cons q r => simp at hl
  | o :: r, ancs, tr, ts, past, qs, h, hs, hl, hm => by
    cases qs with
    | nil => simp at hl
    | cons q qs =>
      cases ancs with
      | nil => simp [stillCheck] at hs
      | cons a ancs =>
        simp only [stillCheck, Bool.and_eq_true] at hs
        simp only [checkQ, Bool.and_eq_true]
        have hlen := h.len
        have hal : Alike3 (trQ o all q) (stillTr o all) q := ⟨rfl, rfl, rfl, rfl, rfl, rfl⟩
        refine ⟨Alikes3.all (k := 0) hal h hs.1 fun i q' hi hc => ?_, checkQ_of (past := past ++ [q]) (h.snoc hal) hs.2 (by simpa using hl) fun p hp => ?_⟩
        · have hi' : i < past.length := by rw [List.getElem?_eq_some_iff] at hi; exact hi.1
          have := hm (i, tr.length) (by
            simp only [unord, List.mem_append, List.mem_map, List.mem_filter, List.mem_range]
            exact .inl ⟨i, ⟨by omega, by rw [Nat.zero_add] at hc; rw [hc]; rfl⟩, rfl⟩)
          rw [hlen] at this
          simp only [List.getD_eq_getElem?_getD, List.getElem?_append_left hi', hi, Option.getD_some, List.getElem?_append_right (Nat.le_refl _), Nat.sub_self, List.getElem?_cons_zero] at this
          exact this
        · have := hm p (by
            simp only [unord, List.mem_append]
            right
            simpa using hp)
          simpa using this

theorem checkR_un {ops : Array Oper} {qs : List Tq} (U : List (Nat × Nat)) (hs : stillOK ops true = true) (hU : unord (anc ops.toList) 0 = U) (hl : qs.length = ops.toList.length)
    (hm : (U.all fun p => memA (qs.getD p.1 noTq) (qs.getD p.2 noTq)) = true) : Is (checkR ops true qs) true := by
  unfold stillOK at hs
  simp only [Bool.not_true, Bool.false_or, Bool.and_eq_true] at hs
  show checkR ops true qs = true
  unfold checkR
  simp only [Bool.not_true, Bool.false_or, Bool.and_eq_true]
  refine ⟨hs.1, checkQ_of (tr := []) (ts := []) (past := []) trivial hs.2 hl fun p hp => ?_⟩
  rw [List.all_eq_true] at hm
  rw [← hU] at hm
  exact hm p hp

/-! ### A call whose memory is taken over -/

theorem RT.callI {fo : Operand} {args : Array Operand} {ts : Array TypeId} {dst : Option Nat} {g : Gd} {r : List PO} {e e' : Env} {hp : Hp} {n c n0 : Nat} {wl : List Nat} {f : FuncId} {caps vs ws : List V} {q : CR} {t : St} {qs : List Tq} {w : V} {wr : List (Nat × Ob)}
    (hg : Is (wantedP e g) (some true)) (hfo : Is (evalV e fo) (.fn f caps)) (hvs : Is (args.toList.map (evalV e) ++ caps) vs) (hcl : Is (closeArgs (if cfg.thr f then noLook else hp.get) vs) (some (ws, []))) (hd : lim P cfg f ws [] 0 0 = some q) (hne : closeT noLook q.v = none)
    (hw : shiftV n c q.v = w) (hwr : shiftH n c (wrOf q.hp.get (List.range q.n)) = wr) (he : putEnv e dst w = e') (hn0 : n0 ≤ n) (h' : RT P cfg fid rid r ⟨e', hp.sets wr, n + q.n, c + q.c, n0, wl⟩ t qs) :
    RT P cfg fid rid (⟨.call ⟨.value fo, args, ts⟩, dst, g⟩ :: r) ⟨e, hp, n, c, n0, wl⟩ t (⟨[], wr.map (·.1), false, q.c⟩ :: qs) := by
  unfold Is at *
  subst hw
  have hkeys : ∀ p, p ∈ wr → n ≤ p.1 ∧ p.1 < n + q.n := by
    intro p hp
    rw [← hwr] at hp
    unfold shiftH at hp
    rw [List.mem_map] at hp
    obtain ⟨x, hx, rfl⟩ := hp
    have : ∀ (ids : List Nat) (look : Look), x ∈ wrOf look ids → x.1 ∈ ids := by
      intro ids look
      induction ids with
      | nil => intro h; simp [wrOf] at h
      | cons a r ih =>
        intro h
        simp only [wrOf] at h
        split at h
        · simp only [List.mem_cons] at h
          rcases h with rfl | h
          · simp
          · exact List.mem_cons_of_mem _ (ih h)
        · exact List.mem_cons_of_mem _ (ih h)
    have := this _ _ hx
    rw [List.mem_range] at this
    exact ⟨Nat.le_add_left _ _, by simp only; omega⟩
  have hadd : ∀ (l : List (Nat × Ob)), (∀ p, p ∈ l → n ≤ p.1 ∧ p.1 < n + q.n) → addNew n0 wl l = wl := by
    intro l
    induction l with
    | nil => intro _; rfl
    | cons a r ih =>
      intro h
      obtain ⟨k, o⟩ := a
      have hk := (h (k, o) (List.mem_cons_self ..)).1
      have : Nat.blt k n0 = false := by
        cases hb : Nat.blt k n0 with
        | false => rfl
        | true => rw [Nat.blt_eq] at hb; simp only at hk; omega
      simp only [addNew, this]
      exact ih fun p hp => h p (List.mem_cons_of_mem _ hp)
  refine RT.wr (wr := wr) (dn := q.n) (dc := q.c) ?_ he rfl rfl rfl (hadd wr hkeys) h'
  show opP P cfg fid rid _ _ = _
  unfold opP
  simp only [hg]
  have : callR cfg (lim P cfg) hp n c f vs = some ⟨shiftV n c q.v, wr, [], q.n, q.c, false⟩ := by
    unfold callR
    rw [hcl]
    simp only [hd, hne, roOf, List.nil_append, hwr]
  have h2 : opP0 P cfg fid rid ⟨.call ⟨.value fo, args, ts⟩, dst, g⟩ ⟨e, hp, n, c, n0, wl⟩ = some ⟨shiftV n c q.v, wr, [], q.n, q.c, false⟩ := by
    simp only [opP0, hfo]
    rw [hvs, this]
  rw [h2]
  simp only
  rw [if_pos]
  rw [List.all_eq_true]
  intro p hp
  rw [Nat.blt_eq]
  exact (hkeys p hp).2

end Go.Ab
