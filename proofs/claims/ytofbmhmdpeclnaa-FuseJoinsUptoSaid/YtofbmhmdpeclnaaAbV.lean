/- The abstract machine: what a call comes to in the end (no fuel), and regions that write no object. No conditions. -/
import Derived.Test.YtofbmhmdpeclnaaAbU
set_option linter.unusedVariables false
set_option linter.unusedSimpArgs false
namespace Go.Ab
variable {P : Program}

/-! ### Operations that write nothing -/

def qop (P : Program) (look : Look) (ρ : Operand → V) : Op → Option V
  | .move x | .assign x => some (ρ x)
  | .pick q a b => match ρ q with | .d (.bool true) => some (ρ a) | .d (.bool false) => some (ρ b) | _ => none
  | .load t a => (mkTI P t).bind fun i => (loadV look i (ρ a)).map (·.v)
  | .binOp op t x y _ => match ρ x, ρ y with
    | .d (.bool a), .d (.bool b) => match mkTI P t with
      | some i => match i.k with | .bool => boolBin op a b | _ => none
      | none => none
    | u, v => binV op u v
  | .unOp op _ x => unV op (ρ x)
  | .convert s t x => match mkTI P s, mkTI P t with
    | some i, some j => convV i j (ρ x)
    | _, _ => none
  | .makeFunc (.func f) first caps => if first.isEmpty then some (.fn f (caps.toList.map ρ)) else none
  | .slice t x lo hi mx => if mx.isSome = true ∧ hi.isSome = false then none else (mkTI P t).bind fun i => (sliceV look i (ρ x) (lo.map ρ) (hi.map ρ) (mx.map ρ)).map (·.v)
  | .fieldAddr t x f => (mkTI P t).bind fun i => (fieldAddrV look i f (ρ x)).map (·.v)
  | .field t x f => (mkTI P t).bind fun i => (fieldV i f (ρ x)).map (·.v)
  | .indexAddr t x ix => (mkTI P t).bind fun i => (indexAddrV look i (ρ x) (ρ ix)).map (·.v)
  | .index t x ix => (mkTI P t).bind fun i => (indexV i (ρ x) (ρ ix)).map (·.v)
  | .extract t ix => match ρ t with
    | .tuple vs => vs[ix]?
    | _ => none
  | .call ⟨.builtin .len, args, ts⟩ => match ts.toList, args.toList.map ρ with
    | [t], [x] => (mkTI P t).bind fun i => (lenV look i x).map (·.v)
    | _, _ => none
  | _ => none

def Res.still (r : Res) : Prop := r.wr = [] ∧ r.dn = 0 ∧ r.dc = 0 ∧ r.all = false

theorem ret_still {v : V} {r : Res} (h : ret v = some r) : r.still := by simp [ret] at h; subst h; exact ⟨rfl, rfl, rfl, rfl⟩
theorem retR_still {v : V} {i : Nat} {r : Res} (h : retR v i = some r) : r.still := by simp [retR] at h; subst h; exact ⟨rfl, rfl, rfl, rfl⟩

section
variable {look : Look}

theorem loadV_still {i : TI} {p : V} {r : Res} (h : loadV look i p = some r) : r.still := by
  unfold loadV at h
  split at h
  · split at h
    · simp only [Option.bind_eq_some_iff] at h
      obtain ⟨y, _, hy⟩ := h
      exact retR_still hy
    · simp at h
  · simp only [Option.bind_eq_some_iff] at h
    obtain ⟨y, _, hy⟩ := h
    exact ret_still hy
  · simp at h

theorem bind_ret_still {o : Option V} {r : Res} (h : o.bind ret = some r) : r.still := by
  simp only [Option.bind_eq_some_iff] at h
  obtain ⟨y, _, hy⟩ := h
  exact ret_still hy

theorem fieldV_still {i : TI} {f : Nat} {x : V} {r : Res} (h : fieldV i f x = some r) : r.still := by
  unfold fieldV at h
  split at h
  · split at h
    · split at h
      · exact bind_ret_still h
      · simp at h
    · simp at h
  · simp at h

theorem fieldAddrV_still {i : TI} {f : Nat} {x : V} {r : Res} (h : fieldAddrV look i f x = some r) : r.still := by
  unfold fieldAddrV at h
  split at h
  · split at h
    · split at h
      · simp at h
      · split at h
        · split at h
          · exact retR_still h
          · simp at h
        · exact ret_still h
        · simp at h
    · simp at h
  · simp at h

theorem indexRows_still {rows : List (List D)} {sz i : Nat} {r : Res} (h : indexRows rows sz i = some r) : r.still := by
  unfold indexRows at h
  split at h
  · split at h
    · exact ret_still h
    · simp at h
  · simp at h

theorem indexAddrV_still {i : TI} {x ix : V} {r : Res} (h : indexAddrV look i x ix = some r) : r.still := by
  unfold indexAddrV at h
  split at h
  · split at h
    · simp only [Option.bind_eq_some_iff] at h
      obtain ⟨q, _, hq⟩ := h
      exact indexRows_still hq
    · simp only [Option.bind_eq_some_iff] at h
      obtain ⟨q, _, hq⟩ := h
      exact indexRows_still hq
    · split at h
      · simp only [Option.bind_eq_some_iff] at h
        obtain ⟨q, _, hq⟩ := h
        exact retR_still hq
      · simp at h
    · split at h
      · simp only [Option.bind_eq_some_iff] at h
        obtain ⟨q, _, hq⟩ := h
        exact retR_still hq
      · simp at h
    · simp at h
  · simp at h

theorem indexV_still {i : TI} {x ix : V} {r : Res} (h : indexV i x ix = some r) : r.still := by
  unfold indexV at h
  split at h
  · split at h
    · simp only [Option.bind_eq_some_iff] at h
      obtain ⟨q, _, hq⟩ := h
      split at hq
      · exact ret_still hq
      · simp at hq
    · simp only [Option.bind_eq_some_iff] at h
      obtain ⟨q, _, v, _, hv⟩ := h
      exact ret_still hv
    · simp at h
  · simp at h

theorem lenV_still {i : TI} {x : V} {r : Res} (h : lenV look i x = some r) : r.still := by
  unfold lenV at h
  split at h
  · split at h
    · exact ret_still h
    · simp at h
  · split at h
    · exact ret_still h
    · simp at h
  · split at h
    · exact ret_still h
    · simp at h
  · split at h
    · exact retR_still h
    · simp at h
  · simp at h

theorem sliceV_still {i : TI} {x : V} {lo hi mx : Option V} {r : Res} (h : sliceV look i x lo hi mx = some r) : r.still := by
  unfold sliceV at h
  split at h
  · split at h
    · split at h
      · exact ret_still h
      · simp at h
    · simp at h
  · split at h
    · split at h
      · exact ret_still h
      · simp at h
    · split at h
      · split at h
        · exact ret_still h
        · simp at h
      · simp at h
    · simp at h
  · split at h
    · split at h
      · exact ret_still h
      · simp at h
    · simp at h
  · split at h
    · split at h
      · exact retR_still h
      · simp at h
    · split at h
      · split at h
        · exact retR_still h
        · simp at h
      · simp at h
    · simp at h
  · simp at h

/-- An operation that writes nothing is what the machine's step makes of it. -/
theorem qop_step {ρ : Operand → V} {op : Op} {v : V} (h : qop P look ρ op = some v) {fz fs : Bool} {n c : Nat} : ∃ rd, step P fz fs ρ look n c op = some ⟨v, [], rd, 0, 0, false⟩ := by
  have viaMap : ∀ {o : Option Res}, (∀ r, o = some r → r.still) → o.map (·.v) = some v → ∃ rd, o = some ⟨v, [], rd, 0, 0, false⟩ := by
    intro o hs ho
    cases o with
    | none => simp at ho
    | some r =>
      simp at ho; subst ho
      obtain ⟨h1, h2, h3, h4⟩ := hs r rfl
      exact ⟨r.rd, by cases r; simp only at h1 h2 h3 h4; subst h1; subst h2; subst h3; subst h4; rfl⟩
  have viaRet : ∀ {o : Option Res}, o = ret v → ∃ rd, o = some ⟨v, [], rd, 0, 0, false⟩ := fun h => ⟨[], h⟩
  cases op <;> simp only [qop] at h <;> simp only [step] <;> try (simp at h; done)
  case move x => simp at h; subst h; exact ⟨[], rfl⟩
  case assign x => simp at h; subst h; exact ⟨[], rfl⟩
  case pick q a b =>
    split at h
    · rename_i hq; rw [hq]; simp at h; subst h; exact ⟨[], rfl⟩
    · rename_i hq; rw [hq]; simp at h; subst h; exact ⟨[], rfl⟩
    · simp at h
  case load t a =>
    simp only [Option.bind_eq_some_iff] at h
    obtain ⟨i, hi, h⟩ := h
    obtain ⟨rd, hrd⟩ := viaMap (fun r hr => loadV_still hr) h
    exact ⟨rd, by rw [hi]; exact hrd⟩
  case binOp op t x y sh =>
    split at h
    · rename_i a b ha hb
      rw [ha, hb]
      simp only
      cases hm : mkTI P t with
      | none => rw [hm] at h; simp at h
      | some i =>
        rw [hm] at h
        simp only at h ⊢
        cases hk : i.k <;> rw [hk] at h <;> simp at h
        exact ⟨[], by simp [h, ret]⟩
    · rename_i hne
      split
      · rename_i a b ha hb; exact absurd hb (hne a b ha)
      · exact ⟨[], by rw [h]; rfl⟩
  case unOp op t x => exact ⟨[], by rw [h]; rfl⟩
  case convert s t x =>
    cases hs : mkTI P s with
    | none => rw [hs] at h; simp at h
    | some i =>
      cases ht : mkTI P t with
      | none => rw [hs, ht] at h; simp at h
      | some j => rw [hs, ht] at h; simp only at h ⊢; exact ⟨[], by rw [h]; rfl⟩
  case makeFunc fn first caps =>
    cases fn <;> try (simp [qop] at h; done)
    simp only [qop] at h
    simp only [step]
    split at h
    · rename_i hf
      rw [if_pos hf]
      simp at h; subst h; exact ⟨[], rfl⟩
    · simp at h
  case slice t x lo hi mx =>
    split at h
    · simp at h
    · rename_i hc
      rw [if_neg hc]
      simp only [Option.bind_eq_some_iff] at h
      obtain ⟨i, hi', h⟩ := h
      obtain ⟨rd, hrd⟩ := viaMap (fun r hr => sliceV_still hr) h
      exact ⟨rd, by rw [hi']; exact hrd⟩
  case fieldAddr t x f =>
    simp only [Option.bind_eq_some_iff] at h
    obtain ⟨i, hi, h⟩ := h
    obtain ⟨rd, hrd⟩ := viaMap (fun r hr => fieldAddrV_still hr) h
    exact ⟨rd, by rw [hi]; exact hrd⟩
  case field t x f =>
    simp only [Option.bind_eq_some_iff] at h
    obtain ⟨i, hi, h⟩ := h
    obtain ⟨rd, hrd⟩ := viaMap (fun r hr => fieldV_still hr) h
    exact ⟨rd, by rw [hi]; exact hrd⟩
  case indexAddr t x ix =>
    simp only [Option.bind_eq_some_iff] at h
    obtain ⟨i, hi, h⟩ := h
    obtain ⟨rd, hrd⟩ := viaMap (fun r hr => indexAddrV_still hr) h
    exact ⟨rd, by rw [hi]; exact hrd⟩
  case index t x ix =>
    simp only [Option.bind_eq_some_iff] at h
    obtain ⟨i, hi, h⟩ := h
    obtain ⟨rd, hrd⟩ := viaMap (fun r hr => indexV_still hr) h
    exact ⟨rd, by rw [hi]; exact hrd⟩
  case extract t ix =>
    split at h
    · rename_i vs hv
      rw [hv]
      simp only
      exact ⟨[], by rw [h]; rfl⟩
    · simp at h
  case call cl =>
    obtain ⟨callee, args, ts⟩ := cl
    cases callee with
    | value f => simp [qop] at h
    | invoke r m => simp [qop] at h
    | builtin b =>
      cases b <;> try (simp [qop] at h; done)
      simp only [qop] at h
      simp only [step, builtinV]
      split at h
      · rename_i t x ht hx
        rw [ht, hx]
        simp only [Option.bind_eq_some_iff] at h
        obtain ⟨i, hi, h⟩ := h
        obtain ⟨rd, hrd⟩ := viaMap (fun r hr => lenV_still hr) h
        refine ⟨rd, ?_⟩
        show ((mkTI P t).bind fun i => lenV look i x) = _
        rw [hi]; exact hrd
      · simp at h

end

/-! ### What a call comes to -/

/-- A call, the fuel being enough. -/
def Ev (P : Program) (cfg : Cfg) (f : FuncId) (vs : List V) (hp : Hp) (n c : Nat) (r : CR) : Prop := ∃ K, ∀ k, K ≤ k → callF P cfg k f vs hp n c = some r

open Classical in
/-- What a call comes to. -/
noncomputable def lim (P : Program) (cfg : Cfg) : CallF := fun f vs hp n c => if h : ∃ r, Ev P cfg f vs hp n c r then some h.choose else none

section
variable {cfg : Cfg}

theorem Ev.unique {f : FuncId} {vs : List V} {hp : Hp} {n c : Nat} {u v : CR} (h : Ev P cfg f vs hp n c u) (k : Ev P cfg f vs hp n c v) : u = v := by
  obtain ⟨K, hK⟩ := h
  obtain ⟨L, hL⟩ := k
  have h1 := hK (max K L) (Nat.le_max_left _ _)
  rw [hL (max K L) (Nat.le_max_right _ _)] at h1
  exact (Option.some.inj h1).symm

theorem lim_some {f : FuncId} {vs : List V} {hp : Hp} {n c : Nat} {r : CR} (h : lim P cfg f vs hp n c = some r) : Ev P cfg f vs hp n c r := by
  unfold lim at h
  split at h
  · rename_i hx
    simp only [Option.some.injEq] at h
    rw [← h]; exact hx.choose_spec
  · simp at h

theorem lim_of {f : FuncId} {vs : List V} {hp : Hp} {n c : Nat} {r : CR} (h : Ev P cfg f vs hp n c r) : lim P cfg f vs hp n c = some r := by
  have hx : ∃ r, Ev P cfg f vs hp n c r := ⟨r, h⟩
  unfold lim
  rw [dif_pos hx, hx.choose_spec.unique h]

theorem callR_lim {hp : Hp} {n c : Nat} {f : FuncId} {vs : List V} {r : Res} (h : callR cfg (lim P cfg) hp n c f vs = some r) : ∃ K, ∀ k, K ≤ k → callR cfg (callF P cfg k) hp n c f vs = some r := by
  unfold callR at h
  split at h
  · rename_i ws ids hcl
    split at h
    · rename_i r0 hr0
      obtain ⟨K, hK⟩ := lim_some hr0
      refine ⟨K, fun k hk => ?_⟩
      unfold callR
      rw [hcl]
      simp only [hK k hk]
      exact h
    · simp at h
  · rename_i hcl
    split at h
    · rename_i r0 hr0
      obtain ⟨K, hK⟩ := lim_some hr0
      refine ⟨K, fun k hk => ?_⟩
      unfold callR
      rw [hcl]
      simp only [hK k hk]
      exact h
    · simp at h

variable {fid rid : Nat}

theorem opW_lim {all : List Oper} {o : Oper} {s : St} {r : Res} (h : opW P cfg fid rid (lim P cfg) all o s = some r) : ∃ K, ∀ k, K ≤ k → opW P cfg fid rid (callF P cfg k) all o s = some r := by
  unfold opW at h
  split at h
  · rename_i hw
    split at h
    · rename_i q hq
      have : ∃ K, ∀ k, K ≤ k → opR P cfg fid rid (callF P cfg k) o s = some q := by
        unfold opR at hq
        split at hq
        · rename_i fo args ts ho
          split at hq
          · rename_i f caps hf
            obtain ⟨K, hK⟩ := callR_lim hq
            refine ⟨K, fun k hk => ?_⟩
            unfold opR
            rw [ho]
            simp only [hf]
            exact hK k hk
          · simp at hq
        · rename_i hno
          refine ⟨0, fun k hk => ?_⟩
          unfold opR
          split
          · rename_i fo args ts ho; exact absurd ho (hno fo args ts)
          · exact hq
      obtain ⟨K, hK⟩ := this
      refine ⟨K, fun k hk => ?_⟩
      unfold opW
      rw [hw]
      simp only [hK k hk]
      exact h
    · simp at h
  · rename_i hw
    exact ⟨0, fun k hk => by unfold opW; rw [hw]; exact h⟩
  · simp at h

theorem runOps_lim {all : List Oper} : ∀ {l : List Oper} {s t : St}, runOps P cfg fid rid (lim P cfg) all l s = some t → ∃ K, ∀ k, K ≤ k → runOps P cfg fid rid (callF P cfg k) all l s = some t ∧
    ∀ ancs tr, checkOps P cfg fid rid (lim P cfg) all l ancs tr s = true → checkOps P cfg fid rid (callF P cfg k) all l ancs tr s = true
  | [], s, t, h => ⟨0, fun k _ => ⟨h, fun ancs tr hc => by cases ancs <;> exact hc⟩⟩
  | o :: r, s, t, h => by
    simp only [runOps] at h
    split at h
    · rename_i q hq
      obtain ⟨K1, h1⟩ := opW_lim hq
      obtain ⟨K2, h2⟩ := runOps_lim h
      refine ⟨max K1 K2, fun k hk => ?_⟩
      have hop := h1 k (Nat.le_trans (Nat.le_max_left _ _) hk)
      obtain ⟨h3, h4⟩ := h2 k (Nat.le_trans (Nat.le_max_right _ _) hk)
      refine ⟨by simp only [runOps, hop, h3], fun ancs tr hc => ?_⟩
      cases ancs with
      | nil => simp [checkOps] at hc
      | cons a ancs =>
        simp only [checkOps, hq, hop, Bool.and_eq_true] at hc ⊢
        exact ⟨hc.1, h4 _ _ hc.2⟩
    · simp at h

theorem region_lim {ops : Array Oper} {draw : Bool} {s t : St} (h : runRegion P cfg (lim P cfg) fid rid ops draw s = some t) : ∃ K, ∀ k, K ≤ k → runRegion P cfg (callF P cfg k) fid rid ops draw s = some t := by
  unfold runRegion at h
  split at h
  · simp at h
  · rename_i hchk
    split at h
    · rename_i u hu
      obtain ⟨K, hK⟩ := runOps_lim hu
      refine ⟨K, fun k hk => ?_⟩
      obtain ⟨h1, h2⟩ := hK k hk
      unfold runRegion
      have : (if draw = true then orderOK ops.toList && checkOps P cfg fid rid (callF P cfg k) ops.toList ops.toList (anc ops.toList) [] s else true) = true := by
        cases draw with
        | false => rfl
        | true =>
          rw [if_pos rfl, Bool.and_eq_true] at hchk ⊢
          exact ⟨hchk.1, h2 _ _ hchk.2⟩
      rw [this, h1]
      exact h
    · simp at h

/-! ### Calls by data -/

/-- A call of a function that takes and hands back data. -/
noncomputable def den (P : Program) (cfg : Cfg) (f : FuncId) (ws : List V) : Option V :=
  match lim P cfg f ws [] 0 0 with
  | some r => match closeT noLook r.v with
    | some _ => some r.v
    | none => none
  | none => none

theorem den_of {f : FuncId} {ws : List V} {r : CR} (he : Ev P cfg f ws [] 0 0 r) (hv : (closeT noLook r.v).isSome = true) : den P cfg f ws = some r.v := by
  unfold den
  rw [lim_of he]
  obtain ⟨q, hq⟩ := Option.isSome_iff_exists.1 hv
  simp only [hq]

noncomputable def qcall (P : Program) (cfg : Cfg) (look : Look) (f : FuncId) (vs : List V) : Option V :=
  match closeArgs (if cfg.thr f then noLook else look) vs with
  | some (ws, ids) => match den P cfg f ws with
    | some v => if v.flat || ids.isEmpty then some v else none
    | none => none
  | none => none

theorem qcall_callR {hp : Hp} {n c : Nat} {f : FuncId} {vs : List V} {v : V} (h : qcall P cfg hp.get f vs = some v) : ∃ rd, callR cfg (lim P cfg) hp n c f vs = some ⟨v, [], rd, 0, 0, false⟩ := by
  unfold qcall at h
  split at h
  · rename_i ws ids hcl
    split at h
    · rename_i u hu
      split at h
      · rename_i hf
        simp only [Option.some.injEq] at h; subst h
        unfold den at hu
        split at hu
        · rename_i r hr
          split at hu
          · rename_i q hq
            simp only [Option.some.injEq] at hu
            refine ⟨ids, ?_⟩
            unfold callR
            rw [hcl]
            simp only [hr, hq]
            rw [← hu] at hf
            cases hfl : r.v.flat with
            | true => simp [hu]
            | false =>
              rw [hfl] at hf
              simp at hf
              subst hf
              simp [hu, roOf]
          · simp at hu
        · simp at hu
      · simp at h
    · simp at h
  · simp at h

/-! ### Regions that write no object -/

/-- An operation's value. -/
noncomputable def qval (P : Program) (cfg : Cfg) (look : Look) (all : List Oper) (o : Oper) (e : Env) : Option V :=
  match wantedV all e o with
  | some true => match o.op with
    | .call ⟨.value fo, args, _⟩ => match evalV e fo with
      | .fn f caps => qcall P cfg look f (args.toList.map (evalV e) ++ caps)
      | _ => none
    | op => qop P look (evalV e) op
  | some false => some .undef
  | none => none

def putEnv (e : Env) (dst : Option Nat) (v : V) : Env := match dst with | some d => (d, v) :: e | none => e

noncomputable def qrun (P : Program) (cfg : Cfg) (look : Look) (all : List Oper) : List Oper → Env → Option Env
  | [], e => some e
  | o :: r, e => (qval P cfg look all o e).bind fun v => qrun P cfg look all r (putEnv e o.dst v)

/-- The slots alone keep the operations of a region apart. -/
def slotsApart (a b : Tr) : Bool :=
  (match a.ds with | some d => !(b.sl.contains d) && !(b.ds == some d) | none => true) && (match b.ds with | some d => !(a.sl.contains d) | none => true)

def stillTr (o : Oper) (all : List Oper) : Tr := ⟨[], [], opdSlots o all, o.dst, false, 0⟩

def stillCheck (all : List Oper) : List Oper → List (List Nat) → List Tr → Bool
  | o :: r, a :: ancs, tr => (tr.zipIdx.all fun p => a.contains p.2 || slotsApart p.1 (stillTr o all)) && stillCheck all r ancs (tr ++ [stillTr o all])
  | [], [], _ => true
  | _, _, _ => false

def stillOK (ops : Array Oper) (draw : Bool) : Bool := !draw || (orderOK ops.toList && stillCheck ops.toList ops.toList (anc ops.toList) [])

/-- Traces that differ in what has been looked at alone. -/
def Alike (a b : Tr) : Prop := a.wr = [] ∧ b.wr = [] ∧ a.all = false ∧ b.all = false ∧ a.sl = b.sl ∧ a.ds = b.ds ∧ a.dc = 0 ∧ b.dc = 0

theorem Alike.apart {a b a' b' : Tr} (ha : Alike a a') (hb : Alike b b') (h : slotsApart a b = true) : apartT a' b' = true := by
  obtain ⟨_, a2, _, a4, a5, a6, _, a8⟩ := ha
  obtain ⟨_, b2, _, b4, b5, b6, _, b8⟩ := hb
  unfold apartT
  unfold slotsApart at h
  rw [a5, a6, b5, b6] at h
  rw [a2, a4, b2, b4]
  simp only [disj, Bool.and_eq_true] at h ⊢
  generalize a'.ds = d1 at h ⊢
  generalize b'.ds = d2 at h ⊢
  cases d1 <;> cases d2 <;> simp_all

theorem qval_opW {all : List Oper} {o : Oper} {s : St} {v : V} (h : qval P cfg s.hp.get all o s.env = some v) : ∃ rd, opW P cfg fid rid (lim P cfg) all o s = some ⟨v, [], rd, 0, 0, false⟩ := by
  unfold qval at h
  split at h
  · rename_i hw
    have : ∃ rd, opR P cfg fid rid (lim P cfg) o s = some ⟨v, [], rd, 0, 0, false⟩ := by
      split at h
      · rename_i fo args ts ho
        split at h
        · rename_i f caps hf
          obtain ⟨rd, hrd⟩ := qcall_callR (n := s.n) (c := s.c) h
          refine ⟨rd, ?_⟩
          unfold opR
          rw [ho]
          simp only [hf]
          exact hrd
        · simp at h
      · rename_i hno
        obtain ⟨rd, hrd⟩ := qop_step (fz := (cfg.fz fid rid).1) (fs := (cfg.fz fid rid).2) (n := s.n) (c := s.c) h
        refine ⟨rd, ?_⟩
        unfold opR
        split
        · rename_i fo args ts ho; exact absurd ho (hno fo args ts)
        · exact hrd
    obtain ⟨rd, hrd⟩ := this
    refine ⟨rd, ?_⟩
    unfold opW
    rw [hw, hrd]; rfl
  · rename_i hw
    simp only [Option.some.injEq] at h; subst h
    refine ⟨[], ?_⟩
    unfold opW
    rw [hw]; rfl
  · simp at h

theorem put_still (s : St) (dst : Option Nat) (v : V) (rd : List Nat) : s.put dst ⟨v, [], rd, 0, 0, false⟩ = { s with env := putEnv s.env dst v } := by
  unfold St.put putEnv
  cases dst <;> rfl

/-- Pointwise alike. -/
def Alikes : List Tr → List Tr → Prop
  | [], [] => True
  | a :: r, b :: l => Alike a b ∧ Alikes r l
  | _, _ => False

theorem Alikes.snoc : ∀ {r l : List Tr} {a b : Tr}, Alikes r l → Alike a b → Alikes (r ++ [a]) (l ++ [b])
  | [], [], a, b, _, h => ⟨h, trivial⟩
  | x :: r, y :: l, a, b, h, h' => ⟨h.1, Alikes.snoc h.2 h'⟩
  | [], _ :: _, _, _, h, _ => h.elim
  | _ :: _, [], _, _, h, _ => h.elim

theorem Alikes.all {p q : Tr → Nat → Bool} (hpq : ∀ a b i, Alike a b → p a i = true → q b i = true) : ∀ {r l : List Tr} {k : Nat}, Alikes r l → ((r.zipIdx k).all fun x => p x.1 x.2) = true → ((l.zipIdx k).all fun x => q x.1 x.2) = true
  | [], [], k, _, _ => rfl
  | x :: r, y :: l, k, h, h' => by
    simp only [List.zipIdx_cons, List.all_cons, Bool.and_eq_true] at h' ⊢
    exact ⟨hpq _ _ _ h.1 h'.1, Alikes.all hpq h.2 h'.2⟩
  | [], _ :: _, _, h, _ => h.elim
  | _ :: _, [], _, h, _ => h.elim

theorem qrun_runOps {all : List Oper} : ∀ {l : List Oper} {s : St} {e' : Env}, qrun P cfg s.hp.get all l s.env = some e' →
    runOps P cfg fid rid (lim P cfg) all l s = some { s with env := e' } ∧ ∀ ancs tr tr', stillCheck all l ancs tr = true → Alikes tr tr' → checkOps P cfg fid rid (lim P cfg) all l ancs tr' s = true
  | [], s, e', h => by
    simp [qrun] at h; subst h
    refine ⟨rfl, fun ancs tr tr' hc _ => ?_⟩
    cases ancs with
    | nil => rfl
    | cons a r => simp [stillCheck] at hc
  | o :: r, s, e', h => by
    simp only [qrun, Option.bind_eq_some_iff] at h
    obtain ⟨v, hv, h⟩ := h
    obtain ⟨rd, hop⟩ := qval_opW (fid := fid) (rid := rid) hv
    obtain ⟨h3, h4⟩ := qrun_runOps (s := s.put o.dst ⟨v, [], rd, 0, 0, false⟩) (by rw [put_still]; exact h)
    refine ⟨?_, fun ancs tr tr' hc htr => ?_⟩
    · simp only [runOps, hop, h3]
      rw [put_still]
    · cases ancs with
      | nil => simp [stillCheck] at hc
      | cons a ancs =>
        simp only [stillCheck, Bool.and_eq_true] at hc
        simp only [checkOps, hop, Bool.and_eq_true]
        have hal : Alike (stillTr o all) (trOf o all ⟨v, [], rd, 0, 0, false⟩) := ⟨rfl, rfl, rfl, rfl, rfl, rfl, rfl, rfl⟩
        refine ⟨Alikes.all (p := fun t i => a.contains i || slotsApart t (stillTr o all)) (q := fun t i => a.contains i || apartT t (trOf o all ⟨v, [], rd, 0, 0, false⟩)) (fun x y i hxy hp => ?_) htr hc.1, h4 ancs _ _ hc.2 (htr.snoc hal)⟩
        simp only [Bool.or_eq_true] at hp ⊢
        exact hp.imp id fun hs => hxy.apart hal hs

/-- A region that writes no object. -/
theorem qregion {ops : Array Oper} {draw : Bool} {s : St} {e' : Env} (hst : stillOK ops draw = true) (hq : qrun P cfg s.hp.get ops.toList ops.toList s.env = some e') :
    runRegion P cfg (lim P cfg) fid rid ops draw s = some (keepSt (mats { s with env := e' } (cfg.mat fid rid)) (cfg.keep fid rid)) := by
  obtain ⟨h1, h2⟩ := qrun_runOps (fid := fid) (rid := rid) hq
  unfold runRegion
  have hchk : (if draw = true then orderOK ops.toList && checkOps P cfg fid rid (lim P cfg) ops.toList ops.toList (anc ops.toList) [] s else true) = true := by
    unfold stillOK at hst
    cases draw with
    | false => rfl
    | true =>
      simp only [Bool.not_true, Bool.false_or, Bool.and_eq_true] at hst
      rw [if_pos rfl, hst.1, h2 _ _ _ hst.2 (show Alikes [] [] from trivial)]; rfl
  rw [hchk, h1]

end

end Go.Ab
