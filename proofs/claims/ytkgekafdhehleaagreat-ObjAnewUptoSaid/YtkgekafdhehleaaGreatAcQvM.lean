/- The abstract machine: calls that are handed the memory, leave it as it was and give any value without names; calls that write objects. No conditions. -/
import Derived.Test.YtkgekafdhehleaaGreatAcThM
import Derived.KernelRfl
set_option linter.unusedVariables false
set_option linter.unusedSimpArgs false
section
namespace Go.Ac
variable {P : Program} {cfg : Cfg}

/-- The operations that lie before: a number's bits. -/
def ancM (all : List Oper) : List Nat :=
 all.foldl (fun acc o => acc ++ [o.after.toList.foldl (fun s e => if Region.binds .any e then s ||| ((1 <<< e.on) ||| acc.getD e.on 0) else s) 0]) []

def MaskOK (m : List Nat) (a : List (List Nat)) : Prop := m.length = a.length ∧ ∀ j i, (m.getD j 0).testBit i = true → (a.getD j []).contains i = true

theorem fold_mask {acc : List Nat} {anc : List (List Nat)} (h : MaskOK acc anc) : ∀ (l : List Edge) (s : Nat) (t : List Nat), (∀ i, s.testBit i = true → t.contains i = true) →
  ∀ i, (l.foldl (fun s e => if Region.binds .any e then s ||| ((1 <<< e.on) ||| acc.getD e.on 0) else s) s).testBit i = true → (l.foldl (fun s e => if Region.binds .any e then e.on :: (anc.getD e.on [] ++ s) else s) t).contains i = true
 | [], s, t, hs, i, hi => hs i hi
 | e :: l, s, t, hs, i, hi => by
  simp only [List.foldl_cons] at hi ⊢
  refine fold_mask h l _ _ (fun i hi => ?_) i hi
  by_cases hb : Region.binds .any e = true
  ·rw [if_pos hb] at hi ⊢
   rw [Nat.testBit_or, Nat.testBit_or, Bool.or_eq_true, Bool.or_eq_true] at hi
   rw [List.contains_cons, Bool.or_eq_true, List.contains_eq_mem]
   rcases hi with hi | hi | hi
   ·right
    have := hs i hi
    rw [List.contains_eq_mem] at this
    rw [decide_eq_true_eq] at this ⊢
    exact List.mem_append_right _ this
   ·left
    rw [Nat.shiftLeft_eq, Nat.one_mul, Nat.testBit_two_pow] at hi
    simp only [decide_eq_true_eq] at hi
    subst hi
    exact beq_self_eq_true _
   ·right
    have := h.2 e.on i hi
    rw [List.contains_eq_mem] at this
    rw [decide_eq_true_eq] at this ⊢
    exact List.mem_append_left _ this
  ·rw [if_neg hb] at hi ⊢
   exact hs i hi

theorem MaskOK.snoc {m : List Nat} {a : List (List Nat)} {x : Nat} {y : List Nat} (h : MaskOK m a) (hx : ∀ i, x.testBit i = true → y.contains i = true) : MaskOK (m ++ [x]) (a ++ [y]) := by
 refine ⟨by simp [h.1], fun j i hj => ?_⟩
 rw [List.getD_eq_getElem?_getD] at hj ⊢
 by_cases h1 : j < m.length
 ·rw [List.getElem?_append_left h1] at hj
  rw [List.getElem?_append_left (by rw [← h.1]; exact h1), ← List.getD_eq_getElem?_getD]
  exact h.2 j i (by rw [List.getD_eq_getElem?_getD]; exact hj)
 ·rw [List.getElem?_append_right (by omega)] at hj
  rw [List.getElem?_append_right (by rw [← h.1]; omega), ← h.1]
  cases hk : j - m.length with
  | zero => rw [hk] at hj; exact hx i hj
  | succ k => rw [hk] at hj; simp at hj

theorem ancM_gen : ∀ (l : List Oper) (m : List Nat) (a : List (List Nat)), MaskOK m a →
  MaskOK (l.foldl (fun acc o => acc ++ [o.after.toList.foldl (fun s e => if Region.binds .any e then s ||| ((1 <<< e.on) ||| acc.getD e.on 0) else s) 0]) m)
   (l.foldl (fun acc o => acc ++ [o.after.toList.foldl (fun s e => if Region.binds .any e then e.on :: (acc.getD e.on [] ++ s) else s) []]) a)
 | [], m, a, h => h
 | o :: l, m, a, h => by
  simp only [List.foldl_cons]
  exact ancM_gen l _ _ (h.snoc fun i hi => fold_mask h o.after.toList 0 [] (fun i hi => by simp at hi) i hi)

theorem ancM_ok (all : List Oper) : MaskOK (ancM all) (anc all) := ancM_gen all [] [] ⟨rfl, fun j i h => by simp at h⟩

def stillCheckM (all : List Oper) : List Oper → List Nat → List Tr → Bool
 | o :: r, m :: ms, tr => (tr.zipIdx.all fun p => m.testBit p.2 || slotsApart p.1 (stillTr o all)) && stillCheckM all r ms (tr ++ [stillTr o all])
 | [], [], _ => true
 | _, _, _ => false

def unordM : List Nat → Nat → List (Nat × Nat)
 | [], _ => []
 | m :: r, k => ((List.range k).filter fun i => !m.testBit i).map (fun i => (i, k)) ++ unordM r (k + 1)

theorem stillCheckM_ok {all : List Oper} : ∀ {l : List Oper} {m : List Nat} {a : List (List Nat)} {tr : List Tr}, MaskOK m a → stillCheckM all l m tr = true → stillCheck all l a tr = true
 | [], [], [], tr, h, hs => rfl
 | [], _ :: _, a, tr, h, hs => by simp [stillCheckM] at hs
 | [], [], x :: a, tr, h, hs => by have := h.1; simp at this
 | o :: l, [], a, tr, h, hs => by simp [stillCheckM] at hs
 | o :: l, x :: m, [], tr, h, hs => by have := h.1; simp at this
 | o :: l, x :: m, y :: a, tr, h, hs => by
  simp only [stillCheckM, Bool.and_eq_true] at hs
  simp only [stillCheck, Bool.and_eq_true]
  refine ⟨?_, stillCheckM_ok ⟨by have := h.1; simpa using this, fun j i hj => h.2 (j + 1) i hj⟩ hs.2⟩
  rw [List.all_eq_true] at hs ⊢
  intro p hp
  have := hs.1 p hp
  rw [Bool.or_eq_true] at this ⊢
  exact this.imp (fun h1 => h.2 0 p.2 h1) id

theorem unordM_mem : ∀ {m : List Nat} {a : List (List Nat)} {k : Nat} {p : Nat × Nat}, MaskOK m a → p ∈ unord a k → p ∈ unordM m k
 | [], [], k, p, h, hp => by simp [unord] at hp
 | x :: m, [], k, p, h, hp => by simp [unord] at hp
 | [], y :: a, k, p, h, hp => by have := h.1; simp at this
 | x :: m, y :: a, k, p, h, hp => by
  simp only [unord, unordM, List.mem_append, List.mem_map, List.mem_filter] at hp ⊢
  rcases hp with ⟨i, ⟨h1, h2⟩, h3⟩ | hp
  ·refine .inl ⟨i, ⟨h1, ?_⟩, h3⟩
   cases hb : x.testBit i with
   | false => rfl
   | true =>
    have := h.2 0 i hb
    rw [show (y :: a).getD 0 [] = y from rfl] at this
    rw [this] at h2; simp at h2
  ·exact .inr (unordM_mem ⟨by have := h.1; simpa using this, fun j i hj => h.2 (j + 1) i hj⟩ hp)

/-- What can be told of a drawn region beforehand; then over what it has looked at and written. -/
def stillM (all : List Oper) : Bool := orderOK all && stillCheckM all all (ancM all) []
def checkM (ops : Array Oper) (draw : Bool) (qs : List Tq) : Bool := match draw with
 | false => true
 | true => stillM ops.toList && (unordM (ancM ops.toList) 0).all fun p => memA (qs.getD p.1 noTq) (qs.getD p.2 noTq)

theorem checkM_ok {ops : Array Oper} {draw : Bool} {qs : List Tq} (hl : qs.length = ops.toList.length) (h : checkM ops draw qs = true) : Is (checkR ops draw qs) true := by
 cases draw with
 | false => rfl
 | true =>
  simp only [checkM, stillM, Bool.and_eq_true] at h
  obtain ⟨⟨h1, h2⟩, h3⟩ := h
  have hok := ancM_ok ops.toList
  refine checkR_un _ (by unfold stillOK; rw [h1, stillCheckM_ok hok h2]; rfl) rfl hl ?_
  rw [List.all_eq_true] at h3 ⊢
  exact fun p hp => h3 p (unordM_mem hok hp)

/-! ### The run -/
def runT [Gl] (P : Program) (cfg : Cfg) (call : CallF) (fid rid : Nat) (all : List Oper) : List Oper → St → Option (St × List Tq)
 | [], s => some (s, [])
 | o :: r, s => match opW P cfg fid rid call all o s with
  | some q => match runT P cfg call fid rid all r (s.put o.dst q) with
   | some (t, qs) => some (t, Tq.of q :: qs)
   | none => none
  | none => none

def execT [Gl] (P : Program) (cfg : Cfg) : Nat → FuncId → Code → St → Option (Ex × St)
 | 0, _, _, _ => none
 | k + 1, fid, c, s =>
  match c with
  | .skip => some (.normal, s)
  | .ret => some (.ret, s)
  | .exit id => some (.exit id, s)
  | .seq a b => match execT P cfg k fid a s with
   | some (.normal, s) => execT P cfg k fid b s
   | r => r
  | .cond q a b => match evalV s.env q with
   | .d (.bool true) => execT P cfg k fid a s
   | .d (.bool false) => execT P cfg k fid b s
   | _ => none
  | .block id b => match execT P cfg k fid b s with
   | some (.exit i, s) => match Nat.beq i id with | true => some (.normal, s) | false => some (.exit i, s)
   | r => r
  | .loop b => match execT P cfg k fid b s with
   | some (.normal, t) => execT P cfg k fid (.loop b) (match cfg.own fid with | true => t | false => { t with hp := Hp.trunc s.n t.hp, n := s.n })
   | r => r
  | .region id ops draw => match runT P cfg (callBy P cfg (execT P cfg k)) fid id ops.toList ops.toList s with
   | some (t, qs) => match checkM ops draw qs with
    | true => some (.normal, keepSt (mats t (cfg.mat fid id)) (cfg.keep fid id))
    | false => none
   | none => none
  | _ => none

def callT [Gl] (P : Program) (cfg : Cfg) (k : Nat) : CallF := callBy P cfg (execT P cfg k)

/-- A way of calling that gives no more than the machine does. -/
def Under [Gl] (P : Program) (cfg : Cfg) (call : CallF) : Prop := ∀ f vs hp n c r, call f vs hp n c = some r → lim P cfg f vs hp n c = some r

theorem callR_under [Gl] {call : CallF} (hc : Under P cfg call) {hp : Hp} {n c : Nat} {f : FuncId} {vs : List V} {r : Res} (h : callR cfg call hp n c f vs = some r) : callR cfg (lim P cfg) hp n c f vs = some r := by
 unfold callR at h ⊢
 split at h
 ·rename_i ws ids hcl
  split at h
  ·rename_i r0 hr0
   simp only [hc _ _ _ _ _ _ hr0]
   exact h
  ·simp at h
 ·rename_i hcl
  split at h
  ·rename_i r0 hr0
   simp only [hc _ _ _ _ _ _ hr0]
   exact h
  ·simp at h

theorem opW_under [Gl] {call : CallF} (hc : Under P cfg call) {fid rid : Nat} {all : List Oper} {o : Oper} {s : St} {r : Res} (h : opW P cfg fid rid call all o s = some r) : opW P cfg fid rid (lim P cfg) all o s = some r := by
 unfold opW at h ⊢
 split at h
 ·split at h
  ·rename_i q hq
   have : opR P cfg fid rid (lim P cfg) o s = some q := by
    unfold opR at hq ⊢
    split at hq
    ·rename_i fo args ts ho
     split at hq
     ·rename_i f caps hf
      split at hq
      ·exact hq
      ·exact callR_under hc hq
     ·simp at hq
    ·exact hq
   rw [this]
   exact h
  ·simp at h
 ·exact h
 ·simp at h

theorem runT_RT [Gl] {call : CallF} (hc : Under P cfg call) {fid rid : Nat} {all : List Oper} : ∀ {l : List Oper} {s t : St} {qs : List Tq}, runT P cfg call fid rid all l s = some (t, qs) → RT P cfg fid rid (l.map (prepO all)) s t qs ∧ qs.length = l.length
 | [], s, t, qs, h => by simp only [runT, Option.some.injEq, Prod.mk.injEq] at h; obtain ⟨rfl, rfl⟩ := h; exact ⟨.nil, rfl⟩
 | o :: r, s, t, qs, h => by
  simp only [runT] at h
  split at h
  ·rename_i q hq
   split at h
   ·rename_i t' qs' hr
    simp only [Option.some.injEq, Prod.mk.injEq] at h; obtain ⟨rfl, rfl⟩ := h
    obtain ⟨h1, h2⟩ := runT_RT hc hr
    exact ⟨.cons (by rw [opP_eq]; exact opW_under hc hq) h1, by simp [h2]⟩
   ·simp at h
  ·simp at h

theorem callBy_under [Gl] {run : FuncId → Code → St → Option (Ex × St)} (hr : ∀ f c s e t, run f c s = some (e, t) → Runs P cfg f c s e t) : Under P cfg (callBy P cfg run) := by
 intro f vs hp n c r h
 unfold callBy at h
 split at h
 ·rename_i fn hf
  split at h
  ·rename_i body hb
   split at h
   ·rename_i hok
    cases hrun : run f body (enter vs hp n c) with
    | none => rw [hrun] at h; simp [leave] at h
    | some q =>
     obtain ⟨e, t⟩ := q
     obtain ⟨K, hK⟩ := hr _ _ _ _ _ hrun
     rw [hrun] at h
     refine lim_of ⟨K, fun k hk => ?_⟩
     unfold callF callBy
     rw [hf]
     simp only [hb, hok, hK k hk]
     exact h
   ·simp at h
  ·simp at h
 ·simp at h

theorem execT_runs [Gl] : ∀ (k : Nat) (fid : FuncId) (c : Code) (s : St) (e : Ex) (t : St), execT P cfg k fid c s = some (e, t) → Runs P cfg fid c s e t
 | 0, fid, c, s, e, t, h => by simp [execT] at h
 | k + 1, fid, c, s, e, t, h => by
  have ih := execT_runs k
  cases c with
  | skip => simp [execT] at h; obtain ⟨rfl, rfl⟩ := h; exact .skip
  | ret => simp [execT] at h; obtain ⟨rfl, rfl⟩ := h; exact .ret
  | exit id => simp [execT] at h; obtain ⟨rfl, rfl⟩ := h; exact .exit
  | seq a b =>
   simp only [execT] at h
   split at h
   ·rename_i s' ha
    exact (ih _ _ _ _ _ ha).seq (ih _ _ _ _ _ h)
   ·rename_i hn
    exact (ih _ _ _ _ _ h).seq_out (by rintro rfl; exact hn _ h)
  | cond q a b =>
   simp only [execT] at h
   split at h
   ·rename_i hq; exact .cond_true hq (ih _ _ _ _ _ h)
   ·rename_i hq; exact .cond_false hq (ih _ _ _ _ _ h)
   ·simp at h
  | block id b =>
   simp only [execT] at h
   split at h
   ·rename_i i s' hb
    split at h
    ·rename_i hi
     have := Nat.eq_of_beq_eq_true hi
     subst this
     simp at h; obtain ⟨rfl, rfl⟩ := h
     exact .block_exit (ih _ _ _ _ _ hb)
    ·rename_i hi
     simp at h; obtain ⟨rfl, rfl⟩ := h
     exact .block_other (ih _ _ _ _ _ hb) (by rintro rfl; simp at hi)
   ·rename_i hn
    exact .block (ih _ _ _ _ _ h) (by rintro j rfl; exact hn _ _ h)
  | loop b =>
   simp only [execT] at h
   split at h
   ·rename_i t' hb
    refine .round (ih _ _ _ _ _ hb) ?_
    have := ih _ _ _ _ _ h
    unfold cut
    cases ho : cfg.own fid with
    | true => rw [ho] at this; exact this
    | false => rw [ho] at this; exact this
   ·rename_i hn
    exact .loop_out (ih _ _ _ _ _ h) (by rintro rfl; exact hn _ h)
  | region id ops draw =>
   simp only [execT] at h
   split at h
   ·rename_i t' qs hr
    split at h
    ·rename_i hc
     simp only [Option.some.injEq, Prod.mk.injEq] at h; obtain ⟨rfl, rfl⟩ := h
     obtain ⟨h1, h2⟩ := runT_RT (callBy_under ih) hr
     obtain ⟨e', t'', hw, hq⟩ := WP.reg (Q := fun e u => e = .normal ∧ u = endR cfg fid id t') (hR := rfl) (hr := h1) (checkM_ok h2 hc) (ht := rfl) ⟨rfl, rfl⟩
     obtain ⟨rfl, rfl⟩ := hq
     exact hw
    ·simp at h
   ·simp at h
  | _ => simp [execT] at h

theorem callT_lim [Gl] {k : Nat} {f : FuncId} {vs : List V} {hp : Hp} {n c : Nat} {r : CR} (h : callT P cfg k f vs hp n c = some r) : lim P cfg f vs hp n c = some r :=
 callBy_under (fun f c s e t h => execT_runs k f c s e t h) f vs hp n c r h

theorem den_t [Gl] (k : Nat) {f : FuncId} {vs : List V} {v : V} (h : (match callT P cfg k f vs [] 0 0 with | some r => (match closeT noLook r.v with | some _ => some r.v | none => none) | none => none) = some v) : den P cfg f vs = some v := by
 split at h
 ·rename_i r hr
  have hl := lim_some (callT_lim hr)
  split at h
  ·rename_i w hw
   simp only [Option.some.injEq] at h
   subst h
   exact den_of hl (by rw [hw]; rfl)
  ·simp at h
 ·simp at h
end Go.Ac
end

section
namespace Go.Ac
instance : Gl := ⟨fun g => .any, fun g => by simp⟩
def Ob.k8 (r : Nat) : Option (List Nat) := match r with
 | 0 => some [1, 2, 3, 4]
 | 1 => some [1, 2, 3, 4, 31]
 | 2 => some [8]
 | 3 => some [1, 2, 3, 4, 9, 10]
 | 4 => some [2, 3, 9, 10, 11, 12]
 | 5 => some [2, 3, 9, 10, 11, 12, 58]
 | 6 => some [8]
 | 7 => some [2, 3, 9, 11, 13]
 | 8 => some [2, 3, 9, 11, 13, 14]
 | 9 => some [2, 3, 9, 11, 13, 14, 82]
 | 10 => some [2, 3, 9, 11, 13, 14]
 | 11 => some [2, 3, 9, 11, 13, 14]
 | 12 => some [3, 9, 11, 13, 95]
 | 13 => some [8]
 | 14 => some [3, 9, 11, 13, 15]
 | 15 => some [3, 9, 11, 13, 15, 99]
 | 16 => some [3, 9, 11, 13, 15]
 | 17 => some [3, 9, 11, 13, 15, 16, 17]
 | 18 => some [3, 9, 11, 13, 15, 16, 17, 18, 19]
 | 19 => some [3, 9, 11, 13, 15, 136]
 | 20 => some [8]
 | 21 => some [9, 13]
 | 22 => some [8]
 | _ => none
def Ob.k9 (r : Nat) : Option (List Nat) := match r with
 | 0 => some [1]
 | 1 => some [1, 3]
 | 2 => some [1, 3, 4]
 | 3 => some [1, 3, 4, 5]
 | 4 => some [1, 3, 4, 5, 25]
 | 5 => some [1, 3, 4, 5]
 | 6 => some [1, 3, 4, 5, 6]
 | 7 => some [1, 3, 4, 5, 6, 7]
 | 8 => some [1, 3, 4, 5, 6]
 | 9 => some [1, 3, 4, 5]
 | 10 => some [2]
 | _ => none
def Ob.k10 (r : Nat) : Option (List Nat) := match r with
 | 0 => some []
 | 1 => some [1, 2]
 | 2 => some [1, 18]
 | 3 => some [0]
 | 4 => some [1, 3, 4]
 | 5 => some [1, 3, 4, 5, 6]
 | 6 => some [1, 3, 4, 5, 6, 7]
 | 7 => some [1, 3, 4, 5, 6, 7]
 | 8 => some [0]
 | _ => none
def Ob.k11 (r : Nat) : Option (List Nat) := match r with
 | 0 => some [1]
 | 1 => some [1, 11]
 | 2 => some [2]
 | 3 => some [1, 13, 14, 15]
 | 4 => some [1, 13, 14, 15, 16]
 | 5 => some [1, 4, 13, 14, 15]
 | 6 => some [1, 13, 14, 15, 28]
 | 7 => some [2]
 | 8 => some [1, 13, 14, 15]
 | 9 => some [1, 31, 32, 33]
 | 10 => some [1, 31, 32, 33, 34]
 | 11 => some [1, 5, 6, 31, 32, 33]
 | 12 => some [1, 7, 31, 32, 33]
 | 13 => some [1, 7, 31, 32, 33, 48]
 | 14 => some [2]
 | 15 => some [1, 31, 32, 33]
 | 16 => some [2]
 | _ => none
def Ob.k13 (r : Nat) : Option (List Nat) := match r with
 | 0 => some [1, 2]
 | 1 => some [1, 2, 6]
 | 2 => some [1, 2, 6, 11]
 | 3 => some [4, 5]
 | 4 => some [2, 7]
 | 5 => some [2, 7, 17]
 | 6 => some [4, 5]
 | 7 => some [4, 5]
 | _ => none
def Ob.k14 (r : Nat) : Option (List Nat) := match r with
 | 0 => some [0, 1]
 | 1 => some [0, 1, 8]
 | 2 => some [4, 5]
 | 3 => some [0, 1, 11]
 | 4 => some [4, 5]
 | 5 => some [0, 1, 25, 26, 27]
 | 6 => some [0, 1, 25, 26, 27, 28]
 | 7 => some [0, 1, 6, 7, 25, 26, 27]
 | 8 => some [0, 1, 25, 26, 27, 43]
 | 9 => some [4, 5]
 | 10 => some [0, 1, 25, 26, 27]
 | 11 => some [4, 5]
 | _ => none
def Ob.k15 (r : Nat) : Option (List Nat) := match r with
 | 0 => some [0, 1, 2]
 | 1 => some [0, 1, 2, 8]
 | 2 => some [6]
 | 3 => some [6]
 | _ => none
def Ob.k16 (r : Nat) : Option (List Nat) := match r with
 | 0 => some [2, 3]
 | 1 => some [4]
 | _ => none
def Ob.k20 (r : Nat) : Option (List Nat) := match r with
 | 0 => some [0, 1]
 | 1 => some [0, 1, 10]
 | 2 => some [4]
 | 3 => some [0, 1, 5]
 | 4 => some [0, 1, 5, 14]
 | 5 => some [0, 1, 5]
 | 6 => some [0, 1, 5, 25]
 | 7 => some [4]
 | 8 => some [4]
 | _ => none
def Ob.k21 (r : Nat) : Option (List Nat) := match r with
 | 0 => some [0]
 | 1 => some [0, 9]
 | 2 => some [2]
 | 3 => some [0, 3]
 | 4 => some [0, 3, 14, 15, 16]
 | 5 => some [0, 3, 14, 15, 16, 17]
 | 6 => some [0, 3, 5, 14, 15, 16]
 | 7 => some [0, 3, 14, 15, 16]
 | 8 => some [0, 3, 14, 15, 16]
 | 9 => some [0, 3, 35, 36, 37]
 | 10 => some [0, 3, 35, 36, 37, 38]
 | 11 => some [0, 3, 7, 35, 36, 37]
 | 12 => some [0, 3, 35, 36, 37]
 | 13 => some [0, 3, 35, 36, 37]
 | 14 => some [2]
 | _ => none
def Ob.k23 (r : Nat) : Option (List Nat) := match r with
 | 0 => some [0, 7]
 | 1 => some [0, 12, 13, 14]
 | 2 => some [0, 12, 13, 14, 15]
 | 3 => some [0, 3, 12, 13, 14]
 | 4 => some [0, 12, 13, 14]
 | 5 => some [0, 12, 13, 14]
 | 6 => some [31]
 | 7 => some [31, 33]
 | 8 => some [5, 31]
 | 9 => some [31]
 | _ => none
def Ob.k24 (r : Nat) : Option (List Nat) := match r with
 | 0 => some [0, 1]
 | 1 => some [0, 1, 9]
 | 2 => some [4]
 | 3 => some [0, 1, 5]
 | 4 => some [0, 1, 5, 16]
 | 5 => some [4]
 | 6 => some [0, 1, 17, 18, 19]
 | 7 => some [0, 1, 17, 18, 19, 20]
 | 8 => some [0, 1, 6, 7, 17, 18, 19]
 | 9 => some [0, 1, 17, 18, 19, 34]
 | 10 => some [4]
 | 11 => some [0, 1, 17, 18, 19]
 | 12 => some []
 | 13 => some [4]
 | _ => none
def Ob.k26 (r : Nat) : Option (List Nat) := match r with
 | 0 => some [1, 2]
 | 1 => some [1, 2, 5]
 | 2 => some [1, 2, 5, 6]
 | 3 => some [1, 2, 5, 6, 25]
 | 4 => some [1, 2, 5, 6]
 | 5 => some [1, 2, 5, 6]
 | 6 => some [1, 2, 5, 7]
 | 7 => some [1, 2, 5, 7, 46]
 | 8 => some [1, 2, 5, 7]
 | 9 => some [1, 2, 5, 7, 8]
 | 10 => some [1, 2, 5, 7, 8]
 | 11 => some [1, 2, 5, 7, 8, 87]
 | 12 => some [1, 2, 5, 7]
 | 13 => some [4]
 | _ => none
def Ob.k27 (r : Nat) : Option (List Nat) := match r with
 | 0 => some [0, 1]
 | 1 => some [0, 1, 5]
 | 2 => some [0, 1, 5, 6]
 | 3 => some [0, 1, 5, 6, 18]
 | 4 => some [0, 1, 5, 6]
 | 5 => some [0, 1, 5, 6, 7]
 | 6 => some [0, 1, 5, 6, 7]
 | 7 => some [0, 1, 5, 6, 7, 8]
 | 8 => some [0, 1, 5, 6, 7, 8, 45]
 | 9 => some [0, 1, 5, 6, 7, 8]
 | 10 => some [0, 1, 5, 6, 7, 8]
 | 11 => some [0, 1, 5, 6, 7]
 | 12 => some [0, 1, 5, 6, 7, 9]
 | 13 => some [0, 1, 5, 6, 7, 9, 71]
 | 14 => some [0, 1, 5, 6, 7, 9]
 | 15 => some [0, 1, 5, 6, 7, 9]
 | 16 => some [4]
 | _ => none
def Ob.k28 (r : Nat) : Option (List Nat) := match r with
 | 0 => some [0]
 | 1 => some [0, 1]
 | 2 => some [0, 1]
 | 3 => some [0]
 | _ => none
def Ob.k29 (r : Nat) : Option (List Nat) := match r with
 | 0 => some [0, 1, 5]
 | 1 => some [5, 7]
 | 2 => some [5, 7, 26, 27, 28]
 | 3 => some [5, 7, 26, 27, 28, 29]
 | 4 => some [5, 7, 9, 26, 27, 28]
 | 5 => some [5, 7, 26, 27, 28]
 | 6 => some [5, 7, 26, 27, 28]
 | 7 => some [5, 7, 45, 46]
 | 8 => some [5, 7, 45, 46, 47]
 | 9 => some [5, 7, 11, 45, 46]
 | 10 => some [5, 7, 45, 46, 49, 50, 51]
 | 11 => some [5, 7, 45, 46, 49, 50, 51, 52]
 | 12 => some [5, 7, 13, 45, 46, 49, 50, 51]
 | 13 => some [5, 7, 45, 46, 49, 50, 51]
 | 14 => some [5, 7, 45, 46, 49, 50, 51]
 | 15 => some [5, 7, 45, 46]
 | 16 => some [7, 76, 77, 78]
 | 17 => some [7, 76, 77, 78, 79]
 | 18 => some [7, 15, 76, 77, 78]
 | 19 => some [7, 76, 77, 78]
 | 20 => some [7, 76, 77, 78]
 | 21 => some [6]
 | _ => none
def Ob.k30 (r : Nat) : Option (List Nat) := match r with
 | 0 => some [1]
 | 1 => some [1, 13]
 | 2 => some [2]
 | 3 => some [1, 3]
 | 4 => some [1, 3, 17]
 | 5 => some [2]
 | 6 => some [1, 4]
 | 7 => some [1, 4, 28]
 | 8 => some [2]
 | 9 => some [1, 5]
 | 10 => some [5, 41, 42, 43]
 | 11 => some [5, 41, 42, 43, 44]
 | 12 => some [5, 7, 41, 42, 43]
 | 13 => some [5, 41, 42, 43, 51]
 | 14 => some [2]
 | 15 => some [5, 41, 42, 43]
 | 16 => some [2]
 | _ => none
def Ob.k34 (r : Nat) : Option (List Nat) := match r with
 | 0 => some [2, 3]
 | 1 => some [4]
 | _ => none
def Ob.k35 (r : Nat) : Option (List Nat) := match r with
 | 0 => some [1, 2]
 | 1 => some [2, 5]
 | 2 => some [2, 5, 25, 26, 27]
 | 3 => some [2, 5, 25, 26, 27, 28]
 | 4 => some [2, 5, 7, 25, 26, 27]
 | 5 => some [2, 5, 25, 26, 27]
 | 6 => some [2, 5, 25, 26, 27]
 | 7 => some [2, 5, 44, 45, 46]
 | 8 => some [2, 5, 44, 45, 46, 47]
 | 9 => some [2, 5, 9, 44, 45, 46]
 | 10 => some [2, 5, 44, 45, 46]
 | 11 => some [2, 5, 44, 45, 46]
 | 12 => some [4]
 | _ => none
def Ob.k36 (r : Nat) : Option (List Nat) := match r with
 | 0 => some [1, 2]
 | 1 => some [1, 2, 3]
 | 2 => some [1, 2, 3, 9, 10, 11]
 | 3 => some [1, 2, 3, 9, 10, 11, 12]
 | 4 => some [1, 2, 3, 5, 9, 10, 11]
 | 5 => some [1, 2, 3, 9, 10, 11]
 | 6 => some [1, 2, 3, 9, 10, 11]
 | 7 => some [2, 3, 28, 29, 30]
 | 8 => some [2, 3, 28, 29, 30, 31]
 | 9 => some [2, 3, 7, 28, 29, 30]
 | 10 => some [2, 3, 28, 29, 30]
 | 11 => some [2, 3, 28, 29, 30]
 | 12 => some [2]
 | _ => none
def Ob.k37 (r : Nat) : Option (List Nat) := match r with
 | 0 => some [0, 1]
 | 1 => some [0, 1, 5]
 | 2 => some [0, 1, 5, 18, 19, 20]
 | 3 => some [0, 1, 5, 18, 19, 20, 21]
 | 4 => some [0, 1, 5, 6, 7, 18, 19, 20]
 | 5 => some [0, 1, 5, 18, 19, 20]
 | 6 => some [0, 1, 5, 18, 19, 20]
 | 7 => some [0, 5]
 | 8 => some [0, 5, 8]
 | 9 => some [5, 8, 45, 46, 47]
 | 10 => some [5, 8, 45, 46, 47, 48]
 | 11 => some [5, 8, 10, 45, 46, 47]
 | 12 => some [5, 8, 45, 46, 47]
 | 13 => some [5, 8, 45, 46, 47]
 | 14 => some [4]
 | _ => none
def Ob.k38 (r : Nat) : Option (List Nat) := match r with
 | 0 => some [0]
 | 1 => some [2]
 | _ => none
def Ob.k39 (r : Nat) : Option (List Nat) := match r with
 | 0 => some [0, 1]
 | 1 => some [0, 1, 7]
 | 2 => some [0, 1, 7, 8]
 | 3 => some [4]
 | 4 => some [0, 1, 10]
 | 5 => some [4]
 | 6 => some [5]
 | 7 => some [4]
 | _ => none
def Ob.k40 (r : Nat) : Option (List Nat) := match r with
 | 0 => some [0, 1, 2]
 | 1 => some [0, 1, 2, 14]
 | 2 => some [6]
 | 3 => some [1, 2, 15, 16, 17]
 | 4 => some [1, 2, 15, 16, 17, 18]
 | 5 => some [1, 2, 7, 8, 15, 16, 17]
 | 6 => some [1, 2, 8, 9, 15, 16, 17]
 | 7 => some [1, 2, 15, 16, 17, 30]
 | 8 => some [6]
 | 9 => some [1, 2, 15, 16, 17]
 | 10 => some [6]
 | _ => none
def Ob.k43 (r : Nat) : Option (List Nat) := match r with
 | 0 => some [0, 1, 2]
 | 1 => some [0, 1, 2, 14]
 | 2 => some [6]
 | 3 => some [1, 2, 15, 16, 17]
 | 4 => some [1, 2, 15, 16, 17, 18]
 | 5 => some [1, 2, 7, 8, 15, 16, 17]
 | 6 => some [1, 2, 8, 9, 15, 16, 17]
 | 7 => some [1, 2, 15, 16, 17, 30]
 | 8 => some [6]
 | 9 => some [1, 2, 15, 16, 17]
 | 10 => some [6]
 | _ => none
def Ob.k55 (r : Nat) : Option (List Nat) := match r with
 | 0 => some [0]
 | 1 => some [0, 3]
 | 2 => some [0, 3, 12, 13, 14]
 | 3 => some [0, 3, 12, 13, 14, 15]
 | 4 => some [0, 3, 5, 12, 13, 14]
 | 5 => some [0, 3, 12, 13, 14]
 | 6 => some [0, 3, 12, 13, 14]
 | 7 => some [0, 3, 28, 29, 30]
 | 8 => some [0, 3, 28, 29, 30, 31]
 | 9 => some [0, 3, 7, 28, 29, 30]
 | 10 => some [0, 3, 28, 29, 30]
 | 11 => some [0, 3, 28, 29, 30]
 | 12 => some [2]
 | _ => none
def Ob.k56 (r : Nat) : Option (List Nat) := match r with
 | 0 => some [0, 1]
 | 1 => some [0, 1, 13, 14, 15]
 | 2 => some [0, 1, 13, 14, 15, 16]
 | 3 => some [0, 1, 6, 13, 14, 15]
 | 4 => some [0, 1, 13, 14, 15]
 | 5 => some [0, 1, 13, 14, 15]
 | 6 => some [0, 1, 13, 14, 15]
 | 7 => some [0, 1, 35, 36, 37]
 | 8 => some [0, 1, 35, 36, 37, 38]
 | 9 => some [0, 1, 8, 35, 36, 37]
 | 10 => some [0, 1, 35, 36, 37]
 | 11 => some [0, 1, 35, 36, 37]
 | 12 => some [4]
 | _ => none
def Ob.k59 (r : Nat) : Option (List Nat) := match r with
 | 0 => some [0, 1]
 | 1 => some [0, 1, 5]
 | 2 => some [0, 1, 5, 6]
 | 3 => some [0, 1, 5, 6, 17]
 | 4 => some [0, 1, 5, 6]
 | 5 => some [0, 1, 5, 6]
 | 6 => some [4]
 | _ => none
def Ob.k60 (r : Nat) : Option (List Nat) := match r with
 | 0 => some [0, 1]
 | 1 => some [0, 1, 5]
 | 2 => some [0, 1, 5, 6]
 | 3 => some [0, 1, 5, 6, 17]
 | 4 => some [0, 1, 5, 6]
 | 5 => some [0, 1, 5, 6]
 | 6 => some [4]
 | _ => none
def Ob.k61 (r : Nat) : Option (List Nat) := match r with
 | 0 => some [0, 1]
 | 1 => some [0, 1, 5]
 | 2 => some [0, 1, 5, 6]
 | 3 => some [0, 1, 5, 6, 17]
 | 4 => some [0, 1, 5, 6]
 | 5 => some [0, 1, 5, 6]
 | 6 => some [4]
 | _ => none
def Ob.k62 (r : Nat) : Option (List Nat) := match r with
 | 0 => some [0, 1]
 | 1 => some [0, 1, 5]
 | 2 => some [0, 1, 5, 6]
 | 3 => some [0, 1, 5, 6, 19]
 | 4 => some [0, 1, 5, 6]
 | 5 => some [0, 1, 5, 6, 7]
 | 6 => some [0, 1, 5, 6, 7, 34]
 | 7 => some [0, 1, 5, 6, 7]
 | 8 => some [0, 1, 5, 6, 7, 8]
 | 9 => some [0, 1, 5, 6, 7, 8]
 | 10 => some [0, 1, 5, 6, 7, 8, 69]
 | 11 => some [0, 1, 5, 6, 7]
 | 12 => some [4]
 | _ => none
def Ob.k63 (r : Nat) : Option (List Nat) := match r with
 | 0 => some [1, 2]
 | 1 => some [1, 2, 5]
 | 2 => some [1, 2, 5, 6]
 | 3 => some [1, 2, 5, 6, 16]
 | 4 => some [1, 2, 5, 6]
 | 5 => some [1, 2, 5, 6]
 | 6 => some [4]
 | _ => none
def Ob.k64 (r : Nat) : Option (List Nat) := match r with
 | 0 => some [0, 3, 4]
 | 1 => some [4]
 | _ => none
def Ob.k65 (r : Nat) : Option (List Nat) := match r with
 | 0 => some [0, 2]
 | 1 => some [2]
 | _ => none
def Ob.k66 (r : Nat) : Option (List Nat) := match r with
 | 0 => some [0, 2]
 | 1 => some [2]
 | _ => none
def Ob.k67 (r : Nat) : Option (List Nat) := match r with
 | 0 => some [0, 1]
 | 1 => some [4]
 | _ => none
def Ob.k68 (r : Nat) : Option (List Nat) := match r with
 | 0 => some [1, 2]
 | 1 => some [3]
 | _ => none
def Ob.k69 (r : Nat) : Option (List Nat) := match r with
 | 0 => some [0]
 | 1 => some [0, 32, 33]
 | 2 => some [0, 32, 33, 34]
 | 3 => some [0, 4, 32, 33]
 | 4 => some [0, 32, 33, 36, 37, 38]
 | 5 => some [0, 32, 33, 36, 37, 38, 39]
 | 6 => some [0, 6, 32, 33, 36, 37, 38]
 | 7 => some [0, 6, 8, 32, 33, 36, 37, 38]
 | 8 => some [0, 6, 32, 33, 36, 37, 38, 53]
 | 9 => some [2]
 | 10 => some [0, 32, 33, 36, 37, 38, 57]
 | 11 => some [2]
 | 12 => some [0, 32, 33, 36, 37, 38]
 | 13 => some [0, 32, 33]
 | 14 => some [0, 64, 65, 66]
 | 15 => some [0, 64, 65, 66, 67]
 | 16 => some [0, 10, 64, 65, 66]
 | 17 => some [0, 64, 65, 66, 79]
 | 18 => some [2]
 | 19 => some [0, 64, 65, 66]
 | 20 => some [0, 11]
 | 21 => some [0, 11, 83, 84, 85]
 | 22 => some [0, 11, 83, 84, 85, 86]
 | 23 => some [0, 11, 13, 83, 84, 85]
 | 24 => some [0, 11, 13, 83, 84, 85, 91]
 | 25 => some [2]
 | 26 => some [0, 11, 83, 84, 85]
 | 27 => some [0, 11, 83, 84, 85]
 | 28 => some [0, 99, 100, 101]
 | 29 => some [0, 99, 100, 101, 102]
 | 30 => some [0, 15, 99, 100, 101]
 | 31 => some [0, 15, 16, 99, 100, 101]
 | 32 => some [0, 15, 16, 99, 100, 101, 112]
 | 33 => some [2]
 | 34 => some [0, 99, 100, 101]
 | 35 => some [0, 99, 100, 101]
 | 36 => some [2]
 | _ => none
def Ob.k70 (r : Nat) : Option (List Nat) := match r with
 | 0 => some [0, 1, 5]
 | 1 => some [0, 1, 5, 10, 11, 12]
 | 2 => some [0, 1, 5, 10, 11, 12, 13]
 | 3 => some [0, 1, 5, 7, 8, 10, 11, 12]
 | 4 => some [0, 1, 5, 9, 10, 11, 12]
 | 5 => some [0, 1, 5, 9, 10, 11, 12, 25]
 | 6 => some [6]
 | 7 => some [0, 1, 5, 10, 11, 12]
 | 8 => some [6]
 | _ => none
def Ob.k71 (r : Nat) : Option (List Nat) := match r with
 | 0 => some [3, 4, 5]
 | 1 => some [6]
 | _ => none
def Ob.k78 (r : Nat) : Option (List Nat) := match r with
 | 0 => some [0, 1]
 | 1 => some [0, 1, 7, 8]
 | 2 => some [0, 1, 7, 8, 9]
 | 3 => some [0, 1, 5, 7, 8]
 | 4 => some [0, 1, 5, 7, 8, 16]
 | 5 => some [4]
 | 6 => some [0, 1, 7, 8]
 | 7 => some [4]
 | _ => none
def Ob.k79 (r : Nat) : Option (List Nat) := match r with
 | 0 => some [1, 2]
 | 1 => some [3]
 | _ => none
def Ob.k80 (r : Nat) : Option (List Nat) := match r with
 | 0 => some [0]
 | 1 => some [0, 4]
 | 2 => some [2]
 | 3 => some [2]
 | _ => none
def Ob.k81 (r : Nat) : Option (List Nat) := match r with
 | 0 => some [0]
 | 1 => some [0, 4]
 | 2 => some [2]
 | 3 => some [2]
 | _ => none
def Ob.k82 (r : Nat) : Option (List Nat) := match r with
 | 0 => some [0]
 | 1 => some [0, 4]
 | 2 => some [2]
 | 3 => some [2]
 | _ => none
def Ob.k83 (r : Nat) : Option (List Nat) := match r with
 | 0 => some [0]
 | 1 => some [0, 4]
 | 2 => some [2]
 | 3 => some [2]
 | _ => none
def Ob.k84 (r : Nat) : Option (List Nat) := match r with
 | 0 => some [0]
 | 1 => some [0, 3]
 | 2 => some [3, 9, 10, 11]
 | 3 => some [3, 9, 10, 11, 12]
 | 4 => some [3, 5, 9, 10, 11]
 | 5 => some [3, 5, 6, 9, 10, 11]
 | 6 => some [3, 6, 9, 10, 11, 35, 36, 37]
 | 7 => some [3, 6, 9, 10, 11, 35, 36, 37, 38]
 | 8 => some [3, 6, 8, 9, 10, 11, 35, 36, 37]
 | 9 => some [3, 6, 9, 10, 11, 35, 36, 37]
 | 10 => some [3, 6, 9, 10, 11, 35, 36, 37]
 | 11 => some [3, 9, 10, 11]
 | 12 => some [3, 9, 10, 11]
 | 13 => some [2]
 | _ => none
def Ob.k85 (r : Nat) : Option (List Nat) := match r with
 | 0 => some [1, 2]
 | 1 => some [2, 9, 10, 11]
 | 2 => some [2, 9, 10, 11, 12]
 | 3 => some [2, 5, 9, 10, 11]
 | 4 => some [2, 5, 9, 10, 11, 16]
 | 5 => some [2, 5, 9, 10, 11, 16, 17]
 | 6 => some [2, 9, 10, 11]
 | 7 => some [2, 5, 9, 10, 11, 16, 27]
 | 8 => some [2, 9, 10, 11]
 | 9 => some [2, 5, 9, 10, 11, 16, 40]
 | 10 => some [2, 5, 6, 9, 10, 11]
 | 11 => some [2, 5, 6, 9, 10, 11, 55]
 | 12 => some [2, 9, 10, 11]
 | 13 => some [2, 5, 9, 10, 11, 16, 63]
 | 14 => some [2, 5, 9, 10, 11, 77, 78, 79]
 | 15 => some [2, 5, 9, 10, 11, 77, 78, 79, 80]
 | 16 => some [2, 5, 7, 8, 9, 10, 11, 77, 78, 79]
 | 17 => some [2, 5, 9, 10, 11, 77, 78, 79]
 | 18 => some [2, 5, 9, 10, 11, 77, 78, 79]
 | 19 => some [2, 5, 9, 10, 11, 93]
 | 20 => some [2, 9, 10, 11]
 | 21 => some [2, 9, 10, 11]
 | _ => none
def Ob.k86 (r : Nat) : Option (List Nat) := match r with
 | 0 => some [0, 1, 4]
 | 1 => some [0, 1, 4, 14]
 | 2 => some [4, 5]
 | 3 => some [4, 5]
 | _ => none
def Ob.k105 (r : Nat) : Option (List Nat) := match r with
 | 0 => some [0, 1]
 | 1 => some [0, 1, 5]
 | 2 => some [0, 1, 5, 6]
 | 3 => some [0, 1, 5, 6, 17]
 | 4 => some [0, 1, 5, 6]
 | 5 => some [0, 1, 5, 6]
 | 6 => some [4]
 | _ => none
def Ob.k106 (r : Nat) : Option (List Nat) := match r with
 | 0 => some [0, 1]
 | 1 => some [0, 1, 8]
 | 2 => some [0, 1, 8, 9]
 | 3 => some [4, 5]
 | 4 => some [0, 1, 11]
 | 5 => some [4, 5]
 | 6 => some [6, 7]
 | 7 => some [4, 5]
 | _ => none
def Ob.k107 (r : Nat) : Option (List Nat) := match r with
 | 0 => some [0]
 | 1 => some [0, 3]
 | 2 => some [0, 3, 27, 28]
 | 3 => some [0, 3, 27, 28, 29]
 | 4 => some [0, 3, 5, 27, 28]
 | 5 => some [0, 3, 27, 28, 31, 32, 33]
 | 6 => some [0, 3, 27, 28, 31, 32, 33, 34]
 | 7 => some [0, 3, 7, 27, 28, 31, 32, 33]
 | 8 => some [0, 3, 27, 28, 31, 32, 33]
 | 9 => some [0, 3, 27, 28, 31, 32, 33]
 | 10 => some [0, 3, 27, 28]
 | 11 => some [0, 3, 48, 49, 50]
 | 12 => some [0, 3, 48, 49, 50, 51]
 | 13 => some [0, 3, 9, 48, 49, 50]
 | 14 => some [0, 3, 48, 49, 50]
 | 15 => some [0, 3, 48, 49, 50]
 | 16 => some [3, 64, 65, 66]
 | 17 => some [3, 64, 65, 66, 67]
 | 18 => some [3, 11, 64, 65, 66]
 | 19 => some [3, 64, 65, 66]
 | 20 => some [3, 64, 65, 66]
 | 21 => some [2]
 | _ => none
def Ob.k108 (r : Nat) : Option (List Nat) := match r with
 | 0 => some [1, 2]
 | 1 => some [3]
 | _ => none
def Ob.k109 (r : Nat) : Option (List Nat) := match r with
 | 0 => some [0, 4, 5]
 | 1 => some [0, 4, 5, 11]
 | 2 => some [6]
 | 3 => some [0, 4, 5, 13]
 | 4 => some [0, 4, 5, 13, 14]
 | 5 => some [6]
 | 6 => some [0, 4, 5, 13, 20]
 | 7 => some [6]
 | 8 => some [0, 4, 5, 26]
 | 9 => some [8]
 | 10 => some [39]
 | 11 => some [6]
 | 12 => some [6]
 | 13 => some [6]
 | _ => none
def Ob.k110 (r : Nat) : Option (List Nat) := match r with
 | 0 => some [1, 2, 3, 6]
 | 1 => some [6]
 | _ => none
def Ob.k111 (r : Nat) : Option (List Nat) := match r with
 | 0 => some [0, 1]
 | 1 => some [4]
 | _ => none
def Ob.k112 (r : Nat) : Option (List Nat) := match r with
 | 0 => some [0, 1, 2, 3]
 | 1 => some [5]
 | _ => none
def Ob.k113 (r : Nat) : Option (List Nat) := match r with
 | 0 => some [0, 5, 6, 7]
 | 1 => some [8]
 | _ => none
def Ob.k122 (r : Nat) : Option (List Nat) := match r with
 | 0 => some [0]
 | 1 => some [0, 3]
 | 2 => some [3, 6, 7, 8]
 | 3 => some [3, 6, 7, 8, 9]
 | 4 => some [3, 5, 6, 7, 8]
 | 5 => some [3, 5, 6, 7, 8]
 | 6 => some [3, 6, 7, 8]
 | 7 => some [3, 6, 7, 8]
 | 8 => some [2]
 | _ => none
def Ob.k123 (r : Nat) : Option (List Nat) := match r with
 | 0 => some [2, 3]
 | 1 => some [2, 3, 9]
 | 2 => some [2, 3, 9, 10]
 | 3 => some [4]
 | 4 => some [2, 3, 9, 14]
 | 5 => some [4]
 | 6 => some [2, 3, 21]
 | 7 => some [4]
 | 8 => some [3, 5]
 | 9 => some [3, 5, 37]
 | 10 => some [5, 41]
 | 11 => some [4]
 | 12 => some [4]
 | 13 => some [6]
 | 14 => some [4]
 | _ => none
def Ob.k124 (r : Nat) : Option (List Nat) := match r with
 | 0 => some [1, 2]
 | 1 => some [1, 2, 5]
 | 2 => some [2, 5, 8, 9, 10]
 | 3 => some [2, 5, 8, 9, 10, 11]
 | 4 => some [2, 5, 7, 8, 9, 10]
 | 5 => some [2, 5, 8, 9, 10]
 | 6 => some [2, 5, 8, 9, 10]
 | 7 => some [4]
 | _ => none
def Ob.k133 (r : Nat) : Option (List Nat) := match r with
 | 0 => some [1]
 | 1 => some [1, 3, 4]
 | 2 => some [1, 3, 4, 5]
 | 3 => some [3, 4, 5, 29]
 | 4 => some [3, 4, 5, 29, 30]
 | 5 => some [3, 4, 5, 29, 30]
 | 6 => some [2]
 | 7 => some [3, 4, 5, 29, 37]
 | 8 => some [2]
 | 9 => some [3, 4, 5, 29, 43]
 | 10 => some [2]
 | 11 => some [3, 4, 5, 49]
 | 12 => some [2]
 | 13 => some [2]
 | _ => none
def Ob.k134 (r : Nat) : Option (List Nat) := match r with
 | 0 => some [0, 4, 5]
 | 1 => some [0, 4, 5, 7, 8]
 | 2 => some [0, 4, 5, 7, 24]
 | 3 => some [6]
 | 4 => some [0, 4, 5, 7, 9]
 | 5 => some [0, 4, 5, 7, 9, 31]
 | 6 => some [6]
 | 7 => some [0, 4, 5, 7, 40]
 | 8 => some [6]
 | 9 => some [0, 4, 5, 50]
 | 10 => some [6]
 | 11 => some [0, 4, 5, 52, 53, 54]
 | 12 => some [0, 4, 5, 52, 53, 54, 55]
 | 13 => some [0, 4, 5, 10, 11, 52, 53, 54]
 | 14 => some [0, 4, 5, 12, 52, 53, 54]
 | 15 => some [0, 4, 5, 12, 52, 53, 54, 75]
 | 16 => some [6]
 | 17 => some [0, 4, 5, 52, 53, 54]
 | 18 => some [6]
 | _ => none
def Ob.k135 (r : Nat) : Option (List Nat) := match r with
 | 0 => some [0, 4, 5]
 | 1 => some [0, 4, 5, 7, 8]
 | 2 => some [0, 4, 5, 7, 27]
 | 3 => some [6]
 | 4 => some [0, 4, 5, 7, 43]
 | 5 => some [6]
 | 6 => some [0, 4, 5, 7, 45, 46, 47]
 | 7 => some [0, 4, 5, 7, 45, 46, 47, 48]
 | 8 => some [0, 4, 5, 7, 9, 10, 45, 46, 47]
 | 9 => some [0, 4, 5, 7, 9, 11, 12, 45, 46, 47]
 | 10 => some [0, 4, 5, 7, 9, 11, 12, 45, 46, 47, 60]
 | 11 => some [6]
 | 12 => some [0, 4, 5, 7, 45, 46, 47, 69]
 | 13 => some [6]
 | 14 => some [0, 4, 5, 7, 45, 46, 47]
 | 15 => some [0, 4, 5, 7, 72, 73, 74]
 | 16 => some [0, 4, 5, 7, 72, 73, 74, 75]
 | 17 => some [0, 4, 5, 7, 13, 14, 72, 73, 74]
 | 18 => some [0, 4, 5, 7, 15, 72, 73, 74]
 | 19 => some [0, 4, 5, 7, 15, 72, 73, 74, 96]
 | 20 => some [6]
 | 21 => some [0, 4, 5, 7, 72, 73, 74]
 | 22 => some [6]
 | _ => none
def Ob.k136 (r : Nat) : Option (List Nat) := match r with
 | 0 => some [0, 4, 5]
 | 1 => some [0, 4, 5, 7, 8]
 | 2 => some [0, 4, 5, 7, 8, 20]
 | 3 => some [6]
 | 4 => some [0, 4, 5, 7, 24]
 | 5 => some [6]
 | 6 => some [7, 9, 10]
 | 7 => some [7, 9, 41]
 | 8 => some [6]
 | 9 => some [44]
 | 10 => some [6]
 | 11 => some [6]
 | _ => none
def Ob.k137 (r : Nat) : Option (List Nat) := match r with
 | 0 => some [0]
 | 1 => some [0, 4]
 | 2 => some [2]
 | 3 => some [2]
 | _ => none
def Ob.k138 (r : Nat) : Option (List Nat) := match r with
 | 0 => some [0, 1]
 | 1 => some [0, 1, 7, 8]
 | 2 => some [0, 1, 7, 8, 9]
 | 3 => some [0, 1, 5, 7, 8]
 | 4 => some [0, 1, 5, 7, 8, 16]
 | 5 => some [4]
 | 6 => some [0, 1, 7, 8]
 | 7 => some [4]
 | _ => none
def Ob.k139 (r : Nat) : Option (List Nat) := match r with
 | 0 => some [0, 1]
 | 1 => some [4]
 | _ => none
def Ob.k140 (r : Nat) : Option (List Nat) := match r with
 | 0 => some [1, 2, 3, 4]
 | 1 => some [5]
 | _ => none
def Ob.k141 (r : Nat) : Option (List Nat) := match r with
 | 0 => some [1, 2, 3, 4]
 | 1 => some [1, 2, 3, 4, 14]
 | 2 => some [1, 2, 3, 4, 14, 15]
 | 3 => some [8]
 | 4 => some [1, 2, 3, 4, 14, 21]
 | 5 => some [8]
 | 6 => some [1, 2, 3, 4, 27]
 | 7 => some [1, 2, 3, 4, 9]
 | 8 => some [1, 2, 3, 4, 9, 33]
 | 9 => some [1, 2, 3, 4, 10]
 | 10 => some [8]
 | 11 => some [1, 2, 3, 4, 60, 61, 62]
 | 12 => some [1, 2, 3, 4, 60, 61, 62, 63]
 | 13 => some [1, 2, 3, 4, 11, 12, 60, 61, 62]
 | 14 => some [1, 2, 3, 4, 60, 61, 62, 80]
 | 15 => some [8]
 | 16 => some [1, 2, 3, 4, 60, 61, 62]
 | 17 => some [8]
 | 18 => some [8]
 | _ => none
def Ob.k148 (r : Nat) : Option (List Nat) := match r with
 | 0 => some [0, 1]
 | 1 => some [0, 1, 6, 7]
 | 2 => some [0, 1, 6, 7, 17]
 | 3 => some [4, 5]
 | 4 => some [0, 1, 6, 7, 20]
 | 5 => some [4, 5]
 | 6 => some [0, 1, 6, 7, 25, 26, 27]
 | 7 => some [0, 1, 6, 7, 25, 26, 27, 28]
 | 8 => some [0, 1, 6, 7, 9, 25, 26, 27]
 | 9 => some [0, 1, 6, 7, 25, 26, 27, 53]
 | 10 => some [4, 5]
 | 11 => some [0, 1, 6, 7, 25, 26, 27]
 | 12 => some [0, 6, 10, 11]
 | 13 => some [0, 10, 11, 64]
 | 14 => some [4, 5]
 | 15 => some [4, 5]
 | _ => none
def Ob.k150 (r : Nat) : Option (List Nat) := match r with
 | 0 => some [1]
 | 1 => some [2]
 | _ => none
def Ob.k151 (r : Nat) : Option (List Nat) := match r with
 | 0 => some [0, 4, 5]
 | 1 => some [18]
 | 2 => some [6]
 | 3 => some [6]
 | _ => none
def Ob.k152 (r : Nat) : Option (List Nat) := match r with
 | 0 => some [0]
 | 1 => some [0, 4]
 | 2 => some [2]
 | 3 => some [2]
 | _ => none
def Ob.k153 (r : Nat) : Option (List Nat) := match r with
 | 0 => some [0, 4, 5]
 | 1 => some [0, 4, 5, 10]
 | 2 => some [6, 7]
 | 3 => some [6, 7]
 | _ => none
def Ob.k154 (r : Nat) : Option (List Nat) := match r with
 | 0 => some [0, 1, 3, 4, 7]
 | 1 => some [0, 1, 3, 4, 7, 11]
 | 2 => some [10]
 | 3 => some [0, 1, 4, 19]
 | 4 => some [10]
 | 5 => some [26]
 | 6 => some [10]
 | 7 => some [10]
 | _ => none
def Ob.k155 (r : Nat) : Option (List Nat) := match r with
 | 0 => some [0, 1]
 | 1 => some [4]
 | _ => none
def Ob.k156 (r : Nat) : Option (List Nat) := match r with
 | 0 => some [0, 1]
 | 1 => some [0, 1, 7, 8]
 | 2 => some [0, 1, 7, 8, 9]
 | 3 => some [0, 1, 5, 7, 8]
 | 4 => some [0, 1, 5, 7, 8, 16]
 | 5 => some [4]
 | 6 => some [0, 1, 7, 8]
 | 7 => some [4]
 | _ => none
def Ob.k157 (r : Nat) : Option (List Nat) := match r with
 | 0 => some [0, 1]
 | 1 => some [0, 1, 7, 8]
 | 2 => some [0, 1, 7, 8, 9]
 | 3 => some [0, 1, 5, 7, 8]
 | 4 => some [0, 1, 5, 7, 8, 16]
 | 5 => some [4]
 | 6 => some [0, 1, 7, 8]
 | 7 => some [4]
 | _ => none
def Ob.k158 (r : Nat) : Option (List Nat) := match r with
 | 0 => some [1, 2]
 | 1 => some [3]
 | _ => none
def Ob.k162 (r : Nat) : Option (List Nat) := match r with
 | 0 => some [0]
 | 1 => some [0, 3]
 | 2 => some [3, 4]
 | 3 => some [3, 4, 5]
 | 4 => some [3, 4, 7]
 | 5 => some [3, 4, 7]
 | 6 => some [3, 4, 7]
 | 7 => some [3, 4, 11]
 | 8 => some [3, 4, 13]
 | 9 => some [3, 4, 13]
 | 10 => some [3, 4, 13]
 | 11 => some [3, 4, 13]
 | 12 => some [3, 4, 13]
 | 13 => some [3, 4, 19]
 | 14 => some [3, 4, 19]
 | 15 => some [3, 4, 22]
 | 16 => some [3, 4, 22]
 | 17 => some [3, 4, 22]
 | 18 => some [3, 22]
 | 19 => some [3]
 | 20 => some [2, 3]
 | 21 => some [3]
 | 22 => some [2, 3]
 | 23 => some [2, 3]
 | 24 => some [2, 3]
 | 25 => some [2, 3]
 | _ => none
def Ob.k163 (r : Nat) : Option (List Nat) := match r with
 | 0 => some [0, 1, 2]
 | 1 => some [1, 2, 7]
 | 2 => some [1, 2, 7, 8]
 | 3 => some [6]
 | 4 => some [1, 2, 7, 12]
 | 5 => some [6]
 | 6 => some [1, 2, 7, 17]
 | 7 => some [6]
 | 8 => some [1, 2, 7, 22]
 | 9 => some [6]
 | 10 => some [1, 2, 27]
 | 11 => some [6]
 | 12 => some [6]
 | _ => none
def Ob.k164 (r : Nat) : Option (List Nat) := match r with
 | 0 => some [0]
 | 1 => some [3]
 | 2 => some [2]
 | 3 => some [2]
 | _ => none
def Ob.k165 (r : Nat) : Option (List Nat) := match r with
 | 0 => some [0, 1, 2]
 | 1 => some [1, 2, 7]
 | 2 => some [1, 2, 7, 8]
 | 3 => some [6]
 | 4 => some [1, 2, 7, 12]
 | 5 => some [6]
 | 6 => some [1, 2, 7, 20]
 | 7 => some [6]
 | 8 => some [1, 2, 7, 28]
 | 9 => some [6]
 | 10 => some [1, 2, 7, 33]
 | 11 => some [1, 2, 7, 33]
 | 12 => some [6]
 | 13 => some [1, 2, 7, 39]
 | 14 => some [6]
 | 15 => some [1, 2, 7, 44]
 | 16 => some [6]
 | 17 => some [1, 2, 49]
 | 18 => some [6]
 | 19 => some [6]
 | _ => none
def Ob.k171 (r : Nat) : Option (List Nat) := match r with
 | 0 => some [0, 1]
 | 1 => some [4]
 | _ => none
def Ob.k172 (r : Nat) : Option (List Nat) := match r with
 | 0 => some [1, 2]
 | 1 => some [3]
 | _ => none
def Ob.k173 (r : Nat) : Option (List Nat) := match r with
 | 0 => some [1]
 | 1 => some [1, 3]
 | 2 => some [1, 3, 24]
 | 3 => some [2]
 | 4 => some [1, 3, 24, 25]
 | 5 => some [2]
 | 6 => some [1, 3, 24, 41]
 | 7 => some [1, 3, 24, 41]
 | 8 => some [2]
 | 9 => some [1, 3, 24, 63]
 | 10 => some [1, 4]
 | 11 => some [1, 4, 72]
 | 12 => some [1, 4]
 | 13 => some [1, 102]
 | 14 => some [2]
 | 15 => some [1, 3, 103]
 | 16 => some [1, 112]
 | 17 => some [2]
 | 18 => some [2]
 | _ => none
def Ob.k174 (r : Nat) : Option (List Nat) := match r with
 | 0 => some [0, 4, 5]
 | 1 => some [0, 4, 5, 8]
 | 2 => some [0, 4, 5, 8, 18, 19, 20]
 | 3 => some [0, 4, 5, 8, 18, 19, 20, 21]
 | 4 => some [0, 4, 5, 8, 10, 18, 19, 20]
 | 5 => some [0, 4, 5, 8, 11, 12, 18, 19, 20]
 | 6 => some [0, 4, 5, 8, 11, 12, 18, 19, 20, 32]
 | 7 => some [6, 7]
 | 8 => some [0, 4, 5, 8, 18, 19, 20]
 | 9 => some [0, 4, 5, 8, 18, 19, 20]
 | 10 => some [0, 4, 5, 8, 40]
 | 11 => some [0, 4, 5, 8, 40, 41]
 | 12 => some [4, 52]
 | 13 => some [6, 7]
 | 14 => some [6, 7]
 | 15 => some [0, 4, 5, 8, 40, 55]
 | 16 => some [0, 4, 5, 13, 14]
 | 17 => some [0, 4, 5, 13, 68]
 | 18 => some [6, 7]
 | 19 => some [6, 7]
 | 20 => some [0, 4, 8, 40, 75]
 | 21 => some [15, 16]
 | 22 => some [15, 88]
 | 23 => some [6, 7]
 | 24 => some [6, 7]
 | 25 => some [4, 8, 90]
 | 26 => some [6, 7]
 | 27 => some [8, 110]
 | 28 => some [6, 7]
 | 29 => some [6, 7]
 | _ => none
def Ob.k175 (r : Nat) : Option (List Nat) := match r with
 | 0 => some [0, 1]
 | 1 => some [0, 1, 7, 8]
 | 2 => some [0, 1, 7, 8, 9]
 | 3 => some [0, 1, 5, 7, 8]
 | 4 => some [0, 1, 5, 7, 8, 16]
 | 5 => some [4]
 | 6 => some [0, 1, 7, 8]
 | 7 => some [4]
 | _ => none
def Ob.k177 (r : Nat) : Option (List Nat) := match r with
 | 0 => some [0]
 | 1 => some [2]
 | _ => none
def Ob.k178 (r : Nat) : Option (List Nat) := match r with
 | 0 => some [0, 1]
 | 1 => some [4]
 | _ => none
def Ob.k179 (r : Nat) : Option (List Nat) := match r with
 | 0 => some [0, 1]
 | 1 => some [4]
 | _ => none
def Ob.k180 (r : Nat) : Option (List Nat) := match r with
 | 0 => some [0, 1]
 | 1 => some [4]
 | _ => none
def Ob.k181 (r : Nat) : Option (List Nat) := match r with
 | 0 => some [0, 1]
 | 1 => some [0, 1]
 | 2 => some [0, 1, 10]
 | 3 => some [4]
 | 4 => some [4]
 | _ => none
def Ob.k182 (r : Nat) : Option (List Nat) := match r with
 | 0 => some [0, 1]
 | 1 => some [0, 1]
 | 2 => some [0, 1, 10]
 | 3 => some [4]
 | 4 => some [4]
 | _ => none
def Ob.k190 (r : Nat) : Option (List Nat) := match r with
 | 0 => some [0, 1]
 | 1 => some [0, 1, 7, 8]
 | 2 => some [0, 1, 7, 8, 9]
 | 3 => some [0, 1, 5, 7, 8]
 | 4 => some [0, 1, 5, 7, 8, 16]
 | 5 => some [4]
 | 6 => some [0, 1, 7, 8]
 | 7 => some [4]
 | _ => none
def Ob.k191 (r : Nat) : Option (List Nat) := match r with
 | 0 => some [0, 1]
 | 1 => some [4]
 | _ => none
def Ob.k192 (r : Nat) : Option (List Nat) := match r with
 | 0 => some [1]
 | 1 => some [2]
 | _ => none
def Ob.k193 (r : Nat) : Option (List Nat) := match r with
 | 0 => some [0, 1]
 | 1 => some [1, 6, 7]
 | 2 => some [1, 6, 7, 15]
 | 3 => some [4, 5]
 | 4 => some [1, 6, 18]
 | 5 => some [4, 5]
 | 6 => some [1, 6, 23, 24, 25]
 | 7 => some [1, 6, 23, 24, 25, 26]
 | 8 => some [1, 6, 9, 23, 24, 25]
 | 9 => some [1, 6, 9, 23, 24, 25, 29]
 | 10 => some [1, 6, 23, 24, 25, 31]
 | 11 => some [4, 5]
 | 12 => some [1, 6, 9, 23, 24, 25, 29, 32]
 | 13 => some [1, 6, 23, 24, 25, 35]
 | 14 => some [4, 5]
 | 15 => some [1, 6, 9, 23, 24, 25, 36]
 | 16 => some [1, 6, 23, 24, 25, 46]
 | 17 => some [4, 5]
 | 18 => some [1, 6, 23, 24, 25]
 | 19 => some [49]
 | 20 => some [4, 5]
 | 21 => some [4, 5]
 | _ => none
def Ob.k194 (r : Nat) : Option (List Nat) := match r with
 | 0 => some [0]
 | 1 => some [2]
 | _ => none
def Ob.k195 (r : Nat) : Option (List Nat) := match r with
 | 0 => some [0, 1]
 | 1 => some [0, 1, 7, 8]
 | 2 => some [0, 1, 7, 8, 9]
 | 3 => some [0, 1, 5, 7, 8]
 | 4 => some [0, 1, 5, 7, 8, 16]
 | 5 => some [4]
 | 6 => some [0, 1, 7, 8]
 | 7 => some [4]
 | _ => none
def Ob.keep (f r : Nat) : Option (List Nat) := match f with
 | 8 => Ob.k8 r
 | 9 => Ob.k9 r
 | 10 => Ob.k10 r
 | 11 => Ob.k11 r
 | 13 => Ob.k13 r
 | 14 => Ob.k14 r
 | 15 => Ob.k15 r
 | 16 => Ob.k16 r
 | 20 => Ob.k20 r
 | 21 => Ob.k21 r
 | 23 => Ob.k23 r
 | 24 => Ob.k24 r
 | 26 => Ob.k26 r
 | 27 => Ob.k27 r
 | 28 => Ob.k28 r
 | 29 => Ob.k29 r
 | 30 => Ob.k30 r
 | 34 => Ob.k34 r
 | 35 => Ob.k35 r
 | 36 => Ob.k36 r
 | 37 => Ob.k37 r
 | 38 => Ob.k38 r
 | 39 => Ob.k39 r
 | 40 => Ob.k40 r
 | 43 => Ob.k43 r
 | 55 => Ob.k55 r
 | 56 => Ob.k56 r
 | 59 => Ob.k59 r
 | 60 => Ob.k60 r
 | 61 => Ob.k61 r
 | 62 => Ob.k62 r
 | 63 => Ob.k63 r
 | 64 => Ob.k64 r
 | 65 => Ob.k65 r
 | 66 => Ob.k66 r
 | 67 => Ob.k67 r
 | 68 => Ob.k68 r
 | 69 => Ob.k69 r
 | 70 => Ob.k70 r
 | 71 => Ob.k71 r
 | 78 => Ob.k78 r
 | 79 => Ob.k79 r
 | 80 => Ob.k80 r
 | 81 => Ob.k81 r
 | 82 => Ob.k82 r
 | 83 => Ob.k83 r
 | 84 => Ob.k84 r
 | 85 => Ob.k85 r
 | 86 => Ob.k86 r
 | 105 => Ob.k105 r
 | 106 => Ob.k106 r
 | 107 => Ob.k107 r
 | 108 => Ob.k108 r
 | 109 => Ob.k109 r
 | 110 => Ob.k110 r
 | 111 => Ob.k111 r
 | 112 => Ob.k112 r
 | 113 => Ob.k113 r
 | 122 => Ob.k122 r
 | 123 => Ob.k123 r
 | 124 => Ob.k124 r
 | 133 => Ob.k133 r
 | 134 => Ob.k134 r
 | 135 => Ob.k135 r
 | 136 => Ob.k136 r
 | 137 => Ob.k137 r
 | 138 => Ob.k138 r
 | 139 => Ob.k139 r
 | 140 => Ob.k140 r
 | 141 => Ob.k141 r
 | 148 => Ob.k148 r
 | 150 => Ob.k150 r
 | 151 => Ob.k151 r
 | 152 => Ob.k152 r
 | 153 => Ob.k153 r
 | 154 => Ob.k154 r
 | 155 => Ob.k155 r
 | 156 => Ob.k156 r
 | 157 => Ob.k157 r
 | 158 => Ob.k158 r
 | 162 => Ob.k162 r
 | 163 => Ob.k163 r
 | 164 => Ob.k164 r
 | 165 => Ob.k165 r
 | 171 => Ob.k171 r
 | 172 => Ob.k172 r
 | 173 => Ob.k173 r
 | 174 => Ob.k174 r
 | 175 => Ob.k175 r
 | 177 => Ob.k177 r
 | 178 => Ob.k178 r
 | 179 => Ob.k179 r
 | 180 => Ob.k180 r
 | 181 => Ob.k181 r
 | 182 => Ob.k182 r
 | 190 => Ob.k190 r
 | 191 => Ob.k191 r
 | 192 => Ob.k192 r
 | 193 => Ob.k193 r
 | 194 => Ob.k194 r
 | 195 => Ob.k195 r
 | _ => none
def Ob.mat (f r : Nat) : List (Nat × Option Nat × Nat) := match f with
 | 21 => match r with
  | 3 => [(3, none, 1)]
  | _ => []
 | 22 => match r with
  | 3 => [(3, none, 1)]
  | _ => []
 | 32 => match r with
  | 1 => [(5, none, 12)]
  | _ => []
 | 37 => match r with
  | 8 => [(8, none, 1)]
  | _ => []
 | 54 => match r with
  | 1 => [(5, some 1, 1), (5, some 2, 1)]
  | 7 => [(7, none, 1)]
  | _ => []
 | 55 => match r with
  | 1 => [(3, none, 1)]
  | _ => []
 | 57 => match r with
  | 1 => [(3, none, 1)]
  | _ => []
 | 74 => match r with
  | 1 => [(3, none, 1)]
  | _ => []
 | 84 => match r with
  | 5 => [(6, some 11, 1)]
  | 1 => [(3, none, 12)]
  | _ => []
 | 103 => match r with
  | 12 => [(6, none, 1)]
  | _ => []
 | 107 => match r with
  | 1 => [(3, none, 1)]
  | _ => []
 | 121 => match r with
  | 1 => [(7, none, 2)]
  | _ => []
 | 122 => match r with
  | 1 => [(3, none, 6)]
  | _ => []
 | 124 => match r with
  | 1 => [(5, none, 1)]
  | _ => []
 | 129 => match r with
  | 1 => [(5, none, 1)]
  | _ => []
 | 144 => match r with
  | 1 => [(6, none, 1)]
  | _ => []
 | 174 => match r with
  | 1 => [(8, none, 1)]
  | _ => []
 | 36 => match r with
  | 1 => [(3, some 0, 2), (3, some 1, 7)]
  | _ => []
 | 52 => match r with
  | 1 => [(5, some 9, 1), (5, some 10, 1)]
  | _ => []
 | _ => []
def Ob.fz (f r : Nat) : Bool × Bool := match f with
 | 10 => match r with
  | 7 => (true, true)
  | _ => (true, false)
 | 28 => (false, false)
 | 35 => (false, false)
 | 52 => (false, false)
 | 58 => match r with
  | 4 => (true, true)
  | _ => (true, false)
 | 102 => match r with
  | 4 => (true, true)
  | _ => (true, false)
 | 103 => match r with
  | 8 => (true, true)
  | _ => (true, false)
 | 134 => match r with
  | 14 => (true, true)
  | _ => (true, false)
 | _ => (true, false)
def Ob.thr (f : Nat) : Bool := match f with
 | 28 => true
 | _ => false
def Ob.own (f : Nat) : Bool := match f with
 | 28 => true
 | 35 => true
 | 52 => true
 | _ => false
def Ob.prim (f : Nat) : Option (Nat × Nat) := match f with
 | 80 => some (1, 16)
 | 81 => some (3, 48)
 | 82 => some (3, 32)
 | 83 => some (2, 32)
 | 137 => some (1, 24)
 | 152 => some (2, 24)
 | _ => none
def Ob.cfg : Cfg := { prim := Ob.prim, thr := Ob.thr, own := Ob.own, fz := Ob.fz, keep := Ob.keep, mat := Ob.mat }
end Go.Ac
end

section
namespace Go.Ac
variable {P : Program} {cfg : Cfg} {fid : FuncId} {rid : Nat}

/-- A call that writes nothing of its caller's, and gives a value without names. -/
def QuietV [Gl] (P : Program) (cfg : Cfg) (f : FuncId) (vs : List V) (hp : Hp) (n c : Nat) (v : V) : Prop := ∃ h' c', lim P cfg f vs hp n c = some ⟨v, h', n, c', []⟩

def quietVQ (P : Program) (fn : Func) (n : Nat) (v : V) (e : Ex) (t : St) : Prop :=
 (e = .normal ∨ e = .ret) ∧ t.wl = [] ∧ ∃ rs, resultsV P t fn.results.toList = some rs ∧ tup rs = v

theorem quietV_wp [Gl] {f : FuncId} {fn : Func} {body : Code} {vs : List V} {v : V} {hp : Hp} {n c : Nat} (hf : P.funcs[f]? = some fn) (hb : fn.body = some body) (hok : (Nat.ble vs.length fn.ntmps && codeOK fn.ntmps body) = true)
  (hthr : cfg.thr f = false) (hcl : ∀ look : Look, closeT look v = some (v, [])) (h : WP P cfg f body ⟨envOf 0 vs, hp, n, c, n, []⟩ (quietVQ P fn n v)) : QuietV P cfg f vs hp n c v := by
 obtain ⟨e, t, ⟨K, hK⟩, he, hwl, rs, hrs, htup⟩ := h
 have hfin : finish (cfg.thr f) n t (tup rs) = some ⟨v, Hp.trunc n t.hp, n, t.c, []⟩ := by
  unfold finish
  rw [hthr, htup]
  simp only [Bool.false_eq_true, if_false, hcl, hwl]
  rw [if_pos]
  simp
 refine ⟨Hp.trunc n t.hp, t.c, lim_of ⟨K, fun k hk => ?_⟩⟩
 unfold callF callBy
 rw [hf]
 simp only [hb, hok]
 rw [show enter vs hp n c = ⟨envOf 0 vs, hp, n, c, n, []⟩ from rfl, hK k hk]
 rcases he with rfl | rfl <;> simp only [leave, hrs, hfin]

theorem RT.callV [Gl] {fo : Operand} {args : Array Operand} {ts : Array TypeId} {dst : Option Nat} {g : Gd} {r : List PO} {e e' : Env} {hp h' : Hp} {n c c' n0 : Nat} {wl : List Nat} {f : FuncId} {caps vs : List V} {x : V} {t : St} {qs : List Tq}
  (hg : Is (wantedP e g) (some true)) (hfo : Is (evalV e fo) (.fn f caps)) (hpr : Is (cfg.prim f) none) (hvs : Is (args.toList.map (evalV e) ++ caps) vs) (hcl : Is (closeArgs (if cfg.thr f then noLook else hp.get) vs) none) (hd : Is (lim P cfg f vs hp n c) (some ⟨x, h', n, c', []⟩))
  (he : putEnv e dst x = e') (h' : RT P cfg fid rid r ⟨e', hp, n, c + (c' - c), n0, wl⟩ t qs) :
  RT P cfg fid rid (⟨.call ⟨.value fo, args, ts⟩, dst, g⟩ :: r) ⟨e, hp, n, c, n0, wl⟩ t (⟨[], [], true, c' - c⟩ :: qs) := by
 unfold Is at *
 have : callR cfg (lim P cfg) hp n c f vs = some ⟨x, [], [], 0, c' - c, true⟩ := by
  unfold callR
  rw [hcl]
  simp only [hd, Nat.sub_self, List.range_zero, List.map_nil, List.append_nil, wrOf]
 refine RT.wr (v := x) (wr := []) (dn := 0) (dc := c' - c) ?_ he rfl rfl rfl rfl h'
 show opP P cfg fid rid _ _ = _
 unfold opP
 simp only [hg]
 have h2 : opP0 P cfg fid rid ⟨.call ⟨.value fo, args, ts⟩, dst, g⟩ ⟨e, hp, n, c, n0, wl⟩ = some ⟨x, [], [], 0, c' - c, true⟩ := by
  simp only [opP0, hfo, hpr]
  rw [hvs, this]
 rw [h2]
 rfl

theorem QuietV.fn [Gl] {f : FuncId} {vs : List V} {hp : Hp} {n : Nat} {x : V} (h : ∀ c, QuietV P cfg f vs hp n c x) : ∃ (h' : Nat → Hp) (c' : Nat → Nat), ∀ c, lim P cfg f vs hp n c = some ⟨x, h' c, n, c' c, []⟩ := by
 obtain ⟨h1, h2⟩ := Classical.axiomOfChoice h
 obtain ⟨h3, h4⟩ := Classical.axiomOfChoice h2
 exact ⟨h1, h3, h4⟩
theorem Quiet.v [Gl] {f : FuncId} {vs : List V} {hp : Hp} {n c : Nat} {x : D} (h : Quiet P cfg f vs hp n c x) : QuietV P cfg f vs hp n c (.d x) := h

/-! ### Calls that are handed objects and may write some of them -/

/-- A call that is handed objects: what it gives, what it may write, what the memory is afterwards. -/
def ThrG [Gl] (P : Program) (cfg : Cfg) (f : FuncId) (vs : List V) (hp : Hp) (n c : Nat) (v : V) (ids : List Nat) (Φ : Hp → Prop) : Prop :=
 ∃ q, lim P cfg f vs hp n c = some q ∧ q.v = v ∧ q.n = n ∧ WI ids n hp q.wl q.hp ∧ Φ q.hp

def thrGQ (P : Program) (fn : Func) (hp : Hp) (n : Nat) (v : V) (ids0 : List Nat) (Φ : Hp → Prop) (e : Ex) (t : St) : Prop :=
 (e = .normal ∨ e = .ret) ∧ ∃ rs ids, resultsV P t fn.results.toList = some rs ∧ closeT t.hp.get (tup rs) = some (v, ids) ∧ (v.flat || ids.all (fun i => Nat.ble n i)) = true ∧ WI ids0 n hp t.wl t.hp ∧ Φ (Hp.trunc n t.hp)

theorem thrG_wp [Gl] {f : FuncId} {fn : Func} {body : Code} {vs : List V} {hp : Hp} {n c : Nat} {v : V} {ids0 : List Nat} {Φ : Hp → Prop} (hf : P.funcs[f]? = some fn) (hb : fn.body = some body) (hok : (Nat.ble vs.length fn.ntmps && codeOK fn.ntmps body) = true)
  (hthr : cfg.thr f = false) (h : WP P cfg f body ⟨envOf 0 vs, hp, n, c, n, []⟩ (thrGQ P fn hp n v ids0 Φ)) : ThrG P cfg f vs hp n c v ids0 Φ := by
 obtain ⟨w, t, h1, h2⟩ := lim_wpD (Q := fun w t => w = v ∧ WI ids0 n hp t.wl t.hp ∧ Φ (Hp.trunc n t.hp)) hf hb hok hthr (h.mono fun e t ⟨he, rs, ids, a1, a2, a3, a4, a5⟩ => ⟨he, rs, v, ids, a1, a2, a3, rfl, a4, a5⟩)
 exact ⟨_, h1, h2.1, rfl, h2.2.1.trunc (Nat.le_refl _), h2.2.2⟩

/-- The same, seen from the caller. -/
theorem ThrG.caller [Gl] {f : FuncId} {vs : List V} {hp : Hp} {n c : Nat} {v : V} {ids : List Nat} {Φ : Hp → Prop} (h : ThrG P cfg f vs hp n c v ids Φ) (hids : ∀ j, j ∈ ids → j < n) :
  ∃ q, lim P cfg f vs hp n c = some q ∧ q.v = v ∧ q.n = n ∧ (∀ k, k ∈ (tWr q n).map (·.1) → k < n + (q.n - n)) ∧ (∀ k, k ∈ (tWr q n).map (·.1) → k ∈ ids) ∧
   (∀ j, j < n → j ∉ ids → (hp.sets (tWr q n)).get j = hp.get j) ∧ ∃ hp', Φ hp' ∧ ∀ j, j < n → (hp'.get j).isSome = true → (hp.sets (tWr q n)).get j = hp'.get j := by
 obtain ⟨q, h1, h2, h3, h4, h5⟩ := h
 have hk : ∀ k, k ∈ (tWr q n).map (·.1) → k ∈ ids ∧ k < n := fun k hk => by
  have := tWr_keys (by omega) h4 hids hk
  rcases this.1 with h | h
  ·exact ⟨h, hids k h⟩
  ·omega
 exact ⟨q, h1, h2, h3, fun k hk' => by have := (hk k hk').2; omega, fun k hk' => (hk k hk').1, fun j hj hn => tWr_old h4 hj hn, q.hp, h5, fun j hj hs => tWr_same h4 (by omega) hs⟩
end Go.Ac
end
