/- The abstract machine once more, for closed calls: each operation runs once, the check of drawn regions with numbers as sets. No conditions. -/
import Derived.Test.YtkgekafdhehleaaGreatAcA
import Derived.Test.YtkgekafdhehleaaGreatAcB
import Derived.Test.YtkgekafdhehleaaGreatAcDM
import Derived.Test.YtkgekafdhehleaaGreatAcGM
import Derived.Test.YtkgekafdhehleaaGreatAcJM
import Derived.Test.YtkgekafdhehleaaGreatAcNM
import Derived.Test.YtkgekafdhehleaaGreatAcQM
import Derived.Test.YtkgekafdhehleaaGreatAcUM
import Derived.Test.YtkgekafdhehleaaGreatAcThM
import Derived.KernelRfl
import Derived.Calls
import Derived.Orders
import Derived.Laws.World
import Derived.Laws.Sem
import Derived.Laws.Cells
import Derived.Laws.Append
import GoSem.ClaimData
import Derived.Laws.Tables
import Derived.Laws.Slices
import Derived.Laws.Strings
import Derived.Laws.Small
set_option linter.unusedVariables false
set_option linter.unusedSimpArgs false
set_option linter.unusedVariables false
set_option linter.unusedSimpArgs false
namespace Go.Ac
variable {P : Program} {cfg : Cfg}

/-- The operations that lie before: a number's bits. -/
def ancM (all : List Oper) : List Nat :=
  all.foldl (fun acc o => acc ++ [o.after.toList.foldl (fun s e => if Region.binds .any e then s ||| ((1 <<< e.on) ||| acc.getD e.on 0) else s) 0]) []

def MaskOK (m : List Nat) (a : List (List Nat)) : Prop := m.length = a.length ∧ ∀ j i, (m.getD j 0).testBit i = true → (a.getD j []).contains i = true

theorem fold_mask {acc : List Nat} {anc : List (List Nat)} (h : MaskOK acc anc) : ∀ (l : List Edge) (s : Nat) (t : List Nat), (∀ i, s.testBit i = true → t.contains i = true) →
    ∀ i, (l.foldl (fun s e => if Region.binds .any e then s ||| ((1 <<< e.on) ||| acc.getD e.on 0) else s) s).testBit i = true → (l.foldl (fun s e => if Region.binds .any e then e.on :: (anc.getD e.on [] ++ s) else s) t).contains i = true
  | [], s, t, hs, i, hi => hs i hi
  | e :: l, s, t, hs, i, hi => by
    simp only [List.foldl_cons] at hi ⊢
    refine fold_mask h l _ _ (fun i hi => ?_) i hi
    by_cases hb : Region.binds .any e = true
    · rw [if_pos hb] at hi ⊢
      rw [Nat.testBit_or, Nat.testBit_or, Bool.or_eq_true, Bool.or_eq_true] at hi
      rw [List.contains_cons, Bool.or_eq_true, List.contains_eq_mem]
      rcases hi with hi | hi | hi
      · right
        have := hs i hi
        rw [List.contains_eq_mem] at this
        rw [decide_eq_true_eq] at this ⊢
        exact List.mem_append_right _ this
      · left
        rw [Nat.shiftLeft_eq, Nat.one_mul, Nat.testBit_two_pow] at hi
        simp only [decide_eq_true_eq] at hi
        subst hi
        exact beq_self_eq_true _
      · right
        have := h.2 e.on i hi
        rw [List.contains_eq_mem] at this
        rw [decide_eq_true_eq] at this ⊢
        exact List.mem_append_left _ this
    · rw [if_neg hb] at hi ⊢
      exact hs i hi

theorem MaskOK.snoc {m : List Nat} {a : List (List Nat)} {x : Nat} {y : List Nat} (h : MaskOK m a) (hx : ∀ i, x.testBit i = true → y.contains i = true) : MaskOK (m ++ [x]) (a ++ [y]) := by
  refine ⟨by simp [h.1], fun j i hj => ?_⟩
  rw [List.getD_eq_getElem?_getD] at hj ⊢
  by_cases h1 : j < m.length
  · rw [List.getElem?_append_left h1] at hj
    rw [List.getElem?_append_left (by rw [← h.1]; exact h1), ← List.getD_eq_getElem?_getD]
    exact h.2 j i (by rw [List.getD_eq_getElem?_getD]; exact hj)
  · rw [List.getElem?_append_right (by omega)] at hj
    rw [List.getElem?_append_right (by rw [← h.1]; omega), ← h.1]
    cases hk : j - m.length with
    | zero => rw [hk] at hj; exact hx i hj
    | succ k => rw [hk] at hj; simp at hj

theorem ancM_gen : ∀ (l : List Oper) (m : List Nat) (a : List (List Nat)), MaskOK m a →
    MaskOK (l.foldl (fun acc o => acc ++ [o.after.toList.foldl (fun s e => if Region.binds .any e then s ||| ((1 <<< e.on) ||| acc.getD e.on 0) else s) 0]) m)
      (l.foldl (fun acc o => acc ++ [o.after.toList.foldl (fun s e => if Region.binds .any e then e.on :: (acc.getD e.on [] ++ s) else s) []]) a)
  | [], m, a, h => h
  | o :: l, m, a, h => by
    simp only [List.foldl_cons]
    exact ancM_gen l _ _ (h.snoc fun i hi => fold_mask h o.after.toList 0 [] (fun i hi => by simp at hi) i hi)

theorem ancM_ok (all : List Oper) : MaskOK (ancM all) (anc all) := ancM_gen all [] [] ⟨rfl, fun j i h => by simp at h⟩

def stillCheckM (all : List Oper) : List Oper → List Nat → List Tr → Bool
  | o :: r, m :: ms, tr => (tr.zipIdx.all fun p => m.testBit p.2 || slotsApart p.1 (stillTr o all)) && stillCheckM all r ms (tr ++ [stillTr o all])
  | [], [], _ => true
  | _, _, _ => false

def unordM : List Nat → Nat → List (Nat × Nat)
  | [], _ => []
  | m :: r, k => ((List.range k).filter fun i => !m.testBit i).map (fun i => (i, k)) ++ unordM r (k + 1)

theorem stillCheckM_ok {all : List Oper} : ∀ {l : List Oper} {m : List Nat} {a : List (List Nat)} {tr : List Tr}, MaskOK m a → stillCheckM all l m tr = true → stillCheck all l a tr = true
  | [], [], [], tr, h, hs => rfl
  | [], _ :: _, a, tr, h, hs => by simp [stillCheckM] at hs
  | [], [], x :: a, tr, h, hs => by have := h.1; simp at this
  | o :: l, [], a, tr, h, hs => by simp [stillCheckM] at hs
  | o :: l, x :: m, [], tr, h, hs => by have := h.1; simp at this
  | o :: l, x :: m, y :: a, tr, h, hs => by
    simp only [stillCheckM, Bool.and_eq_true] at hs
    simp only [stillCheck, Bool.and_eq_true]
    refine ⟨?_, stillCheckM_ok ⟨by have := h.1; simpa using this, fun j i hj => h.2 (j + 1) i hj⟩ hs.2⟩
    rw [List.all_eq_true] at hs ⊢
    intro p hp
    have := hs.1 p hp
    rw [Bool.or_eq_true] at this ⊢
    exact this.imp (fun h1 => h.2 0 p.2 h1) id

theorem unordM_mem : ∀ {m : List Nat} {a : List (List Nat)} {k : Nat} {p : Nat × Nat}, MaskOK m a → p ∈ unord a k → p ∈ unordM m k
  | [], [], k, p, h, hp => by simp [unord] at hp
  | x :: m, [], k, p, h, hp => by simp [unord] at hp
  | [], y :: a, k, p, h, hp => by have := h.1; simp at this
  | x :: m, y :: a, k, p, h, hp => by
    simp only [unord, unordM, List.mem_append, List.mem_map, List.mem_filter] at hp ⊢
    rcases hp with ⟨i, ⟨h1, h2⟩, h3⟩ | hp
    · refine .inl ⟨i, ⟨h1, ?_⟩, h3⟩
      cases hb : x.testBit i with
      | false => rfl
      | true =>
        have := h.2 0 i hb
        rw [show (y :: a).getD 0 [] = y from rfl] at this
        rw [this] at h2; simp at h2
    · exact .inr (unordM_mem ⟨by have := h.1; simpa using this, fun j i hj => h.2 (j + 1) i hj⟩ hp)

/-- What can be told of a drawn region beforehand; then over what it has looked at and written. -/
def stillM (all : List Oper) : Bool := orderOK all && stillCheckM all all (ancM all) []
def checkM (ops : Array Oper) (draw : Bool) (qs : List Tq) : Bool := match draw with
  | false => true
  | true => stillM ops.toList && (unordM (ancM ops.toList) 0).all fun p => memA (qs.getD p.1 noTq) (qs.getD p.2 noTq)

theorem checkM_ok {ops : Array Oper} {draw : Bool} {qs : List Tq} (hl : qs.length = ops.toList.length) (h : checkM ops draw qs = true) : Is (checkR ops draw qs) true := by
  cases draw with
  | false => rfl
  | true =>
    simp only [checkM, stillM, Bool.and_eq_true] at h
    obtain ⟨⟨h1, h2⟩, h3⟩ := h
    have hok := ancM_ok ops.toList
    refine checkR_un _ (by unfold stillOK; rw [h1, stillCheckM_ok hok h2]; rfl) rfl hl ?_
    rw [List.all_eq_true] at h3 ⊢
    exact fun p hp => h3 p (unordM_mem hok hp)

/-! ### The run -/
def runT [Gl] (P : Program) (cfg : Cfg) (call : CallF) (fid rid : Nat) (all : List Oper) : List Oper → St → Option (St × List Tq)
  | [], s => some (s, [])
  | o :: r, s => match opW P cfg fid rid call all o s with
    | some q => match runT P cfg call fid rid all r (s.put o.dst q) with
      | some (t, qs) => some (t, Tq.of q :: qs)
      | none => none
    | none => none

def execT [Gl] (P : Program) (cfg : Cfg) : Nat → FuncId → Code → St → Option (Ex × St)
  | 0, _, _, _ => none
  | k + 1, fid, c, s =>
    match c with
    | .skip => some (.normal, s)
    | .ret => some (.ret, s)
    | .exit id => some (.exit id, s)
    | .seq a b => match execT P cfg k fid a s with
      | some (.normal, s) => execT P cfg k fid b s
      | r => r
    | .cond q a b => match evalV s.env q with
      | .d (.bool true) => execT P cfg k fid a s
      | .d (.bool false) => execT P cfg k fid b s
      | _ => none
    | .block id b => match execT P cfg k fid b s with
      | some (.exit i, s) => match Nat.beq i id with | true => some (.normal, s) | false => some (.exit i, s)
      | r => r
    | .loop b => match execT P cfg k fid b s with
      | some (.normal, t) => execT P cfg k fid (.loop b) (match cfg.own fid with | true => t | false => { t with hp := Hp.trunc s.n t.hp, n := s.n })
      | r => r
    | .region id ops draw => match runT P cfg (callBy P cfg (execT P cfg k)) fid id ops.toList ops.toList s with
      | some (t, qs) => match checkM ops draw qs with
        | true => some (.normal, keepSt (mats t (cfg.mat fid id)) (cfg.keep fid id))
        | false => none
      | none => none
    | _ => none

def callT [Gl] (P : Program) (cfg : Cfg) (k : Nat) : CallF := callBy P cfg (execT P cfg k)

/-- A way of calling that gives no more than the machine does. -/
def Under [Gl] (P : Program) (cfg : Cfg) (call : CallF) : Prop := ∀ f vs hp n c r, call f vs hp n c = some r → lim P cfg f vs hp n c = some r

theorem callR_under [Gl] {call : CallF} (hc : Under P cfg call) {hp : Hp} {n c : Nat} {f : FuncId} {vs : List V} {r : Res} (h : callR cfg call hp n c f vs = some r) : callR cfg (lim P cfg) hp n c f vs = some r := by
  unfold callR at h ⊢
  split at h
  · rename_i ws ids hcl
    split at h
    · rename_i r0 hr0
      simp only [hc _ _ _ _ _ _ hr0]
      exact h
    · simp at h
  · rename_i hcl
    split at h
    · rename_i r0 hr0
      simp only [hc _ _ _ _ _ _ hr0]
      exact h
    · simp at h

theorem opW_under [Gl] {call : CallF} (hc : Under P cfg call) {fid rid : Nat} {all : List Oper} {o : Oper} {s : St} {r : Res} (h : opW P cfg fid rid call all o s = some r) : opW P cfg fid rid (lim P cfg) all o s = some r := by
  unfold opW at h ⊢
  split at h
  · split at h
    · rename_i q hq
      have : opR P cfg fid rid (lim P cfg) o s = some q := by
        unfold opR at hq ⊢
        split at hq
        · rename_i fo args ts ho
          split at hq
          · rename_i f caps hf
            split at hq
            · exact hq
            · exact callR_under hc hq
          · simp at hq
        · exact hq
      rw [this]
      exact h
    · simp at h
  · exact h
  · simp at h

theorem runT_RT [Gl] {call : CallF} (hc : Under P cfg call) {fid rid : Nat} {all : List Oper} : ∀ {l : List Oper} {s t : St} {qs : List Tq}, runT P cfg call fid rid all l s = some (t, qs) → RT P cfg fid rid (l.map (prepO all)) s t qs ∧ qs.length = l.length
  | [], s, t, qs, h => by simp only [runT, Option.some.injEq, Prod.mk.injEq] at h; obtain ⟨rfl, rfl⟩ := h; exact ⟨.nil, rfl⟩
  | o :: r, s, t, qs, h => by
    simp only [runT] at h
    split at h
    · rename_i q hq
      split at h
      · rename_i t' qs' hr
        simp only [Option.some.injEq, Prod.mk.injEq] at h; obtain ⟨rfl, rfl⟩ := h
        obtain ⟨h1, h2⟩ := runT_RT hc hr
        exact ⟨.cons (by rw [opP_eq]; exact opW_under hc hq) h1, by simp [h2]⟩
      · simp at h
    · simp at h

theorem callBy_under [Gl] {run : FuncId → Code → St → Option (Ex × St)} (hr : ∀ f c s e t, run f c s = some (e, t) → Runs P cfg f c s e t) : Under P cfg (callBy P cfg run) := by
  intro f vs hp n c r h
  unfold callBy at h
  split at h
  · rename_i fn hf
    split at h
    · rename_i body hb
      split at h
      · rename_i hok
        cases hrun : run f body (enter vs hp n c) with
        | none => rw [hrun] at h; simp [leave] at h
        | some q =>
          obtain ⟨e, t⟩ := q
          obtain ⟨K, hK⟩ := hr _ _ _ _ _ hrun
          rw [hrun] at h
          refine lim_of ⟨K, fun k hk => ?_⟩
          unfold callF callBy
          rw [hf]
          simp only [hb, hok, hK k hk]
          exact h
      · simp at h
    · simp at h
  · simp at h

theorem execT_runs [Gl] : ∀ (k : Nat) (fid : FuncId) (c : Code) (s : St) (e : Ex) (t : St), execT P cfg k fid c s = some (e, t) → Runs P cfg fid c s e t
  | 0, fid, c, s, e, t, h => by simp [execT] at h
  | k + 1, fid, c, s, e, t, h => by
    have ih := execT_runs k
    cases c with
    | skip => simp [execT] at h; obtain ⟨rfl, rfl⟩ := h; exact .skip
    | ret => simp [execT] at h; obtain ⟨rfl, rfl⟩ := h; exact .ret
    | exit id => simp [execT] at h; obtain ⟨rfl, rfl⟩ := h; exact .exit
    | seq a b =>
      simp only [execT] at h
      split at h
      · rename_i s' ha
        exact (ih _ _ _ _ _ ha).seq (ih _ _ _ _ _ h)
      · rename_i hn
        exact (ih _ _ _ _ _ h).seq_out (by rintro rfl; exact hn _ h)
    | cond q a b =>
      simp only [execT] at h
      split at h
      · rename_i hq; exact .cond_true hq (ih _ _ _ _ _ h)
      · rename_i hq; exact .cond_false hq (ih _ _ _ _ _ h)
      · simp at h
    | block id b =>
      simp only [execT] at h
      split at h
      · rename_i i s' hb
        split at h
        · rename_i hi
          have := Nat.eq_of_beq_eq_true hi
          subst this
          simp at h; obtain ⟨rfl, rfl⟩ := h
          exact .block_exit (ih _ _ _ _ _ hb)
        · rename_i hi
          simp at h; obtain ⟨rfl, rfl⟩ := h
          exact .block_other (ih _ _ _ _ _ hb) (by rintro rfl; simp at hi)
      · rename_i hn
        exact .block (ih _ _ _ _ _ h) (by rintro j rfl; exact hn _ _ h)
    | loop b =>
      simp only [execT] at h
      split at h
      · rename_i t' hb
        refine .round (ih _ _ _ _ _ hb) ?_
        have := ih _ _ _ _ _ h
        unfold cut
        cases ho : cfg.own fid with
        | true => rw [ho] at this; exact this
        | false => rw [ho] at this; exact this
      · rename_i hn
        exact .loop_out (ih _ _ _ _ _ h) (by rintro rfl; exact hn _ h)
    | region id ops draw =>
      simp only [execT] at h
      split at h
      · rename_i t' qs hr
        split at h
        · rename_i hc
          simp only [Option.some.injEq, Prod.mk.injEq] at h; obtain ⟨rfl, rfl⟩ := h
          obtain ⟨h1, h2⟩ := runT_RT (callBy_under ih) hr
          obtain ⟨e', t'', hw, hq⟩ := WP.reg (Q := fun e u => e = .normal ∧ u = endR cfg fid id t') (hR := rfl) (hr := h1) (checkM_ok h2 hc) (ht := rfl) ⟨rfl, rfl⟩
          obtain ⟨rfl, rfl⟩ := hq
          exact hw
        · simp at h
      · simp at h
    | _ => simp [execT] at h

theorem callT_lim [Gl] {k : Nat} {f : FuncId} {vs : List V} {hp : Hp} {n c : Nat} {r : CR} (h : callT P cfg k f vs hp n c = some r) : lim P cfg f vs hp n c = some r :=
  callBy_under (fun f c s e t h => execT_runs k f c s e t h) f vs hp n c r h

theorem den_t [Gl] (k : Nat) {f : FuncId} {vs : List V} {v : V} (h : (match callT P cfg k f vs [] 0 0 with | some r => (match closeT noLook r.v with | some _ => some r.v | none => none) | none => none) = some v) : den P cfg f vs = some v := by
  split at h
  · rename_i r hr
    have hl := lim_some (callT_lim hr)
    split at h
    · rename_i w hw
      simp only [Option.some.injEq] at h
      subst h
      exact den_of hl (by rw [hw]; rfl)
    · simp at h
  · simp at h
end Go.Ac
