/- The abstract machine: code without fuel. No conditions. -/
import Derived.Test.YtofbmhmdpeclnaaAbV
set_option linter.unusedVariables false
set_option linter.unusedSimpArgs false
namespace Go.Ab
variable {P : Program} {cfg : Cfg} {fid : FuncId}

/-- Code comes to an end, with enough fuel. -/
def Runs (P : Program) (cfg : Cfg) (fid : FuncId) (c : Code) (s : St) (e : Ex) (s' : St) : Prop := ∃ K, ∀ k, K ≤ k → execF P cfg k fid c s = some (e, s')

theorem fuel {p : Nat → Prop} {K : Nat} (h : ∀ k, K ≤ k → p (k + 1)) : ∃ K, ∀ k, K ≤ k → p k :=
  ⟨K + 1, fun k hk => by
    obtain ⟨j, rfl⟩ : ∃ j, k = j + 1 := ⟨k - 1, by omega⟩
    exact h j (by omega)⟩

section
variable {s t u : St} {e : Ex}

theorem Runs.skip : Runs P cfg fid .skip s .normal s := fuel (K := 0) fun k _ => rfl
theorem Runs.ret : Runs P cfg fid .ret s .ret s := fuel (K := 0) fun k _ => rfl
theorem Runs.exit {i : Nat} : Runs P cfg fid (.exit i) s (.exit i) s := fuel (K := 0) fun k _ => rfl

theorem Runs.seq {a b : Code} (h : Runs P cfg fid a s .normal t) (h' : Runs P cfg fid b t e u) : Runs P cfg fid (.seq a b) s e u := by
  obtain ⟨K, hK⟩ := h
  obtain ⟨L, hL⟩ := h'
  exact fuel (K := max K L) fun k hk => by
    simp only [execF]
    rw [hK k (Nat.le_trans (Nat.le_max_left _ _) hk)]
    exact hL k (Nat.le_trans (Nat.le_max_right _ _) hk)

theorem Runs.seq_out {a b : Code} (h : Runs P cfg fid a s e t) (he : e ≠ .normal) : Runs P cfg fid (.seq a b) s e t := by
  obtain ⟨K, hK⟩ := h
  exact fuel (K := K) fun k hk => by
    simp only [execF]
    rw [hK k hk]
    cases e <;> first | rfl | exact absurd rfl he

theorem Runs.cond_true {q : Operand} {a b : Code} (hq : evalV s.env q = .d (.bool true)) (h : Runs P cfg fid a s e t) : Runs P cfg fid (.cond q a b) s e t := by
  obtain ⟨K, hK⟩ := h
  exact fuel (K := K) fun k hk => by simp only [execF, hq]; exact hK k hk

theorem Runs.cond_false {q : Operand} {a b : Code} (hq : evalV s.env q = .d (.bool false)) (h : Runs P cfg fid b s e t) : Runs P cfg fid (.cond q a b) s e t := by
  obtain ⟨K, hK⟩ := h
  exact fuel (K := K) fun k hk => by simp only [execF, hq]; exact hK k hk

theorem Runs.block {i : Nat} {b : Code} (h : Runs P cfg fid b s e t) (he : ∀ j, e ≠ .exit j) : Runs P cfg fid (.block i b) s e t := by
  obtain ⟨K, hK⟩ := h
  exact fuel (K := K) fun k hk => by
    simp only [execF]
    rw [hK k hk]
    cases e with
    | normal => rfl
    | exit j => exact absurd rfl (he j)
    | ret => rfl

theorem Runs.block_exit {i : Nat} {b : Code} (h : Runs P cfg fid b s (.exit i) t) : Runs P cfg fid (.block i b) s .normal t := by
  obtain ⟨K, hK⟩ := h
  exact fuel (K := K) fun k hk => by
    simp only [execF]
    rw [hK k hk]
    simp

theorem Runs.block_other {i j : Nat} {b : Code} (h : Runs P cfg fid b s (.exit j) t) (hj : j ≠ i) : Runs P cfg fid (.block i b) s (.exit j) t := by
  obtain ⟨K, hK⟩ := h
  exact fuel (K := K) fun k hk => by
    simp only [execF]
    rw [hK k hk]
    simp [hj]

def cut (cfg : Cfg) (fid : FuncId) (s t : St) : St := if cfg.own fid then t else { t with hp := Hp.trunc s.n t.hp, n := s.n }

theorem Runs.round {b : Code} (h : Runs P cfg fid b s .normal t) (h' : Runs P cfg fid (.loop b) (cut cfg fid s t) e u) : Runs P cfg fid (.loop b) s e u := by
  obtain ⟨K, hK⟩ := h
  obtain ⟨L, hL⟩ := h'
  exact fuel (K := max K L) fun k hk => by
    simp only [execF]
    rw [hK k (Nat.le_trans (Nat.le_max_left _ _) hk)]
    exact hL k (Nat.le_trans (Nat.le_max_right _ _) hk)

theorem Runs.loop_out {b : Code} (h : Runs P cfg fid b s e t) (he : e ≠ .normal) : Runs P cfg fid (.loop b) s e t := by
  obtain ⟨K, hK⟩ := h
  exact fuel (K := K) fun k hk => by
    simp only [execF]
    rw [hK k hk]
    cases e <;> first | rfl | exact absurd rfl he

theorem Runs.region {id : Nat} {ops : Array Oper} {draw : Bool} (h : ∃ K, ∀ k, K ≤ k → runRegion P cfg (callF P cfg k) fid id ops draw s = some t) : Runs P cfg fid (.region id ops draw) s .normal t := by
  obtain ⟨K, hK⟩ := h
  refine fuel (K := K) fun k hk => ?_
  have := hK k hk
  unfold callF at this
  simp only [execF, this]; rfl

end

theorem Runs.reg {id : Nat} {ops : Array Oper} {draw : Bool} {s t : St} (h : runRegion P cfg (lim P cfg) fid id ops draw s = some t) : Runs P cfg fid (.region id ops draw) s .normal t := Runs.region (Go.Ab.region_lim h)

/-- The code inside a block. -/
def inBlock : Code → Nat → Option Code
  | .seq a b, i => match inBlock a i with | some x => some x | none => inBlock b i
  | .cond _ a b, i => match inBlock a i with | some x => some x | none => inBlock b i
  | .block j b, i => if i = j then some b else inBlock b i
  | .loop b, i => inBlock b i
  | _, _ => none

def inside (f : Func) (i : Nat) : Code := (f.body.bind (inBlock · i)).getD .skip

/-- A frame beside a memory. -/
def stH (e : Env) (hp : Hp) (n c : Nat) : St := ⟨e, hp, n, c, 0, []⟩

theorem Runs.qH {id : Nat} {ops : Array Oper} {draw : Bool} {e e' : Env} {hp : Hp} {n c : Nat} (l : List Nat) (hm : cfg.mat fid id = []) (hk : cfg.keep fid id = some l) (hst : stillOK ops draw = true) (hq : (qrun P cfg hp.get ops.toList ops.toList e).map (·.keep l) = some e') :
    Runs P cfg fid (.region id ops draw) (stH e hp n c) .normal (stH e' hp n c) := by
  simp only [Option.map_eq_some_iff] at hq
  obtain ⟨x, hx, rfl⟩ := hq
  refine Runs.reg ?_
  rw [qregion (s := stH e hp n c) hst hx, hm, hk]
  rfl

/-- The call of a function. -/
theorem Ev.of_runs {f : FuncId} {fn : Func} {body : Code} {vs rs : List V} {r : CR} {ex : Ex} {e' : Env} {hp : Hp} {n c : Nat} (hf : P.funcs[f]? = some fn) (hb : fn.body = some body) (hok : (Nat.ble vs.length fn.ntmps && codeOK fn.ntmps body) = true)
    (hr : Runs P cfg f body (stH (envOf 0 vs) [] 0 0) ex (stH e' hp n c)) (hex : ex = .normal ∨ ex = .ret) (hres : resultsV P (stH e' hp n c) fn.results.toList = some rs) (hfin : finish (cfg.thr f) 0 (stH e' hp n c) (tup rs) = some r) : Ev P cfg f vs [] 0 0 r := by
  obtain ⟨K, hK⟩ := hr
  refine ⟨K, fun k hk => ?_⟩
  unfold callF callBy
  rw [hf]
  simp only [hb, hok]
  rw [show enter vs [] 0 0 = stH (envOf 0 vs) [] 0 0 from rfl, hK k hk]
  rcases hex with rfl | rfl <;> simp only [leave, hres, hfin]

/-! ### Functions that touch no object -/

/-- A frame beside an empty memory. -/
def st (e : Env) : St := stH e [] 0 0

theorem cut_st (e e' : Env) : cut cfg fid (st e) (st e') = st e' := by unfold cut; split <;> rfl

theorem Runs.qk {id : Nat} {ops : Array Oper} {draw : Bool} {e e' : Env} (l : List Nat) (hm : cfg.mat fid id = []) (hk : cfg.keep fid id = some l) (hst : stillOK ops draw = true) (hq : (qrun P cfg noLook ops.toList ops.toList e).map (·.keep l) = some e') :
    Runs P cfg fid (.region id ops draw) (st e) .normal (st e') := Runs.qH l hm hk hst hq

/-- The call of such a function. -/
theorem den_runs {f : FuncId} {fn : Func} {body : Code} {vs rs : List V} {v : V} {ex : Ex} {e' : Env} (hf : P.funcs[f]? = some fn) (hb : fn.body = some body) (hok : (Nat.ble vs.length fn.ntmps && codeOK fn.ntmps body) = true)
    (hr : Runs P cfg f body (st (envOf 0 vs)) ex (st e')) (hex : ex = .normal ∨ ex = .ret) (hres : resultsV P (st e') fn.results.toList = some rs) (hfin : finish (cfg.thr f) 0 (st e') (tup rs) = some ⟨v, [], 0, 0, []⟩) (hv : (closeT noLook v).isSome = true) : den P cfg f vs = some v :=
  den_of (Ev.of_runs hf hb hok hr hex hres hfin) hv

end Go.Ab
