/- The abstract machine: a region's operations with their guards looked up beforehand. No conditions. -/
import Derived.Test.YtofbmhmdpeclnaaAbW
set_option linter.unusedVariables false
set_option linter.unusedSimpArgs false
namespace Go.Ab
variable {P : Program} {cfg : Cfg} {fid : FuncId}

inductive Gd where
  | free
  | on (d : Nat) (want : Bool)
  | bad

structure PO where
  op : Op
  dst : Option Nat
  g : Gd

def prepO (all : List Oper) (o : Oper) : PO := ⟨o.op, o.dst, match o.guard with
  | none => .free
  | some (j, want) => match all[j]? with
    | some g => match g.dst with | some d => .on d want | none => .bad
    | none => .bad⟩

def wantedP (e : Env) : Gd → Option Bool
  | .free => some true
  | .on d want => match e.get d with
    | .d (.bool b) => some (b == want)
    | .undef => some false
    | _ => none
  | .bad => none

theorem wantedP_eq (all : List Oper) (e : Env) (o : Oper) : wantedP e (prepO all o).g = wantedV all e o := by
  unfold prepO wantedV
  cases o.guard with
  | none => rfl
  | some q =>
    obtain ⟨j, want⟩ := q
    simp only
    cases all[j]? with
    | none => rfl
    | some g => simp only; cases g.dst <;> rfl

noncomputable def qvalP (P : Program) (cfg : Cfg) (look : Look) (o : PO) (e : Env) : Option V :=
  match wantedP e o.g with
  | some true => match o.op with
    | .call ⟨.value fo, args, _⟩ => match evalV e fo with
      | .fn f caps => qcall P cfg look f (args.toList.map (evalV e) ++ caps)
      | _ => none
    | op => qop P look (evalV e) op
  | some false => some .undef
  | none => none

noncomputable def qrunP (P : Program) (cfg : Cfg) (look : Look) : List PO → Env → Option Env
  | [], e => some e
  | o :: r, e => (qvalP P cfg look o e).bind fun v => qrunP P cfg look r (putEnv e o.dst v)

theorem qvalP_eq (look : Look) (all : List Oper) (o : Oper) (e : Env) : qvalP P cfg look (prepO all o) e = qval P cfg look all o e := by
  unfold qvalP qval
  rw [wantedP_eq]
  rfl

theorem qrunP_eq (look : Look) (all : List Oper) : ∀ (l : List Oper) (e : Env), qrunP P cfg look (l.map (prepO all)) e = qrun P cfg look all l e
  | [], e => rfl
  | o :: r, e => by
    simp only [List.map_cons, qrunP, qrun]
    rw [qvalP_eq]
    congr 1
    funext v
    exact qrunP_eq look all r _

theorem Runs.qP {id : Nat} {ops : Array Oper} {draw : Bool} {e e' : Env} {hp : Hp} {n c : Nat} (R : List PO) (l : List Nat) (hR : ops.toList.map (prepO ops.toList) = R) (hm : cfg.mat fid id = []) (hk : cfg.keep fid id = some l) (hst : stillOK ops draw = true)
    (hq : (qrunP P cfg hp.get R e).map (·.keep l) = some e') : Runs P cfg fid (.region id ops draw) (stH e hp n c) .normal (stH e' hp n c) := by
  refine Runs.qH l hm hk hst ?_
  rw [← hR, qrunP_eq] at hq
  exact hq

theorem qrunP_cons {look : Look} {o : PO} {r : List PO} {e : Env} {v : V} {x : Option Env} (h : qvalP P cfg look o e = some v) (hr : qrunP P cfg look r (putEnv e o.dst v) = x) : qrunP P cfg look (o :: r) e = x := by
  simp only [qrunP, h, Option.bind_some]; exact hr

theorem qrunP_nil {look : Look} {e : Env} : qrunP P cfg look [] e = some e := rfl

/-- A region that writes no object, operation by operation. -/
theorem Runs.qS {id : Nat} {ops : Array Oper} {draw : Bool} {e e1 e' : Env} {hp : Hp} {n c : Nat} (R : List PO) (l : List Nat) (hR : ops.toList.map (prepO ops.toList) = R) (hm : cfg.mat fid id = []) (hk : cfg.keep fid id = some l) (hst : stillOK ops draw = true)
    (hq : qrunP P cfg hp.get R e = some e1) (he : e1.keep l = e') : Runs P cfg fid (.region id ops draw) (stH e hp n c) .normal (stH e' hp n c) :=
  Runs.qP R l hR hm hk hst (by rw [hq]; simp [he])

end Go.Ab
