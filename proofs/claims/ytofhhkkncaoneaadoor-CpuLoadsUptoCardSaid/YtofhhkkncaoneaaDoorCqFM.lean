/- A step of the program's machine, any operation. -/
import Derived.Test.YtofhhkkncaoneaaDoorAcBM
import Derived.Test.YtofhhkkncaoneaaDoorAcDM
import Derived.Test.YtofhhkkncaoneaaDoorAcGM
import Derived.Test.YtofhhkkncaoneaaDoorAcJM
import Derived.Test.YtofhhkkncaoneaaDoorAcMM
import Derived.Test.YtofhhkkncaoneaaDoorAcOM
import Derived.Test.YtofhhkkncaoneaaDoorAcSM
import Derived.Test.YtofhhkkncaoneaaDoorAcXM
import Derived.Test.YtofhhkkncaoneaaDoorAcUcM
import Derived.Test.YtofhhkkncaoneaaDoorAcThM
import Derived.Test.YtofhhkkncaoneaaDoorCpBM
import Derived.Test.YtofhhkkncaoneaaDoorCpD
import Derived.Test.YtofhhkkncaoneaaDoorCpE
import Derived.Test.YtofhhkkncaoneaaDoorCpIM
import Derived.Test.YtofhhkkncaoneaaDoorCrTM
import Derived.Calls
import Derived.Orders
import Derived.Laws.World
import Derived.Laws.Sem
import Derived.Laws.Cells
import Derived.Laws.Append
import GoSem.ClaimData
import Derived.Laws.Tables
import Derived.Laws.Slices
import Derived.Laws.Strings
import Derived.Laws.Small
import Derived.KernelRfl
import Derived.Test.YtofhhkkncaoneaaDoorChecked
set_option linter.unusedVariables false
set_option linter.unusedSimpArgs false
section
set_option maxRecDepth 4000
set_option linter.unusedSimpArgs false
set_option linter.unusedVariables false
namespace Go.Ac
open Go.Proofs

/-! ### Instructions that have passed the check -/
inductive OkI (rs : List Rt) (k R M at_ L : Nat) : I → Prop
  | load (A : Nat) (b : Int) (hA : A < R) (h1 : -32768 ≤ b) (h2 : b ≤ 32767) : OkI rs k R M at_ L ⟨1, A, b, 0, 0⟩
  | move (A B : Nat) (hA : A < R) (hB : B < R) : OkI rs k R M at_ L ⟨2, A, B, 0, 0⟩
  | read (A B : Nat) (hA : A < R) (hB : B < M) : OkI rs k R M at_ L ⟨3, A, B, 0, 0⟩
  | write (A B : Nat) (hA : A < M) (hB : B < R) : OkI rs k R M at_ L ⟨4, A, B, 0, 0⟩
  | unary (A B : Nat) (c : Int) (hA : A < R) (hB : B < R) (hc : c = 1 ∨ c = 2) : OkI rs k R M at_ L ⟨5, A, B, c, 0⟩
  | apply (A B C : Nat) (d : Int) (hA : A < R) (hB : B < R) (hC : C < R) (h1 : 3 ≤ d) (h2 : d ≤ 16) : OkI rs k R M at_ L ⟨6, A, B, C, d⟩
  | jump (B : Nat) (h1 : at_ < B) (h2 : B ≤ L) : OkI rs k R M at_ L ⟨7, 0, B, 0, 0⟩
  | zero (A B : Nat) (hA : A < R) (h1 : at_ < B) (h2 : B ≤ L) : OkI rs k R M at_ L ⟨8, A, B, 0, 0⟩
  | call (A B C D : Nat) (q : Rt) (hq : rs[A]? = some q) (hA : A < k) (hB : B + q.ini.length ≤ M) (hC : C + q.inn.length ≤ R) (hD : D + q.out.length ≤ R) : OkI rs k R M at_ L ⟨9, A, B, C, D⟩
  | reset (A B : Nat) (q : Rt) (hq : rs[A]? = some q) (hA : A < k) (hB : B + q.ini.length ≤ M) : OkI rs k R M at_ L ⟨10, A, B, 0, 0⟩

def rtZ : Rt := ⟨[], [], [], 0, [], []⟩
/-! ### The machine -/
def putAt (l : List Int) (k : Nat) (xs : List Int) : List Int := l.take k ++ xs ++ l.drop (k + xs.length)
theorem putAt_len {l : List Int} {k : Nat} {xs : List Int} (h : k + xs.length ≤ l.length) : (putAt l k xs).length = l.length := by
  unfold putAt; simp; omega
abbrev CallM := Nat → Nat → List Int → List Int → List Int × List Int × Nat
def rgv (l : List Int) (x : Int) : Int := l.getD x.toNat 0
def rtAt (rs : List Rt) (a : Int) : Rt := rs.getD a.toNat rtZ
/-- Where it goes on, the registers, the memory, how many instructions more. -/
def stepM (rs : List Rt) (f : CallM) (base at_ : Nat) (i : I) (regs mem : List Int) : Nat × List Int × List Int × Nat :=
  if i.op = 1 then (at_ + 1, regs.set i.a.toNat i.b, mem, 0)
  else if i.op = 2 then (at_ + 1, regs.set i.a.toNat (rgv regs i.b), mem, 0)
  else if i.op = 3 then (at_ + 1, regs.set i.a.toNat (rgv mem (base + i.b)), mem, 0)
  else if i.op = 4 then (at_ + 1, regs, mem.set (base + i.a.toNat) (rgv regs i.b), 0)
  else if i.op = 5 then (at_ + 1, regs.set i.a.toNat (apR i.c [rgv regs i.b]), mem, 0)
  else if i.op = 6 then (at_ + 1, regs.set i.a.toNat (apR i.d [rgv regs i.b, rgv regs i.c]), mem, 0)
  else if i.op = 7 then (i.b.toNat, regs, mem, 0)
  else if i.op = 8 then (if rgv regs i.a = 0 then i.b.toNat else at_ + 1, regs, mem, 0)
  else if i.op = 9 then
    let o := f i.a.toNat (base + i.b.toNat) ((regs.drop i.c.toNat).take (rtAt rs i.a).inn.length) mem
    (at_ + 1, putAt regs i.d.toNat o.1, o.2.1, o.2.2)
  else (at_ + 1, regs, putAt mem (base + i.b.toNat) (rtAt rs i.a).ini, 0)
def loopM (rs : List Rt) (f : CallM) (r : Rt) (base : Nat) : Nat → Nat → List Int → List Int → Nat → List Int × List Int × Nat
  | 0, _, regs, mem, cnt => (regs, mem, cnt)
  | d + 1, at_, regs, mem, cnt => match r.code[at_]? with
    | none => (regs, mem, cnt)
    | some i => loopM rs f r base d (stepM rs f base at_ i regs mem).1 (stepM rs f base at_ i regs mem).2.1 (stepM rs f base at_ i regs mem).2.2.1 (cnt + 1 + (stepM rs f base at_ i regs mem).2.2.2)
def callM (rs : List Rt) : Nat → CallM
  | 0, _, _, _, mem => ([], mem, 0)
  | f + 1, k, base, ins, mem =>
    let r := rs.getD k rtZ
    let o := loopM rs (callM rs f) r base r.code.length 0 (ins ++ List.replicate (r.regs.toNat - ins.length) 0) mem 0
    ((o.1.drop r.inn.length).take r.out.length, o.2.1, o.2.2)

theorem loopM_end {rs : List Rt} {f : CallM} {r : Rt} {base at_ : Nat} (h : r.code.length ≤ at_) (regs mem : List Int) (cnt : Nat) : ∀ d, loopM rs f r base d at_ regs mem cnt = (regs, mem, cnt)
  | 0 => rfl
  | d + 1 => by simp only [loopM, List.getElem?_eq_none h]
theorem loopM_step {rs : List Rt} {f : CallM} {r : Rt} {base at_ : Nat} {i : I} (h : r.code[at_]? = some i) (regs mem : List Int) (cnt d : Nat) : loopM rs f r base (d + 1) at_ regs mem cnt = loopM rs f r base d (stepM rs f base at_ i regs mem).1 (stepM rs f base at_ i regs mem).2.1 (stepM rs f base at_ i regs mem).2.2.1 (cnt + 1 + (stepM rs f base at_ i regs mem).2.2.2) := by
  simp only [loopM, h]

/-- Routines that have passed the check. -/
structure OkR (rs : List Rt) (k : Nat) (r : Rt) : Prop where
  io : (r.inn.length : Int) + r.out.length ≤ r.regs
  hi : r.regs ≤ 32768
  code : ∀ at_ i, r.code[at_]? = some i → OkI rs k r.regs.toNat r.ini.length at_ r.code.length i
def OkM (rs : List Rt) : Prop := ∀ k r, rs[k]? = some r → OkR rs k r

/-- What a call keeps to. -/
def CallOk (rs : List Rt) (n : Nat) (f : CallM) : Prop := ∀ k q base ins mem, k < n → rs[k]? = some q → ins.length = q.inn.length → base + q.ini.length ≤ mem.length → (f k base ins mem).1.length = q.out.length ∧ (f k base ins mem).2.1.length = mem.length

theorem rtAt_nat {rs : List Rt} {A : Nat} {q : Rt} (h : rs[A]? = some q) : rtAt rs (A : Int) = q := by
  unfold rtAt; simp [List.getD, h]

theorem stepM_ok {rs : List Rt} {f : CallM} {k R M L base at_ : Nat} {i : I} {regs mem : List Int} (hi : OkI rs k R M at_ L i) (hf : CallOk rs k f) (hr : regs.length = R) (hm : base + M ≤ mem.length) (hat : at_ < L) :
    (stepM rs f base at_ i regs mem).2.1.length = R ∧ (stepM rs f base at_ i regs mem).2.2.1.length = mem.length ∧ at_ < (stepM rs f base at_ i regs mem).1 ∧ (stepM rs f base at_ i regs mem).1 ≤ L := by
  cases hi with
  | load A b hA h1 h2 => simp [stepM, hr]; omega
  | move A B hA hB => simp [stepM, hr]; omega
  | read A B hA hB => simp [stepM, hr]; omega
  | write A B hA hB => simp [stepM, hr]; omega
  | unary A B c hA hB hc => simp [stepM, hr]; omega
  | apply A B C d hA hB hC h1 h2 => simp [stepM, hr]; omega
  | jump B h1 h2 => simp [stepM, hr]; omega
  | zero A B hA h1 h2 => simp [stepM, hr]; split <;> omega
  | call A B C D q hq hA hB hC hD =>
    have hc := hf A q (base + B) ((regs.drop C).take q.inn.length) mem hA hq (by simp; omega) (by omega)
    have e : stepM rs f base at_ ⟨9, A, B, C, D⟩ regs mem = (at_ + 1, putAt regs D (f A (base + B) ((regs.drop C).take q.inn.length) mem).1, (f A (base + B) ((regs.drop C).take q.inn.length) mem).2.1, (f A (base + B) ((regs.drop C).take q.inn.length) mem).2.2) := by
      simp [stepM, rtAt_nat hq]
    rw [e]
    exact ⟨by rw [putAt_len (by rw [hc.1]; omega), hr], hc.2, by simp, by simp; omega⟩
  | reset A B q hq hA hB =>
    have e : stepM rs f base at_ ⟨10, A, B, 0, 0⟩ regs mem = (at_ + 1, regs, putAt mem (base + B) q.ini, 0) := by
      simp [stepM, rtAt_nat hq]
    rw [e]
    exact ⟨hr, by rw [putAt_len (by omega)], by simp, by simp; omega⟩

theorem loopM_ok {rs : List Rt} {f : CallM} {k : Nat} {r : Rt} {base : Nat} (hr : OkR rs k r) (hf : CallOk rs k f) : ∀ (d at_ : Nat) (regs mem : List Int) (cnt : Nat), regs.length = r.regs.toNat → base + r.ini.length ≤ mem.length →
    (loopM rs f r base d at_ regs mem cnt).1.length = r.regs.toNat ∧ (loopM rs f r base d at_ regs mem cnt).2.1.length = mem.length
  | 0, at_, regs, mem, cnt, h1, h2 => ⟨h1, rfl⟩
  | d + 1, at_, regs, mem, cnt, h1, h2 => by
    by_cases ha : at_ < r.code.length
    · have hi : r.code[at_]? = some r.code[at_] := by simp [ha]
      have hs := stepM_ok (base := base) (regs := regs) (mem := mem) (hr.code _ _ hi) hf h1 h2 ha
      rw [loopM_step hi]
      have ih := loopM_ok hr hf d (stepM rs f base at_ r.code[at_] regs mem).1 _ _ (cnt + 1 + (stepM rs f base at_ r.code[at_] regs mem).2.2.2) hs.1 (by rw [hs.2.1]; exact h2)
      exact ⟨ih.1, ih.2.trans hs.2.1⟩
    · rw [loopM_end (by omega)]
      exact ⟨h1, rfl⟩

theorem callM_ok {rs : List Rt} (h : OkM rs) : ∀ f, CallOk rs f (callM rs f)
  | 0 => fun k q base ins mem hk => by omega
  | f + 1 => fun k q base ins mem hk hq hi hm => by
    have hr := h k q hq
    have hio := hr.io
    have hg : rs.getD k rtZ = q := by simp [List.getD, hq]
    have hl := loopM_ok (base := base) hr (fun j q' b i m hj => callM_ok h f j q' b i m (by omega)) q.code.length 0 (ins ++ List.replicate (q.regs.toNat - ins.length) 0) mem 0 (by simp; omega) hm
    simp only [callM, hg]
    refine ⟨?_, hl.2⟩
    rw [List.length_take, List.length_drop, hl.1]
    omega
end Go.Ac
end

section
set_option maxRecDepth 4000
set_option linter.unusedSimpArgs false
set_option linter.unusedVariables false
namespace Go.Ac
open Go.Proofs

theorem Hp.get_set (h : Hp) (k t : Nat) (o : Ob) : (Hp.set h k o).get t = if k = t then some o else h.get t := by
  split
  · rename_i hk; subst hk; exact Hp.get_set_self ..
  · rename_i hk; exact Hp.get_set_ne _ _ _ _ hk
theorem cI_at {l : List Int} {j : Nat} {x : Int} (h : l[j]? = some x) : (cI l)[j]? = some (V.d (D.int .i64 x)) := by
  unfold cI; simp [h, dI]
theorem cI_put {l : List Int} {j : Nat} (h : j < l.length) (v : Int) : List.take j (cI l) ++ V.d (D.int .i64 v) :: List.drop (j + 1) (cI l) = cI (l.set j v) := by
  have : cI (l.set j v) = (cI l).set j (dI v) := by unfold cI; rw [List.map_set]
  rw [this, List.set_eq_take_append_cons_drop, if_pos (by rw [cI_len]; exact h)]; rfl
theorem rgv_at {l : List Int} {j : Nat} (h : j < l.length) : l[j]? = some (rgv l j) := by
  unfold rgv; simp [h, List.getD]

/-- A call that is handed objects: what it gives, what it may write, what the memory is afterwards. -/
def Thr (f : FuncId) (vs : List V) (hp : Hp) (n c : Nat) (v : V) (ids : List Nat) (Φ : Hp → Prop) : Prop :=
  ∃ q, lim Tryd.prog Cp.cfg f vs hp n c = some q ∧ q.v = v ∧ q.n = n ∧ WI ids n hp q.wl q.hp ∧ Φ q.hp

def thrQ (fn : Func) (hp : Hp) (n : Nat) (v : V) (ids0 : List Nat) (Φ : Hp → Prop) (e : Ex) (t : St) : Prop :=
  (e = .normal ∨ e = .ret) ∧ ∃ rs ids, resultsV Tryd.prog t fn.results.toList = some rs ∧ closeT t.hp.get (tup rs) = some (v, ids) ∧ (v.flat || ids.all (fun i => Nat.ble n i)) = true ∧ WI ids0 n hp t.wl t.hp ∧ Φ (Hp.trunc n t.hp)

theorem thr_wp {f : FuncId} {fn : Func} {body : Code} {vs : List V} {hp : Hp} {n c : Nat} {v : V} {ids0 : List Nat} {Φ : Hp → Prop} (hf : Tryd.prog.funcs[f]? = some fn) (hb : fn.body = some body) (hok : (Nat.ble vs.length fn.ntmps && codeOK fn.ntmps body) = true)
    (hthr : Cp.cfg.thr f = false) (h : WP Tryd.prog Cp.cfg f body ⟨envOf 0 vs, hp, n, c, n, []⟩ (thrQ fn hp n v ids0 Φ)) : Thr f vs hp n c v ids0 Φ := by
  obtain ⟨w, t, h1, h2⟩ := lim_wpD (Q := fun w t => w = v ∧ WI ids0 n hp t.wl t.hp ∧ Φ (Hp.trunc n t.hp)) hf hb hok hthr (h.mono fun e t ⟨he, rs, ids, a1, a2, a3, a4, a5⟩ => ⟨he, rs, v, ids, a1, a2, a3, rfl, a4, a5⟩)
  exact ⟨_, h1, h2.1, rfl, h2.2.1.trunc (Nat.le_refl _), h2.2.2⟩

/-- The same, seen from the caller. -/
theorem Thr.caller {f : FuncId} {vs : List V} {hp : Hp} {n c : Nat} {v : V} {ids : List Nat} {Φ : Hp → Prop} (h : Thr f vs hp n c v ids Φ) (hids : ∀ j, j ∈ ids → j < n) :
    ∃ q, lim Tryd.prog Cp.cfg f vs hp n c = some q ∧ q.v = v ∧ q.n = n ∧ (∀ k, k ∈ (tWr q n).map (·.1) → k < n + (q.n - n)) ∧ (∀ k, k ∈ (tWr q n).map (·.1) → k ∈ ids) ∧
      (∀ j, j < n → j ∉ ids → (hp.sets (tWr q n)).get j = hp.get j) ∧ ∃ hp', Φ hp' ∧ ∀ j, j < n → (hp'.get j).isSome = true → (hp.sets (tWr q n)).get j = hp'.get j := by
  obtain ⟨q, h1, h2, h3, h4, h5⟩ := h
  have hk : ∀ k, k ∈ (tWr q n).map (·.1) → k ∈ ids ∧ k < n := fun k hk => by
    have := tWr_keys (by omega) h4 hids hk
    rcases this.1 with h | h
    · exact ⟨h, hids k h⟩
    · omega
  exact ⟨q, h1, h2, h3, fun k hk' => by have := (hk k hk').2; omega, fun k hk' => (hk k hk').1, fun j hj hn => tWr_old h4 hj hn, q.hp, h5, fun j hj hs => tWr_same h4 (by omega) hs⟩

/-- Registers, memory, counter in their objects. -/
structure Mst (hp : Hp) (rid rg mid mg kid kg : Nat) (regs mem : List Int) (cnt : Int) : Prop where
  r : hp.get rid = some ⟨rg, false, cI regs⟩
  m : hp.get mid = some ⟨mg, false, cI mem⟩
  k : hp.get kid = some ⟨kg, false, [dI cnt]⟩
theorem Mst.same {hp hp' : Hp} {rid rg mid mg kid kg : Nat} {regs mem : List Int} {cnt : Int} (h : Mst hp rid rg mid mg kid kg regs mem cnt) (h1 : hp'.get rid = hp.get rid) (h2 : hp'.get mid = hp.get mid) (h3 : hp'.get kid = hp.get kid) : Mst hp' rid rg mid mg kid kg regs mem cnt :=
  ⟨h1.trans h.r, h2.trans h.m, h3.trans h.k⟩
/-- Three objects that lie apart, all of the caller's. -/
structure Ap (n idc rid mid kid : Nat) : Prop where
  nrm : rid ≠ mid
  nrk : rid ≠ kid
  nmk : mid ≠ kid
  ncr : idc ≠ rid
  ncm : idc ≠ mid
  nck : idc ≠ kid
  lc : idc < n
  lr : rid < n
  lm : mid < n
  lk : kid < n
/-- The machine's object. -/
def CAt (im : Im) (hp : Hp) (idc gc : Nat) (rest : List V) : Prop := ∃ ro, hp.get idc = some ⟨gc, ro, V.d (.slice (encI im.enums)) :: V.d (.slice (encR im.rs)) :: rest⟩
end Go.Ac
end

section
set_option maxRecDepth 4000
set_option linter.unusedSimpArgs false
set_option linter.unusedVariables false
namespace Go.Ac
open Go.Proofs

/-- What a step comes to. -/
def StepAt (hp : Hp) (n c idc gc rid rg mid mg kid kg base M : Nat) (cap : Option Nat) (regs mem : List Int) (cnt : Int) (at_ : Nat) (i : I) (at' : Nat) (regs' mem' : List Int) (cnt' : Int) : Prop :=
  Thr 41 [.ptr idc gc 0, .agg [.osl rid rg 0 regs.length 1 (some regs.length), .osl mid mg base M 1 cap, .ptr kid kg 0], dI at_, aI i] hp n c (dI at') [rid, mid, kid] (fun hp' => Mst hp' rid rg mid mg kid kg regs' mem' cnt')

theorem cI_take (l : List Int) : (cI l).take l.length = cI l := by rw [← cI_len, List.take_length]
theorem cI_putAt (l : List Int) (k : Nat) (xs : List Int) : List.take k (cI l) ++ (cI xs ++ List.drop (k + xs.length) (cI l)) = cI (putAt l k xs) := by
  unfold cI putAt; simp
/-- Facts of places that lie apart. -/
structure ApF (n rid mid kid : Nat) : Prop where
  a1 : (n = rid) = False
  a2 : (n + 1 = rid) = False
  a3 : (n + 2 = rid) = False
  a4 : (n = mid) = False
  a5 : (n + 1 = mid) = False
  a6 : (n + 2 = mid) = False
  a7 : (n = kid) = False
  a8 : (n + 1 = kid) = False
  a9 : (n + 2 = kid) = False
  b1 : (rid = mid) = False
  b2 : (mid = rid) = False
  b3 : (rid = kid) = False
  b4 : (kid = rid) = False
  b5 : (mid = kid) = False
  b6 : (kid = mid) = False
  c1 : (rid < n + 1 + 1) = True
  c2 : (mid < n + 1 + 1) = True
  c3 : (rid < n + 1 + 1 + 1) = True
  e1 : Nat.beq (n + 2) rid = false
  e2 : Nat.beq (n + 2) n = false
  e3 : Nat.beq (n + 2) (n + 1) = false
theorem Ap.f {n idc rid mid kid : Nat} (h : Ap n idc rid mid kid) : ApF n rid mid kid := by
  obtain ⟨h1, h2, h3, h4, h5, h6, h7, h8, h9, h10⟩ := h
  refine ⟨?_, ?_, ?_, ?_, ?_, ?_, ?_, ?_, ?_, ?_, ?_, ?_, ?_, ?_, ?_, ?_, ?_, ?_, nbeq_ne (by omega), nbeq_ne (by omega), nbeq_ne (by omega)⟩ <;> simp <;> omega

section
variable {im : Im} {hp : Hp} {n c idc gc rid rg mid mg kid kg base M : Nat} {cap : Option Nat} {regs mem : List Int} {cnt : Int} {at_ : Nat}

set_option maxHeartbeats 1000000 in
theorem step_load (hA : Ap n idc rid mid kid) (hM : Mst hp rid rg mid mg kid kg regs mem cnt) (hat : at_ < 1000000) (A : Nat) (b : Int) (h1 : A < regs.length) : StepAt hp n c idc gc rid rg mid mg kid kg base M cap regs mem cnt at_ ⟨1, A, b, 0, 0⟩ (at_ + 1) (regs.set A b) mem cnt := by
  have hw : IntKind.i64.wrap ((at_ : Int) + 1) = ((at_ + 1 : Nat) : Int) := by rw [w_id'] <;> omega
  obtain ⟨a1, a2, a3, a4, a5, a6, a7, a8, a9, b1, b2, b3, b4, b5, b6, c1, c2, c3, e1, e2, e3⟩ := hA.f
  have q1 := hA.lr
  have q2 := hA.lm
  have q3 := hA.lk
  have hr := hM.r
  have hm := hM.m
  have hk := hM.k
  have h1' : (A + 1 ≤ regs.length) = True := by simp; omega
  refine thr_wp Tryd.func41 rfl (by kernel_rfl) rfl ?_
  refine wkcek (And.intro @envOf.eq_1 (And.intro @envOf.eq_2 (And.intro @aI.eq_1 (And.intro @I.cells.eq_1 (And.intro @dI.eq_1 (And.intro @Hp.get_set (And.intro @a1 (And.intro @a2 (And.intro @a3 (And.intro @a4 (And.intro @a5 (And.intro @a6 (And.intro @hr (And.intro @hm (And.intro @cI_len (And.intro @nble_d (And.intro @c1 (And.intro @c2 (And.intro @c3 (And.intro (idx_lt h1) (And.intro (cI_put h1) @h1'))))))))))))))))))))) ?_
  exact ⟨.inr rfl, _, _, rfl, by rw [hw]; rfl, rfl, (((WI.refl.set (.inr (by omega))).set (.inr (by omega))).set (.inl (by simp))), ⟨by rw [Hp.get_trunc _ _ _ (by omega)]; simp [Hp.get_set, a1, a2, a3, a4, a5, a6, a7, a8, a9, b1, b2, b3, b4, b5, b6, hr, hm, hk], by rw [Hp.get_trunc _ _ _ (by omega)]; simp [Hp.get_set, a1, a2, a3, a4, a5, a6, a7, a8, a9, b1, b2, b3, b4, b5, b6, hr, hm, hk], by rw [Hp.get_trunc _ _ _ (by omega)]; simp [Hp.get_set, a1, a2, a3, a4, a5, a6, a7, a8, a9, b1, b2, b3, b4, b5, b6, hr, hm, hk]⟩⟩

set_option maxHeartbeats 1000000 in
theorem step_move (hA : Ap n idc rid mid kid) (hM : Mst hp rid rg mid mg kid kg regs mem cnt) (hat : at_ < 1000000) (A B : Nat) (h1 : A < regs.length) (h2 : B < regs.length) : StepAt hp n c idc gc rid rg mid mg kid kg base M cap regs mem cnt at_ ⟨2, A, B, 0, 0⟩ (at_ + 1) (regs.set A (rgv regs B)) mem cnt := by
  have hw : IntKind.i64.wrap ((at_ : Int) + 1) = ((at_ + 1 : Nat) : Int) := by rw [w_id'] <;> omega
  obtain ⟨a1, a2, a3, a4, a5, a6, a7, a8, a9, b1, b2, b3, b4, b5, b6, c1, c2, c3, e1, e2, e3⟩ := hA.f
  have q1 := hA.lr
  have q2 := hA.lm
  have q3 := hA.lk
  have hr := hM.r
  have hm := hM.m
  have hk := hM.k
  have h1' : (A + 1 ≤ regs.length) = True := by simp; omega
  have h2' := cI_at (rgv_at h2)
  refine thr_wp Tryd.func41 rfl (by kernel_rfl) rfl ?_
  refine wkcek (And.intro @envOf.eq_1 (And.intro @envOf.eq_2 (And.intro @aI.eq_1 (And.intro @I.cells.eq_1 (And.intro @dI.eq_1 (And.intro @Hp.get_set (And.intro @a1 (And.intro @a2 (And.intro @a3 (And.intro @a4 (And.intro @a5 (And.intro @a6 (And.intro @hr (And.intro @hm (And.intro @cI_len (And.intro @nble_d (And.intro @c1 (And.intro @c2 (And.intro @c3 (And.intro (idx_lt h1) (And.intro (idx_lt h2) (And.intro (cI_put h1) (And.intro @h1' @h2'))))))))))))))))))))))) ?_
  exact ⟨.inr rfl, _, _, rfl, by rw [hw]; rfl, rfl, (((WI.refl.set (.inr (by omega))).set (.inr (by omega))).set (.inl (by simp))), ⟨by rw [Hp.get_trunc _ _ _ (by omega)]; simp [Hp.get_set, a1, a2, a3, a4, a5, a6, a7, a8, a9, b1, b2, b3, b4, b5, b6, hr, hm, hk], by rw [Hp.get_trunc _ _ _ (by omega)]; simp [Hp.get_set, a1, a2, a3, a4, a5, a6, a7, a8, a9, b1, b2, b3, b4, b5, b6, hr, hm, hk], by rw [Hp.get_trunc _ _ _ (by omega)]; simp [Hp.get_set, a1, a2, a3, a4, a5, a6, a7, a8, a9, b1, b2, b3, b4, b5, b6, hr, hm, hk]⟩⟩

set_option maxHeartbeats 1000000 in
theorem step_read (hA : Ap n idc rid mid kid) (hM : Mst hp rid rg mid mg kid kg regs mem cnt) (hat : at_ < 1000000) (A B : Nat) (h1 : A < regs.length) (h2 : B < M) (h3 : base + M ≤ mem.length) : StepAt hp n c idc gc rid rg mid mg kid kg base M cap regs mem cnt at_ ⟨3, A, B, 0, 0⟩ (at_ + 1) (regs.set A (rgv mem (base + (B : Int)))) mem cnt := by
  have hw : IntKind.i64.wrap ((at_ : Int) + 1) = ((at_ + 1 : Nat) : Int) := by rw [w_id'] <;> omega
  obtain ⟨a1, a2, a3, a4, a5, a6, a7, a8, a9, b1, b2, b3, b4, b5, b6, c1, c2, c3, e1, e2, e3⟩ := hA.f
  have q1 := hA.lr
  have q2 := hA.lm
  have q3 := hA.lk
  have hr := hM.r
  have hm := hM.m
  have hk := hM.k
  have h1' : (A + 1 ≤ regs.length) = True := by simp; omega
  have h2' := cI_at (rgv_at (l := mem) (j := base + B) (by omega))
  rw [Int.natCast_add] at h2'
  refine thr_wp Tryd.func41 rfl (by kernel_rfl) rfl ?_
  refine wkcek (And.intro @envOf.eq_1 (And.intro @envOf.eq_2 (And.intro @aI.eq_1 (And.intro @I.cells.eq_1 (And.intro @dI.eq_1 (And.intro @Hp.get_set (And.intro @a1 (And.intro @a2 (And.intro @a3 (And.intro @a4 (And.intro @a5 (And.intro @a6 (And.intro @hr (And.intro @hm (And.intro @cI_len (And.intro @nble_d (And.intro @c1 (And.intro @c2 (And.intro @c3 (And.intro (idx_lt h1) (And.intro (idx_lt h2) (And.intro (cI_put h1) (And.intro @h1' @h2'))))))))))))))))))))))) ?_
  exact ⟨.inr rfl, _, _, rfl, by rw [hw]; rfl, rfl, (((WI.refl.set (.inr (by omega))).set (.inr (by omega))).set (.inl (by simp))), ⟨by rw [Hp.get_trunc _ _ _ (by omega)]; simp [Hp.get_set, a1, a2, a3, a4, a5, a6, a7, a8, a9, b1, b2, b3, b4, b5, b6, hr, hm, hk], by rw [Hp.get_trunc _ _ _ (by omega)]; simp [Hp.get_set, a1, a2, a3, a4, a5, a6, a7, a8, a9, b1, b2, b3, b4, b5, b6, hr, hm, hk], by rw [Hp.get_trunc _ _ _ (by omega)]; simp [Hp.get_set, a1, a2, a3, a4, a5, a6, a7, a8, a9, b1, b2, b3, b4, b5, b6, hr, hm, hk]⟩⟩

set_option maxHeartbeats 1000000 in
theorem step_write (hA : Ap n idc rid mid kid) (hM : Mst hp rid rg mid mg kid kg regs mem cnt) (hat : at_ < 1000000) (A B : Nat) (h1 : A < M) (h2 : B < regs.length) (h3 : base + M ≤ mem.length) : StepAt hp n c idc gc rid rg mid mg kid kg base M cap regs mem cnt at_ ⟨4, A, B, 0, 0⟩ (at_ + 1) regs (mem.set (base + A) (rgv regs B)) cnt := by
  have hw : IntKind.i64.wrap ((at_ : Int) + 1) = ((at_ + 1 : Nat) : Int) := by rw [w_id'] <;> omega
  obtain ⟨a1, a2, a3, a4, a5, a6, a7, a8, a9, b1, b2, b3, b4, b5, b6, c1, c2, c3, e1, e2, e3⟩ := hA.f
  have q1 := hA.lr
  have q2 := hA.lm
  have q3 := hA.lk
  have hr := hM.r
  have hm := hM.m
  have hk := hM.k
  have h1' : (base + A + 1 ≤ mem.length) = True := by simp; omega
  have h2' := cI_at (rgv_at h2)
  have h4 : base + A < mem.length := by omega
  refine thr_wp Tryd.func41 rfl (by kernel_rfl) rfl ?_
  refine wkcek (And.intro @envOf.eq_1 (And.intro @envOf.eq_2 (And.intro @aI.eq_1 (And.intro @I.cells.eq_1 (And.intro @dI.eq_1 (And.intro @Hp.get_set (And.intro @a1 (And.intro @a2 (And.intro @a3 (And.intro @a4 (And.intro @a5 (And.intro @a6 (And.intro @hr (And.intro @hm (And.intro @cI_len (And.intro @nble_d (And.intro @c1 (And.intro @c2 (And.intro @c3 (And.intro (idx_lt h1) (And.intro (idx_lt h2) (And.intro (cI_put h4) (And.intro @h1' @h2'))))))))))))))))))))))) ?_
  exact ⟨.inr rfl, _, _, rfl, by rw [hw]; rfl, rfl, (((WI.refl.set (.inr (by omega))).set (.inr (by omega))).set (.inl (by simp))), ⟨by rw [Hp.get_trunc _ _ _ (by omega)]; simp [Hp.get_set, a1, a2, a3, a4, a5, a6, a7, a8, a9, b1, b2, b3, b4, b5, b6, hr, hm, hk], by rw [Hp.get_trunc _ _ _ (by omega)]; simp [Hp.get_set, a1, a2, a3, a4, a5, a6, a7, a8, a9, b1, b2, b3, b4, b5, b6, hr, hm, hk], by rw [Hp.get_trunc _ _ _ (by omega)]; simp [Hp.get_set, a1, a2, a3, a4, a5, a6, a7, a8, a9, b1, b2, b3, b4, b5, b6, hr, hm, hk]⟩⟩

set_option maxHeartbeats 1000000 in
theorem step_jump (hA : Ap n idc rid mid kid) (hM : Mst hp rid rg mid mg kid kg regs mem cnt) (hat : at_ < 1000000) (B : Nat) : StepAt hp n c idc gc rid rg mid mg kid kg base M cap regs mem cnt at_ ⟨7, 0, B, 0, 0⟩ B regs mem cnt := by
  have hw : IntKind.i64.wrap ((at_ : Int) + 1) = ((at_ + 1 : Nat) : Int) := by rw [w_id'] <;> omega
  obtain ⟨a1, a2, a3, a4, a5, a6, a7, a8, a9, b1, b2, b3, b4, b5, b6, c1, c2, c3, e1, e2, e3⟩ := hA.f
  have q1 := hA.lr
  have q2 := hA.lm
  have q3 := hA.lk
  have hr := hM.r
  have hm := hM.m
  have hk := hM.k
  refine thr_wp Tryd.func41 rfl (by kernel_rfl) rfl ?_
  refine wkcek (And.intro @envOf.eq_1 (And.intro @envOf.eq_2 (And.intro @aI.eq_1 (And.intro @I.cells.eq_1 (And.intro @dI.eq_1 (And.intro @Hp.get_set (And.intro @a1 (And.intro @a2 (And.intro @a3 (And.intro @a4 (And.intro @a5 (And.intro @a6 (And.intro @hr (And.intro @hm (And.intro @cI_len (And.intro @nble_d (And.intro @c1 (And.intro @c2 @c3)))))))))))))))))) ?_
  exact ⟨.inr rfl, _, _, rfl, rfl, rfl, ((WI.refl.set (.inr (by omega))).set (.inr (by omega))), ⟨by rw [Hp.get_trunc _ _ _ (by omega)]; simp [Hp.get_set, a1, a2, a3, a4, a5, a6, a7, a8, a9, b1, b2, b3, b4, b5, b6, hr, hm, hk], by rw [Hp.get_trunc _ _ _ (by omega)]; simp [Hp.get_set, a1, a2, a3, a4, a5, a6, a7, a8, a9, b1, b2, b3, b4, b5, b6, hr, hm, hk], by rw [Hp.get_trunc _ _ _ (by omega)]; simp [Hp.get_set, a1, a2, a3, a4, a5, a6, a7, a8, a9, b1, b2, b3, b4, b5, b6, hr, hm, hk]⟩⟩

set_option maxHeartbeats 1000000 in
theorem step_zero (hA : Ap n idc rid mid kid) (hM : Mst hp rid rg mid mg kid kg regs mem cnt) (hat : at_ < 1000000) (A B : Nat) (h1 : A < regs.length) : StepAt hp n c idc gc rid rg mid mg kid kg base M cap regs mem cnt at_ ⟨8, A, B, 0, 0⟩ (if rgv regs A = 0 then B else at_ + 1) regs mem cnt := by
  have hw : IntKind.i64.wrap ((at_ : Int) + 1) = ((at_ + 1 : Nat) : Int) := by rw [w_id'] <;> omega
  obtain ⟨a1, a2, a3, a4, a5, a6, a7, a8, a9, b1, b2, b3, b4, b5, b6, c1, c2, c3, e1, e2, e3⟩ := hA.f
  have q1 := hA.lr
  have q2 := hA.lm
  have q3 := hA.lk
  have hr := hM.r
  have hm := hM.m
  have hk := hM.k
  have h1' := cI_at (rgv_at h1)
  refine thr_wp Tryd.func41 rfl (by kernel_rfl) rfl ?_
  by_cases hz : rgv regs A = 0
  · have hz' : (rgv regs A == 0) = true := by simp [hz]
    refine wkcek (And.intro @envOf.eq_1 (And.intro @envOf.eq_2 (And.intro @aI.eq_1 (And.intro @I.cells.eq_1 (And.intro @dI.eq_1 (And.intro @Hp.get_set (And.intro @a1 (And.intro @a2 (And.intro @a3 (And.intro @a4 (And.intro @a5 (And.intro @a6 (And.intro @hr (And.intro @hm (And.intro @cI_len (And.intro @nble_d (And.intro @c1 (And.intro @c2 (And.intro @c3 (And.intro (idx_lt h1) (And.intro @h1' (And.intro @hz' @hz)))))))))))))))))))))) ?_
    rw [if_pos hz]
    exact ⟨.inr rfl, _, _, rfl, rfl, rfl, ((WI.refl.set (.inr (by omega))).set (.inr (by omega))), ⟨by rw [Hp.get_trunc _ _ _ (by omega)]; simp [Hp.get_set, a1, a2, a3, a4, a5, a6, a7, a8, a9, b1, b2, b3, b4, b5, b6, hr, hm, hk], by rw [Hp.get_trunc _ _ _ (by omega)]; simp [Hp.get_set, a1, a2, a3, a4, a5, a6, a7, a8, a9, b1, b2, b3, b4, b5, b6, hr, hm, hk], by rw [Hp.get_trunc _ _ _ (by omega)]; simp [Hp.get_set, a1, a2, a3, a4, a5, a6, a7, a8, a9, b1, b2, b3, b4, b5, b6, hr, hm, hk]⟩⟩
  · refine wkcek (And.intro @envOf.eq_1 (And.intro @envOf.eq_2 (And.intro @aI.eq_1 (And.intro @I.cells.eq_1 (And.intro @dI.eq_1 (And.intro @Hp.get_set (And.intro @a1 (And.intro @a2 (And.intro @a3 (And.intro @a4 (And.intro @a5 (And.intro @a6 (And.intro @hr (And.intro @hm (And.intro @cI_len (And.intro @nble_d (And.intro @c1 (And.intro @c2 (And.intro @c3 (And.intro (idx_lt h1) (And.intro @h1' (And.intro @hz @int_beq)))))))))))))))))))))) ?_
    rw [if_neg hz]
    exact ⟨.inr rfl, _, _, rfl, by rw [hw]; rfl, rfl, ((WI.refl.set (.inr (by omega))).set (.inr (by omega))), ⟨by rw [Hp.get_trunc _ _ _ (by omega)]; simp [Hp.get_set, a1, a2, a3, a4, a5, a6, a7, a8, a9, b1, b2, b3, b4, b5, b6, hr, hm, hk], by rw [Hp.get_trunc _ _ _ (by omega)]; simp [Hp.get_set, a1, a2, a3, a4, a5, a6, a7, a8, a9, b1, b2, b3, b4, b5, b6, hr, hm, hk], by rw [Hp.get_trunc _ _ _ (by omega)]; simp [Hp.get_set, a1, a2, a3, a4, a5, a6, a7, a8, a9, b1, b2, b3, b4, b5, b6, hr, hm, hk]⟩⟩

set_option maxHeartbeats 1000000 in
theorem step_unary (hA : Ap n idc rid mid kid) (hM : Mst hp rid rg mid mg kid kg regs mem cnt) (hat : at_ < 1000000) (A B : Nat) (d : Int) (h1 : A < regs.length) (h2 : B < regs.length) (h4 : d = 1 ∨ d = 2) : StepAt hp n c idc gc rid rg mid mg kid kg base M cap regs mem cnt at_ ⟨5, A, B, d, 0⟩ (at_ + 1) (regs.set A (apR d [rgv regs B])) mem cnt := by
  have hw : IntKind.i64.wrap ((at_ : Int) + 1) = ((at_ + 1 : Nat) : Int) := by rw [w_id'] <;> omega
  obtain ⟨a1, a2, a3, a4, a5, a6, a7, a8, a9, b1, b2, b3, b4, b5, b6, c1, c2, c3, e1, e2, e3⟩ := hA.f
  have q1 := hA.lr
  have q2 := hA.lm
  have q3 := hA.lk
  have hr := hM.r
  have hm := hM.m
  have hk := hM.k
  have h1' : (A + 1 ≤ regs.length) = True := by simp; omega
  have h2' := cI_at (rgv_at h2)
  have hd := mapply_den d (by rcases h4 with rfl | rfl <;> simp [IsOp]) [rgv regs B] (by rcases h4 with rfl | rfl <;> rfl)
  simp only [dI, dL, encI, ni, List.map_cons, List.map_nil] at hd
  refine thr_wp Tryd.func41 rfl (by kernel_rfl) rfl ?_
  repeat (first
 | apply WP.seq
 | (apply WP.reg; (case hR => dsimp only [prepL, prepO, List.map, gS, gZ]; exact iZ); (case hr => (repeat (first
 | (apply RT.op; simp [envOf, aI, I.cells, dI, Hp.get_set, a1, a2, a3, a4, a5, a6, hr, hm, cI_len, nble_d, c1, c2, c3, -addNew, idx_lt h1, idx_lt h2, cI_put h1, h1', h2', hd, toD_dep, toDs, chunk, closeParts, cl2, fillV]; exact iZ; (try dsimp only [putEnv]) <;> exact rfl)
 | (apply RT.call; (iterate 2 simp; exact iZ); exact iZ; (iterate 4 simp [envOf, aI, I.cells, dI, Hp.get_set, a1, a2, a3, a4, a5, a6, hr, hm, cI_len, nble_d, c1, c2, c3, -addNew, idx_lt h1, idx_lt h2, cI_put h1, h1', h2', hd, toD_dep, toDs, chunk, closeParts, cl2, fillV]; exact iZ); simp [Is]; (try dsimp only [putEnv]) <;> exact rfl; simp; exact iZ; exact iZ)
 | (apply RT.wr; simp [envOf, aI, I.cells, dI, Hp.get_set, a1, a2, a3, a4, a5, a6, hr, hm, cI_len, nble_d, c1, c2, c3, -addNew, idx_lt h1, idx_lt h2, cI_put h1, h1', h2', hd, toD_dep, toDs, chunk, closeParts, cl2, fillV]; exact iZ; (try dsimp only [putEnv]) <;> exact rfl; simp [envOf, aI, I.cells, dI, Hp.get_set, a1, a2, a3, a4, a5, a6, hr, hm, cI_len, nble_d, c1, c2, c3, -addNew, idx_lt h1, idx_lt h2, cI_put h1, h1', h2', hd, toD_dep, toDs, chunk, closeParts, cl2, fillV]; exact iZ; (iterate 2 exact iZ); exact iZ))); exact RT.nil); (case hc => first | (refine checkR_un [(0, 2), (1, 2), (0, 3), (1, 3), (0, 4), (1, 4), (2, 4), (3, 4), (0, 5), (1, 5), (2, 5), (3, 5), (0, 6), (1, 6), (2, 6), (3, 6), (4, 6), (5, 6), (0, 7), (1, 7), (2, 7), (3, 7), (4, 7), (5, 7), (0, 8), (1, 8), (2, 8), (3, 8), (4, 8), (5, 8), (6, 8), (7, 8), (0, 9), (1, 9), (2, 9), (3, 9), (4, 9), (5, 9), (6, 9), (7, 9), (0, 10), (1, 10), (2, 10), (3, 10), (4, 10), (5, 10), (0, 11), (1, 11), (2, 11), (3, 11), (4, 11), (5, 11), (0, 12), (1, 12), (2, 12), (3, 12), (4, 12), (5, 12), (0, 13), (1, 13), (2, 13), (3, 13)] (by kernel_rfl) (by kernel_rfl) rfl ?_; simp [memA, disj, e1, e2, e3]; done) | (show _ = _; kernel_rfl)); (case ht => simp [envOf, aI, I.cells, dI, Hp.get_set, a1, a2, a3, a4, a5, a6, hr, hm, cI_len, nble_d, c1, c2, c3, -addNew, idx_lt h1, idx_lt h2, cI_put h1, h1', h2', hd, toD_dep, toDs, chunk, closeParts, cl2, fillV]; exact iZ))
 | apply WP.block | apply WP.skip | apply WP.exit | apply WP.ret | refine WP.condT rfl ?_ | refine WP.condF rfl ?_)
  exact ⟨.inr rfl, _, _, rfl, by rw [hw]; rfl, rfl, ((((WI.refl.set (.inr (by omega))).set (.inr (by omega))).set (.inr (by omega))).set (.inl (by simp))), ⟨by rw [Hp.get_trunc _ _ _ (by omega)]; simp [Hp.get_set, a1, a2, a3, a4, a5, a6, a7, a8, a9, b1, b2, b3, b4, b5, b6, hr, hm, hk], by rw [Hp.get_trunc _ _ _ (by omega)]; simp [Hp.get_set, a1, a2, a3, a4, a5, a6, a7, a8, a9, b1, b2, b3, b4, b5, b6, hr, hm, hk], by rw [Hp.get_trunc _ _ _ (by omega)]; simp [Hp.get_set, a1, a2, a3, a4, a5, a6, a7, a8, a9, b1, b2, b3, b4, b5, b6, hr, hm, hk]⟩⟩

set_option maxHeartbeats 1000000 in
theorem step_apply (hA : Ap n idc rid mid kid) (hM : Mst hp rid rg mid mg kid kg regs mem cnt) (hat : at_ < 1000000) (A B C : Nat) (d : Int) (h1 : A < regs.length) (h2 : B < regs.length) (h3 : C < regs.length) (h4 : 3 ≤ d) (h5 : d ≤ 16) : StepAt hp n c idc gc rid rg mid mg kid kg base M cap regs mem cnt at_ ⟨6, A, B, C, d⟩ (at_ + 1) (regs.set A (apR d [rgv regs B, rgv regs C])) mem cnt := by
  have hw : IntKind.i64.wrap ((at_ : Int) + 1) = ((at_ + 1 : Nat) : Int) := by rw [w_id'] <;> omega
  obtain ⟨a1, a2, a3, a4, a5, a6, a7, a8, a9, b1, b2, b3, b4, b5, b6, c1, c2, c3, e1, e2, e3⟩ := hA.f
  have q1 := hA.lr
  have q2 := hA.lm
  have q3 := hA.lk
  have hr := hM.r
  have hm := hM.m
  have hk := hM.k
  have h1' : (A + 1 ≤ regs.length) = True := by simp; omega
  have h2' := cI_at (rgv_at h2)
  have h3' := cI_at (rgv_at h3)
  have hd := mapply_den d (isOp_of (by omega) h5) [rgv regs B, rgv regs C] (by unfold ar; rw [if_neg (by omega)]; rfl)
  simp only [dI, dL, encI, ni, List.map_cons, List.map_nil] at hd
  refine thr_wp Tryd.func41 rfl (by kernel_rfl) rfl ?_
  repeat (first
 | apply WP.seq
 | (apply WP.reg; (case hR => dsimp only [prepL, prepO, List.map, gS, gZ]; exact iZ); (case hr => (repeat (first
 | (apply RT.op; simp [envOf, aI, I.cells, dI, Hp.get_set, a1, a2, a3, a4, a5, a6, hr, hm, cI_len, nble_d, c1, c2, c3, -addNew, idx_lt h1, idx_lt h2, idx_lt h3, cI_put h1, h1', h2', h3', hd, toD_dep, toDs, chunk, closeParts, cl2, fillV]; exact iZ; (try dsimp only [putEnv]) <;> exact rfl)
 | (apply RT.call; (iterate 2 simp; exact iZ); exact iZ; (iterate 4 simp [envOf, aI, I.cells, dI, Hp.get_set, a1, a2, a3, a4, a5, a6, hr, hm, cI_len, nble_d, c1, c2, c3, -addNew, idx_lt h1, idx_lt h2, idx_lt h3, cI_put h1, h1', h2', h3', hd, toD_dep, toDs, chunk, closeParts, cl2, fillV]; exact iZ); simp [Is]; (try dsimp only [putEnv]) <;> exact rfl; simp; exact iZ; exact iZ)
 | (apply RT.wr; simp [envOf, aI, I.cells, dI, Hp.get_set, a1, a2, a3, a4, a5, a6, hr, hm, cI_len, nble_d, c1, c2, c3, -addNew, idx_lt h1, idx_lt h2, idx_lt h3, cI_put h1, h1', h2', h3', hd, toD_dep, toDs, chunk, closeParts, cl2, fillV]; exact iZ; (try dsimp only [putEnv]) <;> exact rfl; simp [envOf, aI, I.cells, dI, Hp.get_set, a1, a2, a3, a4, a5, a6, hr, hm, cI_len, nble_d, c1, c2, c3, -addNew, idx_lt h1, idx_lt h2, idx_lt h3, cI_put h1, h1', h2', h3', hd, toD_dep, toDs, chunk, closeParts, cl2, fillV]; exact iZ; (iterate 2 exact iZ); exact iZ))); exact RT.nil); (case hc => first | (refine checkR_un [(0, 2), (1, 2), (0, 3), (1, 3), (0, 4), (1, 4), (2, 4), (3, 4), (0, 5), (1, 5), (2, 5), (3, 5), (0, 6), (1, 6), (2, 6), (3, 6), (4, 6), (5, 6), (0, 7), (1, 7), (2, 7), (3, 7), (4, 7), (5, 7), (0, 8), (1, 8), (2, 8), (3, 8), (4, 8), (5, 8), (6, 8), (7, 8), (0, 9), (1, 9), (2, 9), (3, 9), (4, 9), (5, 9), (6, 9), (7, 9), (0, 10), (1, 10), (2, 10), (3, 10), (4, 10), (5, 10), (0, 11), (1, 11), (2, 11), (3, 11), (4, 11), (5, 11), (0, 12), (1, 12), (2, 12), (3, 12), (4, 12), (5, 12), (6, 12), (7, 12), (8, 12), (9, 12), (10, 12), (11, 12), (0, 13), (1, 13), (2, 13), (3, 13), (4, 13), (5, 13), (6, 13), (7, 13), (8, 13), (9, 13), (10, 13), (11, 13), (0, 14), (1, 14), (2, 14), (3, 14), (4, 14), (5, 14), (6, 14), (7, 14), (8, 14), (9, 14), (10, 14), (11, 14), (12, 14), (13, 14), (0, 15), (1, 15), (2, 15), (3, 15), (4, 15), (5, 15), (6, 15), (7, 15), (8, 15), (9, 15), (10, 15), (11, 15), (12, 15), (13, 15), (0, 16), (1, 16), (2, 16), (3, 16), (4, 16), (5, 16), (6, 16), (7, 16), (8, 16), (9, 16), (10, 16), (11, 16), (0, 17), (1, 17), (2, 17), (3, 17), (4, 17), (5, 17), (6, 17), (7, 17), (8, 17), (9, 17), (10, 17), (11, 17), (0, 18), (1, 18), (2, 18), (3, 18), (4, 18), (5, 18), (0, 19), (1, 19), (2, 19), (3, 19)] (by kernel_rfl) (by kernel_rfl) rfl ?_; simp [memA, disj, e1, e2, e3]; done) | (show _ = _; kernel_rfl)); (case ht => simp [envOf, aI, I.cells, dI, Hp.get_set, a1, a2, a3, a4, a5, a6, hr, hm, cI_len, nble_d, c1, c2, c3, -addNew, idx_lt h1, idx_lt h2, idx_lt h3, cI_put h1, h1', h2', h3', hd, toD_dep, toDs, chunk, closeParts, cl2, fillV]; exact iZ))
 | apply WP.block | apply WP.skip | apply WP.exit | apply WP.ret | refine WP.condT rfl ?_ | refine WP.condF rfl ?_)
  exact ⟨.inr rfl, _, _, rfl, by rw [hw]; rfl, rfl, ((((WI.refl.set (.inr (by omega))).set (.inr (by omega))).set (.inr (by omega))).set (.inl (by simp))), ⟨by rw [Hp.get_trunc _ _ _ (by omega)]; simp [Hp.get_set, a1, a2, a3, a4, a5, a6, a7, a8, a9, b1, b2, b3, b4, b5, b6, hr, hm, hk], by rw [Hp.get_trunc _ _ _ (by omega)]; simp [Hp.get_set, a1, a2, a3, a4, a5, a6, a7, a8, a9, b1, b2, b3, b4, b5, b6, hr, hm, hk], by rw [Hp.get_trunc _ _ _ (by omega)]; simp [Hp.get_set, a1, a2, a3, a4, a5, a6, a7, a8, a9, b1, b2, b3, b4, b5, b6, hr, hm, hk]⟩⟩

set_option maxHeartbeats 1000000 in
theorem step_reset (hA : Ap n idc rid mid kid) (hM : Mst hp rid rg mid mg kid kg regs mem cnt) (hat : at_ < 1000000) (A B : Nat) (q : Rt) (hq : im.rs[A]? = some q) (hC : ∃ rest, CAt im hp idc gc rest) (h1 : B + q.ini.length ≤ M) (h3 : base + M ≤ mem.length) (hcap : (M ≤ cap.getD M) = True) : StepAt hp n c idc gc rid rg mid mg kid kg base M cap regs mem cnt at_ ⟨10, A, B, 0, 0⟩ (at_ + 1) regs (putAt mem (base + B) q.ini) cnt := by
  have hw : IntKind.i64.wrap ((at_ : Int) + 1) = ((at_ + 1 : Nat) : Int) := by rw [w_id'] <;> omega
  obtain ⟨a1, a2, a3, a4, a5, a6, a7, a8, a9, b1, b2, b3, b4, b5, b6, c1, c2, c3, e1, e2, e3⟩ := hA.f
  have q1 := hA.lr
  have q2 := hA.lm
  have q3 := hA.lk
  have hr := hM.r
  have hm := hM.m
  have hk := hM.k
  obtain ⟨rest, ro, hC⟩ := hC
  have hq' := encR_at hq
  have hix := idx_lt (by obtain ⟨h, _⟩ := List.getElem?_eq_some_iff.1 hq; exact h : A < im.rs.length)
  have hmin : min q.ini.length (M - B) = q.ini.length := by omega
  have g1 : (n = idc) = False := by have := hA.lc; simp; omega
  have g2 : (n + 1 = idc) = False := by have := hA.lc; simp; omega
  have g3 : (B ≤ M) = True := by simp; omega
  have g4 : (base + B + (M - B) ≤ mem.length) = True := by simp; omega
  refine thr_wp Tryd.func41 rfl (by kernel_rfl) rfl ?_
  refine wkcek (And.intro @envOf.eq_1 (And.intro @envOf.eq_2 (And.intro @aI.eq_1 (And.intro @I.cells.eq_1 (And.intro @dI.eq_1 (And.intro @Hp.get_set (And.intro @a1 (And.intro @a2 (And.intro @a3 (And.intro @a4 (And.intro @a5 (And.intro @a6 (And.intro @hr (And.intro @hm (And.intro @cI_len (And.intro @nble_d (And.intro @c1 (And.intro @c2 (And.intro @c3 (And.intro @hq' (And.intro @hix (And.intro @hmin (And.intro @hC (And.intro @Rt.cells.eq_1 (And.intro @copyV.eq_def (And.intro @sliceV.eq_def (And.intro @bnd.eq_def (And.intro @rowsI (And.intro @g1 (And.intro @g2 (And.intro @g3 (And.intro @g4 (And.intro @hcap (And.intro @cI_take @cI_putAt)))))))))))))))))))))))))))))))))) ?_
  exact ⟨.inr rfl, _, _, rfl, by rw [hw]; rfl, rfl, (((WI.refl.set (.inr (by omega))).set (.inr (by omega))).set (.inl (by simp))), ⟨by rw [Hp.get_trunc _ _ _ (by omega)]; simp [Hp.get_set, a1, a2, a3, a4, a5, a6, a7, a8, a9, b1, b2, b3, b4, b5, b6, hr, hm, hk], by rw [Hp.get_trunc _ _ _ (by omega)]; simp [Hp.get_set, a1, a2, a3, a4, a5, a6, a7, a8, a9, b1, b2, b3, b4, b5, b6, hr, hm, hk], by rw [Hp.get_trunc _ _ _ (by omega)]; simp [Hp.get_set, a1, a2, a3, a4, a5, a6, a7, a8, a9, b1, b2, b3, b4, b5, b6, hr, hm, hk]⟩⟩

end
end Go.Ac
end

section
set_option maxRecDepth 4000
set_option linter.unusedSimpArgs false
set_option linter.unusedVariables false
namespace Go.Ac
open Go.Proofs

/-- Where the inputs of a routine are read. -/
def InV (hp : Hp) (n : Nat) (v : V) (ins : List Int) : Prop := v = dL ins ∨ ∃ (rid rg off : Nat) (cap : Option Nat) (l : List Int), rid < n ∧ v = .osl rid rg off ins.length 1 cap ∧ hp.get rid = some ⟨rg, false, cI l⟩ ∧ (l.drop off).take ins.length = ins ∧ off + ins.length ≤ l.length
/-- What an execution comes to. -/
def ExecAt (hp : Hp) (n c idc gc mid mg kid kg base : Nat) (cap : Option Nat) (q : Rt) (v : V) (y : Int) (outs mem' : List Int) (k : Nat) : Prop :=
  Thr 29 [.ptr idc gc 0, aR q, .osl mid mg base q.ini.length 1 cap, v, .ptr kid kg 0] hp n c (dL outs) [mid, kid] (fun hp' => hp'.get mid = some ⟨mg, false, cI mem'⟩ ∧ hp'.get kid = some ⟨kg, false, [dI (IntKind.i64.wrap (y + k))]⟩)
def capOf (l : List V) (m : Nat) : Option Nat := if l.isEmpty then none else some m
theorem capOf_le (l : List V) (m : Nat) : (m ≤ (capOf l m).getD m) = True := by
  unfold capOf; split <;> simp
section
variable {im : Im} {hp : Hp} {n c idc gc rid rg mid mg kid kg base M : Nat} {cap : Option Nat} {regs mem : List Int} {y : Int}

set_option maxHeartbeats 2000000 in
theorem call_ok (hA : Ap n idc rid mid kid) (hM : Mst hp rid rg mid mg kid kg regs mem (IntKind.i64.wrap y)) (A B C D : Nat) (q : Rt) (hq : im.rs[A]? = some q) (hC : ∃ rest, CAt im hp idc gc rest) (hm : mem.length ≤ 1000000) (hrl : regs.length ≤ 1000000)
    (h1 : B + q.ini.length ≤ M) (h2 : C + q.inn.length ≤ regs.length) (h3 : D + q.out.length ≤ regs.length) (h4 : base + M ≤ mem.length) (hcap : (M ≤ cap.getD M) = True) (outs mem' : List Int) (k : Nat) (hol : outs.length = q.out.length)
    (hE : ∀ hp1 n1 c1, n ≤ n1 → (∀ j, j < n → hp1.get j = hp.get j) → ExecAt hp1 n1 c1 idc gc mid mg kid kg (base + B) (capOf (cI mem) q.ini.length) q (.osl rid rg C q.inn.length 1 (capOf (cI regs) q.inn.length)) y outs mem' k) :
    Thr 56 [.ptr idc gc 0, .agg [.osl rid rg 0 regs.length 1 (some regs.length), .osl mid mg base M 1 cap, .ptr kid kg 0], aI ⟨9, A, B, C, D⟩] hp n c (.tuple []) [rid, mid, kid] (fun hp' => Mst hp' rid rg mid mg kid kg (putAt regs D outs) mem' (IntKind.i64.wrap (y + k))) := by
  obtain ⟨a1, a2, a3, a4, a5, a6, a7, a8, a9, b1, b2, b3, b4, b5, b6, c1, c2, c3, e1, e2, e3⟩ := hA.f
  have q1 := hA.lr
  have q2 := hA.lm
  have q3 := hA.lk
  have q4 := hA.lc
  have hr := hM.r
  have hmm := hM.m
  have hk := hM.k
  obtain ⟨rest, ro, hC⟩ := hC
  have hq' := encR_at hq
  have hix := idx_lt (by obtain ⟨h, _⟩ := List.getElem?_eq_some_iff.1 hq; exact h : A < im.rs.length)
  have g1 : (n = idc) = False := by simp; omega
  have g2 : (n + 1 = idc) = False := by simp; omega
  have g3 : (n + 2 = idc) = False := by simp; omega
  refine thr_wp Tryd.func56 rfl (by kernel_rfl) rfl ?_
  have e4 : Nat.beq (n + 2) idc = false := nbeq_ne (by omega)
  repeat (first
 | apply WP.seq
 | (apply WP.reg; (case hR => dsimp only [prepL, prepO, List.map, gS, gZ]; exact iZ); (case hr => (repeat (first
 | (apply RT.op; simp [envOf, aI, I.cells, dI, Hp.get_set, a1, a2, a3, a4, a5, a6, hr, hmm, cI_len, nble_d, c1, c2, c3, -addNew, hC, g1, g2, g3, hq', hix, Rt.cells]; exact iZ; (try dsimp only [putEnv]) <;> exact rfl)
 | (apply RT.call; (iterate 2 simp; exact iZ); exact iZ; (iterate 4 simp [envOf, aI, I.cells, dI, Hp.get_set, a1, a2, a3, a4, a5, a6, hr, hmm, cI_len, nble_d, c1, c2, c3, -addNew, hC, g1, g2, g3, hq', hix, Rt.cells]; exact iZ); simp [Is]; (try dsimp only [putEnv]) <;> exact rfl; simp; exact iZ; exact iZ)
 | (apply RT.callT (hd := hT1) (hk := hT2); (iterate 2 simp; exact iZ); exact iZ; (iterate 2 simp [envOf, aI, I.cells, dI, Hp.get_set, a1, a2, a3, a4, a5, a6, hr, hmm, cI_len, nble_d, c1, c2, c3, -addNew, hC, g1, g2, g3, hq', hix, Rt.cells]; exact iZ); (try dsimp only [putEnv]) <;> exact rfl)
 | (apply RT.wr; simp [envOf, aI, I.cells, dI, Hp.get_set, a1, a2, a3, a4, a5, a6, hr, hmm, cI_len, nble_d, c1, c2, c3, -addNew, hC, g1, g2, g3, hq', hix, Rt.cells]; exact iZ; (try dsimp only [putEnv]) <;> exact rfl; simp [envOf, aI, I.cells, dI, Hp.get_set, a1, a2, a3, a4, a5, a6, hr, hmm, cI_len, nble_d, c1, c2, c3, -addNew, hC, g1, g2, g3, hq', hix, Rt.cells]; exact iZ; (iterate 2 exact iZ); exact iZ))); exact RT.nil); (case hc => first | (refine checkR_un [(0, 5), (1, 5), (2, 5), (3, 5), (4, 5), (0, 6), (1, 6), (2, 6), (3, 6), (4, 6), (0, 9), (1, 9), (2, 9), (3, 9), (4, 9), (5, 9), (6, 9), (7, 9), (8, 9)] (by kernel_rfl) (by kernel_rfl) rfl ?_; simp [memA, disj, e2, e3, e4]; done) | (show _ = _; kernel_rfl)); (case ht => simp [envOf, aI, I.cells, dI, Hp.get_set, a1, a2, a3, a4, a5, a6, hr, hmm, cI_len, nble_d, c1, c2, c3, -addNew, hC, g1, g2, g3, hq', hix, Rt.cells]; exact iZ))
 | apply WP.block | apply WP.skip | apply WP.exit | apply WP.ret | refine WP.condT rfl ?_ | refine WP.condF rfl ?_)
  apply WP.gen
  intro hp1 wl1 hhp hwl
  have hwi : WI [rid, mid, kid] n hp wl1 hp1 := by
    rw [hhp, hwl]
    exact ((((WI.refl.set (.inr (by omega))).set (.inr (by omega))).set (.inr (by omega))).set (.inr (by omega)))
  have hfr : ∀ j, j < n → hp1.get j = hp.get j := fun j hj => by
    rw [hhp]
    have f1 : ¬ n = j := by omega
    have f2 : ¬ n + 1 = j := by omega
    have f3 : ¬ n + 1 + 1 = j := by omega
    simp [Hp.get_set, f1, f2, f3]
  have z1 : (n + 1 + 1 = n) = False := by simp; omega
  have z2 : (n + 1 = n) = False := by simp
  have k0 : hp1.get n = some ⟨c, false, [V.osl rid rg 0 regs.length 1 (some regs.length), V.osl mid mg base M 1 cap, V.ptr kid kg 0]⟩ := by rw [hhp]; simp [Hp.get_set, z1, z2]
  have k1 : hp1.get (n + 1) = some ⟨c + 1, false, [V.d (Ac.D.int IntKind.i64 9), V.d (Ac.D.int IntKind.i64 ↑A), V.d (Ac.D.int IntKind.i64 ↑B), V.d (Ac.D.int IntKind.i64 ↑C), V.d (Ac.D.int IntKind.i64 ↑D)]⟩ := by rw [hhp]; simp [Hp.get_set]
  have k2 : hp1.get (n + 1 + 1) = some ⟨c + 1 + 1, false, [V.d (Ac.D.str q.nm), V.d (Ac.D.slice (encI q.inn)), V.d (Ac.D.slice (encI q.out)), V.d (Ac.D.int IntKind.i64 q.regs), V.d (Ac.D.slice (encI q.ini)), V.d (Ac.D.slice (encC q.code))]⟩ := by rw [hhp]; simp [Hp.get_set]
  have kr := (hfr rid q1).trans hr
  have km := (hfr mid q2).trans hmm
  have kk := (hfr kid q3).trans hk
  clear hhp hwl
  obtain ⟨r0, hT1, hv, hn, hT2, hki, hfr2, hp2, ⟨hm2, hk2⟩, hsame⟩ := (hE hp1 (n + 3) (c + 3) (by omega) hfr).caller (by intro j hj; simp at hj; omega)
  simp only [aR, Rt.cells, List.map_cons, List.map_nil, capOf] at hT1
  simp only [dL] at hv
  have w1 : IntKind.i64.wrap ((B : Int) + q.ini.length) = ((B + q.ini.length : Nat) : Int) := by rw [w_id'] <;> omega
  have w2 : IntKind.i64.wrap ((C : Int) + q.inn.length) = ((C + q.inn.length : Nat) : Int) := by rw [w_id'] <;> omega
  have t1 : ((B : Int) + q.ini.length).toNat = B + q.ini.length := by omega
  have t2 : ((C : Int) + q.inn.length).toNat = C + q.inn.length := by omega
  have p1 : (0 ≤ (B : Int) + q.ini.length) = True := by simp; omega
  have p2 : (0 ≤ (C : Int) + q.inn.length) = True := by simp; omega
  have l1 : (B ≤ B + q.ini.length) = True := by simp
  have l2 : (B + q.ini.length ≤ cap.getD M) = True := by simp at hcap ⊢; omega
  have l3 : (C + q.inn.length ≤ regs.length) = True := by simp; omega
  refine wkcekt (And.intro @dI.eq_1 (And.intro @k0 (And.intro @k1 (And.intro @k2 (And.intro @kr (And.intro @km (And.intro @kk (And.intro @sliceV.eq_def (And.intro @bnd.eq_def (And.intro @w1 (And.intro @w2 (And.intro @t1 (And.intro @t2 (And.intro @p1 (And.intro @p2 (And.intro @l1 (And.intro @l2 (And.intro @l3 (And.intro @hv (And.intro @hn (And.intro @cI_len (And.intro @nble_d @copyV.eq_def)))))))))))))))))))))) ?_
  apply WP.gen
  intro hp4 wl4 hhp4 hwl4
  have hwi4 : WI [rid, mid, kid] n hp wl4 hp4 := by
    rw [hhp4, hwl4]
    exact hwi.sets fun p hp => by
      have := hki _ (List.mem_map.2 ⟨p, hp, rfl⟩)
      simp only [List.mem_cons, List.not_mem_nil, or_false] at this ⊢
      rcases this with h | h <;> simp [h]
  have hfr4 : ∀ j, j < n + 3 → j ≠ mid → j ≠ kid → hp4.get j = hp1.get j := fun j hj x1 x2 => by
    rw [hhp4]; exact hfr2 j hj (by simp [x1, x2])
  have m4 : hp4.get mid = some ⟨mg, false, cI mem'⟩ := by rw [hhp4, hsame mid (by omega) (by rw [hm2]; rfl), hm2]
  have kd4 : hp4.get kid = some ⟨kg, false, [dI (IntKind.i64.wrap (y + k))]⟩ := by rw [hhp4, hsame kid (by omega) (by rw [hk2]; rfl), hk2]
  have r4 : hp4.get rid = some ⟨rg, false, cI regs⟩ := by rw [hfr4 rid (by omega) hA.nrm hA.nrk, kr]
  have n0 : hp4.get n = _ := (hfr4 n (by omega) (by omega) (by omega)).trans k0
  have n1 : hp4.get (n + 1) = _ := (hfr4 (n + 1) (by omega) (by omega) (by omega)).trans k1
  clear hhp4 hwl4 hsame hfr2 hT1 hT2
  have l4 : (D ≤ regs.length) = True := by simp; omega
  have l5 : (D + (regs.length - D) ≤ regs.length) = True := by simp; omega
  have hmin : min outs.length (regs.length - D) = outs.length := by omega
  have c4 : (rid < n + 3) = True := by simp; omega
  refine wkcekt (And.intro @dI.eq_1 (And.intro @n0 (And.intro @n1 (And.intro @r4 (And.intro @sliceV.eq_def (And.intro @bnd.eq_def (And.intro @l4 (And.intro @l5 (And.intro @hmin (And.intro @rowsI (And.intro @cI_len (And.intro @nble_d (And.intro @copyV.eq_def (And.intro @cI_take (And.intro @cI_putAt @c4))))))))))))))) ?_
  have gr : ∀ o j, j < n → (Hp.trunc n (hp4.set rid o)).get j = if rid = j then some o else hp4.get j := fun o j hj => by rw [Hp.get_trunc _ _ _ hj, Hp.get_set]
  exact ⟨.inl rfl, _, _, rfl, rfl, rfl, hwi4.set (.inl (by simp)), ⟨by rw [gr _ _ q1, if_pos rfl], by rw [gr _ _ q2, if_neg hA.nrm, m4], by rw [gr _ _ q3, if_neg hA.nrk, kd4]⟩⟩
end
end Go.Ac
end

section
set_option maxRecDepth 4000
set_option linter.unusedSimpArgs false
set_option linter.unusedVariables false
namespace Go.Ac
open Go.Proofs

section
variable {im : Im} {hp : Hp} {n c idc gc rid rg mid mg kid kg base M : Nat} {cap : Option Nat} {regs mem : List Int} {y : Int} {at_ : Nat}

set_option maxHeartbeats 1000000 in
theorem step_call (hA : Ap n idc rid mid kid) (hM : Mst hp rid rg mid mg kid kg regs mem (IntKind.i64.wrap y)) (hat : at_ < 1000000) (A B C D : Nat) (regs' mem' : List Int) (y' : Int)
    (hE : ∀ hp1 n1 c1, n ≤ n1 → (∀ j, j < n → hp1.get j = hp.get j) → Thr 56 [.ptr idc gc 0, .agg [.osl rid rg 0 regs.length 1 (some regs.length), .osl mid mg base M 1 cap, .ptr kid kg 0], aI ⟨9, A, B, C, D⟩] hp1 n1 c1 (.tuple []) [rid, mid, kid] (fun hp' => Mst hp' rid rg mid mg kid kg regs' mem' y')) :
    StepAt hp n c idc gc rid rg mid mg kid kg base M cap regs mem (IntKind.i64.wrap y) at_ ⟨9, A, B, C, D⟩ (at_ + 1) regs' mem' y' := by
  have hw : IntKind.i64.wrap ((at_ : Int) + 1) = ((at_ + 1 : Nat) : Int) := by rw [w_id'] <;> omega
  obtain ⟨a1, a2, a3, a4, a5, a6, a7, a8, a9, b1, b2, b3, b4, b5, b6, c1, c2, c3, e1, e2, e3⟩ := hA.f
  have q1 := hA.lr
  have q2 := hA.lm
  have q3 := hA.lk
  refine thr_wp Tryd.func41 rfl (by kernel_rfl) rfl ?_
  refine wkcekt (And.intro @envOf.eq_1 (And.intro @envOf.eq_2 (And.intro @aI.eq_1 (And.intro @I.cells.eq_1 (And.intro @dI.eq_1 (And.intro @Hp.get_set (And.intro @cI_len @nble_d))))))) ?_
  apply WP.gen
  intro hp1 wl1 hhp hwl
  have hwi : WI [rid, mid, kid] n hp wl1 hp1 := by
    rw [hhp, hwl]
    exact (WI.refl.set (.inr (by omega))).set (.inr (by omega))
  have hfr : ∀ j, j < n → hp1.get j = hp.get j := fun j hj => by
    rw [hhp]
    have f1 : ¬ n = j := by omega
    have f2 : ¬ n + 1 = j := by omega
    simp [Hp.get_set, f1, f2]
  have z2 : (n + 1 = n) = False := by simp
  have k0 : hp1.get n = some ⟨c, false, [V.osl rid rg 0 regs.length 1 (some regs.length), V.osl mid mg base M 1 cap, V.ptr kid kg 0]⟩ := by rw [hhp]; simp [Hp.get_set, z2]
  have k1 : hp1.get (n + 1) = some ⟨c + 1, false, [V.d (Ac.D.int IntKind.i64 9), V.d (Ac.D.int IntKind.i64 ↑A), V.d (Ac.D.int IntKind.i64 ↑B), V.d (Ac.D.int IntKind.i64 ↑C), V.d (Ac.D.int IntKind.i64 ↑D)]⟩ := by rw [hhp]; simp [Hp.get_set]
  clear hhp hwl
  obtain ⟨r0, hT1, hv, hn, hT2, hki, hfr2, hp2, hM2, hsame⟩ := (hE hp1 (n + 2) (c + 2) (by omega) hfr).caller (by intro j hj; simp at hj; omega)
  simp only [aI, I.cells, List.map_cons, List.map_nil] at hT1
  refine wkcekt (And.intro @dI.eq_1 (And.intro @k0 (And.intro @k1 (And.intro @hv @hn)))) ?_
  have m1 := (hsame rid (by omega) (by rw [hM2.r]; rfl)).trans hM2.r
  have m2 := (hsame mid (by omega) (by rw [hM2.m]; rfl)).trans hM2.m
  have m3 := (hsame kid (by omega) (by rw [hM2.k]; rfl)).trans hM2.k
  exact ⟨.inr rfl, _, _, rfl, by rw [hw]; rfl, rfl, hwi.sets fun p hp => .inl (hki _ (List.mem_map.2 ⟨p, hp, rfl⟩)), ⟨by rw [Hp.get_trunc _ _ _ q1, m1], by rw [Hp.get_trunc _ _ _ q2, m2], by rw [Hp.get_trunc _ _ _ q3, m3]⟩⟩
end
def ExecOK (im : Im) (f : Nat) : Prop := ∀ (k : Nat) (q : Rt), k < f → im.rs[k]? = some q → ∀ (hp : Hp) (n c idc gc mid mg kid kg base : Nat) (cap : Option Nat) (v : V) (ins mem : List Int) (y : Int),
  (∃ rest, CAt im hp idc gc rest) → hp.get mid = some ⟨mg, false, cI mem⟩ → hp.get kid = some ⟨kg, false, [dI (IntKind.i64.wrap y)]⟩ → mid ≠ kid → idc ≠ mid → idc ≠ kid → idc < n → mid < n → kid < n → InV hp n v ins → ins.length = q.inn.length →
  base + q.ini.length ≤ mem.length → mem.length ≤ 1000000 → (q.ini.length ≤ cap.getD q.ini.length) = True →
  ExecAt hp n c idc gc mid mg kid kg base cap q v y (callM im.rs f k base ins mem).1 (callM im.rs f k base ins mem).2.1 (callM im.rs f k base ins mem).2.2
section
variable {im : Im} {hp : Hp} {n c idc gc rid rg mid mg kid kg base M R : Nat} {cap : Option Nat} {regs mem : List Int} {y : Int} {at_ : Nat}

theorem step_any (hA : Ap n idc rid mid kid) (hM : Mst hp rid rg mid mg kid kg regs mem (IntKind.i64.wrap y)) (hat : at_ < 1000000) {f k L : Nat} {i : I} (hi : OkI im.rs k R M at_ L i) (hkf : k ≤ f) (hE : ExecOK im f) (hL : CallOk im.rs f (callM im.rs f)) (hR : regs.length = R)
    (hC : ∃ rest, CAt im hp idc gc rest) (hm : mem.length ≤ 1000000) (hrl : regs.length ≤ 1000000) (h4 : base + M ≤ mem.length) (hcap : (M ≤ cap.getD M) = True) :
    StepAt hp n c idc gc rid rg mid mg kid kg base M cap regs mem (IntKind.i64.wrap y) at_ i (stepM im.rs (callM im.rs f) base at_ i regs mem).1 (stepM im.rs (callM im.rs f) base at_ i regs mem).2.1 (stepM im.rs (callM im.rs f) base at_ i regs mem).2.2.1 (IntKind.i64.wrap (y + (stepM im.rs (callM im.rs f) base at_ i regs mem).2.2.2)) := by
  subst hR
  cases hi with
  | load A b hA' h1 h2 => simpa [stepM] using step_load hA hM hat A b hA'
  | move A B hA' hB => simpa [stepM] using step_move hA hM hat A B hA' hB
  | read A B hA' hB => simpa [stepM] using step_read hA hM hat A B hA' hB h4
  | write A B hA' hB => simpa [stepM] using step_write hA hM hat A B hA' hB h4
  | unary A B d hA' hB hd => simpa [stepM] using step_unary hA hM hat A B d hA' hB hd
  | apply A B C d hA' hB hC' h1 h2 => simpa [stepM] using step_apply hA hM hat A B C d hA' hB hC' h1 h2
  | jump B h1 h2 => simpa [stepM] using step_jump hA hM hat B
  | zero A B hA' h1 h2 => simpa [stepM] using step_zero hA hM hat A B hA'
  | call A B C D q hq hA' hB hC' hD =>
    have hlen := hL A q (base + B) ((regs.drop C).take q.inn.length) mem (by omega) hq (by simp; omega) (by omega)
    have e : stepM im.rs (callM im.rs f) base at_ ⟨9, A, B, C, D⟩ regs mem = (at_ + 1, putAt regs D (callM im.rs f A (base + B) ((regs.drop C).take q.inn.length) mem).1, (callM im.rs f A (base + B) ((regs.drop C).take q.inn.length) mem).2.1, (callM im.rs f A (base + B) ((regs.drop C).take q.inn.length) mem).2.2) := by
      simp [stepM, rtAt_nat hq]
    rw [e]
    refine step_call hA hM hat A B C D _ _ _ fun hp1 n1 c1 hn1 hfr1 => ?_
    have hA1 : Ap n1 idc rid mid kid := by
      obtain ⟨h1, h2, h3, h4, h5, h6, h7, h8, h9, h10⟩ := hA
      exact ⟨h1, h2, h3, h4, h5, h6, by omega, by omega, by omega, by omega⟩
    have hM1 := hM.same (hfr1 rid hA.lr) (hfr1 mid hA.lm) (hfr1 kid hA.lk)
    have hC1 : ∃ rest, CAt im hp1 idc gc rest := by
      obtain ⟨rest, ro, h⟩ := hC
      exact ⟨rest, ro, (hfr1 idc hA.lc).trans h⟩
    refine call_ok hA1 hM1 A B C D q hq hC1 hm hrl hB hC' hD h4 hcap _ _ _ hlen.1 fun hp2 n2 c2 hn2 hfr2 => ?_
    have hM2 := hM1.same (hfr2 rid hA1.lr) (hfr2 mid hA1.lm) (hfr2 kid hA1.lk)
    have hC2 : ∃ rest, CAt im hp2 idc gc rest := by
      obtain ⟨rest, ro, h⟩ := hC1
      exact ⟨rest, ro, (hfr2 idc hA1.lc).trans h⟩
    have hil : ((regs.drop C).take q.inn.length).length = q.inn.length := by simp; omega
    refine hE A q (by omega) hq hp2 n2 c2 idc gc mid mg kid kg (base + B) _ _ ((regs.drop C).take q.inn.length) mem y hC2 hM2.m hM2.k hA.nmk hA.ncm hA.nck (by have := hA1.lc; omega) (by have := hA1.lm; omega) (by have := hA1.lk; omega) (.inr ⟨rid, rg, C, _, regs, by have := hA1.lr; omega, by rw [hil], hM2.r, by rw [hil], by rw [hil]; omega⟩) hil (by omega) hm (capOf_le _ _)
  | reset A B q hq hA' hB =>
    have e : stepM im.rs (callM im.rs f) base at_ ⟨10, A, B, 0, 0⟩ regs mem = (at_ + 1, regs, putAt mem (base + B) q.ini, 0) := by
      simp [stepM, rtAt_nat hq]
    rw [e]
    simpa using step_reset hA hM hat A B q hq hC hB h4 hcap
end
end Go.Ac
end
