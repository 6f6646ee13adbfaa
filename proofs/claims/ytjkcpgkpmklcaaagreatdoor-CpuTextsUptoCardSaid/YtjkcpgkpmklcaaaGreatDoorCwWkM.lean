/- Walking in one line: more. No conditions. -/
import Derived.Test.YtjkcpgkpmklcaaaGreatDoorCvVM
import Derived.Lib.ItoaNum
set_option linter.unusedVariables false
set_option linter.unusedSimpArgs false
section
set_option maxRecDepth 4000
namespace Go.Ac
open Go.Proofs Go.Lib

/-! ### Numbers -/
def dg (n : Int) : List UInt8 := itoa n
def NumOK (n : Int) : Prop := -2147483648 ≤ n ∧ n ≤ 2147483647
def numC (b : UInt8) : Prop := b = 45 ∨ (48 ≤ b.toNat ∧ b.toNat ≤ 57)
theorem digC (u : Nat) : 48 ≤ (UInt8.ofNat (48 + u % 10)).toNat ∧ (UInt8.ofNat (48 + u % 10)).toNat ≤ 57 := by
 rw [UInt8.toNat_ofNat']
 have : (48 + u % 10) % 2 ^ 8 = 48 + u % 10 := Nat.mod_eq_of_lt (by omega)
 rw [this]; omega
theorem dec_c (u : Nat) : ∀ b ∈ decDigits u, 48 ≤ b.toNat ∧ b.toNat ≤ 57 := by
 induction u using Nat.strongRecOn with
 | _ u ih =>
  intro b hb
  rw [decDigits] at hb
  split at hb
  ·rename_i h
   simp only [List.mem_singleton] at hb; subst hb
   have := digC u
   rwa [Nat.mod_eq_of_lt h] at this
  ·rename_i h
   simp only [List.mem_append, List.mem_singleton] at hb
   rcases hb with hb | rfl
   ·exact ih (u / 10) (by omega) b hb
   ·exact digC u
theorem dec_ne (u : Nat) : decDigits u ≠ [] := by
 intro h
 have := congrArg List.length h
 rw [decDigits_length] at this
 have := nDigits_pos u
 simp at *; omega
theorem nDigits_le : ∀ (k u : Nat), u < 10 ^ (k + 1) → nDigits u ≤ k + 1
 | 0, u, h => by rw [nDigits_small (by simpa using h)]; omega
 | k + 1, u, h => by
  by_cases h0 : u < 10
  ·rw [nDigits_small h0]; omega
  ·rw [nDigits_big h0]
   have := nDigits_le k (u / 10) (by rw [Nat.pow_succ] at h; omega)
   omega
theorem dg_c (n : Int) : ∀ b ∈ dg n, numC b := by
 intro b hb
 unfold dg itoa at hb
 split at hb
 ·simp only [List.mem_cons] at hb
  rcases hb with rfl | hb
  ·exact .inl rfl
  ·exact .inr (dec_c _ b hb)
 ·exact .inr (dec_c _ b hb)
theorem dg_ne (n : Int) : dg n ≠ [] := by
 unfold dg itoa
 split
 ·simp
 ·exact dec_ne _
theorem dg_len {n : Int} (h : NumOK n) : (dg n).length ≤ 11 := by
 obtain ⟨h1, h2⟩ := h
 unfold dg itoa
 split
 ·rw [List.length_cons, decDigits_length]
  have := nDigits_le 9 n.natAbs (by omega)
  omega
 ·rw [decDigits_length]
  have := nDigits_le 9 n.toNat (by omega)
  omega
theorem dg_no {n : Int} {c : UInt8} (h : c ≠ 45) (h2 : ¬ (48 ≤ c.toNat ∧ c.toNat ≤ 57)) : c ∉ dg n := fun hm => by
 rcases dg_c n c hm with h3 | h3
 ·exact h h3
 ·exact h2 h3

/-! ### Cutting -/
def cutAt (c : UInt8) : List UInt8 → List (List UInt8)
 | [] => [[]]
 | x :: r => if x = c then [] :: cutAt c r else (x :: (cutAt c r).headD []) :: (cutAt c r).tail
theorem cutAt_self (c : UInt8) (r : List UInt8) : cutAt c (c :: r) = [] :: cutAt c r := by rw [cutAt, if_pos rfl]
theorem cutAt_other {c x : UInt8} (r : List UInt8) (h : ¬ x = c) : cutAt c (x :: r) = (x :: (cutAt c r).headD []) :: (cutAt c r).tail := by rw [cutAt, if_neg h]
theorem cutAt_none {c : UInt8} : ∀ {s : List UInt8}, c ∉ s → cutAt c s = [s]
 | [], _ => rfl
 | x :: r, h => by
  simp only [List.mem_cons, not_or] at h
  rw [cutAt_other _ (fun e => h.1 e.symm), cutAt_none h.2]; rfl
theorem cutAt_app {c : UInt8} {r : List UInt8} : ∀ {a : List UInt8}, c ∉ a → cutAt c (a ++ c :: r) = a :: cutAt c r
 | [], _ => cutAt_self c r
 | x :: a, h => by
  simp only [List.mem_cons, not_or] at h
  show cutAt c (x :: (a ++ c :: r)) = _
  rw [cutAt_other _ (fun e => h.1 e.symm), cutAt_app h.2]; rfl
theorem cutAt_len (c : UInt8) : ∀ s : List UInt8, (cutAt c s).length = s.count c + 1
 | [] => rfl
 | x :: r => by
  unfold cutAt
  have ih := cutAt_len c r
  split
  ·rename_i h; subst h; simp [ih]
  ·rename_i h
   rw [List.count_cons_of_ne (by simpa using h)]
   have : (cutAt c r).length ≠ 0 := by rw [ih]; omega
   simp; omega
/-- Where the letter first stands. -/
theorem idx_split {c : UInt8} : ∀ {s : List UInt8}, c ∈ s → ∃ a r, s = a ++ c :: r ∧ c ∉ a ∧ s.findIdx? (fun x => x == c) = some a.length
 | x :: s, h => by
  by_cases hx : x = c
  ·subst hx
   exact ⟨[], s, rfl, by simp, by simp [List.findIdx?_cons]⟩
  ·have h' : c ∈ s := by
    rcases List.mem_cons.1 h with h | h
    ·exact absurd h.symm hx
    ·exact h
   obtain ⟨a, r, h1, h2, h3⟩ := idx_split h'
   refine ⟨x :: a, r, by rw [h1]; rfl, ?_, ?_⟩
   ·simp only [List.mem_cons, not_or]; exact ⟨fun e => hx e.symm, h2⟩
   ·rw [List.findIdx?_cons]
    have : (x == c) = false := by simpa using hx
    rw [this, h3]; rfl
theorem idxByte_split {c : UInt8} {s : List UInt8} (h : c ∈ s) : ∃ a r, s = a ++ c :: r ∧ c ∉ a ∧ idxByte s (c.toNat : Int) = (a.length : Int) := by
 obtain ⟨a, r, h1, h2, h3⟩ := idx_split h
 refine ⟨a, r, h1, h2, ?_⟩
 unfold idxByte
 have : ((c.toNat : Int).toNat.toUInt8) = c := by simp
 rw [this, h3]
/-! ### Lines -/
def nums (l : List Int) : List UInt8 := l.flatMap fun n => 32 :: dg n
theorem nums_cons (n : Int) (l : List Int) : nums (n :: l) = 32 :: dg n ++ nums l := by simp [nums]
theorem nums_snoc (l : List Int) (n : Int) : nums (l ++ [n]) = nums l ++ 32 :: dg n := by simp [nums]
theorem nums_len {l : List Int} (h : ∀ n ∈ l, NumOK n) : (nums l).length ≤ 12 * l.length := by
 induction l with
 | nil => simp [nums]
 | cons n l ih =>
  rw [nums_cons]
  have := ih fun x hx => h x (List.mem_cons_of_mem _ hx)
  have := dg_len (h n (List.mem_cons_self ..))
  simp; omega
theorem nums_no {l : List Int} {c : UInt8} (h0 : c ≠ 32) (h : c ≠ 45) (h2 : ¬ (48 ≤ c.toNat ∧ c.toNat ≤ 57)) : c ∉ nums l := by
 unfold nums
 simp only [List.mem_flatMap, List.mem_cons, not_exists, not_and, not_or]
 exact fun n _ => ⟨h0, dg_no h h2⟩
theorem cut_nums : ∀ {w : List UInt8} {l : List Int}, 32 ∉ w → cutAt 32 (w ++ nums l) = w :: l.map dg
 | w, [], h => by simp [nums, cutAt_none h]
 | w, n :: l, h => by
  rw [nums_cons]
  show cutAt 32 (w ++ 32 :: (dg n ++ nums l)) = _
  rw [cutAt_app h, cut_nums (dg_no (by decide) (by decide))]
  rfl
theorem cut_lines : ∀ {ls : List (List UInt8)}, (∀ l ∈ ls, (10 : UInt8) ∉ l) → cutAt 10 (ls.flatMap fun l => l ++ [10]) = ls ++ [[]]
 | [], _ => rfl
 | l :: ls, h => by
  have : (l :: ls).flatMap (fun l => l ++ [10]) = l ++ 10 :: ls.flatMap (fun l => l ++ [10]) := by simp
  rw [this, cutAt_app (h l (List.mem_cons_self ..)), cut_lines fun x hx => h x (List.mem_cons_of_mem _ hx)]; rfl

/-! ### Images -/
def wEnums : List UInt8 := [101, 110, 117, 109, 115]
def wRoutine : List UInt8 := [114, 111, 117, 116, 105, 110, 101]
def wIn : List UInt8 := [105, 110]
def wOut : List UInt8 := [111, 117, 116]
def wRegs : List UInt8 := [114, 101, 103, 115]
def wInit : List UInt8 := [105, 110, 105, 116]
def wEnd : List UInt8 := [101, 110, 100]
def wordI (op : Int) : List UInt8 := match op with
 | 1 => [108, 111, 97, 100] | 2 => [109, 111, 118, 101] | 3 => [114, 101, 97, 100] | 4 => [119, 114, 105, 116, 101] | 5 => [117, 110, 97, 114, 121] | 6 => [97, 112, 112, 108, 121] | 7 => [106, 117, 109, 112] | 8 => [122, 101, 114, 111] | 9 => [99, 97, 108, 108] | _ => [114, 101, 115, 101, 116]
def usedI (i : I) : List Int := match i.op with
 | 5 => [i.a, i.b, i.c] | 6 => [i.a, i.b, i.c, i.d] | 7 => [i.b] | 9 => [i.a, i.b, i.c, i.d] | _ => [i.a, i.b]
def lnI (i : I) : List UInt8 := wordI i.op ++ nums (usedI i)
def rtL (r : Rt) : List (List UInt8) := [wRoutine ++ 32 :: r.nm, wIn ++ nums r.inn, wOut ++ nums r.out, wRegs ++ nums [r.regs], wInit ++ nums r.ini] ++ r.code.map lnI ++ [wEnd]
def imL (im : Im) : List (List UInt8) := (wEnums ++ nums im.enums) :: im.rs.flatMap rtL
def endL (ls : List (List UInt8)) : List UInt8 := ls.flatMap fun l => l ++ [10]
def txt (im : Im) : List UInt8 := endL (imL im)
theorem endL_app (a b : List (List UInt8)) : endL (a ++ b) = endL a ++ endL b := by simp [endL]
theorem wordI_len (op : Int) : (wordI op).length ≤ 5 := by unfold wordI; split <;> simp
theorem usedI_len (i : I) : (usedI i).length ≤ 4 := by unfold usedI; split <;> simp

/-- What is asked of a routine's text. -/
structure RtT (r : Rt) : Prop where
 nm : ∀ c ∈ r.nm, c ≠ 10 ∧ c ≠ 32
 ne : r.nm ≠ []
 inn : ∀ n ∈ r.inn, NumOK n
 out : ∀ n ∈ r.out, NumOK n
 regs : NumOK r.regs
 ini : ∀ n ∈ r.ini, NumOK n
 code : ∀ i ∈ r.code, ∀ n ∈ usedI i, NumOK n
def wt (r : Rt) : Nat := 1 + r.inn.length + r.out.length + r.ini.length + r.code.length + r.nm.length
theorem lnI_len {i : I} (h : ∀ n ∈ usedI i, NumOK n) : (lnI i).length ≤ 53 := by
 unfold lnI
 have := wordI_len i.op
 have := nums_len h
 have := usedI_len i
 simp; omega
theorem endL_len {f : I → List UInt8} {k : Nat} : ∀ {l : List I}, (∀ i ∈ l, (f i).length ≤ k) → (endL (l.map f)).length ≤ (k + 1) * l.length
 | [], _ => by simp [endL]
 | i :: l, h => by
  have := endL_len fun x hx => h x (List.mem_cons_of_mem _ hx)
  have h1 := h i (List.mem_cons_self ..)
  have : endL ((i :: l).map f) = f i ++ [10] ++ endL (l.map f) := by simp [endL]
  rw [this]
  simp only [List.length_append, List.length_cons, List.length_nil, Nat.mul_add, Nat.mul_one]
  omega
theorem rtL_len {r : Rt} (h : RtT r) : (endL (rtL r)).length ≤ 60 * wt r := by
 have h1 := nums_len h.inn
 have h2 := nums_len h.out
 have h3 := nums_len (l := [r.regs]) (by simpa using h.regs)
 have h4 := nums_len h.ini
 have h5 := endL_len (f := lnI) (k := 53) (l := r.code) fun i hi => lnI_len (h.code i hi)
 unfold rtL
 rw [endL_app, endL_app]
 have e1 : (endL [wRoutine ++ 32 :: r.nm, wIn ++ nums r.inn, wOut ++ nums r.out, wRegs ++ nums [r.regs], wInit ++ nums r.ini]).length = r.nm.length + (nums r.inn).length + (nums r.out).length + (nums [r.regs]).length + (nums r.ini).length + 26 := by
  simp [endL, wRoutine, wIn, wOut, wRegs, wInit]; omega
 have e2 : (endL [wEnd]).length = 4 := rfl
 simp only [List.length_append, e1, e2]
 simp only [List.length_cons, List.length_nil] at h3
 unfold wt
 omega
theorem imL_len {im : Im} (he : ∀ n ∈ im.enums, NumOK n) (h : ∀ r ∈ im.rs, RtT r) : (txt im).length ≤ 6 + 12 * im.enums.length + 60 * (im.rs.map wt).sum := by
 have h1 := nums_len he
 have h2 : ∀ l : List Rt, (∀ r ∈ l, RtT r) → (endL (l.flatMap rtL)).length ≤ 60 * (l.map wt).sum := by
  intro l
  induction l with
  | nil => intro _; simp [endL]
  | cons r l ih =>
   intro h
   have := ih fun x hx => h x (List.mem_cons_of_mem _ hx)
   have := rtL_len (h r (List.mem_cons_self ..))
   have e : endL ((r :: l).flatMap rtL) = endL (rtL r) ++ endL (l.flatMap rtL) := by rw [List.flatMap_cons, endL_app]
   rw [e]
   simp only [List.length_append, List.map_cons, List.sum_cons]
   omega
 have := h2 im.rs h
 have e : txt im = wEnums ++ nums im.enums ++ [10] ++ endL (im.rs.flatMap rtL) := by simp [txt, imL, endL]
 rw [e]
 simp only [List.length_append, List.length_cons, List.length_nil]
 have : wEnums.length = 5 := rfl
 omega
theorem rtL_no {r : Rt} (h : RtT r) : ∀ l ∈ rtL r, (10 : UInt8) ∉ l := by
 have hn : ∀ l : List Int, (10 : UInt8) ∉ nums l := fun l => nums_no (by decide) (by decide) (by decide)
 intro l hl
 unfold rtL at hl
 simp only [List.mem_append, List.mem_cons, List.not_mem_nil, or_false, List.mem_map] at hl
 rcases hl with ((rfl | rfl | rfl | rfl | rfl) | ⟨i, _, rfl⟩) | rfl
 ·simp only [List.mem_append, List.mem_cons, not_or]
  exact ⟨by decide, by decide, fun hm => (h.nm 10 hm).1 rfl⟩
 ·simp only [List.mem_append, not_or]; exact ⟨by decide, hn _⟩
 ·simp only [List.mem_append, not_or]; exact ⟨by decide, hn _⟩
 ·simp only [List.mem_append, not_or]; exact ⟨by decide, hn _⟩
 ·simp only [List.mem_append, not_or]; exact ⟨by decide, hn _⟩
 ·unfold lnI
  simp only [List.mem_append, not_or]
  exact ⟨by unfold wordI; split <;> decide, hn _⟩
 ·decide
theorem imL_no {im : Im} (h : ∀ r ∈ im.rs, RtT r) : ∀ l ∈ imL im, (10 : UInt8) ∉ l := by
 intro l hl
 unfold imL at hl
 simp only [List.mem_cons, List.mem_flatMap] at hl
 rcases hl with rfl | ⟨r, hr, hl⟩
 ·simp only [List.mem_append, not_or]
  exact ⟨by decide, nums_no (by decide) (by decide) (by decide)⟩
 ·exact rtL_no (h r hr) l hl
/-- The text, cut into lines. -/
theorem cut_txt {im : Im} (h : ∀ r ∈ im.rs, RtT r) : cutAt 10 (txt im) = imL im ++ [[]] := cut_lines (imL_no h)
end Go.Ac
end

section
set_option maxRecDepth 8000
namespace Go.Ac
open Go.Proofs

theorem tx_beq (a b : List UInt8) : (a == b) = decide (a = b) := by
 by_cases h : a = b <;> simp [h]
def encS (l : List (List UInt8)) : List (List D) := l.map fun s => [.str s]
def dSl (l : List (List UInt8)) : V := .d (.slice (encS l))
def cS (l : List (List UInt8)) : List V := l.map dS
theorem encS_len (l : List (List UInt8)) : (encS l).length = l.length := by simp [encS]
theorem encS_at {l : List (List UInt8)} {i : Nat} {y : List UInt8} (h : l[i]? = some y) : (encS l)[i]? = some [.str y] := by unfold encS; simp [h]
theorem cS_len (l : List (List UInt8)) : (cS l).length = l.length := by simp [cS]
theorem cS_app (a b : List (List UInt8)) : cS (a ++ b) = cS a ++ cS b := by simp [cS]
theorem chunkS : ∀ l : List (List UInt8), chunk 1 l.length (l.map D.str) = encS l
 | [] => rfl
 | x :: r => by simp [chunk, encS, chunkS r]
theorem toDs_cs (look : Look) (f : Nat) : ∀ l : List (List UInt8), toDs (toD look f) (cS l) = some (l.map D.str, [])
 | [] => rfl
 | x :: r => by
  have := toDs_cs look f r
  unfold cS at this ⊢
  simp only [List.map_cons]
  unfold toDs
  rw [this]
  have : toD look f (dS x) = some (.str x, []) := by cases f <;> rfl
  rw [this]; rfl
theorem close_oslS {look : Look} {id g : Nat} {ro : Bool} {cs : List V} {l : List (List UInt8)} {cap : Option Nat} (hl : look id = some ⟨g, ro, cs⟩) (hc : cs.take l.length = cS l) (hn : l.length ≤ cs.length) : closeT look (.osl id g 0 l.length 1 cap) = some (dSl l, [id]) := by
 show ofD (toD look depthD _) = _
 rw [toD_dep]
 have : live look id g = some ⟨g, ro, cs⟩ := by simp [live, hl]
 rw [this]
 simp only [Nat.zero_add, Nat.mul_one, List.drop_zero, hc, toDs_cs, chunkS, nble_d, hn, decide_true]
 rfl
theorem blockQ_s {i : Nat} {Q : Ex → St → Prop} {t : St} (h : Q .normal t) : blockQ i Q .normal t := h
attribute [local simp] encS_len

set_option maxHeartbeats 4000000 in
theorem index70 (s : List UInt8) (c : UInt8) : den Tryz.prog Cp.cfg 70 [dS s, dS [c]] = some (dI (idxByte s (c.toNat : Int))) := by
 refine den_wp Tryz.func70 rfl (by kernel_rfl) rfl rfl ?_
 have hp : ∀ (look : Look) (n k : Nat), primV look n k (0, 0) [dS s, .d (.int .u8 (c.toNat : Int))] = some ⟨dI (idxByte s (c.toNat : Int)), [], [], 0, 0, false⟩ := fun _ _ _ => rfl
 simp only [dS, dI] at hp
 by_cases h : [c] = s
 ·subst h
  have hz : idxByte [c] (c.toNat : Int) = 0 := by simp [idxByte, List.findIdx?_cons]
  rw [hz]
  refine wkc (jn @envOf.eq_1 (jn @envOf.eq_2 (jn @dS.eq_1 (jn @dI.eq_1 (jn @tx_beq @hp))))) ?_
  show retQ _ _ _ _ _
  exact ⟨.inr rfl, _, _, rfl, rfl⟩
 ·have h' := eq_false h
  refine wkc (jn @envOf.eq_1 (jn @envOf.eq_2 (jn @dS.eq_1 (jn @dI.eq_1 (jn @tx_beq (jn @h' @hp)))))) ?_
  show retQ _ _ _ _ _
  exact ⟨.inr rfl, _, _, rfl, rfl⟩
theorem index52 (s : List UInt8) (c : UInt8) : den Tryz.prog Cp.cfg 52 [dS s, dS [c]] = some (dI (idxByte s (c.toNat : Int))) := by
 have hd := index70 s c
 simp only [dS, dI] at hd
 refine den_wp Tryz.func52 rfl (by kernel_rfl) rfl rfl ?_
 refine wkc (jn @envOf.eq_1 (jn @envOf.eq_2 (jn @dS.eq_1 (jn @dI.eq_1 @hd)))) ?_
 show retQ _ _ _ _ _
 exact ⟨.inr rfl, _, _, rfl, rfl⟩

/-- How far the text has been cut. -/
structure Cut (c : UInt8) (ps : List (List UInt8)) (j : Nat) (s : List UInt8) : Prop where
 eq : ps = ps.take j ++ cutAt c s
 len : (ps.take j).length = j
theorem Cut.count {c : UInt8} {ps : List (List UInt8)} {j : Nat} {s : List UInt8} (h : Cut c ps j s) : ps.length = j + s.count c + 1 := by
 have := congrArg List.length h.eq
 rw [List.length_append, h.len, cutAt_len] at this
 omega
theorem Cut.step {c : UInt8} {ps : List (List UInt8)} {j : Nat} {a r : List UInt8} (h : Cut c ps j (a ++ c :: r)) (ha : c ∉ a) : ps.take (j + 1) = ps.take j ++ [a] ∧ Cut c ps (j + 1) r := by
 have e := h.eq
 rw [cutAt_app ha] at e
 have hl := h.len
 have e1 : ps.take (j + 1) = ps.take j ++ [a] := by
  have e2 : ps.take (j + 1) = (ps.take j ++ a :: cutAt c r).take (j + 1) := congrArg (List.take (j + 1)) e
  rw [e2, List.take_append, hl, List.take_of_length_le (by omega)]
  rw [show j + 1 - j = 1 by omega]; rfl
 refine ⟨e1, ?_, ?_⟩
 ·rw [e1, List.append_assoc]; exact e
 ·rw [e1, List.length_append, hl]; rfl
theorem Cut.last {c : UInt8} {ps : List (List UInt8)} {j : Nat} {s : List UInt8} (h : Cut c ps j s) (hj : j + 1 = ps.length) : ps = ps.take j ++ [s] := by
 have hc : s.count c = 0 := by have := h.count; omega
 have := h.eq
 rw [cutAt_none (List.count_eq_zero.1 hc)] at this
 exact this
def slots (ps : List (List UInt8)) (j : Nat) : List V := cS (ps.take j) ++ List.replicate (ps.length - j) (dS [])
theorem slots_len {ps : List (List UInt8)} {j : Nat} (h : j ≤ ps.length) : (slots ps j).length = ps.length := by
 unfold slots; simp [cS_len]; omega
theorem slots_put {ps : List (List UInt8)} {j : Nat} {a : List UInt8} (h : j < ps.length) (e : ps.take (j + 1) = ps.take j ++ [a]) : List.take j (slots ps j) ++ V.d (D.str a) :: List.drop (j + 1) (slots ps j) = slots ps (j + 1) := by
 have hl : (cS (ps.take j)).length = j := by rw [cS_len]; simp; omega
 unfold slots
 rw [e, cS_app, List.take_append, hl, Nat.sub_self, List.take_zero, List.append_nil, List.take_of_length_le (by omega), List.drop_append, hl, List.drop_eq_nil_of_le (by omega), List.nil_append, List.drop_replicate, List.append_assoc]
 rw [show j + 1 - j = 1 by omega, show ps.length - j - 1 = ps.length - (j + 1) by omega]; rfl
theorem slots_all {ps : List (List UInt8)} : slots ps ps.length = cS ps := by unfold slots; simp
theorem rep_flatS (m : Nat) (x : V) : (List.replicate m [x]).flatten = List.replicate m x := by
 induction m with
 | zero => rfl
 | succ m ih => simp [List.replicate_succ, ih]
theorem count_le_len (s : List UInt8) (c : UInt8) : s.count c ≤ s.length := List.count_le_length
set_option maxHeartbeats 8000000 in
theorem split32 (s : List UInt8) (c : UInt8) (hs : s.length ≤ 8388608) : den Tryz.prog Cp.cfg 32 [dS s, dS [c], dI 0, dI (-1)] = some (dSl (cutAt c s)) := by
 refine den_wp Tryz.func32 rfl (by kernel_rfl) rfl rfl ?_
 have hp : ∀ (look : Look) (n k : Nat), primV look n k (1, 0) [dS s, dS [c]] = some ⟨dI (s.count c : Nat), [], [], 0, 0, false⟩ := fun look n k => by
  show (if s.length ≤ 9223372036854775807 then ret _ else none) = _
  rw [if_pos (by omega)]; rfl
 simp only [dS, dI] at hp
 have hcl := count_le_len s c
 obtain ⟨ps, hps⟩ : ∃ ps, ps = cutAt c s := ⟨_, rfl⟩
 have hpl : ps.length = s.count c + 1 := by rw [hps, cutAt_len]
 obtain ⟨N, hN⟩ : ∃ N, N = s.count c := ⟨_, rfl⟩
 rw [← hN] at hp hpl hcl
 obtain ⟨M, hM⟩ : ∃ M, M = N + 1 := ⟨_, rfl⟩
 obtain ⟨L, hL⟩ : ∃ L, L = s.length + 1 := ⟨_, rfl⟩
 have w1 : IntKind.i64.wrap ((N : Int) + 1) = (M : Int) := by rw [w_id'] <;> omega
 have w2 : IntKind.i64.wrap ((s.length : Int) + 1) = (L : Int) := by rw [w_id'] <;> omega
 have w3 : IntKind.i64.wrap ((M : Int) - 1) = (N : Int) := by rw [w_id'] <;> omega
 have e0 : (([c] : List UInt8) = []) = False := by simp
 have hmin : ((L : Int) < (M : Int)) = False := eq_false (by omega)
 have hfit : fitsB M 16 = true := by simp [fitsB]; omega
 have g1 : (0 ≤ (M : Int)) = True := by simp
 have g2 : ((M : Int) ≤ 9223372036854775807) = True := by simp; omega
 refine wkc (jn @envOf.eq_1 (jn @envOf.eq_2 (jn @dS.eq_1 (jn @dI.eq_1 (jn @tx_beq (jn @hp (jn @w1 (jn @w2 (jn @w3 (jn @e0 (jn @makeV.eq_def (jn @rep_flatS (jn @hfit (jn @hmin (jn @maxV.eq_def (jn @maxI.eq_1 (jn @maxI.eq_2 (jn @maxI.eq_3 (jn @maxI.eq_4 (jn @g1 (jn @g2 @ti59))))))))))))))))))))) ?_
 have hC0 : Cut c ps 0 s := ⟨by rw [hps]; rfl, rfl⟩
 have hs0 : List.replicate M (V.d (D.str [])) = slots ps 0 := by unfold slots; rw [hpl, ← hM]; rfl
 rw [hs0]
 apply WP.loop' (I := fun D st => ∃ (j : Nat) (r : List UInt8), j + D = N ∧ Cut c ps j r ∧ r.length ≤ s.length ∧ SE [(0, dS r), (1, dS [c]), (2, dI 0), (3, dI N), (9, .osl 0 0 0 M 1 (some M)), (10, dI j)] [(0, ⟨0, false, slots ps j⟩)] 1 st) (d := N)
 ·exact ⟨0, s, by simp, hC0, Nat.le_refl _, SE.mk (by simp [dI, dS]) (by simp)⟩
 rintro D _ ⟨j, r, hj, hC, hrl, cc, rfl⟩
 refine wk (jn @dI.eq_1 @dS.eq_1) ?_
 show WP _ _ _ _ _ _
 refine WP.cond _ rfl (fun hb => ?_) (fun hb => ?_)
 ·simp at hb
  have hb' : j < N := hb
  have hcnt := hC.count
  obtain ⟨a, r2, hr, ha, hix⟩ := idxByte_split (c := c) (s := r) (List.count_pos_iff.1 (by omega))
  have hd := index52 r c
  rw [hix] at hd
  simp only [dS, dI] at hd
  subst hr
  obtain ⟨hput, hC2⟩ := hC.step ha
  have hput2 := slots_put (by omega) hput
  have hsl := slots_len (ps := ps) (j := j) (by omega)
  rw [hpl, ← hM] at hsl
  obtain ⟨A, hA⟩ : ∃ A, A = a.length := ⟨_, rfl⟩
  obtain ⟨K, hK⟩ : ∃ K, K = A + 1 := ⟨_, rfl⟩
  have hrl' : A + 1 + r2.length ≤ s.length := by simp at hrl; omega
  rw [← hA] at hd
  have v1 : ((A : Int) < 0) = False := by simp
  have v2 : IntKind.i64.wrap (A : Int) = (A : Int) := by rw [w_id'] <;> omega
  have v3 : IntKind.i64.wrap ((A : Int) + 1) = (K : Int) := by rw [w_id'] <;> omega
  have v4 : List.take A (a ++ c :: r2) = a := by rw [hA, List.take_left']; rfl
  have v5 : List.drop K (a ++ c :: r2) = r2 := by rw [hK, hA, ← List.drop_drop, List.drop_left'] <;> rfl
  have v6 : idx (j : Int) M = some j := idx_lt (by omega)
  have v7 := w_succ hb' (by omega)
  have v8 : (A ≤ A + (r2.length + 1)) = True := by simp
  have v9 : (K ≤ A + (r2.length + 1)) = True := by simp; omega
  have v10 : a.length = A := hA.symm
  have v11 : Nat.ble (j + 1) M = true := Nat.ble_eq_true_of_le (by omega)
  refine wkc (jn @dI.eq_1 (jn @dS.eq_1 (jn @hd (jn @v1 (jn @v2 (jn @v3 (jn @v4 (jn @v5 (jn @v6 (jn @v8 (jn @v9 (jn @v10 (jn @sliceV.eq_def (jn @bnd.eq_def (jn @hput2 (jn @hsl (jn @Int.add_zero (jn @ti59 (jn @v7 @v11))))))))))))))))))) ?_
  refine blockQ_s ?_
  refine loop_next (by simp [v7]; exact Is.rfl) ?_
  exact ⟨D - 1, by omega, j + 1, r2, by omega, hC2, by omega, SE.mk (by simp [dI, dS, v7]) (by simp)⟩
 ·simp at hb
  have hjN : j = N := by omega
  subst hjN
  have hlast := hC.last (by omega)
  have hput2 := slots_put (ps := ps) (j := j) (a := r) (by omega) (by rw [List.take_of_length_le (by omega)]; exact hlast)
  have hsl := slots_len (ps := ps) (j := j) (by omega)
  rw [hpl, ← hM] at hsl
  have v6 : idx (j : Int) M = some j := idx_lt (by omega)
  have v3 : IntKind.i64.wrap ((j : Int) + 1) = (M : Int) := by rw [w_id'] <;> omega
  have v11 : Nat.ble (j + 1) M = true := Nat.ble_eq_true_of_le (by omega)
  have v12 : (M ≤ M) = True := by simp
  have hall : slots ps (j + 1) = cS ps := by rw [show j + 1 = ps.length by omega, slots_all]
  rw [hall] at hput2
  refine wkc (jn @dI.eq_1 (jn @dS.eq_1 (jn @v3 (jn @v6 (jn @sliceV.eq_def (jn @bnd.eq_def (jn @hput2 (jn @hsl (jn @ti59 @v11))))))))) ?_
  show retQ _ _ _ _ _
  rw [← hps]
  refine ⟨.inr rfl, _, [0], rfl, ?_⟩
  rw [show M = ps.length by omega]
  exact close_oslS (l := ps) (ro := false) (cs := cS ps) rfl (List.take_of_length_le (by rw [cS_len]; exact Nat.le_refl _)) (by rw [cS_len]; exact Nat.le_refl _)
theorem split18 (s : List UInt8) (c : UInt8) (hs : s.length ≤ 8388608) : den Tryz.prog Cp.cfg 18 [dS s, dS [c]] = some (dSl (cutAt c s)) := by
 have hd := split32 s c hs
 simp only [dS, dI, dSl] at hd
 refine den_wp Tryz.func18 rfl (by kernel_rfl) rfl rfl ?_
 refine wkc (jn @envOf.eq_1 (jn @envOf.eq_2 (jn @dS.eq_1 (jn @dI.eq_1 (jn @dSl.eq_1 @hd))))) ?_
 show retQ _ _ _ _ _
 exact ⟨.inr rfl, _, _, rfl, rfl⟩
end Go.Ac
end

section
set_option maxRecDepth 20000
namespace Go.Ac
open Go.Proofs Go.Lib

theorem log97 (x : Nat) (h : x ≤ 64) : den Tryz.prog Cp.cfg 97 [dI x] = some (dI (l10 x : Nat)) := by
 have w : IntKind.i64.wrap ((x : Int) * 78913) = ((x * 78913 : Nat) : Int) := by rw [w_id'] <;> omega
 have e : Int.fdiv ((x : Int) * 78913) (2 ^ (min 18 IntKind.i64.bits)) = ((l10 x : Nat) : Int) := by
  show Int.fdiv ((x : Int) * 78913) 262144 = _
  unfold l10
  rw [Int.fdiv_eq_ediv_of_nonneg _ (by omega)]; omega
 refine den_wp Tryz.func97 rfl (by kernel_rfl) rfl rfl ?_
 refine wkc (jn @envOf.eq_1 (jn @envOf.eq_2 (jn @dI.eq_1 (jn @w @e)))) ?_
 show retQ _ _ _ _ _
 exact ⟨.inr rfl, _, _, rfl, rfl⟩
theorem bool99 (b : Bool) : den Tryz.prog Cp.cfg 99 [dB b] = some (dI (if b = true then 1 else 0)) := by
 cases b <;> exact den_k 20 (fun k => by kernel_rfl) rfl
theorem wo8 : IntKind.i64.wrap 8 = 8 := by rfl
theorem wo16 : IntKind.i64.wrap 16 = 16 := by rfl
theorem wo24 : IntKind.i64.wrap 24 = 24 := by rfl
theorem bl_unique {x L : Nat} (h1 : 1 ≤ L) (h2 : 2 ^ (L - 1) ≤ x) (h3 : x < 2 ^ L) (h4 : x < 18446744073709551616) : Lib.bitLen x = L := by
 have hx : x ≠ 0 := by have := Nat.one_le_two_pow (n := L - 1); omega
 obtain ⟨a, b, c⟩ := bitLenAux_bounds 64 x h4 hx
 unfold Lib.bitLen
 generalize bitLenAux 64 x = K at a b c
 rcases Nat.lt_trichotomy K L with h | h | h
 ·have := Nat.pow_le_pow_right (n := 2) (by omega) (show K ≤ L - 1 by omega)
  omega
 ·exact h
 ·have := Nat.pow_le_pow_right (n := 2) (by omega) (show L ≤ K - 1 by omega)
  omega
theorem bl_shift (k u : Nat) (h : 1 ≤ u / 2 ^ k) (hu : u < 18446744073709551616) : Lib.bitLen u = k + Lib.bitLen (u / 2 ^ k) := by
 have hv : u / 2 ^ k < 18446744073709551616 := Nat.lt_of_le_of_lt (Nat.div_le_self _ _) hu
 obtain ⟨a, b, c⟩ := bitLenAux_bounds 64 (u / 2 ^ k) hv (by omega)
 have e : Lib.bitLen (u / 2 ^ k) = bitLenAux 64 (u / 2 ^ k) := rfl
 rw [e]
 generalize bitLenAux 64 (u / 2 ^ k) = K at a b c
 have hp : 0 < 2 ^ k := Nat.two_pow_pos k
 refine bl_unique (by omega) ?_ ?_ hu
 ·rw [show k + K - 1 = (K - 1) + k by omega, Nat.pow_add]
  exact (Nat.le_div_iff_mul_le hp).1 b
 ·rw [show k + K = K + k by omega, Nat.pow_add]
  exact (Nat.div_lt_iff_lt_mul hp).1 c
theorem len8 (x : Nat) (h : x < 256) : ([0, 1, 2, 2, 3, 3, 3, 3, 4, 4, 4, 4, 4, 4, 4, 4, 5, 5, 5, 5, 5, 5, 5, 5, 5, 5, 5, 5, 5, 5, 5, 5, 6, 6, 6, 6, 6, 6, 6, 6, 6, 6, 6, 6, 6, 6, 6, 6, 6, 6, 6, 6, 6, 6, 6, 6, 6, 6, 6, 6, 6, 6, 6, 6, 7, 7, 7, 7, 7, 7, 7, 7, 7, 7, 7, 7, 7, 7, 7, 7, 7, 7, 7, 7, 7, 7, 7, 7, 7, 7, 7, 7, 7, 7, 7, 7, 7, 7, 7, 7, 7, 7, 7, 7, 7, 7, 7, 7, 7, 7, 7, 7, 7, 7, 7, 7, 7, 7, 7, 7, 7, 7, 7, 7, 7, 7, 7, 7, 8, 8, 8, 8, 8, 8, 8, 8, 8, 8, 8, 8, 8, 8, 8, 8, 8, 8, 8, 8, 8, 8, 8, 8, 8, 8, 8, 8, 8, 8, 8, 8, 8, 8, 8, 8, 8, 8, 8, 8, 8, 8, 8, 8, 8, 8, 8, 8, 8, 8, 8, 8, 8, 8, 8, 8, 8, 8, 8, 8, 8, 8, 8, 8, 8, 8, 8, 8, 8, 8, 8, 8, 8, 8, 8, 8, 8, 8, 8, 8, 8, 8, 8, 8, 8, 8, 8, 8, 8, 8, 8, 8, 8, 8, 8, 8, 8, 8, 8, 8, 8, 8, 8, 8, 8, 8, 8, 8, 8, 8, 8, 8, 8, 8, 8, 8, 8, 8, 8, 8, 8, 8, 8, 8, 8, 8, 8, 8] : List UInt8)[x]? = some (UInt8.ofNat (Lib.bitLen x)) := by
 have : ∀ x : Fin 256, ([0, 1, 2, 2, 3, 3, 3, 3, 4, 4, 4, 4, 4, 4, 4, 4, 5, 5, 5, 5, 5, 5, 5, 5, 5, 5, 5, 5, 5, 5, 5, 5, 6, 6, 6, 6, 6, 6, 6, 6, 6, 6, 6, 6, 6, 6, 6, 6, 6, 6, 6, 6, 6, 6, 6, 6, 6, 6, 6, 6, 6, 6, 6, 6, 7, 7, 7, 7, 7, 7, 7, 7, 7, 7, 7, 7, 7, 7, 7, 7, 7, 7, 7, 7, 7, 7, 7, 7, 7, 7, 7, 7, 7, 7, 7, 7, 7, 7, 7, 7, 7, 7, 7, 7, 7, 7, 7, 7, 7, 7, 7, 7, 7, 7, 7, 7, 7, 7, 7, 7, 7, 7, 7, 7, 7, 7, 7, 7, 8, 8, 8, 8, 8, 8, 8, 8, 8, 8, 8, 8, 8, 8, 8, 8, 8, 8, 8, 8, 8, 8, 8, 8, 8, 8, 8, 8, 8, 8, 8, 8, 8, 8, 8, 8, 8, 8, 8, 8, 8, 8, 8, 8, 8, 8, 8, 8, 8, 8, 8, 8, 8, 8, 8, 8, 8, 8, 8, 8, 8, 8, 8, 8, 8, 8, 8, 8, 8, 8, 8, 8, 8, 8, 8, 8, 8, 8, 8, 8, 8, 8, 8, 8, 8, 8, 8, 8, 8, 8, 8, 8, 8, 8, 8, 8, 8, 8, 8, 8, 8, 8, 8, 8, 8, 8, 8, 8, 8, 8, 8, 8, 8, 8, 8, 8, 8, 8, 8, 8, 8, 8, 8, 8, 8, 8, 8, 8] : List UInt8)[x.val]? = some (UInt8.ofNat (Lib.bitLen x.val)) := by decide +kernel
 exact this ⟨x, h⟩
theorem bl_le (x : Nat) (h : x < 18446744073709551616) : Lib.bitLen x ≤ 64 := bitLen_le x 64 (Nat.le_refl _) h
theorem bl8 (x : Nat) (h : x < 256) : IntKind.i64.wrap ((Lib.bitLen x : Int) % 256) = (Lib.bitLen x : Int) := by
 have := bl_le x (by omega)
 rw [w_id'] <;> omega
theorem u8w (x : Nat) (h : x < 256) : IntKind.u8.wrap (x : Int) = (x : Int) := by
 simp [IntKind.wrap, IntKind.signed, IntKind.bits]; omega
set_option maxHeartbeats 4000000 in
theorem len98 (u : Nat) (h : u < 4294967296) : den Tryz.prog Cp.cfg 98 [.d (.int .u64 u)] = some (dI (Lib.bitLen u : Nat)) := by
 refine den_wp Tryz.func98 rfl (by kernel_rfl) rfl rfl ?_
 have c1 : (4294967296 ≤ (u : Int)) = False := eq_false (by omega)
 have e16 : (u : Int).fdiv (2 ^ min 16 IntKind.u64.bits) = ((u / 65536 : Nat) : Int) := by
  show (u : Int).fdiv 65536 = _
  rw [Int.fdiv_eq_ediv_of_nonneg _ (by omega)]; omega
 by_cases h2 : u < 65536
 ·have c2 : (65536 ≤ (u : Int)) = False := eq_false (by omega)
  by_cases h3 : u < 256
  ·have c3 : (256 ≤ (u : Int)) = False := eq_false (by omega)
   have hx : idx (u : Int) 256 = some u := idx_lt h3
   have f1 := len8 u h3
   have f2 := bl8 u h3
   have f3 := u8w u h3
   have f4 : IntKind.i64.wrap (Lib.bitLen u : Int) = (Lib.bitLen u : Int) := by have := bl_le u (by omega); rw [w_id'] <;> omega
   refine wkc (jn @envOf.eq_1 (jn @envOf.eq_2 (jn @dI.eq_1 (jn @c1 (jn @c2 (jn @c3 (jn @hx (jn @f1 (jn @f2 (jn @f3 (jn @f4 @Int.zero_add))))))))))) ?_
   show retQ _ _ _ _ _
   exact ⟨.inr rfl, _, _, rfl, rfl⟩
  ·have c3 : (256 ≤ (u : Int)) = True := eq_true (by omega)
   obtain ⟨v, hv⟩ : ∃ v, v = u / 256 := ⟨_, rfl⟩
   have hvl : v < 256 := by omega
   have e8 : (u : Int).fdiv (2 ^ min 8 IntKind.u64.bits) = (v : Int) := by
    show (u : Int).fdiv 256 = _
    rw [Int.fdiv_eq_ediv_of_nonneg _ (by omega)]; omega
   have hx : idx (v : Int) 256 = some v := idx_lt hvl
   have f1 := len8 v hvl
   have f2 := bl8 v hvl
   have f3 := u8w v hvl
   have f0 := bl_shift 8 u (by omega) (by omega)
   rw [show u / 2 ^ 8 = v by omega] at f0
   have f4 : IntKind.i64.wrap (8 + (Lib.bitLen v : Int)) = (Lib.bitLen u : Int) := by have := bl_le v (by omega); rw [w_id'] <;> omega
   refine wkc (jn @envOf.eq_1 (jn @envOf.eq_2 (jn @dI.eq_1 (jn @c1 (jn @c2 (jn @c3 (jn @hx (jn @e8 (jn @f1 (jn @f2 (jn @f3 (jn @f4 (jn @Int.zero_add @wo8))))))))))))) ?_
   show retQ _ _ _ _ _
   exact ⟨.inr rfl, _, _, rfl, rfl⟩
 ·have c2 : (65536 ≤ (u : Int)) = True := eq_true (by omega)
  obtain ⟨w, hw⟩ : ∃ w, w = u / 65536 := ⟨_, rfl⟩
  rw [← hw] at e16
  have g0 := bl_shift 16 u (by omega) (by omega)
  rw [show u / 2 ^ 16 = w by omega] at g0
  by_cases h3 : w < 256
  ·have c3 : (256 ≤ (w : Int)) = False := eq_false (by omega)
   have hx : idx (w : Int) 256 = some w := idx_lt h3
   have f1 := len8 w h3
   have f2 := bl8 w h3
   have f3 := u8w w h3
   have f4 : IntKind.i64.wrap (16 + (Lib.bitLen w : Int)) = (Lib.bitLen u : Int) := by have := bl_le w (by omega); rw [w_id'] <;> omega
   refine wkc (jn @envOf.eq_1 (jn @envOf.eq_2 (jn @dI.eq_1 (jn @c1 (jn @c2 (jn @c3 (jn @hx (jn @e16 (jn @f1 (jn @f2 (jn @f3 (jn @f4 (jn @Int.zero_add @wo16))))))))))))) ?_
   show retQ _ _ _ _ _
   exact ⟨.inr rfl, _, _, rfl, rfl⟩
  ·have c3 : (256 ≤ (w : Int)) = True := eq_true (by omega)
   obtain ⟨v, hv⟩ : ∃ v, v = w / 256 := ⟨_, rfl⟩
   have hvl : v < 256 := by omega
   have e8 : (w : Int).fdiv (2 ^ min 8 IntKind.u64.bits) = (v : Int) := by
    show (w : Int).fdiv 256 = _
    rw [Int.fdiv_eq_ediv_of_nonneg _ (by omega)]; omega
   have hx : idx (v : Int) 256 = some v := idx_lt hvl
   have f1 := len8 v hvl
   have f2 := bl8 v hvl
   have f3 := u8w v hvl
   have f0 := bl_shift 8 w (by omega) (by omega)
   rw [show w / 2 ^ 8 = v by omega] at f0
   have f4 : IntKind.i64.wrap (24 + (Lib.bitLen v : Int)) = (Lib.bitLen u : Int) := by have := bl_le v (by omega); rw [w_id'] <;> omega
   refine wkc (jn @envOf.eq_1 (jn @envOf.eq_2 (jn @dI.eq_1 (jn @c1 (jn @c2 (jn @c3 (jn @hx (jn @e16 (jn @e8 (jn @f1 (jn @f2 (jn @f3 (jn @f4 (jn @Int.zero_add (jn @wo16 @wo24))))))))))))))) ?_
   show retQ _ _ _ _ _
   exact ⟨.inr rfl, _, _, rfl, rfl⟩
end Go.Ac
end

section
set_option maxRecDepth 4000
namespace Go.Ac
open Go.Proofs

/-! ### Instructions that have passed the check -/
inductive OkI (rs : List Rt) (k R M at_ L : Nat) : I → Prop
 | load (A : Nat) (b : Int) (hA : A < R) (h1 : -32768 ≤ b) (h2 : b ≤ 32767) : OkI rs k R M at_ L ⟨1, A, b, 0, 0⟩
 | move (A B : Nat) (hA : A < R) (hB : B < R) : OkI rs k R M at_ L ⟨2, A, B, 0, 0⟩
 | read (A B : Nat) (hA : A < R) (hB : B < M) : OkI rs k R M at_ L ⟨3, A, B, 0, 0⟩
 | write (A B : Nat) (hA : A < M) (hB : B < R) : OkI rs k R M at_ L ⟨4, A, B, 0, 0⟩
 | unary (A B : Nat) (c : Int) (hA : A < R) (hB : B < R) (hc : c = 1 ∨ c = 2) : OkI rs k R M at_ L ⟨5, A, B, c, 0⟩
 | apply (A B C : Nat) (d : Int) (hA : A < R) (hB : B < R) (hC : C < R) (h1 : 3 ≤ d) (h2 : d ≤ 16) : OkI rs k R M at_ L ⟨6, A, B, C, d⟩
 | jump (B : Nat) (h1 : at_ < B) (h2 : B ≤ L) : OkI rs k R M at_ L ⟨7, 0, B, 0, 0⟩
 | zero (A B : Nat) (hA : A < R) (h1 : at_ < B) (h2 : B ≤ L) : OkI rs k R M at_ L ⟨8, A, B, 0, 0⟩
 | call (A B C D : Nat) (q : Rt) (hq : rs[A]? = some q) (hA : A < k) (hB : B + q.ini.length ≤ M) (hC : C + q.inn.length ≤ R) (hD : D + q.out.length ≤ R) : OkI rs k R M at_ L ⟨9, A, B, C, D⟩
 | reset (A B : Nat) (q : Rt) (hq : rs[A]? = some q) (hA : A < k) (hB : B + q.ini.length ≤ M) : OkI rs k R M at_ L ⟨10, A, B, 0, 0⟩

def rtZ : Rt := ⟨[], [], [], 0, [], []⟩
/-! ### The machine -/
def putAt (l : List Int) (k : Nat) (xs : List Int) : List Int := l.take k ++ xs ++ l.drop (k + xs.length)
theorem putAt_len {l : List Int} {k : Nat} {xs : List Int} (h : k + xs.length ≤ l.length) : (putAt l k xs).length = l.length := by
 unfold putAt; simp; omega
abbrev CallM := Nat → Nat → List Int → List Int → List Int × List Int × Nat
def rgv (l : List Int) (x : Int) : Int := l.getD x.toNat 0
def rtAt (rs : List Rt) (a : Int) : Rt := rs.getD a.toNat rtZ
/-- Where it goes on, the registers, the memory, how many instructions more. -/
def stepM (rs : List Rt) (f : CallM) (base at_ : Nat) (i : I) (regs mem : List Int) : Nat × List Int × List Int × Nat :=
 if i.op = 1 then (at_ + 1, regs.set i.a.toNat i.b, mem, 0)
 else if i.op = 2 then (at_ + 1, regs.set i.a.toNat (rgv regs i.b), mem, 0)
 else if i.op = 3 then (at_ + 1, regs.set i.a.toNat (rgv mem (base + i.b)), mem, 0)
 else if i.op = 4 then (at_ + 1, regs, mem.set (base + i.a.toNat) (rgv regs i.b), 0)
 else if i.op = 5 then (at_ + 1, regs.set i.a.toNat (apR i.c [rgv regs i.b]), mem, 0)
 else if i.op = 6 then (at_ + 1, regs.set i.a.toNat (apR i.d [rgv regs i.b, rgv regs i.c]), mem, 0)
 else if i.op = 7 then (i.b.toNat, regs, mem, 0)
 else if i.op = 8 then (if rgv regs i.a = 0 then i.b.toNat else at_ + 1, regs, mem, 0)
 else if i.op = 9 then
  let o := f i.a.toNat (base + i.b.toNat) ((regs.drop i.c.toNat).take (rtAt rs i.a).inn.length) mem
  (at_ + 1, putAt regs i.d.toNat o.1, o.2.1, o.2.2)
 else (at_ + 1, regs, putAt mem (base + i.b.toNat) (rtAt rs i.a).ini, 0)
def loopM (rs : List Rt) (f : CallM) (r : Rt) (base : Nat) : Nat → Nat → List Int → List Int → Nat → List Int × List Int × Nat
 | 0, _, regs, mem, cnt => (regs, mem, cnt)
 | d + 1, at_, regs, mem, cnt => match r.code[at_]? with
  | none => (regs, mem, cnt)
  | some i => loopM rs f r base d (stepM rs f base at_ i regs mem).1 (stepM rs f base at_ i regs mem).2.1 (stepM rs f base at_ i regs mem).2.2.1 (cnt + 1 + (stepM rs f base at_ i regs mem).2.2.2)
def callM (rs : List Rt) : Nat → CallM
 | 0, _, _, _, mem => ([], mem, 0)
 | f + 1, k, base, ins, mem =>
  let r := rs.getD k rtZ
  let o := loopM rs (callM rs f) r base r.code.length 0 (ins ++ List.replicate (r.regs.toNat - ins.length) 0) mem 0
  ((o.1.drop r.inn.length).take r.out.length, o.2.1, o.2.2)

theorem loopM_end {rs : List Rt} {f : CallM} {r : Rt} {base at_ : Nat} (h : r.code.length ≤ at_) (regs mem : List Int) (cnt : Nat) : ∀ d, loopM rs f r base d at_ regs mem cnt = (regs, mem, cnt)
 | 0 => rfl
 | d + 1 => by simp only [loopM, List.getElem?_eq_none h]
theorem loopM_step {rs : List Rt} {f : CallM} {r : Rt} {base at_ : Nat} {i : I} (h : r.code[at_]? = some i) (regs mem : List Int) (cnt d : Nat) : loopM rs f r base (d + 1) at_ regs mem cnt = loopM rs f r base d (stepM rs f base at_ i regs mem).1 (stepM rs f base at_ i regs mem).2.1 (stepM rs f base at_ i regs mem).2.2.1 (cnt + 1 + (stepM rs f base at_ i regs mem).2.2.2) := by
 simp only [loopM, h]

/-- Routines that have passed the check. -/
structure OkR (rs : List Rt) (k : Nat) (r : Rt) : Prop where
 io : (r.inn.length : Int) + r.out.length ≤ r.regs
 hi : r.regs ≤ 32768
 code : ∀ at_ i, r.code[at_]? = some i → OkI rs k r.regs.toNat r.ini.length at_ r.code.length i
def OkM (rs : List Rt) : Prop := ∀ k r, rs[k]? = some r → OkR rs k r

/-- What a call keeps to. -/
def CallOk (rs : List Rt) (n : Nat) (f : CallM) : Prop := ∀ k q base ins mem, k < n → rs[k]? = some q → ins.length = q.inn.length → base + q.ini.length ≤ mem.length → (f k base ins mem).1.length = q.out.length ∧ (f k base ins mem).2.1.length = mem.length

theorem rtAt_nat {rs : List Rt} {A : Nat} {q : Rt} (h : rs[A]? = some q) : rtAt rs (A : Int) = q := by
 unfold rtAt; simp [List.getD, h]

theorem stepM_ok {rs : List Rt} {f : CallM} {k R M L base at_ : Nat} {i : I} {regs mem : List Int} (hi : OkI rs k R M at_ L i) (hf : CallOk rs k f) (hr : regs.length = R) (hm : base + M ≤ mem.length) (hat : at_ < L) :
  (stepM rs f base at_ i regs mem).2.1.length = R ∧ (stepM rs f base at_ i regs mem).2.2.1.length = mem.length ∧ at_ < (stepM rs f base at_ i regs mem).1 ∧ (stepM rs f base at_ i regs mem).1 ≤ L := by
 cases hi with
 | load A b hA h1 h2 => simp [stepM, hr]; omega
 | move A B hA hB => simp [stepM, hr]; omega
 | read A B hA hB => simp [stepM, hr]; omega
 | write A B hA hB => simp [stepM, hr]; omega
 | unary A B c hA hB hc => simp [stepM, hr]; omega
 | apply A B C d hA hB hC h1 h2 => simp [stepM, hr]; omega
 | jump B h1 h2 => simp [stepM, hr]; omega
 | zero A B hA h1 h2 => simp [stepM, hr]; split <;> omega
 | call A B C D q hq hA hB hC hD =>
  have hc := hf A q (base + B) ((regs.drop C).take q.inn.length) mem hA hq (by simp; omega) (by omega)
  have e : stepM rs f base at_ ⟨9, A, B, C, D⟩ regs mem = (at_ + 1, putAt regs D (f A (base + B) ((regs.drop C).take q.inn.length) mem).1, (f A (base + B) ((regs.drop C).take q.inn.length) mem).2.1, (f A (base + B) ((regs.drop C).take q.inn.length) mem).2.2) := by
   simp [stepM, rtAt_nat hq]
  rw [e]
  exact ⟨by rw [putAt_len (by rw [hc.1]; omega), hr], hc.2, by simp, by simp; omega⟩
 | reset A B q hq hA hB =>
  have e : stepM rs f base at_ ⟨10, A, B, 0, 0⟩ regs mem = (at_ + 1, regs, putAt mem (base + B) q.ini, 0) := by
   simp [stepM, rtAt_nat hq]
  rw [e]
  exact ⟨hr, by rw [putAt_len (by omega)], by simp, by simp; omega⟩

theorem loopM_ok {rs : List Rt} {f : CallM} {k : Nat} {r : Rt} {base : Nat} (hr : OkR rs k r) (hf : CallOk rs k f) : ∀ (d at_ : Nat) (regs mem : List Int) (cnt : Nat), regs.length = r.regs.toNat → base + r.ini.length ≤ mem.length →
  (loopM rs f r base d at_ regs mem cnt).1.length = r.regs.toNat ∧ (loopM rs f r base d at_ regs mem cnt).2.1.length = mem.length
 | 0, at_, regs, mem, cnt, h1, h2 => ⟨h1, rfl⟩
 | d + 1, at_, regs, mem, cnt, h1, h2 => by
  by_cases ha : at_ < r.code.length
  ·have hi : r.code[at_]? = some r.code[at_] := by simp [ha]
   have hs := stepM_ok (base := base) (regs := regs) (mem := mem) (hr.code _ _ hi) hf h1 h2 ha
   rw [loopM_step hi]
   have ih := loopM_ok hr hf d (stepM rs f base at_ r.code[at_] regs mem).1 _ _ (cnt + 1 + (stepM rs f base at_ r.code[at_] regs mem).2.2.2) hs.1 (by rw [hs.2.1]; exact h2)
   exact ⟨ih.1, ih.2.trans hs.2.1⟩
  ·rw [loopM_end (by omega)]
   exact ⟨h1, rfl⟩

theorem callM_ok {rs : List Rt} (h : OkM rs) : ∀ f, CallOk rs f (callM rs f)
 | 0 => fun k q base ins mem hk => by omega
 | f + 1 => fun k q base ins mem hk hq hi hm => by
  have hr := h k q hq
  have hio := hr.io
  have hg : rs.getD k rtZ = q := by simp [List.getD, hq]
  have hl := loopM_ok (base := base) hr (fun j q' b i m hj => callM_ok h f j q' b i m (by omega)) q.code.length 0 (ins ++ List.replicate (q.regs.toNat - ins.length) 0) mem 0 (by simp; omega) hm
  simp only [callM, hg]
  refine ⟨?_, hl.2⟩
  rw [List.length_take, List.length_drop, hl.1]
  omega
end Go.Ac
end

section
set_option maxRecDepth 4000
namespace Go.Ac
open Go.Proofs

theorem Hp.get_set (h : Hp) (k t : Nat) (o : Ob) : (Hp.set h k o).get t = if k = t then some o else h.get t := by
 split
 ·rename_i hk; subst hk; exact Hp.get_set_self ..
 ·rename_i hk; exact Hp.get_set_ne _ _ _ _ hk
theorem cI_at {l : List Int} {j : Nat} {x : Int} (h : l[j]? = some x) : (cI l)[j]? = some (V.d (D.int .i64 x)) := by
 unfold cI; simp [h, dI]
theorem cI_put {l : List Int} {j : Nat} (h : j < l.length) (v : Int) : List.take j (cI l) ++ V.d (D.int .i64 v) :: List.drop (j + 1) (cI l) = cI (l.set j v) := by
 have : cI (l.set j v) = (cI l).set j (dI v) := by unfold cI; rw [List.map_set]
 rw [this, List.set_eq_take_append_cons_drop, if_pos (by rw [cI_len]; exact h)]; rfl
theorem rgv_at {l : List Int} {j : Nat} (h : j < l.length) : l[j]? = some (rgv l j) := by
 unfold rgv; simp [h, List.getD]

/-- A call that is handed objects: what it gives, what it may write, what the memory is afterwards. -/
def Thr (f : FuncId) (vs : List V) (hp : Hp) (n c : Nat) (v : V) (ids : List Nat) (Φ : Hp → Prop) : Prop :=
 ∃ q, lim Tryz.prog Cp.cfg f vs hp n c = some q ∧ q.v = v ∧ q.n = n ∧ WI ids n hp q.wl q.hp ∧ Φ q.hp

def thrQ (fn : Func) (hp : Hp) (n : Nat) (v : V) (ids0 : List Nat) (Φ : Hp → Prop) (e : Ex) (t : St) : Prop :=
 (e = .normal ∨ e = .ret) ∧ ∃ rs ids, resultsV Tryz.prog t fn.results.toList = some rs ∧ closeT t.hp.get (tup rs) = some (v, ids) ∧ (v.flat || ids.all (fun i => Nat.ble n i)) = true ∧ WI ids0 n hp t.wl t.hp ∧ Φ (Hp.trunc n t.hp)

theorem thr_wp {f : FuncId} {fn : Func} {body : Code} {vs : List V} {hp : Hp} {n c : Nat} {v : V} {ids0 : List Nat} {Φ : Hp → Prop} (hf : Tryz.prog.funcs[f]? = some fn) (hb : fn.body = some body) (hok : (Nat.ble vs.length fn.ntmps && codeOK fn.ntmps body) = true)
  (hthr : Cp.cfg.thr f = false) (h : WP Tryz.prog Cp.cfg f body ⟨envOf 0 vs, hp, n, c, n, []⟩ (thrQ fn hp n v ids0 Φ)) : Thr f vs hp n c v ids0 Φ := by
 obtain ⟨w, t, h1, h2⟩ := lim_wpD (Q := fun w t => w = v ∧ WI ids0 n hp t.wl t.hp ∧ Φ (Hp.trunc n t.hp)) hf hb hok hthr (h.mono fun e t ⟨he, rs, ids, a1, a2, a3, a4, a5⟩ => ⟨he, rs, v, ids, a1, a2, a3, rfl, a4, a5⟩)
 exact ⟨_, h1, h2.1, rfl, h2.2.1.trunc (Nat.le_refl _), h2.2.2⟩

/-- The same, seen from the caller. -/
theorem Thr.caller {f : FuncId} {vs : List V} {hp : Hp} {n c : Nat} {v : V} {ids : List Nat} {Φ : Hp → Prop} (h : Thr f vs hp n c v ids Φ) (hids : ∀ j, j ∈ ids → j < n) :
  ∃ q, lim Tryz.prog Cp.cfg f vs hp n c = some q ∧ q.v = v ∧ q.n = n ∧ (∀ k, k ∈ (tWr q n).map (·.1) → k < n + (q.n - n)) ∧ (∀ k, k ∈ (tWr q n).map (·.1) → k ∈ ids) ∧
   (∀ j, j < n → j ∉ ids → (hp.sets (tWr q n)).get j = hp.get j) ∧ ∃ hp', Φ hp' ∧ ∀ j, j < n → (hp'.get j).isSome = true → (hp.sets (tWr q n)).get j = hp'.get j := by
 obtain ⟨q, h1, h2, h3, h4, h5⟩ := h
 have hk : ∀ k, k ∈ (tWr q n).map (·.1) → k ∈ ids ∧ k < n := fun k hk => by
  have := tWr_keys (by omega) h4 hids hk
  rcases this.1 with h | h
  ·exact ⟨h, hids k h⟩
  ·omega
 exact ⟨q, h1, h2, h3, fun k hk' => by have := (hk k hk').2; omega, fun k hk' => (hk k hk').1, fun j hj hn => tWr_old h4 hj hn, q.hp, h5, fun j hj hs => tWr_same h4 (by omega) hs⟩

/-- Registers, memory, counter in their objects. -/
structure Mst (hp : Hp) (rid rg mid mg kid kg : Nat) (regs mem : List Int) (cnt : Int) : Prop where
 r : hp.get rid = some ⟨rg, false, cI regs⟩
 m : hp.get mid = some ⟨mg, false, cI mem⟩
 k : hp.get kid = some ⟨kg, false, [dI cnt]⟩
theorem Mst.same {hp hp' : Hp} {rid rg mid mg kid kg : Nat} {regs mem : List Int} {cnt : Int} (h : Mst hp rid rg mid mg kid kg regs mem cnt) (h1 : hp'.get rid = hp.get rid) (h2 : hp'.get mid = hp.get mid) (h3 : hp'.get kid = hp.get kid) : Mst hp' rid rg mid mg kid kg regs mem cnt :=
 ⟨h1.trans h.r, h2.trans h.m, h3.trans h.k⟩
/-- Three objects that lie apart, all of the caller's. -/
structure Ap (n idc rid mid kid : Nat) : Prop where
 nrm : rid ≠ mid
 nrk : rid ≠ kid
 nmk : mid ≠ kid
 ncr : idc ≠ rid
 ncm : idc ≠ mid
 nck : idc ≠ kid
 lc : idc < n
 lr : rid < n
 lm : mid < n
 lk : kid < n
/-- The machine's object. -/
def CAt (im : Im) (hp : Hp) (idc gc : Nat) (rest : List V) : Prop := ∃ ro, hp.get idc = some ⟨gc, ro, V.d (.slice (encI im.enums)) :: V.d (.slice (encR im.rs)) :: rest⟩
end Go.Ac
end

section
set_option maxRecDepth 4000
namespace Go.Ac
open Go.Proofs
def ThrK (f : FuncId) (vs : List V) (hp : Hp) (n c : Nat) (v : V) (ids : List Nat) (Φ : Hp → Prop) : Prop :=
 ∃ q, lim Tryz.prog Cp.cfg f vs hp n c = some q ∧ q.v = v ∧ q.n = n ∧ WI ids n hp q.wl q.hp ∧ Φ q.hp
def thrKQ (fn : Func) (hp : Hp) (n : Nat) (v : V) (ids0 : List Nat) (Φ : Hp → Prop) (e : Ex) (t : St) : Prop :=
 (e = .normal ∨ e = .ret) ∧ ∃ rs, resultsV Tryz.prog t fn.results.toList = some rs ∧ tup rs = v ∧ t.n = n ∧ WI ids0 n hp t.wl t.hp ∧ Φ t.hp
theorem thrK_wp {f : FuncId} {fn : Func} {body : Code} {vs : List V} {hp : Hp} {n c : Nat} {v : V} {ids0 : List Nat} {Φ : Hp → Prop} (hf : Tryz.prog.funcs[f]? = some fn) (hb : fn.body = some body) (hok : (Nat.ble vs.length fn.ntmps && codeOK fn.ntmps body) = true)
  (hthr : Cp.cfg.thr f = true) (h : WP Tryz.prog Cp.cfg f body ⟨envOf 0 vs, hp, n, c, n, []⟩ (thrKQ fn hp n v ids0 Φ)) : ThrK f vs hp n c v ids0 Φ := by
 obtain ⟨w, t, h1, h2⟩ := lim_wp (Q := fun w t => w = v ∧ t.n = n ∧ WI ids0 n hp t.wl t.hp ∧ Φ t.hp) hf hb hok (h.mono fun e t ⟨he, rs, a1, a2, a3, a4, a5⟩ => ⟨he, rs, a1, .inl hthr, a2, a3, a4, a5⟩)
 exact ⟨_, h1, h2.1, h2.2.1, h2.2.2.1, h2.2.2.2⟩
theorem ThrK.caller {f : FuncId} {vs : List V} {hp : Hp} {n c : Nat} {v : V} {ids : List Nat} {Φ : Hp → Prop} (h : ThrK f vs hp n c v ids Φ) (hids : ∀ j, j ∈ ids → j < n) :
  ∃ q, lim Tryz.prog Cp.cfg f vs hp n c = some q ∧ q.v = v ∧ q.n = n ∧ (∀ k, k ∈ (tWr q n).map (·.1) → k < n + (q.n - n)) ∧ (∀ k, k ∈ (tWr q n).map (·.1) → k ∈ ids) ∧
   (∀ j, j < n → j ∉ ids → (hp.sets (tWr q n)).get j = hp.get j) ∧ ∃ hp', Φ hp' ∧ ∀ j, j < n → (hp'.get j).isSome = true → (hp.sets (tWr q n)).get j = hp'.get j := by
 obtain ⟨q, h1, h2, h3, h4, h5⟩ := h
 have hk : ∀ k, k ∈ (tWr q n).map (·.1) → k ∈ ids ∧ k < n := fun k hk => by
  have := tWr_keys (by omega) h4 hids hk
  rcases this.1 with h | h
  ·exact ⟨h, hids k h⟩
  ·omega
 exact ⟨q, h1, h2, h3, fun k hk' => by have := (hk k hk').2; omega, fun k hk' => (hk k hk').1, fun j hj hn => tWr_old h4 hj hn, q.hp, h5, fun j hj hs => tWr_same h4 (by omega) hs⟩
end Go.Ac
end

section
namespace Go.Ac
theorem wkkt {L : Prop} (hl : L) {G G' : Prop} (k : G') (h : Wk L G G' := by
 intro hl hk
 repeat (first
 | apply WP.seq
 | (apply WP.reg; (case hR => dsimp only [prepL, prepO, List.map, gS, gZ]; exact iZ); (case hr => (repeat (first
 | (apply RT.op; simp [hl]; exact iZ; (try dsimp only [putEnv]) <;> exact rfl)
 | (apply RT.call; (iterate 2 simp; exact iZ); exact iZ; (iterate 4 simp [hl]; exact iZ); simp [Is]; (try dsimp only [putEnv]) <;> exact rfl; simp; exact iZ; exact iZ)
 | (apply RT.callT (hd := hT1) (hk := hT2); (iterate 2 simp; exact iZ); exact iZ; (iterate 2 simp [hl]; exact iZ); (try dsimp only [putEnv]) <;> exact rfl)
 | (apply RT.wr; simp [hl]; exact iZ; (try dsimp only [putEnv]) <;> exact rfl; simp [hl]; exact iZ; (iterate 2 exact iZ); exact iZ))); exact RT.nil); (case hc => (show _ = _; kernel_rfl)); (case ht => simp [hl]; exact iZ))
 | apply WP.block | apply WP.skip | apply WP.exit | apply WP.ret)
 exact hk.out) : G := h hl ⟨k⟩
theorem wkek {L : Prop} (hl : L) {G G' : Prop} (k : G') (h : Wk L G G' := by
 intro hl hk
 repeat (first
 | apply WP.seq
 | (apply WP.reg; (case hR => dsimp only [prepL, prepO, List.map, gS, gZ]; exact iZ); (case hr => (repeat (first
 | (apply RT.op; simp [hl, -addNew]; exact iZ; (try dsimp only [putEnv]) <;> exact rfl)
 | (apply RT.call; (iterate 2 simp; exact iZ); exact iZ; (iterate 4 simp [hl, -addNew]; exact iZ); simp [Is]; (try dsimp only [putEnv]) <;> exact rfl; simp; exact iZ; exact iZ)
 | (apply RT.wr; simp [hl, -addNew]; exact iZ; (try dsimp only [putEnv]) <;> exact rfl; simp [hl, -addNew]; exact iZ; (iterate 2 exact iZ); exact iZ))); exact RT.nil); (case hc => (show _ = _; kernel_rfl)); (case ht => simp [hl, -addNew]; exact iZ))
 | apply WP.block | apply WP.skip | apply WP.exit | apply WP.ret)
 exact hk.out) : G := h hl ⟨k⟩
theorem wkeikt {L : Prop} (hl : L) {G G' : Prop} (k : G') (h : Wk L G G' := by
 intro hl hk
 repeat (first
 | apply WP.seq
 | (apply WP.reg; (case hR => dsimp only [prepL, prepO, List.map, gS, gZ]; exact iZ); (case hr => (repeat (first
 | (apply RT.op; simp [hl, -addNew]; exact iZ; (try dsimp only [putEnv]) <;> exact rfl)
 | (apply RT.call; (iterate 2 simp; exact iZ); exact iZ; (iterate 4 simp [hl, -addNew]; exact iZ); simp [Is]; (try dsimp only [putEnv]) <;> exact rfl; simp; exact iZ; exact iZ)
 | (apply RT.callI (hd := hI1) (hne := hI2) (hw := hI3) (hwr := hI4); (iterate 2 simp; exact iZ); exact iZ; (iterate 2 simp [hl, -addNew]; exact iZ); (try dsimp only [putEnv]) <;> exact rfl; (first | omega | simp))
 | (apply RT.callT (hd := hT1) (hk := hT2); (iterate 2 simp; exact iZ); exact iZ; (iterate 2 simp [hl, -addNew]; exact iZ); (try dsimp only [putEnv]) <;> exact rfl)
 | (apply RT.wr; simp [hl, -addNew]; exact iZ; (try dsimp only [putEnv]) <;> exact rfl; simp [hl, -addNew]; exact iZ; (iterate 2 exact iZ); exact iZ))); exact RT.nil); (case hc => (show _ = _; kernel_rfl)); (case ht => simp [hl, -addNew]; exact iZ))
 | apply WP.block | apply WP.skip | apply WP.exit | apply WP.ret)
 exact hk.out) : G := h hl ⟨k⟩
theorem wkeiktu {L : Prop} (hl : L) {G G' : Prop} (k : G') (h : Wk L G G' := by
 intro hl hk
 repeat (first
 | apply WP.seq
 | (apply WP.reg; (case hR => dsimp only [prepL, prepO, List.map, gS, gZ]; exact iZ); (case hr => (repeat (first
 | (apply RT.op; simp [hl, -addNew]; exact iZ; (try dsimp only [putEnv]) <;> exact rfl)
 | (apply RT.call; (iterate 2 simp; exact iZ); exact iZ; (iterate 4 simp [hl, -addNew]; exact iZ); simp [Is]; (try dsimp only [putEnv]) <;> exact rfl; simp; exact iZ; exact iZ)
 | (apply RT.callI (hd := hI1) (hne := hI2) (hw := hI3) (hwr := hI4); (iterate 2 simp; exact iZ); exact iZ; (iterate 2 simp [hl, -addNew]; exact iZ); (try dsimp only [putEnv]) <;> exact rfl; (first | omega | simp))
 | (apply RT.callT (hd := hT1) (hk := hT2); (iterate 2 simp; exact iZ); exact iZ; (iterate 2 simp [hl, -addNew]; exact iZ); (try dsimp only [putEnv]) <;> exact rfl)
 | (apply RT.callT (hd := hU1) (hk := hU2); (iterate 2 simp; exact iZ); exact iZ; (iterate 2 simp [hl, -addNew]; exact iZ); (try dsimp only [putEnv]) <;> exact rfl)
 | (apply RT.wr; simp [hl, -addNew]; exact iZ; (try dsimp only [putEnv]) <;> exact rfl; simp [hl, -addNew]; exact iZ; (iterate 2 exact iZ); exact iZ))); exact RT.nil); (case hc => (show _ = _; kernel_rfl)); (case ht => simp [hl, -addNew]; exact iZ))
 | apply WP.block | apply WP.skip | apply WP.exit | apply WP.ret)
 exact hk.out) : G := h hl ⟨k⟩
theorem wkcikt {L : Prop} (hl : L) {G G' : Prop} (k : G') (h : Wk L G G' := by
 intro hl hk
 repeat (first
 | apply WP.seq
 | (apply WP.reg; (case hR => dsimp only [prepL, prepO, List.map, gS, gZ]; exact iZ); (case hr => (repeat (first
 | (apply RT.op; simp [hl]; exact iZ; (try dsimp only [putEnv]) <;> exact rfl)
 | (apply RT.call; (iterate 2 simp; exact iZ); exact iZ; (iterate 4 simp [hl]; exact iZ); simp [Is]; (try dsimp only [putEnv]) <;> exact rfl; simp; exact iZ; exact iZ)
 | (apply RT.callI (hd := hI1) (hne := hI2) (hw := hI3) (hwr := hI4); (iterate 2 simp; exact iZ); exact iZ; (iterate 2 simp [hl]; exact iZ); (try dsimp only [putEnv]) <;> exact rfl; (first | omega | simp))
 | (apply RT.callT (hd := hT1) (hk := hT2); (iterate 2 simp; exact iZ); exact iZ; (iterate 2 simp [hl]; exact iZ); (try dsimp only [putEnv]) <;> exact rfl)
 | (apply RT.wr; simp [hl]; exact iZ; (try dsimp only [putEnv]) <;> exact rfl; simp [hl]; exact iZ; (iterate 2 exact iZ); exact iZ))); exact RT.nil); (case hc => (show _ = _; kernel_rfl)); (case ht => simp [hl]; exact iZ))
 | apply WP.block | apply WP.skip | apply WP.exit | apply WP.ret | refine WP.condT rfl ?_ | refine WP.condF rfl ?_)
 exact hk.out) : G := h hl ⟨k⟩
theorem wkceikt {L : Prop} (hl : L) {G G' : Prop} (k : G') (h : Wk L G G' := by
 intro hl hk
 repeat (first
 | apply WP.seq
 | (apply WP.reg; (case hR => dsimp only [prepL, prepO, List.map, gS, gZ]; exact iZ); (case hr => (repeat (first
 | (apply RT.op; simp [hl, -addNew]; exact iZ; (try dsimp only [putEnv]) <;> exact rfl)
 | (apply RT.call; (iterate 2 simp; exact iZ); exact iZ; (iterate 4 simp [hl, -addNew]; exact iZ); simp [Is]; (try dsimp only [putEnv]) <;> exact rfl; simp; exact iZ; exact iZ)
 | (apply RT.callI (hd := hI1) (hne := hI2) (hw := hI3) (hwr := hI4); (iterate 2 simp; exact iZ); exact iZ; (iterate 2 simp [hl, -addNew]; exact iZ); (try dsimp only [putEnv]) <;> exact rfl; (first | omega | simp))
 | (apply RT.callT (hd := hT1) (hk := hT2); (iterate 2 simp; exact iZ); exact iZ; (iterate 2 simp [hl, -addNew]; exact iZ); (try dsimp only [putEnv]) <;> exact rfl)
 | (apply RT.wr; simp [hl, -addNew]; exact iZ; (try dsimp only [putEnv]) <;> exact rfl; simp [hl, -addNew]; exact iZ; (iterate 2 exact iZ); exact iZ))); exact RT.nil); (case hc => (show _ = _; kernel_rfl)); (case ht => simp [hl, -addNew]; exact iZ))
 | apply WP.block | apply WP.skip | apply WP.exit | apply WP.ret | refine WP.condT rfl ?_ | refine WP.condF rfl ?_)
 exact hk.out) : G := h hl ⟨k⟩
theorem wkcektu {L : Prop} (hl : L) {G G' : Prop} (k : G') (h : Wk L G G' := by
 intro hl hk
 repeat (first
 | apply WP.seq
 | (apply WP.reg; (case hR => dsimp only [prepL, prepO, List.map, gS, gZ]; exact iZ); (case hr => (repeat (first
 | (apply RT.op; simp [hl, -addNew]; exact iZ; (try dsimp only [putEnv]) <;> exact rfl)
 | (apply RT.call; (iterate 2 simp; exact iZ); exact iZ; (iterate 4 simp [hl, -addNew]; exact iZ); simp [Is]; (try dsimp only [putEnv]) <;> exact rfl; simp; exact iZ; exact iZ)
 | (apply RT.callT (hd := hT1) (hk := hT2); (iterate 2 simp; exact iZ); exact iZ; (iterate 2 simp [hl, -addNew]; exact iZ); (try dsimp only [putEnv]) <;> exact rfl)
 | (apply RT.callT (hd := hU1) (hk := hU2); (iterate 2 simp; exact iZ); exact iZ; (iterate 2 simp [hl, -addNew]; exact iZ); (try dsimp only [putEnv]) <;> exact rfl)
 | (apply RT.wr; simp [hl, -addNew]; exact iZ; (try dsimp only [putEnv]) <;> exact rfl; simp [hl, -addNew]; exact iZ; (iterate 2 exact iZ); exact iZ))); exact RT.nil); (case hc => (show _ = _; kernel_rfl)); (case ht => simp [hl, -addNew]; exact iZ))
 | apply WP.block | apply WP.skip | apply WP.exit | apply WP.ret | refine WP.condT rfl ?_ | refine WP.condF rfl ?_)
 exact hk.out) : G := h hl ⟨k⟩
theorem wkceiktu {L : Prop} (hl : L) {G G' : Prop} (k : G') (h : Wk L G G' := by
 intro hl hk
 repeat (first
 | apply WP.seq
 | (apply WP.reg; (case hR => dsimp only [prepL, prepO, List.map, gS, gZ]; exact iZ); (case hr => (repeat (first
 | (apply RT.op; simp [hl, -addNew]; exact iZ; (try dsimp only [putEnv]) <;> exact rfl)
 | (apply RT.call; (iterate 2 simp; exact iZ); exact iZ; (iterate 4 simp [hl, -addNew]; exact iZ); simp [Is]; (try dsimp only [putEnv]) <;> exact rfl; simp; exact iZ; exact iZ)
 | (apply RT.callI (hd := hI1) (hne := hI2) (hw := hI3) (hwr := hI4); (iterate 2 simp; exact iZ); exact iZ; (iterate 2 simp [hl, -addNew]; exact iZ); (try dsimp only [putEnv]) <;> exact rfl; (first | omega | simp))
 | (apply RT.callT (hd := hT1) (hk := hT2); (iterate 2 simp; exact iZ); exact iZ; (iterate 2 simp [hl, -addNew]; exact iZ); (try dsimp only [putEnv]) <;> exact rfl)
 | (apply RT.callT (hd := hU1) (hk := hU2); (iterate 2 simp; exact iZ); exact iZ; (iterate 2 simp [hl, -addNew]; exact iZ); (try dsimp only [putEnv]) <;> exact rfl)
 | (apply RT.wr; simp [hl, -addNew]; exact iZ; (try dsimp only [putEnv]) <;> exact rfl; simp [hl, -addNew]; exact iZ; (iterate 2 exact iZ); exact iZ))); exact RT.nil); (case hc => (show _ = _; kernel_rfl)); (case ht => simp [hl, -addNew]; exact iZ))
 | apply WP.block | apply WP.skip | apply WP.exit | apply WP.ret | refine WP.condT rfl ?_ | refine WP.condF rfl ?_)
 exact hk.out) : G := h hl ⟨k⟩
end Go.Ac
end
