/- Look-ups of the reference. -/
import Derived.Test.YtmjkclonkhempabGreatDoorEmGM
import Derived.Test.YtmjkclonkhempabGreatDoorRows
import Derived.Deep.Slices
import Derived.ChangeArms
import Derived.RowKit3
import Derived.ReadAgain
import Derived.ChangeStays
set_option linter.unusedVariables false
set_option linter.unusedSimpArgs false
section
set_option maxRecDepth 4000
namespace Go.Ac
open Go.Proofs Go.ChangeShapes Go.WideShapes Go.RowKit
open Go.Proofs.YtmjkclonkhempabGreatDoor.Rows (uptoBulk uptoBulkAll)

abbrev noB : Nat → Prop := fun _ => False

def RDs (w : World) (ds : List D) (cs : List Value) : Prop := ds.length = cs.length ∧ ∀ (j : Nat) d v, ds[j]? = some d → cs[j]? = some v → RD w noB d v

theorem bulk_pos {H : Type} (d : DataW H) : 1 ≤ uptoBulk d := by
 cases d with
 | lit l => cases l <;> simp [uptoBulk]
 | nil => simp [uptoBulk]
 | ptr d => simp [uptoBulk]
 | slice elems spare => simp [uptoBulk]
 | agg parts => simp [uptoBulk]
 | iface t d => simp [uptoBulk]
 | map entries => simp [uptoBulk]
 | held h => simp [uptoBulk]

section
variable {H : Type} {enc : TypeId × Value → H} {w : World}

theorem choose_list {α : Type} [Inhabited α] (p : Nat → α → Prop) (n : Nat) (h : ∀ i, i < n → ∃ x, p i x) : ∃ l : List α, l.length = n ∧ ∀ i x, l[i]? = some x → p i x := by
 have : ∀ i, ∃ x, i < n → p i x := fun i => by
  by_cases hi : i < n
  ·obtain ⟨x, hx⟩ := h i hi; exact ⟨x, fun _ => hx⟩
  ·exact ⟨default, fun h => absurd h hi⟩
 obtain ⟨f, hf⟩ := Classical.axiomOfChoice this
 refine ⟨(List.range n).map f, by simp, fun i x hi => ?_⟩
 rw [List.getElem?_map] at hi
 by_cases hin : i < n
 ·rw [List.getElem?_range hin] at hi
  simp at hi
  subst hi
  exact hf i hin
 ·rw [List.getElem?_eq_none (by simp; omega)] at hi
  simp at hi

theorem sum_le {α : Type} (sz : α → Nat) (K : Nat) : ∀ (l : List α) (es : List (DataW H × List MemPlace)), l.length = es.length → (∀ (i : Nat) x e, l[i]? = some x → es[i]? = some e → sz x ≤ K * uptoBulk e.1) → (l.map sz).sum ≤ K * uptoBulkAll (es.map (·.1))
 | [], es, h, _ => by simp
 | x :: l, [], h, _ => by simp at h
 | x :: l, e :: es, h, hi => by
  have h1 := hi 0 x e rfl rfl
  have h2 := sum_le sz K l es (by simpa using h) (fun i x e hx he => hi (i + 1) x e (by simpa using hx) (by simpa using he))
  simp only [List.map_cons, List.sum_cons, uptoBulkAll, Nat.mul_add]
  omega

theorem open_list {α : Type} [Inhabited α] (en : α → List D) (sz : α → Nat) (Pr : α → Prop) (K n : Nat) {t e fuel : Nat} {cs : List Value} {x : DataW H × List MemPlace} (ht : Tryz.prog.underlying t = some (.slice e)) (hc : Tryz.prog.cellsOf e = n) (hn : 0 < n) (hlen : ∀ y, (en y).length = n)
  (hel : ∀ fuel', fuel' < fuel → ∀ cs x, DataW.trod enc Tryz.prog w 0 (fun _ => true) true fuel' e cs = some x → ∃ y, RDs w (en y) cs ∧ sz y ≤ K * uptoBulk x.1 ∧ Pr y)
  (h : DataW.trod enc Tryz.prog w 0 (fun _ => true) true fuel t cs = some x) : ∃ (l : List α) (v : Value), cs = [v] ∧ RD w noB (.slice (l.map en)) v ∧ (l.map sz).sum ≤ K * (uptoBulk x.1 - 1) ∧ (∀ y, y ∈ l → Pr y) ∧ l.length ≤ uptoBulk x.1 - 1 := by
 rcases DataW.trod_slice ht h with ⟨rfl, rfl⟩ | ⟨a, len, cap, elems, rest, m, rfl, rfl, rfl, hb, hl, hm, hlen2, hel2, _, _⟩
 ·exact ⟨[], _, rfl, .empty none 0 (Nat.zero_le _), by simp, fun y hy => (by cases hy), Nat.zero_le _⟩
 ·rw [hc] at hel2
  have key : ∀ i, i < len → ∃ y : α, ∃ cs e, w.cells? 0 (a.add (i * n)) n = some cs ∧ elems[i]? = some e ∧ RDs w (en y) cs ∧ sz y ≤ K * uptoBulk e.1 ∧ Pr y := fun i hi => by
   have h1 := hel2 i hi
   rw [List.getElem?_eq_getElem (by omega)] at h1
   obtain ⟨cs, h2, h3⟩ := Option.bind_eq_some_iff.1 h1
   obtain ⟨y, h4, h5, h6⟩ := hel m (by omega) _ _ h3
   exact ⟨y, cs, _, h2, List.getElem?_eq_getElem (by omega), h4, h5, h6⟩
  obtain ⟨l, hll, hl2⟩ := choose_list _ len key
  refine ⟨l, _, rfl, ?_, ?_, ?_, ?_⟩
  ·by_cases h0 : len = 0
   ·subst h0
    have : l = [] := List.length_eq_zero_iff.1 hll
    subst this
    exact .empty _ _ hm
   ·have hspot : a.spot = none := by
     obtain ⟨y, cs, e, h1, _⟩ := key 0 (by omega)
     obtain ⟨_, h2, h3⟩ := World.cells?_some h1
     have h4 := h3 0 hn
     rw [List.getElem?_eq_getElem (by omega)] at h4
     simp only [Nat.zero_mul, Addr.add, if_pos] at h4
     unfold World.cell? at h4
     split at h4
     ·split at h4
      ·cases h4
      ·rename_i hs; simpa using hs
     ·cases h4
    obtain ⟨b, off, sp⟩ := a
    simp only at hspot
    subst hspot
    have hadd : ∀ o k, (Addr.mk b o none).add k = ⟨b, o + k, none⟩ := fun o k => by
     unfold Addr.add
     split
     ·rename_i hk; subst hk; rfl
     ·rfl
    have hcell : ∀ (i j : Nat) (r : List D) (d : D), (l.map en)[i]? = some r → r[j]? = some d → ∃ v, w.cell? ⟨b, off + (i * n + j), none⟩ = some v ∧ RD w noB d v := fun i j r d hr hd => by
     rw [List.getElem?_map, Option.map_eq_some_iff] at hr
     obtain ⟨y, hy, rfl⟩ := hr
     obtain ⟨cs, e, h1, _, h3, _, _⟩ := hl2 i y hy
     obtain ⟨_, h4, h5⟩ := World.cells?_some h1
     have hj : j < n := by
      have := (List.getElem?_eq_some_iff.1 hd).1
      rwa [hlen] at this
     have h6 := h5 j hj
     rw [hadd, hadd, List.getElem?_eq_getElem (by omega)] at h6
     rw [Nat.add_assoc] at h6
     have h7 : j < cs.length := by omega
     exact ⟨cs[j], h6, h3.2 j d _ hd (List.getElem?_eq_getElem h7)⟩
    rw [show len = (l.map en).length by simp [hll]]
    have hx : ∀ q : Nat × Nat, ∃ v, ∀ r d, (l.map en)[q.1]? = some r → r[q.2]? = some d → w.cell? ⟨b, off + (q.1 * n + q.2), none⟩ = some v ∧ RD w noB d v := fun q => by
     by_cases hq : ∃ r d, (l.map en)[q.1]? = some r ∧ r[q.2]? = some d
     ·obtain ⟨r, d, h1, h2⟩ := hq
      obtain ⟨v, h3, h4⟩ := hcell _ _ r d h1 h2
      refine ⟨v, fun r' d' h1' h2' => ?_⟩
      rw [h1] at h1'
      obtain rfl := Option.some.inj h1'
      rw [h2] at h2'
      obtain rfl := Option.some.inj h2'
      exact ⟨h3, h4⟩
     ·exact ⟨default, fun r d h1 h2 => absurd ⟨r, d, h1, h2⟩ hq⟩
    obtain ⟨f, hf⟩ := Classical.axiomOfChoice hx
    refine .slice (l.map en) b off cap n (by simp [hll]; exact hl) hm (fun i r hr => ?_) (fun i j => f (i, j)) (fun i j r d hr hd => ⟨fun h => h, (hf (i, j) r d hr hd).1⟩) (fun i j r d hr hd => (hf (i, j) r d hr hd).2)
    rw [List.getElem?_map, Option.map_eq_some_iff] at hr
    obtain ⟨y, _, rfl⟩ := hr
    exact hlen y
  ·have := sum_le sz K l elems (by omega) (fun i x e hx he => by
    obtain ⟨cs, e', h1, h2, h3, h4, _⟩ := hl2 i x hx
    rw [h2] at he
    obtain rfl := Option.some.inj he
    exact h4)
   refine Nat.le_trans this (Nat.mul_le_mul_left K ?_)
   simp only [uptoBulk]
   omega
  ·intro y hy
   obtain ⟨i, hi⟩ := List.mem_iff_getElem?.1 hy
   obtain ⟨_, _, _, _, _, _, h⟩ := hl2 i y hi
   exact h
  ·have h1 : ∀ es : List (DataW H × List MemPlace), es.length ≤ uptoBulkAll (es.map (·.1)) := fun es => by
    induction es with
    | nil => simp [uptoBulkAll]
    | cons a r ih => have := bulk_pos a.1; simp only [List.map_cons, uptoBulkAll, List.length_cons]; omega
   have := h1 elems
   simp only [uptoBulk]
   omega


theorem cz3 : Tryz.prog.cellsOf 3 = 1 := by kernel_rfl
theorem cz9 : Tryz.prog.cellsOf 9 = 1 := by kernel_rfl
theorem cz22 : Tryz.prog.cellsOf 22 = 1 := by kernel_rfl
theorem cz23 : Tryz.prog.cellsOf 23 = 1 := by kernel_rfl
theorem cz25 : Tryz.prog.cellsOf 25 = 2 := by kernel_rfl
theorem cz34 : Tryz.prog.cellsOf 34 = 1 := by kernel_rfl
theorem cz35 : Tryz.prog.cellsOf 35 = 1 := by kernel_rfl
theorem cz36 : Tryz.prog.cellsOf 36 = 1 := by kernel_rfl
theorem cz37 : Tryz.prog.cellsOf 37 = 1 := by kernel_rfl
theorem cz39 : Tryz.prog.cellsOf 39 = 7 := by kernel_rfl
theorem cz77 : Tryz.prog.cellsOf 77 = 1 := by kernel_rfl
theorem cz79 : Tryz.prog.cellsOf 79 = 3 := by kernel_rfl
theorem cz65 : Tryz.prog.cellsOf 65 = 1 := by kernel_rfl
theorem cz67 : Tryz.prog.cellsOf 67 = 6 := by kernel_rfl
theorem cz68 : Tryz.prog.cellsOf 68 = 1 := by kernel_rfl
theorem cz69 : Tryz.prog.cellsOf 69 = 1 := by kernel_rfl
theorem cz71 : Tryz.prog.cellsOf 71 = 12 := by kernel_rfl
theorem cz83 : Tryz.prog.cellsOf 83 = 2 := by kernel_rfl
theorem cz81 : Tryz.prog.cellsOf 81 = 3 := by kernel_rfl
theorem cz63 : Tryz.prog.cellsOf 63 = 2 := by kernel_rfl
theorem cz213 : Tryz.prog.cellsOf 213 = 3 := by kernel_rfl
instance : Inhabited X := ⟨.mk 0 0 0 0 [] []⟩
instance : Inhabited Y := ⟨.mk 0 [] 0 (.mk 0 0 0 0 [] []) [] [] []⟩
instance : Inhabited On := ⟨⟨[], 0, 0⟩⟩
instance : Inhabited Dc := ⟨⟨[], 0, []⟩⟩
instance : Inhabited En := ⟨⟨[], []⟩⟩
instance : Inhabited Mm := ⟨⟨[], 0, 0⟩⟩
instance : Inhabited Ii := ⟨⟨[], []⟩⟩
instance : Inhabited Cl := ⟨⟨[], [], [], [], [], [], []⟩⟩
theorem X.cells_len (x : X) : x.cells.length = 6 := by rw [X.cells_eq]; rfl
theorem Y.cells_len (y : Y) : y.cells.length = 12 := by rw [Y.cells_eq]; rfl
theorem RDs.one {d : D} {v : Value} (h : RD w noB d v) : RDs w [d] [v] := ⟨rfl, fun j d' v' h1 h2 => by
 cases j with
 | zero => simp at h1 h2; subst h1; subst h2; exact h
 | succ j => simp at h1⟩
theorem RDs.app {d1 d2 : List D} {v1 v2 : List Value} (h1 : RDs w d1 v1) (h2 : RDs w d2 v2) : RDs w (d1 ++ d2) (v1 ++ v2) := by
 refine ⟨by simp [h1.1, h2.1], fun j d v hd hv => ?_⟩
 by_cases hj : j < d1.length
 ·rw [List.getElem?_append_left hj] at hd
  rw [List.getElem?_append_left (by rw [← h1.1]; exact hj)] at hv
  exact h1.2 j d v hd hv
 ·rw [List.getElem?_append_right (by omega)] at hd
  rw [List.getElem?_append_right (by rw [← h1.1]; omega), ← h1.1] at hv
  exact h2.2 _ d v hd hv


def I64 (n : Int) : Prop := -9223372036854775808 ≤ n ∧ n ≤ 9223372036854775807
theorem i64_of {n : Int} (h : (Lit.int .i64 n).wf = true) : I64 n := by
 simp [Lit.wf, IntKind.min, IntKind.max, IntKind.signed, IntKind.bits] at h
 unfold I64; omega

/-! Numbers are of sixty-four bits. -/
mutual
def X.ok : X → Prop
 | .mk k o t v _ args => I64 k ∧ I64 o ∧ I64 t ∧ I64 v ∧ okX args
def okX : List X → Prop
 | [] => True
 | x :: r => x.ok ∧ okX r
end
mutual
def Y.ok : Y → Prop
 | .mk k _ t r _ args brs => I64 k ∧ I64 t ∧ r.ok ∧ okX args ∧ okB brs
def okY : List Y → Prop
 | [] => True
 | x :: r => x.ok ∧ okY r
def okB : List (List Y) → Prop
 | [] => True
 | x :: r => okY x ∧ okB r
end
theorem okX_iff : ∀ l : List X, okX l ↔ ∀ x, x ∈ l → x.ok
 | [] => by simp [okX]
 | x :: r => by simp [okX, okX_iff r]
theorem okY_iff : ∀ l : List Y, okY l ↔ ∀ x, x ∈ l → x.ok
 | [] => by simp [okY]
 | x :: r => by simp [okY, okY_iff r]
theorem okB_iff : ∀ l : List (List Y), okB l ↔ ∀ x, x ∈ l → okY x
 | [] => by simp [okB]
 | x :: r => by simp [okB, okB_iff r]
def On.ok (x : On) : Prop := I64 x.t ∧ I64 x.tag
def Dc.ok (x : Dc) : Prop := I64 x.t ∧ ∀ c, c ∈ x.ck → c.ok
def Mm.ok (x : Mm) : Prop := I64 x.t ∧ I64 x.ini
structure Cl.ok (x : Cl) : Prop where
 inn : ∀ d, d ∈ x.inn → d.ok
 out : ∀ d, d ∈ x.out → d.ok
 loc : ∀ d, d ∈ x.loc → d.ok
 mems : ∀ d, d ∈ x.mems → d.ok
 step : okY x.step
def Oc.ok (x : Oc) : Prop := ∀ c, c ∈ x.cl → c.ok

theorem openS {f : Nat} {cs : List Value} {x : DataW H × List MemPlace} (h : DataW.trod enc Tryz.prog w 0 (fun _ => true) true f 68 cs = some x) : ∃ (l : List Tx) (v : Value), cs = [v] ∧ RD w noB (.slice (encS l)) v ∧ szS l ≤ 2 * (uptoBulk x.1 - 1) := by
 obtain ⟨l, v, h1, h2, h3, _, _⟩ := open_list (fun s : Tx => [D.str s]) szT (fun _ => True) 2 1 Tryz.underlying68 cz9 (by omega) (fun _ => rfl) (fun f' hf cs x hx => by
  obtain ⟨s, rfl, rfl, _⟩ := DataW.trod_string Tryz.underlying9 hx
  exact ⟨s.data.toList, .one (.str _ _ rfl), by simp [szT, uptoBulk]; omega, trivial⟩) h
 exact ⟨l, v, h1, h2, h3⟩

theorem openOn {f : Nat} {cs : List Value} {x : DataW H × List MemPlace} (h : DataW.trod enc Tryz.prog w 0 (fun _ => true) true f 213 cs = some x) : ∃ y : On, RDs w y.cells cs ∧ y.sz ≤ 2 * uptoBulk x.1 ∧ y.ok := by
 obtain ⟨xs, n, rfl, rfl, hl, hxl, hx⟩ := DataW.trod_struct Tryz.underlying213 h
 rw [cz213] at hl
 match cs, hl with
 | [v0, v1, v2], _ =>
 have hxn : xs.length = 3 := hxl
 match xs, hxn with
 | [x0, x1, x2], _ =>
 have h0 := hx 0 _ rfl
 have h1 := hx 1 _ rfl
 have h2 := hx 2 _ rfl
 simp [cz3, cz9] at h0 h1 h2
 obtain ⟨n0, e0, rfl, g0⟩ := DataW.trod_string Tryz.underlying9 h0
 obtain ⟨n1, e1, rfl, g1⟩ := DataW.trod_int Tryz.underlying3 h1
 obtain ⟨n2, e2, rfl, g2⟩ := DataW.trod_int Tryz.underlying3 h2
 simp only [List.cons.injEq, and_true] at e0 e1 e2
 subst e0 e1 e2
 refine ⟨⟨n0.data.toList, n1, n2⟩, ?_, ?_, ⟨i64_of g1, i64_of g2⟩⟩
 ·simp only [On.cells]
  exact (RDs.app (v1 := [_]) (.one (.str _ _ rfl)) (RDs.app (v1 := [_]) (.one (.int _ _)) (.one (.int _ _))))
 ·simp only [On.sz, szT, uptoBulk, uptoBulkAll, List.map_cons, List.map_nil]
  omega

theorem openO {f : Nat} {cs : List Value} {x : DataW H × List MemPlace} (h : DataW.trod enc Tryz.prog w 0 (fun _ => true) true f 77 cs = some x) : ∃ (l : List On) (v : Value), cs = [v] ∧ RD w noB (.slice (encO l)) v ∧ szO l ≤ 2 * (uptoBulk x.1 - 1) ∧ ∀ y, y ∈ l → y.ok := by
 obtain ⟨l, v, h1, h2, h3, h4, _⟩ := open_list On.cells On.sz (fun y => y.ok) 2 3 Tryz.underlying77 cz213 (by omega) (fun _ => rfl) (fun f' hf cs x hx => openOn hx) h
 exact ⟨l, v, h1, h2, h3, h4⟩

theorem openDc {f : Nat} {cs : List Value} {x : DataW H × List MemPlace} (h : DataW.trod enc Tryz.prog w 0 (fun _ => true) true f 79 cs = some x) : ∃ y : Dc, RDs w y.cells cs ∧ y.sz ≤ 2 * uptoBulk x.1 ∧ y.ok := by
 obtain ⟨xs, n, rfl, rfl, hl, hxl, hx⟩ := DataW.trod_struct Tryz.underlying79 h
 rw [cz79] at hl
 match cs, hl with
 | [v0, v1, v2], _ =>
 have hxn : xs.length = 3 := hxl
 match xs, hxn with
 | [x0, x1, x2], _ =>
 have h0 := hx 0 _ rfl
 have h1 := hx 1 _ rfl
 have h2 := hx 2 _ rfl
 simp [cz3, cz9, cz77] at h0 h1 h2
 obtain ⟨n0, e0, rfl, g0⟩ := DataW.trod_string Tryz.underlying9 h0
 obtain ⟨n1, e1, rfl, g1⟩ := DataW.trod_int Tryz.underlying3 h1
 obtain ⟨n2, w2, e2, r2, s2, g2⟩ := openO h2
 simp only [List.cons.injEq, and_true] at e0 e1 e2
 subst e0 e1 e2
 refine ⟨⟨n0.data.toList, n1, n2⟩, ?_, ?_, ⟨i64_of g1, g2⟩⟩
 ·simp only [Dc.cells]
  exact (RDs.app (v1 := [_]) (.one (.str _ _ rfl)) (RDs.app (v1 := [_]) (.one (.int _ _)) (.one r2)))
 ·have b2 := bulk_pos x2.1
  simp only [Dc.sz, szT, uptoBulk, uptoBulkAll, List.map_cons, List.map_nil]
  omega

theorem openD {f : Nat} {cs : List Value} {x : DataW H × List MemPlace} (h : DataW.trod enc Tryz.prog w 0 (fun _ => true) true f 34 cs = some x) : ∃ (l : List Dc) (v : Value), cs = [v] ∧ RD w noB (.slice (encD l)) v ∧ szD l ≤ 2 * (uptoBulk x.1 - 1) ∧ ∀ y, y ∈ l → y.ok := by
 obtain ⟨l, v, h1, h2, h3, h4, _⟩ := open_list Dc.cells Dc.sz (fun y => y.ok) 2 3 Tryz.underlying34 cz79 (by omega) (fun _ => rfl) (fun f' hf cs x hx => openDc hx) h
 exact ⟨l, v, h1, h2, h3, h4⟩

theorem openEn {f : Nat} {cs : List Value} {x : DataW H × List MemPlace} (h : DataW.trod enc Tryz.prog w 0 (fun _ => true) true f 83 cs = some x) : ∃ y : En, RDs w y.cells cs ∧ y.sz ≤ 2 * uptoBulk x.1 ∧ True := by
 obtain ⟨xs, n, rfl, rfl, hl, hxl, hx⟩ := DataW.trod_struct Tryz.underlying83 h
 rw [cz83] at hl
 match cs, hl with
 | [v0, v1], _ =>
 have hxn : xs.length = 2 := hxl
 match xs, hxn with
 | [x0, x1], _ =>
 have h0 := hx 0 _ rfl
 have h1 := hx 1 _ rfl
 simp [cz9, cz68] at h0 h1
 obtain ⟨n0, e0, rfl, g0⟩ := DataW.trod_string Tryz.underlying9 h0
 obtain ⟨n1, w1, e1, r1, s1⟩ := openS h1
 simp only [List.cons.injEq, and_true] at e0 e1
 subst e0 e1
 refine ⟨⟨n0.data.toList, n1⟩, ?_, ?_, trivial⟩
 ·simp only [En.cells]
  exact (RDs.app (v1 := [_]) (.one (.str _ _ rfl)) (.one r1))
 ·have b1 := bulk_pos x1.1
  simp only [En.sz, szT, uptoBulk, uptoBulkAll, List.map_cons, List.map_nil]
  omega

theorem openE {f : Nat} {cs : List Value} {x : DataW H × List MemPlace} (h : DataW.trod enc Tryz.prog w 0 (fun _ => true) true f 22 cs = some x) : ∃ (l : List En) (v : Value), cs = [v] ∧ RD w noB (.slice (encE l)) v ∧ szE l ≤ 2 * (uptoBulk x.1 - 1) ∧ ∀ y, y ∈ l → True := by
 obtain ⟨l, v, h1, h2, h3, h4, _⟩ := open_list En.cells En.sz (fun y => True) 2 2 Tryz.underlying22 cz83 (by omega) (fun _ => rfl) (fun f' hf cs x hx => openEn hx) h
 exact ⟨l, v, h1, h2, h3, h4⟩

theorem openMm {f : Nat} {cs : List Value} {x : DataW H × List MemPlace} (h : DataW.trod enc Tryz.prog w 0 (fun _ => true) true f 81 cs = some x) : ∃ y : Mm, RDs w y.cells cs ∧ y.sz ≤ 2 * uptoBulk x.1 ∧ y.ok := by
 obtain ⟨xs, n, rfl, rfl, hl, hxl, hx⟩ := DataW.trod_struct Tryz.underlying81 h
 rw [cz81] at hl
 match cs, hl with
 | [v0, v1, v2], _ =>
 have hxn : xs.length = 3 := hxl
 match xs, hxn with
 | [x0, x1, x2], _ =>
 have h0 := hx 0 _ rfl
 have h1 := hx 1 _ rfl
 have h2 := hx 2 _ rfl
 simp [cz3, cz9] at h0 h1 h2
 obtain ⟨n0, e0, rfl, g0⟩ := DataW.trod_string Tryz.underlying9 h0
 obtain ⟨n1, e1, rfl, g1⟩ := DataW.trod_int Tryz.underlying3 h1
 obtain ⟨n2, e2, rfl, g2⟩ := DataW.trod_int Tryz.underlying3 h2
 simp only [List.cons.injEq, and_true] at e0 e1 e2
 subst e0 e1 e2
 refine ⟨⟨n0.data.toList, n1, n2⟩, ?_, ?_, ⟨i64_of g1, i64_of g2⟩⟩
 ·simp only [Mm.cells]
  exact (RDs.app (v1 := [_]) (.one (.str _ _ rfl)) (RDs.app (v1 := [_]) (.one (.int _ _)) (.one (.int _ _))))
 ·simp only [Mm.sz, szT, uptoBulk, uptoBulkAll, List.map_cons, List.map_nil]
  omega

theorem openM {f : Nat} {cs : List Value} {x : DataW H × List MemPlace} (h : DataW.trod enc Tryz.prog w 0 (fun _ => true) true f 35 cs = some x) : ∃ (l : List Mm) (v : Value), cs = [v] ∧ RD w noB (.slice (encM l)) v ∧ szM l ≤ 2 * (uptoBulk x.1 - 1) ∧ ∀ y, y ∈ l → y.ok := by
 obtain ⟨l, v, h1, h2, h3, h4, _⟩ := open_list Mm.cells Mm.sz (fun y => y.ok) 2 3 Tryz.underlying35 cz81 (by omega) (fun _ => rfl) (fun f' hf cs x hx => openMm hx) h
 exact ⟨l, v, h1, h2, h3, h4⟩

theorem openIi {f : Nat} {cs : List Value} {x : DataW H × List MemPlace} (h : DataW.trod enc Tryz.prog w 0 (fun _ => true) true f 63 cs = some x) : ∃ y : Ii, RDs w y.cells cs ∧ y.sz ≤ 2 * uptoBulk x.1 ∧ True := by
 obtain ⟨xs, n, rfl, rfl, hl, hxl, hx⟩ := DataW.trod_struct Tryz.underlying63 h
 rw [cz63] at hl
 match cs, hl with
 | [v0, v1], _ =>
 have hxn : xs.length = 2 := hxl
 match xs, hxn with
 | [x0, x1], _ =>
 have h0 := hx 0 _ rfl
 have h1 := hx 1 _ rfl
 simp [cz9] at h0 h1
 obtain ⟨n0, e0, rfl, g0⟩ := DataW.trod_string Tryz.underlying9 h0
 obtain ⟨n1, e1, rfl, g1⟩ := DataW.trod_string Tryz.underlying9 h1
 simp only [List.cons.injEq, and_true] at e0 e1
 subst e0 e1
 refine ⟨⟨n0.data.toList, n1.data.toList⟩, ?_, ?_, trivial⟩
 ·simp only [Ii.cells]
  exact (RDs.app (v1 := [_]) (.one (.str _ _ rfl)) (.one (.str _ _ rfl)))
 ·simp only [Ii.sz, szT, uptoBulk, uptoBulkAll, List.map_cons, List.map_nil]
  omega

theorem openJ {f : Nat} {cs : List Value} {x : DataW H × List MemPlace} (h : DataW.trod enc Tryz.prog w 0 (fun _ => true) true f 36 cs = some x) : ∃ (l : List Ii) (v : Value), cs = [v] ∧ RD w noB (.slice (encJ l)) v ∧ szJ l ≤ 2 * (uptoBulk x.1 - 1) ∧ ∀ y, y ∈ l → True := by
 obtain ⟨l, v, h1, h2, h3, h4, _⟩ := open_list Ii.cells Ii.sz (fun y => True) 2 2 Tryz.underlying36 cz63 (by omega) (fun _ => rfl) (fun f' hf cs x hx => openIi hx) h
 exact ⟨l, v, h1, h2, h3, h4⟩

/-- Expressions and their lists. -/
def OX (w : World) (enc : TypeId × Value → H) (f : Nat) : Prop :=
 (∀ cs x, DataW.trod enc Tryz.prog w 0 (fun _ => true) true f 67 cs = some x → ∃ y : X, RDs w y.cells cs ∧ y.sz ≤ 2 * uptoBulk x.1 ∧ y.ok) ∧
 (∀ cs x, DataW.trod enc Tryz.prog w 0 (fun _ => true) true f 65 cs = some x → ∃ (l : List X) (v : Value), cs = [v] ∧ RD w noB (.slice (encX l)) v ∧ szX l ≤ 2 * (uptoBulk x.1 - 1) ∧ okX l)
theorem openX : ∀ f, OX w enc f := by
 intro f
 induction f using Nat.strongRecOn with
 | ind f ih =>
  constructor
  ·intro cs x h
   obtain ⟨xs, n, rfl, rfl, hl, hxl, hx⟩ := DataW.trod_struct Tryz.underlying67 h
   rw [cz67] at hl
   match cs, hl with
   | [v0, v1, v2, v3, v4, v5], _ =>
   have hx6 : xs.length = 6 := hxl
   match xs, hx6 with
   | [x0, x1, x2, x3, x4, x5], _ =>
   have h0 := hx 0 _ rfl
   have h1 := hx 1 _ rfl
   have h2 := hx 2 _ rfl
   have h3 := hx 3 _ rfl
   have h4 := hx 4 _ rfl
   have h5 := hx 5 _ rfl
   simp [cz3, cz9, cz65] at h0 h1 h2 h3 h4 h5
   obtain ⟨n0, e0, rfl, g0⟩ := DataW.trod_int Tryz.underlying3 h0
   obtain ⟨n1, e1, rfl, g1⟩ := DataW.trod_int Tryz.underlying3 h1
   obtain ⟨n2, e2, rfl, g2⟩ := DataW.trod_int Tryz.underlying3 h2
   obtain ⟨n3, e3, rfl, g3⟩ := DataW.trod_int Tryz.underlying3 h3
   obtain ⟨s4, e4, rfl, _⟩ := DataW.trod_string Tryz.underlying9 h4
   obtain ⟨l5, w5, e5, hr5, hs5, ho5⟩ := (ih n (by omega)).2 _ _ h5
   simp only [List.cons.injEq, and_true] at e0 e1 e2 e3 e4 e5
   subst e0 e1 e2 e3 e4 e5
   refine ⟨.mk n0 n1 n2 n3 s4.data.toList l5, ?_, ?_, ?_⟩
   ·simp only [X.cells]
    exact RDs.app (.one (.int _ _)) (RDs.app (.one (.int _ _)) (RDs.app (.one (.int _ _)) (RDs.app (.one (.int _ _)) (RDs.app (.one (.str _ _ rfl)) (.one hr5)))))
   ·have hb := bulk_pos x5.1
    simp only [X.sz, szT, uptoBulk, uptoBulkAll, List.map_cons, List.map_nil]
    omega
   ·simp only [X.ok]
    exact ⟨i64_of g0, i64_of g1, i64_of g2, i64_of g3, ho5⟩
  ·intro cs x h
   obtain ⟨l, v, h1, h2, h3, h4, _⟩ := open_list X.cells X.sz X.ok 2 6 Tryz.underlying65 cz67 (by omega) X.cells_len (fun f' hf cs x hx => (ih f' hf).1 cs x hx) h
   exact ⟨l, v, h1, by rw [encX_map]; exact h2, by rw [szX_sum]; exact h3, (okX_iff l).2 h4⟩

/-- Statements, their lists, and the lists of these. -/
def OY (w : World) (enc : TypeId × Value → H) (f : Nat) : Prop :=
 (∀ cs x, DataW.trod enc Tryz.prog w 0 (fun _ => true) true f 71 cs = some x → ∃ y : Y, RDs w y.cells cs ∧ y.sz ≤ 2 * uptoBulk x.1 ∧ y.ok) ∧
 (∀ cs x, DataW.trod enc Tryz.prog w 0 (fun _ => true) true f 37 cs = some x → ∃ (l : List Y) (v : Value), cs = [v] ∧ RD w noB (.slice (encY l)) v ∧ szY l ≤ 2 * (uptoBulk x.1 - 1) ∧ okY l) ∧
 (∀ cs x, DataW.trod enc Tryz.prog w 0 (fun _ => true) true f 69 cs = some x → ∃ (l : List (List Y)) (v : Value), cs = [v] ∧ RD w noB (.slice (encB l)) v ∧ szB l ≤ 2 * (uptoBulk x.1 - 1) ∧ okB l)

theorem openY : ∀ f, OY w enc f := by
 intro f
 induction f using Nat.strongRecOn with
 | ind f ih =>
  refine ⟨?_, ?_, ?_⟩
  ·intro cs x h
   obtain ⟨xs, n, rfl, rfl, hl, hxl, hx⟩ := DataW.trod_struct Tryz.underlying71 h
   rw [cz71] at hl
   match cs, hl with
   | [v0, v1, v2, v3, v4, v5, v6, v7, v8, v9, v10, v11], _ =>
   have hx6 : xs.length = 7 := hxl
   match xs, hx6 with
   | [x0, x1, x2, x3, x4, x5, x6], _ =>
   have h0 := hx 0 _ rfl
   have h1 := hx 1 _ rfl
   have h2 := hx 2 _ rfl
   have h3 := hx 3 _ rfl
   have h4 := hx 4 _ rfl
   have h5 := hx 5 _ rfl
   have h6 := hx 6 _ rfl
   simp [cz3, cz9, cz65, cz67, cz68, cz69] at h0 h1 h2 h3 h4 h5 h6
   obtain ⟨n0, e0, rfl, g0⟩ := DataW.trod_int Tryz.underlying3 h0
   obtain ⟨s1, e1, rfl, _⟩ := DataW.trod_string Tryz.underlying9 h1
   obtain ⟨n2, e2, rfl, g2⟩ := DataW.trod_int Tryz.underlying3 h2
   obtain ⟨r3, hr3, hs3, g3⟩ := (openX n).1 _ _ h3
   obtain ⟨l4, w4, e4, hr4, hs4⟩ := openS h4
   obtain ⟨l5, w5, e5, hr5, hs5, g5⟩ := (openX n).2 _ _ h5
   obtain ⟨l6, w6, e6, hr6, hs6, g6⟩ := (ih n (by omega)).2.2 _ _ h6
   simp only [List.cons.injEq, and_true] at e0 e1 e2 e4 e5 e6
   subst e0 e1 e2 e4 e5 e6
   refine ⟨.mk n0 s1.data.toList n2 r3 l4 l5 l6, ?_, ?_, ?_⟩
   ·simp only [Y.cells]
    exact RDs.app (v1 := [_, _, _, _, _, _, _, _, _]) (RDs.app (v1 := [_, _, _]) (RDs.app (v1 := [_]) (.one (.int _ _)) (RDs.app (v1 := [_]) (.one (.str _ _ rfl)) (.one (.int _ _)))) hr3) (RDs.app (v1 := [_]) (.one hr4) (RDs.app (v1 := [_]) (.one hr5) (.one hr6)))
   ·have b4 := bulk_pos x4.1
    have b5 := bulk_pos x5.1
    have b6 := bulk_pos x6.1
    simp only [Y.sz, szT, uptoBulk, uptoBulkAll, List.map_cons, List.map_nil]
    omega
   ·simp only [Y.ok]
    exact ⟨i64_of g0, i64_of g2, g3, g5, g6⟩
  ·intro cs x h
   obtain ⟨l, v, h1, h2, h3, h4, _⟩ := open_list Y.cells Y.sz Y.ok 2 12 Tryz.underlying37 cz71 (by omega) Y.cells_len (fun f' hf cs x hx => (ih f' hf).1 cs x hx) h
   exact ⟨l, v, h1, by rw [encY_map]; exact h2, by rw [szY_sum]; exact h3, (okY_iff l).2 h4⟩
  ·intro cs x h
   obtain ⟨l, v, h1, h2, h3, h4, _⟩ := open_list (fun b : List Y => [D.slice (encY b)]) (fun b => szY b + 1) okY 2 1 Tryz.underlying69 cz37 (by omega) (fun _ => rfl) (fun f' hf cs x hx => by
    obtain ⟨b, v, rfl, hr, hs, ho⟩ := (ih f' hf).2.1 cs x hx
    have := bulk_pos x.1
    exact ⟨b, .one hr, by omega, ho⟩) h
   exact ⟨l, v, h1, by rw [encB_map]; exact h2, by rw [szB_sum]; exact h3, (okB_iff l).2 h4⟩
theorem openYs {f : Nat} {cs : List Value} {x : DataW H × List MemPlace} (h : DataW.trod enc Tryz.prog w 0 (fun _ => true) true f 37 cs = some x) : ∃ (l : List Y) (v : Value), cs = [v] ∧ RD w noB (.slice (encY l)) v ∧ szY l ≤ 2 * (uptoBulk x.1 - 1) ∧ okY l := (openY f).2.1 _ _ h

theorem openCl {f : Nat} {cs : List Value} {x : DataW H × List MemPlace} (h : DataW.trod enc Tryz.prog w 0 (fun _ => true) true f 39 cs = some x) : ∃ y : Cl, RDs w y.cells cs ∧ y.sz ≤ 2 * uptoBulk x.1 ∧ y.ok := by
 obtain ⟨xs, n, rfl, rfl, hl, hxl, hx⟩ := DataW.trod_struct Tryz.underlying39 h
 rw [cz39] at hl
 match cs, hl with
 | [v0, v1, v2, v3, v4, v5, v6], _ =>
 have hxn : xs.length = 7 := hxl
 match xs, hxn with
 | [x0, x1, x2, x3, x4, x5, x6], _ =>
 have h0 := hx 0 _ rfl
 have h1 := hx 1 _ rfl
 have h2 := hx 2 _ rfl
 have h3 := hx 3 _ rfl
 have h4 := hx 4 _ rfl
 have h5 := hx 5 _ rfl
 have h6 := hx 6 _ rfl
 simp [cz9, cz34, cz35, cz36, cz37] at h0 h1 h2 h3 h4 h5 h6
 obtain ⟨n0, e0, rfl, g0⟩ := DataW.trod_string Tryz.underlying9 h0
 obtain ⟨n1, w1, e1, r1, s1, g1⟩ := openD h1
 obtain ⟨n2, w2, e2, r2, s2, g2⟩ := openD h2
 obtain ⟨n3, w3, e3, r3, s3, g3⟩ := openD h3
 obtain ⟨n4, w4, e4, r4, s4, g4⟩ := openM h4
 obtain ⟨n5, w5, e5, r5, s5, g5⟩ := openJ h5
 obtain ⟨n6, w6, e6, r6, s6, g6⟩ := openYs h6
 simp only [List.cons.injEq, and_true] at e0 e1 e2 e3 e4 e5 e6
 subst e0 e1 e2 e3 e4 e5 e6
 refine ⟨⟨n0.data.toList, n1, n2, n3, n4, n5, n6⟩, ?_, ?_, ⟨g1, g2, g3, g4, g6⟩⟩
 ·simp only [Cl.cells]
  exact (RDs.app (v1 := [_]) (.one (.str _ _ rfl)) (RDs.app (v1 := [_]) (.one r1) (RDs.app (v1 := [_]) (.one r2) (RDs.app (v1 := [_]) (.one r3) (RDs.app (v1 := [_]) (.one r4) (RDs.app (v1 := [_]) (.one r5) (.one r6)))))))
 ·have b1 := bulk_pos x1.1
  have b2 := bulk_pos x2.1
  have b3 := bulk_pos x3.1
  have b4 := bulk_pos x4.1
  have b5 := bulk_pos x5.1
  have b6 := bulk_pos x6.1
  simp only [Cl.sz, szT, uptoBulk, uptoBulkAll, List.map_cons, List.map_nil]
  omega

theorem openC {f : Nat} {cs : List Value} {x : DataW H × List MemPlace} (h : DataW.trod enc Tryz.prog w 0 (fun _ => true) true f 23 cs = some x) : ∃ (l : List Cl) (v : Value), cs = [v] ∧ RD w noB (.slice (encC l)) v ∧ szC l ≤ 2 * (uptoBulk x.1 - 1) ∧ ∀ y, y ∈ l → y.ok := by
 obtain ⟨l, v, h1, h2, h3, h4, _⟩ := open_list Cl.cells Cl.sz (fun y => y.ok) 2 7 Tryz.underlying23 cz39 (by omega) (fun _ => rfl) (fun f' hf cs x hx => openCl hx) h
 exact ⟨l, v, h1, h2, h3, h4⟩

theorem openOc {f : Nat} {cs : List Value} {x : DataW H × List MemPlace} (h : DataW.trod enc Tryz.prog w 0 (fun _ => true) true f 25 cs = some x) : ∃ y : Oc, RDs w y.cells cs ∧ y.sz ≤ 2 * uptoBulk x.1 ∧ y.ok := by
 obtain ⟨xs, n, rfl, rfl, hl, hxl, hx⟩ := DataW.trod_struct Tryz.underlying25 h
 rw [cz25] at hl
 match cs, hl with
 | [v0, v1], _ =>
 have hxn : xs.length = 2 := hxl
 match xs, hxn with
 | [x0, x1], _ =>
 have h0 := hx 0 _ rfl
 have h1 := hx 1 _ rfl
 simp [cz22, cz23] at h0 h1
 obtain ⟨n0, w0, e0, r0, s0, g0⟩ := openE h0
 obtain ⟨n1, w1, e1, r1, s1, g1⟩ := openC h1
 simp only [List.cons.injEq, and_true] at e0 e1
 subst e0 e1
 refine ⟨⟨n0, n1⟩, ?_, ?_, g1⟩
 ·simp only [Oc.cells]
  exact (RDs.app (v1 := [_]) (.one r0) (.one r1))
 ·have b0 := bulk_pos x0.1
  have b1 := bulk_pos x1.1
  simp only [Oc.sz, szT, uptoBulk, uptoBulkAll, List.map_cons, List.map_nil]
  omega

end
end Go.Ac
end

section
set_option maxRecDepth 4000
namespace Go.Ac
open Go.Proofs

def inE (en : List En) (t : Int) : Bool := decide (3 ≤ t) && decide (t - 3 < en.length)
def eAt (en : List En) (t : Int) : En := if inE en t then en.getD (t - 3).toNat ⟨[], []⟩ else ⟨[], []⟩
def sizeE (en : List En) (t : Int) : Int := if t = 1 then 2 else if t = 2 then 65536 else (eAt en t).tags.length
def inW (v : Int) : Bool := decide (-32768 ≤ v) && decide (v ≤ 32767)
def hasE (en : List En) (t v : Int) : Bool := if t = 2 then inW v else decide (0 ≤ v) && decide (v < sizeE en t)
def knownE (en : List En) (t : Int) : Bool := decide (t = 1) || decide (t = 2) || inE en t
theorem I64.sub3 {t : Int} (h : I64 t) (h3 : 3 ≤ t) : IntKind.i64.wrap (t - 3) = t - 3 := by unfold I64 at h; rw [w_id'] <;> omega

theorem kf106 (r : Nat) : Ob.keep 106 r = Ob.k106 r := by kernel_rfl
theorem kf33 (r : Nat) : Ob.keep 33 r = Ob.k33 r := by kernel_rfl
theorem kf22 (r : Nat) : Ob.keep 22 r = Ob.k22 r := by kernel_rfl
theorem kf71 (r : Nat) : Ob.keep 71 r = Ob.k71 r := by kernel_rfl
theorem kf81 (r : Nat) : Ob.keep 81 r = Ob.k81 r := by kernel_rfl
theorem kf44 (r : Nat) : Ob.keep 44 r = Ob.k44 r := by kernel_rfl
theorem kf43 (r : Nat) : Ob.keep 43 r = Ob.k43 r := by kernel_rfl
theorem kf80 (r : Nat) : Ob.keep 80 r = Ob.k80 r := by kernel_rfl
theorem kf130 (r : Nat) : Ob.keep 130 r = Ob.k130 r := by kernel_rfl
theorem kf117 (r : Nat) : Ob.keep 117 r = Ob.k117 r := by kernel_rfl
attribute [local simp] kf106 Ob.k106 kf33 Ob.k33 kf22 Ob.k22 kf71 Ob.k71 kf81 Ob.k81 kf44 Ob.k44 kf43 Ob.k43 kf80 Ob.k80 kf130 Ob.k130 kf117 Ob.k117
theorem in38 (v : Int) : den Tryz.prog Ob.cfg 106 [dI v] = some (dB (inW v)) := by
 refine den_wp Tryz.func106 rfl (by kernel_rfl) rfl rfl ?_
 unfold inW
 by_cases h1 : -32768 ≤ v
 ·have h1' := eq_true h1
  refine wkc (jn @dI.eq_1 @h1') ?_
  exact ⟨.inr rfl, _, _, rfl, by simp [h1]; rfl⟩
 ·have h1' := eq_false h1
  refine wkc (jn @dI.eq_1 @h1') ?_
  exact ⟨.inr rfl, _, _, rfl, by simp [h1]; rfl⟩

set_option maxHeartbeats 1000000 in
theorem enum86 (en : List En) (t : Int) (ht : I64 t) : den Tryz.prog Ob.cfg 33 [dL (encE en), dI t] = some (.tuple [aG (eAt en t).cells, dB (inE en t)]) := by
 refine den_wp Tryz.func33 rfl (by kernel_rfl) rfl rfl ?_
 by_cases h1 : t < 3
 ·have h1' := eq_true h1
  have hi : inE en t = false := by unfold inE; rw [decide_eq_false (by omega)]; rfl
  unfold eAt
  rw [hi]
  refine wkc (jn @dI.eq_1 (jn @dL.eq_1 (jn @h1' (jn @fillV.eq_1 @fillV.eq_2)))) ?_
  exact ⟨.inr rfl, _, _, rfl, rfl⟩
 have h1' := eq_false h1
 have hw := ht.sub3 (by omega)
 by_cases h2 : t - 3 ≥ en.length
 ·have h2' : ((en.length : Int) ≤ t - 3) = True := eq_true h2
  have hi : inE en t = false := by unfold inE; rw [decide_eq_false (p := t - 3 < en.length) (by omega)]; simp
  unfold eAt
  rw [hi]
  refine wkc (jn @dI.eq_1 (jn @dL.eq_1 (jn @h1' (jn @h2' (jn @hw (jn @fillV.eq_1 @fillV.eq_2)))))) ?_
  exact ⟨.inr rfl, _, _, rfl, rfl⟩
 have h2' : ((en.length : Int) ≤ t - 3) = False := eq_false h2
 have hi : inE en t = true := by unfold inE; rw [decide_eq_true (p := 3 ≤ t) (by omega), decide_eq_true (by omega)]; rfl
 obtain ⟨k, hk⟩ : ∃ k : Nat, t - 3 = k := ⟨(t - 3).toNat, by omega⟩
 have hkl : k < en.length := by omega
 obtain ⟨y, hy, hym, hix⟩ := at_lt hkl
 have hy' := encE_at hy
 have he : eAt en t = y := by unfold eAt; rw [hi, hk]; simp [List.getD, hy]
 rw [hi, he]
 rw [hk] at h2'
 have hw := hw.trans hk
 refine wkc (jn @dI.eq_1 (jn @dL.eq_1 (jn @h1' (jn @h2' (jn @hw (jn @hix (jn @hy' @En.cells.eq_1))))))) ?_
 exact ⟨.inr rfl, _, _, rfl, rfl⟩

set_option maxHeartbeats 1000000 in
theorem size39 (en : List En) (t : Int) (ht : I64 t) : den Tryz.prog Ob.cfg 22 [dL (encE en), dI t] = some (dI (sizeE en t)) := by
 have h := enum86 en t ht
 simp only [aG, En.cells, List.map_cons, List.map_nil, dL, dI, dB] at h
 refine den_wp Tryz.func22 rfl (by kernel_rfl) rfl rfl ?_
 unfold sizeE
 by_cases h1 : t = 1
 ·subst h1
  refine wkc (jn @dI.eq_1 @dL.eq_1) ?_
  show retQ _ _ _ _ _
  exact ⟨.inr rfl, _, _, rfl, rfl⟩
 by_cases h2 : t = 2
 ·subst h2
  refine wkc (jn @dI.eq_1 @dL.eq_1) ?_
  show retQ _ _ _ _ _
  exact ⟨.inr rfl, _, _, rfl, rfl⟩
 rw [if_neg h1, if_neg h2]
 refine wkc (jn @dI.eq_1 (jn @dL.eq_1 (jn @h1 (jn @h2 (jn @int_beq @h))))) ?_
 show retQ _ _ _ _ _
 exact ⟨.inr rfl, _, _, rfl, rfl⟩

set_option maxHeartbeats 1000000 in
theorem size101 (en : List En) (t : Int) (ht : I64 t) : den Tryz.prog Ob.cfg 71 [dL (encE en), dI t] = some (dI (sizeE en t)) := by
 refine den_wp Tryz.func71 rfl (by kernel_rfl) rfl rfl ?_
 unfold sizeE
 by_cases h1 : t = 1
 ·subst h1
  refine wkc (jn @dI.eq_1 @dL.eq_1) ?_
  show retQ _ _ _ _ _
  exact ⟨.inr rfl, _, _, rfl, rfl⟩
 by_cases h2 : t = 2
 ·subst h2
  refine wkc (jn @dI.eq_1 @dL.eq_1) ?_
  show retQ _ _ _ _ _
  exact ⟨.inr rfl, _, _, rfl, rfl⟩
 rw [if_neg h1, if_neg h2]
 by_cases h3 : t < 3
 ·have h3' := eq_true h3
  have hi : inE en t = false := by unfold inE; rw [decide_eq_false (by omega)]; rfl
  unfold eAt
  rw [hi]
  refine wkc (jn @dI.eq_1 (jn @dL.eq_1 (jn @h1 (jn @h2 (jn @int_beq @h3'))))) ?_
  show retQ _ _ _ _ _
  exact ⟨.inr rfl, _, _, rfl, rfl⟩
 have h3' := eq_false h3
 have hw := ht.sub3 (by omega)
 by_cases h4 : t - 3 ≥ en.length
 ·have h4' : ((en.length : Int) ≤ t - 3) = True := eq_true h4
  have hi : inE en t = false := by unfold inE; rw [decide_eq_false (p := t - 3 < en.length) (by omega)]; simp
  unfold eAt
  rw [hi]
  refine wkc (jn @dI.eq_1 (jn @dL.eq_1 (jn @h1 (jn @h2 (jn @int_beq (jn @h3' (jn @h4' @hw))))))) ?_
  show retQ _ _ _ _ _
  exact ⟨.inr rfl, _, _, rfl, rfl⟩
 have h4' : ((en.length : Int) ≤ t - 3) = False := eq_false h4
 have hi : inE en t = true := by unfold inE; rw [decide_eq_true (p := 3 ≤ t) (by omega), decide_eq_true (by omega)]; rfl
 obtain ⟨k, hk⟩ : ∃ k : Nat, t - 3 = k := ⟨(t - 3).toNat, by omega⟩
 have hkl : k < en.length := by omega
 obtain ⟨y, hy, hym, hix⟩ := at_lt hkl
 have hy' := encE_at hy
 have he : eAt en t = y := by unfold eAt; rw [hi, hk]; simp [List.getD, hy]
 rw [he]
 rw [hk] at h4'
 have hw := hw.trans hk
 refine wkc (jn @dI.eq_1 (jn @dL.eq_1 (jn @h1 (jn @h2 (jn @int_beq (jn @h3' (jn @h4' (jn @hw (jn @hix (jn @hy' @En.cells.eq_1)))))))))) ?_
 show retQ _ _ _ _ _
 exact ⟨.inr rfl, _, _, rfl, rfl⟩

set_option maxHeartbeats 1000000 in
theorem has15 (en : List En) (t v : Int) (ht : I64 t) : den Tryz.prog Ob.cfg 81 [dL (encE en), dI t, dI v] = some (dB (hasE en t v)) := by
 have h := size39 en t ht
 have hw := in38 v
 simp only [dL, dI, dB] at h hw
 refine den_wp Tryz.func81 rfl (by kernel_rfl) rfl rfl ?_
 unfold hasE
 by_cases h1 : t = 2
 ·subst h1
  refine wkc (jn @dI.eq_1 (jn @dL.eq_1 @hw)) ?_
  show retQ _ _ _ _ _
  exact ⟨.inr rfl, _, _, rfl, rfl⟩
 rw [if_neg h1]
 by_cases h2 : 0 ≤ v
 ·have h2' := eq_true h2
  refine wkc (jn @dI.eq_1 (jn @dL.eq_1 (jn @h1 (jn @int_beq (jn @h2' @h))))) ?_
  exact ⟨.inr rfl, _, _, rfl, by simp [h2]; rfl⟩
 ·have h2' := eq_false h2
  refine wkc (jn @dI.eq_1 (jn @dL.eq_1 (jn @h1 (jn @int_beq (jn @h2' @h))))) ?_
  exact ⟨.inr rfl, _, _, rfl, by simp [h2]; rfl⟩
set_option maxHeartbeats 1000000 in
theorem has53 (en : List En) (t v : Int) (ht : I64 t) : den Tryz.prog Ob.cfg 44 [dL (encE en), dI t, dI v] = some (dB (hasE en t v)) := by
 have h := size101 en t ht
 simp only [dL, dI, dB] at h
 refine den_wp Tryz.func44 rfl (by kernel_rfl) rfl rfl ?_
 unfold hasE
 by_cases h1 : t = 2
 ·subst h1
  unfold inW
  by_cases h2 : -32768 ≤ v
  ·have h2' := eq_true h2
   refine wkc (jn @dI.eq_1 (jn @dL.eq_1 @h2')) ?_
   exact ⟨.inr rfl, _, _, rfl, by simp [h2]; rfl⟩
  ·have h2' := eq_false h2
   refine wkc (jn @dI.eq_1 (jn @dL.eq_1 @h2')) ?_
   exact ⟨.inr rfl, _, _, rfl, by simp [h2]; rfl⟩
 rw [if_neg h1]
 by_cases h2 : 0 ≤ v
 ·have h2' := eq_true h2
  refine wkc (jn @dI.eq_1 (jn @dL.eq_1 (jn @h1 (jn @int_beq (jn @h2' @h))))) ?_
  exact ⟨.inr rfl, _, _, rfl, by simp [h2]; rfl⟩
 ·have h2' := eq_false h2
  refine wkc (jn @dI.eq_1 (jn @dL.eq_1 (jn @h1 (jn @int_beq (jn @h2' @h))))) ?_
  exact ⟨.inr rfl, _, _, rfl, by simp [h2]; rfl⟩
theorem known73 (en : List En) (t : Int) (ht : I64 t) : den Tryz.prog Ob.cfg 43 [dL (encE en), dI t] = some (dB (decide (0 < sizeE en t))) := by
 have h := size101 en t ht
 simp only [dL, dI, dB] at h
 refine den_wp Tryz.func43 rfl (by kernel_rfl) rfl rfl ?_
 refine wkc (jn @dI.eq_1 (jn @dL.eq_1 @h)) ?_
 show retQ _ _ _ _ _
 exact ⟨.inr rfl, _, _, rfl, rfl⟩
set_option maxHeartbeats 1000000 in
theorem name106 (en : List En) (t : Int) (ht : I64 t) : ∃ s : Tx, den Tryz.prog Ob.cfg 80 [dL (encE en), dI t] = some (.tuple [dS s, dB (knownE en t)]) := by
 have h := enum86 en t ht
 simp only [aG, En.cells, List.map_cons, List.map_nil, dL, dI, dB] at h
 refine den_ex (F := fun s => .tuple [dS s, dB (knownE en t)]) Tryz.func80 rfl (by kernel_rfl) rfl (fun _ => rfl) ?_
 by_cases h1 : t = 1
 ·subst h1
  rw [show knownE en 1 = true by simp [knownE]]
  refine wkc (jn @dI.eq_1 @dL.eq_1) ?_
  exact ⟨_, .inr rfl, _, _, rfl, rfl⟩
 by_cases h2 : t = 2
 ·subst h2
  rw [show knownE en 2 = true by simp [knownE]]
  refine wkc (jn @dI.eq_1 @dL.eq_1) ?_
  exact ⟨_, .inr rfl, _, _, rfl, rfl⟩
 rw [show knownE en t = inE en t by simp [knownE, h1, h2]]
 refine wkc (jn @dI.eq_1 (jn @dL.eq_1 (jn @h1 (jn @h2 (jn @int_beq @h))))) ?_
 exact ⟨(eAt en t).nm, .inr rfl, _, _, rfl, rfl⟩
def arE (o : Int) : Int := if o = 1 ∨ o = 2 then 1 else if 2 < o ∧ o ≤ 16 then 2 else 0
theorem ar166 (o : Int) : den Tryz.prog Ob.cfg 130 [dI o] = some (dI (arE o)) := by
 refine den_wp Tryz.func130 rfl (by kernel_rfl) rfl rfl ?_
 unfold arE
 by_cases h1 : o = 1
 ·subst h1
  refine wkc (@dI.eq_1) ?_
  show retQ _ _ _ _ _
  exact ⟨.inr rfl, _, _, rfl, rfl⟩
 by_cases h2 : o = 2
 ·subst h2
  refine wkc (@dI.eq_1) ?_
  show retQ _ _ _ _ _
  exact ⟨.inr rfl, _, _, rfl, rfl⟩
 rw [if_neg (by omega)]
 by_cases h3 : 2 < o
 ·have h3' := eq_true h3
  by_cases h4 : o ≤ 16
  ·have h4' := eq_true h4
   rw [if_pos ⟨h3, h4⟩]
   refine wkc (jn @dI.eq_1 (jn @h1 (jn @h2 (jn @int_beq (jn @h3' @h4'))))) ?_
   show retQ _ _ _ _ _
   exact ⟨.inr rfl, _, _, rfl, rfl⟩
  ·have h4' := eq_false h4
   rw [if_neg (fun h => h4 h.2)]
   refine wkc (jn @dI.eq_1 (jn @h1 (jn @h2 (jn @int_beq (jn @h3' @h4'))))) ?_
   show retQ _ _ _ _ _
   exact ⟨.inr rfl, _, _, rfl, rfl⟩
 ·have h3' := eq_false h3
  rw [if_neg (fun h => h3 h.1)]
  refine wkc (jn @dI.eq_1 (jn @h1 (jn @h2 (jn @int_beq @h3')))) ?_
  show retQ _ _ _ _ _
  exact ⟨.inr rfl, _, _, rfl, rfl⟩
theorem ar159 (o : Int) : den Tryz.prog Ob.cfg 117 [dI o] = some (dI (arE o)) := by
 have h := ar166 o
 simp only [dI] at h
 refine den_wp Tryz.func117 rfl (by kernel_rfl) rfl rfl ?_
 refine wkc (jn @dI.eq_1 @h) ?_
 show retQ _ _ _ _ _
 exact ⟨.inr rfl, _, _, rfl, rfl⟩
end Go.Ac
end

section
set_option maxRecDepth 4000
namespace Go.Ac
open Go.Proofs

theorem find_hit {α : Type} {p : α → Bool} : ∀ {l : List α} {j : Nat} {d : α}, (l.take j).all (fun a => !p a) = true → l[j]? = some d → p d = true → l.find? p = some d
 | a :: l, 0, d, _, h, hp => by simp at h; subst h; simp [hp]
 | a :: l, j + 1, d, hn, h, hp => by
  simp only [List.take_succ_cons, List.all_cons, Bool.and_eq_true] at hn
  have ha : p a = false := by simpa using hn.1
  simp only [List.find?_cons, ha]
  exact find_hit hn.2 (by simpa using h) hp
 | [], j, d, _, h, _ => by simp at h
theorem find_none {α : Type} {p : α → Bool} : ∀ {l : List α}, l.all (fun a => !p a) = true → l.find? p = none
 | [], _ => rfl
 | a :: l, h => by
  simp only [List.all_cons, Bool.and_eq_true] at h
  have ha : p a = false := by simpa using h.1
  simp only [List.find?_cons, ha]
  exact find_none h.2
theorem all_snoc {α : Type} {p : α → Bool} {l : List α} {j : Nat} {x : α} (h : l[j]? = some x) : (l.take (j + 1)).all p = ((l.take j).all p && p x) := by
 rw [List.take_add_one, h]; simp
/-- Where one is in a class. -/
structure Pr where
 nm : Tx
 br : Nat
def Pr.cells (x : Pr) : List D := [.str x.nm, .int .i64 x.br]
def encP (l : List Pr) : List (List D) := l.map Pr.cells
theorem encP_len (l : List Pr) : (encP l).length = l.length := by simp [encP]
theorem encP_at {l : List Pr} {i : Nat} {y : Pr} (h : l[i]? = some y) : (encP l)[i]? = some y.cells := by unfold encP; simp [h]
attribute [simp] encP_len
structure Pl where
 o : Oc
 c : Cl
 bf : List Y
 cx : List Pr
def Pl.cells (x : Pl) : List D := [.slice (encE x.o.en), .slice (encC x.o.cl), .str x.c.nm, .slice (encD x.c.inn), .slice (encD x.c.out), .slice (encD x.c.loc), .slice (encM x.c.mems), .slice (encJ x.c.ins), .slice (encY x.c.step), .slice (encY x.bf), .slice (encP x.cx)]
def findD (l : List Dc) (x : Tx) : Int := match l.find? (fun d => decide (d.nm = x)) with | some d => d.t | none => 0
def findM (l : List Mm) (x : Tx) : Int := match l.find? (fun d => decide (d.nm = x)) with | some d => d.t | none => 0
def clZ : Cl := ⟨[], [], [], [], [], [], []⟩
def findC (l : List Cl) (x : Tx) : Cl × Bool := match l.find? (fun d => decide (d.nm = x)) with | some d => (d, true) | none => (clZ, false)
def findI (l : List Ii) (cs : List Cl) (x : Tx) : Cl × Bool := match l.find? (fun d => decide (d.nm = x)) with | some d => findC cs d.cl | none => (clZ, false)

theorem kf46 (r : Nat) : Ob.keep 46 r = Ob.k46 r := by kernel_rfl
attribute [local simp] kf46 Ob.k46
set_option maxHeartbeats 1000000 in
theorem has75 (l : List Tx) (x : Tx) (hl : l.length ≤ MX) : den Tryz.prog Ob.cfg 46 [dL (encS l), dS x] = some (dB (decide (x ∈ l))) := by
 unfold MX at hl
 refine den_wp Tryz.func46 rfl (by kernel_rfl) rfl rfl ?_
 refine wkc (jn @dL.eq_1 @dS.eq_1) ?_
 apply WP.loop' (I := fun D s => ∃ j : Nat, j + D = l.length ∧ (l.take j).all (fun d : Tx => !decide (d = x)) = true ∧ SE [(0, dL (encS l)), (1, dS x), (5, dI j)] [] 0 s) (d := l.length)
 ·exact ⟨0, by simp, by simp, SE.mk (by simp [dI, dL, dS]) (by simp)⟩
 rintro D _ ⟨j, hj, hno, cc, rfl⟩
 refine wk (jn @dI.eq_1 (jn @dL.eq_1 @dS.eq_1)) ?_
 show WP _ _ _ _ _ _
 refine WP.cond _ rfl (fun hb => ?_) (fun hb => ?_)
 ·simp at hb
  have hb' : j < l.length := by omega
  obtain ⟨d, hd, hdm, hix⟩ := at_lt hb'
  have hd' := encS_at hd
  have hw := w_succ hb' (by omega)
  have hs := all_snoc (p := fun d : Tx => !decide (d = x)) hd
  by_cases hq : d = x
  ·have hq' := eq_true hq
   have hf := find_hit (p := fun d : Tx => decide (d = x)) hno hd (decide_eq_true hq)
   have hm : decide (x ∈ l) = true := decide_eq_true (by rw [← hq]; exact hdm)
   rw [hm]
   refine wkc (jn @dI.eq_1 (jn @dL.eq_1 (jn @dS.eq_1 (jn @hix (jn @hd' (jn @tx_beq @hq')))))) ?_
   show retQ _ _ _ _ _
   exact ⟨.inr rfl, _, _, rfl, rfl⟩
  ·have hq' := eq_false hq
   refine wkc (jn @dI.eq_1 (jn @dL.eq_1 (jn @dS.eq_1 (jn @hix (jn @hd' (jn @tx_beq @hq')))))) ?_
   refine loop_next (by simp [hw]; exact Is.rfl) ?_
   exact ⟨D - 1, by omega, j + 1, by omega, by rw [hs, hno, decide_eq_false hq]; rfl, SE.mk (by simp [dI, dL, dS, hw]) (by simp)⟩
 ·simp at hb
  have hje : j = l.length := by omega
  rw [hje, List.take_length] at hno
  have hf := find_none (p := fun d : Tx => decide (d = x)) hno
  have hm : decide (x ∈ l) = false := decide_eq_false (fun h => by have := List.all_eq_true.1 hno x h; simp at this)
  rw [hm]
  refine wkc (jn @dI.eq_1 (jn @dL.eq_1 (jn @dS.eq_1 (jn @fillV.eq_1 @fillV.eq_2)))) ?_
  show retQ _ _ _ _ _
  exact ⟨.inr rfl, _, _, rfl, rfl⟩

theorem kf119 (r : Nat) : Ob.keep 119 r = Ob.k119 r := by kernel_rfl
attribute [local simp] kf119 Ob.k119
set_option maxHeartbeats 1000000 in
theorem find161 (l : List Dc) (x : Tx) (hl : l.length ≤ MX) : den Tryz.prog Ob.cfg 119 [dL (encD l), dS x] = some (dI (findD l x)) := by
 unfold MX at hl
 refine den_wp Tryz.func119 rfl (by kernel_rfl) rfl rfl ?_
 refine wkc (jn @dL.eq_1 @dS.eq_1) ?_
 apply WP.loop' (I := fun D s => ∃ j : Nat, j + D = l.length ∧ (l.take j).all (fun d : Dc => !decide (d.nm = x)) = true ∧ SE [(0, dL (encD l)), (1, dS x), (5, dI j)] [] 0 s) (d := l.length)
 ·exact ⟨0, by simp, by simp, SE.mk (by simp [dI, dL, dS]) (by simp)⟩
 rintro D _ ⟨j, hj, hno, cc, rfl⟩
 refine wk (jn @dI.eq_1 (jn @dL.eq_1 @dS.eq_1)) ?_
 show WP _ _ _ _ _ _
 refine WP.cond _ rfl (fun hb => ?_) (fun hb => ?_)
 ·simp at hb
  have hb' : j < l.length := by omega
  obtain ⟨d, hd, hdm, hix⟩ := at_lt hb'
  have hd' := encD_at hd
  have hw := w_succ hb' (by omega)
  have hs := all_snoc (p := fun d : Dc => !decide (d.nm = x)) hd
  by_cases hq : d.nm = x
  ·have hq' := eq_true hq
   have hf := find_hit (p := fun d : Dc => decide (d.nm = x)) hno hd (decide_eq_true hq)
   have hm : findD l x = d.t := by unfold findD; rw [hf]
   rw [hm]
   refine wkc (jn @dI.eq_1 (jn @dL.eq_1 (jn @dS.eq_1 (jn @hix (jn @hd' (jn @tx_beq (jn @hq' @Dc.cells.eq_1))))))) ?_
   show retQ _ _ _ _ _
   exact ⟨.inr rfl, _, _, rfl, rfl⟩
  ·have hq' := eq_false hq
   refine wkc (jn @dI.eq_1 (jn @dL.eq_1 (jn @dS.eq_1 (jn @hix (jn @hd' (jn @tx_beq (jn @hq' @Dc.cells.eq_1))))))) ?_
   refine loop_next (by simp [hw]; exact Is.rfl) ?_
   exact ⟨D - 1, by omega, j + 1, by omega, by rw [hs, hno, decide_eq_false hq]; rfl, SE.mk (by simp [dI, dL, dS, hw]) (by simp)⟩
 ·simp at hb
  have hje : j = l.length := by omega
  rw [hje, List.take_length] at hno
  have hf := find_none (p := fun d : Dc => decide (d.nm = x)) hno
  have hm : findD l x = 0 := by unfold findD; rw [hf]
  rw [hm]
  refine wkc (jn @dI.eq_1 (jn @dL.eq_1 (jn @dS.eq_1 (jn @fillV.eq_1 @fillV.eq_2)))) ?_
  show retQ _ _ _ _ _
  exact ⟨.inr rfl, _, _, rfl, rfl⟩

theorem kf75 (r : Nat) : Ob.keep 75 r = Ob.k75 r := by kernel_rfl
attribute [local simp] kf75 Ob.k75
set_option maxHeartbeats 1000000 in
theorem mem117 (w : Pl) (x : Tx) (hl : w.c.mems.length ≤ MX) : den Tryz.prog Ob.cfg 75 [aG w.cells, dS x] = some (dI (findM w.c.mems x)) := by
 unfold MX at hl
 refine den_wp Tryz.func75 rfl (by kernel_rfl) rfl rfl ?_
 refine wkc (jn @aG.eq_1 (jn @Pl.cells.eq_1 (jn @dL.eq_1 @dS.eq_1))) ?_
 apply WP.loop' (I := fun D s => ∃ j : Nat, j + D = w.c.mems.length ∧ (w.c.mems.take j).all (fun d : Mm => !decide (d.nm = x)) = true ∧ SE [(1, dS x), (2, .ptr 0 0 0), (5, dI j)] [(0, ⟨0, false, w.cells.map .d⟩)] 1 s) (d := w.c.mems.length)
 ·exact ⟨0, by simp, by simp, SE.mk (by simp [dI, dL, dS]) (by simp [Pl.cells])⟩
 rintro D _ ⟨j, hj, hno, cc, rfl⟩
 refine wk (jn @dI.eq_1 (jn @dL.eq_1 (jn @dS.eq_1 @Pl.cells.eq_1))) ?_
 show WP _ _ _ _ _ _
 refine WP.cond _ rfl (fun hb => ?_) (fun hb => ?_)
 ·simp at hb
  have hb' : j < w.c.mems.length := by omega
  obtain ⟨d, hd, hdm, hix⟩ := at_lt hb'
  have hd' := encM_at hd
  have hw := w_succ hb' (by omega)
  have hs := all_snoc (p := fun d : Mm => !decide (d.nm = x)) hd
  by_cases hq : d.nm = x
  ·have hq' := eq_true hq
   have hf := find_hit (p := fun d : Mm => decide (d.nm = x)) hno hd (decide_eq_true hq)
   have hm : findM w.c.mems x = d.t := by unfold findM; rw [hf]
   rw [hm]
   refine wkc (jn @dI.eq_1 (jn @dL.eq_1 (jn @dS.eq_1 (jn @hix (jn @hd' (jn @tx_beq (jn @hq' (jn @Mm.cells.eq_1 @Pl.cells.eq_1)))))))) ?_
   show retQ _ _ _ _ _
   exact ⟨.inr rfl, _, _, rfl, rfl⟩
  ·have hq' := eq_false hq
   refine wkc (jn @dI.eq_1 (jn @dL.eq_1 (jn @dS.eq_1 (jn @hix (jn @hd' (jn @tx_beq (jn @hq' (jn @Mm.cells.eq_1 @Pl.cells.eq_1)))))))) ?_
   refine loop_next (by simp [hw]; exact Is.rfl) ?_
   exact ⟨D - 1, by omega, j + 1, by omega, by rw [hs, hno, decide_eq_false hq]; rfl, SE.mk (by simp [dI, dL, dS, hw]) (by simp [Pl.cells])⟩
 ·simp at hb
  have hje : j = w.c.mems.length := by omega
  rw [hje, List.take_length] at hno
  have hf := find_none (p := fun d : Mm => decide (d.nm = x)) hno
  have hm : findM w.c.mems x = 0 := by unfold findM; rw [hf]
  rw [hm]
  refine wkc (jn @dI.eq_1 (jn @dL.eq_1 (jn @dS.eq_1 (jn @Pl.cells.eq_1 (jn @fillV.eq_1 @fillV.eq_2))))) ?_
  show retQ _ _ _ _ _
  exact ⟨.inr rfl, _, _, rfl, rfl⟩

theorem kf47 (r : Nat) : Ob.keep 47 r = Ob.k47 r := by kernel_rfl
attribute [local simp] kf47 Ob.k47
set_option maxHeartbeats 1000000 in
theorem class51 (o : Oc) (x : Tx) (hl : o.cl.length ≤ MX) : den Tryz.prog Ob.cfg 47 [aG o.cells, dS x] = some (.tuple [aG (findC o.cl x).1.cells, dB (findC o.cl x).2]) := by
 unfold MX at hl
 refine den_wp Tryz.func47 rfl (by kernel_rfl) rfl rfl ?_
 refine wkc (jn @aG.eq_1 (jn @Oc.cells.eq_1 (jn @dL.eq_1 @dS.eq_1))) ?_
 apply WP.loop' (I := fun D s => ∃ j : Nat, j + D = o.cl.length ∧ (o.cl.take j).all (fun d : Cl => !decide (d.nm = x)) = true ∧ SE [(1, dS x), (2, .ptr 0 0 0), (4, .ptr 1 1 0), (6, dI j)] [(0, ⟨0, false, o.cells.map .d⟩), (1, ⟨1, false, [.d (.str []), .full [], .full [], .full [], .full [], .full [], .full []]⟩)] 2 s) (d := o.cl.length)
 ·exact ⟨0, by simp, by simp, SE.mk (by simp [dI, dL, dS]) (by simp [Oc.cells])⟩
 rintro D _ ⟨j, hj, hno, cc, rfl⟩
 refine wk (jn @dI.eq_1 (jn @dL.eq_1 (jn @dS.eq_1 @Oc.cells.eq_1))) ?_
 show WP _ _ _ _ _ _
 refine WP.cond _ rfl (fun hb => ?_) (fun hb => ?_)
 ·simp at hb
  have hb' : j < o.cl.length := by omega
  obtain ⟨d, hd, hdm, hix⟩ := at_lt hb'
  have hd' := encC_at hd
  have hw := w_succ hb' (by omega)
  have hs := all_snoc (p := fun d : Cl => !decide (d.nm = x)) hd
  by_cases hq : d.nm = x
  ·have hq' := eq_true hq
   have hf := find_hit (p := fun d : Cl => decide (d.nm = x)) hno hd (decide_eq_true hq)
   have hm : findC o.cl x = (d, true) := by unfold findC; rw [hf]
   rw [hm]
   refine wkc (jn @dI.eq_1 (jn @dL.eq_1 (jn @dS.eq_1 (jn @hix (jn @hd' (jn @tx_beq (jn @hq' (jn @Cl.cells.eq_1 @Oc.cells.eq_1)))))))) ?_
   exact ⟨.inr rfl, _, _, rfl, rfl⟩
  ·have hq' := eq_false hq
   refine wkc (jn @dI.eq_1 (jn @dL.eq_1 (jn @dS.eq_1 (jn @hix (jn @hd' (jn @tx_beq (jn @hq' (jn @Cl.cells.eq_1 @Oc.cells.eq_1)))))))) ?_
   refine loop_next (by simp [hw]; exact Is.rfl) ?_
   exact ⟨D - 1, by omega, j + 1, by omega, by rw [hs, hno, decide_eq_false hq]; rfl, SE.mk (by simp [dI, dL, dS, hw]) (by simp [Oc.cells])⟩
 ·simp at hb
  have hje : j = o.cl.length := by omega
  rw [hje, List.take_length] at hno
  have hf := find_none (p := fun d : Cl => decide (d.nm = x)) hno
  have hm : findC o.cl x = (clZ, false) := by unfold findC; rw [hf]
  rw [hm]
  refine wkc (jn @dI.eq_1 (jn @dL.eq_1 (jn @dS.eq_1 (jn @Oc.cells.eq_1 (jn @fillV.eq_1 @fillV.eq_2))))) ?_
  exact ⟨.inr rfl, _, _, rfl, rfl⟩

theorem kf78 (r : Nat) : Ob.keep 78 r = Ob.k78 r := by kernel_rfl
attribute [local simp] kf78 Ob.k78
set_option maxHeartbeats 1000000 in
theorem callee120 (w : Pl) (x : Tx) (hl : w.c.ins.length ≤ MX) (hl2 : w.o.cl.length ≤ MX) : den Tryz.prog Ob.cfg 78 [aG w.cells, dS x] = some (.tuple [aG (findI w.c.ins w.o.cl x).1.cells, dB (findI w.c.ins w.o.cl x).2]) := by
 have hc := fun y => class51 w.o y hl2
 simp only [aG, Oc.cells, Cl.cells, List.map_cons, List.map_nil, dS, dB] at hc
 unfold MX at hl
 refine den_wp Tryz.func78 rfl (by kernel_rfl) rfl rfl ?_
 refine wkc (jn @aG.eq_1 (jn @Pl.cells.eq_1 (jn @dL.eq_1 @dS.eq_1))) ?_
 apply WP.loop' (I := fun D s => ∃ j : Nat, j + D = w.c.ins.length ∧ (w.c.ins.take j).all (fun d : Ii => !decide (d.nm = x)) = true ∧ SE [(1, dS x), (2, .ptr 0 0 0), (4, .ptr 1 1 0), (6, dI j)] [(0, ⟨0, false, w.cells.map .d⟩), (1, ⟨1, false, [.d (.str []), .full [], .full [], .full [], .full [], .full [], .full []]⟩)] 2 s) (d := w.c.ins.length)
 ·exact ⟨0, by simp, by simp, SE.mk (by simp [dI, dL, dS]) (by simp [Pl.cells])⟩
 rintro D _ ⟨j, hj, hno, cc, rfl⟩
 refine wk (jn @dI.eq_1 (jn @dL.eq_1 (jn @dS.eq_1 @Pl.cells.eq_1))) ?_
 show WP _ _ _ _ _ _
 refine WP.cond _ rfl (fun hb => ?_) (fun hb => ?_)
 ·simp at hb
  have hb' : j < w.c.ins.length := by omega
  obtain ⟨d, hd, hdm, hix⟩ := at_lt hb'
  have hd' := encJ_at hd
  have hw := w_succ hb' (by omega)
  have hs := all_snoc (p := fun d : Ii => !decide (d.nm = x)) hd
  by_cases hq : d.nm = x
  ·have hq' := eq_true hq
   have hf := find_hit (p := fun d : Ii => decide (d.nm = x)) hno hd (decide_eq_true hq)
   have hm : findI w.c.ins w.o.cl x = findC w.o.cl d.cl := by unfold findI; rw [hf]
   rw [hm]
   refine wkc (jn @dI.eq_1 (jn @dL.eq_1 (jn @dS.eq_1 (jn @hix (jn @hd' (jn @tx_beq (jn @hq' (jn @Ii.cells.eq_1 (jn @Pl.cells.eq_1 @hc))))))))) ?_
   exact ⟨.inr rfl, _, _, rfl, rfl⟩
  ·have hq' := eq_false hq
   refine wkc (jn @dI.eq_1 (jn @dL.eq_1 (jn @dS.eq_1 (jn @hix (jn @hd' (jn @tx_beq (jn @hq' (jn @Ii.cells.eq_1 @Pl.cells.eq_1)))))))) ?_
   refine loop_next (by simp [hw]; exact Is.rfl) ?_
   exact ⟨D - 1, by omega, j + 1, by omega, by rw [hs, hno, decide_eq_false hq]; rfl, SE.mk (by simp [dI, dL, dS, hw]) (by simp [Pl.cells])⟩
 ·simp at hb
  have hje : j = w.c.ins.length := by omega
  rw [hje, List.take_length] at hno
  have hf := find_none (p := fun d : Ii => decide (d.nm = x)) hno
  have hm : findI w.c.ins w.o.cl x = (clZ, false) := by unfold findI; rw [hf]
  rw [hm]
  refine wkc (jn @dI.eq_1 (jn @dL.eq_1 (jn @dS.eq_1 (jn @Pl.cells.eq_1 (jn @fillV.eq_1 @fillV.eq_2))))) ?_
  exact ⟨.inr rfl, _, _, rfl, rfl⟩

def setT (c : Cl) (x : Tx) : Int := if findD c.out x = 0 then findD c.loc x else findD c.out x
def getT (c : Cl) (x : Tx) : Int := if findD c.inn x = 0 then setT c x else findD c.inn x
theorem kf103 (r : Nat) : Ob.keep 103 r = Ob.k103 r := by kernel_rfl
theorem kf104 (r : Nat) : Ob.keep 104 r = Ob.k104 r := by kernel_rfl
attribute [local simp] kf103 Ob.k103 kf104 Ob.k104
set_option maxHeartbeats 1000000 in
theorem set145 (w : Pl) (x : Tx) (h1 : w.c.out.length ≤ MX) (h2 : w.c.loc.length ≤ MX) : den Tryz.prog Ob.cfg 103 [aG w.cells, dS x] = some (dI (setT w.c x)) := by
 have a1 := find161 w.c.out x h1
 have a2 := find161 w.c.loc x h2
 simp only [dL, dS, dI] at a1 a2
 refine den_wp Tryz.func103 rfl (by kernel_rfl) rfl rfl ?_
 unfold setT
 by_cases h : findD w.c.out x = 0
 ·rw [if_pos h]
  rw [h] at a1
  refine wkc (jn @aG.eq_1 (jn @Pl.cells.eq_1 (jn @dL.eq_1 (jn @dS.eq_1 (jn @a1 @a2))))) ?_
  show retQ _ _ _ _ _
  exact ⟨.inr rfl, _, _, rfl, rfl⟩
 ·rw [if_neg h]
  refine wkc (jn @aG.eq_1 (jn @Pl.cells.eq_1 (jn @dL.eq_1 (jn @dS.eq_1 (jn @a1 (jn @h @int_beq)))))) ?_
  show retQ _ _ _ _ _
  exact ⟨.inr rfl, _, _, rfl, rfl⟩
set_option maxHeartbeats 1000000 in
theorem get146 (w : Pl) (x : Tx) (h1 : w.c.out.length ≤ MX) (h2 : w.c.loc.length ≤ MX) (h3 : w.c.inn.length ≤ MX) : den Tryz.prog Ob.cfg 104 [aG w.cells, dS x] = some (dI (getT w.c x)) := by
 have a1 := find161 w.c.inn x h3
 have a2 := set145 w x h1 h2
 simp only [aG, Pl.cells, List.map_cons, List.map_nil, dL, dS, dI] at a1 a2
 refine den_wp Tryz.func104 rfl (by kernel_rfl) rfl rfl ?_
 unfold getT
 by_cases h : findD w.c.inn x = 0
 ·rw [if_pos h]
  rw [h] at a1
  refine wkc (jn @aG.eq_1 (jn @Pl.cells.eq_1 (jn @dL.eq_1 (jn @dS.eq_1 (jn @a1 @a2))))) ?_
  show retQ _ _ _ _ _
  exact ⟨.inr rfl, _, _, rfl, rfl⟩
 ·rw [if_neg h]
  refine wkc (jn @aG.eq_1 (jn @Pl.cells.eq_1 (jn @dL.eq_1 (jn @dS.eq_1 (jn @a1 (jn @h @int_beq)))))) ?_
  show retQ _ _ _ _ _
  exact ⟨.inr rfl, _, _, rfl, rfl⟩
end Go.Ac
end
