/- From the given reading of the arguments to images and rows as data. -/
import Derived.Test.YtofhhkkncaoneaaDoorAcBM
import Derived.Test.YtofhhkkncaoneaaDoorAcDM
import Derived.Test.YtofhhkkncaoneaaDoorAcGM
import Derived.Test.YtofhhkkncaoneaaDoorAcJM
import Derived.Test.YtofhhkkncaoneaaDoorAcMM
import Derived.Test.YtofhhkkncaoneaaDoorAcOM
import Derived.Test.YtofhhkkncaoneaaDoorAcSM
import Derived.Test.YtofhhkkncaoneaaDoorAcXM
import Derived.Test.YtofhhkkncaoneaaDoorAcUcM
import Derived.Test.YtofhhkkncaoneaaDoorAcThM
import Derived.Test.YtofhhkkncaoneaaDoorCpBM
import Derived.Test.YtofhhkkncaoneaaDoorRows
import Derived.Deep.Slices
import Derived.ChangeArms
import Derived.RowKit3
import Derived.ReadAgain
import Derived.ChangeStays
import Derived.Calls
import Derived.Orders
import Derived.Laws.World
import Derived.Laws.Sem
import Derived.Laws.Cells
import Derived.Laws.Append
import GoSem.ClaimData
import Derived.Laws.Tables
import Derived.Laws.Slices
import Derived.Laws.Strings
import Derived.Laws.Small
import Derived.KernelRfl
import Derived.Test.YtofhhkkncaoneaaDoorChecked
set_option linter.unusedVariables false
set_option linter.unusedSimpArgs false
set_option maxRecDepth 4000
set_option linter.unusedSimpArgs false
set_option linter.unusedVariables false
namespace Go.Ac
open Go.Proofs Go.ChangeShapes Go.WideShapes Go.RowKit
open Go.Proofs.YtofhhkkncaoneaaDoor.Rows (uptoBulk uptoBulkAll)

abbrev noB : Nat → Prop := fun _ => False

def RDs (w : World) (ds : List D) (cs : List Value) : Prop := ds.length = cs.length ∧ ∀ (j : Nat) d v, ds[j]? = some d → cs[j]? = some v → RD w noB d v

theorem bulk_pos {H : Type} (d : DataW H) : 1 ≤ uptoBulk d := by
  cases d with
  | lit l => cases l <;> simp [uptoBulk]
  | nil => simp [uptoBulk]
  | ptr d => simp [uptoBulk]
  | slice elems spare => simp [uptoBulk]
  | agg parts => simp [uptoBulk]
  | iface t d => simp [uptoBulk]
  | map entries => simp [uptoBulk]
  | held h => simp [uptoBulk]

section
variable {H : Type} {enc : TypeId × Value → H} {w : World}

theorem choose_list {α : Type} [Inhabited α] (p : Nat → α → Prop) (n : Nat) (h : ∀ i, i < n → ∃ x, p i x) : ∃ l : List α, l.length = n ∧ ∀ i x, l[i]? = some x → p i x := by
  have : ∀ i, ∃ x, i < n → p i x := fun i => by
    by_cases hi : i < n
    · obtain ⟨x, hx⟩ := h i hi; exact ⟨x, fun _ => hx⟩
    · exact ⟨default, fun h => absurd h hi⟩
  obtain ⟨f, hf⟩ := Classical.axiomOfChoice this
  refine ⟨(List.range n).map f, by simp, fun i x hi => ?_⟩
  rw [List.getElem?_map] at hi
  by_cases hin : i < n
  · rw [List.getElem?_range hin] at hi
    simp at hi
    subst hi
    exact hf i hin
  · rw [List.getElem?_eq_none (by simp; omega)] at hi
    simp at hi

theorem sum_le {α : Type} (sz : α → Nat) (K : Nat) : ∀ (l : List α) (es : List (DataW H × List MemPlace)), l.length = es.length → (∀ (i : Nat) x e, l[i]? = some x → es[i]? = some e → sz x ≤ K * uptoBulk e.1) → (l.map sz).sum ≤ K * uptoBulkAll (es.map (·.1))
  | [], es, h, _ => by simp
  | x :: l, [], h, _ => by simp at h
  | x :: l, e :: es, h, hi => by
    have h1 := hi 0 x e rfl rfl
    have h2 := sum_le sz K l es (by simpa using h) (fun i x e hx he => hi (i + 1) x e (by simpa using hx) (by simpa using he))
    simp only [List.map_cons, List.sum_cons, uptoBulkAll, Nat.mul_add]
    omega

theorem open_list {α : Type} [Inhabited α] (en : α → List D) (sz : α → Nat) (Pr : α → Prop) (K n : Nat) {t e fuel : Nat} {cs : List Value} {x : DataW H × List MemPlace} (ht : Tryd.prog.underlying t = some (.slice e)) (hc : Tryd.prog.cellsOf e = n) (hn : 0 < n) (hlen : ∀ y, (en y).length = n)
    (hel : ∀ fuel', fuel' < fuel → ∀ cs x, DataW.trod enc Tryd.prog w 0 (fun _ => true) true fuel' e cs = some x → ∃ y, RDs w (en y) cs ∧ sz y ≤ K * uptoBulk x.1 ∧ Pr y)
    (h : DataW.trod enc Tryd.prog w 0 (fun _ => true) true fuel t cs = some x) : ∃ (l : List α) (v : Value), cs = [v] ∧ RD w noB (.slice (l.map en)) v ∧ (l.map sz).sum ≤ K * (uptoBulk x.1 - 1) ∧ (∀ y, y ∈ l → Pr y) ∧ l.length ≤ uptoBulk x.1 - 1 := by
  rcases DataW.trod_slice ht h with ⟨rfl, rfl⟩ | ⟨a, len, cap, elems, rest, m, rfl, rfl, rfl, hb, hl, hm, hlen2, hel2, _, _⟩
  · exact ⟨[], _, rfl, .empty none 0 (Nat.zero_le _), by simp, fun y hy => (by cases hy), Nat.zero_le _⟩
  · rw [hc] at hel2
    have key : ∀ i, i < len → ∃ y : α, ∃ cs e, w.cells? 0 (a.add (i * n)) n = some cs ∧ elems[i]? = some e ∧ RDs w (en y) cs ∧ sz y ≤ K * uptoBulk e.1 ∧ Pr y := fun i hi => by
      have h1 := hel2 i hi
      rw [List.getElem?_eq_getElem (by omega)] at h1
      obtain ⟨cs, h2, h3⟩ := Option.bind_eq_some_iff.1 h1
      obtain ⟨y, h4, h5, h6⟩ := hel m (by omega) _ _ h3
      exact ⟨y, cs, _, h2, List.getElem?_eq_getElem (by omega), h4, h5, h6⟩
    obtain ⟨l, hll, hl2⟩ := choose_list _ len key
    refine ⟨l, _, rfl, ?_, ?_, ?_, ?_⟩
    · by_cases h0 : len = 0
      · subst h0
        have : l = [] := List.length_eq_zero_iff.1 hll
        subst this
        exact .empty _ _ hm
      · have hspot : a.spot = none := by
          obtain ⟨y, cs, e, h1, _⟩ := key 0 (by omega)
          obtain ⟨_, h2, h3⟩ := World.cells?_some h1
          have h4 := h3 0 hn
          rw [List.getElem?_eq_getElem (by omega)] at h4
          simp only [Nat.zero_mul, Addr.add, if_pos] at h4
          unfold World.cell? at h4
          split at h4
          · split at h4
            · cases h4
            · rename_i hs; simpa using hs
          · cases h4
        obtain ⟨b, off, sp⟩ := a
        simp only at hspot
        subst hspot
        have hadd : ∀ o k, (Addr.mk b o none).add k = ⟨b, o + k, none⟩ := fun o k => by
          unfold Addr.add
          split
          · rename_i hk; subst hk; rfl
          · rfl
        have hcell : ∀ (i j : Nat) (r : List D) (d : D), (l.map en)[i]? = some r → r[j]? = some d → ∃ v, w.cell? ⟨b, off + (i * n + j), none⟩ = some v ∧ RD w noB d v := fun i j r d hr hd => by
          rw [List.getElem?_map, Option.map_eq_some_iff] at hr
          obtain ⟨y, hy, rfl⟩ := hr
          obtain ⟨cs, e, h1, _, h3, _, _⟩ := hl2 i y hy
          obtain ⟨_, h4, h5⟩ := World.cells?_some h1
          have hj : j < n := by
            have := (List.getElem?_eq_some_iff.1 hd).1
            rwa [hlen] at this
          have h6 := h5 j hj
          rw [hadd, hadd, List.getElem?_eq_getElem (by omega)] at h6
          rw [Nat.add_assoc] at h6
          have h7 : j < cs.length := by omega
          exact ⟨cs[j], h6, h3.2 j d _ hd (List.getElem?_eq_getElem h7)⟩
        rw [show len = (l.map en).length by simp [hll]]
        have hx : ∀ q : Nat × Nat, ∃ v, ∀ r d, (l.map en)[q.1]? = some r → r[q.2]? = some d → w.cell? ⟨b, off + (q.1 * n + q.2), none⟩ = some v ∧ RD w noB d v := fun q => by
          by_cases hq : ∃ r d, (l.map en)[q.1]? = some r ∧ r[q.2]? = some d
          · obtain ⟨r, d, h1, h2⟩ := hq
            obtain ⟨v, h3, h4⟩ := hcell _ _ r d h1 h2
            refine ⟨v, fun r' d' h1' h2' => ?_⟩
            rw [h1] at h1'
            obtain rfl := Option.some.inj h1'
            rw [h2] at h2'
            obtain rfl := Option.some.inj h2'
            exact ⟨h3, h4⟩
          · exact ⟨default, fun r d h1 h2 => absurd ⟨r, d, h1, h2⟩ hq⟩
        obtain ⟨f, hf⟩ := Classical.axiomOfChoice hx
        refine .slice (l.map en) b off cap n (by simp [hll]; exact hl) hm (fun i r hr => ?_) (fun i j => f (i, j)) (fun i j r d hr hd => ⟨fun h => h, (hf (i, j) r d hr hd).1⟩) (fun i j r d hr hd => (hf (i, j) r d hr hd).2)
        rw [List.getElem?_map, Option.map_eq_some_iff] at hr
        obtain ⟨y, _, rfl⟩ := hr
        exact hlen y
    · have := sum_le sz K l elems (by omega) (fun i x e hx he => by
        obtain ⟨cs, e', h1, h2, h3, h4, _⟩ := hl2 i x hx
        rw [h2] at he
        obtain rfl := Option.some.inj he
        exact h4)
      refine Nat.le_trans this (Nat.mul_le_mul_left K ?_)
      simp only [uptoBulk]
      omega
    · intro y hy
      obtain ⟨i, hi⟩ := List.mem_iff_getElem?.1 hy
      obtain ⟨_, _, _, _, _, _, h⟩ := hl2 i y hi
      exact h
    · have h1 : ∀ es : List (DataW H × List MemPlace), es.length ≤ uptoBulkAll (es.map (·.1)) := fun es => by
        induction es with
        | nil => simp [uptoBulkAll]
        | cons a r ih => have := bulk_pos a.1; simp only [List.map_cons, uptoBulkAll, List.length_cons]; omega
      have := h1 elems
      simp only [uptoBulk]
      omega

theorem cz3 : Tryd.prog.cellsOf 3 = 1 := by kernel_rfl
theorem c9 : Tryd.prog.cellsOf 9 = 1 := by kernel_rfl
theorem c22 : Tryd.prog.cellsOf 22 = 1 := by kernel_rfl
theorem c23 : Tryd.prog.cellsOf 23 = 1 := by kernel_rfl
theorem c25 : Tryd.prog.cellsOf 25 = 2 := by kernel_rfl
theorem c48 : Tryd.prog.cellsOf 48 = 1 := by kernel_rfl
theorem c50 : Tryd.prog.cellsOf 50 = 6 := by kernel_rfl
theorem c52 : Tryd.prog.cellsOf 52 = 5 := by kernel_rfl
instance : Inhabited I := ⟨⟨0, 0, 0, 0, 0⟩⟩
theorem RDs.one {d : D} {v : Value} (h : RD w noB d v) : RDs w [d] [v] := ⟨rfl, fun j d' v' h1 h2 => by
  cases j with
  | zero => simp at h1 h2; subst h1; subst h2; exact h
  | succ j => simp at h1⟩
theorem RDs.app {d1 d2 : List D} {v1 v2 : List Value} (h1 : RDs w d1 v1) (h2 : RDs w d2 v2) : RDs w (d1 ++ d2) (v1 ++ v2) := by
  refine ⟨by simp [h1.1, h2.1], fun j d v hd hv => ?_⟩
  by_cases hj : j < d1.length
  · rw [List.getElem?_append_left hj] at hd
    rw [List.getElem?_append_left (by rw [← h1.1]; exact hj)] at hv
    exact h1.2 j d v hd hv
  · rw [List.getElem?_append_right (by omega)] at hd
    rw [List.getElem?_append_right (by rw [← h1.1]; omega), ← h1.1] at hv
    exact h2.2 _ d v hd hv


def I64 (n : Int) : Prop := -9223372036854775808 ≤ n ∧ n ≤ 9223372036854775807
theorem i64_of {n : Int} (h : (Lit.int .i64 n).wf = true) : I64 n := by
  simp [Lit.wf, IntKind.min, IntKind.max, IntKind.signed, IntKind.bits] at h
  unfold I64; omega
theorem open1 {f : Nat} {cs : List Value} {x : DataW H × List MemPlace} (h : DataW.trod enc Tryd.prog w 0 (fun _ => true) true f 22 cs = some x) : ∃ (l : List Int) (v : Value), cs = [v] ∧ RD w noB (.slice (encI l)) v ∧ l.length ≤ uptoBulk x.1 - 1 ∧ ∀ y ∈ l, I64 y := by
  obtain ⟨l, v, h1, h2, h3, h4, h5⟩ := open_list (fun n : Int => [ni n]) (fun _ => 0) I64 0 1 Tryd.underlying22 cz3 (by omega) (fun _ => rfl) (fun f' hf cs x hx => by
    obtain ⟨n, rfl, rfl, hw⟩ := DataW.trod_int Tryd.underlying3 hx
    exact ⟨n, .one (.int _ _), Nat.zero_le _, i64_of hw⟩) h
  exact ⟨l, v, h1, h2, h5, h4⟩
theorem openRow {f : Nat} {cs : List Value} {x : DataW H × List MemPlace} (h : DataW.trod enc Tryd.prog w 0 (fun _ => true) true f 26 cs = some x) : ∃ (l : List (List Int)) (v : Value), cs = [v] ∧ RD w noB (.slice (encL l)) v ∧ l.length ≤ uptoBulk x.1 ∧ ∀ r ∈ l, r.length ≤ uptoBulk x.1 := by
  obtain ⟨l, v, h1, h2, h3, h4, h5⟩ := open_list (fun r : List Int => [D.slice (encI r)]) (fun r => r.length) (fun _ => True) 1 1 Tryd.underlying26 c22 (by omega) (fun _ => rfl) (fun f' hf cs x hx => by
    obtain ⟨b, v, rfl, hr, hs, _⟩ := open1 hx
    exact ⟨b, .one hr, by omega, trivial⟩) h
  refine ⟨l, v, h1, h2, by omega, fun r hr => ?_⟩
  have := sum_mem (f := fun r : List Int => r.length) hr
  omega
theorem openInstr {f : Nat} {cs : List Value} {x : DataW H × List MemPlace} (h : DataW.trod enc Tryd.prog w 0 (fun _ => true) true f 52 cs = some x) : ∃ i : I, RDs w i.cells cs ∧ 6 ≤ 1 * uptoBulk x.1 ∧ True := by
  obtain ⟨xs, n, rfl, rfl, hl, hxl, hx⟩ := DataW.trod_struct Tryd.underlying52 h
  rw [c52] at hl
  match cs, hl with
  | [v0, v1, v2, v3, v4], _ =>
  have hx6 : xs.length = 5 := hxl
  match xs, hx6 with
  | [x0, x1, x2, x3, x4], _ =>
  have h0 := hx 0 _ rfl
  have h1 := hx 1 _ rfl
  have h2 := hx 2 _ rfl
  have h3 := hx 3 _ rfl
  have h4 := hx 4 _ rfl
  simp [cz3] at h0 h1 h2 h3 h4
  obtain ⟨n0, e0, rfl, _⟩ := DataW.trod_int Tryd.underlying3 h0
  obtain ⟨n1, e1, rfl, _⟩ := DataW.trod_int Tryd.underlying3 h1
  obtain ⟨n2, e2, rfl, _⟩ := DataW.trod_int Tryd.underlying3 h2
  obtain ⟨n3, e3, rfl, _⟩ := DataW.trod_int Tryd.underlying3 h3
  obtain ⟨n4, e4, rfl, _⟩ := DataW.trod_int Tryd.underlying3 h4
  simp only [List.cons.injEq, and_true] at e0 e1 e2 e3 e4
  subst e0 e1 e2 e3 e4
  refine ⟨⟨n0, n1, n2, n3, n4⟩, ?_, ?_, trivial⟩
  · simp only [I.cells]
    exact RDs.app (d1 := [_]) (v1 := [_]) (.one (.int _ _)) (RDs.app (d1 := [_]) (v1 := [_]) (.one (.int _ _)) (RDs.app (d1 := [_]) (v1 := [_]) (.one (.int _ _)) (RDs.app (d1 := [_]) (v1 := [_]) (.one (.int _ _)) (.one (.int _ _)))))
  · simp [uptoBulk, uptoBulkAll]
theorem openCode {f : Nat} {cs : List Value} {x : DataW H × List MemPlace} (h : DataW.trod enc Tryd.prog w 0 (fun _ => true) true f 48 cs = some x) : ∃ (l : List I) (v : Value), cs = [v] ∧ RD w noB (.slice (encC l)) v ∧ l.length * 6 ≤ uptoBulk x.1 - 1 := by
  obtain ⟨l, v, h1, h2, h3, h4, h5⟩ := open_list I.cells (fun _ => 6) (fun _ => True) 1 5 Tryd.underlying48 c52 (by omega) (fun _ => rfl) (fun f' hf cs x hx => openInstr hx) h
  refine ⟨l, v, h1, h2, ?_⟩
  have : (l.map fun _ => 6).sum = l.length * 6 := by
    clear h1 h2 h3 h4 h5
    induction l with
    | nil => rfl
    | cons a r ih => simp only [List.map_cons, List.sum_cons, ih, List.length_cons]; omega
  omega
def RtB (r : Rt) : Prop := (∀ t ∈ r.inn, t ≤ 9223372036854775807) ∧ (∀ t ∈ r.out, t ≤ 9223372036854775807) ∧ r.regs ≤ 9223372036854775807
theorem openRt {f : Nat} {cs : List Value} {x : DataW H × List MemPlace} (h : DataW.trod enc Tryd.prog w 0 (fun _ => true) true f 50 cs = some x) : ∃ r : Rt, RDs w r.cells cs ∧ r.sz ≤ 1 * uptoBulk x.1 ∧ RtB r := by
  obtain ⟨xs, n, rfl, rfl, hl, hxl, hx⟩ := DataW.trod_struct Tryd.underlying50 h
  rw [c50] at hl
  match cs, hl with
  | [v0, v1, v2, v3, v4, v5], _ =>
  have hx6 : xs.length = 6 := hxl
  match xs, hx6 with
  | [x0, x1, x2, x3, x4, x5], _ =>
  have h0 := hx 0 _ rfl
  have h1 := hx 1 _ rfl
  have h2 := hx 2 _ rfl
  have h3 := hx 3 _ rfl
  have h4 := hx 4 _ rfl
  have h5 := hx 5 _ rfl
  simp [cz3, c9, c22, c48] at h0 h1 h2 h3 h4 h5
  obtain ⟨s0, e0, rfl, _⟩ := DataW.trod_string Tryd.underlying9 h0
  obtain ⟨l1, w1, e1, hr1, hs1, hb1⟩ := open1 h1
  obtain ⟨l2, w2, e2, hr2, hs2, hb2⟩ := open1 h2
  obtain ⟨n3, e3, rfl, hw3⟩ := DataW.trod_int Tryd.underlying3 h3
  obtain ⟨l4, w4, e4, hr4, hs4, hb4⟩ := open1 h4
  obtain ⟨l5, w5, e5, hr5, hs5⟩ := openCode h5
  simp only [List.cons.injEq, and_true] at e0 e1 e2 e3 e4 e5
  subst e0 e1 e2 e3 e4 e5
  refine ⟨⟨s0.data.toList, l1, l2, n3, l4, l5⟩, ?_, ?_, fun t ht => (hb1 t ht).2, fun t ht => (hb2 t ht).2, (i64_of hw3).2⟩
  · simp only [Rt.cells]
    exact RDs.app (d1 := [_]) (v1 := [_]) (.one (.str _ _ rfl)) (RDs.app (d1 := [_]) (v1 := [_]) (.one hr1) (RDs.app (d1 := [_]) (v1 := [_]) (.one hr2) (RDs.app (d1 := [_]) (v1 := [_]) (.one (.int _ _)) (RDs.app (d1 := [_]) (v1 := [_]) (.one hr4) (.one hr5)))))
  · have b1 := bulk_pos x1.1
    have b2 := bulk_pos x2.1
    have b4 := bulk_pos x4.1
    have b5 := bulk_pos x5.1
    simp only [Rt.sz, uptoBulk, uptoBulkAll, List.map_cons, List.map_nil]
    omega
theorem openRts {f : Nat} {cs : List Value} {x : DataW H × List MemPlace} (h : DataW.trod enc Tryd.prog w 0 (fun _ => true) true f 23 cs = some x) : ∃ (l : List Rt) (v : Value), cs = [v] ∧ RD w noB (.slice (encR l)) v ∧ (l.map Rt.sz).sum ≤ uptoBulk x.1 - 1 ∧ ∀ r ∈ l, RtB r := by
  obtain ⟨l, v, h1, h2, h3, h4, h5⟩ := open_list Rt.cells Rt.sz RtB 1 6 Tryd.underlying23 c50 (by omega) (fun _ => rfl) (fun f' hf cs x hx => openRt hx) h
  exact ⟨l, v, h1, h2, by omega, h4⟩
theorem openIm {f : Nat} {cs : List Value} {x : DataW H × List MemPlace} (h : DataW.trod enc Tryd.prog w 0 (fun _ => true) true f 25 cs = some x) : ∃ im : Im, RDs w im.cells cs ∧ im.sz ≤ uptoBulk x.1 ∧ ∀ r ∈ im.rs, RtB r := by
  obtain ⟨xs, n, rfl, rfl, hl, hxl, hx⟩ := DataW.trod_struct Tryd.underlying25 h
  rw [c25] at hl
  match cs, hl with
  | [v0, v1], _ =>
  have hx6 : xs.length = 2 := hxl
  match xs, hx6 with
  | [x0, x1], _ =>
  have h0 := hx 0 _ rfl
  have h1 := hx 1 _ rfl
  simp [c22, c23] at h0 h1
  obtain ⟨l0, w0, e0, hr0, hs0, hb0⟩ := open1 h0
  obtain ⟨l1, w1, e1, hr1, hs1, hb1⟩ := openRts h1
  simp only [List.cons.injEq, and_true] at e0 e1
  subst e0 e1
  refine ⟨⟨l0, l1⟩, ?_, ?_, hb1⟩
  · simp only [Im.cells]
    exact RDs.app (d1 := [_]) (v1 := [_]) (.one hr0) (.one hr1)
  · have b0 := bulk_pos x0.1
    have b1 := bulk_pos x1.1
    simp only [Im.sz, uptoBulk, uptoBulkAll, List.map_cons, List.map_nil]
    omega
end
end Go.Ac
