/- From the given reading of an argument to statements as data. -/
import Derived.Test.YtofbmhmdpeclnaaFuG
import Derived.Test.YtofbmhmdpeclnaaRows
import Derived.Deep.Slices
import Derived.ChangeArms
import Derived.RowKit3
import Derived.ReadAgain
import Derived.ChangeStays
set_option linter.unusedVariables false
set_option linter.unusedSimpArgs false
set_option maxRecDepth 4000
set_option linter.unusedSimpArgs false
set_option linter.unusedVariables false
namespace Go.Ab
open Go.Proofs Go.ChangeShapes Go.WideShapes Go.RowKit
open Go.Proofs.Ytofbmhmdpeclnaa.Rows (uptoBulk uptoBulkAll)

abbrev noB : Nat → Prop := fun _ => False

def RDs (w : World) (ds : List D) (cs : List Value) : Prop := ds.length = cs.length ∧ ∀ (j : Nat) d v, ds[j]? = some d → cs[j]? = some v → RD w noB d v

theorem bulk_pos {H : Type} (d : DataW H) : 1 ≤ uptoBulk d := by
  cases d with
  | lit l => cases l <;> simp [uptoBulk]
  | nil => simp [uptoBulk]
  | ptr d => simp [uptoBulk]
  | slice elems spare => simp [uptoBulk]
  | agg parts => simp [uptoBulk]
  | iface t d => simp [uptoBulk]
  | map entries => simp [uptoBulk]
  | held h => simp [uptoBulk]

section
variable {H : Type} {enc : TypeId × Value → H} {w : World}

theorem choose_list {α : Type} [Inhabited α] (p : Nat → α → Prop) (n : Nat) (h : ∀ i, i < n → ∃ x, p i x) : ∃ l : List α, l.length = n ∧ ∀ i x, l[i]? = some x → p i x := by
  have : ∀ i, ∃ x, i < n → p i x := fun i => by
    by_cases hi : i < n
    · obtain ⟨x, hx⟩ := h i hi; exact ⟨x, fun _ => hx⟩
    · exact ⟨default, fun h => absurd h hi⟩
  obtain ⟨f, hf⟩ := Classical.axiomOfChoice this
  refine ⟨(List.range n).map f, by simp, fun i x hi => ?_⟩
  rw [List.getElem?_map] at hi
  by_cases hin : i < n
  · rw [List.getElem?_range hin] at hi
    simp at hi
    subst hi
    exact hf i hin
  · rw [List.getElem?_eq_none (by simp; omega)] at hi
    simp at hi

theorem sum_le {α : Type} (sz : α → Nat) (K : Nat) : ∀ (l : List α) (es : List (DataW H × List MemPlace)), l.length = es.length → (∀ (i : Nat) x e, l[i]? = some x → es[i]? = some e → sz x ≤ K * uptoBulk e.1) → (l.map sz).sum ≤ K * uptoBulkAll (es.map (·.1))
  | [], es, h, _ => by simp
  | x :: l, [], h, _ => by simp at h
  | x :: l, e :: es, h, hi => by
    have h1 := hi 0 x e rfl rfl
    have h2 := sum_le sz K l es (by simpa using h) (fun i x e hx he => hi (i + 1) x e (by simpa using hx) (by simpa using he))
    simp only [List.map_cons, List.sum_cons, uptoBulkAll, Nat.mul_add]
    omega

theorem open_list {α : Type} [Inhabited α] (en : α → List D) (sz : α → Nat) (K n : Nat) {t e fuel : Nat} {cs : List Value} {x : DataW H × List MemPlace} (ht : Try.prog.underlying t = some (.slice e)) (hc : Try.prog.cellsOf e = n) (hn : 0 < n) (hlen : ∀ y, (en y).length = n)
    (hel : ∀ fuel', fuel' < fuel → ∀ cs x, DataW.trod enc Try.prog w 0 (fun _ => true) true fuel' e cs = some x → ∃ y, RDs w (en y) cs ∧ sz y ≤ K * uptoBulk x.1)
    (h : DataW.trod enc Try.prog w 0 (fun _ => true) true fuel t cs = some x) : ∃ (l : List α) (v : Value), cs = [v] ∧ RD w noB (.slice (l.map en)) v ∧ (l.map sz).sum ≤ K * (uptoBulk x.1 - 1) := by
  rcases DataW.trod_slice ht h with ⟨rfl, rfl⟩ | ⟨a, len, cap, elems, rest, m, rfl, rfl, rfl, hb, hl, hm, hlen2, hel2, _, _⟩
  · exact ⟨[], _, rfl, .empty none 0 (Nat.zero_le _), by simp⟩
  · rw [hc] at hel2
    have key : ∀ i, i < len → ∃ y : α, ∃ cs e, w.cells? 0 (a.add (i * n)) n = some cs ∧ elems[i]? = some e ∧ RDs w (en y) cs ∧ sz y ≤ K * uptoBulk e.1 := fun i hi => by
      have h1 := hel2 i hi
      rw [List.getElem?_eq_getElem (by omega)] at h1
      obtain ⟨cs, h2, h3⟩ := Option.bind_eq_some_iff.1 h1
      obtain ⟨y, h4, h5⟩ := hel m (by omega) _ _ h3
      exact ⟨y, cs, _, h2, List.getElem?_eq_getElem (by omega), h4, h5⟩
    obtain ⟨l, hll, hl2⟩ := choose_list _ len key
    refine ⟨l, _, rfl, ?_, ?_⟩
    · by_cases h0 : len = 0
      · subst h0
        have : l = [] := List.length_eq_zero_iff.1 hll
        subst this
        exact .empty _ _ hm
      · have hspot : a.spot = none := by
          obtain ⟨y, cs, e, h1, _⟩ := key 0 (by omega)
          obtain ⟨_, h2, h3⟩ := World.cells?_some h1
          have h4 := h3 0 hn
          rw [List.getElem?_eq_getElem (by omega)] at h4
          simp only [Nat.zero_mul, Addr.add, if_pos] at h4
          unfold World.cell? at h4
          split at h4
          · split at h4
            · cases h4
            · rename_i hs; simpa using hs
          · cases h4
        obtain ⟨b, off, sp⟩ := a
        simp only at hspot
        subst hspot
        have hadd : ∀ o k, (Addr.mk b o none).add k = ⟨b, o + k, none⟩ := fun o k => by
          unfold Addr.add
          split
          · rename_i hk; subst hk; rfl
          · rfl
        have hcell : ∀ (i j : Nat) (r : List D) (d : D), (l.map en)[i]? = some r → r[j]? = some d → ∃ v, w.cell? ⟨b, off + (i * n + j), none⟩ = some v ∧ RD w noB d v := fun i j r d hr hd => by
          rw [List.getElem?_map, Option.map_eq_some_iff] at hr
          obtain ⟨y, hy, rfl⟩ := hr
          obtain ⟨cs, e, h1, _, h3, _⟩ := hl2 i y hy
          obtain ⟨_, h4, h5⟩ := World.cells?_some h1
          have hj : j < n := by
            have := (List.getElem?_eq_some_iff.1 hd).1
            rwa [hlen] at this
          have h6 := h5 j hj
          rw [hadd, hadd, List.getElem?_eq_getElem (by omega)] at h6
          rw [Nat.add_assoc] at h6
          have h7 : j < cs.length := by omega
          exact ⟨cs[j], h6, h3.2 j d _ hd (List.getElem?_eq_getElem h7)⟩
        rw [show len = (l.map en).length by simp [hll]]
        have hx : ∀ q : Nat × Nat, ∃ v, ∀ r d, (l.map en)[q.1]? = some r → r[q.2]? = some d → w.cell? ⟨b, off + (q.1 * n + q.2), none⟩ = some v ∧ RD w noB d v := fun q => by
          by_cases hq : ∃ r d, (l.map en)[q.1]? = some r ∧ r[q.2]? = some d
          · obtain ⟨r, d, h1, h2⟩ := hq
            obtain ⟨v, h3, h4⟩ := hcell _ _ r d h1 h2
            refine ⟨v, fun r' d' h1' h2' => ?_⟩
            rw [h1] at h1'
            obtain rfl := Option.some.inj h1'
            rw [h2] at h2'
            obtain rfl := Option.some.inj h2'
            exact ⟨h3, h4⟩
          · exact ⟨default, fun r d h1 h2 => absurd ⟨r, d, h1, h2⟩ hq⟩
        obtain ⟨f, hf⟩ := Classical.axiomOfChoice hx
        refine .slice (l.map en) b off cap n (by simp [hll]; exact hl) hm (fun i r hr => ?_) (fun i j => f (i, j)) (fun i j r d hr hd => ⟨fun h => h, (hf (i, j) r d hr hd).1⟩) (fun i j r d hr hd => (hf (i, j) r d hr hd).2)
        rw [List.getElem?_map, Option.map_eq_some_iff] at hr
        obtain ⟨y, _, rfl⟩ := hr
        exact hlen y
    · have := sum_le sz K l elems (by omega) (fun i x e hx he => by
        obtain ⟨cs, e', h1, h2, h3, h4⟩ := hl2 i x hx
        rw [h2] at he
        obtain rfl := Option.some.inj he
        exact h4)
      refine Nat.le_trans this (Nat.mul_le_mul_left K ?_)
      simp only [uptoBulk]
      omega

instance : Inhabited X := ⟨.mk 0 0 0 0 [] []⟩
instance : Inhabited Y := ⟨.mk 0 [] 0 (.mk 0 0 0 0 [] []) [] [] []⟩

theorem c3 : Try.prog.cellsOf 3 = 1 := by kernel_rfl
theorem c9 : Try.prog.cellsOf 9 = 1 := by kernel_rfl
theorem c22 : Try.prog.cellsOf 22 = 1 := by kernel_rfl
theorem c32 : Try.prog.cellsOf 32 = 1 := by kernel_rfl
theorem c34 : Try.prog.cellsOf 34 = 6 := by kernel_rfl
theorem c35 : Try.prog.cellsOf 35 = 1 := by kernel_rfl
theorem c36 : Try.prog.cellsOf 36 = 1 := by kernel_rfl
theorem c38 : Try.prog.cellsOf 38 = 12 := by kernel_rfl

theorem sumX (l : List X) : (l.map X.sz).sum = szX l := by induction l with | nil => rfl | cons x r ih => simp [szX, ih]
theorem sumY (l : List Y) : (l.map Y.sz).sum = szY l := by induction l with | nil => rfl | cons x r ih => simp [szY, ih]
theorem sumN (l : List (List UInt8)) : (l.map szS).sum = szN l := by induction l with | nil => rfl | cons x r ih => simp [szN, ih]
theorem sumB (l : List (List Y)) : (l.map fun b => szY b + 1).sum = szB l := by induction l with | nil => rfl | cons x r ih => simp [szB, ih]

theorem RDs.one {d : D} {v : Value} (h : RD w noB d v) : RDs w [d] [v] := ⟨rfl, fun j d' v' h1 h2 => by
  cases j with
  | zero => simp at h1 h2; subst h1; subst h2; exact h
  | succ j => simp at h1⟩
theorem RDs.app {d1 d2 : List D} {v1 v2 : List Value} (h1 : RDs w d1 v1) (h2 : RDs w d2 v2) : RDs w (d1 ++ d2) (v1 ++ v2) := by
  refine ⟨by simp [h1.1, h2.1], fun j d v hd hv => ?_⟩
  by_cases hj : j < d1.length
  · rw [List.getElem?_append_left hj] at hd
    rw [List.getElem?_append_left (by rw [← h1.1]; exact hj)] at hv
    exact h1.2 j d v hd hv
  · rw [List.getElem?_append_right (by omega)] at hd
    rw [List.getElem?_append_right (by rw [← h1.1]; omega), ← h1.1] at hv
    exact h2.2 _ d v hd hv

/-- Expressions and their lists. -/
def OX (w : World) (enc : TypeId × Value → H) (f : Nat) : Prop :=
  (∀ cs x, DataW.trod enc Try.prog w 0 (fun _ => true) true f 34 cs = some x → ∃ y : X, RDs w y.cells cs ∧ y.sz ≤ 2 * uptoBulk x.1) ∧
  (∀ cs x, DataW.trod enc Try.prog w 0 (fun _ => true) true f 32 cs = some x → ∃ (l : List X) (v : Value), cs = [v] ∧ RD w noB (.slice (encX l)) v ∧ szX l ≤ 2 * (uptoBulk x.1 - 1))

theorem take1 {cs : List Value} {k n : Nat} (h : cs.length = n) (hk : k < n) : ∃ v, (cs.drop k).take 1 = [v] ∧ cs[k]? = some v := by
  have h2 : k < cs.length := by omega
  refine ⟨cs[k], ?_, List.getElem?_eq_getElem h2⟩
  rw [List.drop_eq_getElem_cons h2]; rfl

theorem openX : ∀ f, OX w enc f := by
  intro f
  induction f using Nat.strongRecOn with
  | ind f ih =>
    constructor
    · intro cs x h
      obtain ⟨xs, n, rfl, rfl, hl, hxl, hx⟩ := DataW.trod_struct Try.underlying34 h
      rw [c34] at hl
      match cs, hl with
      | [v0, v1, v2, v3, v4, v5], _ =>
      have hx6 : xs.length = 6 := hxl
      match xs, hx6 with
      | [x0, x1, x2, x3, x4, x5], _ =>
      have h0 := hx 0 _ rfl
      have h1 := hx 1 _ rfl
      have h2 := hx 2 _ rfl
      have h3 := hx 3 _ rfl
      have h4 := hx 4 _ rfl
      have h5 := hx 5 _ rfl
      simp [c3, c9, c32] at h0 h1 h2 h3 h4 h5
      obtain ⟨n0, e0, rfl, _⟩ := DataW.trod_int Try.underlying3 h0
      obtain ⟨n1, e1, rfl, _⟩ := DataW.trod_int Try.underlying3 h1
      obtain ⟨n2, e2, rfl, _⟩ := DataW.trod_int Try.underlying3 h2
      obtain ⟨n3, e3, rfl, _⟩ := DataW.trod_int Try.underlying3 h3
      obtain ⟨s4, e4, rfl, _⟩ := DataW.trod_string Try.underlying9 h4
      obtain ⟨l5, w5, e5, hr5, hs5⟩ := (ih n (by omega)).2 _ _ h5
      simp only [List.cons.injEq, and_true] at e0 e1 e2 e3 e4 e5
      subst e0 e1 e2 e3 e4 e5
      refine ⟨.mk n0 n1 n2 n3 s4.data.toList l5, ?_, ?_⟩
      · simp only [X.cells, ni]
        exact RDs.app (.one (.int _ _)) (RDs.app (.one (.int _ _)) (RDs.app (.one (.int _ _)) (RDs.app (.one (.int _ _)) (RDs.app (.one (.str _ _ rfl)) (.one hr5)))))
      · have hb := bulk_pos x5.1
        simp only [X.sz, szS, uptoBulk, uptoBulkAll, List.map_cons, List.map_nil]
        omega
    · intro cs x h
      obtain ⟨l, v, h1, h2, h3⟩ := open_list X.cells X.sz 2 6 Try.underlying32 c34 (by omega) X.cells_len (fun f' hf cs x hx => (ih f' hf).1 cs x hx) h
      exact ⟨l, v, h1, by rw [encX_map]; exact h2, by rw [← sumX]; exact h3⟩

theorem openN {f : Nat} {cs : List Value} {x : DataW H × List MemPlace} (h : DataW.trod enc Try.prog w 0 (fun _ => true) true f 35 cs = some x) : ∃ (l : List (List UInt8)) (v : Value), cs = [v] ∧ RD w noB (.slice (encN l)) v ∧ szN l ≤ 2 * (uptoBulk x.1 - 1) := by
  obtain ⟨l, v, h1, h2, h3⟩ := open_list (fun s : List UInt8 => [D.str s]) szS 2 1 Try.underlying35 c9 (by omega) (fun _ => rfl) (fun f' hf cs x hx => by
    obtain ⟨s, rfl, rfl, _⟩ := DataW.trod_string Try.underlying9 hx
    exact ⟨s.data.toList, .one (.str _ _ rfl), by simp [szS, uptoBulk]; omega⟩) h
  exact ⟨l, v, h1, h2, by rw [← sumN]; exact h3⟩

/-- Statements, their lists, and the lists of these. -/
def OY (w : World) (enc : TypeId × Value → H) (f : Nat) : Prop :=
  (∀ cs x, DataW.trod enc Try.prog w 0 (fun _ => true) true f 38 cs = some x → ∃ y : Y, RDs w y.cells cs ∧ y.sz ≤ 2 * uptoBulk x.1) ∧
  (∀ cs x, DataW.trod enc Try.prog w 0 (fun _ => true) true f 22 cs = some x → ∃ (l : List Y) (v : Value), cs = [v] ∧ RD w noB (.slice (encY l)) v ∧ szY l ≤ 2 * (uptoBulk x.1 - 1)) ∧
  (∀ cs x, DataW.trod enc Try.prog w 0 (fun _ => true) true f 36 cs = some x → ∃ (l : List (List Y)) (v : Value), cs = [v] ∧ RD w noB (.slice (encB l)) v ∧ szB l ≤ 2 * (uptoBulk x.1 - 1))

theorem openY : ∀ f, OY w enc f := by
  intro f
  induction f using Nat.strongRecOn with
  | ind f ih =>
    refine ⟨?_, ?_, ?_⟩
    · intro cs x h
      obtain ⟨xs, n, rfl, rfl, hl, hxl, hx⟩ := DataW.trod_struct Try.underlying38 h
      rw [c38] at hl
      match cs, hl with
      | [v0, v1, v2, v3, v4, v5, v6, v7, v8, v9, v10, v11], _ =>
      have hx6 : xs.length = 7 := hxl
      match xs, hx6 with
      | [x0, x1, x2, x3, x4, x5, x6], _ =>
      have h0 := hx 0 _ rfl
      have h1 := hx 1 _ rfl
      have h2 := hx 2 _ rfl
      have h3 := hx 3 _ rfl
      have h4 := hx 4 _ rfl
      have h5 := hx 5 _ rfl
      have h6 := hx 6 _ rfl
      simp [c3, c9, c32, c34, c35, c36] at h0 h1 h2 h3 h4 h5 h6
      obtain ⟨n0, e0, rfl, _⟩ := DataW.trod_int Try.underlying3 h0
      obtain ⟨s1, e1, rfl, _⟩ := DataW.trod_string Try.underlying9 h1
      obtain ⟨n2, e2, rfl, _⟩ := DataW.trod_int Try.underlying3 h2
      obtain ⟨r3, hr3, hs3⟩ := (openX n).1 _ _ h3
      obtain ⟨l4, w4, e4, hr4, hs4⟩ := openN h4
      obtain ⟨l5, w5, e5, hr5, hs5⟩ := (openX n).2 _ _ h5
      obtain ⟨l6, w6, e6, hr6, hs6⟩ := (ih n (by omega)).2.2 _ _ h6
      simp only [List.cons.injEq, and_true] at e0 e1 e2 e4 e5 e6
      subst e0 e1 e2 e4 e5 e6
      refine ⟨.mk n0 s1.data.toList n2 r3 l4 l5 l6, ?_, ?_⟩
      · simp only [Y.cells, ni]
        exact RDs.app (v1 := [_, _, _, _, _, _, _, _, _]) (RDs.app (v1 := [_, _, _]) (RDs.app (v1 := [_]) (.one (.int _ _)) (RDs.app (v1 := [_]) (.one (.str _ _ rfl)) (.one (.int _ _)))) hr3) (RDs.app (v1 := [_]) (.one hr4) (RDs.app (v1 := [_]) (.one hr5) (.one hr6)))
      · have b4 := bulk_pos x4.1
        have b5 := bulk_pos x5.1
        have b6 := bulk_pos x6.1
        simp only [Y.sz, szS, uptoBulk, uptoBulkAll, List.map_cons, List.map_nil]
        omega
    · intro cs x h
      obtain ⟨l, v, h1, h2, h3⟩ := open_list Y.cells Y.sz 2 12 Try.underlying22 c38 (by omega) Y.cells_len (fun f' hf cs x hx => (ih f' hf).1 cs x hx) h
      exact ⟨l, v, h1, by rw [encY_map]; exact h2, by rw [← sumY]; exact h3⟩
    · intro cs x h
      obtain ⟨l, v, h1, h2, h3⟩ := open_list (fun b : List Y => [D.slice (encY b)]) (fun b => szY b + 1) 2 1 Try.underlying36 c22 (by omega) (fun _ => rfl) (fun f' hf cs x hx => by
        obtain ⟨b, v, rfl, hr, hs⟩ := (ih f' hf).2.1 cs x hx
        have := bulk_pos x.1
        exact ⟨b, .one hr, by omega⟩) h
      exact ⟨l, v, h1, by rw [encB_map]; exact h2, by rw [← sumB]; exact h3⟩

end
end Go.Ab
