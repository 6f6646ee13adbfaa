/- The abstract machine: slices. No conditions. -/
import Derived.Test.YtofbmhmdpeclnaaAbF
set_option linter.unusedVariables false
set_option linter.unusedSimpArgs false
namespace Go.Ab
variable {P : Program} {S : Nat → Prop} {m : M}

theorem flatten_get {α : Type} (sz : Nat) (h0 : 0 < sz) : ∀ (rows : List (List α)), (∀ r ∈ rows, r.length = sz) → ∀ q, rows.flatten[q]? = (rows[q / sz]?).bind (fun r => r[q % sz]?)
  | [], _, q => by simp
  | r :: rows, h, q => by
    have hr : r.length = sz := h r (by simp)
    simp only [List.flatten_cons, List.getElem?_append, hr]
    split
    · rename_i hq
      rw [Nat.div_eq_of_lt hq, Nat.mod_eq_of_lt hq]; rfl
    · rename_i hq
      rw [flatten_get sz h0 rows (fun r hr => h r (by simp [hr])) (q - sz)]
      have h1 : q / sz = (q - sz) / sz + 1 := by
        rw [show q = (q - sz) + sz by omega, Nat.add_div_right _ h0]; simp
      have h2 : q % sz = (q - sz) % sz := by
        conv => lhs; rw [show q = (q - sz) + sz by omega, Nat.add_mod_right]
      rw [h1, h2]; simp

theorem flatten_len {α : Type} (sz : Nat) : ∀ (rows : List (List α)), (∀ r ∈ rows, r.length = sz) → rows.flatten.length = rows.length * sz
  | [], _ => by simp
  | r :: rows, h => by
    simp only [List.flatten_cons, List.length_append, List.length_cons, h r (by simp), flatten_len sz rows (fun r hr => h r (by simp [hr])), Nat.succ_mul]
    omega

theorem allbeq {rows : List (List D)} {sz : Nat} (h : rows.all (fun r => Nat.beq r.length sz) = true) : ∀ r ∈ rows, r.length = sz :=
  fun r hr => Nat.eq_of_beq_eq_true (List.all_eq_true.1 h r hr)

/-- The elements of a slice, in memory. -/
def Elems (S : Nat → Prop) (m : M) (sz n : Nat) (vs : List V) (v : Value) : Prop :=
  ∃ a k xs, v = .slice a n k ∧ n ≤ k ∧ k ≤ maxLen ∧ RVs S m vs xs ∧ vs.length = n * sz ∧ vs.all V.one = true ∧ (a = none → n = 0) ∧ ∀ p, a = some p → ∀ (j : Nat) (y : Value), xs[j]? = some y → m.w.cell? (p.add j) = some y

theorem all_one_d (l : List D) : (l.map V.d).all V.one = true := by simp [V.one]

theorem rd_elems {rows : List (List D)} {sz : Nat} {v : Value} (h : RD m.w (m.av S) (.slice rows) v) (hsz : ∀ r ∈ rows, r.length = sz) : Elems S m sz rows.length (rows.flatten.map .d) v := by
  cases h with
  | empty a cap hc =>
    exact ⟨a, cap, [], rfl, Nat.zero_le _, hc, .nil, by simp, rfl, (fun _ => rfl), fun p _ j y hy => by simp at hy⟩
  | slice rows b off cap sz' hlen hcap hs f hf hr =>
    by_cases h0 : rows = []
    · subst h0
      exact ⟨some ⟨b, off, none⟩, cap, [], rfl, Nat.zero_le _, hcap, .nil, by simp, rfl, (fun h => by cases h), (fun p _ j y hy => by simp at hy)⟩
    · obtain ⟨r0, rest, rfl⟩ := List.exists_cons_of_ne_nil h0
      have hss : sz' = sz := by rw [← hs 0 r0 rfl]; exact hsz r0 (by simp)
      subst hss
      have hl := flatten_len sz' (r0 :: rest) hsz
      by_cases hz : sz' = 0
      · subst hz
        have : (r0 :: rest).flatten = [] := List.length_eq_zero_iff.1 (by rw [hl]; simp)
        rw [this]
        exact ⟨some ⟨b, off, none⟩, cap, [], rfl, hlen, hcap, .nil, by simp, rfl, (fun h => by cases h), (fun p _ j y hy => by simp at hy)⟩
      · have hpos : 0 < sz' := by omega
        refine ⟨some ⟨b, off, none⟩, cap, (List.range ((r0 :: rest).length * sz')).map (fun q => f (q / sz') (q % sz')), rfl, hlen, hcap, ?_, by simp only [List.length_map, hl], all_one_d _, (fun h => by cases h), ?_⟩
        · refine RVs.map_d (by simp only [List.length_map, List.length_range]; exact hl) fun j d x hd hx => ?_
          have hj : j < (r0 :: rest).length * sz' := by rw [← hl]; exact (List.getElem?_eq_some_iff.1 hd).1
          rw [List.getElem?_map, List.getElem?_range hj] at hx
          simp at hx; subst hx
          rw [flatten_get sz' hpos _ hsz] at hd
          cases hrow : (r0 :: rest)[j / sz']? with
          | none => simp [hrow] at hd
          | some row => simp [hrow] at hd; exact hr _ _ row d hrow hd
        · rintro p hp j y hy
          injection hp with hp; subst hp
          have hj : j < (r0 :: rest).length * sz' := by
            have := (List.getElem?_eq_some_iff.1 hy).1
            simpa using this
          rw [List.getElem?_map, List.getElem?_range hj] at hy
          simp at hy; subst hy
          have h1 : j / sz' < (r0 :: rest).length := Nat.div_lt_of_lt_mul (by rw [Nat.mul_comm]; exact hj)
          have h2 : j % sz' < sz' := Nat.mod_lt _ hpos
          have hrow : (r0 :: rest)[j / sz']? = some (r0 :: rest)[j / sz'] := List.getElem?_eq_getElem h1
          have h2' : j % sz' < ((r0 :: rest)[j / sz']).length := by rw [hsz _ (List.getElem_mem h1)]; exact h2
          have hd : ((r0 :: rest)[j / sz'])[j % sz']? = some (((r0 :: rest)[j / sz'])[j % sz']'h2') := List.getElem?_eq_getElem h2'
          obtain ⟨_, h3⟩ := hf _ _ _ _ hrow hd
          rw [addr_add, ← h3]
          congr 2
          rw [Nat.mul_comm, Nat.div_add_mod]

theorem rowsOf_sound {sz n : Nat} {x : V} {vs : List V} {rd : List Nat} {v : Value} (h : rowsOf m.h sz x = some (n, vs, rd)) (hv : RV S m x v) (hR : Rel S m) :
    ∃ a k, v = .slice a n k ∧ n ≤ k ∧ k ≤ maxLen ∧ ∃ xs, RVs S m vs xs ∧ vs.length = n * sz ∧ vs.all V.one = true ∧ (a = none → n = 0) ∧ ∀ p, a = some p → ∀ (j : Nat) (y : Value), xs[j]? = some y → m.w.cell? (p.add j) = some y := by
  have dcase : ∀ {rows : List (List D)} {v : Value}, RD m.w (m.av S) (.slice rows) v → (∀ r ∈ rows, r.length = sz) →
      ∃ a k, v = .slice a rows.length k ∧ rows.length ≤ k ∧ k ≤ maxLen ∧ ∃ xs, RVs S m (rows.flatten.map .d) xs ∧ (rows.flatten.map V.d).length = rows.length * sz ∧ (rows.flatten.map V.d).all V.one = true ∧ (a = none → rows.length = 0) ∧ ∀ p, a = some p → ∀ (j : Nat) (y : Value), xs[j]? = some y → m.w.cell? (p.add j) = some y := by
    intro rows v hd hsz
    obtain ⟨a, k, xs, h1, h2, h3, h4, h5, h6, h7, h8⟩ := rd_elems (sz := sz) hd hsz
    exact ⟨a, k, h1, h2, h3, xs, h4, h5, h6, h7, h8⟩
  unfold rowsOf at h
  split at h
  · split at h
    · rename_i rows hall
      simp only [Option.some.injEq, Prod.mk.injEq] at h; obtain ⟨rfl, rfl, rfl⟩ := h
      cases hv with
      | d hd => exact dcase hd (allbeq hall)
    · simp at h
  · split at h
    · rename_i rows hall
      simp only [Option.some.injEq, Prod.mk.injEq] at h; obtain ⟨rfl, rfl, rfl⟩ := h
      cases hv with
      | full hd => exact dcase hd (allbeq hall)
    · simp at h
  · rename_i id g off len sz' cap
    split at h
    · rename_i o hl hbeq
      split at h
      · rename_i hble
        simp only [Option.some.injEq, Prod.mk.injEq] at h; obtain ⟨rfl, rfl, rfl⟩ := h
        obtain ⟨ho, _, hok⟩ := hv.osl_live hl
        have hsz : sz = sz' := Nat.eq_of_beq_eq_true hbeq
        have hle : off + len * sz ≤ o.cells.length := Nat.le_of_ble_eq_true hble
        unfold OslOK at hok
        cases hat : m.at_ id with
        | none =>
          simp only [hat] at hok
          obtain ⟨rfl, rfl, rfl, a, rfl⟩ := hok
          have hn := hR.none_ id o ho hat
          exact ⟨a, 0, rfl, Nat.le_refl _, Nat.zero_le _, [], by simp [hn, RVs.nil], by simp [hn], by simp [hn], fun _ => rfl, fun p _ j y hy => by simp at hy⟩
        | some q =>
          obtain ⟨b, base⟩ := q
          simp only [hat] at hok
          obtain ⟨p, k, rfl, hp, h2, h3, h4, _⟩ := hok
          obtain ⟨xs, hxs, hone, hc⟩ := hR.vals ho hat
          have hone' : ((o.cells.drop off).take (len * sz)).all V.one = true := by
            rw [List.all_eq_true] at hone ⊢
            exact fun z hz => hone z (List.mem_of_mem_drop (List.mem_of_mem_take hz))
          refine ⟨some p, k, rfl, h3, h4, (xs.drop off).take (len * sz), (hxs.drop off).take _, by simp; omega, hone', (fun h => by cases h), ?_⟩
          rintro p' hp' j y hy
          injection hp' with hp'; subst hp'
          rw [List.getElem?_take] at hy
          split at hy
          · rename_i hj
            rcases hp with rfl | ⟨rfl, _⟩
            · rw [List.getElem?_drop] at hy
              rw [addr_add, Nat.add_assoc]
              exact hc _ _ hy
            · simp at hj
          · simp at hy
      · simp at h
    · simp at h
  · simp at h

theorem first_run {a : Option Addr} {n k sz : Nat} {xs : List Value} (w : World) (hl : xs.length = n * sz) (hn : a = none → n = 0) (h : ∀ p, a = some p → ∀ (j : Nat) (y : Value), xs[j]? = some y → w.cell? (p.add j) = some y) (n' : Nat) :
    (Builtin.firstCells sz n (.slice a n' k)).run P w = .ok xs.toArray w := by
  cases a with
  | none =>
    have := hn rfl
    subst this
    have : xs = [] := List.length_eq_zero_iff.1 (by simpa using hl)
    subst this
    exact run_firstCells_none w sz 0 n' k
  | some p => exact run_firstCells_some w sz n p n' k xs hl (h p rfl)

theorem run_grow (t ty e : TypeId) (i : TypeInfo) (z : Value) (w : World) (ht : P.underlying t = some (.slice e)) (hi : P.info? e = some i) (hz : i.zero = some z)
    {a b : Option Addr} {sLen sCap n k : Nat} {olds news : List Value} (hlo : olds.length = sLen * i.size) (hln : news.length = n * i.size) (ha : a = none → sLen = 0) (hb : b = none → n = 0)
    (hold : ∀ p, a = some p → ∀ (j : Nat) (y : Value), olds[j]? = some y → w.cell? (p.add j) = some y) (hnew : ∀ p, b = some p → ∀ (j : Nat) (y : Value), news[j]? = some y → w.cell? (p.add j) = some y)
    (hg : sCap < sLen + n) (h1 : 1 ≤ i.bytes) (hfit : (sLen + n) * i.bytes ≤ 140737488355328) :
    (Builtin.append_ #[t, t] ty #[.slice a sLen sCap, .slice b n k]).run P w =
      .ok (.slice (some ⟨w.heap.size, 0, none⟩) (sLen + n) (grownCap w (sLen + n) sCap e))
        (w.drew.alloc (.cells (olds.toArray ++ news.toArray ++ Builtin.zeroCells z.cells (grownCap w (sLen + n) sCap e - (sLen + n))) e)) := by
  have hn : ¬ (sLen + n ≤ sCap) := by omega
  have h48 : ¬ (281474976710656 < Builtin.nextslicecap (sLen + n) sCap * i.bytes) := by have := growslice_fits hg hfit; omega
  have hbz : i.bytes ≠ 0 := by omega
  have hf := first_run (P := P) (k := k) (n' := n) w.drew hln hb (by simpa using hnew)
  have hfo := first_run (P := P) (k := sCap) (n' := sLen) w.drew hlo ha (by simpa using hold)
  simp [Builtin.append_, run_underlying ht, sizeOf, typeInfo, zeroValue, hi, hz, Builtin.lenOf, hn, h48, hbz, Question.forced, hf, hfo, newRow, grownCap]
  congr 2
  apply Array.ext'
  simp [List.append_assoc]

theorem run_inplace_some (t ty e : TypeId) (i : TypeInfo) (w w' : World) (ht : P.underlying t = some (.slice e)) (hi : P.info? e = some i)
    {p : Addr} {b : Option Addr} {sLen sCap n k : Nat} {news : List Value} (hln : news.length = n * i.size) (hb : b = none → n = 0)
    (hnew : ∀ p, b = some p → ∀ (j : Nat) (y : Value), news[j]? = some y → w.cell? (p.add j) = some y) (hg : sLen + n ≤ sCap)
    (hst : (storeCells (p.add (sLen * i.size)) news).run P w = .ok () w') :
    (Builtin.append_ #[t, t] ty #[.slice (some p) sLen sCap, .slice b n k]).run P w = .ok (.slice (some p) (sLen + n) sCap) w' := by
  have hf := first_run (P := P) (k := k) (n' := n) w hln hb hnew
  simp [Builtin.append_, run_underlying ht, sizeOf, typeInfo, hi, Builtin.lenOf, hg, hf, hst]

theorem run_inplace_none (t ty e : TypeId) (i : TypeInfo) (w : World) (ht : P.underlying t = some (.slice e)) (hi : P.info? e = some i)
    {b : Option Addr} {k : Nat} : (Builtin.append_ #[t, t] ty #[.slice none 0 0, .slice b 0 k]).run P w = .ok (.slice none 0 0) w := by
  have hf : (Builtin.firstCells i.size 0 (.slice b 0 k)).run P w = .ok #[] w := by
    have := first_run (P := P) (a := b) (n := 0) (k := k) (sz := i.size) (xs := []) w (by simp) (fun _ => rfl) (fun p _ j y hy => by simp at hy) 0
    simpa using this
  simp [Builtin.append_, run_underlying ht, sizeOf, typeInfo, hi, Builtin.lenOf, hf]

theorem grown_le (w : World) {need old : Nat} {e : TypeId} (h : need < 2 ^ 63) : need ≤ grownCap w need old e ∧ grownCap w need old e ≤ maxLen := by
  unfold grownCap Question.cut maxLen
  have : w.tape w.drawn (.appendCap need old e) % (2 ^ 63 - need) < 2 ^ 63 - need := Nat.mod_lt _ (by omega)
  constructor
  · exact Nat.le_add_right _ _
  · show need + _ ≤ _
    omega

theorem zeroCells_size (z : Array Value) (n : Nat) : (Builtin.zeroCells z n).size = n * z.size := by simp [Builtin.zeroCells]

theorem fitsB_spec {n by_ : Nat} (h : fitsB n by_ = true) : 1 ≤ by_ ∧ n * by_ ≤ 140737488355328 ∧ n ≤ 140737488355328 := by
  simp only [fitsB, Bool.and_eq_true] at h
  have h1 := Nat.le_of_ble_eq_true h.1
  have h2 := Nat.le_of_ble_eq_true h.2
  refine ⟨h1, h2, ?_⟩
  have : n * 1 ≤ n * by_ := Nat.mul_le_mul_left _ h1
  omega

/-- A slice grows into a new row. -/
theorem grow_obj {id c sz n0 n1 by_ : Nat} {t ty e : TypeId} {i : TypeInfo} {z : Value} {a b : Option Addr} {sCap k : Nat} {vs us : List V} {xs ys : List Value} (hR : Rel S m)
    (ht : P.underlying t = some (.slice e)) (hi : P.info? e = some i) (hz : i.zero = some z) (hsz : i.size = sz) (hzs : z.cells.size = sz) (hby : i.bytes = by_) (hfit : fitsB (n0 + n1) by_ = true)
    (hvs : RVs S m vs xs) (hus : RVs S m us ys) (hl0 : vs.length = n0 * sz) (hl1 : us.length = n1 * sz) (ho0 : vs.all V.one = true) (ho1 : us.all V.one = true)
    (ha : a = none → n0 = 0) (hb : b = none → n1 = 0)
    (hca : ∀ p, a = some p → ∀ (j : Nat) (y : Value), xs[j]? = some y → m.w.cell? (p.add j) = some y) (hcb : ∀ p, b = some p → ∀ (j : Nat) (y : Value), ys[j]? = some y → m.w.cell? (p.add j) = some y)
    (hg : sCap < n0 + n1) (hiss : ¬ m.iss id c) :
    ∃ x m', (Builtin.append_ #[t, t] ty #[.slice a n0 sCap, .slice b n1 k]).run P m.w = .ok x m'.w ∧ Rel S m' ∧ Evo S m m' ∧ RV S m' (.osl id c 0 (n0 + n1) sz none) x ∧ m'.h = upd m.h id (some ⟨c, false, vs ++ us⟩) ∧
      m'.iss = (fun i g => m.iss i g ∨ (c ≤ g ∧ g < c + 1)) := by
  obtain ⟨hb1, hb2, hb3⟩ := fitsB_spec hfit
  have hrun := run_grow (P := P) t ty e i z m.w ht hi hz (a := a) (b := b) (sLen := n0) (sCap := sCap) (n := n1) (k := k) (olds := xs) (news := ys) (by rw [hsz, ← hl0, hvs.1]) (by rw [hsz, ← hl1, hus.1]) ha hb hca hcb hg (by omega) (by rw [hby]; exact hb2)
  obtain ⟨hcap1, hcap2⟩ := grown_le m.w (need := n0 + n1) (old := sCap) (e := e) (by omega)
  have hxl : xs.length = n0 * sz := by rw [← hvs.1, hl0]
  have hyl : ys.length = n1 * sz := by rw [← hus.1, hl1]
  have hsum : (n0 + n1) * sz = n0 * sz + n1 * sz := Nat.add_mul _ _ _
  obtain ⟨m', w1, w2, w3, w4, w5, w6⟩ := alloc_obj (id := id) (o' := ⟨c, false, vs ++ us⟩) (c := c) (dc := 1) (T := e)
    (cs' := xs.toArray ++ ys.toArray ++ Builtin.zeroCells z.cells (grownCap m.w (n0 + n1) sCap e - (n0 + n1)))
    (w' := m.w.drew.alloc (.cells (xs.toArray ++ ys.toArray ++ Builtin.zeroCells z.cells (grownCap m.w (n0 + n1) sCap e - (n0 + n1))) e)) hR rfl
    (by simp [zeroCells_size, hvs.1, hus.1]) hiss rfl rfl (by
      intro j v hv
      obtain ⟨y, h1, h2⟩ := (hvs.append hus).get hv
      have h3 : (vs ++ us).all V.one = true := by rw [List.all_append, ho0, ho1]; rfl
      refine ⟨List.all_eq_true.1 h3 v (List.mem_of_getElem? hv), y, ?_, h2⟩
      have hj : j < xs.length + ys.length := by
        have := (List.getElem?_eq_some_iff.1 h1).1
        simpa using this
      have e1 : (xs.toArray ++ ys.toArray)[j]? = some y := by
        rw [show xs.toArray ++ ys.toArray = (xs ++ ys).toArray by simp]; simpa using h1
      rw [Array.getElem?_append]
      rw [if_pos (by simp; omega)]
      exact e1)
  refine ⟨_, m', by rw [w1]; exact hrun, w5, w6, ?_, w2, w4⟩
  refine .osl (by rw [w4]; exact .inr ⟨Nat.le_refl _, by omega⟩) rfl fun o ho hgen => ?_
  rw [w2] at ho; simp at ho; subst ho
  unfold OslOK
  rw [w3]
  simp only [upd_same]
  refine ⟨_, _, rfl, .inl rfl, by simp [hl0, hl1]; omega, hcap1, hcap2, ⟨_, e, (0, 0), by rw [w1]; simp only [World.alloc]; exact Array.getElem?_push_size, ?_⟩, trivial⟩
  simp [zeroCells_size, hzs, hxl, hyl]
  have : (grownCap m.w (n0 + n1) sCap e - (n0 + n1)) * sz + (n0 + n1) * sz = grownCap m.w (n0 + n1) sCap e * sz := by rw [← Nat.add_mul]; congr 1; omega
  omega

end Go.Ab
