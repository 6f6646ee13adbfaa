/- Joining: what it leaves is joined already; it adds no case, leaves no empty one, and keeps the statements of each path. Plain; no program in sight. -/
import Derived.Test.YtofbmhmdpeclnaaFuH
import Derived.Test.YtofbmhmdpeclnaaFuO
set_option linter.unusedVariables false
set_option linter.unusedSimpArgs false
set_option linter.unusedSimpArgs false
set_option linter.unusedVariables false
namespace Go.Ab

/-! ### Fuel -/
theorem brs_sz {y : Y} {b : List Y} (h : b ∈ y.brs) : szY b < y.sz := by
  have h1 := mem_szB h
  have h2 := Y.sz_eq y
  omega
theorem getLast_mem' {α : Type} {l : List α} {a : α} (h : l.getLast? = some a) : a ∈ l := by
  have := getLast_split h
  rw [this]; simp

theorem jstep_congr {f g : List Y → List Y} {B : Nat} (hf : ∀ l, szY (f l) ≤ szY l) (h : ∀ l, szY l < B → f l = g l) (out : List Y) (s : Y) (hB : szY out + s.sz ≤ B) : jstep f out s = jstep g out s := by
  have hm : s.brs.map f = s.brs.map g := List.map_congr_left fun b hb => h b (by have := brs_sz hb; omega)
  unfold jstep
  rw [← hm]
  split
  · split
    · rfl
    · split
      · rename_i a ha
        have hz : List.zipWith (fun x y => f (x ++ y)) a.brs (s.brs.map f) = List.zipWith (fun x y => g (x ++ y)) a.brs (s.brs.map f) := by
          have hxy : ∀ x y, x ∈ a.brs → y ∈ s.brs.map f → f (x ++ y) = g (x ++ y) := by
            intro x y hx hy
            rw [List.mem_map] at hy
            obtain ⟨b, hb, rfl⟩ := hy
            apply h
            have h1 := brs_sz hx
            have h2 := brs_sz hb
            have h3 := mem_szY (getLast_mem' ha)
            have h4 := hf b
            rw [szY_app]
            omega
          clear ha hm
          generalize s.brs.map f = bs at hxy ⊢
          generalize a.brs = av at hxy ⊢
          induction av generalizing bs with
          | nil => rfl
          | cons x r ih =>
            cases bs with
            | nil => rfl
            | cons y t =>
              simp only [List.zipWith]
              rw [hxy x y (by simp) (by simp), ih t (fun x' y' h1 h2 => hxy x' y' (by simp [h1]) (by simp [h2]))]
        rw [hz]
      · rfl
  · rfl

theorem Jf_fuel : ∀ (n m : Nat) (l : List Y), szY l < n → szY l < m → Jf n l = Jf m l
  | 0, _, _, h, _ => by omega
  | _ + 1, 0, _, _, h => by omega
  | n + 1, m + 1, l, h1, h2 => by
    have : ∀ (r out : List Y), szY out + szY r ≤ szY l → r.foldl (jstep (Jf n)) out = r.foldl (jstep (Jf m)) out := by
      intro r
      induction r with
      | nil => intro out _; rfl
      | cons y r ih =>
        intro out ho
        simp only [szY] at ho
        simp only [List.foldl]
        rw [jstep_congr (B := szY l) (Jf_sz n) (fun l' hl' => Jf_fuel n m l' (by omega) (by omega)) out y (by omega)]
        exact ih _ (by have := jstep_sz (Jf_sz m) out y; omega)
    exact this l [] (by simp [szY])

/-! ### What is joined -/
/-- No case follows one that it fits. -/
def adj : List Y → Prop
  | [] => True
  | [_] => True
  | a :: b :: r => (b.k = 3 → fitY a b = false) ∧ adj (b :: r)
mutual
def Y.nf : Y → Prop
  | .mk k _ _ _ _ _ brs => k = 3 → (nfB brs ∧ empB brs = false)
def nfY : List Y → Prop
  | [] => True
  | y :: r => y.nf ∧ nfY r
def nfB : List (List Y) → Prop
  | [] => True
  | b :: r => (nfY b ∧ adj b) ∧ nfB r
end
/-- A joined list. -/
def NF (l : List Y) : Prop := nfY l ∧ adj l
theorem Y.nf_eq (y : Y) : y.nf ↔ (y.k = 3 → nfB y.brs ∧ empB y.brs = false) := by cases y; simp only [Y.nf]; rfl
theorem nfY_mem : ∀ {l : List Y}, nfY l ↔ ∀ y ∈ l, y.nf
  | [] => by simp [nfY]
  | y :: r => by simp [nfY, nfY_mem (l := r)]
theorem nfB_mem : ∀ {l : List (List Y)}, nfB l ↔ ∀ b ∈ l, NF b
  | [] => by simp [nfB]
  | y :: r => by simp [nfB, nfB_mem (l := r), NF]

theorem adj_snoc : ∀ (l : List Y) (s : Y), adj l → (∀ a, l.getLast? = some a → s.k = 3 → fitY a s = false) → adj (l ++ [s])
  | [], s, _, _ => by simp [adj]
  | [a], s, _, h => by simp only [List.cons_append, List.nil_append, adj]; exact ⟨fun hk => h a (by simp) hk, trivial⟩
  | a :: b :: r, s, h, h' => by
    simp only [List.cons_append, adj] at h ⊢
    exact ⟨h.1, adj_snoc (b :: r) s h.2 (fun x hx => h' x (by simpa using hx))⟩
theorem adj_split : ∀ (l : List Y) (s : Y), adj (l ++ [s]) → adj l ∧ (∀ a, l.getLast? = some a → s.k = 3 → fitY a s = false)
  | [], s, _ => by simp [adj]
  | [a], s, h => by
    simp only [List.cons_append, List.nil_append, adj] at h
    refine ⟨by simp [adj], fun x hx => ?_⟩
    simp at hx; subst hx; exact h.1
  | a :: b :: r, s, h => by
    simp only [List.cons_append, adj] at h ⊢
    have := adj_split (b :: r) s h.2
    exact ⟨⟨h.1, this.1⟩, fun x hx => this.2 x (by simpa using hx)⟩

theorem adj_pre : ∀ (l r : List Y), adj (l ++ r) → adj l
  | [], _, _ => by simp [adj]
  | [a], _, _ => by simp [adj]
  | a :: b :: l, r, h => by
    simp only [List.cons_append, adj] at h ⊢
    exact ⟨h.1, adj_pre (b :: l) r h.2⟩
theorem zip_mem {f : List Y → List Y → List Y} : ∀ {a b : List (List Y)} {z : List Y}, z ∈ List.zipWith f a b → ∃ x y, x ∈ a ∧ y ∈ b ∧ z = f x y
  | [], _, z, h => by simp at h
  | x :: r, [], z, h => by simp at h
  | x :: r, y :: t, z, h => by
    simp only [List.zipWith, List.mem_cons] at h
    rcases h with h | h
    · exact ⟨x, y, by simp, by simp, h⟩
    · obtain ⟨x', y', h1, h2, h3⟩ := zip_mem h
      exact ⟨x', y', by simp [h1], by simp [h2], h3⟩

theorem with_k (y : Y) (b : List (List Y)) : (y.with b).k = y.k ∧ (y.with b).brs = b ∧ (y.with b).nm = y.nm ∧ (y.with b).t = y.t := ⟨rfl, rfl, rfl, rfl⟩
theorem with_self (y : Y) : y.with y.brs = y := by cases y; rfl

/-- What is joined already stays. -/
theorem Jf_nf : ∀ (n : Nat) (l : List Y), szY l < n → NF l → Jf n l = l
  | 0, _, h, _ => by omega
  | n + 1, l, h, hnf => by
    have : ∀ (r out : List Y), out ++ r = l → r.foldl (jstep (Jf n)) out = l := by
      intro r
      induction r with
      | nil => intro out ho; simpa using ho
      | cons s r ih =>
        intro out ho
        have hstep : jstep (Jf n) out s = out ++ [s] := by
          have hs : s ∈ l := by rw [← ho]; simp
          have hsn := nfY_mem.1 hnf.1 s hs
          rw [Y.nf_eq] at hsn
          have hsz := mem_szY hs
          unfold jstep
          split
          · rename_i hk
            obtain ⟨hb, he⟩ := hsn hk
            have hm : s.brs.map (Jf n) = s.brs := by
              conv => rhs; rw [← List.map_id s.brs]
              exact List.map_congr_left fun b hbm => by
                have := brs_sz hbm
                exact Jf_nf n b (by omega) (nfB_mem.1 hb b hbm)
            rw [hm, with_self, he]
            simp only [Bool.false_eq_true, ↓reduceIte]
            split
            · rename_i a ha
              have hadj : adj (out ++ [s]) := by
                have hl : adj ((out ++ [s]) ++ r) := by rw [List.append_assoc]; simpa [ho] using hnf.2
                exact adj_pre _ _ hl
              have := (adj_split out s hadj).2 a ha hk
              simp [this]
            · rfl
          · rfl
        simp only [List.foldl]
        rw [hstep]
        exact ih _ (by simpa using ho)
    exact this l [] (by simp)

theorem jstep_ne {rec : List Y → List Y} {out : List Y} (s : Y) (h : out ≠ []) : jstep rec out s ≠ [] := by
  unfold jstep
  split
  · split
    · exact h
    · split
      · split <;> simp
      · simp
  · simp
theorem fold_ne {rec : List Y → List Y} : ∀ (r out : List Y), out ≠ [] → r.foldl (jstep rec) out ≠ []
  | [], out, h => h
  | y :: r, out, h => fold_ne r _ (jstep_ne y h)
theorem Jf_ne {n : Nat} {x y : List Y} (hn : szY (x ++ y) < n) (hx : NF x) (hy : NF y) (h : x ≠ [] ∨ y ≠ []) : Jf n (x ++ y) ≠ [] := by
  rw [szY_app] at hn
  by_cases h0 : x = []
  · subst h0
    rw [List.nil_append, Jf_nf n y (by omega) hy]
    simpa using h
  · cases n with
    | zero => omega
    | succ n =>
      have h1 := Jf_nf (n + 1) x (by omega) hx
      simp only [Jf] at h1 ⊢
      rw [List.foldl_append, h1]
      exact fold_ne y x h0

/-- What joining leaves is joined. -/
theorem nf_Jf : ∀ (n : Nat) (l : List Y), szY l < n → NF (Jf n l)
  | 0, _, h => by omega
  | n + 1, l, h => by
    have : ∀ (r out : List Y), szY out + szY r ≤ szY l → NF out → NF (r.foldl (jstep (Jf n)) out) := by
      intro r
      induction r with
      | nil => intro out _ ho; exact ho
      | cons s r ih =>
        intro out hsz ho
        simp only [szY] at hsz
        simp only [List.foldl]
        have hjs := jstep_sz (Jf_sz n) out s
        refine ih _ (by omega) ?_
        have hbr : ∀ b ∈ s.brs.map (Jf n), NF b ∧ szY b < s.sz := by
          intro b hb
          rw [List.mem_map] at hb
          obtain ⟨c, hc, rfl⟩ := hb
          have h1 := brs_sz hc
          have h2 := Jf_sz n c
          exact ⟨nf_Jf n c (by omega), by omega⟩
        have hsnoc : ∀ s' : Y, s'.nf → (∀ a, out.getLast? = some a → s'.k = 3 → fitY a s' = false) → NF (out ++ [s']) := by
          intro s' h1 h2
          refine ⟨nfY_mem.2 fun y hy => ?_, adj_snoc out s' ho.2 h2⟩
          rw [List.mem_append] at hy
          rcases hy with hy | hy
          · exact nfY_mem.1 ho.1 y hy
          · simp at hy; subst hy; exact h1
        unfold jstep
        split
        · rename_i hk
          split
          · exact ho
          · rename_i he
            have he : empB (s.brs.map (Jf n)) = false := by simpa using he
            have hsn : (s.with (s.brs.map (Jf n))).nf := by
              rw [Y.nf_eq]
              exact fun _ => ⟨nfB_mem.2 fun b hb => (hbr b hb).1, he⟩
            split
            · rename_i a ha
              split
              · rename_i hfit
                have hout := getLast_split ha
                have ham := getLast_mem' ha
                have hasz := mem_szY ham
                have han := nfY_mem.1 ho.1 a ham
                rw [Y.nf_eq] at han
                unfold fitY at hfit
                simp only [Bool.and_eq_true, beq_iff_eq, with_k] at hfit
                obtain ⟨⟨⟨⟨hak, _⟩, _⟩, hlen⟩, _⟩ := hfit
                obtain ⟨hab, hae⟩ := han hak
                rw [nfB_mem] at hab
                rw [hout] at ho
                have hadj := adj_split _ _ ho.2
                refine ⟨nfY_mem.2 fun y hy => ?_, adj_snoc _ _ hadj.1 ?_⟩
                · rw [List.mem_append] at hy
                  rcases hy with hy | hy
                  · exact nfY_mem.1 ho.1 y (by simp [hy])
                  · simp only [List.mem_singleton] at hy
                    subst hy
                    rw [Y.nf_eq]
                    intro _
                    simp only [with_k]
                    refine ⟨nfB_mem.2 fun b hb => ?_, ?_⟩
                    · obtain ⟨x, y, hx, hy, rfl⟩ := zip_mem hb
                      have h1 := brs_sz hx
                      have h2 := hbr y hy
                      exact nf_Jf n (x ++ y) (by rw [szY_app]; omega)
                    · have : ∃ x ∈ a.brs, x ≠ [] := by
                        unfold empB at hae
                        rw [List.all_eq_false] at hae
                        obtain ⟨x, hx, hx'⟩ := hae
                        exact ⟨x, hx, by simpa using hx'⟩
                      obtain ⟨x, hx, hxne⟩ := this
                      obtain ⟨i, hi, hxi⟩ := List.getElem_of_mem hx
                      have hi2 : i < (s.brs.map (Jf n)).length := by omega
                      unfold empB
                      refine all_hit (y := Jf n (x ++ (s.brs.map (Jf n))[i])) ?_ ?_
                      · rw [List.mem_iff_getElem]
                        exact ⟨i, by rw [List.length_zipWith]; omega, by rw [List.getElem_zipWith, hxi]⟩
                      · have h1 := brs_sz hx
                        have h2 := hbr _ (List.getElem_mem hi2)
                        have := Jf_ne (n := n) (x := x) (y := (s.brs.map (Jf n))[i]) (by rw [szY_app]; omega) (hab x hx) h2.1 (.inl hxne)
                        simpa using this
                · intro p hp hk'
                  have := hadj.2 p hp hak
                  unfold fitY at this ⊢
                  rw [← this]
                  simp only [with_k, List.length_zipWith]
                  rw [← hlen, Nat.min_self]
              · rename_i hfit
                refine hsnoc _ hsn fun a' ha' _ => ?_
                rw [ha] at ha'
                simp only [Option.some.injEq] at ha'
                subst ha'
                simpa using hfit
            · rename_i hnone
              refine hsnoc _ hsn fun a' ha' _ => ?_
              rw [hnone] at ha'; cases ha'
        · rename_i hk
          exact hsnoc _ (by rw [Y.nf_eq]; exact fun h => absurd h hk) (fun _ _ h => absurd h hk)
    exact this l [] (by simp [szY]) ⟨by simp [nfY], by simp [adj]⟩

theorem Jf_again (n : Nat) (l : List Y) (h : szY l < n) : Jf n (Jf n l) = Jf n l :=
  Jf_nf n _ (by have := Jf_sz n l; omega) (nf_Jf n l h)

/-! ### Cases -/
mutual
theorem Y.nf_hol : ∀ y : Y, y.nf → y.hol = false
  | .mk k nm t r outs args brs, h => by
    simp only [Y.nf] at h
    simp only [Y.hol]
    by_cases hk : k = 3
    · have := nfB_hol brs (h hk).1
      simp [this, (h hk).2]
    · simp [hk]
theorem nfY_hol : ∀ l : List Y, nfY l → holY l = false
  | [], _ => by simp [holY]
  | y :: r, h => by
    simp only [nfY] at h
    simp [holY, Y.nf_hol y h.1, nfY_hol r h.2]
theorem nfB_hol : ∀ l : List (List Y), nfB l → holB l = false
  | [], _ => by simp [holB]
  | b :: r, h => by
    simp only [nfB] at h
    simp [holB, nfY_hol b h.1.1, nfB_hol r h.2]
end

theorem csY_app : ∀ (l r : List Y), csY (l ++ r) = csY l + csY r
  | [], r => by simp [csY]
  | y :: l, r => by simp [csY, csY_app l r]; omega
theorem csB_map {rec : List Y → List Y} (h : ∀ l, csY (rec l) ≤ csY l) : ∀ b : List (List Y), csB (b.map rec) ≤ csB b
  | [] => by simp
  | x :: r => by have := h x; have := csB_map h r; simp only [List.map, csB]; omega
theorem csB_zip {rec : List Y → List Y} (h : ∀ l, csY (rec l) ≤ csY l) : ∀ a b : List (List Y), csB (List.zipWith (fun x y => rec (x ++ y)) a b) ≤ csB a + csB b
  | [], b => by have := (csB_le b).1; simp only [List.zipWith, csB]; omega
  | x :: r, [] => by have := (csB_le (x :: r)).1; simp only [List.zipWith, csB] at *; omega
  | x :: r, y :: l => by
    have h1 := h (x ++ y)
    rw [csY_app] at h1
    have := csB_zip h r l
    simp only [List.zipWith, csB]; omega

theorem jstep_cs {rec : List Y → List Y} (h : ∀ l, csY (rec l) ≤ csY l) (out : List Y) (s : Y) : csY (jstep rec out s) ≤ csY out + s.cs := by
  have hb := csB_map h s.brs
  have hs0 := (Y.cs_le s).1
  have hsc := Y.cs_eq s
  unfold jstep
  split
  · rename_i hk
    rw [if_pos hk] at hsc
    have hw : (s.with (s.brs.map rec)).cs = 1 + csB (s.brs.map rec) := by rw [Y.cs_eq]; simp [with_k, hk]
    split
    · omega
    · split
      · rename_i a ha
        have hout := getLast_split ha
        have hso : csY out = csY out.dropLast + a.cs := by
          conv => lhs; rw [hout]
          rw [csY_app]; simp [csY]
        split
        · rename_i hfit
          unfold fitY at hfit
          simp only [Bool.and_eq_true, beq_iff_eq] at hfit
          have hak := hfit.1.1.1.1
          have hz := csB_zip h a.brs (s.brs.map rec)
          have hac := Y.cs_eq a
          rw [if_pos hak] at hac
          have hw2 : (a.with (List.zipWith (fun x y => rec (x ++ y)) a.brs (s.brs.map rec))).cs = 1 + csB (List.zipWith (fun x y => rec (x ++ y)) a.brs (s.brs.map rec)) := by rw [Y.cs_eq]; simp [with_k, hak]
          rw [csY_app]; simp only [csY]; omega
        · rw [csY_app]; simp only [csY]; omega
      · rw [csY_app]; simp only [csY]; omega
  · rw [csY_app]; simp only [csY]; omega

theorem Jf_cs : ∀ (n : Nat) (l : List Y), csY (Jf n l) ≤ csY l
  | 0, l => by have := (csY_le l).1; simp only [Jf, csY]; omega
  | n + 1, l => by
    have : ∀ (r out : List Y), csY (r.foldl (jstep (Jf n)) out) ≤ csY out + csY r := by
      intro r
      induction r with
      | nil => intro out; simp [csY]
      | cons y r ih =>
        intro out
        have h1 := jstep_cs (Jf_cs n) out y
        have h2 := ih (jstep (Jf n) out y)
        simp only [List.foldl, csY]; omega
    have := this l []
    simp only [Jf, csY] at this ⊢
    omega

/-! ### Paths -/
theorem Pf_app (n : Nat) (seed : Int) (x y : List Y) : Pf n seed (x ++ y) = Pf n seed x ++ Pf n seed y := by
  cases n with
  | zero => simp [Pf]
  | succ n => simp [Pf]
theorem pstep_congr {f g : List Y → List Y} (seed : Int) (s : Y) (h : ∀ b ∈ s.brs, f b = g b) : pstep f seed s = pstep g seed s := by
  unfold pstep
  split
  · split
    · rename_i b hb; exact h b (List.mem_of_getElem? hb)
    · rfl
  · rfl
theorem Pf_fuel (seed : Int) : ∀ (n m : Nat) (l : List Y), szY l < n → szY l < m → Pf n seed l = Pf m seed l
  | 0, _, _, h, _ => by omega
  | _ + 1, 0, _, _, h => by omega
  | n + 1, m + 1, l, h1, h2 => by
    simp only [Pf]
    rw [List.flatMap_def, List.flatMap_def]
    congr 1
    refine List.map_congr_left fun s hs => pstep_congr seed s fun b hb => ?_
    have h3 := mem_szY hs
    have h4 := brs_sz hb
    exact Pf_fuel seed n m b (by omega) (by omega)
theorem Pf_one (n : Nat) (seed : Int) (s : Y) : Pf (n + 1) seed [s] = pstep (Pf n seed) seed s := by simp [Pf]
theorem sel_with (seed : Int) (s : Y) (b : List (List Y)) (h : b.length = s.brs.length) : selY seed (s.with b) = selY seed s := by
  unfold selY kOf; simp only [with_k, h]

/-- Joining keeps the statements of each path. -/
theorem Pf_Jf (seed : Int) : ∀ (n : Nat) (l : List Y), szY l < n → Pf n seed (Jf n l) = Pf n seed l
  | 0, _, h => by omega
  | n + 1, l, h => by
    have hst : ∀ (out : List Y) (s : Y), szY out + s.sz ≤ szY l → Pf (n + 1) seed (jstep (Jf n) out s) = Pf (n + 1) seed out ++ pstep (Pf n seed) seed s := by
      intro out s hsz
      have hIH : ∀ b ∈ s.brs, Pf n seed (Jf n b) = Pf n seed b := fun b hb => by
        have := brs_sz hb
        exact Pf_Jf seed n b (by omega)
      have hs' : s.k = 3 → pstep (Pf n seed) seed (s.with (s.brs.map (Jf n))) = pstep (Pf n seed) seed s := by
        intro hk
        unfold pstep
        rw [if_pos (show (s.with (s.brs.map (Jf n))).k = 3 from hk), if_pos hk, sel_with seed s _ (by simp)]
        simp only [with_k, List.getElem?_map]
        cases hb : s.brs[selY seed s]? with
        | none => rfl
        | some b => exact hIH b (List.mem_of_getElem? hb)
      unfold jstep
      split
      · rename_i hk
        split
        · rename_i he
          have : pstep (Pf n seed) seed s = [] := by
            unfold pstep
            rw [if_pos hk]
            cases hb : s.brs[selY seed s]? with
            | none => rfl
            | some b =>
              have hbm := List.mem_of_getElem? hb
              show Pf n seed b = []
              rw [← hIH b hbm]
              unfold empB at he
              rw [List.all_eq_true] at he
              have := he (Jf n b) (List.mem_map_of_mem hbm)
              rw [List.isEmpty_iff] at this
              rw [this]
              cases n <;> simp [Pf]
          rw [this, List.append_nil]
        · split
          · rename_i a ha
            split
            · rename_i hfit
              have hout := getLast_split ha
              have hasz := mem_szY (getLast_mem' ha)
              conv => rhs; rw [hout]
              rw [Pf_app, Pf_app, List.append_assoc]
              congr 1
              rw [Pf_one, Pf_one, ← hs' hk]
              unfold fitY at hfit
              simp only [Bool.and_eq_true, beq_iff_eq, with_k] at hfit
              obtain ⟨⟨⟨⟨hak, hnm⟩, ht⟩, hlen⟩, _⟩ := hfit
              rw [List.length_map] at hlen
              have hsel : selY seed s = selY seed a := by unfold selY kOf; rw [hnm, ht, hlen]
              unfold pstep
              rw [if_pos (show (a.with _).k = 3 from hak), if_pos hak, if_pos (show (s.with _).k = 3 from hk), sel_with seed a _ (by simp [hlen]), sel_with seed s _ (by simp), hsel]
              simp only [with_k]
              rw [List.getElem?_zipWith]
              cases hx : a.brs[selY seed a]? with
              | none =>
                have : (s.brs.map (Jf n))[selY seed a]? = none := by
                  rw [List.getElem?_eq_none_iff] at hx ⊢
                  simpa [← hlen] using hx
                rw [this]; rfl
              | some x =>
                cases hy : (s.brs.map (Jf n))[selY seed a]? with
                | none =>
                  rw [List.getElem?_eq_none_iff, List.length_map, ← hlen] at hy
                  rw [List.getElem?_eq_none_iff.2 hy] at hx; cases hx
                | some y =>
                  have hxm := List.mem_of_getElem? hx
                  have hym := List.mem_of_getElem? hy
                  rw [List.mem_map] at hym
                  obtain ⟨c, hc, rfl⟩ := hym
                  have h1 := brs_sz hxm
                  have h2 := brs_sz hc
                  have h3 := Jf_sz n c
                  show Pf n seed (Jf n (x ++ Jf n c)) = Pf n seed x ++ Pf n seed (Jf n c)
                  rw [Pf_Jf seed n (x ++ Jf n c) (by rw [szY_app]; omega), Pf_app]
            · rw [Pf_app, Pf_one, hs' hk]
          · rw [Pf_app, Pf_one, hs' hk]
      · rename_i hk
        rw [Pf_app, Pf_one]
    have : ∀ (r out : List Y), szY out + szY r ≤ szY l → Pf (n + 1) seed (r.foldl (jstep (Jf n)) out) = Pf (n + 1) seed out ++ Pf (n + 1) seed r := by
      intro r
      induction r with
      | nil => intro out _; simp [Pf]
      | cons s r ih =>
        intro out hsz
        simp only [szY] at hsz
        have hjs := jstep_sz (Jf_sz n) out s
        simp only [List.foldl]
        rw [ih _ (by omega), hst out s (by omega), List.append_assoc]
        congr 1
    have := this l [] (by simp [szY])
    simpa [Pf, Jf] using this
end Go.Ab
