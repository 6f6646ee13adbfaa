/- weigh, light. -/
import Derived.Test.YtofbmhmdpeclnaaFuC
set_option linter.unusedVariables false
set_option linter.unusedSimpArgs false
namespace Go.Ab
open Go.Proofs

abbrev TR := @Runs Try.prog Hn.cfg

/-- The inner loop of 'weigh'. -/
theorem weigh_inner (l : List Y) (i : Nat) (k' : Int) (nm : List UInt8) (t : Int) (r : X) (outs : List (List UInt8)) (args : List X) (brs : List (List Y)) (hy : (encY l)[i]? = some (Y.mk k' nm t r outs args brs).cells) (hi : idx (i : Int) (encY l).length = some i)
    (hlb : brs.length ≤ MX) (ih : ∀ b ∈ brs, ∀ m : Int, ∃ w, den Try.prog Hn.cfg 16 [.d (.slice (encY b)), .d (.int .i64 m)] = some (.d (.int .i64 w))) (m : Int) :
    ∀ (d k : Nat) (n : Int), k + d = brs.length → ∃ n' : Int, ∃ k2 : Int, TR 16 (inside Try.f16 2) (st [(0, .d (.slice (encY l))), (1, .d (.int .i64 m)), (5, .d (.int .i64 n)), (6, .d (.int .i64 i)), (7, .d (.int .i64 k))]) (.exit 2)
      (st [(0, .d (.slice (encY l))), (1, .d (.int .i64 m)), (5, .d (.int .i64 n')), (6, .d (.int .i64 i)), (7, .d (.int .i64 k2)), (54, .d (.bool false))]) := by
  cases r with | mk x1 x2 x3 x4 x5 x6 =>
  simp only [Y.cells, X.cells] at hy
  unfold MX at hlb
  intro d
  induction d with
  | zero =>
    intro k n hk
    have hk' : ¬ ((k : Int) < ((encB brs).length : Int)) := by rw [encB_map]; simp; omega
    refine ⟨n, k, Runs.loop_out (Runs.seq_out (Runs.seq (t := st [(0, .d (.slice (encY l))), (1, .d (.int .i64 m)), (5, .d (.int .i64 n)), (6, .d (.int .i64 i)), (7, .d (.int .i64 k)), (54, .d (.bool false))]) (Runs.qk [0, 1, 5, 6, 7, 54] rfl rfl (by kernel_rfl) ?_) (Runs.cond_false rfl Runs.exit)) (by simp)) (by simp)⟩
    simp [hy, hi, hk']
  | succ d ihd =>
    intro k n hk
    have hk' : (k : Int) < ((encB brs).length : Int) := by rw [encB_map]; simp; omega
    have hkb : idx (k : Int) (encB brs).length = some k := idx_lt (by rw [encB_map]; simp; omega)
    have hlt : k < brs.length := by omega
    by_cases hn : n < m
    · obtain ⟨w, hw⟩ := ih brs[k] (List.getElem_mem hlt) (IntKind.i64.wrap (m - n))
      have hbk : (encB brs)[k]? = some [.slice (encY brs[k])] := by rw [encB_map]; simp [hlt]
      obtain ⟨n', k2, hr⟩ := ihd (k + 1) (IntKind.i64.wrap (n + w)) (by omega)
      refine ⟨n', k2, Runs.round (t := st [(0, .d (.slice (encY l))), (1, .d (.int .i64 m)), (5, .d (.int .i64 (IntKind.i64.wrap (n + w)))), (6, .d (.int .i64 i)), (7, .d (.int .i64 (k + 1 : Nat)))])
        (Runs.seq (Runs.seq (t := st [(0, .d (.slice (encY l))), (1, .d (.int .i64 m)), (5, .d (.int .i64 n)), (6, .d (.int .i64 i)), (7, .d (.int .i64 k)), (54, .d (.bool true))]) (Runs.qk [0, 1, 5, 6, 7, 54] rfl rfl (by kernel_rfl) ?_)
          (Runs.cond_true rfl Runs.skip)) (Runs.seq (t := st [(0, .d (.slice (encY l))), (1, .d (.int .i64 m)), (5, .d (.int .i64 (IntKind.i64.wrap (n + w)))), (6, .d (.int .i64 i)), (7, .d (.int .i64 k))]) (Runs.block (Runs.qk [0, 1, 5, 6, 7] rfl rfl (by kernel_rfl) ?_) (by simp)) (Runs.qk [0, 1, 5, 6, 7] rfl rfl (by kernel_rfl) ?_))) ?_⟩
      · simp [hy, hi, hk', hn]
      · simp [hy, hi, hbk, hkb, hw]
      · have hwr : IntKind.i64.wrap ((k : Int) + 1) = ((k + 1 : Nat) : Int) := by rw [wrap_id] <;> omega
        simp [hwr]
      · rw [cut_st]; exact hr
    · refine ⟨n, k, Runs.loop_out (Runs.seq_out (Runs.seq (t := st [(0, .d (.slice (encY l))), (1, .d (.int .i64 m)), (5, .d (.int .i64 n)), (6, .d (.int .i64 i)), (7, .d (.int .i64 k)), (54, .d (.bool false))]) (Runs.qk [0, 1, 5, 6, 7, 54] rfl rfl (by kernel_rfl) ?_) (Runs.cond_false rfl Runs.exit)) (by simp)) (by simp)⟩
      simp [hy, hi, hk', hn]

/-- The outer loop of 'weigh'. -/
theorem weigh_outer (l : List Y) (hl : szY l ≤ MX) (ih : ∀ y ∈ l, ∀ k nm t r outs args brs, y = Y.mk k nm t r outs args brs → ∀ b ∈ brs, ∀ m : Int, ∃ w, den Try.prog Hn.cfg 16 [.d (.slice (encY b)), .d (.int .i64 m)] = some (.d (.int .i64 w))) (m : Int) :
    ∀ (d i : Nat) (n : Int), i + d = l.length → ∃ n' : Int, ∃ i2 : Int, TR 16 (inside Try.f16 0) (st [(0, .d (.slice (encY l))), (1, .d (.int .i64 m)), (5, .d (.int .i64 n)), (6, .d (.int .i64 i))]) (.exit 0)
      (st [(0, .d (.slice (encY l))), (1, .d (.int .i64 m)), (5, .d (.int .i64 n')), (6, .d (.int .i64 i2)), (16, .d (.bool false))]) := by
  intro d
  have hll := len_szY l
  unfold MX at hl
  induction d with
  | zero =>
    intro i n hi
    have hi' : ¬ ((i : Int) < ((encY l).length : Int)) := by rw [encY_len]; omega
    refine ⟨n, i, Runs.loop_out (Runs.seq_out (Runs.seq (t := st [(0, .d (.slice (encY l))), (1, .d (.int .i64 m)), (5, .d (.int .i64 n)), (6, .d (.int .i64 i)), (16, .d (.bool false))]) (Runs.qk [0, 1, 5, 6, 16] rfl rfl (by kernel_rfl) ?_) (Runs.cond_false rfl Runs.exit)) (by simp)) (by simp)⟩
    simp [hi']
  | succ d ihd =>
    intro i n hi
    have hlt : i < l.length := by omega
    have hi' : (i : Int) < ((encY l).length : Int) := by rw [encY_len]; omega
    have hix : idx (i : Int) (encY l).length = some i := idx_lt (by rw [encY_len]; exact hlt)
    have hy := encY_get hlt
    by_cases hn : n < m
    · cases hyy : l[i] with
      | mk k' nm t r outs args brs =>
        rw [hyy] at hy
        have hsz := mem_szY (List.getElem_mem hlt)
        rw [hyy] at hsz
        have hb := len_szB brs
        simp only [Y.sz] at hsz
        have hy2 := hy
        cases hr : r with | mk x1 x2 x3 x4 x5 x6 =>
        rw [hr] at hy2
        simp only [Y.cells, X.cells] at hy2
        obtain ⟨n2, k2, hin⟩ := weigh_inner l i k' nm t r outs args brs hy hix (by unfold MX; omega) (ih _ (List.getElem_mem hlt) k' nm t r outs args brs hyy) m brs.length 0 (IntKind.i64.wrap (IntKind.i64.wrap (IntKind.i64.wrap (IntKind.i64.wrap (n + 1) + (encN outs).length) + (encX args).length) + (encB brs).length)) (by omega)
        obtain ⟨n', i2, hrest⟩ := ihd (i + 1) n2 (by omega)
        have hwr : IntKind.i64.wrap ((i : Int) + 1) = ((i + 1 : Nat) : Int) := by rw [wrap_id] <;> omega
        refine ⟨n', i2, Runs.round (t := st [(0, .d (.slice (encY l))), (1, .d (.int .i64 m)), (5, .d (.int .i64 n2)), (6, .d (.int .i64 (i + 1 : Nat)))])
          (Runs.seq (Runs.seq (t := st [(0, .d (.slice (encY l))), (1, .d (.int .i64 m)), (5, .d (.int .i64 n)), (6, .d (.int .i64 i)), (16, .d (.bool true))]) (Runs.qk [0, 1, 5, 6, 16] rfl rfl (by kernel_rfl) ?_) (Runs.cond_true rfl Runs.skip))
            (Runs.seq (Runs.block (Runs.seq (Runs.qk [0, 1, 5, 6] (e' := [(0, .d (.slice (encY l))), (1, .d (.int .i64 m)), (5, .d (.int .i64 (IntKind.i64.wrap (IntKind.i64.wrap (IntKind.i64.wrap (IntKind.i64.wrap (n + 1) + (encN outs).length) + (encX args).length) + (encB brs).length)))), (6, .d (.int .i64 i))]) rfl rfl (by kernel_rfl) ?_)
              (Runs.seq (Runs.qk [0, 1, 5, 6, 7] (e' := [(0, .d (.slice (encY l))), (1, .d (.int .i64 m)), (5, .d (.int .i64 (IntKind.i64.wrap (IntKind.i64.wrap (IntKind.i64.wrap (IntKind.i64.wrap (n + 1) + (encN outs).length) + (encX args).length) + (encB brs).length)))), (6, .d (.int .i64 i)), (7, .d (.int .i64 (0 : Nat)))]) rfl rfl (by kernel_rfl) ?_) (Runs.block_exit hin))) (by simp)) (Runs.qk [0, 1, 5, 6] rfl rfl (by kernel_rfl) ?_))) ?_⟩
        · simp [hi', hn]
        · simp [hy2, hix]
        · simp
        · simp [hwr]
        · rw [cut_st]; exact hrest
    · refine ⟨n, i, Runs.loop_out (Runs.seq_out (Runs.seq (t := st [(0, .d (.slice (encY l))), (1, .d (.int .i64 m)), (5, .d (.int .i64 n)), (6, .d (.int .i64 i)), (16, .d (.bool false))]) (Runs.qk [0, 1, 5, 6, 16] rfl rfl (by kernel_rfl) ?_) (Runs.cond_false rfl Runs.exit)) (by simp)) (by simp)⟩
      simp [hi', hn]

theorem weigh_total : ∀ (N : Nat) (l : List Y), szY l < N → szY l ≤ MX → ∀ m : Int, ∃ w, den Try.prog Hn.cfg 16 [.d (.slice (encY l)), .d (.int .i64 m)] = some (.d (.int .i64 w)) := by
  intro N
  induction N with
  | zero => intro l hN hl m; omega
  | succ N ihN =>
    intro l hN hl m
    obtain ⟨n', i2, ho⟩ := weigh_outer l hl (fun y hy k nm t r outs args brs he b hb m => by
      have h1 := mem_szY hy
      have h2 := mem_szB hb
      rw [he] at h1
      simp only [Y.sz] at h1
      exact ihN b (by omega) (by omega) m) m l.length 0 0 (by omega)
    refine ⟨n', den_runs (ex := .ret) (e' := [(4, .d (.int .i64 n'))]) Try.func16 rfl (by kernel_rfl) ?_ (.inr rfl) rfl rfl rfl⟩
    refine Runs.seq (t := st [(0, .d (.slice (encY l))), (1, .d (.int .i64 m))]) (Runs.qk [0, 1] rfl rfl (by kernel_rfl) ?_)
      (Runs.seq (t := st [(0, .d (.slice (encY l))), (1, .d (.int .i64 m)), (5, .d (.int .i64 0))]) (Runs.qk [0, 1, 5] rfl rfl (by kernel_rfl) ?_)
        (Runs.seq (Runs.seq (t := st [(0, .d (.slice (encY l))), (1, .d (.int .i64 m)), (5, .d (.int .i64 0)), (6, .d (.int .i64 (0 : Nat)))]) (Runs.qk [0, 1, 5, 6] rfl rfl (by kernel_rfl) ?_) (Runs.block_exit ho))
          (Runs.seq (Runs.qk [4] rfl rfl (by kernel_rfl) ?_) Runs.ret)))
    · simp [envOf]
    · simp
    · simp
    · simp

/-- 'light' gives an answer. -/
theorem light_total (l : List Y) (hl : szY l ≤ MX) : ∃ b, den Try.prog Hn.cfg 7 [.d (.slice (encY l))] = some (.d (.bool b)) := by
  obtain ⟨w, hw⟩ := weigh_total (szY l + 1) l (by omega) hl 400
  refine ⟨decide (w < 400), den_runs (ex := .ret) (e' := [(2, .d (.bool (decide (w < 400))))]) Try.func7 rfl (by kernel_rfl) ?_ (.inr rfl) rfl rfl rfl⟩
  refine Runs.seq (t := st [(0, .d (.slice (encY l)))]) (Runs.qk [0] rfl rfl (by kernel_rfl) ?_) (Runs.seq (Runs.qk [2] rfl rfl (by kernel_rfl) ?_) Runs.ret)
  · simp [envOf]
  · simp [hw]

end Go.Ab
