/- SameNames of a list and itself. -/
import Derived.Test.YtofbmhmdpeclnaaFuD
set_option linter.unusedVariables false
set_option linter.unusedSimpArgs false
namespace Go.Ab
open Go.Proofs

theorem encN_len (l : List (List UInt8)) : (encN l).length = l.length := by simp [encN]
theorem encN_get {l : List (List UInt8)} {i : Nat} (h : i < l.length) : (encN l)[i]? = some [.str l[i]] := by simp [encN, h]

theorem sameNames_loop (l : List (List UInt8)) (hl : l.length ≤ MX) : ∀ (d i : Nat), i + d = l.length → ∃ k : Int, TR 20 (inside Try.f20 0) (st [(0, .d (.slice (encN l))), (1, .d (.slice (encN l))), (5, .d (.int .i64 i))]) (.exit 0)
    (st [(0, .d (.slice (encN l))), (1, .d (.slice (encN l))), (5, .d (.int .i64 k)), (14, .d (.bool false))]) := by
  unfold MX at hl
  intro d
  induction d with
  | zero =>
    intro i hi
    have hi' : ¬ ((i : Int) < ((encN l).length : Int)) := by rw [encN_len]; omega
    refine ⟨i, Runs.loop_out (Runs.seq_out (Runs.seq (t := st [(0, .d (.slice (encN l))), (1, .d (.slice (encN l))), (5, .d (.int .i64 i)), (14, .d (.bool false))]) (Runs.qk [0, 1, 5, 14] rfl rfl (by kernel_rfl) ?_) (Runs.cond_false rfl Runs.exit)) (by simp)) (by simp)⟩
    simp [hi']
  | succ d ihd =>
    intro i hi
    have hlt : i < l.length := by omega
    have hi' : (i : Int) < ((encN l).length : Int) := by rw [encN_len]; omega
    have hix : idx (i : Int) (encN l).length = some i := idx_lt (by rw [encN_len]; exact hlt)
    have hy := encN_get hlt
    have hwr : IntKind.i64.wrap ((i : Int) + 1) = ((i + 1 : Nat) : Int) := by rw [wrap_id] <;> omega
    obtain ⟨k, hk⟩ := ihd (i + 1) (by omega)
    refine ⟨k, Runs.round (t := st [(0, .d (.slice (encN l))), (1, .d (.slice (encN l))), (5, .d (.int .i64 (i + 1 : Nat)))])
      (Runs.seq (Runs.seq (t := st [(0, .d (.slice (encN l))), (1, .d (.slice (encN l))), (5, .d (.int .i64 i)), (14, .d (.bool true))]) (Runs.qk [0, 1, 5, 14] rfl rfl (by kernel_rfl) ?_) (Runs.cond_true rfl Runs.skip))
        (Runs.seq (t := st [(0, .d (.slice (encN l))), (1, .d (.slice (encN l))), (5, .d (.int .i64 i)), (25, .d (.bool false))]) (Runs.block (Runs.seq (Runs.qk [0, 1, 5, 25] rfl rfl (by kernel_rfl) ?_) (Runs.cond_false rfl Runs.skip)) (by simp)) (Runs.qk [0, 1, 5] rfl rfl (by kernel_rfl) ?_))) ?_⟩
    · simp [hi']
    · simp [hix, hy]
    · simp [hwr]
    · rw [cut_st]; exact hk

theorem sameNames_self (l : List (List UInt8)) (hl : l.length ≤ MX) : den Try.prog Hn.cfg 20 [.d (.slice (encN l)), .d (.slice (encN l))] = some (.d (.bool true)) := by
  obtain ⟨k, hk⟩ := sameNames_loop l hl l.length 0 (by omega)
  refine den_runs (ex := .ret) (e' := [(4, .d (.bool true))]) Try.func20 rfl (by kernel_rfl) ?_ (.inr rfl) rfl rfl rfl
  refine Runs.seq (t := st [(0, .d (.slice (encN l))), (1, .d (.slice (encN l)))]) (Runs.qk [0, 1] rfl rfl (by kernel_rfl) ?_)
    (Runs.seq (t := st [(0, .d (.slice (encN l))), (1, .d (.slice (encN l))), (10, .d (.bool false))]) (Runs.seq (Runs.qk [0, 1, 10] rfl rfl (by kernel_rfl) ?_) (Runs.cond_false rfl Runs.skip))
      (Runs.seq (Runs.seq (t := st [(0, .d (.slice (encN l))), (1, .d (.slice (encN l))), (5, .d (.int .i64 (0 : Nat)))]) (Runs.qk [0, 1, 5] rfl rfl (by kernel_rfl) ?_) (Runs.block_exit hk))
        (Runs.seq (Runs.qk [4] rfl rfl (by kernel_rfl) ?_) Runs.ret)))
  · simp [envOf]
  · simp
  · simp
  · simp

end Go.Ab
