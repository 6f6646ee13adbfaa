/- The longest way through a routine. -/
import Derived.Test.YtofhhkkncaoneaaDoorAcBM
import Derived.Test.YtofhhkkncaoneaaDoorAcDM
import Derived.Test.YtofhhkkncaoneaaDoorAcGM
import Derived.Test.YtofhhkkncaoneaaDoorAcJM
import Derived.Test.YtofhhkkncaoneaaDoorAcMM
import Derived.Test.YtofhhkkncaoneaaDoorAcSM
import Derived.Test.YtofhhkkncaoneaaDoorAcXM
import Derived.Test.YtofhhkkncaoneaaDoorAcUcM
import Derived.Test.YtofhhkkncaoneaaDoorAcThM
import Derived.Test.YtofhhkkncaoneaaDoorCpBM
import Derived.Test.YtofhhkkncaoneaaDoorCpD
import Derived.Test.YtofhhkkncaoneaaDoorCpIM
import Derived.Test.YtofhhkkncaoneaaDoorCrTM
import Derived.Test.YtofhhkkncaoneaaDoorCqFM
import Derived.Test.YtofhhkkncaoneaaDoorCqIM
import Derived.Test.YtofhhkkncaoneaaDoorCpWM
import Derived.Calls
import Derived.Orders
import Derived.Laws.World
import Derived.Laws.Sem
import Derived.Laws.Cells
import Derived.Laws.Append
import GoSem.ClaimData
import Derived.Laws.Tables
import Derived.Laws.Slices
import Derived.Laws.Strings
import Derived.Laws.Small
import Derived.KernelRfl
import Derived.Test.YtofhhkkncaoneaaDoorChecked
import Derived.Lib.RuneCount
set_option linter.unusedVariables false
set_option linter.unusedSimpArgs false
set_option maxRecDepth 4000
set_option linter.unusedSimpArgs false
set_option linter.unusedVariables false
namespace Go.Ac
open Go.Proofs

def iNo : I := ⟨0, 0, 0, 0, 0⟩
/-- What an instruction counts, from what the later ones count. -/
def nextL (bf nl : List Int) (at_ : Nat) (i : I) : Int :=
  if i.op = 7 then rgv nl i.b
  else if i.op = 8 then (if rgv nl i.b > rgv nl ((at_ : Int) + 1) then rgv nl i.b else rgv nl ((at_ : Int) + 1))
  else if i.op = 9 then rgv nl ((at_ : Int) + 1) + rgv bf i.a
  else rgv nl ((at_ : Int) + 1)
def capL (x : Int) : Int := if 1099511627777 < x then 1099511627777 else x
def lgN (bf : List Int) (code : List I) : Nat → List Int
  | 0 => List.replicate (code.length + 1) 0
  | d + 1 => (lgN bf code d).set (code.length - 1 - d) (capL (nextL bf (lgN bf code d) (code.length - 1 - d) (code.getD (code.length - 1 - d) iNo) + 1))
def lng (bf : List Int) (r : Rt) : Int := rgv (lgN bf r.code r.code.length) 0
def FarL (l : List Int) : Prop := ∀ v, v ∈ l → 0 ≤ v ∧ v ≤ 1099511627777
theorem rgv_far {l : List Int} (h : FarL l) (x : Int) : 0 ≤ rgv l x ∧ rgv l x ≤ 1099511627777 := by
  unfold rgv
  by_cases hx : x.toNat < l.length
  · have : l.getD x.toNat 0 = l[x.toNat] := by simp [List.getD, hx]
    rw [this]; exact h _ (List.getElem_mem hx)
  · have : l.getD x.toNat 0 = 0 := by simp [List.getD, List.getElem?_eq_none (Nat.le_of_not_lt hx)]
    rw [this]; omega
theorem nextL_far {bf nl : List Int} (hb : FarL bf) (hn : FarL nl) (a : Nat) (i : I) : 0 ≤ nextL bf nl a i ∧ nextL bf nl a i ≤ 2199023255554 := by
  have h1 := rgv_far hn i.b
  have h2 := rgv_far hn ((a : Int) + 1)
  have h3 := rgv_far hb i.a
  unfold nextL
  split
  · omega
  · split
    · split <;> omega
    · split <;> omega
theorem lgN_far {bf : List Int} {code : List I} (hb : FarL bf) : ∀ d, FarL (lgN bf code d)
  | 0 => fun v hv => by rw [lgN, List.mem_replicate] at hv; omega
  | d + 1 => fun v hv => by
    have ih := lgN_far (code := code) hb d
    rcases List.mem_or_eq_of_mem_set hv with h | rfl
    · exact ih v h
    · have := nextL_far hb ih (code.length - 1 - d) (code.getD (code.length - 1 - d) iNo)
      unfold capL; split <;> omega
theorem lgN_len {bf : List Int} {code : List I} : ∀ d, (lgN bf code d).length = code.length + 1
  | 0 => by simp [lgN]
  | d + 1 => by simp [lgN, lgN_len d]

set_option maxHeartbeats 4000000 in
theorem longest_den {rs : List Rt} {k R M : Nat} (r : Rt) (bf : List Int) (hbf : FarL bf) (hk : bf.length = k) (hok : ∀ a i, r.code[a]? = some i → OkI rs k R M a r.code.length i) (hcl : r.code.length ≤ 900000) : den Tryd.prog Cp.cfg 35 [aR r, dL bf] = some (dI (lng bf r)) := by
  obtain ⟨N, hN⟩ : ∃ N, N = r.code.length + 1 := ⟨_, rfl⟩
  have hwl : IntKind.i64.wrap ((r.code.length : Int) + 1) = (N : Int) := by rw [w_id'] <;> omega
  have hw1 : IntKind.i64.wrap ((r.code.length : Int) - 1) = (r.code.length : Int) - 1 := by rw [w_id'] <;> omega
  have hfit : fitsB N 8 = true := by simp [fitsB]; omega
  have g2 : ((N : Int) ≤ 9223372036854775807) = True := by simp; omega
  have hce := encC_len r.code
  refine den_wp Tryd.func35 rfl (by kernel_rfl) rfl rfl ?_
  refine wkc (And.intro @aR.eq_1 (And.intro @dI.eq_1 (And.intro @dL.eq_1 (And.intro @Rt.cells.eq_1 (And.intro @hwl (And.intro @hw1 (And.intro @hfit (And.intro @g2 (And.intro @makeV.eq_def (And.intro @rep_flat (And.intro @cI_rep (And.intro @fillV.eq_1 (And.intro @fillV.eq_2 @Value.oneCell'.eq_def))))))))))))) ?_
  apply WP.loop' (I := fun D s => ∃ (d : Nat) (z : Int) (g c' : Nat) (nl : List Int), d + D = r.code.length ∧ z = (D : Int) - 1 ∧ nl = lgN bf r.code d ∧ s = ⟨[(1, dL bf), (2, .ptr 0 0 0), (5, .osl 1 g 0 N 1 (some N)), (6, dI z)], [(0, ⟨0, false, r.cells.map .d⟩), (1, ⟨g, false, cI nl⟩)], 2, c', 0, []⟩) (d := r.code.length)
  · exact ⟨0, _, 1, _, _, by simp, rfl, rfl, st_eq (by simp [dI, dL]) (by simp [Rt.cells, lgN, hN])⟩
  clear hwl hw1 hfit g2
  rintro D _ ⟨d, z, g, c', nl, hd, hz, hnl, rfl⟩
  have hnn : nl.length = N := by rw [hnl, lgN_len, hN]
  have hfar : FarL nl := by rw [hnl]; exact lgN_far hbf d
  refine wk (And.intro @dI.eq_1 (And.intro @dL.eq_1 @Rt.cells.eq_1)) ?_
  show WP _ _ _ _ _ _
  refine WP.cond _ rfl (fun hb => ?_) (fun hb => ?_)
  · simp at hb
    obtain ⟨a, ha⟩ : ∃ a : Nat, z = a := ⟨z.toNat, by omega⟩
    subst ha
    have hal : a < r.code.length := by omega
    have hai : a = r.code.length - 1 - d := by omega
    have hi : r.code[a]? = some r.code[a] := by simp [hal]
    have hgd : r.code.getD (r.code.length - 1 - d) iNo = r.code[a] := by rw [← hai]; simp [List.getD, hal]
    obtain ⟨i, hie⟩ : ∃ i, i = r.code[a] := ⟨_, rfl⟩
    rw [← hie] at hi hgd
    have hoi := hok a i hi
    have hei := encC_at hi
    have hix := idx_lt hal
    have hixn := idx_lt (i := a) (n := nl.length) (by omega)
    have hw := w_succ hal (by omega)
    have hix2 := idx_lt (i := a + 1) (n := nl.length) (by omega)
    have hv2 := cI_at (rgv_at (l := nl) (j := a + 1) (by omega))
    have ecast : ((a + 1 : Nat) : Int) = (a : Int) + 1 := by omega
    rw [ecast] at hix2 hv2 hw
    have hnx := nextL_far hbf hfar a i
    have hput := fun v => cI_put (l := nl) (j := a) (by omega) v
    have hlt : (a < nl.length) = True := eq_true (by omega)
    have hlt' : (a + 1 ≤ nl.length) = True := eq_true (by omega)
    have hst : lgN bf r.code (d + 1) = nl.set a (capL (nextL bf nl a i + 1)) := by rw [lgN, hgd, ← hai, ← hnl]
    have hwz : IntKind.i64.wrap ((a : Int) - 1) = (a : Int) - 1 := by rw [w_id'] <;> omega
    have hwx : IntKind.i64.wrap (nextL bf nl a i + 1) = nextL bf nl a i + 1 := by rw [w_id'] <;> omega
    rw [← hnn]
    by_cases h7 : i.op = 7
    · obtain ⟨B, hB, hB1, hB2⟩ : ∃ B : Nat, i.b = B ∧ a < B ∧ B ≤ r.code.length := by
        cases hoi <;> simp at h7; exact ⟨_, rfl, by assumption, by assumption⟩
      have hixB := idx_lt (i := B) (n := nl.length) (by omega)
      have hvB := cI_at (rgv_at (l := nl) (j := B) (by omega))
      have hnv : rgv nl (B : Int) = nextL bf nl a i := by simp [nextL, h7, hB]
      rw [hnv] at hvB
      refine wkc (And.intro @dI.eq_1 (And.intro @dL.eq_1 (And.intro @Rt.cells.eq_1 (And.intro @I.cells.eq_1 (And.intro @hix (And.intro @hei (And.intro @hw (And.intro @hix2 (And.intro @hixn (And.intro @hv2 (And.intro @hvB (And.intro @hixB (And.intro @hB (And.intro @h7 (And.intro @int_beq (And.intro @cI_len (And.intro @nble_d (And.intro @maxV.eq_def (And.intro @maxI.eq_1 (And.intro @maxI.eq_2 (And.intro @maxI.eq_3 (And.intro @maxI.eq_4 (And.intro @hwx (And.intro @hput (And.intro @hlt (And.intro @hlt' (And.intro @Hp.get_set @hwz))))))))))))))))))))))))))) ?_
      refine loop_next (by simp; exact Is.rfl) ?_
      exact ⟨D - 1, by omega, d + 1, (a : Int) - 1, g, _, _, by omega, by omega, rfl, by rw [hst]; exact st_eq (by simp [dI, dL]) (by simp [Rt.cells, capL])⟩
    by_cases h8 : i.op = 8
    · obtain ⟨B, hB, hB1, hB2⟩ : ∃ B : Nat, i.b = B ∧ a < B ∧ B ≤ r.code.length := by
        cases hoi <;> simp at h8; exact ⟨_, rfl, by assumption, by assumption⟩
      have hixB := idx_lt (i := B) (n := nl.length) (by omega)
      have hvB := cI_at (rgv_at (l := nl) (j := B) (by omega))
      by_cases hgt : rgv nl ((a : Int) + 1) < rgv nl (B : Int)
      · have hgt' := eq_true hgt
        have hnv : rgv nl (B : Int) = nextL bf nl a i := by simp [nextL, h8, hB, hgt]
        rw [hnv] at hvB hgt'
        refine wkc (And.intro @dI.eq_1 (And.intro @dL.eq_1 (And.intro @Rt.cells.eq_1 (And.intro @I.cells.eq_1 (And.intro @hix (And.intro @hei (And.intro @hw (And.intro @hix2 (And.intro @hixn (And.intro @hv2 (And.intro @hvB (And.intro @hixB (And.intro @hB (And.intro @h8 (And.intro @hgt' (And.intro @int_beq (And.intro @cI_len (And.intro @nble_d (And.intro @maxV.eq_def (And.intro @maxI.eq_1 (And.intro @maxI.eq_2 (And.intro @maxI.eq_3 (And.intro @maxI.eq_4 (And.intro @hwx (And.intro @hput (And.intro @hlt (And.intro @hlt' (And.intro @Hp.get_set @hwz)))))))))))))))))))))))))))) ?_
        refine loop_next (by simp; exact Is.rfl) ?_
        exact ⟨D - 1, by omega, d + 1, (a : Int) - 1, g, _, _, by omega, by omega, rfl, by rw [hst]; exact st_eq (by simp [dI, dL]) (by simp [Rt.cells, capL])⟩
      · have hgt' := eq_false hgt
        have hnv : rgv nl ((a : Int) + 1) = nextL bf nl a i := by simp [nextL, h8, hB, hgt]
        rw [hnv] at hv2 hgt'
        refine wkc (And.intro @dI.eq_1 (And.intro @dL.eq_1 (And.intro @Rt.cells.eq_1 (And.intro @I.cells.eq_1 (And.intro @hix (And.intro @hei (And.intro @hw (And.intro @hix2 (And.intro @hixn (And.intro @hv2 (And.intro @hvB (And.intro @hixB (And.intro @hB (And.intro @h8 (And.intro @hgt' (And.intro @int_beq (And.intro @cI_len (And.intro @nble_d (And.intro @maxV.eq_def (And.intro @maxI.eq_1 (And.intro @maxI.eq_2 (And.intro @maxI.eq_3 (And.intro @maxI.eq_4 (And.intro @hwx (And.intro @hput (And.intro @hlt (And.intro @hlt' (And.intro @Hp.get_set @hwz)))))))))))))))))))))))))))) ?_
        refine loop_next (by simp; exact Is.rfl) ?_
        exact ⟨D - 1, by omega, d + 1, (a : Int) - 1, g, _, _, by omega, by omega, rfl, by rw [hst]; exact st_eq (by simp [dI, dL]) (by simp [Rt.cells, capL])⟩
    by_cases h9 : i.op = 9
    · obtain ⟨A, hA, hA1⟩ : ∃ A : Nat, i.a = A ∧ A < k := by
        cases hoi <;> simp at h9; exact ⟨_, rfl, by assumption⟩
      have hixA := idx_lt (i := A) (n := bf.length) (by omega)
      have hvA := encI_at (rgv_at (l := bf) (j := A) (by omega))
      have hnv : rgv nl ((a : Int) + 1) + rgv bf (A : Int) = nextL bf nl a i := by simp [nextL, h9, hA]
      have hws : IntKind.i64.wrap (rgv nl ((a : Int) + 1) + rgv bf (A : Int)) = nextL bf nl a i := by rw [w_id'] <;> omega
      refine wkc (And.intro @dI.eq_1 (And.intro @dL.eq_1 (And.intro @Rt.cells.eq_1 (And.intro @I.cells.eq_1 (And.intro @hix (And.intro @hei (And.intro @hw (And.intro @hix2 (And.intro @hixn (And.intro @hv2 (And.intro @hvA (And.intro @hixA (And.intro @hA (And.intro @h9 (And.intro @hws (And.intro @int_beq (And.intro @cI_len (And.intro @nble_d (And.intro @maxV.eq_def (And.intro @maxI.eq_1 (And.intro @maxI.eq_2 (And.intro @maxI.eq_3 (And.intro @maxI.eq_4 (And.intro @hwx (And.intro @hput (And.intro @hlt (And.intro @hlt' (And.intro @Hp.get_set @hwz)))))))))))))))))))))))))))) ?_
      refine loop_next (by simp; exact Is.rfl) ?_
      exact ⟨D - 1, by omega, d + 1, (a : Int) - 1, g, _, _, by omega, by omega, rfl, by rw [hst]; exact st_eq (by simp [dI, dL]) (by simp [Rt.cells, capL])⟩
    have hnv : rgv nl ((a : Int) + 1) = nextL bf nl a i := by simp [nextL, h7, h8, h9]
    rw [hnv] at hv2
    refine wkc (And.intro @dI.eq_1 (And.intro @dL.eq_1 (And.intro @Rt.cells.eq_1 (And.intro @I.cells.eq_1 (And.intro @hix (And.intro @hei (And.intro @hw (And.intro @hix2 (And.intro @hixn (And.intro @hv2 (And.intro @h7 (And.intro @h8 (And.intro @h9 (And.intro @int_beq (And.intro @cI_len (And.intro @nble_d (And.intro @maxV.eq_def (And.intro @maxI.eq_1 (And.intro @maxI.eq_2 (And.intro @maxI.eq_3 (And.intro @maxI.eq_4 (And.intro @hwx (And.intro @hput (And.intro @hlt (And.intro @hlt' (And.intro @Hp.get_set @hwz)))))))))))))))))))))))))) ?_
    refine loop_next (by simp; exact Is.rfl) ?_
    exact ⟨D - 1, by omega, d + 1, (a : Int) - 1, g, _, _, by omega, by omega, rfl, by rw [hst]; exact st_eq (by simp [dI, dL]) (by simp [Rt.cells, capL])⟩
  · simp at hb
    have hde : d = r.code.length := by omega
    have hz0 := rgv_at (l := nl) (j := 0) (by omega)
    have hz' : (cI nl).head? = some (V.d (.int .i64 (rgv nl 0))) := by have := cI_at hz0; rw [List.head?_eq_getElem?]; exact this
    have hlg : lng bf r = rgv nl 0 := by rw [hnl, hde]; rfl
    have hix : idx 0 nl.length = some 0 := idx_lt (i := 0) (n := nl.length) (by omega)
    have hlt : (0 < nl.length) = True := eq_true (by omega)
    have hlt' : (1 ≤ nl.length) = True := eq_true (by omega)
    have hzf : (0 ≤ z) = False := eq_false (by omega)
    rw [← hnn]
    refine wkc (And.intro @dI.eq_1 (And.intro @dL.eq_1 (And.intro @hix (And.intro @hz' (And.intro @cI_len (And.intro @nble_d (And.intro @hlt (And.intro @hlt' @hzf)))))))) ?_
    rw [hlg]
    show retQ _ _ _ _ _
    exact ⟨.inr rfl, _, _, rfl, rfl⟩
end Go.Ac
