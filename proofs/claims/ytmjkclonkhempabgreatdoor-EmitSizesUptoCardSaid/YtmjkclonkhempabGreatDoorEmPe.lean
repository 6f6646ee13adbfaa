/- Forms of expressions and statements: the program's. -/
import Derived.Test.YtmjkclonkhempabGreatDoorEmPdM
set_option linter.unusedVariables false
set_option linter.unusedSimpArgs false
set_option maxRecDepth 4000
namespace Go.Ac
open Go.Proofs
theorem kf120 (r : Nat) : Ob.keep 120 r = Ob.k120 r := by kernel_rfl
theorem kf107 (r : Nat) : Ob.keep 107 r = Ob.k107 r := by kernel_rfl
attribute [local simp] kf120 Ob.k120 kf107 Ob.k107
set_option maxHeartbeats 1000000 in
theorem empty150 (x : X) : den Tryz.prog Ob.cfg 120 [aG x.cells] = some (dB (zeroE x)) := by
 refine den_wp Tryz.func120 rfl (by kernel_rfl) rfl rfl ?_
 unfold zeroE
 rw [X.cells_eq]
 by_cases c0 : x.k = 0
 ·have c0_ := eq_true c0
  by_cases c1 : x.o = 0
  ·have c1_ := eq_true c1
   by_cases c2 : x.t = 0
   ·have c2_ := eq_true c2
    by_cases c3 : x.v = 0
    ·have c3_ := eq_true c3
     by_cases c4 : x.nm = []
     ·have c4_ := eq_true c4
      by_cases c5 : x.args = []
      ·have c5_ := eq_true c5
       refine wkc (jn @aG.eq_1 (jn @int_beq (jn @tx_beq (jn @len0 (jn @c0_ (jn @c1_ (jn @c2_ (jn @c3_ (jn @c4_ @c5_))))))))) ?_
       exact ⟨.inr rfl, _, _, rfl, by simp [c0, c1, c2, c3, c4, c5]; rfl⟩
      ·have c5_ := eq_false c5
       refine wkc (jn @aG.eq_1 (jn @int_beq (jn @tx_beq (jn @len0 (jn @c0_ (jn @c1_ (jn @c2_ (jn @c3_ (jn @c4_ @c5_))))))))) ?_
       exact ⟨.inr rfl, _, _, rfl, by simp [c0, c1, c2, c3, c4, c5]; rfl⟩
     ·have c4_ := eq_false c4
      refine wkc (jn @aG.eq_1 (jn @int_beq (jn @tx_beq (jn @len0 (jn @c0_ (jn @c1_ (jn @c2_ (jn @c3_ @c4_)))))))) ?_
      exact ⟨.inr rfl, _, _, rfl, by simp [c0, c1, c2, c3, c4]; rfl⟩
    ·have c3_ := eq_false c3
     refine wkc (jn @aG.eq_1 (jn @int_beq (jn @tx_beq (jn @len0 (jn @c0_ (jn @c1_ (jn @c2_ @c3_))))))) ?_
     exact ⟨.inr rfl, _, _, rfl, by simp [c0, c1, c2, c3]; rfl⟩
   ·have c2_ := eq_false c2
    refine wkc (jn @aG.eq_1 (jn @int_beq (jn @tx_beq (jn @len0 (jn @c0_ (jn @c1_ @c2_)))))) ?_
    exact ⟨.inr rfl, _, _, rfl, by simp [c0, c1, c2]; rfl⟩
  ·have c1_ := eq_false c1
   refine wkc (jn @aG.eq_1 (jn @int_beq (jn @tx_beq (jn @len0 (jn @c0_ @c1_))))) ?_
   exact ⟨.inr rfl, _, _, rfl, by simp [c0, c1]; rfl⟩
 ·have c0_ := eq_false c0
  refine wkc (jn @aG.eq_1 (jn @int_beq (jn @tx_beq (jn @len0 @c0_)))) ?_
  exact ⟨.inr rfl, _, _, rfl, by simp [c0]; rfl⟩

set_option maxHeartbeats 8000000 in
theorem form133 (y : Y) : den Tryz.prog Ob.cfg 107 [aG y.cells] = some (dB (fieldsE y)) := by
 have hzr := empty150 y.r
 simp only [aG, X.cells_eq, List.map_cons, List.map_nil, dB] at hzr
 refine den_wp Tryz.func107 rfl (by kernel_rfl) rfl rfl ?_
 by_cases z : zeroE y.r = true
 ·have z_ := eq_true z
  by_cases e1 : y.outs = []
  ·have e1_ := eq_true e1
   by_cases e2 : y.args = []
   ·have e2_ := eq_true e2
    by_cases e3 : y.t = 0
    ·have e3_ := eq_true e3
     by_cases e4 : y.brs = []
     ·have e4_ := eq_true e4
      by_cases k1 : y.k = 1
      ·have k1_ := eq_true k1
       rw [show fieldsE y = true by simp [fieldsE, callsE, z, e1, e2, e3, e4, k1]]
       rw [z] at hzr
       refine wkc (jn @aG.eq_1 (jn @Y.cells_eq (jn @dL.eq_1 (jn @dB.eq_1 (jn @int_beq (jn @len0 (jn @encS_len (jn @encX_len (jn @encB_len (jn @hzr (jn @e1_ (jn @e2_ (jn @e3_ (jn @e4_ @k1_)))))))))))))) ?_
       show retQ _ _ _ _ _
       exact ⟨.inr rfl, _, _, rfl, rfl⟩
      ·have k1_ := eq_false k1
       by_cases k2 : y.k = 2
       ·have k2_ := eq_true k2
        rw [show fieldsE y = true by simp [fieldsE, callsE, z, e1, e2, e3, e4, k1, k2]]
        rw [z] at hzr
        refine wkc (jn @aG.eq_1 (jn @Y.cells_eq (jn @dL.eq_1 (jn @dB.eq_1 (jn @int_beq (jn @len0 (jn @encS_len (jn @encX_len (jn @encB_len (jn @hzr (jn @e1_ (jn @e2_ (jn @e3_ (jn @e4_ (jn @k1_ @k2_))))))))))))))) ?_
        show retQ _ _ _ _ _
        exact ⟨.inr rfl, _, _, rfl, rfl⟩
       ·have k2_ := eq_false k2
        by_cases k3 : y.k = 3
        ·have k3_ := eq_true k3
         rw [show fieldsE y = true by simp [fieldsE, callsE, z, e1, e2, e3, e4, k1, k2, k3]]
         rw [z] at hzr
         refine wkc (jn @aG.eq_1 (jn @Y.cells_eq (jn @dL.eq_1 (jn @dB.eq_1 (jn @int_beq (jn @len0 (jn @encS_len (jn @encX_len (jn @encB_len (jn @hzr (jn @e1_ (jn @e2_ (jn @e3_ (jn @e4_ (jn @k1_ (jn @k2_ @k3_)))))))))))))))) ?_
         show retQ _ _ _ _ _
         exact ⟨.inr rfl, _, _, rfl, rfl⟩
        ·have k3_ := eq_false k3
         by_cases k4 : y.k = 4
         ·have k4_ := eq_true k4
          rw [show fieldsE y = true by simp [fieldsE, callsE, z, e1, e2, e3, e4, k1, k2, k3, k4]]
          rw [z] at hzr
          refine wkc (jn @aG.eq_1 (jn @Y.cells_eq (jn @dL.eq_1 (jn @dB.eq_1 (jn @int_beq (jn @len0 (jn @encS_len (jn @encX_len (jn @encB_len (jn @hzr (jn @e1_ (jn @e2_ (jn @e3_ (jn @e4_ (jn @k1_ (jn @k2_ (jn @k3_ @k4_))))))))))))))))) ?_
          show retQ _ _ _ _ _
          exact ⟨.inr rfl, _, _, rfl, rfl⟩
         ·have k4_ := eq_false k4
          by_cases k5 : y.k = 5
          ·have k5_ := eq_true k5
           rw [show fieldsE y = true by simp [fieldsE, callsE, z, e1, e2, e3, e4, k1, k2, k3, k4, k5]]
           rw [z] at hzr
           refine wkc (jn @aG.eq_1 (jn @Y.cells_eq (jn @dL.eq_1 (jn @dB.eq_1 (jn @int_beq (jn @len0 (jn @encS_len (jn @encX_len (jn @encB_len (jn @hzr (jn @e1_ (jn @e2_ (jn @e3_ (jn @e4_ (jn @k1_ (jn @k2_ (jn @k3_ (jn @k4_ @k5_)))))))))))))))))) ?_
           show retQ _ _ _ _ _
           exact ⟨.inr rfl, _, _, rfl, rfl⟩
          ·have k5_ := eq_false k5
           rw [show fieldsE y = false by simp [fieldsE, callsE, z, e1, e2, e3, e4, k1, k2, k3, k4, k5]]
           rw [z] at hzr
           refine wkc (jn @aG.eq_1 (jn @Y.cells_eq (jn @dL.eq_1 (jn @dB.eq_1 (jn @int_beq (jn @len0 (jn @encS_len (jn @encX_len (jn @encB_len (jn @hzr (jn @e1_ (jn @e2_ (jn @e3_ (jn @e4_ (jn @k1_ (jn @k2_ (jn @k3_ (jn @k4_ @k5_)))))))))))))))))) ?_
           show retQ _ _ _ _ _
           exact ⟨.inr rfl, _, _, rfl, rfl⟩
     ·have e4_ := eq_false e4
      by_cases k1 : y.k = 1
      ·have k1_ := eq_true k1
       rw [show fieldsE y = false by simp [fieldsE, callsE, z, e1, e2, e3, e4, k1]]
       rw [z] at hzr
       refine wkc (jn @aG.eq_1 (jn @Y.cells_eq (jn @dL.eq_1 (jn @dB.eq_1 (jn @int_beq (jn @len0 (jn @encS_len (jn @encX_len (jn @encB_len (jn @hzr (jn @e1_ (jn @e2_ (jn @e3_ (jn @e4_ @k1_)))))))))))))) ?_
       show retQ _ _ _ _ _
       exact ⟨.inr rfl, _, _, rfl, rfl⟩
      ·have k1_ := eq_false k1
       by_cases k2 : y.k = 2
       ·have k2_ := eq_true k2
        rw [show fieldsE y = false by simp [fieldsE, callsE, z, e1, e2, e3, e4, k1, k2]]
        rw [z] at hzr
        refine wkc (jn @aG.eq_1 (jn @Y.cells_eq (jn @dL.eq_1 (jn @dB.eq_1 (jn @int_beq (jn @len0 (jn @encS_len (jn @encX_len (jn @encB_len (jn @hzr (jn @e1_ (jn @e2_ (jn @e3_ (jn @e4_ (jn @k1_ @k2_))))))))))))))) ?_
        show retQ _ _ _ _ _
        exact ⟨.inr rfl, _, _, rfl, rfl⟩
       ·have k2_ := eq_false k2
        by_cases k3 : y.k = 3
        ·have k3_ := eq_true k3
         rw [show fieldsE y = true by simp [fieldsE, callsE, z, e1, e2, e3, e4, k1, k2, k3]]
         rw [z] at hzr
         refine wkc (jn @aG.eq_1 (jn @Y.cells_eq (jn @dL.eq_1 (jn @dB.eq_1 (jn @int_beq (jn @len0 (jn @encS_len (jn @encX_len (jn @encB_len (jn @hzr (jn @e1_ (jn @e2_ (jn @e3_ (jn @e4_ (jn @k1_ (jn @k2_ @k3_)))))))))))))))) ?_
         show retQ _ _ _ _ _
         exact ⟨.inr rfl, _, _, rfl, rfl⟩
        ·have k3_ := eq_false k3
         by_cases k4 : y.k = 4
         ·have k4_ := eq_true k4
          rw [show fieldsE y = false by simp [fieldsE, callsE, z, e1, e2, e3, e4, k1, k2, k3, k4]]
          rw [z] at hzr
          refine wkc (jn @aG.eq_1 (jn @Y.cells_eq (jn @dL.eq_1 (jn @dB.eq_1 (jn @int_beq (jn @len0 (jn @encS_len (jn @encX_len (jn @encB_len (jn @hzr (jn @e1_ (jn @e2_ (jn @e3_ (jn @e4_ (jn @k1_ (jn @k2_ (jn @k3_ @k4_))))))))))))))))) ?_
          show retQ _ _ _ _ _
          exact ⟨.inr rfl, _, _, rfl, rfl⟩
         ·have k4_ := eq_false k4
          by_cases k5 : y.k = 5
          ·have k5_ := eq_true k5
           rw [show fieldsE y = false by simp [fieldsE, callsE, z, e1, e2, e3, e4, k1, k2, k3, k4, k5]]
           rw [z] at hzr
           refine wkc (jn @aG.eq_1 (jn @Y.cells_eq (jn @dL.eq_1 (jn @dB.eq_1 (jn @int_beq (jn @len0 (jn @encS_len (jn @encX_len (jn @encB_len (jn @hzr (jn @e1_ (jn @e2_ (jn @e3_ (jn @e4_ (jn @k1_ (jn @k2_ (jn @k3_ (jn @k4_ @k5_)))))))))))))))))) ?_
           show retQ _ _ _ _ _
           exact ⟨.inr rfl, _, _, rfl, rfl⟩
          ·have k5_ := eq_false k5
           rw [show fieldsE y = false by simp [fieldsE, callsE, z, e1, e2, e3, e4, k1, k2, k3, k4, k5]]
           rw [z] at hzr
           refine wkc (jn @aG.eq_1 (jn @Y.cells_eq (jn @dL.eq_1 (jn @dB.eq_1 (jn @int_beq (jn @len0 (jn @encS_len (jn @encX_len (jn @encB_len (jn @hzr (jn @e1_ (jn @e2_ (jn @e3_ (jn @e4_ (jn @k1_ (jn @k2_ (jn @k3_ (jn @k4_ @k5_)))))))))))))))))) ?_
           show retQ _ _ _ _ _
           exact ⟨.inr rfl, _, _, rfl, rfl⟩
    ·have e3_ := eq_false e3
     by_cases k1 : y.k = 1
     ·have k1_ := eq_true k1
      rw [show fieldsE y = false by simp [fieldsE, callsE, z, e1, e2, e3, k1]]
      rw [z] at hzr
      refine wkc (jn @aG.eq_1 (jn @Y.cells_eq (jn @dL.eq_1 (jn @dB.eq_1 (jn @int_beq (jn @len0 (jn @encS_len (jn @encX_len (jn @encB_len (jn @hzr (jn @e1_ (jn @e2_ (jn @e3_ @k1_))))))))))))) ?_
      show retQ _ _ _ _ _
      exact ⟨.inr rfl, _, _, rfl, rfl⟩
     ·have k1_ := eq_false k1
      by_cases k2 : y.k = 2
      ·have k2_ := eq_true k2
       rw [show fieldsE y = false by simp [fieldsE, callsE, z, e1, e2, e3, k1, k2]]
       rw [z] at hzr
       refine wkc (jn @aG.eq_1 (jn @Y.cells_eq (jn @dL.eq_1 (jn @dB.eq_1 (jn @int_beq (jn @len0 (jn @encS_len (jn @encX_len (jn @encB_len (jn @hzr (jn @e1_ (jn @e2_ (jn @e3_ (jn @k1_ @k2_)))))))))))))) ?_
       show retQ _ _ _ _ _
       exact ⟨.inr rfl, _, _, rfl, rfl⟩
      ·have k2_ := eq_false k2
       by_cases k3 : y.k = 3
       ·have k3_ := eq_true k3
        rw [show fieldsE y = true by simp [fieldsE, callsE, z, e1, e2, e3, k1, k2, k3]]
        rw [z] at hzr
        refine wkc (jn @aG.eq_1 (jn @Y.cells_eq (jn @dL.eq_1 (jn @dB.eq_1 (jn @int_beq (jn @len0 (jn @encS_len (jn @encX_len (jn @encB_len (jn @hzr (jn @e1_ (jn @e2_ (jn @e3_ (jn @k1_ (jn @k2_ @k3_))))))))))))))) ?_
        show retQ _ _ _ _ _
        exact ⟨.inr rfl, _, _, rfl, rfl⟩
       ·have k3_ := eq_false k3
        by_cases k4 : y.k = 4
        ·have k4_ := eq_true k4
         rw [show fieldsE y = false by simp [fieldsE, callsE, z, e1, e2, e3, k1, k2, k3, k4]]
         rw [z] at hzr
         refine wkc (jn @aG.eq_1 (jn @Y.cells_eq (jn @dL.eq_1 (jn @dB.eq_1 (jn @int_beq (jn @len0 (jn @encS_len (jn @encX_len (jn @encB_len (jn @hzr (jn @e1_ (jn @e2_ (jn @e3_ (jn @k1_ (jn @k2_ (jn @k3_ @k4_)))))))))))))))) ?_
         show retQ _ _ _ _ _
         exact ⟨.inr rfl, _, _, rfl, rfl⟩
        ·have k4_ := eq_false k4
         by_cases k5 : y.k = 5
         ·have k5_ := eq_true k5
          rw [show fieldsE y = false by simp [fieldsE, callsE, z, e1, e2, e3, k1, k2, k3, k4, k5]]
          rw [z] at hzr
          refine wkc (jn @aG.eq_1 (jn @Y.cells_eq (jn @dL.eq_1 (jn @dB.eq_1 (jn @int_beq (jn @len0 (jn @encS_len (jn @encX_len (jn @encB_len (jn @hzr (jn @e1_ (jn @e2_ (jn @e3_ (jn @k1_ (jn @k2_ (jn @k3_ (jn @k4_ @k5_))))))))))))))))) ?_
          show retQ _ _ _ _ _
          exact ⟨.inr rfl, _, _, rfl, rfl⟩
         ·have k5_ := eq_false k5
          rw [show fieldsE y = false by simp [fieldsE, callsE, z, e1, e2, e3, k1, k2, k3, k4, k5]]
          rw [z] at hzr
          refine wkc (jn @aG.eq_1 (jn @Y.cells_eq (jn @dL.eq_1 (jn @dB.eq_1 (jn @int_beq (jn @len0 (jn @encS_len (jn @encX_len (jn @encB_len (jn @hzr (jn @e1_ (jn @e2_ (jn @e3_ (jn @k1_ (jn @k2_ (jn @k3_ (jn @k4_ @k5_))))))))))))))))) ?_
          show retQ _ _ _ _ _
          exact ⟨.inr rfl, _, _, rfl, rfl⟩
   ·have e2_ := eq_false e2
    by_cases e3 : y.t = 0
    ·have e3_ := eq_true e3
     by_cases e4 : y.brs = []
     ·have e4_ := eq_true e4
      by_cases k1 : y.k = 1
      ·have k1_ := eq_true k1
       rw [show fieldsE y = false by simp [fieldsE, callsE, z, e1, e2, e3, e4, k1]]
       rw [z] at hzr
       refine wkc (jn @aG.eq_1 (jn @Y.cells_eq (jn @dL.eq_1 (jn @dB.eq_1 (jn @int_beq (jn @len0 (jn @encS_len (jn @encX_len (jn @encB_len (jn @hzr (jn @e1_ (jn @e2_ (jn @e3_ (jn @e4_ @k1_)))))))))))))) ?_
       show retQ _ _ _ _ _
       exact ⟨.inr rfl, _, _, rfl, rfl⟩
      ·have k1_ := eq_false k1
       by_cases k2 : y.k = 2
       ·have k2_ := eq_true k2
        rw [show fieldsE y = false by simp [fieldsE, callsE, z, e1, e2, e3, e4, k1, k2]]
        rw [z] at hzr
        refine wkc (jn @aG.eq_1 (jn @Y.cells_eq (jn @dL.eq_1 (jn @dB.eq_1 (jn @int_beq (jn @len0 (jn @encS_len (jn @encX_len (jn @encB_len (jn @hzr (jn @e1_ (jn @e2_ (jn @e3_ (jn @e4_ (jn @k1_ @k2_))))))))))))))) ?_
        show retQ _ _ _ _ _
        exact ⟨.inr rfl, _, _, rfl, rfl⟩
       ·have k2_ := eq_false k2
        by_cases k3 : y.k = 3
        ·have k3_ := eq_true k3
         rw [show fieldsE y = false by simp [fieldsE, callsE, z, e1, e2, e3, e4, k1, k2, k3]]
         rw [z] at hzr
         refine wkc (jn @aG.eq_1 (jn @Y.cells_eq (jn @dL.eq_1 (jn @dB.eq_1 (jn @int_beq (jn @len0 (jn @encS_len (jn @encX_len (jn @encB_len (jn @hzr (jn @e1_ (jn @e2_ (jn @e3_ (jn @e4_ (jn @k1_ (jn @k2_ @k3_)))))))))))))))) ?_
         show retQ _ _ _ _ _
         exact ⟨.inr rfl, _, _, rfl, rfl⟩
        ·have k3_ := eq_false k3
         by_cases k4 : y.k = 4
         ·have k4_ := eq_true k4
          rw [show fieldsE y = true by simp [fieldsE, callsE, z, e1, e2, e3, e4, k1, k2, k3, k4]]
          rw [z] at hzr
          refine wkc (jn @aG.eq_1 (jn @Y.cells_eq (jn @dL.eq_1 (jn @dB.eq_1 (jn @int_beq (jn @len0 (jn @encS_len (jn @encX_len (jn @encB_len (jn @hzr (jn @e1_ (jn @e2_ (jn @e3_ (jn @e4_ (jn @k1_ (jn @k2_ (jn @k3_ @k4_))))))))))))))))) ?_
          show retQ _ _ _ _ _
          exact ⟨.inr rfl, _, _, rfl, rfl⟩
         ·have k4_ := eq_false k4
          by_cases k5 : y.k = 5
          ·have k5_ := eq_true k5
           rw [show fieldsE y = false by simp [fieldsE, callsE, z, e1, e2, e3, e4, k1, k2, k3, k4, k5]]
           rw [z] at hzr
           refine wkc (jn @aG.eq_1 (jn @Y.cells_eq (jn @dL.eq_1 (jn @dB.eq_1 (jn @int_beq (jn @len0 (jn @encS_len (jn @encX_len (jn @encB_len (jn @hzr (jn @e1_ (jn @e2_ (jn @e3_ (jn @e4_ (jn @k1_ (jn @k2_ (jn @k3_ (jn @k4_ @k5_)))))))))))))))))) ?_
           show retQ _ _ _ _ _
           exact ⟨.inr rfl, _, _, rfl, rfl⟩
          ·have k5_ := eq_false k5
           rw [show fieldsE y = false by simp [fieldsE, callsE, z, e1, e2, e3, e4, k1, k2, k3, k4, k5]]
           rw [z] at hzr
           refine wkc (jn @aG.eq_1 (jn @Y.cells_eq (jn @dL.eq_1 (jn @dB.eq_1 (jn @int_beq (jn @len0 (jn @encS_len (jn @encX_len (jn @encB_len (jn @hzr (jn @e1_ (jn @e2_ (jn @e3_ (jn @e4_ (jn @k1_ (jn @k2_ (jn @k3_ (jn @k4_ @k5_)))))))))))))))))) ?_
           show retQ _ _ _ _ _
           exact ⟨.inr rfl, _, _, rfl, rfl⟩
     ·have e4_ := eq_false e4
      by_cases k1 : y.k = 1
      ·have k1_ := eq_true k1
       rw [show fieldsE y = false by simp [fieldsE, callsE, z, e1, e2, e3, e4, k1]]
       rw [z] at hzr
       refine wkc (jn @aG.eq_1 (jn @Y.cells_eq (jn @dL.eq_1 (jn @dB.eq_1 (jn @int_beq (jn @len0 (jn @encS_len (jn @encX_len (jn @encB_len (jn @hzr (jn @e1_ (jn @e2_ (jn @e3_ (jn @e4_ @k1_)))))))))))))) ?_
       show retQ _ _ _ _ _
       exact ⟨.inr rfl, _, _, rfl, rfl⟩
      ·have k1_ := eq_false k1
       by_cases k2 : y.k = 2
       ·have k2_ := eq_true k2
        rw [show fieldsE y = false by simp [fieldsE, callsE, z, e1, e2, e3, e4, k1, k2]]
        rw [z] at hzr
        refine wkc (jn @aG.eq_1 (jn @Y.cells_eq (jn @dL.eq_1 (jn @dB.eq_1 (jn @int_beq (jn @len0 (jn @encS_len (jn @encX_len (jn @encB_len (jn @hzr (jn @e1_ (jn @e2_ (jn @e3_ (jn @e4_ (jn @k1_ @k2_))))))))))))))) ?_
        show retQ _ _ _ _ _
        exact ⟨.inr rfl, _, _, rfl, rfl⟩
       ·have k2_ := eq_false k2
        by_cases k3 : y.k = 3
        ·have k3_ := eq_true k3
         rw [show fieldsE y = false by simp [fieldsE, callsE, z, e1, e2, e3, e4, k1, k2, k3]]
         rw [z] at hzr
         refine wkc (jn @aG.eq_1 (jn @Y.cells_eq (jn @dL.eq_1 (jn @dB.eq_1 (jn @int_beq (jn @len0 (jn @encS_len (jn @encX_len (jn @encB_len (jn @hzr (jn @e1_ (jn @e2_ (jn @e3_ (jn @e4_ (jn @k1_ (jn @k2_ @k3_)))))))))))))))) ?_
         show retQ _ _ _ _ _
         exact ⟨.inr rfl, _, _, rfl, rfl⟩
        ·have k3_ := eq_false k3
         by_cases k4 : y.k = 4
         ·have k4_ := eq_true k4
          rw [show fieldsE y = false by simp [fieldsE, callsE, z, e1, e2, e3, e4, k1, k2, k3, k4]]
          rw [z] at hzr
          refine wkc (jn @aG.eq_1 (jn @Y.cells_eq (jn @dL.eq_1 (jn @dB.eq_1 (jn @int_beq (jn @len0 (jn @encS_len (jn @encX_len (jn @encB_len (jn @hzr (jn @e1_ (jn @e2_ (jn @e3_ (jn @e4_ (jn @k1_ (jn @k2_ (jn @k3_ @k4_))))))))))))))))) ?_
          show retQ _ _ _ _ _
          exact ⟨.inr rfl, _, _, rfl, rfl⟩
         ·have k4_ := eq_false k4
          by_cases k5 : y.k = 5
          ·have k5_ := eq_true k5
           rw [show fieldsE y = false by simp [fieldsE, callsE, z, e1, e2, e3, e4, k1, k2, k3, k4, k5]]
           rw [z] at hzr
           refine wkc (jn @aG.eq_1 (jn @Y.cells_eq (jn @dL.eq_1 (jn @dB.eq_1 (jn @int_beq (jn @len0 (jn @encS_len (jn @encX_len (jn @encB_len (jn @hzr (jn @e1_ (jn @e2_ (jn @e3_ (jn @e4_ (jn @k1_ (jn @k2_ (jn @k3_ (jn @k4_ @k5_)))))))))))))))))) ?_
           show retQ _ _ _ _ _
           exact ⟨.inr rfl, _, _, rfl, rfl⟩
          ·have k5_ := eq_false k5
           rw [show fieldsE y = false by simp [fieldsE, callsE, z, e1, e2, e3, e4, k1, k2, k3, k4, k5]]
           rw [z] at hzr
           refine wkc (jn @aG.eq_1 (jn @Y.cells_eq (jn @dL.eq_1 (jn @dB.eq_1 (jn @int_beq (jn @len0 (jn @encS_len (jn @encX_len (jn @encB_len (jn @hzr (jn @e1_ (jn @e2_ (jn @e3_ (jn @e4_ (jn @k1_ (jn @k2_ (jn @k3_ (jn @k4_ @k5_)))))))))))))))))) ?_
           show retQ _ _ _ _ _
           exact ⟨.inr rfl, _, _, rfl, rfl⟩
    ·have e3_ := eq_false e3
     by_cases k1 : y.k = 1
     ·have k1_ := eq_true k1
      rw [show fieldsE y = false by simp [fieldsE, callsE, z, e1, e2, e3, k1]]
      rw [z] at hzr
      refine wkc (jn @aG.eq_1 (jn @Y.cells_eq (jn @dL.eq_1 (jn @dB.eq_1 (jn @int_beq (jn @len0 (jn @encS_len (jn @encX_len (jn @encB_len (jn @hzr (jn @e1_ (jn @e2_ (jn @e3_ @k1_))))))))))))) ?_
      show retQ _ _ _ _ _
      exact ⟨.inr rfl, _, _, rfl, rfl⟩
     ·have k1_ := eq_false k1
      by_cases k2 : y.k = 2
      ·have k2_ := eq_true k2
       rw [show fieldsE y = false by simp [fieldsE, callsE, z, e1, e2, e3, k1, k2]]
       rw [z] at hzr
       refine wkc (jn @aG.eq_1 (jn @Y.cells_eq (jn @dL.eq_1 (jn @dB.eq_1 (jn @int_beq (jn @len0 (jn @encS_len (jn @encX_len (jn @encB_len (jn @hzr (jn @e1_ (jn @e2_ (jn @e3_ (jn @k1_ @k2_)))))))))))))) ?_
       show retQ _ _ _ _ _
       exact ⟨.inr rfl, _, _, rfl, rfl⟩
      ·have k2_ := eq_false k2
       by_cases k3 : y.k = 3
       ·have k3_ := eq_true k3
        rw [show fieldsE y = false by simp [fieldsE, callsE, z, e1, e2, e3, k1, k2, k3]]
        rw [z] at hzr
        refine wkc (jn @aG.eq_1 (jn @Y.cells_eq (jn @dL.eq_1 (jn @dB.eq_1 (jn @int_beq (jn @len0 (jn @encS_len (jn @encX_len (jn @encB_len (jn @hzr (jn @e1_ (jn @e2_ (jn @e3_ (jn @k1_ (jn @k2_ @k3_))))))))))))))) ?_
        show retQ _ _ _ _ _
        exact ⟨.inr rfl, _, _, rfl, rfl⟩
       ·have k3_ := eq_false k3
        by_cases k4 : y.k = 4
        ·have k4_ := eq_true k4
         rw [show fieldsE y = false by simp [fieldsE, callsE, z, e1, e2, e3, k1, k2, k3, k4]]
         rw [z] at hzr
         refine wkc (jn @aG.eq_1 (jn @Y.cells_eq (jn @dL.eq_1 (jn @dB.eq_1 (jn @int_beq (jn @len0 (jn @encS_len (jn @encX_len (jn @encB_len (jn @hzr (jn @e1_ (jn @e2_ (jn @e3_ (jn @k1_ (jn @k2_ (jn @k3_ @k4_)))))))))))))))) ?_
         show retQ _ _ _ _ _
         exact ⟨.inr rfl, _, _, rfl, rfl⟩
        ·have k4_ := eq_false k4
         by_cases k5 : y.k = 5
         ·have k5_ := eq_true k5
          rw [show fieldsE y = false by simp [fieldsE, callsE, z, e1, e2, e3, k1, k2, k3, k4, k5]]
          rw [z] at hzr
          refine wkc (jn @aG.eq_1 (jn @Y.cells_eq (jn @dL.eq_1 (jn @dB.eq_1 (jn @int_beq (jn @len0 (jn @encS_len (jn @encX_len (jn @encB_len (jn @hzr (jn @e1_ (jn @e2_ (jn @e3_ (jn @k1_ (jn @k2_ (jn @k3_ (jn @k4_ @k5_))))))))))))))))) ?_
          show retQ _ _ _ _ _
          exact ⟨.inr rfl, _, _, rfl, rfl⟩
         ·have k5_ := eq_false k5
          rw [show fieldsE y = false by simp [fieldsE, callsE, z, e1, e2, e3, k1, k2, k3, k4, k5]]
          rw [z] at hzr
          refine wkc (jn @aG.eq_1 (jn @Y.cells_eq (jn @dL.eq_1 (jn @dB.eq_1 (jn @int_beq (jn @len0 (jn @encS_len (jn @encX_len (jn @encB_len (jn @hzr (jn @e1_ (jn @e2_ (jn @e3_ (jn @k1_ (jn @k2_ (jn @k3_ (jn @k4_ @k5_))))))))))))))))) ?_
          show retQ _ _ _ _ _
          exact ⟨.inr rfl, _, _, rfl, rfl⟩
  ·have e1_ := eq_false e1
   by_cases e3 : y.t = 0
   ·have e3_ := eq_true e3
    by_cases e4 : y.brs = []
    ·have e4_ := eq_true e4
     by_cases k1 : y.k = 1
     ·have k1_ := eq_true k1
      rw [show fieldsE y = false by simp [fieldsE, callsE, z, e1, e3, e4, k1]]
      rw [z] at hzr
      refine wkc (jn @aG.eq_1 (jn @Y.cells_eq (jn @dL.eq_1 (jn @dB.eq_1 (jn @int_beq (jn @len0 (jn @encS_len (jn @encX_len (jn @encB_len (jn @hzr (jn @e1_ (jn @e3_ (jn @e4_ @k1_))))))))))))) ?_
      show retQ _ _ _ _ _
      exact ⟨.inr rfl, _, _, rfl, rfl⟩
     ·have k1_ := eq_false k1
      by_cases k2 : y.k = 2
      ·have k2_ := eq_true k2
       rw [show fieldsE y = false by simp [fieldsE, callsE, z, e1, e3, e4, k1, k2]]
       rw [z] at hzr
       refine wkc (jn @aG.eq_1 (jn @Y.cells_eq (jn @dL.eq_1 (jn @dB.eq_1 (jn @int_beq (jn @len0 (jn @encS_len (jn @encX_len (jn @encB_len (jn @hzr (jn @e1_ (jn @e3_ (jn @e4_ (jn @k1_ @k2_)))))))))))))) ?_
       show retQ _ _ _ _ _
       exact ⟨.inr rfl, _, _, rfl, rfl⟩
      ·have k2_ := eq_false k2
       by_cases k3 : y.k = 3
       ·have k3_ := eq_true k3
        rw [show fieldsE y = false by simp [fieldsE, callsE, z, e1, e3, e4, k1, k2, k3]]
        rw [z] at hzr
        refine wkc (jn @aG.eq_1 (jn @Y.cells_eq (jn @dL.eq_1 (jn @dB.eq_1 (jn @int_beq (jn @len0 (jn @encS_len (jn @encX_len (jn @encB_len (jn @hzr (jn @e1_ (jn @e3_ (jn @e4_ (jn @k1_ (jn @k2_ @k3_))))))))))))))) ?_
        show retQ _ _ _ _ _
        exact ⟨.inr rfl, _, _, rfl, rfl⟩
       ·have k3_ := eq_false k3
        by_cases k4 : y.k = 4
        ·have k4_ := eq_true k4
         rw [show fieldsE y = true by simp [fieldsE, callsE, z, e1, e3, e4, k1, k2, k3, k4]]
         rw [z] at hzr
         refine wkc (jn @aG.eq_1 (jn @Y.cells_eq (jn @dL.eq_1 (jn @dB.eq_1 (jn @int_beq (jn @len0 (jn @encS_len (jn @encX_len (jn @encB_len (jn @hzr (jn @e1_ (jn @e3_ (jn @e4_ (jn @k1_ (jn @k2_ (jn @k3_ @k4_)))))))))))))))) ?_
         show retQ _ _ _ _ _
         exact ⟨.inr rfl, _, _, rfl, rfl⟩
        ·have k4_ := eq_false k4
         by_cases k5 : y.k = 5
         ·have k5_ := eq_true k5
          rw [show fieldsE y = false by simp [fieldsE, callsE, z, e1, e3, e4, k1, k2, k3, k4, k5]]
          rw [z] at hzr
          refine wkc (jn @aG.eq_1 (jn @Y.cells_eq (jn @dL.eq_1 (jn @dB.eq_1 (jn @int_beq (jn @len0 (jn @encS_len (jn @encX_len (jn @encB_len (jn @hzr (jn @e1_ (jn @e3_ (jn @e4_ (jn @k1_ (jn @k2_ (jn @k3_ (jn @k4_ @k5_))))))))))))))))) ?_
          show retQ _ _ _ _ _
          exact ⟨.inr rfl, _, _, rfl, rfl⟩
         ·have k5_ := eq_false k5
          rw [show fieldsE y = false by simp [fieldsE, callsE, z, e1, e3, e4, k1, k2, k3, k4, k5]]
          rw [z] at hzr
          refine wkc (jn @aG.eq_1 (jn @Y.cells_eq (jn @dL.eq_1 (jn @dB.eq_1 (jn @int_beq (jn @len0 (jn @encS_len (jn @encX_len (jn @encB_len (jn @hzr (jn @e1_ (jn @e3_ (jn @e4_ (jn @k1_ (jn @k2_ (jn @k3_ (jn @k4_ @k5_))))))))))))))))) ?_
          show retQ _ _ _ _ _
          exact ⟨.inr rfl, _, _, rfl, rfl⟩
    ·have e4_ := eq_false e4
     by_cases k1 : y.k = 1
     ·have k1_ := eq_true k1
      rw [show fieldsE y = false by simp [fieldsE, callsE, z, e1, e3, e4, k1]]
      rw [z] at hzr
      refine wkc (jn @aG.eq_1 (jn @Y.cells_eq (jn @dL.eq_1 (jn @dB.eq_1 (jn @int_beq (jn @len0 (jn @encS_len (jn @encX_len (jn @encB_len (jn @hzr (jn @e1_ (jn @e3_ (jn @e4_ @k1_))))))))))))) ?_
      show retQ _ _ _ _ _
      exact ⟨.inr rfl, _, _, rfl, rfl⟩
     ·have k1_ := eq_false k1
      by_cases k2 : y.k = 2
      ·have k2_ := eq_true k2
       rw [show fieldsE y = false by simp [fieldsE, callsE, z, e1, e3, e4, k1, k2]]
       rw [z] at hzr
       refine wkc (jn @aG.eq_1 (jn @Y.cells_eq (jn @dL.eq_1 (jn @dB.eq_1 (jn @int_beq (jn @len0 (jn @encS_len (jn @encX_len (jn @encB_len (jn @hzr (jn @e1_ (jn @e3_ (jn @e4_ (jn @k1_ @k2_)))))))))))))) ?_
       show retQ _ _ _ _ _
       exact ⟨.inr rfl, _, _, rfl, rfl⟩
      ·have k2_ := eq_false k2
       by_cases k3 : y.k = 3
       ·have k3_ := eq_true k3
        rw [show fieldsE y = false by simp [fieldsE, callsE, z, e1, e3, e4, k1, k2, k3]]
        rw [z] at hzr
        refine wkc (jn @aG.eq_1 (jn @Y.cells_eq (jn @dL.eq_1 (jn @dB.eq_1 (jn @int_beq (jn @len0 (jn @encS_len (jn @encX_len (jn @encB_len (jn @hzr (jn @e1_ (jn @e3_ (jn @e4_ (jn @k1_ (jn @k2_ @k3_))))))))))))))) ?_
        show retQ _ _ _ _ _
        exact ⟨.inr rfl, _, _, rfl, rfl⟩
       ·have k3_ := eq_false k3
        by_cases k4 : y.k = 4
        ·have k4_ := eq_true k4
         rw [show fieldsE y = false by simp [fieldsE, callsE, z, e1, e3, e4, k1, k2, k3, k4]]
         rw [z] at hzr
         refine wkc (jn @aG.eq_1 (jn @Y.cells_eq (jn @dL.eq_1 (jn @dB.eq_1 (jn @int_beq (jn @len0 (jn @encS_len (jn @encX_len (jn @encB_len (jn @hzr (jn @e1_ (jn @e3_ (jn @e4_ (jn @k1_ (jn @k2_ (jn @k3_ @k4_)))))))))))))))) ?_
         show retQ _ _ _ _ _
         exact ⟨.inr rfl, _, _, rfl, rfl⟩
        ·have k4_ := eq_false k4
         by_cases k5 : y.k = 5
         ·have k5_ := eq_true k5
          rw [show fieldsE y = false by simp [fieldsE, callsE, z, e1, e3, e4, k1, k2, k3, k4, k5]]
          rw [z] at hzr
          refine wkc (jn @aG.eq_1 (jn @Y.cells_eq (jn @dL.eq_1 (jn @dB.eq_1 (jn @int_beq (jn @len0 (jn @encS_len (jn @encX_len (jn @encB_len (jn @hzr (jn @e1_ (jn @e3_ (jn @e4_ (jn @k1_ (jn @k2_ (jn @k3_ (jn @k4_ @k5_))))))))))))))))) ?_
          show retQ _ _ _ _ _
          exact ⟨.inr rfl, _, _, rfl, rfl⟩
         ·have k5_ := eq_false k5
          rw [show fieldsE y = false by simp [fieldsE, callsE, z, e1, e3, e4, k1, k2, k3, k4, k5]]
          rw [z] at hzr
          refine wkc (jn @aG.eq_1 (jn @Y.cells_eq (jn @dL.eq_1 (jn @dB.eq_1 (jn @int_beq (jn @len0 (jn @encS_len (jn @encX_len (jn @encB_len (jn @hzr (jn @e1_ (jn @e3_ (jn @e4_ (jn @k1_ (jn @k2_ (jn @k3_ (jn @k4_ @k5_))))))))))))))))) ?_
          show retQ _ _ _ _ _
          exact ⟨.inr rfl, _, _, rfl, rfl⟩
   ·have e3_ := eq_false e3
    by_cases k1 : y.k = 1
    ·have k1_ := eq_true k1
     rw [show fieldsE y = false by simp [fieldsE, callsE, z, e1, e3, k1]]
     rw [z] at hzr
     refine wkc (jn @aG.eq_1 (jn @Y.cells_eq (jn @dL.eq_1 (jn @dB.eq_1 (jn @int_beq (jn @len0 (jn @encS_len (jn @encX_len (jn @encB_len (jn @hzr (jn @e1_ (jn @e3_ @k1_)))))))))))) ?_
     show retQ _ _ _ _ _
     exact ⟨.inr rfl, _, _, rfl, rfl⟩
    ·have k1_ := eq_false k1
     by_cases k2 : y.k = 2
     ·have k2_ := eq_true k2
      rw [show fieldsE y = false by simp [fieldsE, callsE, z, e1, e3, k1, k2]]
      rw [z] at hzr
      refine wkc (jn @aG.eq_1 (jn @Y.cells_eq (jn @dL.eq_1 (jn @dB.eq_1 (jn @int_beq (jn @len0 (jn @encS_len (jn @encX_len (jn @encB_len (jn @hzr (jn @e1_ (jn @e3_ (jn @k1_ @k2_))))))))))))) ?_
      show retQ _ _ _ _ _
      exact ⟨.inr rfl, _, _, rfl, rfl⟩
     ·have k2_ := eq_false k2
      by_cases k3 : y.k = 3
      ·have k3_ := eq_true k3
       rw [show fieldsE y = false by simp [fieldsE, callsE, z, e1, e3, k1, k2, k3]]
       rw [z] at hzr
       refine wkc (jn @aG.eq_1 (jn @Y.cells_eq (jn @dL.eq_1 (jn @dB.eq_1 (jn @int_beq (jn @len0 (jn @encS_len (jn @encX_len (jn @encB_len (jn @hzr (jn @e1_ (jn @e3_ (jn @k1_ (jn @k2_ @k3_)))))))))))))) ?_
       show retQ _ _ _ _ _
       exact ⟨.inr rfl, _, _, rfl, rfl⟩
      ·have k3_ := eq_false k3
       by_cases k4 : y.k = 4
       ·have k4_ := eq_true k4
        rw [show fieldsE y = false by simp [fieldsE, callsE, z, e1, e3, k1, k2, k3, k4]]
        rw [z] at hzr
        refine wkc (jn @aG.eq_1 (jn @Y.cells_eq (jn @dL.eq_1 (jn @dB.eq_1 (jn @int_beq (jn @len0 (jn @encS_len (jn @encX_len (jn @encB_len (jn @hzr (jn @e1_ (jn @e3_ (jn @k1_ (jn @k2_ (jn @k3_ @k4_))))))))))))))) ?_
        show retQ _ _ _ _ _
        exact ⟨.inr rfl, _, _, rfl, rfl⟩
       ·have k4_ := eq_false k4
        by_cases k5 : y.k = 5
        ·have k5_ := eq_true k5
         rw [show fieldsE y = false by simp [fieldsE, callsE, z, e1, e3, k1, k2, k3, k4, k5]]
         rw [z] at hzr
         refine wkc (jn @aG.eq_1 (jn @Y.cells_eq (jn @dL.eq_1 (jn @dB.eq_1 (jn @int_beq (jn @len0 (jn @encS_len (jn @encX_len (jn @encB_len (jn @hzr (jn @e1_ (jn @e3_ (jn @k1_ (jn @k2_ (jn @k3_ (jn @k4_ @k5_)))))))))))))))) ?_
         show retQ _ _ _ _ _
         exact ⟨.inr rfl, _, _, rfl, rfl⟩
        ·have k5_ := eq_false k5
         rw [show fieldsE y = false by simp [fieldsE, callsE, z, e1, e3, k1, k2, k3, k4, k5]]
         rw [z] at hzr
         refine wkc (jn @aG.eq_1 (jn @Y.cells_eq (jn @dL.eq_1 (jn @dB.eq_1 (jn @int_beq (jn @len0 (jn @encS_len (jn @encX_len (jn @encB_len (jn @hzr (jn @e1_ (jn @e3_ (jn @k1_ (jn @k2_ (jn @k3_ (jn @k4_ @k5_)))))))))))))))) ?_
         show retQ _ _ _ _ _
         exact ⟨.inr rfl, _, _, rfl, rfl⟩
 ·have z_ := eq_false z
  by_cases e1 : y.outs = []
  ·have e1_ := eq_true e1
   by_cases e2 : y.args = []
   ·have e2_ := eq_true e2
    by_cases e3 : y.t = 0
    ·have e3_ := eq_true e3
     by_cases e4 : y.brs = []
     ·have e4_ := eq_true e4
      by_cases k1 : y.k = 1
      ·have k1_ := eq_true k1
       have zf : zeroE y.r = false := by simpa using z
       rw [show fieldsE y = true by simp [fieldsE, callsE, zf, e1, e2, e3, e4, k1]]
       rw [zf] at hzr
       refine wkc (jn @aG.eq_1 (jn @Y.cells_eq (jn @dL.eq_1 (jn @dB.eq_1 (jn @int_beq (jn @len0 (jn @encS_len (jn @encX_len (jn @encB_len (jn @hzr (jn @e1_ (jn @e2_ (jn @e3_ (jn @e4_ @k1_)))))))))))))) ?_
       show retQ _ _ _ _ _
       exact ⟨.inr rfl, _, _, rfl, rfl⟩
      ·have k1_ := eq_false k1
       by_cases k2 : y.k = 2
       ·have k2_ := eq_true k2
        have zf : zeroE y.r = false := by simpa using z
        rw [show fieldsE y = true by simp [fieldsE, callsE, zf, e1, e2, e3, e4, k1, k2]]
        rw [zf] at hzr
        refine wkc (jn @aG.eq_1 (jn @Y.cells_eq (jn @dL.eq_1 (jn @dB.eq_1 (jn @int_beq (jn @len0 (jn @encS_len (jn @encX_len (jn @encB_len (jn @hzr (jn @e1_ (jn @e2_ (jn @e3_ (jn @e4_ (jn @k1_ @k2_))))))))))))))) ?_
        show retQ _ _ _ _ _
        exact ⟨.inr rfl, _, _, rfl, rfl⟩
       ·have k2_ := eq_false k2
        by_cases k3 : y.k = 3
        ·have k3_ := eq_true k3
         have zf : zeroE y.r = false := by simpa using z
         rw [show fieldsE y = false by simp [fieldsE, callsE, zf, e1, e2, e3, e4, k1, k2, k3]]
         rw [zf] at hzr
         refine wkc (jn @aG.eq_1 (jn @Y.cells_eq (jn @dL.eq_1 (jn @dB.eq_1 (jn @int_beq (jn @len0 (jn @encS_len (jn @encX_len (jn @encB_len (jn @hzr (jn @e1_ (jn @e2_ (jn @e3_ (jn @e4_ (jn @k1_ (jn @k2_ @k3_)))))))))))))))) ?_
         show retQ _ _ _ _ _
         exact ⟨.inr rfl, _, _, rfl, rfl⟩
        ·have k3_ := eq_false k3
         by_cases k4 : y.k = 4
         ·have k4_ := eq_true k4
          have zf : zeroE y.r = false := by simpa using z
          rw [show fieldsE y = false by simp [fieldsE, callsE, zf, e1, e2, e3, e4, k1, k2, k3, k4]]
          rw [zf] at hzr
          refine wkc (jn @aG.eq_1 (jn @Y.cells_eq (jn @dL.eq_1 (jn @dB.eq_1 (jn @int_beq (jn @len0 (jn @encS_len (jn @encX_len (jn @encB_len (jn @hzr (jn @e1_ (jn @e2_ (jn @e3_ (jn @e4_ (jn @k1_ (jn @k2_ (jn @k3_ @k4_))))))))))))))))) ?_
          show retQ _ _ _ _ _
          exact ⟨.inr rfl, _, _, rfl, rfl⟩
         ·have k4_ := eq_false k4
          by_cases k5 : y.k = 5
          ·have k5_ := eq_true k5
           have zf : zeroE y.r = false := by simpa using z
           rw [show fieldsE y = false by simp [fieldsE, callsE, zf, e1, e2, e3, e4, k1, k2, k3, k4, k5]]
           rw [zf] at hzr
           refine wkc (jn @aG.eq_1 (jn @Y.cells_eq (jn @dL.eq_1 (jn @dB.eq_1 (jn @int_beq (jn @len0 (jn @encS_len (jn @encX_len (jn @encB_len (jn @hzr (jn @e1_ (jn @e2_ (jn @e3_ (jn @e4_ (jn @k1_ (jn @k2_ (jn @k3_ (jn @k4_ @k5_)))))))))))))))))) ?_
           show retQ _ _ _ _ _
           exact ⟨.inr rfl, _, _, rfl, rfl⟩
          ·have k5_ := eq_false k5
           have zf : zeroE y.r = false := by simpa using z
           rw [show fieldsE y = false by simp [fieldsE, callsE, zf, e1, e2, e3, e4, k1, k2, k3, k4, k5]]
           rw [zf] at hzr
           refine wkc (jn @aG.eq_1 (jn @Y.cells_eq (jn @dL.eq_1 (jn @dB.eq_1 (jn @int_beq (jn @len0 (jn @encS_len (jn @encX_len (jn @encB_len (jn @hzr (jn @e1_ (jn @e2_ (jn @e3_ (jn @e4_ (jn @k1_ (jn @k2_ (jn @k3_ (jn @k4_ @k5_)))))))))))))))))) ?_
           show retQ _ _ _ _ _
           exact ⟨.inr rfl, _, _, rfl, rfl⟩
     ·have e4_ := eq_false e4
      by_cases k1 : y.k = 1
      ·have k1_ := eq_true k1
       have zf : zeroE y.r = false := by simpa using z
       rw [show fieldsE y = false by simp [fieldsE, callsE, zf, e1, e2, e3, e4, k1]]
       rw [zf] at hzr
       refine wkc (jn @aG.eq_1 (jn @Y.cells_eq (jn @dL.eq_1 (jn @dB.eq_1 (jn @int_beq (jn @len0 (jn @encS_len (jn @encX_len (jn @encB_len (jn @hzr (jn @e1_ (jn @e2_ (jn @e3_ (jn @e4_ @k1_)))))))))))))) ?_
       show retQ _ _ _ _ _
       exact ⟨.inr rfl, _, _, rfl, rfl⟩
      ·have k1_ := eq_false k1
       by_cases k2 : y.k = 2
       ·have k2_ := eq_true k2
        have zf : zeroE y.r = false := by simpa using z
        rw [show fieldsE y = false by simp [fieldsE, callsE, zf, e1, e2, e3, e4, k1, k2]]
        rw [zf] at hzr
        refine wkc (jn @aG.eq_1 (jn @Y.cells_eq (jn @dL.eq_1 (jn @dB.eq_1 (jn @int_beq (jn @len0 (jn @encS_len (jn @encX_len (jn @encB_len (jn @hzr (jn @e1_ (jn @e2_ (jn @e3_ (jn @e4_ (jn @k1_ @k2_))))))))))))))) ?_
        show retQ _ _ _ _ _
        exact ⟨.inr rfl, _, _, rfl, rfl⟩
       ·have k2_ := eq_false k2
        by_cases k3 : y.k = 3
        ·have k3_ := eq_true k3
         have zf : zeroE y.r = false := by simpa using z
         rw [show fieldsE y = false by simp [fieldsE, callsE, zf, e1, e2, e3, e4, k1, k2, k3]]
         rw [zf] at hzr
         refine wkc (jn @aG.eq_1 (jn @Y.cells_eq (jn @dL.eq_1 (jn @dB.eq_1 (jn @int_beq (jn @len0 (jn @encS_len (jn @encX_len (jn @encB_len (jn @hzr (jn @e1_ (jn @e2_ (jn @e3_ (jn @e4_ (jn @k1_ (jn @k2_ @k3_)))))))))))))))) ?_
         show retQ _ _ _ _ _
         exact ⟨.inr rfl, _, _, rfl, rfl⟩
        ·have k3_ := eq_false k3
         by_cases k4 : y.k = 4
         ·have k4_ := eq_true k4
          have zf : zeroE y.r = false := by simpa using z
          rw [show fieldsE y = false by simp [fieldsE, callsE, zf, e1, e2, e3, e4, k1, k2, k3, k4]]
          rw [zf] at hzr
          refine wkc (jn @aG.eq_1 (jn @Y.cells_eq (jn @dL.eq_1 (jn @dB.eq_1 (jn @int_beq (jn @len0 (jn @encS_len (jn @encX_len (jn @encB_len (jn @hzr (jn @e1_ (jn @e2_ (jn @e3_ (jn @e4_ (jn @k1_ (jn @k2_ (jn @k3_ @k4_))))))))))))))))) ?_
          show retQ _ _ _ _ _
          exact ⟨.inr rfl, _, _, rfl, rfl⟩
         ·have k4_ := eq_false k4
          by_cases k5 : y.k = 5
          ·have k5_ := eq_true k5
           have zf : zeroE y.r = false := by simpa using z
           rw [show fieldsE y = false by simp [fieldsE, callsE, zf, e1, e2, e3, e4, k1, k2, k3, k4, k5]]
           rw [zf] at hzr
           refine wkc (jn @aG.eq_1 (jn @Y.cells_eq (jn @dL.eq_1 (jn @dB.eq_1 (jn @int_beq (jn @len0 (jn @encS_len (jn @encX_len (jn @encB_len (jn @hzr (jn @e1_ (jn @e2_ (jn @e3_ (jn @e4_ (jn @k1_ (jn @k2_ (jn @k3_ (jn @k4_ @k5_)))))))))))))))))) ?_
           show retQ _ _ _ _ _
           exact ⟨.inr rfl, _, _, rfl, rfl⟩
          ·have k5_ := eq_false k5
           have zf : zeroE y.r = false := by simpa using z
           rw [show fieldsE y = false by simp [fieldsE, callsE, zf, e1, e2, e3, e4, k1, k2, k3, k4, k5]]
           rw [zf] at hzr
           refine wkc (jn @aG.eq_1 (jn @Y.cells_eq (jn @dL.eq_1 (jn @dB.eq_1 (jn @int_beq (jn @len0 (jn @encS_len (jn @encX_len (jn @encB_len (jn @hzr (jn @e1_ (jn @e2_ (jn @e3_ (jn @e4_ (jn @k1_ (jn @k2_ (jn @k3_ (jn @k4_ @k5_)))))))))))))))))) ?_
           show retQ _ _ _ _ _
           exact ⟨.inr rfl, _, _, rfl, rfl⟩
    ·have e3_ := eq_false e3
     by_cases k1 : y.k = 1
     ·have k1_ := eq_true k1
      have zf : zeroE y.r = false := by simpa using z
      rw [show fieldsE y = false by simp [fieldsE, callsE, zf, e1, e2, e3, k1]]
      rw [zf] at hzr
      refine wkc (jn @aG.eq_1 (jn @Y.cells_eq (jn @dL.eq_1 (jn @dB.eq_1 (jn @int_beq (jn @len0 (jn @encS_len (jn @encX_len (jn @encB_len (jn @hzr (jn @e1_ (jn @e2_ (jn @e3_ @k1_))))))))))))) ?_
      show retQ _ _ _ _ _
      exact ⟨.inr rfl, _, _, rfl, rfl⟩
     ·have k1_ := eq_false k1
      by_cases k2 : y.k = 2
      ·have k2_ := eq_true k2
       have zf : zeroE y.r = false := by simpa using z
       rw [show fieldsE y = false by simp [fieldsE, callsE, zf, e1, e2, e3, k1, k2]]
       rw [zf] at hzr
       refine wkc (jn @aG.eq_1 (jn @Y.cells_eq (jn @dL.eq_1 (jn @dB.eq_1 (jn @int_beq (jn @len0 (jn @encS_len (jn @encX_len (jn @encB_len (jn @hzr (jn @e1_ (jn @e2_ (jn @e3_ (jn @k1_ @k2_)))))))))))))) ?_
       show retQ _ _ _ _ _
       exact ⟨.inr rfl, _, _, rfl, rfl⟩
      ·have k2_ := eq_false k2
       by_cases k3 : y.k = 3
       ·have k3_ := eq_true k3
        have zf : zeroE y.r = false := by simpa using z
        rw [show fieldsE y = false by simp [fieldsE, callsE, zf, e1, e2, e3, k1, k2, k3]]
        rw [zf] at hzr
        refine wkc (jn @aG.eq_1 (jn @Y.cells_eq (jn @dL.eq_1 (jn @dB.eq_1 (jn @int_beq (jn @len0 (jn @encS_len (jn @encX_len (jn @encB_len (jn @hzr (jn @e1_ (jn @e2_ (jn @e3_ (jn @k1_ (jn @k2_ @k3_))))))))))))))) ?_
        show retQ _ _ _ _ _
        exact ⟨.inr rfl, _, _, rfl, rfl⟩
       ·have k3_ := eq_false k3
        by_cases k4 : y.k = 4
        ·have k4_ := eq_true k4
         have zf : zeroE y.r = false := by simpa using z
         rw [show fieldsE y = false by simp [fieldsE, callsE, zf, e1, e2, e3, k1, k2, k3, k4]]
         rw [zf] at hzr
         refine wkc (jn @aG.eq_1 (jn @Y.cells_eq (jn @dL.eq_1 (jn @dB.eq_1 (jn @int_beq (jn @len0 (jn @encS_len (jn @encX_len (jn @encB_len (jn @hzr (jn @e1_ (jn @e2_ (jn @e3_ (jn @k1_ (jn @k2_ (jn @k3_ @k4_)))))))))))))))) ?_
         show retQ _ _ _ _ _
         exact ⟨.inr rfl, _, _, rfl, rfl⟩
        ·have k4_ := eq_false k4
         by_cases k5 : y.k = 5
         ·have k5_ := eq_true k5
          have zf : zeroE y.r = false := by simpa using z
          rw [show fieldsE y = false by simp [fieldsE, callsE, zf, e1, e2, e3, k1, k2, k3, k4, k5]]
          rw [zf] at hzr
          refine wkc (jn @aG.eq_1 (jn @Y.cells_eq (jn @dL.eq_1 (jn @dB.eq_1 (jn @int_beq (jn @len0 (jn @encS_len (jn @encX_len (jn @encB_len (jn @hzr (jn @e1_ (jn @e2_ (jn @e3_ (jn @k1_ (jn @k2_ (jn @k3_ (jn @k4_ @k5_))))))))))))))))) ?_
          show retQ _ _ _ _ _
          exact ⟨.inr rfl, _, _, rfl, rfl⟩
         ·have k5_ := eq_false k5
          have zf : zeroE y.r = false := by simpa using z
          rw [show fieldsE y = false by simp [fieldsE, callsE, zf, e1, e2, e3, k1, k2, k3, k4, k5]]
          rw [zf] at hzr
          refine wkc (jn @aG.eq_1 (jn @Y.cells_eq (jn @dL.eq_1 (jn @dB.eq_1 (jn @int_beq (jn @len0 (jn @encS_len (jn @encX_len (jn @encB_len (jn @hzr (jn @e1_ (jn @e2_ (jn @e3_ (jn @k1_ (jn @k2_ (jn @k3_ (jn @k4_ @k5_))))))))))))))))) ?_
          show retQ _ _ _ _ _
          exact ⟨.inr rfl, _, _, rfl, rfl⟩
   ·have e2_ := eq_false e2
    by_cases e3 : y.t = 0
    ·have e3_ := eq_true e3
     by_cases e4 : y.brs = []
     ·have e4_ := eq_true e4
      by_cases k1 : y.k = 1
      ·have k1_ := eq_true k1
       have zf : zeroE y.r = false := by simpa using z
       rw [show fieldsE y = false by simp [fieldsE, callsE, zf, e1, e2, e3, e4, k1]]
       rw [zf] at hzr
       refine wkc (jn @aG.eq_1 (jn @Y.cells_eq (jn @dL.eq_1 (jn @dB.eq_1 (jn @int_beq (jn @len0 (jn @encS_len (jn @encX_len (jn @encB_len (jn @hzr (jn @e1_ (jn @e2_ (jn @e3_ (jn @e4_ @k1_)))))))))))))) ?_
       show retQ _ _ _ _ _
       exact ⟨.inr rfl, _, _, rfl, rfl⟩
      ·have k1_ := eq_false k1
       by_cases k2 : y.k = 2
       ·have k2_ := eq_true k2
        have zf : zeroE y.r = false := by simpa using z
        rw [show fieldsE y = false by simp [fieldsE, callsE, zf, e1, e2, e3, e4, k1, k2]]
        rw [zf] at hzr
        refine wkc (jn @aG.eq_1 (jn @Y.cells_eq (jn @dL.eq_1 (jn @dB.eq_1 (jn @int_beq (jn @len0 (jn @encS_len (jn @encX_len (jn @encB_len (jn @hzr (jn @e1_ (jn @e2_ (jn @e3_ (jn @e4_ (jn @k1_ @k2_))))))))))))))) ?_
        show retQ _ _ _ _ _
        exact ⟨.inr rfl, _, _, rfl, rfl⟩
       ·have k2_ := eq_false k2
        by_cases k3 : y.k = 3
        ·have k3_ := eq_true k3
         have zf : zeroE y.r = false := by simpa using z
         rw [show fieldsE y = false by simp [fieldsE, callsE, zf, e1, e2, e3, e4, k1, k2, k3]]
         rw [zf] at hzr
         refine wkc (jn @aG.eq_1 (jn @Y.cells_eq (jn @dL.eq_1 (jn @dB.eq_1 (jn @int_beq (jn @len0 (jn @encS_len (jn @encX_len (jn @encB_len (jn @hzr (jn @e1_ (jn @e2_ (jn @e3_ (jn @e4_ (jn @k1_ (jn @k2_ @k3_)))))))))))))))) ?_
         show retQ _ _ _ _ _
         exact ⟨.inr rfl, _, _, rfl, rfl⟩
        ·have k3_ := eq_false k3
         by_cases k4 : y.k = 4
         ·have k4_ := eq_true k4
          have zf : zeroE y.r = false := by simpa using z
          rw [show fieldsE y = false by simp [fieldsE, callsE, zf, e1, e2, e3, e4, k1, k2, k3, k4]]
          rw [zf] at hzr
          refine wkc (jn @aG.eq_1 (jn @Y.cells_eq (jn @dL.eq_1 (jn @dB.eq_1 (jn @int_beq (jn @len0 (jn @encS_len (jn @encX_len (jn @encB_len (jn @hzr (jn @e1_ (jn @e2_ (jn @e3_ (jn @e4_ (jn @k1_ (jn @k2_ (jn @k3_ @k4_))))))))))))))))) ?_
          show retQ _ _ _ _ _
          exact ⟨.inr rfl, _, _, rfl, rfl⟩
         ·have k4_ := eq_false k4
          by_cases k5 : y.k = 5
          ·have k5_ := eq_true k5
           have zf : zeroE y.r = false := by simpa using z
           rw [show fieldsE y = false by simp [fieldsE, callsE, zf, e1, e2, e3, e4, k1, k2, k3, k4, k5]]
           rw [zf] at hzr
           refine wkc (jn @aG.eq_1 (jn @Y.cells_eq (jn @dL.eq_1 (jn @dB.eq_1 (jn @int_beq (jn @len0 (jn @encS_len (jn @encX_len (jn @encB_len (jn @hzr (jn @e1_ (jn @e2_ (jn @e3_ (jn @e4_ (jn @k1_ (jn @k2_ (jn @k3_ (jn @k4_ @k5_)))))))))))))))))) ?_
           show retQ _ _ _ _ _
           exact ⟨.inr rfl, _, _, rfl, rfl⟩
          ·have k5_ := eq_false k5
           have zf : zeroE y.r = false := by simpa using z
           rw [show fieldsE y = false by simp [fieldsE, callsE, zf, e1, e2, e3, e4, k1, k2, k3, k4, k5]]
           rw [zf] at hzr
           refine wkc (jn @aG.eq_1 (jn @Y.cells_eq (jn @dL.eq_1 (jn @dB.eq_1 (jn @int_beq (jn @len0 (jn @encS_len (jn @encX_len (jn @encB_len (jn @hzr (jn @e1_ (jn @e2_ (jn @e3_ (jn @e4_ (jn @k1_ (jn @k2_ (jn @k3_ (jn @k4_ @k5_)))))))))))))))))) ?_
           show retQ _ _ _ _ _
           exact ⟨.inr rfl, _, _, rfl, rfl⟩
     ·have e4_ := eq_false e4
      by_cases k1 : y.k = 1
      ·have k1_ := eq_true k1
       have zf : zeroE y.r = false := by simpa using z
       rw [show fieldsE y = false by simp [fieldsE, callsE, zf, e1, e2, e3, e4, k1]]
       rw [zf] at hzr
       refine wkc (jn @aG.eq_1 (jn @Y.cells_eq (jn @dL.eq_1 (jn @dB.eq_1 (jn @int_beq (jn @len0 (jn @encS_len (jn @encX_len (jn @encB_len (jn @hzr (jn @e1_ (jn @e2_ (jn @e3_ (jn @e4_ @k1_)))))))))))))) ?_
       show retQ _ _ _ _ _
       exact ⟨.inr rfl, _, _, rfl, rfl⟩
      ·have k1_ := eq_false k1
       by_cases k2 : y.k = 2
       ·have k2_ := eq_true k2
        have zf : zeroE y.r = false := by simpa using z
        rw [show fieldsE y = false by simp [fieldsE, callsE, zf, e1, e2, e3, e4, k1, k2]]
        rw [zf] at hzr
        refine wkc (jn @aG.eq_1 (jn @Y.cells_eq (jn @dL.eq_1 (jn @dB.eq_1 (jn @int_beq (jn @len0 (jn @encS_len (jn @encX_len (jn @encB_len (jn @hzr (jn @e1_ (jn @e2_ (jn @e3_ (jn @e4_ (jn @k1_ @k2_))))))))))))))) ?_
        show retQ _ _ _ _ _
        exact ⟨.inr rfl, _, _, rfl, rfl⟩
       ·have k2_ := eq_false k2
        by_cases k3 : y.k = 3
        ·have k3_ := eq_true k3
         have zf : zeroE y.r = false := by simpa using z
         rw [show fieldsE y = false by simp [fieldsE, callsE, zf, e1, e2, e3, e4, k1, k2, k3]]
         rw [zf] at hzr
         refine wkc (jn @aG.eq_1 (jn @Y.cells_eq (jn @dL.eq_1 (jn @dB.eq_1 (jn @int_beq (jn @len0 (jn @encS_len (jn @encX_len (jn @encB_len (jn @hzr (jn @e1_ (jn @e2_ (jn @e3_ (jn @e4_ (jn @k1_ (jn @k2_ @k3_)))))))))))))))) ?_
         show retQ _ _ _ _ _
         exact ⟨.inr rfl, _, _, rfl, rfl⟩
        ·have k3_ := eq_false k3
         by_cases k4 : y.k = 4
         ·have k4_ := eq_true k4
          have zf : zeroE y.r = false := by simpa using z
          rw [show fieldsE y = false by simp [fieldsE, callsE, zf, e1, e2, e3, e4, k1, k2, k3, k4]]
          rw [zf] at hzr
          refine wkc (jn @aG.eq_1 (jn @Y.cells_eq (jn @dL.eq_1 (jn @dB.eq_1 (jn @int_beq (jn @len0 (jn @encS_len (jn @encX_len (jn @encB_len (jn @hzr (jn @e1_ (jn @e2_ (jn @e3_ (jn @e4_ (jn @k1_ (jn @k2_ (jn @k3_ @k4_))))))))))))))))) ?_
          show retQ _ _ _ _ _
          exact ⟨.inr rfl, _, _, rfl, rfl⟩
         ·have k4_ := eq_false k4
          by_cases k5 : y.k = 5
          ·have k5_ := eq_true k5
           have zf : zeroE y.r = false := by simpa using z
           rw [show fieldsE y = false by simp [fieldsE, callsE, zf, e1, e2, e3, e4, k1, k2, k3, k4, k5]]
           rw [zf] at hzr
           refine wkc (jn @aG.eq_1 (jn @Y.cells_eq (jn @dL.eq_1 (jn @dB.eq_1 (jn @int_beq (jn @len0 (jn @encS_len (jn @encX_len (jn @encB_len (jn @hzr (jn @e1_ (jn @e2_ (jn @e3_ (jn @e4_ (jn @k1_ (jn @k2_ (jn @k3_ (jn @k4_ @k5_)))))))))))))))))) ?_
           show retQ _ _ _ _ _
           exact ⟨.inr rfl, _, _, rfl, rfl⟩
          ·have k5_ := eq_false k5
           have zf : zeroE y.r = false := by simpa using z
           rw [show fieldsE y = false by simp [fieldsE, callsE, zf, e1, e2, e3, e4, k1, k2, k3, k4, k5]]
           rw [zf] at hzr
           refine wkc (jn @aG.eq_1 (jn @Y.cells_eq (jn @dL.eq_1 (jn @dB.eq_1 (jn @int_beq (jn @len0 (jn @encS_len (jn @encX_len (jn @encB_len (jn @hzr (jn @e1_ (jn @e2_ (jn @e3_ (jn @e4_ (jn @k1_ (jn @k2_ (jn @k3_ (jn @k4_ @k5_)))))))))))))))))) ?_
           show retQ _ _ _ _ _
           exact ⟨.inr rfl, _, _, rfl, rfl⟩
    ·have e3_ := eq_false e3
     by_cases k1 : y.k = 1
     ·have k1_ := eq_true k1
      have zf : zeroE y.r = false := by simpa using z
      rw [show fieldsE y = false by simp [fieldsE, callsE, zf, e1, e2, e3, k1]]
      rw [zf] at hzr
      refine wkc (jn @aG.eq_1 (jn @Y.cells_eq (jn @dL.eq_1 (jn @dB.eq_1 (jn @int_beq (jn @len0 (jn @encS_len (jn @encX_len (jn @encB_len (jn @hzr (jn @e1_ (jn @e2_ (jn @e3_ @k1_))))))))))))) ?_
      show retQ _ _ _ _ _
      exact ⟨.inr rfl, _, _, rfl, rfl⟩
     ·have k1_ := eq_false k1
      by_cases k2 : y.k = 2
      ·have k2_ := eq_true k2
       have zf : zeroE y.r = false := by simpa using z
       rw [show fieldsE y = false by simp [fieldsE, callsE, zf, e1, e2, e3, k1, k2]]
       rw [zf] at hzr
       refine wkc (jn @aG.eq_1 (jn @Y.cells_eq (jn @dL.eq_1 (jn @dB.eq_1 (jn @int_beq (jn @len0 (jn @encS_len (jn @encX_len (jn @encB_len (jn @hzr (jn @e1_ (jn @e2_ (jn @e3_ (jn @k1_ @k2_)))))))))))))) ?_
       show retQ _ _ _ _ _
       exact ⟨.inr rfl, _, _, rfl, rfl⟩
      ·have k2_ := eq_false k2
       by_cases k3 : y.k = 3
       ·have k3_ := eq_true k3
        have zf : zeroE y.r = false := by simpa using z
        rw [show fieldsE y = false by simp [fieldsE, callsE, zf, e1, e2, e3, k1, k2, k3]]
        rw [zf] at hzr
        refine wkc (jn @aG.eq_1 (jn @Y.cells_eq (jn @dL.eq_1 (jn @dB.eq_1 (jn @int_beq (jn @len0 (jn @encS_len (jn @encX_len (jn @encB_len (jn @hzr (jn @e1_ (jn @e2_ (jn @e3_ (jn @k1_ (jn @k2_ @k3_))))))))))))))) ?_
        show retQ _ _ _ _ _
        exact ⟨.inr rfl, _, _, rfl, rfl⟩
       ·have k3_ := eq_false k3
        by_cases k4 : y.k = 4
        ·have k4_ := eq_true k4
         have zf : zeroE y.r = false := by simpa using z
         rw [show fieldsE y = false by simp [fieldsE, callsE, zf, e1, e2, e3, k1, k2, k3, k4]]
         rw [zf] at hzr
         refine wkc (jn @aG.eq_1 (jn @Y.cells_eq (jn @dL.eq_1 (jn @dB.eq_1 (jn @int_beq (jn @len0 (jn @encS_len (jn @encX_len (jn @encB_len (jn @hzr (jn @e1_ (jn @e2_ (jn @e3_ (jn @k1_ (jn @k2_ (jn @k3_ @k4_)))))))))))))))) ?_
         show retQ _ _ _ _ _
         exact ⟨.inr rfl, _, _, rfl, rfl⟩
        ·have k4_ := eq_false k4
         by_cases k5 : y.k = 5
         ·have k5_ := eq_true k5
          have zf : zeroE y.r = false := by simpa using z
          rw [show fieldsE y = false by simp [fieldsE, callsE, zf, e1, e2, e3, k1, k2, k3, k4, k5]]
          rw [zf] at hzr
          refine wkc (jn @aG.eq_1 (jn @Y.cells_eq (jn @dL.eq_1 (jn @dB.eq_1 (jn @int_beq (jn @len0 (jn @encS_len (jn @encX_len (jn @encB_len (jn @hzr (jn @e1_ (jn @e2_ (jn @e3_ (jn @k1_ (jn @k2_ (jn @k3_ (jn @k4_ @k5_))))))))))))))))) ?_
          show retQ _ _ _ _ _
          exact ⟨.inr rfl, _, _, rfl, rfl⟩
         ·have k5_ := eq_false k5
          have zf : zeroE y.r = false := by simpa using z
          rw [show fieldsE y = false by simp [fieldsE, callsE, zf, e1, e2, e3, k1, k2, k3, k4, k5]]
          rw [zf] at hzr
          refine wkc (jn @aG.eq_1 (jn @Y.cells_eq (jn @dL.eq_1 (jn @dB.eq_1 (jn @int_beq (jn @len0 (jn @encS_len (jn @encX_len (jn @encB_len (jn @hzr (jn @e1_ (jn @e2_ (jn @e3_ (jn @k1_ (jn @k2_ (jn @k3_ (jn @k4_ @k5_))))))))))))))))) ?_
          show retQ _ _ _ _ _
          exact ⟨.inr rfl, _, _, rfl, rfl⟩
  ·have e1_ := eq_false e1
   by_cases e3 : y.t = 0
   ·have e3_ := eq_true e3
    by_cases e4 : y.brs = []
    ·have e4_ := eq_true e4
     by_cases k1 : y.k = 1
     ·have k1_ := eq_true k1
      have zf : zeroE y.r = false := by simpa using z
      rw [show fieldsE y = false by simp [fieldsE, callsE, zf, e1, e3, e4, k1]]
      rw [zf] at hzr
      refine wkc (jn @aG.eq_1 (jn @Y.cells_eq (jn @dL.eq_1 (jn @dB.eq_1 (jn @int_beq (jn @len0 (jn @encS_len (jn @encX_len (jn @encB_len (jn @hzr (jn @e1_ (jn @e3_ (jn @e4_ @k1_))))))))))))) ?_
      show retQ _ _ _ _ _
      exact ⟨.inr rfl, _, _, rfl, rfl⟩
     ·have k1_ := eq_false k1
      by_cases k2 : y.k = 2
      ·have k2_ := eq_true k2
       have zf : zeroE y.r = false := by simpa using z
       rw [show fieldsE y = false by simp [fieldsE, callsE, zf, e1, e3, e4, k1, k2]]
       rw [zf] at hzr
       refine wkc (jn @aG.eq_1 (jn @Y.cells_eq (jn @dL.eq_1 (jn @dB.eq_1 (jn @int_beq (jn @len0 (jn @encS_len (jn @encX_len (jn @encB_len (jn @hzr (jn @e1_ (jn @e3_ (jn @e4_ (jn @k1_ @k2_)))))))))))))) ?_
       show retQ _ _ _ _ _
       exact ⟨.inr rfl, _, _, rfl, rfl⟩
      ·have k2_ := eq_false k2
       by_cases k3 : y.k = 3
       ·have k3_ := eq_true k3
        have zf : zeroE y.r = false := by simpa using z
        rw [show fieldsE y = false by simp [fieldsE, callsE, zf, e1, e3, e4, k1, k2, k3]]
        rw [zf] at hzr
        refine wkc (jn @aG.eq_1 (jn @Y.cells_eq (jn @dL.eq_1 (jn @dB.eq_1 (jn @int_beq (jn @len0 (jn @encS_len (jn @encX_len (jn @encB_len (jn @hzr (jn @e1_ (jn @e3_ (jn @e4_ (jn @k1_ (jn @k2_ @k3_))))))))))))))) ?_
        show retQ _ _ _ _ _
        exact ⟨.inr rfl, _, _, rfl, rfl⟩
       ·have k3_ := eq_false k3
        by_cases k4 : y.k = 4
        ·have k4_ := eq_true k4
         have zf : zeroE y.r = false := by simpa using z
         rw [show fieldsE y = false by simp [fieldsE, callsE, zf, e1, e3, e4, k1, k2, k3, k4]]
         rw [zf] at hzr
         refine wkc (jn @aG.eq_1 (jn @Y.cells_eq (jn @dL.eq_1 (jn @dB.eq_1 (jn @int_beq (jn @len0 (jn @encS_len (jn @encX_len (jn @encB_len (jn @hzr (jn @e1_ (jn @e3_ (jn @e4_ (jn @k1_ (jn @k2_ (jn @k3_ @k4_)))))))))))))))) ?_
         show retQ _ _ _ _ _
         exact ⟨.inr rfl, _, _, rfl, rfl⟩
        ·have k4_ := eq_false k4
         by_cases k5 : y.k = 5
         ·have k5_ := eq_true k5
          have zf : zeroE y.r = false := by simpa using z
          rw [show fieldsE y = false by simp [fieldsE, callsE, zf, e1, e3, e4, k1, k2, k3, k4, k5]]
          rw [zf] at hzr
          refine wkc (jn @aG.eq_1 (jn @Y.cells_eq (jn @dL.eq_1 (jn @dB.eq_1 (jn @int_beq (jn @len0 (jn @encS_len (jn @encX_len (jn @encB_len (jn @hzr (jn @e1_ (jn @e3_ (jn @e4_ (jn @k1_ (jn @k2_ (jn @k3_ (jn @k4_ @k5_))))))))))))))))) ?_
          show retQ _ _ _ _ _
          exact ⟨.inr rfl, _, _, rfl, rfl⟩
         ·have k5_ := eq_false k5
          have zf : zeroE y.r = false := by simpa using z
          rw [show fieldsE y = false by simp [fieldsE, callsE, zf, e1, e3, e4, k1, k2, k3, k4, k5]]
          rw [zf] at hzr
          refine wkc (jn @aG.eq_1 (jn @Y.cells_eq (jn @dL.eq_1 (jn @dB.eq_1 (jn @int_beq (jn @len0 (jn @encS_len (jn @encX_len (jn @encB_len (jn @hzr (jn @e1_ (jn @e3_ (jn @e4_ (jn @k1_ (jn @k2_ (jn @k3_ (jn @k4_ @k5_))))))))))))))))) ?_
          show retQ _ _ _ _ _
          exact ⟨.inr rfl, _, _, rfl, rfl⟩
    ·have e4_ := eq_false e4
     by_cases k1 : y.k = 1
     ·have k1_ := eq_true k1
      have zf : zeroE y.r = false := by simpa using z
      rw [show fieldsE y = false by simp [fieldsE, callsE, zf, e1, e3, e4, k1]]
      rw [zf] at hzr
      refine wkc (jn @aG.eq_1 (jn @Y.cells_eq (jn @dL.eq_1 (jn @dB.eq_1 (jn @int_beq (jn @len0 (jn @encS_len (jn @encX_len (jn @encB_len (jn @hzr (jn @e1_ (jn @e3_ (jn @e4_ @k1_))))))))))))) ?_
      show retQ _ _ _ _ _
      exact ⟨.inr rfl, _, _, rfl, rfl⟩
     ·have k1_ := eq_false k1
      by_cases k2 : y.k = 2
      ·have k2_ := eq_true k2
       have zf : zeroE y.r = false := by simpa using z
       rw [show fieldsE y = false by simp [fieldsE, callsE, zf, e1, e3, e4, k1, k2]]
       rw [zf] at hzr
       refine wkc (jn @aG.eq_1 (jn @Y.cells_eq (jn @dL.eq_1 (jn @dB.eq_1 (jn @int_beq (jn @len0 (jn @encS_len (jn @encX_len (jn @encB_len (jn @hzr (jn @e1_ (jn @e3_ (jn @e4_ (jn @k1_ @k2_)))))))))))))) ?_
       show retQ _ _ _ _ _
       exact ⟨.inr rfl, _, _, rfl, rfl⟩
      ·have k2_ := eq_false k2
       by_cases k3 : y.k = 3
       ·have k3_ := eq_true k3
        have zf : zeroE y.r = false := by simpa using z
        rw [show fieldsE y = false by simp [fieldsE, callsE, zf, e1, e3, e4, k1, k2, k3]]
        rw [zf] at hzr
        refine wkc (jn @aG.eq_1 (jn @Y.cells_eq (jn @dL.eq_1 (jn @dB.eq_1 (jn @int_beq (jn @len0 (jn @encS_len (jn @encX_len (jn @encB_len (jn @hzr (jn @e1_ (jn @e3_ (jn @e4_ (jn @k1_ (jn @k2_ @k3_))))))))))))))) ?_
        show retQ _ _ _ _ _
        exact ⟨.inr rfl, _, _, rfl, rfl⟩
       ·have k3_ := eq_false k3
        by_cases k4 : y.k = 4
        ·have k4_ := eq_true k4
         have zf : zeroE y.r = false := by simpa using z
         rw [show fieldsE y = false by simp [fieldsE, callsE, zf, e1, e3, e4, k1, k2, k3, k4]]
         rw [zf] at hzr
         refine wkc (jn @aG.eq_1 (jn @Y.cells_eq (jn @dL.eq_1 (jn @dB.eq_1 (jn @int_beq (jn @len0 (jn @encS_len (jn @encX_len (jn @encB_len (jn @hzr (jn @e1_ (jn @e3_ (jn @e4_ (jn @k1_ (jn @k2_ (jn @k3_ @k4_)))))))))))))))) ?_
         show retQ _ _ _ _ _
         exact ⟨.inr rfl, _, _, rfl, rfl⟩
        ·have k4_ := eq_false k4
         by_cases k5 : y.k = 5
         ·have k5_ := eq_true k5
          have zf : zeroE y.r = false := by simpa using z
          rw [show fieldsE y = false by simp [fieldsE, callsE, zf, e1, e3, e4, k1, k2, k3, k4, k5]]
          rw [zf] at hzr
          refine wkc (jn @aG.eq_1 (jn @Y.cells_eq (jn @dL.eq_1 (jn @dB.eq_1 (jn @int_beq (jn @len0 (jn @encS_len (jn @encX_len (jn @encB_len (jn @hzr (jn @e1_ (jn @e3_ (jn @e4_ (jn @k1_ (jn @k2_ (jn @k3_ (jn @k4_ @k5_))))))))))))))))) ?_
          show retQ _ _ _ _ _
          exact ⟨.inr rfl, _, _, rfl, rfl⟩
         ·have k5_ := eq_false k5
          have zf : zeroE y.r = false := by simpa using z
          rw [show fieldsE y = false by simp [fieldsE, callsE, zf, e1, e3, e4, k1, k2, k3, k4, k5]]
          rw [zf] at hzr
          refine wkc (jn @aG.eq_1 (jn @Y.cells_eq (jn @dL.eq_1 (jn @dB.eq_1 (jn @int_beq (jn @len0 (jn @encS_len (jn @encX_len (jn @encB_len (jn @hzr (jn @e1_ (jn @e3_ (jn @e4_ (jn @k1_ (jn @k2_ (jn @k3_ (jn @k4_ @k5_))))))))))))))))) ?_
          show retQ _ _ _ _ _
          exact ⟨.inr rfl, _, _, rfl, rfl⟩
   ·have e3_ := eq_false e3
    by_cases k1 : y.k = 1
    ·have k1_ := eq_true k1
     have zf : zeroE y.r = false := by simpa using z
     rw [show fieldsE y = false by simp [fieldsE, callsE, zf, e1, e3, k1]]
     rw [zf] at hzr
     refine wkc (jn @aG.eq_1 (jn @Y.cells_eq (jn @dL.eq_1 (jn @dB.eq_1 (jn @int_beq (jn @len0 (jn @encS_len (jn @encX_len (jn @encB_len (jn @hzr (jn @e1_ (jn @e3_ @k1_)))))))))))) ?_
     show retQ _ _ _ _ _
     exact ⟨.inr rfl, _, _, rfl, rfl⟩
    ·have k1_ := eq_false k1
     by_cases k2 : y.k = 2
     ·have k2_ := eq_true k2
      have zf : zeroE y.r = false := by simpa using z
      rw [show fieldsE y = false by simp [fieldsE, callsE, zf, e1, e3, k1, k2]]
      rw [zf] at hzr
      refine wkc (jn @aG.eq_1 (jn @Y.cells_eq (jn @dL.eq_1 (jn @dB.eq_1 (jn @int_beq (jn @len0 (jn @encS_len (jn @encX_len (jn @encB_len (jn @hzr (jn @e1_ (jn @e3_ (jn @k1_ @k2_))))))))))))) ?_
      show retQ _ _ _ _ _
      exact ⟨.inr rfl, _, _, rfl, rfl⟩
     ·have k2_ := eq_false k2
      by_cases k3 : y.k = 3
      ·have k3_ := eq_true k3
       have zf : zeroE y.r = false := by simpa using z
       rw [show fieldsE y = false by simp [fieldsE, callsE, zf, e1, e3, k1, k2, k3]]
       rw [zf] at hzr
       refine wkc (jn @aG.eq_1 (jn @Y.cells_eq (jn @dL.eq_1 (jn @dB.eq_1 (jn @int_beq (jn @len0 (jn @encS_len (jn @encX_len (jn @encB_len (jn @hzr (jn @e1_ (jn @e3_ (jn @k1_ (jn @k2_ @k3_)))))))))))))) ?_
       show retQ _ _ _ _ _
       exact ⟨.inr rfl, _, _, rfl, rfl⟩
      ·have k3_ := eq_false k3
       by_cases k4 : y.k = 4
       ·have k4_ := eq_true k4
        have zf : zeroE y.r = false := by simpa using z
        rw [show fieldsE y = false by simp [fieldsE, callsE, zf, e1, e3, k1, k2, k3, k4]]
        rw [zf] at hzr
        refine wkc (jn @aG.eq_1 (jn @Y.cells_eq (jn @dL.eq_1 (jn @dB.eq_1 (jn @int_beq (jn @len0 (jn @encS_len (jn @encX_len (jn @encB_len (jn @hzr (jn @e1_ (jn @e3_ (jn @k1_ (jn @k2_ (jn @k3_ @k4_))))))))))))))) ?_
        show retQ _ _ _ _ _
        exact ⟨.inr rfl, _, _, rfl, rfl⟩
       ·have k4_ := eq_false k4
        by_cases k5 : y.k = 5
        ·have k5_ := eq_true k5
         have zf : zeroE y.r = false := by simpa using z
         rw [show fieldsE y = false by simp [fieldsE, callsE, zf, e1, e3, k1, k2, k3, k4, k5]]
         rw [zf] at hzr
         refine wkc (jn @aG.eq_1 (jn @Y.cells_eq (jn @dL.eq_1 (jn @dB.eq_1 (jn @int_beq (jn @len0 (jn @encS_len (jn @encX_len (jn @encB_len (jn @hzr (jn @e1_ (jn @e3_ (jn @k1_ (jn @k2_ (jn @k3_ (jn @k4_ @k5_)))))))))))))))) ?_
         show retQ _ _ _ _ _
         exact ⟨.inr rfl, _, _, rfl, rfl⟩
        ·have k5_ := eq_false k5
         have zf : zeroE y.r = false := by simpa using z
         rw [show fieldsE y = false by simp [fieldsE, callsE, zf, e1, e3, k1, k2, k3, k4, k5]]
         rw [zf] at hzr
         refine wkc (jn @aG.eq_1 (jn @Y.cells_eq (jn @dL.eq_1 (jn @dB.eq_1 (jn @int_beq (jn @len0 (jn @encS_len (jn @encX_len (jn @encB_len (jn @hzr (jn @e1_ (jn @e3_ (jn @k1_ (jn @k2_ (jn @k3_ (jn @k4_ @k5_)))))))))))))))) ?_
         show retQ _ _ _ _ _
         exact ⟨.inr rfl, _, _, rfl, rfl⟩

end Go.Ac
