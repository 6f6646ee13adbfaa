/- Forms of expressions and statements: the program's. -/
import Derived.Test.YtkgekafdhehleaaGreatObPdM
set_option linter.unusedVariables false
set_option linter.unusedSimpArgs false
set_option maxRecDepth 4000
namespace Go.Ac
open Go.Proofs
theorem aTI (r:Nat):Ob.keep 150 r=Ob.k150 r:=by kernel_rfl
theorem aSt (r:Nat):Ob.keep 133 r=Ob.k133 r:=by kernel_rfl
attribute [local simp] aTI Ob.k150 aSt Ob.k133
set_option maxHeartbeats 1000000 in
theorem aNt (x:X):eJ Tryz.prog Ob.cfg 150 [aG x.cells]=some (dB (cO x)):=by
 refine bI Tryz.func150 rfl (by kernel_rfl) rfl rfl ?_
 unfold cO
 rw[aE]
 by_cases c0:x.k=0
 ·have c0_:=eq_true c0
  by_cases c1:x.o=0
  ·have c1_:=eq_true c1
   by_cases c2:x.t=0
   ·have c2_:=eq_true c2
    by_cases c3:x.v=0
    ·have c3_:=eq_true c3
     by_cases c4:x.nm=[]
     ·have c4_:=eq_true c4
      by_cases c5:x.args=[]
      ·have c5_:=eq_true c5
       refine bA (oR @aD @aS @bF @bJ @c0_ @c1_ @c2_ @c3_ @c4_ @c5_) ?_
       exact ⟨.inr rfl,_,_,rfl,by simp[c0,c1,c2,c3,c4,c5];rfl⟩
      ·have c5_:=eq_false c5
       refine bA (oR @aD @aS @bF @bJ @c0_ @c1_ @c2_ @c3_ @c4_ @c5_) ?_
       exact ⟨.inr rfl,_,_,rfl,by simp[c0,c1,c2,c3,c4,c5];rfl⟩
     ·have c4_:=eq_false c4
      refine bA (j9 @aD @aS @bF @bJ @c0_ @c1_ @c2_ @c3_ @c4_) ?_
      exact ⟨.inr rfl,_,_,rfl,by simp[c0,c1,c2,c3,c4];rfl⟩
    ·have c3_:=eq_false c3
     refine bA (j8 @aD @aS @bF @bJ @c0_ @c1_ @c2_ @c3_) ?_
     exact ⟨.inr rfl,_,_,rfl,by simp[c0,c1,c2,c3];rfl⟩
   ·have c2_:=eq_false c2
    refine bA (j7 @aD @aS @bF @bJ @c0_ @c1_ @c2_) ?_
    exact ⟨.inr rfl,_,_,rfl,by simp[c0,c1,c2];rfl⟩
  ·have c1_:=eq_false c1
   refine bA (j6 @aD @aS @bF @bJ @c0_ @c1_) ?_
   exact ⟨.inr rfl,_,_,rfl,by simp[c0,c1];rfl⟩
 ·have c0_:=eq_false c0
  refine bA (j5 @aD @aS @bF @bJ @c0_) ?_
  exact ⟨.inr rfl,_,_,rfl,by simp[c0];rfl⟩
set_option maxHeartbeats 8000000 in
theorem aOF (y:Y):eJ Tryz.prog Ob.cfg 133 [aG y.cells]=some (dB (aU y)):=by
 have cK:=aNt y.r
 simp only[aG,aE,List.map_cons,List.map_nil,dB] at cK
 refine bI Tryz.func133 rfl (by kernel_rfl) rfl rfl ?_
 by_cases z:cO y.r=true
 ·have z_:=eq_true z
  by_cases e1:y.outs=[]
  ·have e1_:=eq_true e1
   by_cases e2:y.args=[]
   ·have e2_:=eq_true e2
    by_cases e3:y.t=0
    ·have e3_:=eq_true e3
     by_cases e4:y.brs=[]
     ·have e4_:=eq_true e4
      by_cases k1:y.k=1
      ·have k1_:=eq_true k1
       rw[show aU y=true by simp[aU,bC,z,e1,e2,e3,e4,k1]]
       rw[z] at cK
       refine bA (vG @aD @aC @aA @aF @aS @bJ @aW @aT @aX @cK @e1_ @e2_ @e3_ @e4_ @k1_) ?_
       show a8 _ _ _ _ _
       exact ⟨.inr rfl,_,_,rfl,rfl⟩
      ·have k1_:=eq_false k1
       by_cases k2:y.k=2
       ·have k2_:=eq_true k2
        rw[show aU y=true by simp[aU,bC,z,e1,e2,e3,e4,k1,k2]]
        rw[z] at cK
        refine bA (nB @aD @aC @aA @aF @aS @bJ @aW @aT @aX @cK @e1_ @e2_ @e3_ @e4_ @k1_ @k2_) ?_
        show a8 _ _ _ _ _
        exact ⟨.inr rfl,_,_,rfl,rfl⟩
       ·have k2_:=eq_false k2
        by_cases k3:y.k=3
        ·have k3_:=eq_true k3
         rw[show aU y=true by simp[aU,bC,z,e1,e2,e3,e4,k1,k2,k3]]
         rw[z] at cK
         refine bA (sG @aD @aC @aA @aF @aS @bJ @aW @aT @aX @cK @e1_ @e2_ @e3_ @e4_ @k1_ @k2_ @k3_) ?_
         show a8 _ _ _ _ _
         exact ⟨.inr rfl,_,_,rfl,rfl⟩
        ·have k3_:=eq_false k3
         by_cases k4:y.k=4
         ·have k4_:=eq_true k4
          rw[show aU y=true by simp[aU,bC,z,e1,e2,e3,e4,k1,k2,k3,k4]]
          rw[z] at cK
          refine bA (vP @aD @aC @aA @aF @aS @bJ @aW @aT @aX @cK @e1_ @e2_ @e3_ @e4_ @k1_ @k2_ @k3_ @k4_) ?_
          show a8 _ _ _ _ _
          exact ⟨.inr rfl,_,_,rfl,rfl⟩
         ·have k4_:=eq_false k4
          by_cases k5:y.k=5
          ·have k5_:=eq_true k5
           rw[show aU y=true by simp[aU,bC,z,e1,e2,e3,e4,k1,k2,k3,k4,k5]]
           rw[z] at cK
           refine bA (j19 @aD @aC @aA @aF @aS @bJ @aW @aT @aX @cK @e1_ @e2_ @e3_ @e4_ @k1_ @k2_ @k3_ @k4_ @k5_) ?_
           show a8 _ _ _ _ _
           exact ⟨.inr rfl,_,_,rfl,rfl⟩
          ·have k5_:=eq_false k5
           rw[show aU y=false by simp[aU,bC,z,e1,e2,e3,e4,k1,k2,k3,k4,k5]]
           rw[z] at cK
           refine bA (j19 @aD @aC @aA @aF @aS @bJ @aW @aT @aX @cK @e1_ @e2_ @e3_ @e4_ @k1_ @k2_ @k3_ @k4_ @k5_) ?_
           show a8 _ _ _ _ _
           exact ⟨.inr rfl,_,_,rfl,rfl⟩
     ·have e4_:=eq_false e4
      by_cases k1:y.k=1
      ·have k1_:=eq_true k1
       rw[show aU y=false by simp[aU,bC,z,e1,e2,e3,e4,k1]]
       rw[z] at cK
       refine bA (vG @aD @aC @aA @aF @aS @bJ @aW @aT @aX @cK @e1_ @e2_ @e3_ @e4_ @k1_) ?_
       show a8 _ _ _ _ _
       exact ⟨.inr rfl,_,_,rfl,rfl⟩
      ·have k1_:=eq_false k1
       by_cases k2:y.k=2
       ·have k2_:=eq_true k2
        rw[show aU y=false by simp[aU,bC,z,e1,e2,e3,e4,k1,k2]]
        rw[z] at cK
        refine bA (nB @aD @aC @aA @aF @aS @bJ @aW @aT @aX @cK @e1_ @e2_ @e3_ @e4_ @k1_ @k2_) ?_
        show a8 _ _ _ _ _
        exact ⟨.inr rfl,_,_,rfl,rfl⟩
       ·have k2_:=eq_false k2
        by_cases k3:y.k=3
        ·have k3_:=eq_true k3
         rw[show aU y=true by simp[aU,bC,z,e1,e2,e3,e4,k1,k2,k3]]
         rw[z] at cK
         refine bA (sG @aD @aC @aA @aF @aS @bJ @aW @aT @aX @cK @e1_ @e2_ @e3_ @e4_ @k1_ @k2_ @k3_) ?_
         show a8 _ _ _ _ _
         exact ⟨.inr rfl,_,_,rfl,rfl⟩
        ·have k3_:=eq_false k3
         by_cases k4:y.k=4
         ·have k4_:=eq_true k4
          rw[show aU y=false by simp[aU,bC,z,e1,e2,e3,e4,k1,k2,k3,k4]]
          rw[z] at cK
          refine bA (vP @aD @aC @aA @aF @aS @bJ @aW @aT @aX @cK @e1_ @e2_ @e3_ @e4_ @k1_ @k2_ @k3_ @k4_) ?_
          show a8 _ _ _ _ _
          exact ⟨.inr rfl,_,_,rfl,rfl⟩
         ·have k4_:=eq_false k4
          by_cases k5:y.k=5
          ·have k5_:=eq_true k5
           rw[show aU y=false by simp[aU,bC,z,e1,e2,e3,e4,k1,k2,k3,k4,k5]]
           rw[z] at cK
           refine bA (j19 @aD @aC @aA @aF @aS @bJ @aW @aT @aX @cK @e1_ @e2_ @e3_ @e4_ @k1_ @k2_ @k3_ @k4_ @k5_) ?_
           show a8 _ _ _ _ _
           exact ⟨.inr rfl,_,_,rfl,rfl⟩
          ·have k5_:=eq_false k5
           rw[show aU y=false by simp[aU,bC,z,e1,e2,e3,e4,k1,k2,k3,k4,k5]]
           rw[z] at cK
           refine bA (j19 @aD @aC @aA @aF @aS @bJ @aW @aT @aX @cK @e1_ @e2_ @e3_ @e4_ @k1_ @k2_ @k3_ @k4_ @k5_) ?_
           show a8 _ _ _ _ _
           exact ⟨.inr rfl,_,_,rfl,rfl⟩
    ·have e3_:=eq_false e3
     by_cases k1:y.k=1
     ·have k1_:=eq_true k1
      rw[show aU y=false by simp[aU,bC,z,e1,e2,e3,k1]]
      rw[z] at cK
      refine bA (vM @aD @aC @aA @aF @aS @bJ @aW @aT @aX @cK @e1_ @e2_ @e3_ @k1_) ?_
      show a8 _ _ _ _ _
      exact ⟨.inr rfl,_,_,rfl,rfl⟩
     ·have k1_:=eq_false k1
      by_cases k2:y.k=2
      ·have k2_:=eq_true k2
       rw[show aU y=false by simp[aU,bC,z,e1,e2,e3,k1,k2]]
       rw[z] at cK
       refine bA (vG @aD @aC @aA @aF @aS @bJ @aW @aT @aX @cK @e1_ @e2_ @e3_ @k1_ @k2_) ?_
       show a8 _ _ _ _ _
       exact ⟨.inr rfl,_,_,rfl,rfl⟩
      ·have k2_:=eq_false k2
       by_cases k3:y.k=3
       ·have k3_:=eq_true k3
        rw[show aU y=true by simp[aU,bC,z,e1,e2,e3,k1,k2,k3]]
        rw[z] at cK
        refine bA (nB @aD @aC @aA @aF @aS @bJ @aW @aT @aX @cK @e1_ @e2_ @e3_ @k1_ @k2_ @k3_) ?_
        show a8 _ _ _ _ _
        exact ⟨.inr rfl,_,_,rfl,rfl⟩
       ·have k3_:=eq_false k3
        by_cases k4:y.k=4
        ·have k4_:=eq_true k4
         rw[show aU y=false by simp[aU,bC,z,e1,e2,e3,k1,k2,k3,k4]]
         rw[z] at cK
         refine bA (sG @aD @aC @aA @aF @aS @bJ @aW @aT @aX @cK @e1_ @e2_ @e3_ @k1_ @k2_ @k3_ @k4_) ?_
         show a8 _ _ _ _ _
         exact ⟨.inr rfl,_,_,rfl,rfl⟩
        ·have k4_:=eq_false k4
         by_cases k5:y.k=5
         ·have k5_:=eq_true k5
          rw[show aU y=false by simp[aU,bC,z,e1,e2,e3,k1,k2,k3,k4,k5]]
          rw[z] at cK
          refine bA (vP @aD @aC @aA @aF @aS @bJ @aW @aT @aX @cK @e1_ @e2_ @e3_ @k1_ @k2_ @k3_ @k4_ @k5_) ?_
          show a8 _ _ _ _ _
          exact ⟨.inr rfl,_,_,rfl,rfl⟩
         ·have k5_:=eq_false k5
          rw[show aU y=false by simp[aU,bC,z,e1,e2,e3,k1,k2,k3,k4,k5]]
          rw[z] at cK
          refine bA (vP @aD @aC @aA @aF @aS @bJ @aW @aT @aX @cK @e1_ @e2_ @e3_ @k1_ @k2_ @k3_ @k4_ @k5_) ?_
          show a8 _ _ _ _ _
          exact ⟨.inr rfl,_,_,rfl,rfl⟩
   ·have e2_:=eq_false e2
    by_cases e3:y.t=0
    ·have e3_:=eq_true e3
     by_cases e4:y.brs=[]
     ·have e4_:=eq_true e4
      by_cases k1:y.k=1
      ·have k1_:=eq_true k1
       rw[show aU y=false by simp[aU,bC,z,e1,e2,e3,e4,k1]]
       rw[z] at cK
       refine bA (vG @aD @aC @aA @aF @aS @bJ @aW @aT @aX @cK @e1_ @e2_ @e3_ @e4_ @k1_) ?_
       show a8 _ _ _ _ _
       exact ⟨.inr rfl,_,_,rfl,rfl⟩
      ·have k1_:=eq_false k1
       by_cases k2:y.k=2
       ·have k2_:=eq_true k2
        rw[show aU y=false by simp[aU,bC,z,e1,e2,e3,e4,k1,k2]]
        rw[z] at cK
        refine bA (nB @aD @aC @aA @aF @aS @bJ @aW @aT @aX @cK @e1_ @e2_ @e3_ @e4_ @k1_ @k2_) ?_
        show a8 _ _ _ _ _
        exact ⟨.inr rfl,_,_,rfl,rfl⟩
       ·have k2_:=eq_false k2
        by_cases k3:y.k=3
        ·have k3_:=eq_true k3
         rw[show aU y=false by simp[aU,bC,z,e1,e2,e3,e4,k1,k2,k3]]
         rw[z] at cK
         refine bA (sG @aD @aC @aA @aF @aS @bJ @aW @aT @aX @cK @e1_ @e2_ @e3_ @e4_ @k1_ @k2_ @k3_) ?_
         show a8 _ _ _ _ _
         exact ⟨.inr rfl,_,_,rfl,rfl⟩
        ·have k3_:=eq_false k3
         by_cases k4:y.k=4
         ·have k4_:=eq_true k4
          rw[show aU y=true by simp[aU,bC,z,e1,e2,e3,e4,k1,k2,k3,k4]]
          rw[z] at cK
          refine bA (vP @aD @aC @aA @aF @aS @bJ @aW @aT @aX @cK @e1_ @e2_ @e3_ @e4_ @k1_ @k2_ @k3_ @k4_) ?_
          show a8 _ _ _ _ _
          exact ⟨.inr rfl,_,_,rfl,rfl⟩
         ·have k4_:=eq_false k4
          by_cases k5:y.k=5
          ·have k5_:=eq_true k5
           rw[show aU y=false by simp[aU,bC,z,e1,e2,e3,e4,k1,k2,k3,k4,k5]]
           rw[z] at cK
           refine bA (j19 @aD @aC @aA @aF @aS @bJ @aW @aT @aX @cK @e1_ @e2_ @e3_ @e4_ @k1_ @k2_ @k3_ @k4_ @k5_) ?_
           show a8 _ _ _ _ _
           exact ⟨.inr rfl,_,_,rfl,rfl⟩
          ·have k5_:=eq_false k5
           rw[show aU y=false by simp[aU,bC,z,e1,e2,e3,e4,k1,k2,k3,k4,k5]]
           rw[z] at cK
           refine bA (j19 @aD @aC @aA @aF @aS @bJ @aW @aT @aX @cK @e1_ @e2_ @e3_ @e4_ @k1_ @k2_ @k3_ @k4_ @k5_) ?_
           show a8 _ _ _ _ _
           exact ⟨.inr rfl,_,_,rfl,rfl⟩
     ·have e4_:=eq_false e4
      by_cases k1:y.k=1
      ·have k1_:=eq_true k1
       rw[show aU y=false by simp[aU,bC,z,e1,e2,e3,e4,k1]]
       rw[z] at cK
       refine bA (vG @aD @aC @aA @aF @aS @bJ @aW @aT @aX @cK @e1_ @e2_ @e3_ @e4_ @k1_) ?_
       show a8 _ _ _ _ _
       exact ⟨.inr rfl,_,_,rfl,rfl⟩
      ·have k1_:=eq_false k1
       by_cases k2:y.k=2
       ·have k2_:=eq_true k2
        rw[show aU y=false by simp[aU,bC,z,e1,e2,e3,e4,k1,k2]]
        rw[z] at cK
        refine bA (nB @aD @aC @aA @aF @aS @bJ @aW @aT @aX @cK @e1_ @e2_ @e3_ @e4_ @k1_ @k2_) ?_
        show a8 _ _ _ _ _
        exact ⟨.inr rfl,_,_,rfl,rfl⟩
       ·have k2_:=eq_false k2
        by_cases k3:y.k=3
        ·have k3_:=eq_true k3
         rw[show aU y=false by simp[aU,bC,z,e1,e2,e3,e4,k1,k2,k3]]
         rw[z] at cK
         refine bA (sG @aD @aC @aA @aF @aS @bJ @aW @aT @aX @cK @e1_ @e2_ @e3_ @e4_ @k1_ @k2_ @k3_) ?_
         show a8 _ _ _ _ _
         exact ⟨.inr rfl,_,_,rfl,rfl⟩
        ·have k3_:=eq_false k3
         by_cases k4:y.k=4
         ·have k4_:=eq_true k4
          rw[show aU y=false by simp[aU,bC,z,e1,e2,e3,e4,k1,k2,k3,k4]]
          rw[z] at cK
          refine bA (vP @aD @aC @aA @aF @aS @bJ @aW @aT @aX @cK @e1_ @e2_ @e3_ @e4_ @k1_ @k2_ @k3_ @k4_) ?_
          show a8 _ _ _ _ _
          exact ⟨.inr rfl,_,_,rfl,rfl⟩
         ·have k4_:=eq_false k4
          by_cases k5:y.k=5
          ·have k5_:=eq_true k5
           rw[show aU y=false by simp[aU,bC,z,e1,e2,e3,e4,k1,k2,k3,k4,k5]]
           rw[z] at cK
           refine bA (j19 @aD @aC @aA @aF @aS @bJ @aW @aT @aX @cK @e1_ @e2_ @e3_ @e4_ @k1_ @k2_ @k3_ @k4_ @k5_) ?_
           show a8 _ _ _ _ _
           exact ⟨.inr rfl,_,_,rfl,rfl⟩
          ·have k5_:=eq_false k5
           rw[show aU y=false by simp[aU,bC,z,e1,e2,e3,e4,k1,k2,k3,k4,k5]]
           rw[z] at cK
           refine bA (j19 @aD @aC @aA @aF @aS @bJ @aW @aT @aX @cK @e1_ @e2_ @e3_ @e4_ @k1_ @k2_ @k3_ @k4_ @k5_) ?_
           show a8 _ _ _ _ _
           exact ⟨.inr rfl,_,_,rfl,rfl⟩
    ·have e3_:=eq_false e3
     by_cases k1:y.k=1
     ·have k1_:=eq_true k1
      rw[show aU y=false by simp[aU,bC,z,e1,e2,e3,k1]]
      rw[z] at cK
      refine bA (vM @aD @aC @aA @aF @aS @bJ @aW @aT @aX @cK @e1_ @e2_ @e3_ @k1_) ?_
      show a8 _ _ _ _ _
      exact ⟨.inr rfl,_,_,rfl,rfl⟩
     ·have k1_:=eq_false k1
      by_cases k2:y.k=2
      ·have k2_:=eq_true k2
       rw[show aU y=false by simp[aU,bC,z,e1,e2,e3,k1,k2]]
       rw[z] at cK
       refine bA (vG @aD @aC @aA @aF @aS @bJ @aW @aT @aX @cK @e1_ @e2_ @e3_ @k1_ @k2_) ?_
       show a8 _ _ _ _ _
       exact ⟨.inr rfl,_,_,rfl,rfl⟩
      ·have k2_:=eq_false k2
       by_cases k3:y.k=3
       ·have k3_:=eq_true k3
        rw[show aU y=false by simp[aU,bC,z,e1,e2,e3,k1,k2,k3]]
        rw[z] at cK
        refine bA (nB @aD @aC @aA @aF @aS @bJ @aW @aT @aX @cK @e1_ @e2_ @e3_ @k1_ @k2_ @k3_) ?_
        show a8 _ _ _ _ _
        exact ⟨.inr rfl,_,_,rfl,rfl⟩
       ·have k3_:=eq_false k3
        by_cases k4:y.k=4
        ·have k4_:=eq_true k4
         rw[show aU y=false by simp[aU,bC,z,e1,e2,e3,k1,k2,k3,k4]]
         rw[z] at cK
         refine bA (sG @aD @aC @aA @aF @aS @bJ @aW @aT @aX @cK @e1_ @e2_ @e3_ @k1_ @k2_ @k3_ @k4_) ?_
         show a8 _ _ _ _ _
         exact ⟨.inr rfl,_,_,rfl,rfl⟩
        ·have k4_:=eq_false k4
         by_cases k5:y.k=5
         ·have k5_:=eq_true k5
          rw[show aU y=false by simp[aU,bC,z,e1,e2,e3,k1,k2,k3,k4,k5]]
          rw[z] at cK
          refine bA (vP @aD @aC @aA @aF @aS @bJ @aW @aT @aX @cK @e1_ @e2_ @e3_ @k1_ @k2_ @k3_ @k4_ @k5_) ?_
          show a8 _ _ _ _ _
          exact ⟨.inr rfl,_,_,rfl,rfl⟩
         ·have k5_:=eq_false k5
          rw[show aU y=false by simp[aU,bC,z,e1,e2,e3,k1,k2,k3,k4,k5]]
          rw[z] at cK
          refine bA (vP @aD @aC @aA @aF @aS @bJ @aW @aT @aX @cK @e1_ @e2_ @e3_ @k1_ @k2_ @k3_ @k4_ @k5_) ?_
          show a8 _ _ _ _ _
          exact ⟨.inr rfl,_,_,rfl,rfl⟩
  ·have e1_:=eq_false e1
   by_cases e3:y.t=0
   ·have e3_:=eq_true e3
    by_cases e4:y.brs=[]
    ·have e4_:=eq_true e4
     by_cases k1:y.k=1
     ·have k1_:=eq_true k1
      rw[show aU y=false by simp[aU,bC,z,e1,e3,e4,k1]]
      rw[z] at cK
      refine bA (vM @aD @aC @aA @aF @aS @bJ @aW @aT @aX @cK @e1_ @e3_ @e4_ @k1_) ?_
      show a8 _ _ _ _ _
      exact ⟨.inr rfl,_,_,rfl,rfl⟩
     ·have k1_:=eq_false k1
      by_cases k2:y.k=2
      ·have k2_:=eq_true k2
       rw[show aU y=false by simp[aU,bC,z,e1,e3,e4,k1,k2]]
       rw[z] at cK
       refine bA (vG @aD @aC @aA @aF @aS @bJ @aW @aT @aX @cK @e1_ @e3_ @e4_ @k1_ @k2_) ?_
       show a8 _ _ _ _ _
       exact ⟨.inr rfl,_,_,rfl,rfl⟩
      ·have k2_:=eq_false k2
       by_cases k3:y.k=3
       ·have k3_:=eq_true k3
        rw[show aU y=false by simp[aU,bC,z,e1,e3,e4,k1,k2,k3]]
        rw[z] at cK
        refine bA (nB @aD @aC @aA @aF @aS @bJ @aW @aT @aX @cK @e1_ @e3_ @e4_ @k1_ @k2_ @k3_) ?_
        show a8 _ _ _ _ _
        exact ⟨.inr rfl,_,_,rfl,rfl⟩
       ·have k3_:=eq_false k3
        by_cases k4:y.k=4
        ·have k4_:=eq_true k4
         rw[show aU y=true by simp[aU,bC,z,e1,e3,e4,k1,k2,k3,k4]]
         rw[z] at cK
         refine bA (sG @aD @aC @aA @aF @aS @bJ @aW @aT @aX @cK @e1_ @e3_ @e4_ @k1_ @k2_ @k3_ @k4_) ?_
         show a8 _ _ _ _ _
         exact ⟨.inr rfl,_,_,rfl,rfl⟩
        ·have k4_:=eq_false k4
         by_cases k5:y.k=5
         ·have k5_:=eq_true k5
          rw[show aU y=false by simp[aU,bC,z,e1,e3,e4,k1,k2,k3,k4,k5]]
          rw[z] at cK
          refine bA (vP @aD @aC @aA @aF @aS @bJ @aW @aT @aX @cK @e1_ @e3_ @e4_ @k1_ @k2_ @k3_ @k4_ @k5_) ?_
          show a8 _ _ _ _ _
          exact ⟨.inr rfl,_,_,rfl,rfl⟩
         ·have k5_:=eq_false k5
          rw[show aU y=false by simp[aU,bC,z,e1,e3,e4,k1,k2,k3,k4,k5]]
          rw[z] at cK
          refine bA (vP @aD @aC @aA @aF @aS @bJ @aW @aT @aX @cK @e1_ @e3_ @e4_ @k1_ @k2_ @k3_ @k4_ @k5_) ?_
          show a8 _ _ _ _ _
          exact ⟨.inr rfl,_,_,rfl,rfl⟩
    ·have e4_:=eq_false e4
     by_cases k1:y.k=1
     ·have k1_:=eq_true k1
      rw[show aU y=false by simp[aU,bC,z,e1,e3,e4,k1]]
      rw[z] at cK
      refine bA (vM @aD @aC @aA @aF @aS @bJ @aW @aT @aX @cK @e1_ @e3_ @e4_ @k1_) ?_
      show a8 _ _ _ _ _
      exact ⟨.inr rfl,_,_,rfl,rfl⟩
     ·have k1_:=eq_false k1
      by_cases k2:y.k=2
      ·have k2_:=eq_true k2
       rw[show aU y=false by simp[aU,bC,z,e1,e3,e4,k1,k2]]
       rw[z] at cK
       refine bA (vG @aD @aC @aA @aF @aS @bJ @aW @aT @aX @cK @e1_ @e3_ @e4_ @k1_ @k2_) ?_
       show a8 _ _ _ _ _
       exact ⟨.inr rfl,_,_,rfl,rfl⟩
      ·have k2_:=eq_false k2
       by_cases k3:y.k=3
       ·have k3_:=eq_true k3
        rw[show aU y=false by simp[aU,bC,z,e1,e3,e4,k1,k2,k3]]
        rw[z] at cK
        refine bA (nB @aD @aC @aA @aF @aS @bJ @aW @aT @aX @cK @e1_ @e3_ @e4_ @k1_ @k2_ @k3_) ?_
        show a8 _ _ _ _ _
        exact ⟨.inr rfl,_,_,rfl,rfl⟩
       ·have k3_:=eq_false k3
        by_cases k4:y.k=4
        ·have k4_:=eq_true k4
         rw[show aU y=false by simp[aU,bC,z,e1,e3,e4,k1,k2,k3,k4]]
         rw[z] at cK
         refine bA (sG @aD @aC @aA @aF @aS @bJ @aW @aT @aX @cK @e1_ @e3_ @e4_ @k1_ @k2_ @k3_ @k4_) ?_
         show a8 _ _ _ _ _
         exact ⟨.inr rfl,_,_,rfl,rfl⟩
        ·have k4_:=eq_false k4
         by_cases k5:y.k=5
         ·have k5_:=eq_true k5
          rw[show aU y=false by simp[aU,bC,z,e1,e3,e4,k1,k2,k3,k4,k5]]
          rw[z] at cK
          refine bA (vP @aD @aC @aA @aF @aS @bJ @aW @aT @aX @cK @e1_ @e3_ @e4_ @k1_ @k2_ @k3_ @k4_ @k5_) ?_
          show a8 _ _ _ _ _
          exact ⟨.inr rfl,_,_,rfl,rfl⟩
         ·have k5_:=eq_false k5
          rw[show aU y=false by simp[aU,bC,z,e1,e3,e4,k1,k2,k3,k4,k5]]
          rw[z] at cK
          refine bA (vP @aD @aC @aA @aF @aS @bJ @aW @aT @aX @cK @e1_ @e3_ @e4_ @k1_ @k2_ @k3_ @k4_ @k5_) ?_
          show a8 _ _ _ _ _
          exact ⟨.inr rfl,_,_,rfl,rfl⟩
   ·have e3_:=eq_false e3
    by_cases k1:y.k=1
    ·have k1_:=eq_true k1
     rw[show aU y=false by simp[aU,bC,z,e1,e3,k1]]
     rw[z] at cK
     refine bA (o9 @aD @aC @aA @aF @aS @bJ @aW @aT @aX @cK @e1_ @e3_ @k1_) ?_
     show a8 _ _ _ _ _
     exact ⟨.inr rfl,_,_,rfl,rfl⟩
    ·have k1_:=eq_false k1
     by_cases k2:y.k=2
     ·have k2_:=eq_true k2
      rw[show aU y=false by simp[aU,bC,z,e1,e3,k1,k2]]
      rw[z] at cK
      refine bA (vM @aD @aC @aA @aF @aS @bJ @aW @aT @aX @cK @e1_ @e3_ @k1_ @k2_) ?_
      show a8 _ _ _ _ _
      exact ⟨.inr rfl,_,_,rfl,rfl⟩
     ·have k2_:=eq_false k2
      by_cases k3:y.k=3
      ·have k3_:=eq_true k3
       rw[show aU y=false by simp[aU,bC,z,e1,e3,k1,k2,k3]]
       rw[z] at cK
       refine bA (vG @aD @aC @aA @aF @aS @bJ @aW @aT @aX @cK @e1_ @e3_ @k1_ @k2_ @k3_) ?_
       show a8 _ _ _ _ _
       exact ⟨.inr rfl,_,_,rfl,rfl⟩
      ·have k3_:=eq_false k3
       by_cases k4:y.k=4
       ·have k4_:=eq_true k4
        rw[show aU y=false by simp[aU,bC,z,e1,e3,k1,k2,k3,k4]]
        rw[z] at cK
        refine bA (nB @aD @aC @aA @aF @aS @bJ @aW @aT @aX @cK @e1_ @e3_ @k1_ @k2_ @k3_ @k4_) ?_
        show a8 _ _ _ _ _
        exact ⟨.inr rfl,_,_,rfl,rfl⟩
       ·have k4_:=eq_false k4
        by_cases k5:y.k=5
        ·have k5_:=eq_true k5
         rw[show aU y=false by simp[aU,bC,z,e1,e3,k1,k2,k3,k4,k5]]
         rw[z] at cK
         refine bA (sG @aD @aC @aA @aF @aS @bJ @aW @aT @aX @cK @e1_ @e3_ @k1_ @k2_ @k3_ @k4_ @k5_) ?_
         show a8 _ _ _ _ _
         exact ⟨.inr rfl,_,_,rfl,rfl⟩
        ·have k5_:=eq_false k5
         rw[show aU y=false by simp[aU,bC,z,e1,e3,k1,k2,k3,k4,k5]]
         rw[z] at cK
         refine bA (sG @aD @aC @aA @aF @aS @bJ @aW @aT @aX @cK @e1_ @e3_ @k1_ @k2_ @k3_ @k4_ @k5_) ?_
         show a8 _ _ _ _ _
         exact ⟨.inr rfl,_,_,rfl,rfl⟩
 ·have z_:=eq_false z
  by_cases e1:y.outs=[]
  ·have e1_:=eq_true e1
   by_cases e2:y.args=[]
   ·have e2_:=eq_true e2
    by_cases e3:y.t=0
    ·have e3_:=eq_true e3
     by_cases e4:y.brs=[]
     ·have e4_:=eq_true e4
      by_cases k1:y.k=1
      ·have k1_:=eq_true k1
       have zf:cO y.r=false:=by simpa using z
       rw[show aU y=true by simp[aU,bC,zf,e1,e2,e3,e4,k1]]
       rw[zf] at cK
       refine bA (vG @aD @aC @aA @aF @aS @bJ @aW @aT @aX @cK @e1_ @e2_ @e3_ @e4_ @k1_) ?_
       show a8 _ _ _ _ _
       exact ⟨.inr rfl,_,_,rfl,rfl⟩
      ·have k1_:=eq_false k1
       by_cases k2:y.k=2
       ·have k2_:=eq_true k2
        have zf:cO y.r=false:=by simpa using z
        rw[show aU y=true by simp[aU,bC,zf,e1,e2,e3,e4,k1,k2]]
        rw[zf] at cK
        refine bA (nB @aD @aC @aA @aF @aS @bJ @aW @aT @aX @cK @e1_ @e2_ @e3_ @e4_ @k1_ @k2_) ?_
        show a8 _ _ _ _ _
        exact ⟨.inr rfl,_,_,rfl,rfl⟩
       ·have k2_:=eq_false k2
        by_cases k3:y.k=3
        ·have k3_:=eq_true k3
         have zf:cO y.r=false:=by simpa using z
         rw[show aU y=false by simp[aU,bC,zf,e1,e2,e3,e4,k1,k2,k3]]
         rw[zf] at cK
         refine bA (sG @aD @aC @aA @aF @aS @bJ @aW @aT @aX @cK @e1_ @e2_ @e3_ @e4_ @k1_ @k2_ @k3_) ?_
         show a8 _ _ _ _ _
         exact ⟨.inr rfl,_,_,rfl,rfl⟩
        ·have k3_:=eq_false k3
         by_cases k4:y.k=4
         ·have k4_:=eq_true k4
          have zf:cO y.r=false:=by simpa using z
          rw[show aU y=false by simp[aU,bC,zf,e1,e2,e3,e4,k1,k2,k3,k4]]
          rw[zf] at cK
          refine bA (vP @aD @aC @aA @aF @aS @bJ @aW @aT @aX @cK @e1_ @e2_ @e3_ @e4_ @k1_ @k2_ @k3_ @k4_) ?_
          show a8 _ _ _ _ _
          exact ⟨.inr rfl,_,_,rfl,rfl⟩
         ·have k4_:=eq_false k4
          by_cases k5:y.k=5
          ·have k5_:=eq_true k5
           have zf:cO y.r=false:=by simpa using z
           rw[show aU y=false by simp[aU,bC,zf,e1,e2,e3,e4,k1,k2,k3,k4,k5]]
           rw[zf] at cK
           refine bA (j19 @aD @aC @aA @aF @aS @bJ @aW @aT @aX @cK @e1_ @e2_ @e3_ @e4_ @k1_ @k2_ @k3_ @k4_ @k5_) ?_
           show a8 _ _ _ _ _
           exact ⟨.inr rfl,_,_,rfl,rfl⟩
          ·have k5_:=eq_false k5
           have zf:cO y.r=false:=by simpa using z
           rw[show aU y=false by simp[aU,bC,zf,e1,e2,e3,e4,k1,k2,k3,k4,k5]]
           rw[zf] at cK
           refine bA (j19 @aD @aC @aA @aF @aS @bJ @aW @aT @aX @cK @e1_ @e2_ @e3_ @e4_ @k1_ @k2_ @k3_ @k4_ @k5_) ?_
           show a8 _ _ _ _ _
           exact ⟨.inr rfl,_,_,rfl,rfl⟩
     ·have e4_:=eq_false e4
      by_cases k1:y.k=1
      ·have k1_:=eq_true k1
       have zf:cO y.r=false:=by simpa using z
       rw[show aU y=false by simp[aU,bC,zf,e1,e2,e3,e4,k1]]
       rw[zf] at cK
       refine bA (vG @aD @aC @aA @aF @aS @bJ @aW @aT @aX @cK @e1_ @e2_ @e3_ @e4_ @k1_) ?_
       show a8 _ _ _ _ _
       exact ⟨.inr rfl,_,_,rfl,rfl⟩
      ·have k1_:=eq_false k1
       by_cases k2:y.k=2
       ·have k2_:=eq_true k2
        have zf:cO y.r=false:=by simpa using z
        rw[show aU y=false by simp[aU,bC,zf,e1,e2,e3,e4,k1,k2]]
        rw[zf] at cK
        refine bA (nB @aD @aC @aA @aF @aS @bJ @aW @aT @aX @cK @e1_ @e2_ @e3_ @e4_ @k1_ @k2_) ?_
        show a8 _ _ _ _ _
        exact ⟨.inr rfl,_,_,rfl,rfl⟩
       ·have k2_:=eq_false k2
        by_cases k3:y.k=3
        ·have k3_:=eq_true k3
         have zf:cO y.r=false:=by simpa using z
         rw[show aU y=false by simp[aU,bC,zf,e1,e2,e3,e4,k1,k2,k3]]
         rw[zf] at cK
         refine bA (sG @aD @aC @aA @aF @aS @bJ @aW @aT @aX @cK @e1_ @e2_ @e3_ @e4_ @k1_ @k2_ @k3_) ?_
         show a8 _ _ _ _ _
         exact ⟨.inr rfl,_,_,rfl,rfl⟩
        ·have k3_:=eq_false k3
         by_cases k4:y.k=4
         ·have k4_:=eq_true k4
          have zf:cO y.r=false:=by simpa using z
          rw[show aU y=false by simp[aU,bC,zf,e1,e2,e3,e4,k1,k2,k3,k4]]
          rw[zf] at cK
          refine bA (vP @aD @aC @aA @aF @aS @bJ @aW @aT @aX @cK @e1_ @e2_ @e3_ @e4_ @k1_ @k2_ @k3_ @k4_) ?_
          show a8 _ _ _ _ _
          exact ⟨.inr rfl,_,_,rfl,rfl⟩
         ·have k4_:=eq_false k4
          by_cases k5:y.k=5
          ·have k5_:=eq_true k5
           have zf:cO y.r=false:=by simpa using z
           rw[show aU y=false by simp[aU,bC,zf,e1,e2,e3,e4,k1,k2,k3,k4,k5]]
           rw[zf] at cK
           refine bA (j19 @aD @aC @aA @aF @aS @bJ @aW @aT @aX @cK @e1_ @e2_ @e3_ @e4_ @k1_ @k2_ @k3_ @k4_ @k5_) ?_
           show a8 _ _ _ _ _
           exact ⟨.inr rfl,_,_,rfl,rfl⟩
          ·have k5_:=eq_false k5
           have zf:cO y.r=false:=by simpa using z
           rw[show aU y=false by simp[aU,bC,zf,e1,e2,e3,e4,k1,k2,k3,k4,k5]]
           rw[zf] at cK
           refine bA (j19 @aD @aC @aA @aF @aS @bJ @aW @aT @aX @cK @e1_ @e2_ @e3_ @e4_ @k1_ @k2_ @k3_ @k4_ @k5_) ?_
           show a8 _ _ _ _ _
           exact ⟨.inr rfl,_,_,rfl,rfl⟩
    ·have e3_:=eq_false e3
     by_cases k1:y.k=1
     ·have k1_:=eq_true k1
      have zf:cO y.r=false:=by simpa using z
      rw[show aU y=false by simp[aU,bC,zf,e1,e2,e3,k1]]
      rw[zf] at cK
      refine bA (vM @aD @aC @aA @aF @aS @bJ @aW @aT @aX @cK @e1_ @e2_ @e3_ @k1_) ?_
      show a8 _ _ _ _ _
      exact ⟨.inr rfl,_,_,rfl,rfl⟩
     ·have k1_:=eq_false k1
      by_cases k2:y.k=2
      ·have k2_:=eq_true k2
       have zf:cO y.r=false:=by simpa using z
       rw[show aU y=false by simp[aU,bC,zf,e1,e2,e3,k1,k2]]
       rw[zf] at cK
       refine bA (vG @aD @aC @aA @aF @aS @bJ @aW @aT @aX @cK @e1_ @e2_ @e3_ @k1_ @k2_) ?_
       show a8 _ _ _ _ _
       exact ⟨.inr rfl,_,_,rfl,rfl⟩
      ·have k2_:=eq_false k2
       by_cases k3:y.k=3
       ·have k3_:=eq_true k3
        have zf:cO y.r=false:=by simpa using z
        rw[show aU y=false by simp[aU,bC,zf,e1,e2,e3,k1,k2,k3]]
        rw[zf] at cK
        refine bA (nB @aD @aC @aA @aF @aS @bJ @aW @aT @aX @cK @e1_ @e2_ @e3_ @k1_ @k2_ @k3_) ?_
        show a8 _ _ _ _ _
        exact ⟨.inr rfl,_,_,rfl,rfl⟩
       ·have k3_:=eq_false k3
        by_cases k4:y.k=4
        ·have k4_:=eq_true k4
         have zf:cO y.r=false:=by simpa using z
         rw[show aU y=false by simp[aU,bC,zf,e1,e2,e3,k1,k2,k3,k4]]
         rw[zf] at cK
         refine bA (sG @aD @aC @aA @aF @aS @bJ @aW @aT @aX @cK @e1_ @e2_ @e3_ @k1_ @k2_ @k3_ @k4_) ?_
         show a8 _ _ _ _ _
         exact ⟨.inr rfl,_,_,rfl,rfl⟩
        ·have k4_:=eq_false k4
         by_cases k5:y.k=5
         ·have k5_:=eq_true k5
          have zf:cO y.r=false:=by simpa using z
          rw[show aU y=false by simp[aU,bC,zf,e1,e2,e3,k1,k2,k3,k4,k5]]
          rw[zf] at cK
          refine bA (vP @aD @aC @aA @aF @aS @bJ @aW @aT @aX @cK @e1_ @e2_ @e3_ @k1_ @k2_ @k3_ @k4_ @k5_) ?_
          show a8 _ _ _ _ _
          exact ⟨.inr rfl,_,_,rfl,rfl⟩
         ·have k5_:=eq_false k5
          have zf:cO y.r=false:=by simpa using z
          rw[show aU y=false by simp[aU,bC,zf,e1,e2,e3,k1,k2,k3,k4,k5]]
          rw[zf] at cK
          refine bA (vP @aD @aC @aA @aF @aS @bJ @aW @aT @aX @cK @e1_ @e2_ @e3_ @k1_ @k2_ @k3_ @k4_ @k5_) ?_
          show a8 _ _ _ _ _
          exact ⟨.inr rfl,_,_,rfl,rfl⟩
   ·have e2_:=eq_false e2
    by_cases e3:y.t=0
    ·have e3_:=eq_true e3
     by_cases e4:y.brs=[]
     ·have e4_:=eq_true e4
      by_cases k1:y.k=1
      ·have k1_:=eq_true k1
       have zf:cO y.r=false:=by simpa using z
       rw[show aU y=false by simp[aU,bC,zf,e1,e2,e3,e4,k1]]
       rw[zf] at cK
       refine bA (vG @aD @aC @aA @aF @aS @bJ @aW @aT @aX @cK @e1_ @e2_ @e3_ @e4_ @k1_) ?_
       show a8 _ _ _ _ _
       exact ⟨.inr rfl,_,_,rfl,rfl⟩
      ·have k1_:=eq_false k1
       by_cases k2:y.k=2
       ·have k2_:=eq_true k2
        have zf:cO y.r=false:=by simpa using z
        rw[show aU y=false by simp[aU,bC,zf,e1,e2,e3,e4,k1,k2]]
        rw[zf] at cK
        refine bA (nB @aD @aC @aA @aF @aS @bJ @aW @aT @aX @cK @e1_ @e2_ @e3_ @e4_ @k1_ @k2_) ?_
        show a8 _ _ _ _ _
        exact ⟨.inr rfl,_,_,rfl,rfl⟩
       ·have k2_:=eq_false k2
        by_cases k3:y.k=3
        ·have k3_:=eq_true k3
         have zf:cO y.r=false:=by simpa using z
         rw[show aU y=false by simp[aU,bC,zf,e1,e2,e3,e4,k1,k2,k3]]
         rw[zf] at cK
         refine bA (sG @aD @aC @aA @aF @aS @bJ @aW @aT @aX @cK @e1_ @e2_ @e3_ @e4_ @k1_ @k2_ @k3_) ?_
         show a8 _ _ _ _ _
         exact ⟨.inr rfl,_,_,rfl,rfl⟩
        ·have k3_:=eq_false k3
         by_cases k4:y.k=4
         ·have k4_:=eq_true k4
          have zf:cO y.r=false:=by simpa using z
          rw[show aU y=false by simp[aU,bC,zf,e1,e2,e3,e4,k1,k2,k3,k4]]
          rw[zf] at cK
          refine bA (vP @aD @aC @aA @aF @aS @bJ @aW @aT @aX @cK @e1_ @e2_ @e3_ @e4_ @k1_ @k2_ @k3_ @k4_) ?_
          show a8 _ _ _ _ _
          exact ⟨.inr rfl,_,_,rfl,rfl⟩
         ·have k4_:=eq_false k4
          by_cases k5:y.k=5
          ·have k5_:=eq_true k5
           have zf:cO y.r=false:=by simpa using z
           rw[show aU y=false by simp[aU,bC,zf,e1,e2,e3,e4,k1,k2,k3,k4,k5]]
           rw[zf] at cK
           refine bA (j19 @aD @aC @aA @aF @aS @bJ @aW @aT @aX @cK @e1_ @e2_ @e3_ @e4_ @k1_ @k2_ @k3_ @k4_ @k5_) ?_
           show a8 _ _ _ _ _
           exact ⟨.inr rfl,_,_,rfl,rfl⟩
          ·have k5_:=eq_false k5
           have zf:cO y.r=false:=by simpa using z
           rw[show aU y=false by simp[aU,bC,zf,e1,e2,e3,e4,k1,k2,k3,k4,k5]]
           rw[zf] at cK
           refine bA (j19 @aD @aC @aA @aF @aS @bJ @aW @aT @aX @cK @e1_ @e2_ @e3_ @e4_ @k1_ @k2_ @k3_ @k4_ @k5_) ?_
           show a8 _ _ _ _ _
           exact ⟨.inr rfl,_,_,rfl,rfl⟩
     ·have e4_:=eq_false e4
      by_cases k1:y.k=1
      ·have k1_:=eq_true k1
       have zf:cO y.r=false:=by simpa using z
       rw[show aU y=false by simp[aU,bC,zf,e1,e2,e3,e4,k1]]
       rw[zf] at cK
       refine bA (vG @aD @aC @aA @aF @aS @bJ @aW @aT @aX @cK @e1_ @e2_ @e3_ @e4_ @k1_) ?_
       show a8 _ _ _ _ _
       exact ⟨.inr rfl,_,_,rfl,rfl⟩
      ·have k1_:=eq_false k1
       by_cases k2:y.k=2
       ·have k2_:=eq_true k2
        have zf:cO y.r=false:=by simpa using z
        rw[show aU y=false by simp[aU,bC,zf,e1,e2,e3,e4,k1,k2]]
        rw[zf] at cK
        refine bA (nB @aD @aC @aA @aF @aS @bJ @aW @aT @aX @cK @e1_ @e2_ @e3_ @e4_ @k1_ @k2_) ?_
        show a8 _ _ _ _ _
        exact ⟨.inr rfl,_,_,rfl,rfl⟩
       ·have k2_:=eq_false k2
        by_cases k3:y.k=3
        ·have k3_:=eq_true k3
         have zf:cO y.r=false:=by simpa using z
         rw[show aU y=false by simp[aU,bC,zf,e1,e2,e3,e4,k1,k2,k3]]
         rw[zf] at cK
         refine bA (sG @aD @aC @aA @aF @aS @bJ @aW @aT @aX @cK @e1_ @e2_ @e3_ @e4_ @k1_ @k2_ @k3_) ?_
         show a8 _ _ _ _ _
         exact ⟨.inr rfl,_,_,rfl,rfl⟩
        ·have k3_:=eq_false k3
         by_cases k4:y.k=4
         ·have k4_:=eq_true k4
          have zf:cO y.r=false:=by simpa using z
          rw[show aU y=false by simp[aU,bC,zf,e1,e2,e3,e4,k1,k2,k3,k4]]
          rw[zf] at cK
          refine bA (vP @aD @aC @aA @aF @aS @bJ @aW @aT @aX @cK @e1_ @e2_ @e3_ @e4_ @k1_ @k2_ @k3_ @k4_) ?_
          show a8 _ _ _ _ _
          exact ⟨.inr rfl,_,_,rfl,rfl⟩
         ·have k4_:=eq_false k4
          by_cases k5:y.k=5
          ·have k5_:=eq_true k5
           have zf:cO y.r=false:=by simpa using z
           rw[show aU y=false by simp[aU,bC,zf,e1,e2,e3,e4,k1,k2,k3,k4,k5]]
           rw[zf] at cK
           refine bA (j19 @aD @aC @aA @aF @aS @bJ @aW @aT @aX @cK @e1_ @e2_ @e3_ @e4_ @k1_ @k2_ @k3_ @k4_ @k5_) ?_
           show a8 _ _ _ _ _
           exact ⟨.inr rfl,_,_,rfl,rfl⟩
          ·have k5_:=eq_false k5
           have zf:cO y.r=false:=by simpa using z
           rw[show aU y=false by simp[aU,bC,zf,e1,e2,e3,e4,k1,k2,k3,k4,k5]]
           rw[zf] at cK
           refine bA (j19 @aD @aC @aA @aF @aS @bJ @aW @aT @aX @cK @e1_ @e2_ @e3_ @e4_ @k1_ @k2_ @k3_ @k4_ @k5_) ?_
           show a8 _ _ _ _ _
           exact ⟨.inr rfl,_,_,rfl,rfl⟩
    ·have e3_:=eq_false e3
     by_cases k1:y.k=1
     ·have k1_:=eq_true k1
      have zf:cO y.r=false:=by simpa using z
      rw[show aU y=false by simp[aU,bC,zf,e1,e2,e3,k1]]
      rw[zf] at cK
      refine bA (vM @aD @aC @aA @aF @aS @bJ @aW @aT @aX @cK @e1_ @e2_ @e3_ @k1_) ?_
      show a8 _ _ _ _ _
      exact ⟨.inr rfl,_,_,rfl,rfl⟩
     ·have k1_:=eq_false k1
      by_cases k2:y.k=2
      ·have k2_:=eq_true k2
       have zf:cO y.r=false:=by simpa using z
       rw[show aU y=false by simp[aU,bC,zf,e1,e2,e3,k1,k2]]
       rw[zf] at cK
       refine bA (vG @aD @aC @aA @aF @aS @bJ @aW @aT @aX @cK @e1_ @e2_ @e3_ @k1_ @k2_) ?_
       show a8 _ _ _ _ _
       exact ⟨.inr rfl,_,_,rfl,rfl⟩
      ·have k2_:=eq_false k2
       by_cases k3:y.k=3
       ·have k3_:=eq_true k3
        have zf:cO y.r=false:=by simpa using z
        rw[show aU y=false by simp[aU,bC,zf,e1,e2,e3,k1,k2,k3]]
        rw[zf] at cK
        refine bA (nB @aD @aC @aA @aF @aS @bJ @aW @aT @aX @cK @e1_ @e2_ @e3_ @k1_ @k2_ @k3_) ?_
        show a8 _ _ _ _ _
        exact ⟨.inr rfl,_,_,rfl,rfl⟩
       ·have k3_:=eq_false k3
        by_cases k4:y.k=4
        ·have k4_:=eq_true k4
         have zf:cO y.r=false:=by simpa using z
         rw[show aU y=false by simp[aU,bC,zf,e1,e2,e3,k1,k2,k3,k4]]
         rw[zf] at cK
         refine bA (sG @aD @aC @aA @aF @aS @bJ @aW @aT @aX @cK @e1_ @e2_ @e3_ @k1_ @k2_ @k3_ @k4_) ?_
         show a8 _ _ _ _ _
         exact ⟨.inr rfl,_,_,rfl,rfl⟩
        ·have k4_:=eq_false k4
         by_cases k5:y.k=5
         ·have k5_:=eq_true k5
          have zf:cO y.r=false:=by simpa using z
          rw[show aU y=false by simp[aU,bC,zf,e1,e2,e3,k1,k2,k3,k4,k5]]
          rw[zf] at cK
          refine bA (vP @aD @aC @aA @aF @aS @bJ @aW @aT @aX @cK @e1_ @e2_ @e3_ @k1_ @k2_ @k3_ @k4_ @k5_) ?_
          show a8 _ _ _ _ _
          exact ⟨.inr rfl,_,_,rfl,rfl⟩
         ·have k5_:=eq_false k5
          have zf:cO y.r=false:=by simpa using z
          rw[show aU y=false by simp[aU,bC,zf,e1,e2,e3,k1,k2,k3,k4,k5]]
          rw[zf] at cK
          refine bA (vP @aD @aC @aA @aF @aS @bJ @aW @aT @aX @cK @e1_ @e2_ @e3_ @k1_ @k2_ @k3_ @k4_ @k5_) ?_
          show a8 _ _ _ _ _
          exact ⟨.inr rfl,_,_,rfl,rfl⟩
  ·have e1_:=eq_false e1
   by_cases e3:y.t=0
   ·have e3_:=eq_true e3
    by_cases e4:y.brs=[]
    ·have e4_:=eq_true e4
     by_cases k1:y.k=1
     ·have k1_:=eq_true k1
      have zf:cO y.r=false:=by simpa using z
      rw[show aU y=false by simp[aU,bC,zf,e1,e3,e4,k1]]
      rw[zf] at cK
      refine bA (vM @aD @aC @aA @aF @aS @bJ @aW @aT @aX @cK @e1_ @e3_ @e4_ @k1_) ?_
      show a8 _ _ _ _ _
      exact ⟨.inr rfl,_,_,rfl,rfl⟩
     ·have k1_:=eq_false k1
      by_cases k2:y.k=2
      ·have k2_:=eq_true k2
       have zf:cO y.r=false:=by simpa using z
       rw[show aU y=false by simp[aU,bC,zf,e1,e3,e4,k1,k2]]
       rw[zf] at cK
       refine bA (vG @aD @aC @aA @aF @aS @bJ @aW @aT @aX @cK @e1_ @e3_ @e4_ @k1_ @k2_) ?_
       show a8 _ _ _ _ _
       exact ⟨.inr rfl,_,_,rfl,rfl⟩
      ·have k2_:=eq_false k2
       by_cases k3:y.k=3
       ·have k3_:=eq_true k3
        have zf:cO y.r=false:=by simpa using z
        rw[show aU y=false by simp[aU,bC,zf,e1,e3,e4,k1,k2,k3]]
        rw[zf] at cK
        refine bA (nB @aD @aC @aA @aF @aS @bJ @aW @aT @aX @cK @e1_ @e3_ @e4_ @k1_ @k2_ @k3_) ?_
        show a8 _ _ _ _ _
        exact ⟨.inr rfl,_,_,rfl,rfl⟩
       ·have k3_:=eq_false k3
        by_cases k4:y.k=4
        ·have k4_:=eq_true k4
         have zf:cO y.r=false:=by simpa using z
         rw[show aU y=false by simp[aU,bC,zf,e1,e3,e4,k1,k2,k3,k4]]
         rw[zf] at cK
         refine bA (sG @aD @aC @aA @aF @aS @bJ @aW @aT @aX @cK @e1_ @e3_ @e4_ @k1_ @k2_ @k3_ @k4_) ?_
         show a8 _ _ _ _ _
         exact ⟨.inr rfl,_,_,rfl,rfl⟩
        ·have k4_:=eq_false k4
         by_cases k5:y.k=5
         ·have k5_:=eq_true k5
          have zf:cO y.r=false:=by simpa using z
          rw[show aU y=false by simp[aU,bC,zf,e1,e3,e4,k1,k2,k3,k4,k5]]
          rw[zf] at cK
          refine bA (vP @aD @aC @aA @aF @aS @bJ @aW @aT @aX @cK @e1_ @e3_ @e4_ @k1_ @k2_ @k3_ @k4_ @k5_) ?_
          show a8 _ _ _ _ _
          exact ⟨.inr rfl,_,_,rfl,rfl⟩
         ·have k5_:=eq_false k5
          have zf:cO y.r=false:=by simpa using z
          rw[show aU y=false by simp[aU,bC,zf,e1,e3,e4,k1,k2,k3,k4,k5]]
          rw[zf] at cK
          refine bA (vP @aD @aC @aA @aF @aS @bJ @aW @aT @aX @cK @e1_ @e3_ @e4_ @k1_ @k2_ @k3_ @k4_ @k5_) ?_
          show a8 _ _ _ _ _
          exact ⟨.inr rfl,_,_,rfl,rfl⟩
    ·have e4_:=eq_false e4
     by_cases k1:y.k=1
     ·have k1_:=eq_true k1
      have zf:cO y.r=false:=by simpa using z
      rw[show aU y=false by simp[aU,bC,zf,e1,e3,e4,k1]]
      rw[zf] at cK
      refine bA (vM @aD @aC @aA @aF @aS @bJ @aW @aT @aX @cK @e1_ @e3_ @e4_ @k1_) ?_
      show a8 _ _ _ _ _
      exact ⟨.inr rfl,_,_,rfl,rfl⟩
     ·have k1_:=eq_false k1
      by_cases k2:y.k=2
      ·have k2_:=eq_true k2
       have zf:cO y.r=false:=by simpa using z
       rw[show aU y=false by simp[aU,bC,zf,e1,e3,e4,k1,k2]]
       rw[zf] at cK
       refine bA (vG @aD @aC @aA @aF @aS @bJ @aW @aT @aX @cK @e1_ @e3_ @e4_ @k1_ @k2_) ?_
       show a8 _ _ _ _ _
       exact ⟨.inr rfl,_,_,rfl,rfl⟩
      ·have k2_:=eq_false k2
       by_cases k3:y.k=3
       ·have k3_:=eq_true k3
        have zf:cO y.r=false:=by simpa using z
        rw[show aU y=false by simp[aU,bC,zf,e1,e3,e4,k1,k2,k3]]
        rw[zf] at cK
        refine bA (nB @aD @aC @aA @aF @aS @bJ @aW @aT @aX @cK @e1_ @e3_ @e4_ @k1_ @k2_ @k3_) ?_
        show a8 _ _ _ _ _
        exact ⟨.inr rfl,_,_,rfl,rfl⟩
       ·have k3_:=eq_false k3
        by_cases k4:y.k=4
        ·have k4_:=eq_true k4
         have zf:cO y.r=false:=by simpa using z
         rw[show aU y=false by simp[aU,bC,zf,e1,e3,e4,k1,k2,k3,k4]]
         rw[zf] at cK
         refine bA (sG @aD @aC @aA @aF @aS @bJ @aW @aT @aX @cK @e1_ @e3_ @e4_ @k1_ @k2_ @k3_ @k4_) ?_
         show a8 _ _ _ _ _
         exact ⟨.inr rfl,_,_,rfl,rfl⟩
        ·have k4_:=eq_false k4
         by_cases k5:y.k=5
         ·have k5_:=eq_true k5
          have zf:cO y.r=false:=by simpa using z
          rw[show aU y=false by simp[aU,bC,zf,e1,e3,e4,k1,k2,k3,k4,k5]]
          rw[zf] at cK
          refine bA (vP @aD @aC @aA @aF @aS @bJ @aW @aT @aX @cK @e1_ @e3_ @e4_ @k1_ @k2_ @k3_ @k4_ @k5_) ?_
          show a8 _ _ _ _ _
          exact ⟨.inr rfl,_,_,rfl,rfl⟩
         ·have k5_:=eq_false k5
          have zf:cO y.r=false:=by simpa using z
          rw[show aU y=false by simp[aU,bC,zf,e1,e3,e4,k1,k2,k3,k4,k5]]
          rw[zf] at cK
          refine bA (vP @aD @aC @aA @aF @aS @bJ @aW @aT @aX @cK @e1_ @e3_ @e4_ @k1_ @k2_ @k3_ @k4_ @k5_) ?_
          show a8 _ _ _ _ _
          exact ⟨.inr rfl,_,_,rfl,rfl⟩
   ·have e3_:=eq_false e3
    by_cases k1:y.k=1
    ·have k1_:=eq_true k1
     have zf:cO y.r=false:=by simpa using z
     rw[show aU y=false by simp[aU,bC,zf,e1,e3,k1]]
     rw[zf] at cK
     refine bA (o9 @aD @aC @aA @aF @aS @bJ @aW @aT @aX @cK @e1_ @e3_ @k1_) ?_
     show a8 _ _ _ _ _
     exact ⟨.inr rfl,_,_,rfl,rfl⟩
    ·have k1_:=eq_false k1
     by_cases k2:y.k=2
     ·have k2_:=eq_true k2
      have zf:cO y.r=false:=by simpa using z
      rw[show aU y=false by simp[aU,bC,zf,e1,e3,k1,k2]]
      rw[zf] at cK
      refine bA (vM @aD @aC @aA @aF @aS @bJ @aW @aT @aX @cK @e1_ @e3_ @k1_ @k2_) ?_
      show a8 _ _ _ _ _
      exact ⟨.inr rfl,_,_,rfl,rfl⟩
     ·have k2_:=eq_false k2
      by_cases k3:y.k=3
      ·have k3_:=eq_true k3
       have zf:cO y.r=false:=by simpa using z
       rw[show aU y=false by simp[aU,bC,zf,e1,e3,k1,k2,k3]]
       rw[zf] at cK
       refine bA (vG @aD @aC @aA @aF @aS @bJ @aW @aT @aX @cK @e1_ @e3_ @k1_ @k2_ @k3_) ?_
       show a8 _ _ _ _ _
       exact ⟨.inr rfl,_,_,rfl,rfl⟩
      ·have k3_:=eq_false k3
       by_cases k4:y.k=4
       ·have k4_:=eq_true k4
        have zf:cO y.r=false:=by simpa using z
        rw[show aU y=false by simp[aU,bC,zf,e1,e3,k1,k2,k3,k4]]
        rw[zf] at cK
        refine bA (nB @aD @aC @aA @aF @aS @bJ @aW @aT @aX @cK @e1_ @e3_ @k1_ @k2_ @k3_ @k4_) ?_
        show a8 _ _ _ _ _
        exact ⟨.inr rfl,_,_,rfl,rfl⟩
       ·have k4_:=eq_false k4
        by_cases k5:y.k=5
        ·have k5_:=eq_true k5
         have zf:cO y.r=false:=by simpa using z
         rw[show aU y=false by simp[aU,bC,zf,e1,e3,k1,k2,k3,k4,k5]]
         rw[zf] at cK
         refine bA (sG @aD @aC @aA @aF @aS @bJ @aW @aT @aX @cK @e1_ @e3_ @k1_ @k2_ @k3_ @k4_ @k5_) ?_
         show a8 _ _ _ _ _
         exact ⟨.inr rfl,_,_,rfl,rfl⟩
        ·have k5_:=eq_false k5
         have zf:cO y.r=false:=by simpa using z
         rw[show aU y=false by simp[aU,bC,zf,e1,e3,k1,k2,k3,k4,k5]]
         rw[zf] at cK
         refine bA (sG @aD @aC @aA @aF @aS @bJ @aW @aT @aX @cK @e1_ @e3_ @k1_ @k2_ @k3_ @k4_ @k5_) ?_
         show a8 _ _ _ _ _
         exact ⟨.inr rfl,_,_,rfl,rfl⟩
end Go.Ac
