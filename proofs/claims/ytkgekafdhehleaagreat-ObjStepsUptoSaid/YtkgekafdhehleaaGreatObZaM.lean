/- Operators: the reference's words. -/
import Derived.Test.YtkgekafdhehleaaGreatObPe
set_option linter.unusedVariables false
set_option linter.unusedSimpArgs false
section
set_option maxRecDepth 4000
namespace Go.Ac
open Go.Proofs
def fL (o:Int):Int:=if eN o=0 then 0 else if qQ o then 1 else if qN o then 2 else if tB o then 3 else 4
theorem aUY (r:Nat):Ob.keep 162 r=Ob.k162 r:=by kernel_rfl
theorem aTn (r:Nat):Ob.keep 193 r=Ob.k193 r:=by kernel_rfl
attribute [local simp] aUY Ob.k162 aTn Ob.k193
set_option maxHeartbeats 4000000 in
theorem jM (o:Int):d7 Tryz.prog Ob.cfg 162 [dI o]=some (.tuple [dI (fL o),dI (eN o)]):=by
 refine bF Tryz.func162 rfl (by kernel_rfl) rfl rfl ?_
 by_cases q1:o=1
 ·subst q1
  refine a9 (@aB) ?_
  exact ⟨.inr rfl,_,_,rfl,rfl⟩
 have r1:=eq_false q1
 by_cases q2:o=2
 ·subst q2
  refine a9 (@aB) ?_
  exact ⟨.inr rfl,_,_,rfl,rfl⟩
 have r2:=eq_false q2
 by_cases q3:o=3
 ·subst q3
  refine a9 (@aB) ?_
  exact ⟨.inr rfl,_,_,rfl,rfl⟩
 have r3:=eq_false q3
 by_cases q4:o=4
 ·subst q4
  refine a9 (@aB) ?_
  exact ⟨.inr rfl,_,_,rfl,rfl⟩
 have r4:=eq_false q4
 by_cases q5:o=5
 ·subst q5
  refine a9 (@aB) ?_
  exact ⟨.inr rfl,_,_,rfl,rfl⟩
 have r5:=eq_false q5
 by_cases q6:o=6
 ·subst q6
  refine a9 (@aB) ?_
  exact ⟨.inr rfl,_,_,rfl,rfl⟩
 have r6:=eq_false q6
 by_cases q7:o=7
 ·subst q7
  refine a9 (@aB) ?_
  exact ⟨.inr rfl,_,_,rfl,rfl⟩
 have r7:=eq_false q7
 by_cases q8:o=8
 ·subst q8
  refine a9 (@aB) ?_
  exact ⟨.inr rfl,_,_,rfl,rfl⟩
 have r8:=eq_false q8
 by_cases q9:o=9
 ·subst q9
  refine a9 (@aB) ?_
  exact ⟨.inr rfl,_,_,rfl,rfl⟩
 have r9:=eq_false q9
 by_cases q10:o=10
 ·subst q10
  refine a9 (@aB) ?_
  exact ⟨.inr rfl,_,_,rfl,rfl⟩
 have r10:=eq_false q10
 by_cases q11:o=11
 ·subst q11
  refine a9 (@aB) ?_
  exact ⟨.inr rfl,_,_,rfl,rfl⟩
 have r11:=eq_false q11
 by_cases q12:o=12
 ·subst q12
  refine a9 (@aB) ?_
  exact ⟨.inr rfl,_,_,rfl,rfl⟩
 have r12:=eq_false q12
 by_cases q13:o=13
 ·subst q13
  refine a9 (@aB) ?_
  exact ⟨.inr rfl,_,_,rfl,rfl⟩
 have r13:=eq_false q13
 by_cases q14:o=14
 ·subst q14
  refine a9 (@aB) ?_
  exact ⟨.inr rfl,_,_,rfl,rfl⟩
 have r14:=eq_false q14
 by_cases q15:o=15
 ·subst q15
  refine a9 (@aB) ?_
  exact ⟨.inr rfl,_,_,rfl,rfl⟩
 have r15:=eq_false q15
 by_cases q16:o=16
 ·subst q16
  refine a9 (@aB) ?_
  exact ⟨.inr rfl,_,_,rfl,rfl⟩
 have r16:=eq_false q16
 have h0:eN o=0:=by unfold eN;rw[if_neg (by omega),if_neg (by omega)]
 have h1:fL o=0:=by unfold fL;rw[if_pos h0]
 rw[h0,h1]
 refine a9 (u7 @aB @aS @r1 @r2 @r3 @r4 @r5 @r6 @r7 @r8 @r9 @r10 @r11 @r12 @r13 @r14 @r15 @r16) ?_
 exact ⟨.inr rfl,_,_,rfl,rfl⟩
def iK (K y0 d:Int):Bool:=if K=1 then !decide (d=1) else if K=3 then (!decide (d=y0)||decide (d<1)) else !decide (d=2)
theorem aME {o:Int} (h:eN o≠0):(qQ o=true→tB o=false∧qN o=false)∧(qN o=true→tB o=false∧qQ o=false):=by
 unfold qQ qN tB
 refine ⟨fun h=>?_,fun h=>?_⟩ <;> simp at h ⊢ <;> omega
theorem zJ {o y0:Int} {l:List Int} (hy:l.head?=some y0) (h1:eN o≠0) (h2:(l.length:Int)=eN o):jC o l=if l.any (iK (fL o) y0) then (0,10) else if fL o=2 then (2,0) else (1,0):=by
 obtain ⟨e1,e2⟩:=aME h1
 unfold jC tH fL
 rw[if_neg h1,if_neg (by omega),if_neg h1]
 cases l with
 | nil=>simp at hy
 | cons a r=>
 simp at hy;subst hy
 cases hb:qQ o with
 | true=>
  obtain ⟨e3,e4⟩:=e1 hb
  simp[e3,e4,iK]
 | false=>
  cases ha:qN o with
  | true=>
   obtain ⟨e3,e4⟩:=e2 ha
   have:iK 2 a=fun t=> !decide (t=2):=by funext t;simp[iK]
   simp[e3,this,iK]
  | false=>
   cases hq:tB o with
   | false=>
    have:iK 4 a=fun t=> !decide (t=2):=by funext t;simp[iK]
    simp[this,iK]
   | true=>
    simp[iK]
    by_cases fB:a<1
    ·simp[fB]
    ·simp[fB]
     have:(∃ x,x∈r∧¬x=a)=(∃ x,x∈r∧(¬x=a∨x<1)):=by
      refine propext ⟨fun ⟨x,h1,h2⟩=>⟨x,h1,.inl h2⟩,fun ⟨x,h1,h2⟩=>⟨x,h1,?_⟩⟩
      omega
     simp only[this]
set_option maxHeartbeats 2000000 in
theorem aSs (o:Int) (l:List Int) (y0:Int) (hy:l.head?=some y0) (c1:eN o≠0) (c2:(l.length:Int)=eN o) (hK:fL o=1):d7 Tryz.prog Ob.cfg 193 [dI o,dL (bX l)]=some (.tuple [dI (jC o l).1,dI (jC o l).2]):=by
 have a1:=jM o
 have har:=nQ o
 have hr:=zJ hy c1 c2
 rw[hK] at a1 hr
 rw[hr]
 simp only[dI] at a1
 have c2':=eq_true c2
 have hp:0<l.length:=by cases l with
  | nil=>simp at hy
  | cons a r=>simp
 have yT:jQ 0 l.length=some 0:=by unfold jQ;rw[if_pos ⟨by omega,by omega⟩];rfl
 have e0:(bX l)[0]?=some [.int .i64 y0]:=c9 (by rw[←List.head?_eq_getElem?];exact hy)
 refine bF Tryz.func193 rfl (by kernel_rfl) rfl rfl ?_
 refine a9 (j7 @aB @aA @a1 @c2' @aS @aV @aZ) ?_
 apply WP.loop' (I:=fun D s=>∃ j:Nat,j+D=l.length∧(l.take j).all (fun d=> !iK 1 y0 d)=true∧SE [(1,dL (bX l)),(6,dI 1),(23,dL (bX l)),(24,dI l.length),(25,dI j)] [] 0 s) (d:=l.length)
 ·exact ⟨0,by simp,by simp,SE.mk (by simp[dI,dL]) rfl⟩
 rintro D _ ⟨j,hj,cD,cc,rfl⟩
 refine wk (j3 @aB @aA @aZ) ?_
 show WP _ _ _ _ _ _
 refine WP.cond _ rfl (fun hb=>?_) (fun hb=>?_)
 ·simp at hb
  have bR:j<l.length:=by omega
  obtain ⟨d,hd,d9,bS⟩:=bL bR
  have cF:=c9 hd
  have hw:=bG bR (by omega)
  have hs:=bZ (p:=fun d=> !iK 1 y0 d) hd
  by_cases hq:d=1
  ·have oE:iK 1 y0 d=false:=by subst hq;simp[iK]
   refine a9 (j7 @aB @aA @aZ @bS @cF @aV @hq) ?_
   refine aY (by simp[hw];exact Is.rfl) ?_
   exact ⟨D - 1,by omega,j+1,by omega,by rw[hs,cD,oE];rfl,SE.mk (by simp[dI,dL,hw]) rfl⟩
  ·have gQ:=eq_false hq
   have oE:iK 1 y0 d=true:=by simp[iK,hq]
   have ha:l.any (iK 1 y0)=true:=List.any_eq_true.2 ⟨d,d9,oE⟩
   rw[ha]
   refine a9 (j7 @aB @aA @aZ @bS @cF @aV @gQ) ?_
   exact ⟨.inr rfl,_,_,rfl,rfl⟩
 ·simp at hb
  have eM:j=l.length:=by omega
  rw[eM,List.take_length] at cD
  have ha:l.any (iK 1 y0)=false:=by
   rw[List.any_eq_false];intro t ht;simpa using List.all_eq_true.1 cD t ht
  rw[ha]
  refine a9 (jn @aB @aA) ?_
  exact ⟨.inr rfl,_,_,rfl,rfl⟩
set_option maxHeartbeats 2000000 in
theorem aSm (o:Int) (l:List Int) (y0:Int) (hy:l.head?=some y0) (c1:eN o≠0) (c2:(l.length:Int)=eN o) (hK:fL o=2):d7 Tryz.prog Ob.cfg 193 [dI o,dL (bX l)]=some (.tuple [dI (jC o l).1,dI (jC o l).2]):=by
 have a1:=jM o
 have har:=nQ o
 have hr:=zJ hy c1 c2
 rw[hK] at a1 hr
 rw[hr]
 simp only[dI] at a1
 have c2':=eq_true c2
 have hp:0<l.length:=by cases l with
  | nil=>simp at hy
  | cons a r=>simp
 have yT:jQ 0 l.length=some 0:=by unfold jQ;rw[if_pos ⟨by omega,by omega⟩];rfl
 have e0:(bX l)[0]?=some [.int .i64 y0]:=c9 (by rw[←List.head?_eq_getElem?];exact hy)
 refine bF Tryz.func193 rfl (by kernel_rfl) rfl rfl ?_
 refine a9 (j7 @aB @aA @a1 @c2' @aS @aV @aZ) ?_
 apply WP.loop' (I:=fun D s=>∃ j:Nat,j+D=l.length∧(l.take j).all (fun d=> !iK 2 y0 d)=true∧SE [(1,dL (bX l)),(6,dI 2),(23,dL (bX l)),(24,dI l.length),(25,dI j)] [] 0 s) (d:=l.length)
 ·exact ⟨0,by simp,by simp,SE.mk (by simp[dI,dL]) rfl⟩
 rintro D _ ⟨j,hj,cD,cc,rfl⟩
 refine wk (j3 @aB @aA @aZ) ?_
 show WP _ _ _ _ _ _
 refine WP.cond _ rfl (fun hb=>?_) (fun hb=>?_)
 ·simp at hb
  have bR:j<l.length:=by omega
  obtain ⟨d,hd,d9,bS⟩:=bL bR
  have cF:=c9 hd
  have hw:=bG bR (by omega)
  have hs:=bZ (p:=fun d=> !iK 2 y0 d) hd
  by_cases hq:d=2
  ·have oE:iK 2 y0 d=false:=by subst hq;simp[iK]
   refine a9 (j7 @aB @aA @aZ @bS @cF @aV @hq) ?_
   refine aY (by simp[hw];exact Is.rfl) ?_
   exact ⟨D - 1,by omega,j+1,by omega,by rw[hs,cD,oE];rfl,SE.mk (by simp[dI,dL,hw]) rfl⟩
  ·have gQ:=eq_false hq
   have oE:iK 2 y0 d=true:=by simp[iK,hq]
   have ha:l.any (iK 2 y0)=true:=List.any_eq_true.2 ⟨d,d9,oE⟩
   rw[ha]
   refine a9 (j7 @aB @aA @aZ @bS @cF @aV @gQ) ?_
   exact ⟨.inr rfl,_,_,rfl,rfl⟩
 ·simp at hb
  have eM:j=l.length:=by omega
  rw[eM,List.take_length] at cD
  have ha:l.any (iK 2 y0)=false:=by
   rw[List.any_eq_false];intro t ht;simpa using List.all_eq_true.1 cD t ht
  rw[ha]
  refine a9 (jn @aB @aA) ?_
  exact ⟨.inr rfl,_,_,rfl,rfl⟩
set_option maxHeartbeats 2000000 in
theorem aVd (o:Int) (l:List Int) (y0:Int) (hy:l.head?=some y0) (c1:eN o≠0) (c2:(l.length:Int)=eN o) (hK:fL o=3):d7 Tryz.prog Ob.cfg 193 [dI o,dL (bX l)]=some (.tuple [dI (jC o l).1,dI (jC o l).2]):=by
 have a1:=jM o
 have har:=nQ o
 have hr:=zJ hy c1 c2
 rw[hK] at a1 hr
 rw[hr]
 simp only[dI] at a1
 have c2':=eq_true c2
 have hp:0<l.length:=by cases l with
  | nil=>simp at hy
  | cons a r=>simp
 have yT:jQ 0 l.length=some 0:=by unfold jQ;rw[if_pos ⟨by omega,by omega⟩];rfl
 have e0:(bX l)[0]?=some [.int .i64 y0]:=c9 (by rw[←List.head?_eq_getElem?];exact hy)
 refine bF Tryz.func193 rfl (by kernel_rfl) rfl rfl ?_
 refine a9 (j7 @aB @aA @a1 @c2' @aS @aV @aZ) ?_
 apply WP.loop' (I:=fun D s=>∃ j:Nat,j+D=l.length∧(l.take j).all (fun d=> !iK 3 y0 d)=true∧SE [(1,dL (bX l)),(6,dI 3),(23,dL (bX l)),(24,dI l.length),(25,dI j)] [] 0 s) (d:=l.length)
 ·exact ⟨0,by simp,by simp,SE.mk (by simp[dI,dL]) rfl⟩
 rintro D _ ⟨j,hj,cD,cc,rfl⟩
 refine wk (j3 @aB @aA @aZ) ?_
 show WP _ _ _ _ _ _
 refine WP.cond _ rfl (fun hb=>?_) (fun hb=>?_)
 ·simp at hb
  have bR:j<l.length:=by omega
  obtain ⟨d,hd,d9,bS⟩:=bL bR
  have cF:=c9 hd
  have hw:=bG bR (by omega)
  have hs:=bZ (p:=fun d=> !iK 3 y0 d) hd
  by_cases hq:d=y0
  ·have gQ:=eq_true hq
   by_cases fB:d<1
   ·have aFQ:=eq_true fB
    have oE:iK 3 y0 d=true:=by simp[iK,fB]
    have ha:l.any (iK 3 y0)=true:=List.any_eq_true.2 ⟨d,d9,oE⟩
    rw[ha]
    refine a9 (nW @aB @aA @aZ @bS @cF @aV @gQ @aFQ @e0 @yT) ?_
    exact ⟨.inr rfl,_,_,rfl,rfl⟩
   ·have aFQ:=eq_false fB
    have oE:iK 3 y0 d=false:=by subst hq;simp[iK];omega
    refine a9 (nW @aB @aA @aZ @bS @cF @aV @gQ @aFQ @e0 @yT) ?_
    refine aY (by simp[hw];exact Is.rfl) ?_
    exact ⟨D - 1,by omega,j+1,by omega,by rw[hs,cD,oE];rfl,SE.mk (by simp[dI,dL,hw]) rfl⟩
  ·have gQ:=eq_false hq
   have oE:iK 3 y0 d=true:=by simp[iK,hq]
   have ha:l.any (iK 3 y0)=true:=List.any_eq_true.2 ⟨d,d9,oE⟩
   rw[ha]
   refine a9 (j9 @aB @aA @aZ @bS @cF @aV @gQ @e0 @yT) ?_
   exact ⟨.inr rfl,_,_,rfl,rfl⟩
 ·simp at hb
  have eM:j=l.length:=by omega
  rw[eM,List.take_length] at cD
  have ha:l.any (iK 3 y0)=false:=by
   rw[List.any_eq_false];intro t ht;simpa using List.all_eq_true.1 cD t ht
  rw[ha]
  refine a9 (jn @aB @aA) ?_
  exact ⟨.inr rfl,_,_,rfl,rfl⟩
set_option maxHeartbeats 2000000 in
theorem aSl (o:Int) (l:List Int) (y0:Int) (hy:l.head?=some y0) (c1:eN o≠0) (c2:(l.length:Int)=eN o) (hK:fL o=4):d7 Tryz.prog Ob.cfg 193 [dI o,dL (bX l)]=some (.tuple [dI (jC o l).1,dI (jC o l).2]):=by
 have a1:=jM o
 have har:=nQ o
 have hr:=zJ hy c1 c2
 rw[hK] at a1 hr
 rw[hr]
 simp only[dI] at a1
 have c2':=eq_true c2
 have hp:0<l.length:=by cases l with
  | nil=>simp at hy
  | cons a r=>simp
 have yT:jQ 0 l.length=some 0:=by unfold jQ;rw[if_pos ⟨by omega,by omega⟩];rfl
 have e0:(bX l)[0]?=some [.int .i64 y0]:=c9 (by rw[←List.head?_eq_getElem?];exact hy)
 refine bF Tryz.func193 rfl (by kernel_rfl) rfl rfl ?_
 refine a9 (j7 @aB @aA @a1 @c2' @aS @aV @aZ) ?_
 apply WP.loop' (I:=fun D s=>∃ j:Nat,j+D=l.length∧(l.take j).all (fun d=> !iK 4 y0 d)=true∧SE [(1,dL (bX l)),(6,dI 4),(23,dL (bX l)),(24,dI l.length),(25,dI j)] [] 0 s) (d:=l.length)
 ·exact ⟨0,by simp,by simp,SE.mk (by simp[dI,dL]) rfl⟩
 rintro D _ ⟨j,hj,cD,cc,rfl⟩
 refine wk (j3 @aB @aA @aZ) ?_
 show WP _ _ _ _ _ _
 refine WP.cond _ rfl (fun hb=>?_) (fun hb=>?_)
 ·simp at hb
  have bR:j<l.length:=by omega
  obtain ⟨d,hd,d9,bS⟩:=bL bR
  have cF:=c9 hd
  have hw:=bG bR (by omega)
  have hs:=bZ (p:=fun d=> !iK 4 y0 d) hd
  by_cases hq:d=2
  ·have oE:iK 4 y0 d=false:=by subst hq;simp[iK]
   refine a9 (j7 @aB @aA @aZ @bS @cF @aV @hq) ?_
   refine aY (by simp[hw];exact Is.rfl) ?_
   exact ⟨D - 1,by omega,j+1,by omega,by rw[hs,cD,oE];rfl,SE.mk (by simp[dI,dL,hw]) rfl⟩
  ·have gQ:=eq_false hq
   have oE:iK 4 y0 d=true:=by simp[iK,hq]
   have ha:l.any (iK 4 y0)=true:=List.any_eq_true.2 ⟨d,d9,oE⟩
   rw[ha]
   refine a9 (j7 @aB @aA @aZ @bS @cF @aV @gQ) ?_
   exact ⟨.inr rfl,_,_,rfl,rfl⟩
 ·simp at hb
  have eM:j=l.length:=by omega
  rw[eM,List.take_length] at cD
  have ha:l.any (iK 4 y0)=false:=by
   rw[List.any_eq_false];intro t ht;simpa using List.all_eq_true.1 cD t ht
  rw[ha]
  refine a9 (jn @aB @aA) ?_
  exact ⟨.inr rfl,_,_,rfl,rfl⟩
set_option maxHeartbeats 1000000 in
theorem aPM (o:Int) (l:List Int):d7 Tryz.prog Ob.cfg 193 [dI o,dL (bX l)]=some (.tuple [dI (jC o l).1,dI (jC o l).2]):=by
 by_cases c1:eN o=0
 ·have a1:=jM o
  rw[c1,show fL o=0 by unfold fL;rw[if_pos c1]] at a1
  simp only[dI] at a1
  rw[show jC o l=(0,2) by unfold jC;rw[if_pos c1]]
  refine bF Tryz.func193 rfl (by kernel_rfl) rfl rfl ?_
  refine a9 (j3 @aB @aA @a1) ?_
  exact ⟨.inr rfl,_,_,rfl,rfl⟩
 have hg:∃ K,fL o=K∧(K=1∨K=2∨K=3∨K=4):=by
  refine ⟨_,rfl,?_⟩
  unfold fL;rw[if_neg c1];split
  ·exact .inl rfl
  ·split
   ·exact .inr (.inl rfl)
   ·split
    ·exact .inr (.inr (.inl rfl))
    ·exact .inr (.inr (.inr rfl))
 obtain ⟨K,hK,hKc⟩:=hg
 by_cases c2:(l.length:Int)=eN o
 ·have hy:∃ y0,l.head?=some y0:=by
   cases l with
   | nil=>simp at c2;omega
   | cons a r=>exact ⟨a,rfl⟩
  obtain ⟨y0,hy⟩:=hy
  rcases hKc with rfl|rfl|rfl|rfl
  ·exact aSs o l y0 hy c1 c2 hK
  ·exact aSm o l y0 hy c1 c2 hK
  ·exact aVd o l y0 hy c1 c2 hK
  ·exact aSl o l y0 hy c1 c2 hK
 ·have a1:=jM o
  rw[hK] at a1
  simp only[dI] at a1
  rw[show jC o l=(0,9) by unfold jC;rw[if_neg c1,if_pos c2]]
  have c2':=eq_false c2
  have k0:(K=0)=False:=eq_false (by omega)
  refine bF Tryz.func193 rfl (by kernel_rfl) rfl rfl ?_
  refine a9 (j8 @aB @aA @a1 @c2' @k0 @aS @aV @aZ) ?_
  exact ⟨.inr rfl,_,_,rfl,rfl⟩
end Go.Ac
end
section
set_option maxRecDepth 4000
namespace Go.Ac
open Go.Proofs
def wr (n:Int):Int:=(n+32768) % 65536 - 32768
theorem aQy (n:Int):IntKind.i16.wrap n=wr n:=by simp only[IntKind.wrap,IntKind.bits,IntKind.signed,wr];simp;omega
theorem pH (n:Int): -32768≤wr n∧wr n≤32767:=by unfold wr;omega
theorem aQx (n:Int):IntKind.i64.wrap (wr n)=wr n:=by have:=pH n;rw[uM] <;> omega
def aIO (a b:Int):Int:=if wr b=0 then 0 else wr ((wr a).tdiv (wr b))
def aHK (a b:Int):Int:=if wr b=0 then wr a else (wr a).tmod (wr b)
def tL (o a b:Int):Int:=if o=2 then wr (-wr a) else if o=6 then wr (wr a+wr b) else if o=7 then wr (wr a - wr b) else if o=8 then wr (wr a*wr b) else if o=9 then aIO a b else aHK a b
def rS (o a b:Int):Bool:=if o=1 then decide (a=0) else if o=3 then decide (a=1)&&decide (b=1) else if o=4 then decide (a=1)||decide (b=1) else if o=11 then decide (a=b) else if o=5∨o=12 then !decide (a=b) else if o=13 then decide (a<b) else if o=14 then decide (a≤b) else if o=15 then decide (b<a) else decide (b≤a)
def oC (K v:Int):Bool:=if K=1 then !decide (v=0)&& !decide (v=1) else if K=3 then false else !inW v
def trE (b:Bool):Int:=if b then 1 else 0
def kP (o:Int) (l:List Int):Int×Int:=
 if fL o=0 then (0,2) else if (l.length:Int)≠eN o then (0,9) else if l.any (oC (fL o)) then (0,14)
 else if fL o=2 then (tL o (l.getD 0 0) (l.getD (l.length - 1) 0),0) else (trE (rS o (l.getD 0 0) (l.getD (l.length - 1) 0)),0)
theorem aRK (r:Nat):Ob.keep 194 r=Ob.k194 r:=by kernel_rfl
theorem aUp (r:Nat):Ob.keep 177 r=Ob.k177 r:=by kernel_rfl
theorem aUQ (r:Nat):Ob.keep 178 r=Ob.k178 r:=by kernel_rfl
theorem aUf (r:Nat):Ob.keep 179 r=Ob.k179 r:=by kernel_rfl
theorem aUq (r:Nat):Ob.keep 180 r=Ob.k180 r:=by kernel_rfl
theorem aTL (r:Nat):Ob.keep 181 r=Ob.k181 r:=by kernel_rfl
theorem aUm (r:Nat):Ob.keep 182 r=Ob.k182 r:=by kernel_rfl
theorem aTV (r:Nat):Ob.keep 163 r=Ob.k163 r:=by kernel_rfl
theorem aUb (r:Nat):Ob.keep 164 r=Ob.k164 r:=by kernel_rfl
theorem aSO (r:Nat):Ob.keep 165 r=Ob.k165 r:=by kernel_rfl
theorem aTU (r:Nat):Ob.keep 148 r=Ob.k148 r:=by kernel_rfl
attribute [local simp] aRK Ob.k194 aUp Ob.k177 aUQ Ob.k178 aUf Ob.k179 aUq Ob.k180 aTL Ob.k181 aUm Ob.k182 aTV Ob.k163 aUb Ob.k164 aSO Ob.k165 aTU Ob.k148
theorem xB (n:Int):d7 Tryz.prog Ob.cfg 194 [dI n]=some (dI (wr n)):=by
 refine bF Tryz.func194 rfl (by kernel_rfl) rfl rfl ?_
 refine a9 (j3 @aB @aQy @aQx) ?_
 show a7 _ _ _ _ _
 exact ⟨.inr rfl,_,_,rfl,rfl⟩
theorem aQT (a:Int):d7 Tryz.prog Ob.cfg 177 [dI a]=some (dI (wr (-wr a))):=by
 have h1:=xB
 have h2:=pH a
 have h3:IntKind.i64.wrap (-wr a)= -wr a:=by rw[uM] <;> omega
 simp only[dI] at h1
 refine bF Tryz.func177 rfl (by kernel_rfl) rfl rfl ?_
 refine a9 (j3 @aB @h1 @h3) ?_
 show a7 _ _ _ _ _
 exact ⟨.inr rfl,_,_,rfl,rfl⟩
theorem aPE (a b:Int):d7 Tryz.prog Ob.cfg 178 [dI a,dI b]=some (dI (wr (wr a+wr b))):=by
 have h1:=xB
 have h2:=pH a
 have h4:=pH b
 have h3:IntKind.i64.wrap (wr a+wr b)=wr a+wr b:=by rw[uM] <;> omega
 simp only[dI] at h1
 refine bF Tryz.func178 rfl (by kernel_rfl) rfl rfl ?_
 refine a9 (j3 @aB @h1 @h3) ?_
 show a7 _ _ _ _ _
 exact ⟨.inr rfl,_,_,rfl,rfl⟩
theorem aPj (a b:Int):d7 Tryz.prog Ob.cfg 179 [dI a,dI b]=some (dI (wr (wr a - wr b))):=by
 have h1:=xB
 have h2:=pH a
 have h4:=pH b
 have h3:IntKind.i64.wrap (wr a - wr b)=wr a - wr b:=by rw[uM] <;> omega
 simp only[dI] at h1
 refine bF Tryz.func179 rfl (by kernel_rfl) rfl rfl ?_
 refine a9 (j3 @aB @h1 @h3) ?_
 show a7 _ _ _ _ _
 exact ⟨.inr rfl,_,_,rfl,rfl⟩
theorem aMx (a b:Int): -1073741824≤wr a*wr b∧wr a*wr b≤1073741824:=by
 have h2:=pH a
 have h4:=pH b
 generalize wr a=x at*
 generalize wr b=y at*
 have h5:x.natAbs*y.natAbs≤32768*32768:=Nat.mul_le_mul (by omega) (by omega)
 rw[←Int.natAbs_mul] at h5
 generalize x*y=z at*
 omega
theorem aPm (a b:Int):d7 Tryz.prog Ob.cfg 180 [dI a,dI b]=some (dI (wr (wr a*wr b))):=by
 have h1:=xB
 have h2:=aMx a b
 have h3:IntKind.i64.wrap (wr a*wr b)=wr a*wr b:=by rw[uM] <;> omega
 simp only[dI] at h1
 refine bF Tryz.func180 rfl (by kernel_rfl) rfl rfl ?_
 refine a9 (j3 @aB @h1 @h3) ?_
 show a7 _ _ _ _ _
 exact ⟨.inr rfl,_,_,rfl,rfl⟩
theorem aJI (a b:Int): -32768≤(wr a).tdiv (wr b)∧(wr a).tdiv (wr b)≤32768:=by
 have h2:=pH a
 have:=Int.natAbs_tdiv (wr a) (wr b)
 have h3:(wr a).natAbs / (wr b).natAbs≤(wr a).natAbs:=Nat.div_le_self ..
 replace h3:((wr a).tdiv (wr b)).natAbs≤(wr a).natAbs:=by rw[this];exact h3
 clear this
 generalize (wr a).tdiv (wr b)=z at*
 omega
theorem aEW (a b:Int): -32768≤(wr a).tmod (wr b)∧(wr a).tmod (wr b)≤32767:=by
 have h2:=pH a
 have h3:((wr a).tmod (wr b)).natAbs≤(wr a).natAbs:=by rw[Int.natAbs_tmod];exact Nat.mod_le ..
 by_cases h:0≤wr a
 ·have h4:=Int.tmod_nonneg (wr b) h
  have e1:=Int.natAbs_of_nonneg h4
  have e2:=Int.natAbs_of_nonneg h
  omega
 ·have h4:0≤(-wr a).tmod (wr b):=Int.tmod_nonneg (wr b) (by omega)
  rw[Int.neg_tmod] at h4
  have e1:=Int.ofNat_natAbs_of_nonpos (a:=(wr a).tmod (wr b)) (by omega)
  have e2:=Int.ofNat_natAbs_of_nonpos (a:=wr a) (by omega)
  omega
theorem aPg (a b:Int):d7 Tryz.prog Ob.cfg 181 [dI a,dI b]=some (dI (aIO a b)):=by
 have h1:=xB
 have h2:=aJI a b
 have h3:IntKind.i64.wrap ((wr a).tdiv (wr b))=(wr a).tdiv (wr b):=by rw[uM] <;> omega
 simp only[dI] at h1
 refine bF Tryz.func181 rfl (by kernel_rfl) rfl rfl ?_
 unfold aIO
 by_cases q:wr b=0
 ·rw[if_pos q]
  refine a9 (j4 @aB @h1 @aS @q) ?_
  show a7 _ _ _ _ _
  exact ⟨.inr rfl,_,_,rfl,rfl⟩
 ·rw[if_neg q]
  have q':=eq_false q
  refine a9 (j5 @aB @h1 @aS @q' @h3) ?_
  show a7 _ _ _ _ _
  exact ⟨.inr rfl,_,_,rfl,rfl⟩
theorem aQl (a b:Int):d7 Tryz.prog Ob.cfg 182 [dI a,dI b]=some (dI (aHK a b)):=by
 have h1:=xB
 have h2:=aEW a b
 have h3:IntKind.i64.wrap ((wr a).tmod (wr b))=(wr a).tmod (wr b):=by rw[uM] <;> omega
 simp only[dI] at h1
 refine bF Tryz.func182 rfl (by kernel_rfl) rfl rfl ?_
 unfold aHK
 by_cases q:wr b=0
 ·rw[if_pos q]
  refine a9 (j4 @aB @h1 @aS @q) ?_
  show a7 _ _ _ _ _
  exact ⟨.inr rfl,_,_,rfl,rfl⟩
 ·rw[if_neg q]
  have q':=eq_false q
  refine a9 (j5 @aB @h1 @aS @q' @h3) ?_
  show a7 _ _ _ _ _
  exact ⟨.inr rfl,_,_,rfl,rfl⟩
theorem z6 (b:Bool):d7 Tryz.prog Ob.cfg 164 [dB b]=some (dI (trE b)):=by
 refine bF Tryz.func164 rfl (by kernel_rfl) rfl rfl ?_
 cases b
 ·rw[show trE false=0 from rfl]
  refine a9 (jn @aB @aF) ?_
  show a7 _ _ _ _ _
  exact ⟨.inr rfl,_,_,rfl,rfl⟩
 ·rw[show trE true=1 from rfl]
  refine a9 (jn @aB @aF) ?_
  show a7 _ _ _ _ _
  exact ⟨.inr rfl,_,_,rfl,rfl⟩
theorem uC (o a b:Int):d7 Tryz.prog Ob.cfg 163 [dI o,dI a,dI b]=some (dI (tL o a b)):=by
 have a1:=aQT
 have a2:=aPE
 have a3:=aPj
 have a4:=aPm
 have a5:=aPg
 have a6:=aQl
 simp only[dI] at a1 a2 a3 a4 a5 a6
 refine bF Tryz.func163 rfl (by kernel_rfl) rfl rfl ?_
 by_cases q2:o=2
 ·subst q2;rw[show tL 2 a b=wr (-wr a) from rfl]
  refine a9 (j3 @aB @aS @a1) ?_
  show a7 _ _ _ _ _
  exact ⟨.inr rfl,_,_,rfl,rfl⟩
 have r2:=eq_false q2
 by_cases q6:o=6
 ·subst q6;rw[show tL 6 a b=wr (wr a+wr b) from rfl]
  refine a9 (j3 @aB @aS @a2) ?_
  show a7 _ _ _ _ _
  exact ⟨.inr rfl,_,_,rfl,rfl⟩
 have r6:=eq_false q6
 by_cases q7:o=7
 ·subst q7;rw[show tL 7 a b=wr (wr a - wr b) from rfl]
  refine a9 (j3 @aB @aS @a3) ?_
  show a7 _ _ _ _ _
  exact ⟨.inr rfl,_,_,rfl,rfl⟩
 have r7:=eq_false q7
 by_cases q8:o=8
 ·subst q8;rw[show tL 8 a b=wr (wr a*wr b) from rfl]
  refine a9 (j3 @aB @aS @a4) ?_
  show a7 _ _ _ _ _
  exact ⟨.inr rfl,_,_,rfl,rfl⟩
 have r8:=eq_false q8
 by_cases q9:o=9
 ·subst q9;rw[show tL 9 a b=aIO a b from rfl]
  refine a9 (j3 @aB @aS @a5) ?_
  show a7 _ _ _ _ _
  exact ⟨.inr rfl,_,_,rfl,rfl⟩
 have r9:=eq_false q9
 rw[show tL o a b=aHK a b by unfold tL;rw[if_neg q2,if_neg q6,if_neg q7,if_neg q8,if_neg q9]]
 refine a9 (j8 @aB @aS @r2 @r6 @r7 @r8 @r9 @a6) ?_
 show a7 _ _ _ _ _
 exact ⟨.inr rfl,_,_,rfl,rfl⟩
theorem zA (o a b:Int):d7 Tryz.prog Ob.cfg 165 [dI o,dI a,dI b]=some (dB (rS o a b)):=by
 refine bF Tryz.func165 rfl (by kernel_rfl) rfl rfl ?_
 by_cases q1:o=1
 ·subst q1;rw[show rS 1 a b=(decide (a=0)) from rfl]
  refine a9 (j4 @aB @aF @aS @aV) ?_
  exact ⟨.inr rfl,_,_,rfl,by rfl⟩
 have r1:=eq_false q1
 by_cases q3:o=3
 ·subst q3;rw[show rS 3 a b=((decide (a=1)&&decide (b=1))) from rfl]
  by_cases u:a=1
  ·subst u
   refine a9 (j4 @aB @aF @aS @aV) ?_
   show a7 _ _ _ _ _
   exact ⟨.inr rfl,_,_,rfl,rfl⟩
  ·have u':=eq_false u
   rw[show (decide (a=1)&&decide (b=1))=false by simp[u]]
   refine a9 (j5 @aB @aF @aS @aV @u') ?_
   exact ⟨.inr rfl,_,_,rfl,by rfl⟩
 have r3:=eq_false q3
 by_cases q4:o=4
 ·subst q4;rw[show rS 4 a b=((decide (a=1)||decide (b=1))) from rfl]
  by_cases u:a=1
  ·subst u
   refine a9 (j4 @aB @aF @aS @aV) ?_
   show a7 _ _ _ _ _
   exact ⟨.inr rfl,_,_,rfl,rfl⟩
  ·have u':=eq_false u
   rw[show (decide (a=1)||decide (b=1))=decide (b=1) by simp[u]]
   refine a9 (j5 @aB @aF @aS @aV @u') ?_
   exact ⟨.inr rfl,_,_,rfl,by rfl⟩
 have r4:=eq_false q4
 by_cases q11:o=11
 ·subst q11;rw[show rS 11 a b=(decide (a=b)) from rfl]
  refine a9 (j4 @aB @aF @aS @aV) ?_
  exact ⟨.inr rfl,_,_,rfl,by rfl⟩
 have r11:=eq_false q11
 by_cases q5:o=5
 ·subst q5;rw[show rS 5 a b=(!decide (a=b)) from rfl]
  refine a9 (j4 @aB @aF @aS @aV) ?_
  exact ⟨.inr rfl,_,_,rfl,by rfl⟩
 have r5:=eq_false q5
 by_cases q12:o=12
 ·subst q12;rw[show rS 12 a b=(!decide (a=b)) from rfl]
  refine a9 (j4 @aB @aF @aS @aV) ?_
  exact ⟨.inr rfl,_,_,rfl,by rfl⟩
 have r12:=eq_false q12
 by_cases q13:o=13
 ·subst q13;rw[show rS 13 a b=(decide (a<b)) from rfl]
  refine a9 (j4 @aB @aF @aS @aV) ?_
  exact ⟨.inr rfl,_,_,rfl,by rfl⟩
 have r13:=eq_false q13
 by_cases q14:o=14
 ·subst q14;rw[show rS 14 a b=(decide (a≤b)) from rfl]
  refine a9 (j4 @aB @aF @aS @aV) ?_
  exact ⟨.inr rfl,_,_,rfl,by rfl⟩
 have r14:=eq_false q14
 by_cases q15:o=15
 ·subst q15;rw[show rS 15 a b=(decide (b<a)) from rfl]
  refine a9 (j4 @aB @aF @aS @aV) ?_
  exact ⟨.inr rfl,_,_,rfl,by rfl⟩
 have r15:=eq_false q15
 rw[show rS o a b=decide (b≤a) by unfold rS;rw[if_neg q1,if_neg q3,if_neg q4,if_neg q11,if_neg (by omega),if_neg q13,if_neg q14,if_neg q15]]
 refine a9 (oY @aB @aF @aS @aV @r1 @r3 @r4 @r11 @r5 @r12 @r13 @r14 @r15) ?_
 exact ⟨.inr rfl,_,_,rfl,by rfl⟩
set_option maxHeartbeats 2000000 in
theorem aUB (o:Int) (l:List Int) (hl:(l.length:Int)=eN o) (hK:fL o=1):d7 Tryz.prog Ob.cfg 148 [dI o,dL (bX l)]=some (.tuple [dI (kP o l).1,dI (kP o l).2]):=by
 have a1:=jM o
 have a2:=aMN
 have a3:=uC
 have a4:=zA
 have a5:=z6
 have har:=nQ o
 have c0:eN o≠0:=by intro h;simp[fL,h] at hK
 have hp:0<l.length:=by have:=uH o;omega
 rw[hK] at a1
 have xP:kP o l=if l.any (oC 1) then (0,14) else if (1:Int)=2 then (tL o (l.getD 0 0) (l.getD (l.length - 1) 0),0) else (trE (rS o (l.getD 0 0) (l.getD (l.length - 1) 0)),0):=by
  unfold kP;rw[hK,if_neg (by omega),if_neg (by omega)]
 rw[xP]
 simp only[dI,dB] at a1 a2 a3 a4 a5
 have c2':=eq_true hl
 have yT:jQ 0 l.length=some 0:=by unfold jQ;rw[if_pos ⟨by omega,by omega⟩];rfl
 have e0:(bX l)[0]?=some [.int .i64 (l.getD 0 0)]:=c9 (by rw[List.getD_eq_getElem?_getD,List.getElem?_eq_getElem hp];rfl)
 have hw1:IntKind.i64.wrap (eN o - 1)=eN o - 1:=by have:=uH o;rw[uM] <;> omega
 have hl2:jQ (eN o - 1) l.length=some (l.length - 1):=by
  unfold jQ
  rw[if_pos ⟨by omega,by omega⟩]
  congr 1;omega
 have e1:(bX l)[l.length - 1]?=some [.int .i64 (l.getD (l.length - 1) 0)]:=c9 (by rw[List.getD_eq_getElem?_getD,List.getElem?_eq_getElem (by omega)];rfl)
 refine bF Tryz.func148 rfl (by kernel_rfl) rfl rfl ?_
 refine a9 (j7 @aB @aA @a1 @c2' @aS @aV @aZ) ?_
 apply WP.loop' (I:=fun D s=>∃ j:Nat,j+D=l.length∧(l.take j).all (fun d=> !oC 1 d)=true∧SE [(0,dI o),(1,dL (bX l)),(6,dI 1),(7,dI (eN o)),(25,dL (bX l)),(26,dI l.length),(27,dI j)] [] 0 s) (d:=l.length)
 ·exact ⟨0,by simp,by simp,SE.mk (by simp[dI,dL]) rfl⟩
 rintro D _ ⟨j,hj,cD,cc,rfl⟩
 refine wk (j3 @aB @aA @aZ) ?_
 show WP _ _ _ _ _ _
 refine WP.cond _ rfl (fun hb=>?_) (fun hb=>?_)
 ·simp at hb
  have bR:j<l.length:=by omega
  obtain ⟨d,hd,d9,bS⟩:=bL bR
  have cF:=c9 hd
  have hw:=bG bR (by omega)
  have hs:=bZ (p:=fun d=> !oC 1 d) hd
  by_cases u0:d=0
  ·have oE:oC 1 d=false:=by simp[oC,u0]
   refine a9 (j9 @aB @aA @aZ @bS @cF @aS @aV @a2 @u0) ?_
   refine aY (by simp[hw];exact Is.rfl) ?_
   exact ⟨D - 1,by omega,j+1,by omega,by rw[hs,cD,oE];rfl,SE.mk (by simp[dI,dL,hw]) rfl⟩
  have u0':=eq_false u0
  by_cases u1:d=1
  ·have oE:oC 1 d=false:=by simp[oC,u1]
   refine a9 (j9 @aB @aA @aZ @bS @cF @aS @aV @a2 @u1) ?_
   refine aY (by simp[hw];exact Is.rfl) ?_
   exact ⟨D - 1,by omega,j+1,by omega,by rw[hs,cD,oE];rfl,SE.mk (by simp[dI,dL,hw]) rfl⟩
  have u1':=eq_false u1
  have oE:oC 1 d=true:=by simp[oC,u0,u1]
  have ha:l.any (oC 1)=true:=List.any_eq_true.2 ⟨d,d9,oE⟩
  rw[ha]
  refine a9 (nW @aB @aA @aZ @bS @cF @aS @aV @a2 @u0' @u1') ?_
  show a7 _ _ _ _ _
  exact ⟨.inr rfl,_,_,rfl,rfl⟩
 ·simp at hb
  have eM:j=l.length:=by omega
  rw[eM,List.take_length] at cD
  have ha:l.any (oC 1)=false:=by
   rw[List.any_eq_false];intro t ht;simpa using List.all_eq_true.1 cD t ht
  rw[ha]
  refine a9 (oY @aB @aA @aZ @yT @e0 @hw1 @hl2 @e1 @aS @aV @a3 @a4 @a5) ?_
  show a7 _ _ _ _ _
  exact ⟨.inr rfl,_,_,rfl,rfl⟩
set_option maxHeartbeats 2000000 in
theorem aTv (o:Int) (l:List Int) (hl:(l.length:Int)=eN o) (hK:fL o=2):d7 Tryz.prog Ob.cfg 148 [dI o,dL (bX l)]=some (.tuple [dI (kP o l).1,dI (kP o l).2]):=by
 have a1:=jM o
 have a2:=aMN
 have a3:=uC
 have a4:=zA
 have a5:=z6
 have har:=nQ o
 have c0:eN o≠0:=by intro h;simp[fL,h] at hK
 have hp:0<l.length:=by have:=uH o;omega
 rw[hK] at a1
 have xP:kP o l=if l.any (oC 2) then (0,14) else if (2:Int)=2 then (tL o (l.getD 0 0) (l.getD (l.length - 1) 0),0) else (trE (rS o (l.getD 0 0) (l.getD (l.length - 1) 0)),0):=by
  unfold kP;rw[hK,if_neg (by omega),if_neg (by omega)]
 rw[xP]
 simp only[dI,dB] at a1 a2 a3 a4 a5
 have c2':=eq_true hl
 have yT:jQ 0 l.length=some 0:=by unfold jQ;rw[if_pos ⟨by omega,by omega⟩];rfl
 have e0:(bX l)[0]?=some [.int .i64 (l.getD 0 0)]:=c9 (by rw[List.getD_eq_getElem?_getD,List.getElem?_eq_getElem hp];rfl)
 have hw1:IntKind.i64.wrap (eN o - 1)=eN o - 1:=by have:=uH o;rw[uM] <;> omega
 have hl2:jQ (eN o - 1) l.length=some (l.length - 1):=by
  unfold jQ
  rw[if_pos ⟨by omega,by omega⟩]
  congr 1;omega
 have e1:(bX l)[l.length - 1]?=some [.int .i64 (l.getD (l.length - 1) 0)]:=c9 (by rw[List.getD_eq_getElem?_getD,List.getElem?_eq_getElem (by omega)];rfl)
 refine bF Tryz.func148 rfl (by kernel_rfl) rfl rfl ?_
 refine a9 (j7 @aB @aA @a1 @c2' @aS @aV @aZ) ?_
 apply WP.loop' (I:=fun D s=>∃ j:Nat,j+D=l.length∧(l.take j).all (fun d=> !oC 2 d)=true∧SE [(0,dI o),(1,dL (bX l)),(6,dI 2),(7,dI (eN o)),(25,dL (bX l)),(26,dI l.length),(27,dI j)] [] 0 s) (d:=l.length)
 ·exact ⟨0,by simp,by simp,SE.mk (by simp[dI,dL]) rfl⟩
 rintro D _ ⟨j,hj,cD,cc,rfl⟩
 refine wk (j3 @aB @aA @aZ) ?_
 show WP _ _ _ _ _ _
 refine WP.cond _ rfl (fun hb=>?_) (fun hb=>?_)
 ·simp at hb
  have bR:j<l.length:=by omega
  obtain ⟨d,hd,d9,bS⟩:=bL bR
  have cF:=c9 hd
  have hw:=bG bR (by omega)
  have hs:=bZ (p:=fun d=> !oC 2 d) hd
  cases u:inW d
  ·have oE:oC 2 d=true:=by simp[oC,u]
   have ha:l.any (oC 2)=true:=List.any_eq_true.2 ⟨d,d9,oE⟩
   rw[ha]
   refine a9 (j9 @aB @aA @aZ @bS @cF @aS @aV @a2 @u) ?_
   show a7 _ _ _ _ _
   exact ⟨.inr rfl,_,_,rfl,rfl⟩
  ·have oE:oC 2 d=false:=by simp[oC,u]
   refine a9 (j9 @aB @aA @aZ @bS @cF @aS @aV @a2 @u) ?_
   refine aY (by simp[hw];exact Is.rfl) ?_
   exact ⟨D - 1,by omega,j+1,by omega,by rw[hs,cD,oE];rfl,SE.mk (by simp[dI,dL,hw]) rfl⟩
 ·simp at hb
  have eM:j=l.length:=by omega
  rw[eM,List.take_length] at cD
  have ha:l.any (oC 2)=false:=by
   rw[List.any_eq_false];intro t ht;simpa using List.all_eq_true.1 cD t ht
  rw[ha]
  refine a9 (oY @aB @aA @aZ @yT @e0 @hw1 @hl2 @e1 @aS @aV @a3 @a4 @a5) ?_
  show a7 _ _ _ _ _
  exact ⟨.inr rfl,_,_,rfl,rfl⟩
set_option maxHeartbeats 2000000 in
theorem aUM (o:Int) (l:List Int) (hl:(l.length:Int)=eN o) (hK:fL o=3):d7 Tryz.prog Ob.cfg 148 [dI o,dL (bX l)]=some (.tuple [dI (kP o l).1,dI (kP o l).2]):=by
 have a1:=jM o
 have a2:=aMN
 have a3:=uC
 have a4:=zA
 have a5:=z6
 have har:=nQ o
 have c0:eN o≠0:=by intro h;simp[fL,h] at hK
 have hp:0<l.length:=by have:=uH o;omega
 rw[hK] at a1
 have xP:kP o l=if l.any (oC 3) then (0,14) else if (3:Int)=2 then (tL o (l.getD 0 0) (l.getD (l.length - 1) 0),0) else (trE (rS o (l.getD 0 0) (l.getD (l.length - 1) 0)),0):=by
  unfold kP;rw[hK,if_neg (by omega),if_neg (by omega)]
 rw[xP]
 simp only[dI,dB] at a1 a2 a3 a4 a5
 have c2':=eq_true hl
 have yT:jQ 0 l.length=some 0:=by unfold jQ;rw[if_pos ⟨by omega,by omega⟩];rfl
 have e0:(bX l)[0]?=some [.int .i64 (l.getD 0 0)]:=c9 (by rw[List.getD_eq_getElem?_getD,List.getElem?_eq_getElem hp];rfl)
 have hw1:IntKind.i64.wrap (eN o - 1)=eN o - 1:=by have:=uH o;rw[uM] <;> omega
 have hl2:jQ (eN o - 1) l.length=some (l.length - 1):=by
  unfold jQ
  rw[if_pos ⟨by omega,by omega⟩]
  congr 1;omega
 have e1:(bX l)[l.length - 1]?=some [.int .i64 (l.getD (l.length - 1) 0)]:=c9 (by rw[List.getD_eq_getElem?_getD,List.getElem?_eq_getElem (by omega)];rfl)
 refine bF Tryz.func148 rfl (by kernel_rfl) rfl rfl ?_
 refine a9 (j7 @aB @aA @a1 @c2' @aS @aV @aZ) ?_
 apply WP.loop' (I:=fun D s=>∃ j:Nat,j+D=l.length∧(l.take j).all (fun d=> !oC 3 d)=true∧SE [(0,dI o),(1,dL (bX l)),(6,dI 3),(7,dI (eN o)),(25,dL (bX l)),(26,dI l.length),(27,dI j)] [] 0 s) (d:=l.length)
 ·exact ⟨0,by simp,by simp,SE.mk (by simp[dI,dL]) rfl⟩
 rintro D _ ⟨j,hj,cD,cc,rfl⟩
 refine wk (j3 @aB @aA @aZ) ?_
 show WP _ _ _ _ _ _
 refine WP.cond _ rfl (fun hb=>?_) (fun hb=>?_)
 ·simp at hb
  have bR:j<l.length:=by omega
  obtain ⟨d,hd,d9,bS⟩:=bL bR
  have cF:=c9 hd
  have hw:=bG bR (by omega)
  have hs:=bZ (p:=fun d=> !oC 3 d) hd
  have oE:oC 3 d=false:=rfl
  refine a9 (j8 @aB @aA @aZ @bS @cF @aS @aV @a2) ?_
  refine aY (by simp[hw];exact Is.rfl) ?_
  exact ⟨D - 1,by omega,j+1,by omega,by rw[hs,cD,oE];rfl,SE.mk (by simp[dI,dL,hw]) rfl⟩
 ·simp at hb
  have eM:j=l.length:=by omega
  rw[eM,List.take_length] at cD
  have ha:l.any (oC 3)=false:=by
   rw[List.any_eq_false];intro t ht;simpa using List.all_eq_true.1 cD t ht
  rw[ha]
  refine a9 (oY @aB @aA @aZ @yT @e0 @hw1 @hl2 @e1 @aS @aV @a3 @a4 @a5) ?_
  show a7 _ _ _ _ _
  exact ⟨.inr rfl,_,_,rfl,rfl⟩
set_option maxHeartbeats 2000000 in
theorem aRx (o:Int) (l:List Int) (hl:(l.length:Int)=eN o) (hK:fL o=4):d7 Tryz.prog Ob.cfg 148 [dI o,dL (bX l)]=some (.tuple [dI (kP o l).1,dI (kP o l).2]):=by
 have a1:=jM o
 have a2:=aMN
 have a3:=uC
 have a4:=zA
 have a5:=z6
 have har:=nQ o
 have c0:eN o≠0:=by intro h;simp[fL,h] at hK
 have hp:0<l.length:=by have:=uH o;omega
 rw[hK] at a1
 have xP:kP o l=if l.any (oC 4) then (0,14) else if (4:Int)=2 then (tL o (l.getD 0 0) (l.getD (l.length - 1) 0),0) else (trE (rS o (l.getD 0 0) (l.getD (l.length - 1) 0)),0):=by
  unfold kP;rw[hK,if_neg (by omega),if_neg (by omega)]
 rw[xP]
 simp only[dI,dB] at a1 a2 a3 a4 a5
 have c2':=eq_true hl
 have yT:jQ 0 l.length=some 0:=by unfold jQ;rw[if_pos ⟨by omega,by omega⟩];rfl
 have e0:(bX l)[0]?=some [.int .i64 (l.getD 0 0)]:=c9 (by rw[List.getD_eq_getElem?_getD,List.getElem?_eq_getElem hp];rfl)
 have hw1:IntKind.i64.wrap (eN o - 1)=eN o - 1:=by have:=uH o;rw[uM] <;> omega
 have hl2:jQ (eN o - 1) l.length=some (l.length - 1):=by
  unfold jQ
  rw[if_pos ⟨by omega,by omega⟩]
  congr 1;omega
 have e1:(bX l)[l.length - 1]?=some [.int .i64 (l.getD (l.length - 1) 0)]:=c9 (by rw[List.getD_eq_getElem?_getD,List.getElem?_eq_getElem (by omega)];rfl)
 refine bF Tryz.func148 rfl (by kernel_rfl) rfl rfl ?_
 refine a9 (j7 @aB @aA @a1 @c2' @aS @aV @aZ) ?_
 apply WP.loop' (I:=fun D s=>∃ j:Nat,j+D=l.length∧(l.take j).all (fun d=> !oC 4 d)=true∧SE [(0,dI o),(1,dL (bX l)),(6,dI 4),(7,dI (eN o)),(25,dL (bX l)),(26,dI l.length),(27,dI j)] [] 0 s) (d:=l.length)
 ·exact ⟨0,by simp,by simp,SE.mk (by simp[dI,dL]) rfl⟩
 rintro D _ ⟨j,hj,cD,cc,rfl⟩
 refine wk (j3 @aB @aA @aZ) ?_
 show WP _ _ _ _ _ _
 refine WP.cond _ rfl (fun hb=>?_) (fun hb=>?_)
 ·simp at hb
  have bR:j<l.length:=by omega
  obtain ⟨d,hd,d9,bS⟩:=bL bR
  have cF:=c9 hd
  have hw:=bG bR (by omega)
  have hs:=bZ (p:=fun d=> !oC 4 d) hd
  cases u:inW d
  ·have oE:oC 4 d=true:=by simp[oC,u]
   have ha:l.any (oC 4)=true:=List.any_eq_true.2 ⟨d,d9,oE⟩
   rw[ha]
   refine a9 (j9 @aB @aA @aZ @bS @cF @aS @aV @a2 @u) ?_
   show a7 _ _ _ _ _
   exact ⟨.inr rfl,_,_,rfl,rfl⟩
  ·have oE:oC 4 d=false:=by simp[oC,u]
   refine a9 (j9 @aB @aA @aZ @bS @cF @aS @aV @a2 @u) ?_
   refine aY (by simp[hw];exact Is.rfl) ?_
   exact ⟨D - 1,by omega,j+1,by omega,by rw[hs,cD,oE];rfl,SE.mk (by simp[dI,dL,hw]) rfl⟩
 ·simp at hb
  have eM:j=l.length:=by omega
  rw[eM,List.take_length] at cD
  have ha:l.any (oC 4)=false:=by
   rw[List.any_eq_false];intro t ht;simpa using List.all_eq_true.1 cD t ht
  rw[ha]
  refine a9 (oY @aB @aA @aZ @yT @e0 @hw1 @hl2 @e1 @aS @aV @a3 @a4 @a5) ?_
  show a7 _ _ _ _ _
  exact ⟨.inr rfl,_,_,rfl,rfl⟩
theorem aLD (o:Int) (l:List Int) (hM:l.length≤MX):d7 Tryz.prog Ob.cfg 148 [dI o,dL (bX l)]=some (.tuple [dI (kP o l).1,dI (kP o l).2]):=by
 by_cases hg:eN o=0
 ·have a1:=jM o
  have hK:fL o=0:=by unfold fL;rw[if_pos hg]
  have xP:kP o l=(0,2):=by unfold kP;rw[hK,if_pos rfl]
  rw[hK] at a1
  rw[xP]
  simp only[dI] at a1
  refine bF Tryz.func148 rfl (by kernel_rfl) rfl rfl ?_
  refine a9 (j4 @aB @aA @a1 @aS) ?_
  show a7 _ _ _ _ _
  exact ⟨.inr rfl,_,_,rfl,rfl⟩
 have hK:fL o=1∨fL o=2∨fL o=3∨fL o=4:=by
  unfold fL;rw[if_neg hg]
  cases qQ o <;> cases qN o <;> cases tB o <;> simp
 by_cases hl:(l.length:Int)=eN o
 ·rcases hK with h|h|h|h
  ·exact aUB o l hl h
  ·exact aTv o l hl h
  ·exact aUM o l hl h
  ·exact aRx o l hl h
 have a1:=jM o
 have xP:kP o l=(0,9):=by unfold kP;rw[if_neg (by omega),if_pos hl]
 rw[xP]
 have hl':=eq_false hl
 have hk':=eq_false (show ¬ fL o=0 by omega)
 simp only[dI] at a1
 refine bF Tryz.func148 rfl (by kernel_rfl) rfl rfl ?_
 refine a9 (j8 @aB @aA @a1 @aS @aV @hk' @hl' @aZ) ?_
 show a7 _ _ _ _ _
 exact ⟨.inr rfl,_,_,rfl,rfl⟩
end Go.Ac
end
section
set_option maxRecDepth 4000
namespace Go.Ac
open Go.Proofs
theorem aOa (n:Int): -65536<n.tmod 65536∧n.tmod 65536<65536∧65536*(n.tdiv 65536)+n.tmod 65536=n:=by
 have h1:=Int.mul_tdiv_add_tmod n 65536
 have h2:(n.tmod 65536).natAbs=n.natAbs % 65536:=Int.natAbs_tmod n 65536
 have h3:n.natAbs % 65536<65536:=Nat.mod_lt _ (by omega)
 refine ⟨?_,?_,h1⟩ <;> omega
theorem aUT (r:Nat):Ob.keep 183 r=Ob.k183 r:=by kernel_rfl
theorem aUj (r:Nat):Ob.keep 169 r=Ob.k169 r:=by kernel_rfl
theorem aSw (r:Nat):Ob.keep 185 r=Ob.k185 r:=by kernel_rfl
theorem aTW (r:Nat):Ob.keep 186 r=Ob.k186 r:=by kernel_rfl
theorem aUs (r:Nat):Ob.keep 187 r=Ob.k187 r:=by kernel_rfl
theorem aRL (r:Nat):Ob.keep 188 r=Ob.k188 r:=by kernel_rfl
theorem aUS (r:Nat):Ob.keep 189 r=Ob.k189 r:=by kernel_rfl
theorem aRV (r:Nat):Ob.keep 184 r=Ob.k184 r:=by kernel_rfl
theorem aTY (r:Nat):Ob.keep 170 r=Ob.k170 r:=by kernel_rfl
attribute [local simp] aUT Ob.k183 aUj Ob.k169 aSw Ob.k185 aTW Ob.k186 aUs Ob.k187 aRL Ob.k188 aUS Ob.k189 aRV Ob.k184 aTY Ob.k170
theorem tD (n:Int):d7 Tryz.prog Ob.cfg 183 [dI n]=some (dI (wr n)):=by
 refine bF Tryz.func183 rfl (by kernel_rfl) rfl rfl ?_
 have hb0:=aOa n
 have h4:IntKind.i64.wrap (n.tmod 65536 - 65536)=n.tmod 65536 - 65536:=by rw[aEr] <;> omega
 have h5:IntKind.i64.wrap (n.tmod 65536+65536)=n.tmod 65536+65536:=by rw[aEr] <;> omega
 refine wk (@aB) ?_
 show WP _ _ _ _ _ _
 refine WP.cond _ rfl (fun hb=>?_) (fun hb=>?_)
 ·simp at hb
  refine wk (@h4) ?_
  have e:wr n=n.tmod 65536 - 65536:=by clear h4 h5;unfold wr;omega
  rw[e]
  exact ⟨.inr rfl,_,_,rfl,rfl⟩
 ·simp at hb
  refine wk True.intro ?_
  show WP _ _ _ _ _ _
  refine WP.cond _ rfl (fun hb=>?_) (fun hb=>?_)
  ·simp at hb
   refine wk (@h5) ?_
   have e:wr n=n.tmod 65536+65536:=by clear h4 h5;unfold wr;omega
   rw[e]
   exact ⟨.inr rfl,_,_,rfl,rfl⟩
  ·simp at hb
   refine wk True.intro ?_
   have e:wr n=n.tmod 65536:=by clear h4 h5;unfold wr;omega
   rw[e]
   exact ⟨.inr rfl,_,_,rfl,rfl⟩
theorem aNJ (a:Int):d7 Tryz.prog Ob.cfg 169 [dI a]=some (dI (wr (-wr a))):=by
 have h1:=tD
 have h2:=pH a
 have h3:IntKind.i64.wrap (-wr a)= -wr a:=by rw[uM] <;> omega
 simp only[dI] at h1
 refine bF Tryz.func169 rfl (by kernel_rfl) rfl rfl ?_
 refine a9 (j3 @aB @h1 @h3) ?_
 show a7 _ _ _ _ _
 exact ⟨.inr rfl,_,_,rfl,rfl⟩
theorem aNC (a b:Int):d7 Tryz.prog Ob.cfg 185 [dI a,dI b]=some (dI (wr (wr a+wr b))):=by
 have h1:=tD
 have h2:=pH a
 have h4:=pH b
 have h3:IntKind.i64.wrap (wr a+wr b)=wr a+wr b:=by rw[uM] <;> omega
 simp only[dI] at h1
 refine bF Tryz.func185 rfl (by kernel_rfl) rfl rfl ?_
 refine a9 (j3 @aB @h1 @h3) ?_
 show a7 _ _ _ _ _
 exact ⟨.inr rfl,_,_,rfl,rfl⟩
theorem aNP (a b:Int):d7 Tryz.prog Ob.cfg 186 [dI a,dI b]=some (dI (wr (wr a - wr b))):=by
 have h1:=tD
 have h2:=pH a
 have h4:=pH b
 have h3:IntKind.i64.wrap (wr a - wr b)=wr a - wr b:=by rw[uM] <;> omega
 simp only[dI] at h1
 refine bF Tryz.func186 rfl (by kernel_rfl) rfl rfl ?_
 refine a9 (j3 @aB @h1 @h3) ?_
 show a7 _ _ _ _ _
 exact ⟨.inr rfl,_,_,rfl,rfl⟩
theorem aOc (a b:Int):d7 Tryz.prog Ob.cfg 187 [dI a,dI b]=some (dI (wr (wr a*wr b))):=by
 have h1:=tD
 have h2:=aMx a b
 have h3:IntKind.i64.wrap (wr a*wr b)=wr a*wr b:=by rw[uM] <;> omega
 simp only[dI] at h1
 refine bF Tryz.func187 rfl (by kernel_rfl) rfl rfl ?_
 refine a9 (j3 @aB @h1 @h3) ?_
 show a7 _ _ _ _ _
 exact ⟨.inr rfl,_,_,rfl,rfl⟩
theorem aNu (a b:Int):d7 Tryz.prog Ob.cfg 188 [dI a,dI b]=some (dI (aIO a b)):=by
 have h1:=tD
 have h2:=aJI a b
 have h3:IntKind.i64.wrap ((wr a).tdiv (wr b))=(wr a).tdiv (wr b):=by rw[uM] <;> omega
 simp only[dI] at h1
 refine bF Tryz.func188 rfl (by kernel_rfl) rfl rfl ?_
 unfold aIO
 by_cases q:wr b=0
 ·rw[if_pos q]
  refine a9 (j4 @aB @h1 @aS @q) ?_
  show a7 _ _ _ _ _
  exact ⟨.inr rfl,_,_,rfl,rfl⟩
 ·rw[if_neg q]
  have q':=eq_false q
  refine a9 (j5 @aB @h1 @aS @q' @h3) ?_
  show a7 _ _ _ _ _
  exact ⟨.inr rfl,_,_,rfl,rfl⟩
theorem aNX (a b:Int):d7 Tryz.prog Ob.cfg 189 [dI a,dI b]=some (dI (aHK a b)):=by
 have h1:=tD
 have h2:=aEW a b
 have h3:IntKind.i64.wrap ((wr a).tmod (wr b))=(wr a).tmod (wr b):=by rw[uM] <;> omega
 simp only[dI] at h1
 refine bF Tryz.func189 rfl (by kernel_rfl) rfl rfl ?_
 unfold aHK
 by_cases q:wr b=0
 ·rw[if_pos q]
  refine a9 (j4 @aB @h1 @aS @q) ?_
  show a7 _ _ _ _ _
  exact ⟨.inr rfl,_,_,rfl,rfl⟩
 ·rw[if_neg q]
  have q':=eq_false q
  refine a9 (j5 @aB @h1 @aS @q' @h3) ?_
  show a7 _ _ _ _ _
  exact ⟨.inr rfl,_,_,rfl,rfl⟩
theorem aNT (b:Bool):d7 Tryz.prog Ob.cfg 184 [dB b]=some (dI (trE b)):=by
 refine bF Tryz.func184 rfl (by kernel_rfl) rfl rfl ?_
 cases b
 ·rw[show trE false=0 from rfl]
  refine a9 (jn @aB @aF) ?_
  show a7 _ _ _ _ _
  exact ⟨.inr rfl,_,_,rfl,rfl⟩
 ·rw[show trE true=1 from rfl]
  refine a9 (jn @aB @aF) ?_
  show a7 _ _ _ _ _
  exact ⟨.inr rfl,_,_,rfl,rfl⟩
def aLL (o a b:Int):Int:=if fL o=2 then tL o a b else trE (rS o a b)
set_option maxHeartbeats 4000000 in
theorem aHi (o a b:Int) (h:3≤o∧o≤16) (hA:oC (fL o) a=false) (hB:oC (fL o) b=false):d7 Tryz.prog Ob.cfg 170 [dI o,dI a,dI b]=some (dI (aLL o a b)):=by
 have e2:=aNC a b
 have e3:=aNP a b
 have e4:=aOc a b
 have e5:=aNu a b
 have e6:=aNX a b
 have e7:=aNT
 simp only[dI,dB] at e2 e3 e4 e5 e6 e7
 have bl:∀ v,oC 1 v=false→v=0∨v=1:=fun v hv=>by simp[oC] at hv;omega
 refine bF Tryz.func170 rfl (by kernel_rfl) rfl rfl ?_
 obtain rfl|rfl|rfl|rfl|rfl|rfl|rfl|rfl|rfl|rfl|rfl|rfl|rfl|rfl:o=3∨o=4∨o=5∨o=6∨o=7∨o=8∨o=9∨o=10∨o=11∨o=12∨o=13∨o=14∨o=15∨o=16:=by omega
 case inl=>
  rcases bl a hA with rfl|rfl <;> rcases bl b hB with rfl|rfl
  all_goals
   refine a9 (jn @aB @e7) ?_
   show a7 _ _ _ _ _
   exact ⟨.inr rfl,_,_,rfl,rfl⟩
 case inr.inl=>
  rcases bl a hA with rfl|rfl <;> rcases bl b hB with rfl|rfl
  all_goals
   refine a9 (jn @aB @e7) ?_
   show a7 _ _ _ _ _
   exact ⟨.inr rfl,_,_,rfl,rfl⟩
 case inr.inr.inl=>
  rcases bl a hA with rfl|rfl <;> rcases bl b hB with rfl|rfl
  all_goals
   refine a9 (jn @aB @e7) ?_
   show a7 _ _ _ _ _
   exact ⟨.inr rfl,_,_,rfl,rfl⟩
 all_goals
  refine a9 (j9 @aB @e2 @e3 @e4 @e5 @e6 @e7 @aV @aS) ?_
  show a7 _ _ _ _ _
  exact ⟨.inr rfl,_,_,rfl,by first|rfl|(simp[aLL,fL,eN,qQ,qN,tB,rS,tL];rfl)|simp[aLL,fL,eN,qQ,qN,tB,rS,tL,dI]⟩
end Go.Ac
end
