/- Operators: the reference's words. -/
import Derived.Test.YtkgekafdhehleaaGreatObPe
set_option linter.unusedVariables false
set_option linter.unusedSimpArgs false
section
set_option maxRecDepth 4000
namespace Go.Ac
open Go.Proofs
def fP (o:Int):Int:=if eT o=0 then 0 else if qT o then 1 else if qS o then 2 else if t7 o then 3 else 4
theorem aTn (r:Nat):Ob.keep 162 r=Ob.k162 r:=by kernel_rfl
theorem aUc (r:Nat):Ob.keep 193 r=Ob.k193 r:=by kernel_rfl
attribute [local simp] aTn Ob.k162 aUc Ob.k193
set_option maxHeartbeats 4000000 in
theorem jT (o:Int):eJ Tryz.prog Ob.cfg 162 [dI o]=some (.tuple [dI (fP o),dI (eT o)]):=by
 refine bI Tryz.func162 rfl (by kernel_rfl) rfl rfl ?_
 by_cases q1:o=1
 ·subst q1
  refine bA (@aB) ?_
  exact ⟨.inr rfl,_,_,rfl,rfl⟩
 have r1:=eq_false q1
 by_cases q2:o=2
 ·subst q2
  refine bA (@aB) ?_
  exact ⟨.inr rfl,_,_,rfl,rfl⟩
 have r2:=eq_false q2
 by_cases q3:o=3
 ·subst q3
  refine bA (@aB) ?_
  exact ⟨.inr rfl,_,_,rfl,rfl⟩
 have r3:=eq_false q3
 by_cases q4:o=4
 ·subst q4
  refine bA (@aB) ?_
  exact ⟨.inr rfl,_,_,rfl,rfl⟩
 have r4:=eq_false q4
 by_cases q5:o=5
 ·subst q5
  refine bA (@aB) ?_
  exact ⟨.inr rfl,_,_,rfl,rfl⟩
 have r5:=eq_false q5
 by_cases q6:o=6
 ·subst q6
  refine bA (@aB) ?_
  exact ⟨.inr rfl,_,_,rfl,rfl⟩
 have r6:=eq_false q6
 by_cases q7:o=7
 ·subst q7
  refine bA (@aB) ?_
  exact ⟨.inr rfl,_,_,rfl,rfl⟩
 have r7:=eq_false q7
 by_cases q8:o=8
 ·subst q8
  refine bA (@aB) ?_
  exact ⟨.inr rfl,_,_,rfl,rfl⟩
 have r8:=eq_false q8
 by_cases q9:o=9
 ·subst q9
  refine bA (@aB) ?_
  exact ⟨.inr rfl,_,_,rfl,rfl⟩
 have r9:=eq_false q9
 by_cases q10:o=10
 ·subst q10
  refine bA (@aB) ?_
  exact ⟨.inr rfl,_,_,rfl,rfl⟩
 have r10:=eq_false q10
 by_cases q11:o=11
 ·subst q11
  refine bA (@aB) ?_
  exact ⟨.inr rfl,_,_,rfl,rfl⟩
 have r11:=eq_false q11
 by_cases q12:o=12
 ·subst q12
  refine bA (@aB) ?_
  exact ⟨.inr rfl,_,_,rfl,rfl⟩
 have r12:=eq_false q12
 by_cases q13:o=13
 ·subst q13
  refine bA (@aB) ?_
  exact ⟨.inr rfl,_,_,rfl,rfl⟩
 have r13:=eq_false q13
 by_cases q14:o=14
 ·subst q14
  refine bA (@aB) ?_
  exact ⟨.inr rfl,_,_,rfl,rfl⟩
 have r14:=eq_false q14
 by_cases q15:o=15
 ·subst q15
  refine bA (@aB) ?_
  exact ⟨.inr rfl,_,_,rfl,rfl⟩
 have r15:=eq_false q15
 by_cases q16:o=16
 ·subst q16
  refine bA (@aB) ?_
  exact ⟨.inr rfl,_,_,rfl,rfl⟩
 have r16:=eq_false q16
 have h0:eT o=0:=by unfold eT;rw[if_neg (by omega),if_neg (by omega)]
 have h1:fP o=0:=by unfold fP;rw[if_pos h0]
 rw[h0,h1]
 refine bA (vP @aB @aS @r1 @r2 @r3 @r4 @r5 @r6 @r7 @r8 @r9 @r10 @r11 @r12 @r13 @r14 @r15 @r16) ?_
 exact ⟨.inr rfl,_,_,rfl,rfl⟩
def iR (K y0 d:Int):Bool:=if K=1 then !decide (d=1) else if K=3 then (!decide (d=y0)||decide (d<1)) else !decide (d=2)
theorem aNb {o:Int} (h:eT o≠0):(qT o=true→t7 o=false∧qS o=false)∧(qS o=true→t7 o=false∧qT o=false):=by
 unfold qT qS t7
 refine ⟨fun h=>?_,fun h=>?_⟩ <;> simp at h ⊢ <;> omega
theorem aAL {o y0:Int} {l:List Int} (hy:l.head?=some y0) (h1:eT o≠0) (h2:(l.length:Int)=eT o):jM o l=if l.any (iR (fP o) y0) then (0,10) else if fP o=2 then (2,0) else (1,0):=by
 obtain ⟨e1,e2⟩:=aNb h1
 unfold jM tL fP
 rw[if_neg h1,if_neg (by omega),if_neg h1]
 cases l with
 | nil=>simp at hy
 | cons a r=>
 simp at hy;subst hy
 cases hb:qT o with
 | true=>
  obtain ⟨e3,e4⟩:=e1 hb
  simp[e3,e4,iR]
 | false=>
  cases ha:qS o with
  | true=>
   obtain ⟨e3,e4⟩:=e2 ha
   have:iR 2 a=fun t=> !decide (t=2):=by funext t;simp[iR]
   simp[e3,this,iR]
  | false=>
   cases hq:t7 o with
   | false=>
    have:iR 4 a=fun t=> !decide (t=2):=by funext t;simp[iR]
    simp[this,iR]
   | true=>
    simp[iR]
    by_cases eU:a<1
    ·simp[eU]
    ·simp[eU]
     have:(∃ x,x∈r∧¬x=a)=(∃ x,x∈r∧(¬x=a∨x<1)):=by
      refine propext ⟨fun ⟨x,h1,h2⟩=>⟨x,h1,.inl h2⟩,fun ⟨x,h1,h2⟩=>⟨x,h1,?_⟩⟩
      omega
     simp only[this]
set_option maxHeartbeats 2000000 in
theorem aUG (o:Int) (l:List Int) (y0:Int) (hy:l.head?=some y0) (c1:eT o≠0) (c2:(l.length:Int)=eT o) (hK:fP o=1):eJ Tryz.prog Ob.cfg 193 [dI o,dL (bQ l)]=some (.tuple [dI (jM o l).1,dI (jM o l).2]):=by
 have a1:=jT o
 have har:=oG o
 have hr:=aAL hy c1 c2
 rw[hK] at a1 hr
 rw[hr]
 simp only[dI] at a1
 have c2':=eq_true c2
 have hp:0<l.length:=by cases l with
  | nil=>simp at hy
  | cons a r=>simp
 have zQ:jR 0 l.length=some 0:=by unfold jR;rw[if_pos ⟨by omega,by omega⟩];rfl
 have e0:(bQ l)[0]?=some [.int .i64 y0]:=cP (by rw[←List.head?_eq_getElem?];exact hy)
 refine bI Tryz.func193 rfl (by kernel_rfl) rfl rfl ?_
 refine bA (j7 @aB @aA @a1 @c2' @aS @aV @aZ) ?_
 apply WP.loop' (I:=fun D s=>∃ j:Nat,j+D=l.length∧(l.take j).all (fun d=> !iR 1 y0 d)=true∧SE [(1,dL (bQ l)),(6,dI 1),(23,dL (bQ l)),(24,dI l.length),(25,dI j)] [] 0 s) (d:=l.length)
 ·exact ⟨0,by simp,by simp,SE.mk (by simp[dI,dL]) rfl⟩
 rintro D _ ⟨j,hj,cF,cc,rfl⟩
 refine wk (j3 @aB @aA @aZ) ?_
 show WP _ _ _ _ _ _
 refine WP.cond _ rfl (fun hb=>?_) (fun hb=>?_)
 ·simp at hb
  have bP:j<l.length:=by omega
  obtain ⟨d,hd,d8,bV⟩:=bM bP
  have cG:=cP hd
  have hw:=bE bP (by omega)
  have hs:=bZ (p:=fun d=> !iR 1 y0 d) hd
  by_cases hq:d=1
  ·have oV:iR 1 y0 d=false:=by subst hq;simp[iR]
   refine bA (j7 @aB @aA @aZ @bV @cG @aV @hq) ?_
   refine aY (by simp[hw];exact Is.rfl) ?_
   exact ⟨D - 1,by omega,j+1,by omega,by rw[hs,cF,oV];rfl,SE.mk (by simp[dI,dL,hw]) rfl⟩
  ·have g9:=eq_false hq
   have oV:iR 1 y0 d=true:=by simp[iR,hq]
   have ha:l.any (iR 1 y0)=true:=List.any_eq_true.2 ⟨d,d8,oV⟩
   rw[ha]
   refine bA (j7 @aB @aA @aZ @bV @cG @aV @g9) ?_
   exact ⟨.inr rfl,_,_,rfl,rfl⟩
 ·simp at hb
  have eE:j=l.length:=by omega
  rw[eE,List.take_length] at cF
  have ha:l.any (iR 1 y0)=false:=by
   rw[List.any_eq_false];intro t ht;simpa using List.all_eq_true.1 cF t ht
  rw[ha]
  refine bA (jn @aB @aA) ?_
  exact ⟨.inr rfl,_,_,rfl,rfl⟩
set_option maxHeartbeats 2000000 in
theorem aSW (o:Int) (l:List Int) (y0:Int) (hy:l.head?=some y0) (c1:eT o≠0) (c2:(l.length:Int)=eT o) (hK:fP o=2):eJ Tryz.prog Ob.cfg 193 [dI o,dL (bQ l)]=some (.tuple [dI (jM o l).1,dI (jM o l).2]):=by
 have a1:=jT o
 have har:=oG o
 have hr:=aAL hy c1 c2
 rw[hK] at a1 hr
 rw[hr]
 simp only[dI] at a1
 have c2':=eq_true c2
 have hp:0<l.length:=by cases l with
  | nil=>simp at hy
  | cons a r=>simp
 have zQ:jR 0 l.length=some 0:=by unfold jR;rw[if_pos ⟨by omega,by omega⟩];rfl
 have e0:(bQ l)[0]?=some [.int .i64 y0]:=cP (by rw[←List.head?_eq_getElem?];exact hy)
 refine bI Tryz.func193 rfl (by kernel_rfl) rfl rfl ?_
 refine bA (j7 @aB @aA @a1 @c2' @aS @aV @aZ) ?_
 apply WP.loop' (I:=fun D s=>∃ j:Nat,j+D=l.length∧(l.take j).all (fun d=> !iR 2 y0 d)=true∧SE [(1,dL (bQ l)),(6,dI 2),(23,dL (bQ l)),(24,dI l.length),(25,dI j)] [] 0 s) (d:=l.length)
 ·exact ⟨0,by simp,by simp,SE.mk (by simp[dI,dL]) rfl⟩
 rintro D _ ⟨j,hj,cF,cc,rfl⟩
 refine wk (j3 @aB @aA @aZ) ?_
 show WP _ _ _ _ _ _
 refine WP.cond _ rfl (fun hb=>?_) (fun hb=>?_)
 ·simp at hb
  have bP:j<l.length:=by omega
  obtain ⟨d,hd,d8,bV⟩:=bM bP
  have cG:=cP hd
  have hw:=bE bP (by omega)
  have hs:=bZ (p:=fun d=> !iR 2 y0 d) hd
  by_cases hq:d=2
  ·have oV:iR 2 y0 d=false:=by subst hq;simp[iR]
   refine bA (j7 @aB @aA @aZ @bV @cG @aV @hq) ?_
   refine aY (by simp[hw];exact Is.rfl) ?_
   exact ⟨D - 1,by omega,j+1,by omega,by rw[hs,cF,oV];rfl,SE.mk (by simp[dI,dL,hw]) rfl⟩
  ·have g9:=eq_false hq
   have oV:iR 2 y0 d=true:=by simp[iR,hq]
   have ha:l.any (iR 2 y0)=true:=List.any_eq_true.2 ⟨d,d8,oV⟩
   rw[ha]
   refine bA (j7 @aB @aA @aZ @bV @cG @aV @g9) ?_
   exact ⟨.inr rfl,_,_,rfl,rfl⟩
 ·simp at hb
  have eE:j=l.length:=by omega
  rw[eE,List.take_length] at cF
  have ha:l.any (iR 2 y0)=false:=by
   rw[List.any_eq_false];intro t ht;simpa using List.all_eq_true.1 cF t ht
  rw[ha]
  refine bA (jn @aB @aA) ?_
  exact ⟨.inr rfl,_,_,rfl,rfl⟩
set_option maxHeartbeats 2000000 in
theorem aUM (o:Int) (l:List Int) (y0:Int) (hy:l.head?=some y0) (c1:eT o≠0) (c2:(l.length:Int)=eT o) (hK:fP o=3):eJ Tryz.prog Ob.cfg 193 [dI o,dL (bQ l)]=some (.tuple [dI (jM o l).1,dI (jM o l).2]):=by
 have a1:=jT o
 have har:=oG o
 have hr:=aAL hy c1 c2
 rw[hK] at a1 hr
 rw[hr]
 simp only[dI] at a1
 have c2':=eq_true c2
 have hp:0<l.length:=by cases l with
  | nil=>simp at hy
  | cons a r=>simp
 have zQ:jR 0 l.length=some 0:=by unfold jR;rw[if_pos ⟨by omega,by omega⟩];rfl
 have e0:(bQ l)[0]?=some [.int .i64 y0]:=cP (by rw[←List.head?_eq_getElem?];exact hy)
 refine bI Tryz.func193 rfl (by kernel_rfl) rfl rfl ?_
 refine bA (j7 @aB @aA @a1 @c2' @aS @aV @aZ) ?_
 apply WP.loop' (I:=fun D s=>∃ j:Nat,j+D=l.length∧(l.take j).all (fun d=> !iR 3 y0 d)=true∧SE [(1,dL (bQ l)),(6,dI 3),(23,dL (bQ l)),(24,dI l.length),(25,dI j)] [] 0 s) (d:=l.length)
 ·exact ⟨0,by simp,by simp,SE.mk (by simp[dI,dL]) rfl⟩
 rintro D _ ⟨j,hj,cF,cc,rfl⟩
 refine wk (j3 @aB @aA @aZ) ?_
 show WP _ _ _ _ _ _
 refine WP.cond _ rfl (fun hb=>?_) (fun hb=>?_)
 ·simp at hb
  have bP:j<l.length:=by omega
  obtain ⟨d,hd,d8,bV⟩:=bM bP
  have cG:=cP hd
  have hw:=bE bP (by omega)
  have hs:=bZ (p:=fun d=> !iR 3 y0 d) hd
  by_cases hq:d=y0
  ·have g9:=eq_true hq
   by_cases eU:d<1
   ·have aGz:=eq_true eU
    have oV:iR 3 y0 d=true:=by simp[iR,eU]
    have ha:l.any (iR 3 y0)=true:=List.any_eq_true.2 ⟨d,d8,oV⟩
    rw[ha]
    refine bA (oR @aB @aA @aZ @bV @cG @aV @g9 @aGz @e0 @zQ) ?_
    exact ⟨.inr rfl,_,_,rfl,rfl⟩
   ·have aGz:=eq_false eU
    have oV:iR 3 y0 d=false:=by subst hq;simp[iR];omega
    refine bA (oR @aB @aA @aZ @bV @cG @aV @g9 @aGz @e0 @zQ) ?_
    refine aY (by simp[hw];exact Is.rfl) ?_
    exact ⟨D - 1,by omega,j+1,by omega,by rw[hs,cF,oV];rfl,SE.mk (by simp[dI,dL,hw]) rfl⟩
  ·have g9:=eq_false hq
   have oV:iR 3 y0 d=true:=by simp[iR,hq]
   have ha:l.any (iR 3 y0)=true:=List.any_eq_true.2 ⟨d,d8,oV⟩
   rw[ha]
   refine bA (j9 @aB @aA @aZ @bV @cG @aV @g9 @e0 @zQ) ?_
   exact ⟨.inr rfl,_,_,rfl,rfl⟩
 ·simp at hb
  have eE:j=l.length:=by omega
  rw[eE,List.take_length] at cF
  have ha:l.any (iR 3 y0)=false:=by
   rw[List.any_eq_false];intro t ht;simpa using List.all_eq_true.1 cF t ht
  rw[ha]
  refine bA (jn @aB @aA) ?_
  exact ⟨.inr rfl,_,_,rfl,rfl⟩
set_option maxHeartbeats 2000000 in
theorem aUt (o:Int) (l:List Int) (y0:Int) (hy:l.head?=some y0) (c1:eT o≠0) (c2:(l.length:Int)=eT o) (hK:fP o=4):eJ Tryz.prog Ob.cfg 193 [dI o,dL (bQ l)]=some (.tuple [dI (jM o l).1,dI (jM o l).2]):=by
 have a1:=jT o
 have har:=oG o
 have hr:=aAL hy c1 c2
 rw[hK] at a1 hr
 rw[hr]
 simp only[dI] at a1
 have c2':=eq_true c2
 have hp:0<l.length:=by cases l with
  | nil=>simp at hy
  | cons a r=>simp
 have zQ:jR 0 l.length=some 0:=by unfold jR;rw[if_pos ⟨by omega,by omega⟩];rfl
 have e0:(bQ l)[0]?=some [.int .i64 y0]:=cP (by rw[←List.head?_eq_getElem?];exact hy)
 refine bI Tryz.func193 rfl (by kernel_rfl) rfl rfl ?_
 refine bA (j7 @aB @aA @a1 @c2' @aS @aV @aZ) ?_
 apply WP.loop' (I:=fun D s=>∃ j:Nat,j+D=l.length∧(l.take j).all (fun d=> !iR 4 y0 d)=true∧SE [(1,dL (bQ l)),(6,dI 4),(23,dL (bQ l)),(24,dI l.length),(25,dI j)] [] 0 s) (d:=l.length)
 ·exact ⟨0,by simp,by simp,SE.mk (by simp[dI,dL]) rfl⟩
 rintro D _ ⟨j,hj,cF,cc,rfl⟩
 refine wk (j3 @aB @aA @aZ) ?_
 show WP _ _ _ _ _ _
 refine WP.cond _ rfl (fun hb=>?_) (fun hb=>?_)
 ·simp at hb
  have bP:j<l.length:=by omega
  obtain ⟨d,hd,d8,bV⟩:=bM bP
  have cG:=cP hd
  have hw:=bE bP (by omega)
  have hs:=bZ (p:=fun d=> !iR 4 y0 d) hd
  by_cases hq:d=2
  ·have oV:iR 4 y0 d=false:=by subst hq;simp[iR]
   refine bA (j7 @aB @aA @aZ @bV @cG @aV @hq) ?_
   refine aY (by simp[hw];exact Is.rfl) ?_
   exact ⟨D - 1,by omega,j+1,by omega,by rw[hs,cF,oV];rfl,SE.mk (by simp[dI,dL,hw]) rfl⟩
  ·have g9:=eq_false hq
   have oV:iR 4 y0 d=true:=by simp[iR,hq]
   have ha:l.any (iR 4 y0)=true:=List.any_eq_true.2 ⟨d,d8,oV⟩
   rw[ha]
   refine bA (j7 @aB @aA @aZ @bV @cG @aV @g9) ?_
   exact ⟨.inr rfl,_,_,rfl,rfl⟩
 ·simp at hb
  have eE:j=l.length:=by omega
  rw[eE,List.take_length] at cF
  have ha:l.any (iR 4 y0)=false:=by
   rw[List.any_eq_false];intro t ht;simpa using List.all_eq_true.1 cF t ht
  rw[ha]
  refine bA (jn @aB @aA) ?_
  exact ⟨.inr rfl,_,_,rfl,rfl⟩
set_option maxHeartbeats 1000000 in
theorem aQj (o:Int) (l:List Int):eJ Tryz.prog Ob.cfg 193 [dI o,dL (bQ l)]=some (.tuple [dI (jM o l).1,dI (jM o l).2]):=by
 by_cases c1:eT o=0
 ·have a1:=jT o
  rw[c1,show fP o=0 by unfold fP;rw[if_pos c1]] at a1
  simp only[dI] at a1
  rw[show jM o l=(0,2) by unfold jM;rw[if_pos c1]]
  refine bI Tryz.func193 rfl (by kernel_rfl) rfl rfl ?_
  refine bA (j3 @aB @aA @a1) ?_
  exact ⟨.inr rfl,_,_,rfl,rfl⟩
 have hg:∃ K,fP o=K∧(K=1∨K=2∨K=3∨K=4):=by
  refine ⟨_,rfl,?_⟩
  unfold fP;rw[if_neg c1];split
  ·exact .inl rfl
  ·split
   ·exact .inr (.inl rfl)
   ·split
    ·exact .inr (.inr (.inl rfl))
    ·exact .inr (.inr (.inr rfl))
 obtain ⟨K,hK,hKc⟩:=hg
 by_cases c2:(l.length:Int)=eT o
 ·have hy:∃ y0,l.head?=some y0:=by
   cases l with
   | nil=>simp at c2;omega
   | cons a r=>exact ⟨a,rfl⟩
  obtain ⟨y0,hy⟩:=hy
  rcases hKc with rfl|rfl|rfl|rfl
  ·exact aUG o l y0 hy c1 c2 hK
  ·exact aSW o l y0 hy c1 c2 hK
  ·exact aUM o l y0 hy c1 c2 hK
  ·exact aUt o l y0 hy c1 c2 hK
 ·have a1:=jT o
  rw[hK] at a1
  simp only[dI] at a1
  rw[show jM o l=(0,9) by unfold jM;rw[if_neg c1,if_pos c2]]
  have c2':=eq_false c2
  have k0:(K=0)=False:=eq_false (by omega)
  refine bI Tryz.func193 rfl (by kernel_rfl) rfl rfl ?_
  refine bA (j8 @aB @aA @a1 @c2' @k0 @aS @aV @aZ) ?_
  exact ⟨.inr rfl,_,_,rfl,rfl⟩
end Go.Ac
end
section
set_option maxRecDepth 4000
namespace Go.Ac
open Go.Proofs
def wr (n:Int):Int:=(n+32768) % 65536 - 32768
theorem aQF (n:Int):IntKind.i16.wrap n=wr n:=by simp only[IntKind.wrap,IntKind.bits,IntKind.signed,wr];simp;omega
theorem pY (n:Int): -32768≤wr n∧wr n≤32767:=by unfold wr;omega
theorem aQc (n:Int):IntKind.i64.wrap (wr n)=wr n:=by have:=pY n;rw[uM] <;> omega
def aJl (a b:Int):Int:=if wr b=0 then 0 else wr ((wr a).tdiv (wr b))
def aIG (a b:Int):Int:=if wr b=0 then wr a else (wr a).tmod (wr b)
def tY (o a b:Int):Int:=if o=2 then wr (-wr a) else if o=6 then wr (wr a+wr b) else if o=7 then wr (wr a - wr b) else if o=8 then wr (wr a*wr b) else if o=9 then aJl a b else aIG a b
def sH (o a b:Int):Bool:=if o=1 then decide (a=0) else if o=3 then decide (a=1)&&decide (b=1) else if o=4 then decide (a=1)||decide (b=1) else if o=11 then decide (a=b) else if o=5∨o=12 then !decide (a=b) else if o=13 then decide (a<b) else if o=14 then decide (a≤b) else if o=15 then decide (b<a) else decide (b≤a)
def oS (K v:Int):Bool:=if K=1 then !decide (v=0)&& !decide (v=1) else if K=3 then false else !inW v
def trE (b:Bool):Int:=if b then 1 else 0
def lI (o:Int) (l:List Int):Int×Int:=
 if fP o=0 then (0,2) else if (l.length:Int)≠eT o then (0,9) else if l.any (oS (fP o)) then (0,14)
 else if fP o=2 then (tY o (l.getD 0 0) (l.getD (l.length - 1) 0),0) else (trE (sH o (l.getD 0 0) (l.getD (l.length - 1) 0)),0)
theorem aSH (r:Nat):Ob.keep 194 r=Ob.k194 r:=by kernel_rfl
theorem aSQ (r:Nat):Ob.keep 177 r=Ob.k177 r:=by kernel_rfl
theorem aSm (r:Nat):Ob.keep 178 r=Ob.k178 r:=by kernel_rfl
theorem aVh (r:Nat):Ob.keep 179 r=Ob.k179 r:=by kernel_rfl
theorem aSn (r:Nat):Ob.keep 180 r=Ob.k180 r:=by kernel_rfl
theorem aTz (r:Nat):Ob.keep 181 r=Ob.k181 r:=by kernel_rfl
theorem aTd (r:Nat):Ob.keep 182 r=Ob.k182 r:=by kernel_rfl
theorem aSX (r:Nat):Ob.keep 163 r=Ob.k163 r:=by kernel_rfl
theorem aVi (r:Nat):Ob.keep 164 r=Ob.k164 r:=by kernel_rfl
theorem aTM (r:Nat):Ob.keep 165 r=Ob.k165 r:=by kernel_rfl
theorem aUL (r:Nat):Ob.keep 148 r=Ob.k148 r:=by kernel_rfl
attribute [local simp] aSH Ob.k194 aSQ Ob.k177 aSm Ob.k178 aVh Ob.k179 aSn Ob.k180 aTz Ob.k181 aTd Ob.k182 aSX Ob.k163 aVi Ob.k164 aTM Ob.k165 aUL Ob.k148
theorem yA (n:Int):eJ Tryz.prog Ob.cfg 194 [dI n]=some (dI (wr n)):=by
 refine bI Tryz.func194 rfl (by kernel_rfl) rfl rfl ?_
 refine bA (j3 @aB @aQF @aQc) ?_
 show a8 _ _ _ _ _
 exact ⟨.inr rfl,_,_,rfl,rfl⟩
theorem aQG (a:Int):eJ Tryz.prog Ob.cfg 177 [dI a]=some (dI (wr (-wr a))):=by
 have h1:=yA
 have h2:=pY a
 have h3:IntKind.i64.wrap (-wr a)= -wr a:=by rw[uM] <;> omega
 simp only[dI] at h1
 refine bI Tryz.func177 rfl (by kernel_rfl) rfl rfl ?_
 refine bA (j3 @aB @h1 @h3) ?_
 show a8 _ _ _ _ _
 exact ⟨.inr rfl,_,_,rfl,rfl⟩
theorem aPW (a b:Int):eJ Tryz.prog Ob.cfg 178 [dI a,dI b]=some (dI (wr (wr a+wr b))):=by
 have h1:=yA
 have h2:=pY a
 have h4:=pY b
 have h3:IntKind.i64.wrap (wr a+wr b)=wr a+wr b:=by rw[uM] <;> omega
 simp only[dI] at h1
 refine bI Tryz.func178 rfl (by kernel_rfl) rfl rfl ?_
 refine bA (j3 @aB @h1 @h3) ?_
 show a8 _ _ _ _ _
 exact ⟨.inr rfl,_,_,rfl,rfl⟩
theorem aPT (a b:Int):eJ Tryz.prog Ob.cfg 179 [dI a,dI b]=some (dI (wr (wr a - wr b))):=by
 have h1:=yA
 have h2:=pY a
 have h4:=pY b
 have h3:IntKind.i64.wrap (wr a - wr b)=wr a - wr b:=by rw[uM] <;> omega
 simp only[dI] at h1
 refine bI Tryz.func179 rfl (by kernel_rfl) rfl rfl ?_
 refine bA (j3 @aB @h1 @h3) ?_
 show a8 _ _ _ _ _
 exact ⟨.inr rfl,_,_,rfl,rfl⟩
theorem aNf (a b:Int): -1073741824≤wr a*wr b∧wr a*wr b≤1073741824:=by
 have h2:=pY a
 have h4:=pY b
 generalize wr a=x at*
 generalize wr b=y at*
 have h5:x.natAbs*y.natAbs≤32768*32768:=Nat.mul_le_mul (by omega) (by omega)
 rw[←Int.natAbs_mul] at h5
 generalize x*y=z at*
 omega
theorem aQq (a b:Int):eJ Tryz.prog Ob.cfg 180 [dI a,dI b]=some (dI (wr (wr a*wr b))):=by
 have h1:=yA
 have h2:=aNf a b
 have h3:IntKind.i64.wrap (wr a*wr b)=wr a*wr b:=by rw[uM] <;> omega
 simp only[dI] at h1
 refine bI Tryz.func180 rfl (by kernel_rfl) rfl rfl ?_
 refine bA (j3 @aB @h1 @h3) ?_
 show a8 _ _ _ _ _
 exact ⟨.inr rfl,_,_,rfl,rfl⟩
theorem aKl (a b:Int): -32768≤(wr a).tdiv (wr b)∧(wr a).tdiv (wr b)≤32768:=by
 have h2:=pY a
 have:=Int.natAbs_tdiv (wr a) (wr b)
 have h3:(wr a).natAbs / (wr b).natAbs≤(wr a).natAbs:=Nat.div_le_self ..
 replace h3:((wr a).tdiv (wr b)).natAbs≤(wr a).natAbs:=by rw[this];exact h3
 clear this
 generalize (wr a).tdiv (wr b)=z at*
 omega
theorem aFW (a b:Int): -32768≤(wr a).tmod (wr b)∧(wr a).tmod (wr b)≤32767:=by
 have h2:=pY a
 have h3:((wr a).tmod (wr b)).natAbs≤(wr a).natAbs:=by rw[Int.natAbs_tmod];exact Nat.mod_le ..
 by_cases h:0≤wr a
 ·have h4:=Int.tmod_nonneg (wr b) h
  have e1:=Int.natAbs_of_nonneg h4
  have e2:=Int.natAbs_of_nonneg h
  omega
 ·have h4:0≤(-wr a).tmod (wr b):=Int.tmod_nonneg (wr b) (by omega)
  rw[Int.neg_tmod] at h4
  have e1:=Int.ofNat_natAbs_of_nonpos (a:=(wr a).tmod (wr b)) (by omega)
  have e2:=Int.ofNat_natAbs_of_nonpos (a:=wr a) (by omega)
  omega
theorem aQU (a b:Int):eJ Tryz.prog Ob.cfg 181 [dI a,dI b]=some (dI (aJl a b)):=by
 have h1:=yA
 have h2:=aKl a b
 have h3:IntKind.i64.wrap ((wr a).tdiv (wr b))=(wr a).tdiv (wr b):=by rw[uM] <;> omega
 simp only[dI] at h1
 refine bI Tryz.func181 rfl (by kernel_rfl) rfl rfl ?_
 unfold aJl
 by_cases q:wr b=0
 ·rw[if_pos q]
  refine bA (j4 @aB @h1 @aS @q) ?_
  show a8 _ _ _ _ _
  exact ⟨.inr rfl,_,_,rfl,rfl⟩
 ·rw[if_neg q]
  have q':=eq_false q
  refine bA (j5 @aB @h1 @aS @q' @h3) ?_
  show a8 _ _ _ _ _
  exact ⟨.inr rfl,_,_,rfl,rfl⟩
theorem aRr (a b:Int):eJ Tryz.prog Ob.cfg 182 [dI a,dI b]=some (dI (aIG a b)):=by
 have h1:=yA
 have h2:=aFW a b
 have h3:IntKind.i64.wrap ((wr a).tmod (wr b))=(wr a).tmod (wr b):=by rw[uM] <;> omega
 simp only[dI] at h1
 refine bI Tryz.func182 rfl (by kernel_rfl) rfl rfl ?_
 unfold aIG
 by_cases q:wr b=0
 ·rw[if_pos q]
  refine bA (j4 @aB @h1 @aS @q) ?_
  show a8 _ _ _ _ _
  exact ⟨.inr rfl,_,_,rfl,rfl⟩
 ·rw[if_neg q]
  have q':=eq_false q
  refine bA (j5 @aB @h1 @aS @q' @h3) ?_
  show a8 _ _ _ _ _
  exact ⟨.inr rfl,_,_,rfl,rfl⟩
theorem aAo (b:Bool):eJ Tryz.prog Ob.cfg 164 [dB b]=some (dI (trE b)):=by
 refine bI Tryz.func164 rfl (by kernel_rfl) rfl rfl ?_
 cases b
 ·rw[show trE false=0 from rfl]
  refine bA (jn @aB @aF) ?_
  show a8 _ _ _ _ _
  exact ⟨.inr rfl,_,_,rfl,rfl⟩
 ·rw[show trE true=1 from rfl]
  refine bA (jn @aB @aF) ?_
  show a8 _ _ _ _ _
  exact ⟨.inr rfl,_,_,rfl,rfl⟩
theorem uI (o a b:Int):eJ Tryz.prog Ob.cfg 163 [dI o,dI a,dI b]=some (dI (tY o a b)):=by
 have a1:=aQG
 have a2:=aPW
 have a3:=aPT
 have a4:=aQq
 have a5:=aQU
 have a6:=aRr
 simp only[dI] at a1 a2 a3 a4 a5 a6
 refine bI Tryz.func163 rfl (by kernel_rfl) rfl rfl ?_
 by_cases q2:o=2
 ·subst q2;rw[show tY 2 a b=wr (-wr a) from rfl]
  refine bA (j3 @aB @aS @a1) ?_
  show a8 _ _ _ _ _
  exact ⟨.inr rfl,_,_,rfl,rfl⟩
 have r2:=eq_false q2
 by_cases q6:o=6
 ·subst q6;rw[show tY 6 a b=wr (wr a+wr b) from rfl]
  refine bA (j3 @aB @aS @a2) ?_
  show a8 _ _ _ _ _
  exact ⟨.inr rfl,_,_,rfl,rfl⟩
 have r6:=eq_false q6
 by_cases q7:o=7
 ·subst q7;rw[show tY 7 a b=wr (wr a - wr b) from rfl]
  refine bA (j3 @aB @aS @a3) ?_
  show a8 _ _ _ _ _
  exact ⟨.inr rfl,_,_,rfl,rfl⟩
 have r7:=eq_false q7
 by_cases q8:o=8
 ·subst q8;rw[show tY 8 a b=wr (wr a*wr b) from rfl]
  refine bA (j3 @aB @aS @a4) ?_
  show a8 _ _ _ _ _
  exact ⟨.inr rfl,_,_,rfl,rfl⟩
 have r8:=eq_false q8
 by_cases q9:o=9
 ·subst q9;rw[show tY 9 a b=aJl a b from rfl]
  refine bA (j3 @aB @aS @a5) ?_
  show a8 _ _ _ _ _
  exact ⟨.inr rfl,_,_,rfl,rfl⟩
 have r9:=eq_false q9
 rw[show tY o a b=aIG a b by unfold tY;rw[if_neg q2,if_neg q6,if_neg q7,if_neg q8,if_neg q9]]
 refine bA (j8 @aB @aS @r2 @r6 @r7 @r8 @r9 @a6) ?_
 show a8 _ _ _ _ _
 exact ⟨.inr rfl,_,_,rfl,rfl⟩
theorem aAp (o a b:Int):eJ Tryz.prog Ob.cfg 165 [dI o,dI a,dI b]=some (dB (sH o a b)):=by
 refine bI Tryz.func165 rfl (by kernel_rfl) rfl rfl ?_
 by_cases q1:o=1
 ·subst q1;rw[show sH 1 a b=(decide (a=0)) from rfl]
  refine bA (j4 @aB @aF @aS @aV) ?_
  exact ⟨.inr rfl,_,_,rfl,by rfl⟩
 have r1:=eq_false q1
 by_cases q3:o=3
 ·subst q3;rw[show sH 3 a b=((decide (a=1)&&decide (b=1))) from rfl]
  by_cases u:a=1
  ·subst u
   refine bA (j4 @aB @aF @aS @aV) ?_
   show a8 _ _ _ _ _
   exact ⟨.inr rfl,_,_,rfl,rfl⟩
  ·have u':=eq_false u
   rw[show (decide (a=1)&&decide (b=1))=false by simp[u]]
   refine bA (j5 @aB @aF @aS @aV @u') ?_
   exact ⟨.inr rfl,_,_,rfl,by rfl⟩
 have r3:=eq_false q3
 by_cases q4:o=4
 ·subst q4;rw[show sH 4 a b=((decide (a=1)||decide (b=1))) from rfl]
  by_cases u:a=1
  ·subst u
   refine bA (j4 @aB @aF @aS @aV) ?_
   show a8 _ _ _ _ _
   exact ⟨.inr rfl,_,_,rfl,rfl⟩
  ·have u':=eq_false u
   rw[show (decide (a=1)||decide (b=1))=decide (b=1) by simp[u]]
   refine bA (j5 @aB @aF @aS @aV @u') ?_
   exact ⟨.inr rfl,_,_,rfl,by rfl⟩
 have r4:=eq_false q4
 by_cases q11:o=11
 ·subst q11;rw[show sH 11 a b=(decide (a=b)) from rfl]
  refine bA (j4 @aB @aF @aS @aV) ?_
  exact ⟨.inr rfl,_,_,rfl,by rfl⟩
 have r11:=eq_false q11
 by_cases q5:o=5
 ·subst q5;rw[show sH 5 a b=(!decide (a=b)) from rfl]
  refine bA (j4 @aB @aF @aS @aV) ?_
  exact ⟨.inr rfl,_,_,rfl,by rfl⟩
 have r5:=eq_false q5
 by_cases q12:o=12
 ·subst q12;rw[show sH 12 a b=(!decide (a=b)) from rfl]
  refine bA (j4 @aB @aF @aS @aV) ?_
  exact ⟨.inr rfl,_,_,rfl,by rfl⟩
 have r12:=eq_false q12
 by_cases q13:o=13
 ·subst q13;rw[show sH 13 a b=(decide (a<b)) from rfl]
  refine bA (j4 @aB @aF @aS @aV) ?_
  exact ⟨.inr rfl,_,_,rfl,by rfl⟩
 have r13:=eq_false q13
 by_cases q14:o=14
 ·subst q14;rw[show sH 14 a b=(decide (a≤b)) from rfl]
  refine bA (j4 @aB @aF @aS @aV) ?_
  exact ⟨.inr rfl,_,_,rfl,by rfl⟩
 have r14:=eq_false q14
 by_cases q15:o=15
 ·subst q15;rw[show sH 15 a b=(decide (b<a)) from rfl]
  refine bA (j4 @aB @aF @aS @aV) ?_
  exact ⟨.inr rfl,_,_,rfl,by rfl⟩
 have r15:=eq_false q15
 rw[show sH o a b=decide (b≤a) by unfold sH;rw[if_neg q1,if_neg q3,if_neg q4,if_neg q11,if_neg (by omega),if_neg q13,if_neg q14,if_neg q15]]
 refine bA (o9 @aB @aF @aS @aV @r1 @r3 @r4 @r11 @r5 @r12 @r13 @r14 @r15) ?_
 exact ⟨.inr rfl,_,_,rfl,by rfl⟩
set_option maxHeartbeats 2000000 in
theorem aTr (o:Int) (l:List Int) (hl:(l.length:Int)=eT o) (hK:fP o=1):eJ Tryz.prog Ob.cfg 148 [dI o,dL (bQ l)]=some (.tuple [dI (lI o l).1,dI (lI o l).2]):=by
 have a1:=jT o
 have a2:=aMq
 have a3:=uI
 have a4:=aAp
 have a5:=aAo
 have har:=oG o
 have c0:eT o≠0:=by intro h;simp[fP,h] at hK
 have hp:0<l.length:=by have:=uS o;omega
 rw[hK] at a1
 have yO:lI o l=if l.any (oS 1) then (0,14) else if (1:Int)=2 then (tY o (l.getD 0 0) (l.getD (l.length - 1) 0),0) else (trE (sH o (l.getD 0 0) (l.getD (l.length - 1) 0)),0):=by
  unfold lI;rw[hK,if_neg (by omega),if_neg (by omega)]
 rw[yO]
 simp only[dI,dB] at a1 a2 a3 a4 a5
 have c2':=eq_true hl
 have zQ:jR 0 l.length=some 0:=by unfold jR;rw[if_pos ⟨by omega,by omega⟩];rfl
 have e0:(bQ l)[0]?=some [.int .i64 (l.getD 0 0)]:=cP (by rw[List.getD_eq_getElem?_getD,List.getElem?_eq_getElem hp];rfl)
 have hw1:IntKind.i64.wrap (eT o - 1)=eT o - 1:=by have:=uS o;rw[uM] <;> omega
 have hl2:jR (eT o - 1) l.length=some (l.length - 1):=by
  unfold jR
  rw[if_pos ⟨by omega,by omega⟩]
  congr 1;omega
 have e1:(bQ l)[l.length - 1]?=some [.int .i64 (l.getD (l.length - 1) 0)]:=cP (by rw[List.getD_eq_getElem?_getD,List.getElem?_eq_getElem (by omega)];rfl)
 refine bI Tryz.func148 rfl (by kernel_rfl) rfl rfl ?_
 refine bA (j7 @aB @aA @a1 @c2' @aS @aV @aZ) ?_
 apply WP.loop' (I:=fun D s=>∃ j:Nat,j+D=l.length∧(l.take j).all (fun d=> !oS 1 d)=true∧SE [(0,dI o),(1,dL (bQ l)),(6,dI 1),(7,dI (eT o)),(25,dL (bQ l)),(26,dI l.length),(27,dI j)] [] 0 s) (d:=l.length)
 ·exact ⟨0,by simp,by simp,SE.mk (by simp[dI,dL]) rfl⟩
 rintro D _ ⟨j,hj,cF,cc,rfl⟩
 refine wk (j3 @aB @aA @aZ) ?_
 show WP _ _ _ _ _ _
 refine WP.cond _ rfl (fun hb=>?_) (fun hb=>?_)
 ·simp at hb
  have bP:j<l.length:=by omega
  obtain ⟨d,hd,d8,bV⟩:=bM bP
  have cG:=cP hd
  have hw:=bE bP (by omega)
  have hs:=bZ (p:=fun d=> !oS 1 d) hd
  by_cases u0:d=0
  ·have oV:oS 1 d=false:=by simp[oS,u0]
   refine bA (j9 @aB @aA @aZ @bV @cG @aS @aV @a2 @u0) ?_
   refine aY (by simp[hw];exact Is.rfl) ?_
   exact ⟨D - 1,by omega,j+1,by omega,by rw[hs,cF,oV];rfl,SE.mk (by simp[dI,dL,hw]) rfl⟩
  have u0':=eq_false u0
  by_cases u1:d=1
  ·have oV:oS 1 d=false:=by simp[oS,u1]
   refine bA (j9 @aB @aA @aZ @bV @cG @aS @aV @a2 @u1) ?_
   refine aY (by simp[hw];exact Is.rfl) ?_
   exact ⟨D - 1,by omega,j+1,by omega,by rw[hs,cF,oV];rfl,SE.mk (by simp[dI,dL,hw]) rfl⟩
  have u1':=eq_false u1
  have oV:oS 1 d=true:=by simp[oS,u0,u1]
  have ha:l.any (oS 1)=true:=List.any_eq_true.2 ⟨d,d8,oV⟩
  rw[ha]
  refine bA (oR @aB @aA @aZ @bV @cG @aS @aV @a2 @u0' @u1') ?_
  show a8 _ _ _ _ _
  exact ⟨.inr rfl,_,_,rfl,rfl⟩
 ·simp at hb
  have eE:j=l.length:=by omega
  rw[eE,List.take_length] at cF
  have ha:l.any (oS 1)=false:=by
   rw[List.any_eq_false];intro t ht;simpa using List.all_eq_true.1 cF t ht
  rw[ha]
  refine bA (o9 @aB @aA @aZ @zQ @e0 @hw1 @hl2 @e1 @aS @aV @a3 @a4 @a5) ?_
  show a8 _ _ _ _ _
  exact ⟨.inr rfl,_,_,rfl,rfl⟩
set_option maxHeartbeats 2000000 in
theorem aUO (o:Int) (l:List Int) (hl:(l.length:Int)=eT o) (hK:fP o=2):eJ Tryz.prog Ob.cfg 148 [dI o,dL (bQ l)]=some (.tuple [dI (lI o l).1,dI (lI o l).2]):=by
 have a1:=jT o
 have a2:=aMq
 have a3:=uI
 have a4:=aAp
 have a5:=aAo
 have har:=oG o
 have c0:eT o≠0:=by intro h;simp[fP,h] at hK
 have hp:0<l.length:=by have:=uS o;omega
 rw[hK] at a1
 have yO:lI o l=if l.any (oS 2) then (0,14) else if (2:Int)=2 then (tY o (l.getD 0 0) (l.getD (l.length - 1) 0),0) else (trE (sH o (l.getD 0 0) (l.getD (l.length - 1) 0)),0):=by
  unfold lI;rw[hK,if_neg (by omega),if_neg (by omega)]
 rw[yO]
 simp only[dI,dB] at a1 a2 a3 a4 a5
 have c2':=eq_true hl
 have zQ:jR 0 l.length=some 0:=by unfold jR;rw[if_pos ⟨by omega,by omega⟩];rfl
 have e0:(bQ l)[0]?=some [.int .i64 (l.getD 0 0)]:=cP (by rw[List.getD_eq_getElem?_getD,List.getElem?_eq_getElem hp];rfl)
 have hw1:IntKind.i64.wrap (eT o - 1)=eT o - 1:=by have:=uS o;rw[uM] <;> omega
 have hl2:jR (eT o - 1) l.length=some (l.length - 1):=by
  unfold jR
  rw[if_pos ⟨by omega,by omega⟩]
  congr 1;omega
 have e1:(bQ l)[l.length - 1]?=some [.int .i64 (l.getD (l.length - 1) 0)]:=cP (by rw[List.getD_eq_getElem?_getD,List.getElem?_eq_getElem (by omega)];rfl)
 refine bI Tryz.func148 rfl (by kernel_rfl) rfl rfl ?_
 refine bA (j7 @aB @aA @a1 @c2' @aS @aV @aZ) ?_
 apply WP.loop' (I:=fun D s=>∃ j:Nat,j+D=l.length∧(l.take j).all (fun d=> !oS 2 d)=true∧SE [(0,dI o),(1,dL (bQ l)),(6,dI 2),(7,dI (eT o)),(25,dL (bQ l)),(26,dI l.length),(27,dI j)] [] 0 s) (d:=l.length)
 ·exact ⟨0,by simp,by simp,SE.mk (by simp[dI,dL]) rfl⟩
 rintro D _ ⟨j,hj,cF,cc,rfl⟩
 refine wk (j3 @aB @aA @aZ) ?_
 show WP _ _ _ _ _ _
 refine WP.cond _ rfl (fun hb=>?_) (fun hb=>?_)
 ·simp at hb
  have bP:j<l.length:=by omega
  obtain ⟨d,hd,d8,bV⟩:=bM bP
  have cG:=cP hd
  have hw:=bE bP (by omega)
  have hs:=bZ (p:=fun d=> !oS 2 d) hd
  cases u:inW d
  ·have oV:oS 2 d=true:=by simp[oS,u]
   have ha:l.any (oS 2)=true:=List.any_eq_true.2 ⟨d,d8,oV⟩
   rw[ha]
   refine bA (j9 @aB @aA @aZ @bV @cG @aS @aV @a2 @u) ?_
   show a8 _ _ _ _ _
   exact ⟨.inr rfl,_,_,rfl,rfl⟩
  ·have oV:oS 2 d=false:=by simp[oS,u]
   refine bA (j9 @aB @aA @aZ @bV @cG @aS @aV @a2 @u) ?_
   refine aY (by simp[hw];exact Is.rfl) ?_
   exact ⟨D - 1,by omega,j+1,by omega,by rw[hs,cF,oV];rfl,SE.mk (by simp[dI,dL,hw]) rfl⟩
 ·simp at hb
  have eE:j=l.length:=by omega
  rw[eE,List.take_length] at cF
  have ha:l.any (oS 2)=false:=by
   rw[List.any_eq_false];intro t ht;simpa using List.all_eq_true.1 cF t ht
  rw[ha]
  refine bA (o9 @aB @aA @aZ @zQ @e0 @hw1 @hl2 @e1 @aS @aV @a3 @a4 @a5) ?_
  show a8 _ _ _ _ _
  exact ⟨.inr rfl,_,_,rfl,rfl⟩
set_option maxHeartbeats 2000000 in
theorem aVd (o:Int) (l:List Int) (hl:(l.length:Int)=eT o) (hK:fP o=3):eJ Tryz.prog Ob.cfg 148 [dI o,dL (bQ l)]=some (.tuple [dI (lI o l).1,dI (lI o l).2]):=by
 have a1:=jT o
 have a2:=aMq
 have a3:=uI
 have a4:=aAp
 have a5:=aAo
 have har:=oG o
 have c0:eT o≠0:=by intro h;simp[fP,h] at hK
 have hp:0<l.length:=by have:=uS o;omega
 rw[hK] at a1
 have yO:lI o l=if l.any (oS 3) then (0,14) else if (3:Int)=2 then (tY o (l.getD 0 0) (l.getD (l.length - 1) 0),0) else (trE (sH o (l.getD 0 0) (l.getD (l.length - 1) 0)),0):=by
  unfold lI;rw[hK,if_neg (by omega),if_neg (by omega)]
 rw[yO]
 simp only[dI,dB] at a1 a2 a3 a4 a5
 have c2':=eq_true hl
 have zQ:jR 0 l.length=some 0:=by unfold jR;rw[if_pos ⟨by omega,by omega⟩];rfl
 have e0:(bQ l)[0]?=some [.int .i64 (l.getD 0 0)]:=cP (by rw[List.getD_eq_getElem?_getD,List.getElem?_eq_getElem hp];rfl)
 have hw1:IntKind.i64.wrap (eT o - 1)=eT o - 1:=by have:=uS o;rw[uM] <;> omega
 have hl2:jR (eT o - 1) l.length=some (l.length - 1):=by
  unfold jR
  rw[if_pos ⟨by omega,by omega⟩]
  congr 1;omega
 have e1:(bQ l)[l.length - 1]?=some [.int .i64 (l.getD (l.length - 1) 0)]:=cP (by rw[List.getD_eq_getElem?_getD,List.getElem?_eq_getElem (by omega)];rfl)
 refine bI Tryz.func148 rfl (by kernel_rfl) rfl rfl ?_
 refine bA (j7 @aB @aA @a1 @c2' @aS @aV @aZ) ?_
 apply WP.loop' (I:=fun D s=>∃ j:Nat,j+D=l.length∧(l.take j).all (fun d=> !oS 3 d)=true∧SE [(0,dI o),(1,dL (bQ l)),(6,dI 3),(7,dI (eT o)),(25,dL (bQ l)),(26,dI l.length),(27,dI j)] [] 0 s) (d:=l.length)
 ·exact ⟨0,by simp,by simp,SE.mk (by simp[dI,dL]) rfl⟩
 rintro D _ ⟨j,hj,cF,cc,rfl⟩
 refine wk (j3 @aB @aA @aZ) ?_
 show WP _ _ _ _ _ _
 refine WP.cond _ rfl (fun hb=>?_) (fun hb=>?_)
 ·simp at hb
  have bP:j<l.length:=by omega
  obtain ⟨d,hd,d8,bV⟩:=bM bP
  have cG:=cP hd
  have hw:=bE bP (by omega)
  have hs:=bZ (p:=fun d=> !oS 3 d) hd
  have oV:oS 3 d=false:=rfl
  refine bA (j8 @aB @aA @aZ @bV @cG @aS @aV @a2) ?_
  refine aY (by simp[hw];exact Is.rfl) ?_
  exact ⟨D - 1,by omega,j+1,by omega,by rw[hs,cF,oV];rfl,SE.mk (by simp[dI,dL,hw]) rfl⟩
 ·simp at hb
  have eE:j=l.length:=by omega
  rw[eE,List.take_length] at cF
  have ha:l.any (oS 3)=false:=by
   rw[List.any_eq_false];intro t ht;simpa using List.all_eq_true.1 cF t ht
  rw[ha]
  refine bA (o9 @aB @aA @aZ @zQ @e0 @hw1 @hl2 @e1 @aS @aV @a3 @a4 @a5) ?_
  show a8 _ _ _ _ _
  exact ⟨.inr rfl,_,_,rfl,rfl⟩
set_option maxHeartbeats 2000000 in
theorem aUj (o:Int) (l:List Int) (hl:(l.length:Int)=eT o) (hK:fP o=4):eJ Tryz.prog Ob.cfg 148 [dI o,dL (bQ l)]=some (.tuple [dI (lI o l).1,dI (lI o l).2]):=by
 have a1:=jT o
 have a2:=aMq
 have a3:=uI
 have a4:=aAp
 have a5:=aAo
 have har:=oG o
 have c0:eT o≠0:=by intro h;simp[fP,h] at hK
 have hp:0<l.length:=by have:=uS o;omega
 rw[hK] at a1
 have yO:lI o l=if l.any (oS 4) then (0,14) else if (4:Int)=2 then (tY o (l.getD 0 0) (l.getD (l.length - 1) 0),0) else (trE (sH o (l.getD 0 0) (l.getD (l.length - 1) 0)),0):=by
  unfold lI;rw[hK,if_neg (by omega),if_neg (by omega)]
 rw[yO]
 simp only[dI,dB] at a1 a2 a3 a4 a5
 have c2':=eq_true hl
 have zQ:jR 0 l.length=some 0:=by unfold jR;rw[if_pos ⟨by omega,by omega⟩];rfl
 have e0:(bQ l)[0]?=some [.int .i64 (l.getD 0 0)]:=cP (by rw[List.getD_eq_getElem?_getD,List.getElem?_eq_getElem hp];rfl)
 have hw1:IntKind.i64.wrap (eT o - 1)=eT o - 1:=by have:=uS o;rw[uM] <;> omega
 have hl2:jR (eT o - 1) l.length=some (l.length - 1):=by
  unfold jR
  rw[if_pos ⟨by omega,by omega⟩]
  congr 1;omega
 have e1:(bQ l)[l.length - 1]?=some [.int .i64 (l.getD (l.length - 1) 0)]:=cP (by rw[List.getD_eq_getElem?_getD,List.getElem?_eq_getElem (by omega)];rfl)
 refine bI Tryz.func148 rfl (by kernel_rfl) rfl rfl ?_
 refine bA (j7 @aB @aA @a1 @c2' @aS @aV @aZ) ?_
 apply WP.loop' (I:=fun D s=>∃ j:Nat,j+D=l.length∧(l.take j).all (fun d=> !oS 4 d)=true∧SE [(0,dI o),(1,dL (bQ l)),(6,dI 4),(7,dI (eT o)),(25,dL (bQ l)),(26,dI l.length),(27,dI j)] [] 0 s) (d:=l.length)
 ·exact ⟨0,by simp,by simp,SE.mk (by simp[dI,dL]) rfl⟩
 rintro D _ ⟨j,hj,cF,cc,rfl⟩
 refine wk (j3 @aB @aA @aZ) ?_
 show WP _ _ _ _ _ _
 refine WP.cond _ rfl (fun hb=>?_) (fun hb=>?_)
 ·simp at hb
  have bP:j<l.length:=by omega
  obtain ⟨d,hd,d8,bV⟩:=bM bP
  have cG:=cP hd
  have hw:=bE bP (by omega)
  have hs:=bZ (p:=fun d=> !oS 4 d) hd
  cases u:inW d
  ·have oV:oS 4 d=true:=by simp[oS,u]
   have ha:l.any (oS 4)=true:=List.any_eq_true.2 ⟨d,d8,oV⟩
   rw[ha]
   refine bA (j9 @aB @aA @aZ @bV @cG @aS @aV @a2 @u) ?_
   show a8 _ _ _ _ _
   exact ⟨.inr rfl,_,_,rfl,rfl⟩
  ·have oV:oS 4 d=false:=by simp[oS,u]
   refine bA (j9 @aB @aA @aZ @bV @cG @aS @aV @a2 @u) ?_
   refine aY (by simp[hw];exact Is.rfl) ?_
   exact ⟨D - 1,by omega,j+1,by omega,by rw[hs,cF,oV];rfl,SE.mk (by simp[dI,dL,hw]) rfl⟩
 ·simp at hb
  have eE:j=l.length:=by omega
  rw[eE,List.take_length] at cF
  have ha:l.any (oS 4)=false:=by
   rw[List.any_eq_false];intro t ht;simpa using List.all_eq_true.1 cF t ht
  rw[ha]
  refine bA (o9 @aB @aA @aZ @zQ @e0 @hw1 @hl2 @e1 @aS @aV @a3 @a4 @a5) ?_
  show a8 _ _ _ _ _
  exact ⟨.inr rfl,_,_,rfl,rfl⟩
theorem aNz (o:Int) (l:List Int) (hM:l.length≤MX):eJ Tryz.prog Ob.cfg 148 [dI o,dL (bQ l)]=some (.tuple [dI (lI o l).1,dI (lI o l).2]):=by
 by_cases hg:eT o=0
 ·have a1:=jT o
  have hK:fP o=0:=by unfold fP;rw[if_pos hg]
  have yO:lI o l=(0,2):=by unfold lI;rw[hK,if_pos rfl]
  rw[hK] at a1
  rw[yO]
  simp only[dI] at a1
  refine bI Tryz.func148 rfl (by kernel_rfl) rfl rfl ?_
  refine bA (j4 @aB @aA @a1 @aS) ?_
  show a8 _ _ _ _ _
  exact ⟨.inr rfl,_,_,rfl,rfl⟩
 have hK:fP o=1∨fP o=2∨fP o=3∨fP o=4:=by
  unfold fP;rw[if_neg hg]
  cases qT o <;> cases qS o <;> cases t7 o <;> simp
 by_cases hl:(l.length:Int)=eT o
 ·rcases hK with h|h|h|h
  ·exact aTr o l hl h
  ·exact aUO o l hl h
  ·exact aVd o l hl h
  ·exact aUj o l hl h
 have a1:=jT o
 have yO:lI o l=(0,9):=by unfold lI;rw[if_neg (by omega),if_pos hl]
 rw[yO]
 have hl':=eq_false hl
 have hk':=eq_false (show ¬ fP o=0 by omega)
 simp only[dI] at a1
 refine bI Tryz.func148 rfl (by kernel_rfl) rfl rfl ?_
 refine bA (j8 @aB @aA @a1 @aS @aV @hk' @hl' @aZ) ?_
 show a8 _ _ _ _ _
 exact ⟨.inr rfl,_,_,rfl,rfl⟩
end Go.Ac
end
section
set_option maxRecDepth 4000
namespace Go.Ac
open Go.Proofs
theorem aPa (n:Int): -65536<n.tmod 65536∧n.tmod 65536<65536∧65536*(n.tdiv 65536)+n.tmod 65536=n:=by
 have h1:=Int.mul_tdiv_add_tmod n 65536
 have h2:(n.tmod 65536).natAbs=n.natAbs % 65536:=Int.natAbs_tmod n 65536
 have h3:n.natAbs % 65536<65536:=Nat.mod_lt _ (by omega)
 refine ⟨?_,?_,h1⟩ <;> omega
theorem aUW (r:Nat):Ob.keep 183 r=Ob.k183 r:=by kernel_rfl
theorem aTN (r:Nat):Ob.keep 169 r=Ob.k169 r:=by kernel_rfl
theorem aUX (r:Nat):Ob.keep 185 r=Ob.k185 r:=by kernel_rfl
theorem aTf (r:Nat):Ob.keep 186 r=Ob.k186 r:=by kernel_rfl
theorem aVJ (r:Nat):Ob.keep 187 r=Ob.k187 r:=by kernel_rfl
theorem aTu (r:Nat):Ob.keep 188 r=Ob.k188 r:=by kernel_rfl
theorem aSD (r:Nat):Ob.keep 189 r=Ob.k189 r:=by kernel_rfl
theorem aVE (r:Nat):Ob.keep 184 r=Ob.k184 r:=by kernel_rfl
theorem aSo (r:Nat):Ob.keep 170 r=Ob.k170 r:=by kernel_rfl
attribute [local simp] aUW Ob.k183 aTN Ob.k169 aUX Ob.k185 aTf Ob.k186 aVJ Ob.k187 aTu Ob.k188 aSD Ob.k189 aVE Ob.k184 aSo Ob.k170
theorem tR (n:Int):eJ Tryz.prog Ob.cfg 183 [dI n]=some (dI (wr n)):=by
 refine bI Tryz.func183 rfl (by kernel_rfl) rfl rfl ?_
 have hb0:=aPa n
 have h4:IntKind.i64.wrap (n.tmod 65536 - 65536)=n.tmod 65536 - 65536:=by rw[aEA] <;> omega
 have h5:IntKind.i64.wrap (n.tmod 65536+65536)=n.tmod 65536+65536:=by rw[aEA] <;> omega
 refine wk (@aB) ?_
 show WP _ _ _ _ _ _
 refine WP.cond _ rfl (fun hb=>?_) (fun hb=>?_)
 ·simp at hb
  refine wk (@h4) ?_
  have e:wr n=n.tmod 65536 - 65536:=by clear h4 h5;unfold wr;omega
  rw[e]
  exact ⟨.inr rfl,_,_,rfl,rfl⟩
 ·simp at hb
  refine wk True.intro ?_
  show WP _ _ _ _ _ _
  refine WP.cond _ rfl (fun hb=>?_) (fun hb=>?_)
  ·simp at hb
   refine wk (@h5) ?_
   have e:wr n=n.tmod 65536+65536:=by clear h4 h5;unfold wr;omega
   rw[e]
   exact ⟨.inr rfl,_,_,rfl,rfl⟩
  ·simp at hb
   refine wk True.intro ?_
   have e:wr n=n.tmod 65536:=by clear h4 h5;unfold wr;omega
   rw[e]
   exact ⟨.inr rfl,_,_,rfl,rfl⟩
theorem aOA (a:Int):eJ Tryz.prog Ob.cfg 169 [dI a]=some (dI (wr (-wr a))):=by
 have h1:=tR
 have h2:=pY a
 have h3:IntKind.i64.wrap (-wr a)= -wr a:=by rw[uM] <;> omega
 simp only[dI] at h1
 refine bI Tryz.func169 rfl (by kernel_rfl) rfl rfl ?_
 refine bA (j3 @aB @h1 @h3) ?_
 show a8 _ _ _ _ _
 exact ⟨.inr rfl,_,_,rfl,rfl⟩
theorem aPg (a b:Int):eJ Tryz.prog Ob.cfg 185 [dI a,dI b]=some (dI (wr (wr a+wr b))):=by
 have h1:=tR
 have h2:=pY a
 have h4:=pY b
 have h3:IntKind.i64.wrap (wr a+wr b)=wr a+wr b:=by rw[uM] <;> omega
 simp only[dI] at h1
 refine bI Tryz.func185 rfl (by kernel_rfl) rfl rfl ?_
 refine bA (j3 @aB @h1 @h3) ?_
 show a8 _ _ _ _ _
 exact ⟨.inr rfl,_,_,rfl,rfl⟩
theorem aOw (a b:Int):eJ Tryz.prog Ob.cfg 186 [dI a,dI b]=some (dI (wr (wr a - wr b))):=by
 have h1:=tR
 have h2:=pY a
 have h4:=pY b
 have h3:IntKind.i64.wrap (wr a - wr b)=wr a - wr b:=by rw[uM] <;> omega
 simp only[dI] at h1
 refine bI Tryz.func186 rfl (by kernel_rfl) rfl rfl ?_
 refine bA (j3 @aB @h1 @h3) ?_
 show a8 _ _ _ _ _
 exact ⟨.inr rfl,_,_,rfl,rfl⟩
theorem aOS (a b:Int):eJ Tryz.prog Ob.cfg 187 [dI a,dI b]=some (dI (wr (wr a*wr b))):=by
 have h1:=tR
 have h2:=aNf a b
 have h3:IntKind.i64.wrap (wr a*wr b)=wr a*wr b:=by rw[uM] <;> omega
 simp only[dI] at h1
 refine bI Tryz.func187 rfl (by kernel_rfl) rfl rfl ?_
 refine bA (j3 @aB @h1 @h3) ?_
 show a8 _ _ _ _ _
 exact ⟨.inr rfl,_,_,rfl,rfl⟩
theorem aOI (a b:Int):eJ Tryz.prog Ob.cfg 188 [dI a,dI b]=some (dI (aJl a b)):=by
 have h1:=tR
 have h2:=aKl a b
 have h3:IntKind.i64.wrap ((wr a).tdiv (wr b))=(wr a).tdiv (wr b):=by rw[uM] <;> omega
 simp only[dI] at h1
 refine bI Tryz.func188 rfl (by kernel_rfl) rfl rfl ?_
 unfold aJl
 by_cases q:wr b=0
 ·rw[if_pos q]
  refine bA (j4 @aB @h1 @aS @q) ?_
  show a8 _ _ _ _ _
  exact ⟨.inr rfl,_,_,rfl,rfl⟩
 ·rw[if_neg q]
  have q':=eq_false q
  refine bA (j5 @aB @h1 @aS @q' @h3) ?_
  show a8 _ _ _ _ _
  exact ⟨.inr rfl,_,_,rfl,rfl⟩
theorem aOD (a b:Int):eJ Tryz.prog Ob.cfg 189 [dI a,dI b]=some (dI (aIG a b)):=by
 have h1:=tR
 have h2:=aFW a b
 have h3:IntKind.i64.wrap ((wr a).tmod (wr b))=(wr a).tmod (wr b):=by rw[uM] <;> omega
 simp only[dI] at h1
 refine bI Tryz.func189 rfl (by kernel_rfl) rfl rfl ?_
 unfold aIG
 by_cases q:wr b=0
 ·rw[if_pos q]
  refine bA (j4 @aB @h1 @aS @q) ?_
  show a8 _ _ _ _ _
  exact ⟨.inr rfl,_,_,rfl,rfl⟩
 ·rw[if_neg q]
  have q':=eq_false q
  refine bA (j5 @aB @h1 @aS @q' @h3) ?_
  show a8 _ _ _ _ _
  exact ⟨.inr rfl,_,_,rfl,rfl⟩
theorem aOg (b:Bool):eJ Tryz.prog Ob.cfg 184 [dB b]=some (dI (trE b)):=by
 refine bI Tryz.func184 rfl (by kernel_rfl) rfl rfl ?_
 cases b
 ·rw[show trE false=0 from rfl]
  refine bA (jn @aB @aF) ?_
  show a8 _ _ _ _ _
  exact ⟨.inr rfl,_,_,rfl,rfl⟩
 ·rw[show trE true=1 from rfl]
  refine bA (jn @aB @aF) ?_
  show a8 _ _ _ _ _
  exact ⟨.inr rfl,_,_,rfl,rfl⟩
def aMV (o a b:Int):Int:=if fP o=2 then tY o a b else trE (sH o a b)
set_option maxHeartbeats 4000000 in
theorem aHz (o a b:Int) (h:3≤o∧o≤16) (hA:oS (fP o) a=false) (hB:oS (fP o) b=false):eJ Tryz.prog Ob.cfg 170 [dI o,dI a,dI b]=some (dI (aMV o a b)):=by
 have e2:=aPg a b
 have e3:=aOw a b
 have e4:=aOS a b
 have e5:=aOI a b
 have e6:=aOD a b
 have e7:=aOg
 simp only[dI,dB] at e2 e3 e4 e5 e6 e7
 have bl:∀ v,oS 1 v=false→v=0∨v=1:=fun v hv=>by simp[oS] at hv;omega
 refine bI Tryz.func170 rfl (by kernel_rfl) rfl rfl ?_
 obtain rfl|rfl|rfl|rfl|rfl|rfl|rfl|rfl|rfl|rfl|rfl|rfl|rfl|rfl:o=3∨o=4∨o=5∨o=6∨o=7∨o=8∨o=9∨o=10∨o=11∨o=12∨o=13∨o=14∨o=15∨o=16:=by omega
 case inl=>
  rcases bl a hA with rfl|rfl <;> rcases bl b hB with rfl|rfl
  all_goals
   refine bA (jn @aB @e7) ?_
   show a8 _ _ _ _ _
   exact ⟨.inr rfl,_,_,rfl,rfl⟩
 case inr.inl=>
  rcases bl a hA with rfl|rfl <;> rcases bl b hB with rfl|rfl
  all_goals
   refine bA (jn @aB @e7) ?_
   show a8 _ _ _ _ _
   exact ⟨.inr rfl,_,_,rfl,rfl⟩
 case inr.inr.inl=>
  rcases bl a hA with rfl|rfl <;> rcases bl b hB with rfl|rfl
  all_goals
   refine bA (jn @aB @e7) ?_
   show a8 _ _ _ _ _
   exact ⟨.inr rfl,_,_,rfl,rfl⟩
 all_goals
  refine bA (j9 @aB @e2 @e3 @e4 @e5 @e6 @e7 @aV @aS) ?_
  show a8 _ _ _ _ _
  exact ⟨.inr rfl,_,_,rfl,by first|rfl|(simp[aMV,fP,eT,qT,qS,t7,sH,tY];rfl)|simp[aMV,fP,eT,qT,qS,t7,sH,tY,dI]⟩
end Go.Ac
end
