/- Forms of expressions: the reference's. -/
import Derived.Test.YtkgekafdhehleaaGreatObMM
set_option linter.unusedVariables false
set_option linter.unusedSimpArgs false
section
set_option maxRecDepth 4000
namespace Go.Ac
open Go.Proofs
def cN (x:X):Bool:=decide (x.k=0)&&decide (x.o=0)&&decide (x.t=0)&&decide (x.v=0)&&decide (x.nm=[])&&decide (x.args=[])
theorem bH {α:Type} (l:List α):((l.length:Int)=0)=(l=[]):=by cases l <;> simp;omega
theorem gY {p:Prop} [Decidable p] (h:¬ p):decide p=false:=decide_eq_false h
theorem jT {p:Prop} [Decidable p] (h:p):decide p=true:=decide_eq_true h
theorem aRT (r:Nat):Ob.keep 142 r=Ob.k142 r:=by kernel_rfl
theorem aTP (r:Nat):Ob.keep 160 r=Ob.k160 r:=by kernel_rfl
theorem aUk (r:Nat):Ob.keep 167 r=Ob.k167 r:=by kernel_rfl
theorem aUn (r:Nat):Ob.keep 168 r=Ob.k168 r:=by kernel_rfl
theorem aST (r:Nat):Ob.keep 176 r=Ob.k176 r:=by kernel_rfl
attribute [local simp] aRT Ob.k142 aTP Ob.k160 aUk Ob.k167 aUn Ob.k168 aST Ob.k176
set_option maxHeartbeats 1000000 in
theorem aET (x:X):d7 Tryz.prog Ob.cfg 142 [aG x.cells]=some (dB (cN x)):=by
 refine bF Tryz.func142 rfl (by kernel_rfl) rfl rfl ?_
 unfold cN
 rw[aE]
 by_cases c0:x.k=0
 case neg=>
  have c':=eq_false c0
  rw[gY c0]
  refine a9 (j5 @aD @aS @bE @bH @c') ?_
  exact ⟨.inr rfl,_,_,rfl,by simp;rfl⟩
 by_cases c1:x.o=0
 case neg=>
  have c':=eq_false c1
  rw[gY c1]
  refine a9 (j6 @aD @aS @bE @bH @c0 @c') ?_
  exact ⟨.inr rfl,_,_,rfl,by simp;rfl⟩
 by_cases c2:x.t=0
 case neg=>
  have c':=eq_false c2
  rw[gY c2]
  refine a9 (j7 @aD @aS @bE @bH @c0 @c1 @c') ?_
  exact ⟨.inr rfl,_,_,rfl,by simp;rfl⟩
 by_cases c3:x.v=0
 case neg=>
  have c':=eq_false c3
  rw[gY c3]
  refine a9 (j8 @aD @aS @bE @bH @c0 @c1 @c2 @c') ?_
  exact ⟨.inr rfl,_,_,rfl,by simp;rfl⟩
 by_cases c4:x.nm=[]
 case neg=>
  have c':=eq_false c4
  rw[gY c4]
  refine a9 (j9 @aD @aS @bE @bH @c0 @c1 @c2 @c3 @c') ?_
  exact ⟨.inr rfl,_,_,rfl,by simp;rfl⟩
 by_cases c5:x.args=[]
 case neg=>
  have c':=eq_false c5
  rw[gY c5]
  refine a9 (nW @aD @aS @bE @bH @c0 @c1 @c2 @c3 @c4 @c') ?_
  exact ⟨.inr rfl,_,_,rfl,by simp;rfl⟩
 refine a9 (nW @aD @aS @bE @bH @c0 @c1 @c2 @c3 @c4 @c5) ?_
 exact ⟨.inr rfl,_,_,rfl,by simp[c0,c1,c2,c3,c4,c5];rfl⟩
def qQ (o:Int):Bool:=decide (o=1∨o=3∨o=4∨o=5)
theorem aDp (o:Int):d7 Tryz.prog Ob.cfg 167 [dI o]=some (dB (qQ o)):=by
 refine bF Tryz.func167 rfl (by kernel_rfl) rfl rfl ?_
 unfold qQ
 by_cases c0:o=1
 ·rw[jT (by simp[c0])]
  refine a9 (j3 @aB @aS @c0) ?_
  show a7 _ _ _ _ _
  exact ⟨.inr rfl,_,_,rfl,rfl⟩
 by_cases c1:o=3
 ·rw[jT (by simp[c1])]
  refine a9 (j4 @aB @aS @c0 @c1) ?_
  show a7 _ _ _ _ _
  exact ⟨.inr rfl,_,_,rfl,rfl⟩
 by_cases c2:o=4
 ·rw[jT (by simp[c2])]
  refine a9 (j5 @aB @aS @c0 @c1 @c2) ?_
  show a7 _ _ _ _ _
  exact ⟨.inr rfl,_,_,rfl,rfl⟩
 by_cases c3:o=5
 ·rw[jT (by simp[c3])]
  refine a9 (j6 @aB @aS @c0 @c1 @c2 @c3) ?_
  show a7 _ _ _ _ _
  exact ⟨.inr rfl,_,_,rfl,rfl⟩
 rw[gY (by simp[c0,c1,c2,c3])]
 refine a9 (j6 @aB @aS @c0 @c1 @c2 @c3) ?_
 show a7 _ _ _ _ _
 exact ⟨.inr rfl,_,_,rfl,rfl⟩
def tB (o:Int):Bool:=decide (o=11∨o=12)
theorem aDw (o:Int):d7 Tryz.prog Ob.cfg 168 [dI o]=some (dB (tB o)):=by
 refine bF Tryz.func168 rfl (by kernel_rfl) rfl rfl ?_
 unfold tB
 by_cases c0:o=11
 ·rw[jT (by simp[c0])]
  refine a9 (j3 @aB @aS @c0) ?_
  show a7 _ _ _ _ _
  exact ⟨.inr rfl,_,_,rfl,rfl⟩
 by_cases c1:o=12
 ·rw[jT (by simp[c1])]
  refine a9 (j4 @aB @aS @c0 @c1) ?_
  show a7 _ _ _ _ _
  exact ⟨.inr rfl,_,_,rfl,rfl⟩
 rw[gY (by simp[c0,c1])]
 refine a9 (j4 @aB @aS @c0 @c1) ?_
 show a7 _ _ _ _ _
 exact ⟨.inr rfl,_,_,rfl,rfl⟩
def qN (o:Int):Bool:=decide (o=2∨(6≤o∧o≤10))
theorem aES (o:Int):d7 Tryz.prog Ob.cfg 176 [dI o]=some (dB (qN o)):=by
 refine bF Tryz.func176 rfl (by kernel_rfl) rfl rfl ?_
 unfold qN
 by_cases c0:o=2
 ·rw[jT (by simp[c0])]
  refine a9 (j3 @aB @aS @c0) ?_
  show a7 _ _ _ _ _
  exact ⟨.inr rfl,_,_,rfl,rfl⟩
 by_cases c1:6≤o
 ·have c1':=eq_true c1
  by_cases c2:o≤10
  ·have c2':=eq_true c2
   rw[jT (by simp[c1,c2])]
   refine a9 (j5 @aB @aS @c0 @c1' @c2') ?_
   show a7 _ _ _ _ _
   exact ⟨.inr rfl,_,_,rfl,rfl⟩
  ·have c2':=eq_false c2
   rw[gY (by simp[c0,c2])]
   refine a9 (j5 @aB @aS @c0 @c1' @c2') ?_
   show a7 _ _ _ _ _
   exact ⟨.inr rfl,_,_,rfl,rfl⟩
 ·have c1':=eq_false c1
  rw[gY (by simp[c0,c1])]
  refine a9 (j4 @aB @aS @c0 @c1') ?_
  show a7 _ _ _ _ _
  exact ⟨.inr rfl,_,_,rfl,rfl⟩
def tH (o:Int) (l:List Int):Int:=if tB o then l.headD 0 else if qQ o then 1 else 2
def jC (o:Int) (l:List Int):Int×Int:=if eN o=0 then (0,2) else if (l.length:Int)≠eN o then (0,9) else if tH o l<1 then (0,10) else if l.any (fun t=> !decide (t=tH o l)) then (0,10) else if qN o then (2,0) else (1,0)
theorem xF {o:Int} {l:List Int} (h1:eN o≠0) (h2:(l.length:Int)=eN o) (h3:¬ tH o l<1):jC o l=if l.any (fun t=> !decide (t=tH o l)) then (0,10) else if qN o then (2,0) else (1,0):=by
 unfold jC;rw[if_neg h1,if_neg (by omega),if_neg h3]
theorem nQ (o:Int):eN o≤2:=by unfold eN;split;omega;split <;> omega
set_option maxHeartbeats 2000000 in
theorem aCQ (o:Int) (l:List Int) (y0:Int) (hy:l.head?=some y0) (c1:eN o≠0) (c2:(l.length:Int)=eN o) (hb:qQ o=true) (hq:tB o=true):d7 Tryz.prog Ob.cfg 160 [dI o,dL (bX l)]=some (.tuple [dI (jC o l).1,dI (jC o l).2]):=by
 have a1:=aBN o
 have a2:=aDp o
 have a3:=aDw o
 have a4:=aES o
 rw[hb] at a2
 rw[hq] at a3
 simp only[dI,dB] at a1 a2 a3 a4
 have har:=nQ o
 have c1':=eq_false c1
 have c2':=eq_true c2
 have hp:0<l.length:=by cases l with
  | nil=>simp at hy
  | cons a r=>simp
 have yT:jQ 0 l.length=some 0:=by unfold jQ;rw[if_pos ⟨by omega,by omega⟩];rfl
 have e0:(bX l)[0]?=some [.int .i64 y0]:=c9 (by rw[←List.head?_eq_getElem?];exact hy)
 have hu:tH o l=y0:=by cases l with
  | nil=>simp at hy
  | cons a r=>simp at hy;subst hy;simp[tH,hb,hq]
 refine bF Tryz.func160 rfl (by kernel_rfl) rfl rfl ?_
 by_cases c3:y0<1
 ·have c3':=eq_true c3
  have hr:jC o l=(0,10):=by unfold jC;rw[if_neg c1,if_neg (by omega),hu,if_pos c3]
  rw[hr]
  refine a9 (oY @aB @aA @a1 @a2 @a3 @c1' @c2' @aS @aV @aZ @e0 @yT @c3') ?_
  exact ⟨.inr rfl,_,_,rfl,rfl⟩
 have c3':=eq_false c3
 have hr:=xF c1 c2 (by rw[hu];exact c3)
 rw[hu] at hr
 rw[hr]
 refine a9 (oY @aB @aA @a1 @a2 @a3 @c1' @c2' @aS @aV @aZ @e0 @yT @c3') ?_
 apply WP.loop' (I:=fun D s=>∃ j:Nat,j+D=l.length∧(l.take j).all (fun t=>decide (t=y0))=true∧SE [(0,dI o),(1,dL (bX l)),(6,dI y0),(7,dI j)] [] 0 s) (d:=l.length)
 ·exact ⟨0,by simp,by simp,SE.mk (by simp[dI,dL]) rfl⟩
 rintro D _ ⟨j,hj,cD,cc,rfl⟩
 refine wk (j3 @aB @aA @aZ) ?_
 show WP _ _ _ _ _ _
 refine WP.cond _ rfl (fun hb=>?_) (fun hb=>?_)
 ·simp at hb
  have bR:j<l.length:=by omega
  obtain ⟨d,hd,d9,bS⟩:=bL bR
  have cF:=c9 hd
  have hw:=bG bR (by omega)
  have hs:=bZ (p:=fun t:Int=>decide (t=y0)) hd
  by_cases hq:d=y0
  ·have gQ:=eq_true hq
   refine a9 (j7 @aB @aA @aZ @bS @cF @aV @gQ) ?_
   refine aY (by simp[hw];exact Is.rfl) ?_
   exact ⟨D - 1,by omega,j+1,by omega,by rw[hs,cD,jT hq];rfl,SE.mk (by simp[dI,dL,hw]) rfl⟩
  ·have gQ:=eq_false hq
   have ha:l.any (fun t=> !decide (t=y0))=true:=List.any_eq_true.2 ⟨d,d9,by simp[hq]⟩
   rw[ha]
   refine a9 (j7 @aB @aA @aZ @bS @cF @aV @gQ) ?_
   exact ⟨.inr rfl,_,_,rfl,rfl⟩
 ·simp at hb
  have eM:j=l.length:=by omega
  rw[eM,List.take_length] at cD
  have ha:l.any (fun t=> !decide (t=y0))=false:=by
   rw[List.any_eq_false];intro t ht;simpa using List.all_eq_true.1 cD t ht
  rw[ha]
  cases hz:qN o with
  | true=>
   rw[hz] at a4
   refine a9 (j3 @aB @aA @a4) ?_
   exact ⟨.inr rfl,_,_,rfl,rfl⟩
  | false=>
   rw[hz] at a4
   refine a9 (j3 @aB @aA @a4) ?_
   exact ⟨.inr rfl,_,_,rfl,rfl⟩
set_option maxHeartbeats 2000000 in
theorem aBQ (o:Int) (l:List Int) (y0:Int) (hy:l.head?=some y0) (c1:eN o≠0) (c2:(l.length:Int)=eN o) (hb:qQ o=true) (hq:tB o=false):d7 Tryz.prog Ob.cfg 160 [dI o,dL (bX l)]=some (.tuple [dI (jC o l).1,dI (jC o l).2]):=by
 have a1:=aBN o
 have a2:=aDp o
 have a3:=aDw o
 have a4:=aES o
 rw[hb] at a2
 rw[hq] at a3
 simp only[dI,dB] at a1 a2 a3 a4
 have har:=nQ o
 have c1':=eq_false c1
 have c2':=eq_true c2
 have hp:0<l.length:=by cases l with
  | nil=>simp at hy
  | cons a r=>simp
 have yT:jQ 0 l.length=some 0:=by unfold jQ;rw[if_pos ⟨by omega,by omega⟩];rfl
 have e0:(bX l)[0]?=some [.int .i64 y0]:=c9 (by rw[←List.head?_eq_getElem?];exact hy)
 have hu:tH o l=1:=by cases l with
  | nil=>simp at hy
  | cons a r=>simp at hy;subst hy;simp[tH,hb,hq]
 refine bF Tryz.func160 rfl (by kernel_rfl) rfl rfl ?_
 have c3:¬ ((1:Int)<1):=by omega
 have hr:=xF c1 c2 (by rw[hu];exact c3)
 rw[hu] at hr
 rw[hr]
 refine a9 (tS @aB @aA @a1 @a2 @a3 @c1' @c2' @aS @aV @aZ @e0 @yT) ?_
 apply WP.loop' (I:=fun D s=>∃ j:Nat,j+D=l.length∧(l.take j).all (fun t=>decide (t=1))=true∧SE [(0,dI o),(1,dL (bX l)),(6,dI 1),(7,dI j)] [] 0 s) (d:=l.length)
 ·exact ⟨0,by simp,by simp,SE.mk (by simp[dI,dL]) rfl⟩
 rintro D _ ⟨j,hj,cD,cc,rfl⟩
 refine wk (j3 @aB @aA @aZ) ?_
 show WP _ _ _ _ _ _
 refine WP.cond _ rfl (fun hb=>?_) (fun hb=>?_)
 ·simp at hb
  have bR:j<l.length:=by omega
  obtain ⟨d,hd,d9,bS⟩:=bL bR
  have cF:=c9 hd
  have hw:=bG bR (by omega)
  have hs:=bZ (p:=fun t:Int=>decide (t=1)) hd
  by_cases hq:d=1
  ·have gQ:=eq_true hq
   refine a9 (j7 @aB @aA @aZ @bS @cF @aV @gQ) ?_
   refine aY (by simp[hw];exact Is.rfl) ?_
   exact ⟨D - 1,by omega,j+1,by omega,by rw[hs,cD,jT hq];rfl,SE.mk (by simp[dI,dL,hw]) rfl⟩
  ·have gQ:=eq_false hq
   have ha:l.any (fun t=> !decide (t=1))=true:=List.any_eq_true.2 ⟨d,d9,by simp[hq]⟩
   rw[ha]
   refine a9 (j7 @aB @aA @aZ @bS @cF @aV @gQ) ?_
   exact ⟨.inr rfl,_,_,rfl,rfl⟩
 ·simp at hb
  have eM:j=l.length:=by omega
  rw[eM,List.take_length] at cD
  have ha:l.any (fun t=> !decide (t=1))=false:=by
   rw[List.any_eq_false];intro t ht;simpa using List.all_eq_true.1 cD t ht
  rw[ha]
  cases hz:qN o with
  | true=>
   rw[hz] at a4
   refine a9 (j3 @aB @aA @a4) ?_
   exact ⟨.inr rfl,_,_,rfl,rfl⟩
  | false=>
   rw[hz] at a4
   refine a9 (j3 @aB @aA @a4) ?_
   exact ⟨.inr rfl,_,_,rfl,rfl⟩
set_option maxHeartbeats 2000000 in
theorem aBP (o:Int) (l:List Int) (y0:Int) (hy:l.head?=some y0) (c1:eN o≠0) (c2:(l.length:Int)=eN o) (hb:qQ o=false) (hq:tB o=true):d7 Tryz.prog Ob.cfg 160 [dI o,dL (bX l)]=some (.tuple [dI (jC o l).1,dI (jC o l).2]):=by
 have a1:=aBN o
 have a2:=aDp o
 have a3:=aDw o
 have a4:=aES o
 rw[hb] at a2
 rw[hq] at a3
 simp only[dI,dB] at a1 a2 a3 a4
 have har:=nQ o
 have c1':=eq_false c1
 have c2':=eq_true c2
 have hp:0<l.length:=by cases l with
  | nil=>simp at hy
  | cons a r=>simp
 have yT:jQ 0 l.length=some 0:=by unfold jQ;rw[if_pos ⟨by omega,by omega⟩];rfl
 have e0:(bX l)[0]?=some [.int .i64 y0]:=c9 (by rw[←List.head?_eq_getElem?];exact hy)
 have hu:tH o l=y0:=by cases l with
  | nil=>simp at hy
  | cons a r=>simp at hy;subst hy;simp[tH,hb,hq]
 refine bF Tryz.func160 rfl (by kernel_rfl) rfl rfl ?_
 by_cases c3:y0<1
 ·have c3':=eq_true c3
  have hr:jC o l=(0,10):=by unfold jC;rw[if_neg c1,if_neg (by omega),hu,if_pos c3]
  rw[hr]
  refine a9 (oY @aB @aA @a1 @a2 @a3 @c1' @c2' @aS @aV @aZ @e0 @yT @c3') ?_
  exact ⟨.inr rfl,_,_,rfl,rfl⟩
 have c3':=eq_false c3
 have hr:=xF c1 c2 (by rw[hu];exact c3)
 rw[hu] at hr
 rw[hr]
 refine a9 (oY @aB @aA @a1 @a2 @a3 @c1' @c2' @aS @aV @aZ @e0 @yT @c3') ?_
 apply WP.loop' (I:=fun D s=>∃ j:Nat,j+D=l.length∧(l.take j).all (fun t=>decide (t=y0))=true∧SE [(0,dI o),(1,dL (bX l)),(6,dI y0),(7,dI j)] [] 0 s) (d:=l.length)
 ·exact ⟨0,by simp,by simp,SE.mk (by simp[dI,dL]) rfl⟩
 rintro D _ ⟨j,hj,cD,cc,rfl⟩
 refine wk (j3 @aB @aA @aZ) ?_
 show WP _ _ _ _ _ _
 refine WP.cond _ rfl (fun hb=>?_) (fun hb=>?_)
 ·simp at hb
  have bR:j<l.length:=by omega
  obtain ⟨d,hd,d9,bS⟩:=bL bR
  have cF:=c9 hd
  have hw:=bG bR (by omega)
  have hs:=bZ (p:=fun t:Int=>decide (t=y0)) hd
  by_cases hq:d=y0
  ·have gQ:=eq_true hq
   refine a9 (j7 @aB @aA @aZ @bS @cF @aV @gQ) ?_
   refine aY (by simp[hw];exact Is.rfl) ?_
   exact ⟨D - 1,by omega,j+1,by omega,by rw[hs,cD,jT hq];rfl,SE.mk (by simp[dI,dL,hw]) rfl⟩
  ·have gQ:=eq_false hq
   have ha:l.any (fun t=> !decide (t=y0))=true:=List.any_eq_true.2 ⟨d,d9,by simp[hq]⟩
   rw[ha]
   refine a9 (j7 @aB @aA @aZ @bS @cF @aV @gQ) ?_
   exact ⟨.inr rfl,_,_,rfl,rfl⟩
 ·simp at hb
  have eM:j=l.length:=by omega
  rw[eM,List.take_length] at cD
  have ha:l.any (fun t=> !decide (t=y0))=false:=by
   rw[List.any_eq_false];intro t ht;simpa using List.all_eq_true.1 cD t ht
  rw[ha]
  cases hz:qN o with
  | true=>
   rw[hz] at a4
   refine a9 (j3 @aB @aA @a4) ?_
   exact ⟨.inr rfl,_,_,rfl,rfl⟩
  | false=>
   rw[hz] at a4
   refine a9 (j3 @aB @aA @a4) ?_
   exact ⟨.inr rfl,_,_,rfl,rfl⟩
set_option maxHeartbeats 2000000 in
theorem aBd (o:Int) (l:List Int) (y0:Int) (hy:l.head?=some y0) (c1:eN o≠0) (c2:(l.length:Int)=eN o) (hb:qQ o=false) (hq:tB o=false):d7 Tryz.prog Ob.cfg 160 [dI o,dL (bX l)]=some (.tuple [dI (jC o l).1,dI (jC o l).2]):=by
 have a1:=aBN o
 have a2:=aDp o
 have a3:=aDw o
 have a4:=aES o
 rw[hb] at a2
 rw[hq] at a3
 simp only[dI,dB] at a1 a2 a3 a4
 have har:=nQ o
 have c1':=eq_false c1
 have c2':=eq_true c2
 have hp:0<l.length:=by cases l with
  | nil=>simp at hy
  | cons a r=>simp
 have yT:jQ 0 l.length=some 0:=by unfold jQ;rw[if_pos ⟨by omega,by omega⟩];rfl
 have e0:(bX l)[0]?=some [.int .i64 y0]:=c9 (by rw[←List.head?_eq_getElem?];exact hy)
 have hu:tH o l=2:=by cases l with
  | nil=>simp at hy
  | cons a r=>simp at hy;subst hy;simp[tH,hb,hq]
 refine bF Tryz.func160 rfl (by kernel_rfl) rfl rfl ?_
 have c3:¬ ((2:Int)<1):=by omega
 have hr:=xF c1 c2 (by rw[hu];exact c3)
 rw[hu] at hr
 rw[hr]
 refine a9 (tS @aB @aA @a1 @a2 @a3 @c1' @c2' @aS @aV @aZ @e0 @yT) ?_
 apply WP.loop' (I:=fun D s=>∃ j:Nat,j+D=l.length∧(l.take j).all (fun t=>decide (t=2))=true∧SE [(0,dI o),(1,dL (bX l)),(6,dI 2),(7,dI j)] [] 0 s) (d:=l.length)
 ·exact ⟨0,by simp,by simp,SE.mk (by simp[dI,dL]) rfl⟩
 rintro D _ ⟨j,hj,cD,cc,rfl⟩
 refine wk (j3 @aB @aA @aZ) ?_
 show WP _ _ _ _ _ _
 refine WP.cond _ rfl (fun hb=>?_) (fun hb=>?_)
 ·simp at hb
  have bR:j<l.length:=by omega
  obtain ⟨d,hd,d9,bS⟩:=bL bR
  have cF:=c9 hd
  have hw:=bG bR (by omega)
  have hs:=bZ (p:=fun t:Int=>decide (t=2)) hd
  by_cases hq:d=2
  ·have gQ:=eq_true hq
   refine a9 (j7 @aB @aA @aZ @bS @cF @aV @gQ) ?_
   refine aY (by simp[hw];exact Is.rfl) ?_
   exact ⟨D - 1,by omega,j+1,by omega,by rw[hs,cD,jT hq];rfl,SE.mk (by simp[dI,dL,hw]) rfl⟩
  ·have gQ:=eq_false hq
   have ha:l.any (fun t=> !decide (t=2))=true:=List.any_eq_true.2 ⟨d,d9,by simp[hq]⟩
   rw[ha]
   refine a9 (j7 @aB @aA @aZ @bS @cF @aV @gQ) ?_
   exact ⟨.inr rfl,_,_,rfl,rfl⟩
 ·simp at hb
  have eM:j=l.length:=by omega
  rw[eM,List.take_length] at cD
  have ha:l.any (fun t=> !decide (t=2))=false:=by
   rw[List.any_eq_false];intro t ht;simpa using List.all_eq_true.1 cD t ht
  rw[ha]
  cases hz:qN o with
  | true=>
   rw[hz] at a4
   refine a9 (j3 @aB @aA @a4) ?_
   exact ⟨.inr rfl,_,_,rfl,rfl⟩
  | false=>
   rw[hz] at a4
   refine a9 (j3 @aB @aA @a4) ?_
   exact ⟨.inr rfl,_,_,rfl,rfl⟩
set_option maxHeartbeats 1000000 in
theorem aPP (o:Int) (l:List Int):d7 Tryz.prog Ob.cfg 160 [dI o,dL (bX l)]=some (.tuple [dI (jC o l).1,dI (jC o l).2]):=by
 by_cases c1:eN o=0
 ·have a1:=aBN o
  simp only[dI] at a1
  refine bF Tryz.func160 rfl (by kernel_rfl) rfl rfl ?_
  have hr:jC o l=(0,2):=by unfold jC;rw[if_pos c1]
  rw[hr]
  rw[c1] at a1
  refine a9 (j3 @aB @aA @a1) ?_
  exact ⟨.inr rfl,_,_,rfl,rfl⟩
 by_cases c2:(l.length:Int)=eN o
 case neg=>
  have a1:=aBN o
  simp only[dI] at a1
  refine bF Tryz.func160 rfl (by kernel_rfl) rfl rfl ?_
  have c1':=eq_false c1
  have hr:jC o l=(0,9):=by unfold jC;rw[if_neg c1,if_pos c2]
  have c2':=eq_false c2
  rw[hr]
  refine a9 (j8 @aB @aA @a1 @c1' @c2' @aS @aV @aZ) ?_
  exact ⟨.inr rfl,_,_,rfl,rfl⟩
 obtain ⟨y0,hy⟩:∃ y0,l.head?=some y0:=by
  cases l with
  | nil=>unfold eN at c1 c2;simp at c2;omega
  | cons a r=>exact ⟨a,rfl⟩
 cases hb:qQ o <;> cases hq:tB o
 ·exact aBd o l y0 hy c1 c2 hb hq
 ·exact aBP o l y0 hy c1 c2 hb hq
 ·exact aBQ o l y0 hy c1 c2 hb hq
 ·exact aCQ o l y0 hy c1 c2 hb hq
end Go.Ac
end
section
set_option maxRecDepth 4000
namespace Go.Ac
open Go.Proofs
def cC (k o t v:Int) (nm:Tx):Option Int:=
 if k=1 then (if nm=[]∧o=0 then some 0 else none)
 else if k=2∨k=12 then (if t=0∧v=0∧o=0 then some 0 else none)
 else if k=3 then (if eN o≠0∧t=0∧v=0∧nm=[] then some (eN o) else none)
 else if k=4 then (if t=0∧v=0∧o=0∧nm=[] then some 3 else none) else none
mutual
def bQ:X→Bool
 | .mk k o t v nm args=>match cC k o t v nm with
  | none=>false
  | some n=>decide ((args.length:Int)=n)&&aEf args
def aEf:List X→Bool
 | []=>true
 | x::r=>bQ x&&aEf r
end
theorem bU (x:X):bQ x=match cC x.k x.o x.t x.v x.nm with
  | none=>false
  | some n=>decide ((x.args.length:Int)=n)&&aEf x.args:=by cases x;rw[bQ];rfl
theorem bO:∀ l:List X,aEf l=l.all bQ
 | []=>by rw[aEf];rfl
 | x::r=>by rw[aEf,bO r];rfl
theorem dF {x:X} (h:cC x.k x.o x.t x.v x.nm=none):bQ x=false:=by rw[bU,h]
theorem rB {x:X} {n:Int} (h:cC x.k x.o x.t x.v x.nm=some n):bQ x=(decide ((x.args.length:Int)=n)&&x.args.all bQ):=by rw[bU,h,bO]
theorem uH (o:Int):0≤eN o:=by unfold eN;split;omega;split <;> omega
theorem aTH (r:Nat):Ob.keep 143 r=Ob.k143 r:=by kernel_rfl
attribute [local simp] aTH Ob.k143
def aBi (N:Nat):Prop:=∀ x:X,x.sz<N→x.sz≤MX→d7 Tryz.prog Ob.cfg 143 [aG x.cells]=some (dB (bQ x))
set_option maxHeartbeats 2000000 in
theorem aQP {N:Nat} (ih:aBi N) (x:X) (hN:x.sz<N+1) (hM:x.sz≤MX) (q:x.k=1):d7 Tryz.prog Ob.cfg 143 [aG x.cells]=some (dB (bQ x)):=by
 unfold MX at hM
 have hs0:=X.sz_eq x
 have k1:=gK x.args
 refine bF Tryz.func143 rfl (by kernel_rfl) rfl rfl ?_
 by_cases c1:x.nm=[]
 case neg=>
  rw[dF (by simp[cC,q,c1])]
  have e':=eq_false c1
  refine a9 (uQ @aD @aE @aA @aF @aS @aV @bE @f7 @aT @q @e') ?_
  show a7 _ _ _ _ _
  exact ⟨.inr rfl,_,_,rfl,rfl⟩
 by_cases c2:x.o=0
 case neg=>
  rw[dF (by simp[cC,q,c1,c2])]
  have e':=eq_false c2
  refine a9 (tS @aD @aE @aA @aF @aS @aV @bE @f7 @aT @q @c1 @e') ?_
  show a7 _ _ _ _ _
  exact ⟨.inr rfl,_,_,rfl,rfl⟩
 have hf:=rB (x:=x) (n:=0) (by simp[cC,q,c1,c2])
 rw[hf]
 by_cases hl:(x.args.length:Int)=0
 case neg=>
  rw[gY hl]
  have e':=eq_false hl
  have e2:=(bH x.args).symm.trans e'
  refine a9 (uV @aD @aE @aA @aF @aS @aV @bE @f7 @aT @q @c1 @c2 @bH @e' @e2) ?_
  show a7 _ _ _ _ _
  exact ⟨.inr rfl,_,_,rfl,rfl⟩
 rw[jT hl]
 have e':=eq_true hl
 have e2:=(bH x.args).symm.trans e'
 refine a9 (uV @aD @aE @aA @aF @aS @aV @bE @f7 @aT @q @c1 @c2 @bH @e' @e2) ?_
 apply WP.loop' (I:=fun D s=>∃ j:Nat,j+D=x.args.length∧(x.args.take j).all bQ=true∧SE [(1,.ptr 0 0 0),(4,dI j)] [(0,⟨0,false,x.cells.map .d⟩)] 1 s) (d:=x.args.length)
 ·exact ⟨0,by simp,by simp,SE.mk (by simp[dI]) (by simp[aE,q,c1,c2])⟩
 rintro D _ ⟨j,hj,cD,cc,rfl⟩
 refine wk (j4 @aB @aA @aE @aT) ?_
 show WP _ _ _ _ _ _
 refine WP.cond _ rfl (fun hb=>?_) (fun hb=>?_)
 ·simp at hb
  have bR:j<x.args.length:=by omega
  obtain ⟨d,hd,d9,bS⟩:=bL bR
  have cF:=iQ hd
  have hw:=bG bR (by omega)
  have hs:=bZ (p:=bQ) hd
  have hr:=ih d (by have:=dX d9;omega) (by have:=dX d9;unfold MX;omega)
  simp only[aG,aE,List.map_cons,List.map_nil,dB] at hr
  cases hz:bQ d with
  | true=>
   rw[hz] at hr hs
   refine a9 (j7 @aB @aA @aE @aT @bS @cF @hr) ?_
   refine aY (by simp[hw];exact Is.rfl) ?_
   exact ⟨D - 1,by omega,j+1,by omega,by rw[hs,cD];rfl,SE.mk (by simp[dI,hw]) (by simp[aE])⟩
  | false=>
   rw[hz] at hr
   have ha:x.args.all bQ=false:=by
    cases hq:x.args.all bQ with
    | false=>rfl
    | true=>have:=List.all_eq_true.1 hq d d9;rw[hz] at this;cases this
   rw[ha]
   refine a9 (j7 @aB @aA @aE @aT @bS @cF @hr) ?_
   show a7 _ _ _ _ _
   exact ⟨.inr rfl,_,_,rfl,rfl⟩
 ·simp at hb
  have eM:j=x.args.length:=by omega
  rw[eM,List.take_length] at cD
  rw[cD]
  refine a9 (jn @aB @aA) ?_
  show a7 _ _ _ _ _
  exact ⟨.inr rfl,_,_,rfl,rfl⟩
set_option maxHeartbeats 2000000 in
theorem aPR {N:Nat} (ih:aBi N) (x:X) (hN:x.sz<N+1) (hM:x.sz≤MX) (q:x.k=2):d7 Tryz.prog Ob.cfg 143 [aG x.cells]=some (dB (bQ x)):=by
 unfold MX at hM
 have hs0:=X.sz_eq x
 have k1:=gK x.args
 refine bF Tryz.func143 rfl (by kernel_rfl) rfl rfl ?_
 by_cases c1:x.t=0
 case neg=>
  rw[dF (by simp[cC,q,c1])]
  have e':=eq_false c1
  refine a9 (uQ @aD @aE @aA @aF @aS @aV @bE @f7 @aT @q @e') ?_
  show a7 _ _ _ _ _
  exact ⟨.inr rfl,_,_,rfl,rfl⟩
 by_cases c2:x.v=0
 case neg=>
  rw[dF (by simp[cC,q,c1,c2])]
  have e':=eq_false c2
  refine a9 (tS @aD @aE @aA @aF @aS @aV @bE @f7 @aT @q @c1 @e') ?_
  show a7 _ _ _ _ _
  exact ⟨.inr rfl,_,_,rfl,rfl⟩
 by_cases c3:x.o=0
 case neg=>
  rw[dF (by simp[cC,q,c1,c2,c3])]
  have e':=eq_false c3
  refine a9 (oY @aD @aE @aA @aF @aS @aV @bE @f7 @aT @q @c1 @c2 @e') ?_
  show a7 _ _ _ _ _
  exact ⟨.inr rfl,_,_,rfl,rfl⟩
 have hf:=rB (x:=x) (n:=0) (by simp[cC,q,c1,c2,c3])
 rw[hf]
 by_cases hl:(x.args.length:Int)=0
 case neg=>
  rw[gY hl]
  have e':=eq_false hl
  have e2:=(bH x.args).symm.trans e'
  refine a9 (mX @aD @aE @aA @aF @aS @aV @bE @f7 @aT @q @c1 @c2 @c3 @bH @e' @e2) ?_
  show a7 _ _ _ _ _
  exact ⟨.inr rfl,_,_,rfl,rfl⟩
 rw[jT hl]
 have e':=eq_true hl
 have e2:=(bH x.args).symm.trans e'
 refine a9 (mX @aD @aE @aA @aF @aS @aV @bE @f7 @aT @q @c1 @c2 @c3 @bH @e' @e2) ?_
 apply WP.loop' (I:=fun D s=>∃ j:Nat,j+D=x.args.length∧(x.args.take j).all bQ=true∧SE [(1,.ptr 0 0 0),(4,dI j)] [(0,⟨0,false,x.cells.map .d⟩)] 1 s) (d:=x.args.length)
 ·exact ⟨0,by simp,by simp,SE.mk (by simp[dI]) (by simp[aE,q,c1,c2,c3])⟩
 rintro D _ ⟨j,hj,cD,cc,rfl⟩
 refine wk (j4 @aB @aA @aE @aT) ?_
 show WP _ _ _ _ _ _
 refine WP.cond _ rfl (fun hb=>?_) (fun hb=>?_)
 ·simp at hb
  have bR:j<x.args.length:=by omega
  obtain ⟨d,hd,d9,bS⟩:=bL bR
  have cF:=iQ hd
  have hw:=bG bR (by omega)
  have hs:=bZ (p:=bQ) hd
  have hr:=ih d (by have:=dX d9;omega) (by have:=dX d9;unfold MX;omega)
  simp only[aG,aE,List.map_cons,List.map_nil,dB] at hr
  cases hz:bQ d with
  | true=>
   rw[hz] at hr hs
   refine a9 (j7 @aB @aA @aE @aT @bS @cF @hr) ?_
   refine aY (by simp[hw];exact Is.rfl) ?_
   exact ⟨D - 1,by omega,j+1,by omega,by rw[hs,cD];rfl,SE.mk (by simp[dI,hw]) (by simp[aE])⟩
  | false=>
   rw[hz] at hr
   have ha:x.args.all bQ=false:=by
    cases hq:x.args.all bQ with
    | false=>rfl
    | true=>have:=List.all_eq_true.1 hq d d9;rw[hz] at this;cases this
   rw[ha]
   refine a9 (j7 @aB @aA @aE @aT @bS @cF @hr) ?_
   show a7 _ _ _ _ _
   exact ⟨.inr rfl,_,_,rfl,rfl⟩
 ·simp at hb
  have eM:j=x.args.length:=by omega
  rw[eM,List.take_length] at cD
  rw[cD]
  refine a9 (jn @aB @aA) ?_
  show a7 _ _ _ _ _
  exact ⟨.inr rfl,_,_,rfl,rfl⟩
set_option maxHeartbeats 2000000 in
theorem aOd {N:Nat} (ih:aBi N) (x:X) (hN:x.sz<N+1) (hM:x.sz≤MX) (q:x.k=12):d7 Tryz.prog Ob.cfg 143 [aG x.cells]=some (dB (bQ x)):=by
 unfold MX at hM
 have hs0:=X.sz_eq x
 have k1:=gK x.args
 refine bF Tryz.func143 rfl (by kernel_rfl) rfl rfl ?_
 by_cases c1:x.t=0
 case neg=>
  rw[dF (by simp[cC,q,c1])]
  have e':=eq_false c1
  refine a9 (uQ @aD @aE @aA @aF @aS @aV @bE @f7 @aT @q @e') ?_
  show a7 _ _ _ _ _
  exact ⟨.inr rfl,_,_,rfl,rfl⟩
 by_cases c2:x.v=0
 case neg=>
  rw[dF (by simp[cC,q,c1,c2])]
  have e':=eq_false c2
  refine a9 (tS @aD @aE @aA @aF @aS @aV @bE @f7 @aT @q @c1 @e') ?_
  show a7 _ _ _ _ _
  exact ⟨.inr rfl,_,_,rfl,rfl⟩
 by_cases c3:x.o=0
 case neg=>
  rw[dF (by simp[cC,q,c1,c2,c3])]
  have e':=eq_false c3
  refine a9 (oY @aD @aE @aA @aF @aS @aV @bE @f7 @aT @q @c1 @c2 @e') ?_
  show a7 _ _ _ _ _
  exact ⟨.inr rfl,_,_,rfl,rfl⟩
 have hf:=rB (x:=x) (n:=0) (by simp[cC,q,c1,c2,c3])
 rw[hf]
 by_cases hl:(x.args.length:Int)=0
 case neg=>
  rw[gY hl]
  have e':=eq_false hl
  have e2:=(bH x.args).symm.trans e'
  refine a9 (mX @aD @aE @aA @aF @aS @aV @bE @f7 @aT @q @c1 @c2 @c3 @bH @e' @e2) ?_
  show a7 _ _ _ _ _
  exact ⟨.inr rfl,_,_,rfl,rfl⟩
 rw[jT hl]
 have e':=eq_true hl
 have e2:=(bH x.args).symm.trans e'
 refine a9 (mX @aD @aE @aA @aF @aS @aV @bE @f7 @aT @q @c1 @c2 @c3 @bH @e' @e2) ?_
 apply WP.loop' (I:=fun D s=>∃ j:Nat,j+D=x.args.length∧(x.args.take j).all bQ=true∧SE [(1,.ptr 0 0 0),(4,dI j)] [(0,⟨0,false,x.cells.map .d⟩)] 1 s) (d:=x.args.length)
 ·exact ⟨0,by simp,by simp,SE.mk (by simp[dI]) (by simp[aE,q,c1,c2,c3])⟩
 rintro D _ ⟨j,hj,cD,cc,rfl⟩
 refine wk (j4 @aB @aA @aE @aT) ?_
 show WP _ _ _ _ _ _
 refine WP.cond _ rfl (fun hb=>?_) (fun hb=>?_)
 ·simp at hb
  have bR:j<x.args.length:=by omega
  obtain ⟨d,hd,d9,bS⟩:=bL bR
  have cF:=iQ hd
  have hw:=bG bR (by omega)
  have hs:=bZ (p:=bQ) hd
  have hr:=ih d (by have:=dX d9;omega) (by have:=dX d9;unfold MX;omega)
  simp only[aG,aE,List.map_cons,List.map_nil,dB] at hr
  cases hz:bQ d with
  | true=>
   rw[hz] at hr hs
   refine a9 (j7 @aB @aA @aE @aT @bS @cF @hr) ?_
   refine aY (by simp[hw];exact Is.rfl) ?_
   exact ⟨D - 1,by omega,j+1,by omega,by rw[hs,cD];rfl,SE.mk (by simp[dI,hw]) (by simp[aE])⟩
  | false=>
   rw[hz] at hr
   have ha:x.args.all bQ=false:=by
    cases hq:x.args.all bQ with
    | false=>rfl
    | true=>have:=List.all_eq_true.1 hq d d9;rw[hz] at this;cases this
   rw[ha]
   refine a9 (j7 @aB @aA @aE @aT @bS @cF @hr) ?_
   show a7 _ _ _ _ _
   exact ⟨.inr rfl,_,_,rfl,rfl⟩
 ·simp at hb
  have eM:j=x.args.length:=by omega
  rw[eM,List.take_length] at cD
  rw[cD]
  refine a9 (jn @aB @aA) ?_
  show a7 _ _ _ _ _
  exact ⟨.inr rfl,_,_,rfl,rfl⟩
set_option maxHeartbeats 2000000 in
theorem aQK {N:Nat} (ih:aBi N) (x:X) (hN:x.sz<N+1) (hM:x.sz≤MX) (q:x.k=3):d7 Tryz.prog Ob.cfg 143 [aG x.cells]=some (dB (bQ x)):=by
 unfold MX at hM
 have hs0:=X.sz_eq x
 have k1:=gK x.args
 have a1:=aTM x.o
 simp only[dI] at a1
 refine bF Tryz.func143 rfl (by kernel_rfl) rfl rfl ?_
 by_cases d1:eN x.o=0
 ·rw[dF (by simp[cC,q,d1])]
  rw[d1] at a1
  refine a9 (uQ @aD @aE @aA @aF @aS @aV @bE @f7 @aT @q @a1) ?_
  show a7 _ _ _ _ _
  exact ⟨.inr rfl,_,_,rfl,rfl⟩
 have c1:=eq_false d1
 by_cases c2:x.t=0
 case neg=>
  rw[dF (by simp[cC,q,d1,c2])]
  have e':=eq_false c2
  refine a9 (oY @aD @aE @aA @aF @aS @aV @bE @f7 @aT @q @a1 @c1 @e') ?_
  show a7 _ _ _ _ _
  exact ⟨.inr rfl,_,_,rfl,rfl⟩
 by_cases c3:x.v=0
 case neg=>
  rw[dF (by simp[cC,q,d1,c2,c3])]
  have e':=eq_false c3
  refine a9 (uN @aD @aE @aA @aF @aS @aV @bE @f7 @aT @q @a1 @c1 @c2 @e') ?_
  show a7 _ _ _ _ _
  exact ⟨.inr rfl,_,_,rfl,rfl⟩
 by_cases c4:x.nm=[]
 case neg=>
  rw[dF (by simp[cC,q,d1,c2,c3,c4])]
  have e':=eq_false c4
  refine a9 (uV @aD @aE @aA @aF @aS @aV @bE @f7 @aT @q @a1 @c1 @c2 @c3 @e') ?_
  show a7 _ _ _ _ _
  exact ⟨.inr rfl,_,_,rfl,rfl⟩
 have hf:=rB (x:=x) (n:=eN x.o) (by simp[cC,q,d1,c2,c3,c4])
 rw[hf]
 by_cases hl:(x.args.length:Int)=eN x.o
 case neg=>
  rw[gY hl]
  have e':=eq_false hl
  have e2:=e'
  refine a9 (u7 @aD @aE @aA @aF @aS @aV @bE @f7 @aT @q @a1 @c1 @c2 @c3 @c4 @bH @e' @e2) ?_
  show a7 _ _ _ _ _
  exact ⟨.inr rfl,_,_,rfl,rfl⟩
 rw[jT hl]
 have e':=eq_true hl
 have e2:=e'
 refine a9 (u7 @aD @aE @aA @aF @aS @aV @bE @f7 @aT @q @a1 @c1 @c2 @c3 @c4 @bH @e' @e2) ?_
 apply WP.loop' (I:=fun D s=>∃ j:Nat,j+D=x.args.length∧(x.args.take j).all bQ=true∧SE [(1,.ptr 0 0 0),(4,dI j)] [(0,⟨0,false,x.cells.map .d⟩)] 1 s) (d:=x.args.length)
 ·exact ⟨0,by simp,by simp,SE.mk (by simp[dI]) (by simp[aE,q,c2,c3,c4])⟩
 rintro D _ ⟨j,hj,cD,cc,rfl⟩
 refine wk (j4 @aB @aA @aE @aT) ?_
 show WP _ _ _ _ _ _
 refine WP.cond _ rfl (fun hb=>?_) (fun hb=>?_)
 ·simp at hb
  have bR:j<x.args.length:=by omega
  obtain ⟨d,hd,d9,bS⟩:=bL bR
  have cF:=iQ hd
  have hw:=bG bR (by omega)
  have hs:=bZ (p:=bQ) hd
  have hr:=ih d (by have:=dX d9;omega) (by have:=dX d9;unfold MX;omega)
  simp only[aG,aE,List.map_cons,List.map_nil,dB] at hr
  cases hz:bQ d with
  | true=>
   rw[hz] at hr hs
   refine a9 (j7 @aB @aA @aE @aT @bS @cF @hr) ?_
   refine aY (by simp[hw];exact Is.rfl) ?_
   exact ⟨D - 1,by omega,j+1,by omega,by rw[hs,cD];rfl,SE.mk (by simp[dI,hw]) (by simp[aE])⟩
  | false=>
   rw[hz] at hr
   have ha:x.args.all bQ=false:=by
    cases hq:x.args.all bQ with
    | false=>rfl
    | true=>have:=List.all_eq_true.1 hq d d9;rw[hz] at this;cases this
   rw[ha]
   refine a9 (j7 @aB @aA @aE @aT @bS @cF @hr) ?_
   show a7 _ _ _ _ _
   exact ⟨.inr rfl,_,_,rfl,rfl⟩
 ·simp at hb
  have eM:j=x.args.length:=by omega
  rw[eM,List.take_length] at cD
  rw[cD]
  refine a9 (jn @aB @aA) ?_
  show a7 _ _ _ _ _
  exact ⟨.inr rfl,_,_,rfl,rfl⟩
set_option maxHeartbeats 2000000 in
theorem aPW {N:Nat} (ih:aBi N) (x:X) (hN:x.sz<N+1) (hM:x.sz≤MX) (q:x.k=4):d7 Tryz.prog Ob.cfg 143 [aG x.cells]=some (dB (bQ x)):=by
 unfold MX at hM
 have hs0:=X.sz_eq x
 have k1:=gK x.args
 refine bF Tryz.func143 rfl (by kernel_rfl) rfl rfl ?_
 by_cases c1:x.t=0
 case neg=>
  rw[dF (by simp[cC,q,c1])]
  have e':=eq_false c1
  refine a9 (uQ @aD @aE @aA @aF @aS @aV @bE @f7 @aT @q @e') ?_
  show a7 _ _ _ _ _
  exact ⟨.inr rfl,_,_,rfl,rfl⟩
 by_cases c2:x.v=0
 case neg=>
  rw[dF (by simp[cC,q,c1,c2])]
  have e':=eq_false c2
  refine a9 (tS @aD @aE @aA @aF @aS @aV @bE @f7 @aT @q @c1 @e') ?_
  show a7 _ _ _ _ _
  exact ⟨.inr rfl,_,_,rfl,rfl⟩
 by_cases c3:x.o=0
 case neg=>
  rw[dF (by simp[cC,q,c1,c2,c3])]
  have e':=eq_false c3
  refine a9 (oY @aD @aE @aA @aF @aS @aV @bE @f7 @aT @q @c1 @c2 @e') ?_
  show a7 _ _ _ _ _
  exact ⟨.inr rfl,_,_,rfl,rfl⟩
 by_cases c4:x.nm=[]
 case neg=>
  rw[dF (by simp[cC,q,c1,c2,c3,c4])]
  have e':=eq_false c4
  refine a9 (uN @aD @aE @aA @aF @aS @aV @bE @f7 @aT @q @c1 @c2 @c3 @e') ?_
  show a7 _ _ _ _ _
  exact ⟨.inr rfl,_,_,rfl,rfl⟩
 have hf:=rB (x:=x) (n:=3) (by simp[cC,q,c1,c2,c3,c4])
 rw[hf]
 by_cases hl:(x.args.length:Int)=3
 case neg=>
  rw[gY hl]
  have e':=eq_false hl
  have e2:=e'
  refine a9 (sS @aD @aE @aA @aF @aS @aV @bE @f7 @aT @q @c1 @c2 @c3 @c4 @bH @e' @e2) ?_
  show a7 _ _ _ _ _
  exact ⟨.inr rfl,_,_,rfl,rfl⟩
 rw[jT hl]
 have e':=eq_true hl
 have e2:=e'
 refine a9 (sS @aD @aE @aA @aF @aS @aV @bE @f7 @aT @q @c1 @c2 @c3 @c4 @bH @e' @e2) ?_
 apply WP.loop' (I:=fun D s=>∃ j:Nat,j+D=x.args.length∧(x.args.take j).all bQ=true∧SE [(1,.ptr 0 0 0),(4,dI j)] [(0,⟨0,false,x.cells.map .d⟩)] 1 s) (d:=x.args.length)
 ·exact ⟨0,by simp,by simp,SE.mk (by simp[dI]) (by simp[aE,q,c1,c2,c3,c4])⟩
 rintro D _ ⟨j,hj,cD,cc,rfl⟩
 refine wk (j4 @aB @aA @aE @aT) ?_
 show WP _ _ _ _ _ _
 refine WP.cond _ rfl (fun hb=>?_) (fun hb=>?_)
 ·simp at hb
  have bR:j<x.args.length:=by omega
  obtain ⟨d,hd,d9,bS⟩:=bL bR
  have cF:=iQ hd
  have hw:=bG bR (by omega)
  have hs:=bZ (p:=bQ) hd
  have hr:=ih d (by have:=dX d9;omega) (by have:=dX d9;unfold MX;omega)
  simp only[aG,aE,List.map_cons,List.map_nil,dB] at hr
  cases hz:bQ d with
  | true=>
   rw[hz] at hr hs
   refine a9 (j7 @aB @aA @aE @aT @bS @cF @hr) ?_
   refine aY (by simp[hw];exact Is.rfl) ?_
   exact ⟨D - 1,by omega,j+1,by omega,by rw[hs,cD];rfl,SE.mk (by simp[dI,hw]) (by simp[aE])⟩
  | false=>
   rw[hz] at hr
   have ha:x.args.all bQ=false:=by
    cases hq:x.args.all bQ with
    | false=>rfl
    | true=>have:=List.all_eq_true.1 hq d d9;rw[hz] at this;cases this
   rw[ha]
   refine a9 (j7 @aB @aA @aE @aT @bS @cF @hr) ?_
   show a7 _ _ _ _ _
   exact ⟨.inr rfl,_,_,rfl,rfl⟩
 ·simp at hb
  have eM:j=x.args.length:=by omega
  rw[eM,List.take_length] at cD
  rw[cD]
  refine a9 (jn @aB @aA) ?_
  show a7 _ _ _ _ _
  exact ⟨.inr rfl,_,_,rfl,rfl⟩
set_option maxHeartbeats 1000000 in
theorem aOr:∀ N,aBi N:=by
 intro N
 induction N with
 | zero=>intro x h;omega
 | succ N ih=>
 intro x hN hM
 by_cases q1:x.k=1
 ·exact aQP ih x hN hM q1
 by_cases q2:x.k=2
 ·exact aPR ih x hN hM q2
 by_cases q3:x.k=12
 ·exact aOd ih x hN hM q3
 by_cases q4:x.k=3
 ·exact aQK ih x hN hM q4
 by_cases q5:x.k=4
 ·exact aPW ih x hN hM q5
 rw[dF (by simp[cC,q1,q2,q3,q4,q5])]
 refine bF Tryz.func143 rfl (by kernel_rfl) rfl rfl ?_
 refine a9 (nW @aD @aE @aA @aF @aS @q1 @q2 @q3 @q4 @q5) ?_
 show a7 _ _ _ _ _
 exact ⟨.inr rfl,_,_,rfl,rfl⟩
end Go.Ac
end
