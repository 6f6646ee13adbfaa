/- Forms of expressions: the reference's. -/
import Derived.Test.YtkgekafdhehleaaGreatObMM
set_option linter.unusedVariables false
set_option linter.unusedSimpArgs false
section
set_option maxRecDepth 4000
namespace Go.Ac
open Go.Proofs
def cO (x:X):Bool:=decide (x.k=0)&&decide (x.o=0)&&decide (x.t=0)&&decide (x.v=0)&&decide (x.nm=[])&&decide (x.args=[])
theorem bJ {α:Type} (l:List α):((l.length:Int)=0)=(l=[]):=by cases l <;> simp;omega
theorem iC {p:Prop} [Decidable p] (h:¬ p):decide p=false:=decide_eq_false h
theorem kG {p:Prop} [Decidable p] (h:p):decide p=true:=decide_eq_true h
theorem aTe (r:Nat):Ob.keep 142 r=Ob.k142 r:=by kernel_rfl
theorem aSL (r:Nat):Ob.keep 160 r=Ob.k160 r:=by kernel_rfl
theorem aUE (r:Nat):Ob.keep 167 r=Ob.k167 r:=by kernel_rfl
theorem aVB (r:Nat):Ob.keep 168 r=Ob.k168 r:=by kernel_rfl
theorem aUI (r:Nat):Ob.keep 176 r=Ob.k176 r:=by kernel_rfl
attribute [local simp] aTe Ob.k142 aSL Ob.k160 aUE Ob.k167 aVB Ob.k168 aUI Ob.k176
set_option maxHeartbeats 1000000 in
theorem aFJ (x:X):eJ Tryz.prog Ob.cfg 142 [aG x.cells]=some (dB (cO x)):=by
 refine bI Tryz.func142 rfl (by kernel_rfl) rfl rfl ?_
 unfold cO
 rw[aE]
 by_cases c0:x.k=0
 case neg=>
  have c':=eq_false c0
  rw[iC c0]
  refine bA (j5 @aD @aS @bF @bJ @c') ?_
  exact ⟨.inr rfl,_,_,rfl,by simp;rfl⟩
 by_cases c1:x.o=0
 case neg=>
  have c':=eq_false c1
  rw[iC c1]
  refine bA (j6 @aD @aS @bF @bJ @c0 @c') ?_
  exact ⟨.inr rfl,_,_,rfl,by simp;rfl⟩
 by_cases c2:x.t=0
 case neg=>
  have c':=eq_false c2
  rw[iC c2]
  refine bA (j7 @aD @aS @bF @bJ @c0 @c1 @c') ?_
  exact ⟨.inr rfl,_,_,rfl,by simp;rfl⟩
 by_cases c3:x.v=0
 case neg=>
  have c':=eq_false c3
  rw[iC c3]
  refine bA (j8 @aD @aS @bF @bJ @c0 @c1 @c2 @c') ?_
  exact ⟨.inr rfl,_,_,rfl,by simp;rfl⟩
 by_cases c4:x.nm=[]
 case neg=>
  have c':=eq_false c4
  rw[iC c4]
  refine bA (j9 @aD @aS @bF @bJ @c0 @c1 @c2 @c3 @c') ?_
  exact ⟨.inr rfl,_,_,rfl,by simp;rfl⟩
 by_cases c5:x.args=[]
 case neg=>
  have c':=eq_false c5
  rw[iC c5]
  refine bA (oR @aD @aS @bF @bJ @c0 @c1 @c2 @c3 @c4 @c') ?_
  exact ⟨.inr rfl,_,_,rfl,by simp;rfl⟩
 refine bA (oR @aD @aS @bF @bJ @c0 @c1 @c2 @c3 @c4 @c5) ?_
 exact ⟨.inr rfl,_,_,rfl,by simp[c0,c1,c2,c3,c4,c5];rfl⟩
def qT (o:Int):Bool:=decide (o=1∨o=3∨o=4∨o=5)
theorem aCS (o:Int):eJ Tryz.prog Ob.cfg 167 [dI o]=some (dB (qT o)):=by
 refine bI Tryz.func167 rfl (by kernel_rfl) rfl rfl ?_
 unfold qT
 by_cases c0:o=1
 ·rw[kG (by simp[c0])]
  refine bA (j3 @aB @aS @c0) ?_
  show a8 _ _ _ _ _
  exact ⟨.inr rfl,_,_,rfl,rfl⟩
 by_cases c1:o=3
 ·rw[kG (by simp[c1])]
  refine bA (j4 @aB @aS @c0 @c1) ?_
  show a8 _ _ _ _ _
  exact ⟨.inr rfl,_,_,rfl,rfl⟩
 by_cases c2:o=4
 ·rw[kG (by simp[c2])]
  refine bA (j5 @aB @aS @c0 @c1 @c2) ?_
  show a8 _ _ _ _ _
  exact ⟨.inr rfl,_,_,rfl,rfl⟩
 by_cases c3:o=5
 ·rw[kG (by simp[c3])]
  refine bA (j6 @aB @aS @c0 @c1 @c2 @c3) ?_
  show a8 _ _ _ _ _
  exact ⟨.inr rfl,_,_,rfl,rfl⟩
 rw[iC (by simp[c0,c1,c2,c3])]
 refine bA (j6 @aB @aS @c0 @c1 @c2 @c3) ?_
 show a8 _ _ _ _ _
 exact ⟨.inr rfl,_,_,rfl,rfl⟩
def t7 (o:Int):Bool:=decide (o=11∨o=12)
theorem aDm (o:Int):eJ Tryz.prog Ob.cfg 168 [dI o]=some (dB (t7 o)):=by
 refine bI Tryz.func168 rfl (by kernel_rfl) rfl rfl ?_
 unfold t7
 by_cases c0:o=11
 ·rw[kG (by simp[c0])]
  refine bA (j3 @aB @aS @c0) ?_
  show a8 _ _ _ _ _
  exact ⟨.inr rfl,_,_,rfl,rfl⟩
 by_cases c1:o=12
 ·rw[kG (by simp[c1])]
  refine bA (j4 @aB @aS @c0 @c1) ?_
  show a8 _ _ _ _ _
  exact ⟨.inr rfl,_,_,rfl,rfl⟩
 rw[iC (by simp[c0,c1])]
 refine bA (j4 @aB @aS @c0 @c1) ?_
 show a8 _ _ _ _ _
 exact ⟨.inr rfl,_,_,rfl,rfl⟩
def qS (o:Int):Bool:=decide (o=2∨(6≤o∧o≤10))
theorem aFD (o:Int):eJ Tryz.prog Ob.cfg 176 [dI o]=some (dB (qS o)):=by
 refine bI Tryz.func176 rfl (by kernel_rfl) rfl rfl ?_
 unfold qS
 by_cases c0:o=2
 ·rw[kG (by simp[c0])]
  refine bA (j3 @aB @aS @c0) ?_
  show a8 _ _ _ _ _
  exact ⟨.inr rfl,_,_,rfl,rfl⟩
 by_cases c1:6≤o
 ·have c1':=eq_true c1
  by_cases c2:o≤10
  ·have c2':=eq_true c2
   rw[kG (by simp[c1,c2])]
   refine bA (j5 @aB @aS @c0 @c1' @c2') ?_
   show a8 _ _ _ _ _
   exact ⟨.inr rfl,_,_,rfl,rfl⟩
  ·have c2':=eq_false c2
   rw[iC (by simp[c0,c2])]
   refine bA (j5 @aB @aS @c0 @c1' @c2') ?_
   show a8 _ _ _ _ _
   exact ⟨.inr rfl,_,_,rfl,rfl⟩
 ·have c1':=eq_false c1
  rw[iC (by simp[c0,c1])]
  refine bA (j4 @aB @aS @c0 @c1') ?_
  show a8 _ _ _ _ _
  exact ⟨.inr rfl,_,_,rfl,rfl⟩
def tL (o:Int) (l:List Int):Int:=if t7 o then l.headD 0 else if qT o then 1 else 2
def jM (o:Int) (l:List Int):Int×Int:=if eT o=0 then (0,2) else if (l.length:Int)≠eT o then (0,9) else if tL o l<1 then (0,10) else if l.any (fun t=> !decide (t=tL o l)) then (0,10) else if qS o then (2,0) else (1,0)
theorem xW {o:Int} {l:List Int} (h1:eT o≠0) (h2:(l.length:Int)=eT o) (h3:¬ tL o l<1):jM o l=if l.any (fun t=> !decide (t=tL o l)) then (0,10) else if qS o then (2,0) else (1,0):=by
 unfold jM;rw[if_neg h1,if_neg (by omega),if_neg h3]
theorem oG (o:Int):eT o≤2:=by unfold eT;split;omega;split <;> omega
set_option maxHeartbeats 2000000 in
theorem aEb (o:Int) (l:List Int) (y0:Int) (hy:l.head?=some y0) (c1:eT o≠0) (c2:(l.length:Int)=eT o) (hb:qT o=true) (hq:t7 o=true):eJ Tryz.prog Ob.cfg 160 [dI o,dL (bQ l)]=some (.tuple [dI (jM o l).1,dI (jM o l).2]):=by
 have a1:=aCb o
 have a2:=aCS o
 have a3:=aDm o
 have a4:=aFD o
 rw[hb] at a2
 rw[hq] at a3
 simp only[dI,dB] at a1 a2 a3 a4
 have har:=oG o
 have c1':=eq_false c1
 have c2':=eq_true c2
 have hp:0<l.length:=by cases l with
  | nil=>simp at hy
  | cons a r=>simp
 have zQ:jR 0 l.length=some 0:=by unfold jR;rw[if_pos ⟨by omega,by omega⟩];rfl
 have e0:(bQ l)[0]?=some [.int .i64 y0]:=cP (by rw[←List.head?_eq_getElem?];exact hy)
 have hu:tL o l=y0:=by cases l with
  | nil=>simp at hy
  | cons a r=>simp at hy;subst hy;simp[tL,hb,hq]
 refine bI Tryz.func160 rfl (by kernel_rfl) rfl rfl ?_
 by_cases c3:y0<1
 ·have c3':=eq_true c3
  have hr:jM o l=(0,10):=by unfold jM;rw[if_neg c1,if_neg (by omega),hu,if_pos c3]
  rw[hr]
  refine bA (o9 @aB @aA @a1 @a2 @a3 @c1' @c2' @aS @aV @aZ @e0 @zQ @c3') ?_
  exact ⟨.inr rfl,_,_,rfl,rfl⟩
 have c3':=eq_false c3
 have hr:=xW c1 c2 (by rw[hu];exact c3)
 rw[hu] at hr
 rw[hr]
 refine bA (o9 @aB @aA @a1 @a2 @a3 @c1' @c2' @aS @aV @aZ @e0 @zQ @c3') ?_
 apply WP.loop' (I:=fun D s=>∃ j:Nat,j+D=l.length∧(l.take j).all (fun t=>decide (t=y0))=true∧SE [(0,dI o),(1,dL (bQ l)),(6,dI y0),(7,dI j)] [] 0 s) (d:=l.length)
 ·exact ⟨0,by simp,by simp,SE.mk (by simp[dI,dL]) rfl⟩
 rintro D _ ⟨j,hj,cF,cc,rfl⟩
 refine wk (j3 @aB @aA @aZ) ?_
 show WP _ _ _ _ _ _
 refine WP.cond _ rfl (fun hb=>?_) (fun hb=>?_)
 ·simp at hb
  have bP:j<l.length:=by omega
  obtain ⟨d,hd,d8,bV⟩:=bM bP
  have cG:=cP hd
  have hw:=bE bP (by omega)
  have hs:=bZ (p:=fun t:Int=>decide (t=y0)) hd
  by_cases hq:d=y0
  ·have g9:=eq_true hq
   refine bA (j7 @aB @aA @aZ @bV @cG @aV @g9) ?_
   refine aY (by simp[hw];exact Is.rfl) ?_
   exact ⟨D - 1,by omega,j+1,by omega,by rw[hs,cF,kG hq];rfl,SE.mk (by simp[dI,dL,hw]) rfl⟩
  ·have g9:=eq_false hq
   have ha:l.any (fun t=> !decide (t=y0))=true:=List.any_eq_true.2 ⟨d,d8,by simp[hq]⟩
   rw[ha]
   refine bA (j7 @aB @aA @aZ @bV @cG @aV @g9) ?_
   exact ⟨.inr rfl,_,_,rfl,rfl⟩
 ·simp at hb
  have eE:j=l.length:=by omega
  rw[eE,List.take_length] at cF
  have ha:l.any (fun t=> !decide (t=y0))=false:=by
   rw[List.any_eq_false];intro t ht;simpa using List.all_eq_true.1 cF t ht
  rw[ha]
  cases hz:qS o with
  | true=>
   rw[hz] at a4
   refine bA (j3 @aB @aA @a4) ?_
   exact ⟨.inr rfl,_,_,rfl,rfl⟩
  | false=>
   rw[hz] at a4
   refine bA (j3 @aB @aA @a4) ?_
   exact ⟨.inr rfl,_,_,rfl,rfl⟩
set_option maxHeartbeats 2000000 in
theorem aCo (o:Int) (l:List Int) (y0:Int) (hy:l.head?=some y0) (c1:eT o≠0) (c2:(l.length:Int)=eT o) (hb:qT o=true) (hq:t7 o=false):eJ Tryz.prog Ob.cfg 160 [dI o,dL (bQ l)]=some (.tuple [dI (jM o l).1,dI (jM o l).2]):=by
 have a1:=aCb o
 have a2:=aCS o
 have a3:=aDm o
 have a4:=aFD o
 rw[hb] at a2
 rw[hq] at a3
 simp only[dI,dB] at a1 a2 a3 a4
 have har:=oG o
 have c1':=eq_false c1
 have c2':=eq_true c2
 have hp:0<l.length:=by cases l with
  | nil=>simp at hy
  | cons a r=>simp
 have zQ:jR 0 l.length=some 0:=by unfold jR;rw[if_pos ⟨by omega,by omega⟩];rfl
 have e0:(bQ l)[0]?=some [.int .i64 y0]:=cP (by rw[←List.head?_eq_getElem?];exact hy)
 have hu:tL o l=1:=by cases l with
  | nil=>simp at hy
  | cons a r=>simp at hy;subst hy;simp[tL,hb,hq]
 refine bI Tryz.func160 rfl (by kernel_rfl) rfl rfl ?_
 have c3:¬ ((1:Int)<1):=by omega
 have hr:=xW c1 c2 (by rw[hu];exact c3)
 rw[hu] at hr
 rw[hr]
 refine bA (qJ @aB @aA @a1 @a2 @a3 @c1' @c2' @aS @aV @aZ @e0 @zQ) ?_
 apply WP.loop' (I:=fun D s=>∃ j:Nat,j+D=l.length∧(l.take j).all (fun t=>decide (t=1))=true∧SE [(0,dI o),(1,dL (bQ l)),(6,dI 1),(7,dI j)] [] 0 s) (d:=l.length)
 ·exact ⟨0,by simp,by simp,SE.mk (by simp[dI,dL]) rfl⟩
 rintro D _ ⟨j,hj,cF,cc,rfl⟩
 refine wk (j3 @aB @aA @aZ) ?_
 show WP _ _ _ _ _ _
 refine WP.cond _ rfl (fun hb=>?_) (fun hb=>?_)
 ·simp at hb
  have bP:j<l.length:=by omega
  obtain ⟨d,hd,d8,bV⟩:=bM bP
  have cG:=cP hd
  have hw:=bE bP (by omega)
  have hs:=bZ (p:=fun t:Int=>decide (t=1)) hd
  by_cases hq:d=1
  ·have g9:=eq_true hq
   refine bA (j7 @aB @aA @aZ @bV @cG @aV @g9) ?_
   refine aY (by simp[hw];exact Is.rfl) ?_
   exact ⟨D - 1,by omega,j+1,by omega,by rw[hs,cF,kG hq];rfl,SE.mk (by simp[dI,dL,hw]) rfl⟩
  ·have g9:=eq_false hq
   have ha:l.any (fun t=> !decide (t=1))=true:=List.any_eq_true.2 ⟨d,d8,by simp[hq]⟩
   rw[ha]
   refine bA (j7 @aB @aA @aZ @bV @cG @aV @g9) ?_
   exact ⟨.inr rfl,_,_,rfl,rfl⟩
 ·simp at hb
  have eE:j=l.length:=by omega
  rw[eE,List.take_length] at cF
  have ha:l.any (fun t=> !decide (t=1))=false:=by
   rw[List.any_eq_false];intro t ht;simpa using List.all_eq_true.1 cF t ht
  rw[ha]
  cases hz:qS o with
  | true=>
   rw[hz] at a4
   refine bA (j3 @aB @aA @a4) ?_
   exact ⟨.inr rfl,_,_,rfl,rfl⟩
  | false=>
   rw[hz] at a4
   refine bA (j3 @aB @aA @a4) ?_
   exact ⟨.inr rfl,_,_,rfl,rfl⟩
set_option maxHeartbeats 2000000 in
theorem aCp (o:Int) (l:List Int) (y0:Int) (hy:l.head?=some y0) (c1:eT o≠0) (c2:(l.length:Int)=eT o) (hb:qT o=false) (hq:t7 o=true):eJ Tryz.prog Ob.cfg 160 [dI o,dL (bQ l)]=some (.tuple [dI (jM o l).1,dI (jM o l).2]):=by
 have a1:=aCb o
 have a2:=aCS o
 have a3:=aDm o
 have a4:=aFD o
 rw[hb] at a2
 rw[hq] at a3
 simp only[dI,dB] at a1 a2 a3 a4
 have har:=oG o
 have c1':=eq_false c1
 have c2':=eq_true c2
 have hp:0<l.length:=by cases l with
  | nil=>simp at hy
  | cons a r=>simp
 have zQ:jR 0 l.length=some 0:=by unfold jR;rw[if_pos ⟨by omega,by omega⟩];rfl
 have e0:(bQ l)[0]?=some [.int .i64 y0]:=cP (by rw[←List.head?_eq_getElem?];exact hy)
 have hu:tL o l=y0:=by cases l with
  | nil=>simp at hy
  | cons a r=>simp at hy;subst hy;simp[tL,hb,hq]
 refine bI Tryz.func160 rfl (by kernel_rfl) rfl rfl ?_
 by_cases c3:y0<1
 ·have c3':=eq_true c3
  have hr:jM o l=(0,10):=by unfold jM;rw[if_neg c1,if_neg (by omega),hu,if_pos c3]
  rw[hr]
  refine bA (o9 @aB @aA @a1 @a2 @a3 @c1' @c2' @aS @aV @aZ @e0 @zQ @c3') ?_
  exact ⟨.inr rfl,_,_,rfl,rfl⟩
 have c3':=eq_false c3
 have hr:=xW c1 c2 (by rw[hu];exact c3)
 rw[hu] at hr
 rw[hr]
 refine bA (o9 @aB @aA @a1 @a2 @a3 @c1' @c2' @aS @aV @aZ @e0 @zQ @c3') ?_
 apply WP.loop' (I:=fun D s=>∃ j:Nat,j+D=l.length∧(l.take j).all (fun t=>decide (t=y0))=true∧SE [(0,dI o),(1,dL (bQ l)),(6,dI y0),(7,dI j)] [] 0 s) (d:=l.length)
 ·exact ⟨0,by simp,by simp,SE.mk (by simp[dI,dL]) rfl⟩
 rintro D _ ⟨j,hj,cF,cc,rfl⟩
 refine wk (j3 @aB @aA @aZ) ?_
 show WP _ _ _ _ _ _
 refine WP.cond _ rfl (fun hb=>?_) (fun hb=>?_)
 ·simp at hb
  have bP:j<l.length:=by omega
  obtain ⟨d,hd,d8,bV⟩:=bM bP
  have cG:=cP hd
  have hw:=bE bP (by omega)
  have hs:=bZ (p:=fun t:Int=>decide (t=y0)) hd
  by_cases hq:d=y0
  ·have g9:=eq_true hq
   refine bA (j7 @aB @aA @aZ @bV @cG @aV @g9) ?_
   refine aY (by simp[hw];exact Is.rfl) ?_
   exact ⟨D - 1,by omega,j+1,by omega,by rw[hs,cF,kG hq];rfl,SE.mk (by simp[dI,dL,hw]) rfl⟩
  ·have g9:=eq_false hq
   have ha:l.any (fun t=> !decide (t=y0))=true:=List.any_eq_true.2 ⟨d,d8,by simp[hq]⟩
   rw[ha]
   refine bA (j7 @aB @aA @aZ @bV @cG @aV @g9) ?_
   exact ⟨.inr rfl,_,_,rfl,rfl⟩
 ·simp at hb
  have eE:j=l.length:=by omega
  rw[eE,List.take_length] at cF
  have ha:l.any (fun t=> !decide (t=y0))=false:=by
   rw[List.any_eq_false];intro t ht;simpa using List.all_eq_true.1 cF t ht
  rw[ha]
  cases hz:qS o with
  | true=>
   rw[hz] at a4
   refine bA (j3 @aB @aA @a4) ?_
   exact ⟨.inr rfl,_,_,rfl,rfl⟩
  | false=>
   rw[hz] at a4
   refine bA (j3 @aB @aA @a4) ?_
   exact ⟨.inr rfl,_,_,rfl,rfl⟩
set_option maxHeartbeats 2000000 in
theorem aBh (o:Int) (l:List Int) (y0:Int) (hy:l.head?=some y0) (c1:eT o≠0) (c2:(l.length:Int)=eT o) (hb:qT o=false) (hq:t7 o=false):eJ Tryz.prog Ob.cfg 160 [dI o,dL (bQ l)]=some (.tuple [dI (jM o l).1,dI (jM o l).2]):=by
 have a1:=aCb o
 have a2:=aCS o
 have a3:=aDm o
 have a4:=aFD o
 rw[hb] at a2
 rw[hq] at a3
 simp only[dI,dB] at a1 a2 a3 a4
 have har:=oG o
 have c1':=eq_false c1
 have c2':=eq_true c2
 have hp:0<l.length:=by cases l with
  | nil=>simp at hy
  | cons a r=>simp
 have zQ:jR 0 l.length=some 0:=by unfold jR;rw[if_pos ⟨by omega,by omega⟩];rfl
 have e0:(bQ l)[0]?=some [.int .i64 y0]:=cP (by rw[←List.head?_eq_getElem?];exact hy)
 have hu:tL o l=2:=by cases l with
  | nil=>simp at hy
  | cons a r=>simp at hy;subst hy;simp[tL,hb,hq]
 refine bI Tryz.func160 rfl (by kernel_rfl) rfl rfl ?_
 have c3:¬ ((2:Int)<1):=by omega
 have hr:=xW c1 c2 (by rw[hu];exact c3)
 rw[hu] at hr
 rw[hr]
 refine bA (qJ @aB @aA @a1 @a2 @a3 @c1' @c2' @aS @aV @aZ @e0 @zQ) ?_
 apply WP.loop' (I:=fun D s=>∃ j:Nat,j+D=l.length∧(l.take j).all (fun t=>decide (t=2))=true∧SE [(0,dI o),(1,dL (bQ l)),(6,dI 2),(7,dI j)] [] 0 s) (d:=l.length)
 ·exact ⟨0,by simp,by simp,SE.mk (by simp[dI,dL]) rfl⟩
 rintro D _ ⟨j,hj,cF,cc,rfl⟩
 refine wk (j3 @aB @aA @aZ) ?_
 show WP _ _ _ _ _ _
 refine WP.cond _ rfl (fun hb=>?_) (fun hb=>?_)
 ·simp at hb
  have bP:j<l.length:=by omega
  obtain ⟨d,hd,d8,bV⟩:=bM bP
  have cG:=cP hd
  have hw:=bE bP (by omega)
  have hs:=bZ (p:=fun t:Int=>decide (t=2)) hd
  by_cases hq:d=2
  ·have g9:=eq_true hq
   refine bA (j7 @aB @aA @aZ @bV @cG @aV @g9) ?_
   refine aY (by simp[hw];exact Is.rfl) ?_
   exact ⟨D - 1,by omega,j+1,by omega,by rw[hs,cF,kG hq];rfl,SE.mk (by simp[dI,dL,hw]) rfl⟩
  ·have g9:=eq_false hq
   have ha:l.any (fun t=> !decide (t=2))=true:=List.any_eq_true.2 ⟨d,d8,by simp[hq]⟩
   rw[ha]
   refine bA (j7 @aB @aA @aZ @bV @cG @aV @g9) ?_
   exact ⟨.inr rfl,_,_,rfl,rfl⟩
 ·simp at hb
  have eE:j=l.length:=by omega
  rw[eE,List.take_length] at cF
  have ha:l.any (fun t=> !decide (t=2))=false:=by
   rw[List.any_eq_false];intro t ht;simpa using List.all_eq_true.1 cF t ht
  rw[ha]
  cases hz:qS o with
  | true=>
   rw[hz] at a4
   refine bA (j3 @aB @aA @a4) ?_
   exact ⟨.inr rfl,_,_,rfl,rfl⟩
  | false=>
   rw[hz] at a4
   refine bA (j3 @aB @aA @a4) ?_
   exact ⟨.inr rfl,_,_,rfl,rfl⟩
set_option maxHeartbeats 1000000 in
theorem aRv (o:Int) (l:List Int):eJ Tryz.prog Ob.cfg 160 [dI o,dL (bQ l)]=some (.tuple [dI (jM o l).1,dI (jM o l).2]):=by
 by_cases c1:eT o=0
 ·have a1:=aCb o
  simp only[dI] at a1
  refine bI Tryz.func160 rfl (by kernel_rfl) rfl rfl ?_
  have hr:jM o l=(0,2):=by unfold jM;rw[if_pos c1]
  rw[hr]
  rw[c1] at a1
  refine bA (j3 @aB @aA @a1) ?_
  exact ⟨.inr rfl,_,_,rfl,rfl⟩
 by_cases c2:(l.length:Int)=eT o
 case neg=>
  have a1:=aCb o
  simp only[dI] at a1
  refine bI Tryz.func160 rfl (by kernel_rfl) rfl rfl ?_
  have c1':=eq_false c1
  have hr:jM o l=(0,9):=by unfold jM;rw[if_neg c1,if_pos c2]
  have c2':=eq_false c2
  rw[hr]
  refine bA (j8 @aB @aA @a1 @c1' @c2' @aS @aV @aZ) ?_
  exact ⟨.inr rfl,_,_,rfl,rfl⟩
 obtain ⟨y0,hy⟩:∃ y0,l.head?=some y0:=by
  cases l with
  | nil=>unfold eT at c1 c2;simp at c2;omega
  | cons a r=>exact ⟨a,rfl⟩
 cases hb:qT o <;> cases hq:t7 o
 ·exact aBh o l y0 hy c1 c2 hb hq
 ·exact aCp o l y0 hy c1 c2 hb hq
 ·exact aCo o l y0 hy c1 c2 hb hq
 ·exact aEb o l y0 hy c1 c2 hb hq
end Go.Ac
end
section
set_option maxRecDepth 4000
namespace Go.Ac
open Go.Proofs
def cH (k o t v:Int) (nm:Tx):Option Int:=
 if k=1 then (if nm=[]∧o=0 then some 0 else none)
 else if k=2∨k=12 then (if t=0∧v=0∧o=0 then some 0 else none)
 else if k=3 then (if eT o≠0∧t=0∧v=0∧nm=[] then some (eT o) else none)
 else if k=4 then (if t=0∧v=0∧o=0∧nm=[] then some 3 else none) else none
mutual
def bS:X→Bool
 | .mk k o t v nm args=>match cH k o t v nm with
  | none=>false
  | some n=>decide ((args.length:Int)=n)&&aFi args
def aFi:List X→Bool
 | []=>true
 | x::r=>bS x&&aFi r
end
theorem bX (x:X):bS x=match cH x.k x.o x.t x.v x.nm with
  | none=>false
  | some n=>decide ((x.args.length:Int)=n)&&aFi x.args:=by cases x;rw[bS];rfl
theorem bR:∀ l:List X,aFi l=l.all bS
 | []=>by rw[aFi];rfl
 | x::r=>by rw[aFi,bR r];rfl
theorem dJ {x:X} (h:cH x.k x.o x.t x.v x.nm=none):bS x=false:=by rw[bX,h]
theorem rD {x:X} {n:Int} (h:cH x.k x.o x.t x.v x.nm=some n):bS x=(decide ((x.args.length:Int)=n)&&x.args.all bS):=by rw[bX,h,bR]
theorem uS (o:Int):0≤eT o:=by unfold eT;split;omega;split <;> omega
theorem aSy (r:Nat):Ob.keep 143 r=Ob.k143 r:=by kernel_rfl
attribute [local simp] aSy Ob.k143
def aBx (N:Nat):Prop:=∀ x:X,x.sz<N→x.sz≤MX→eJ Tryz.prog Ob.cfg 143 [aG x.cells]=some (dB (bS x))
set_option maxHeartbeats 2000000 in
theorem aQO {N:Nat} (ih:aBx N) (x:X) (hN:x.sz<N+1) (hM:x.sz≤MX) (q:x.k=1):eJ Tryz.prog Ob.cfg 143 [aG x.cells]=some (dB (bS x)):=by
 unfold MX at hM
 have hs0:=X.sz_eq x
 have k1:=gV x.args
 refine bI Tryz.func143 rfl (by kernel_rfl) rfl rfl ?_
 by_cases c1:x.nm=[]
 case neg=>
  rw[dJ (by simp[cH,q,c1])]
  have e':=eq_false c1
  refine bA (u7 @aD @aE @aA @aF @aS @aV @bF @gF @aT @q @e') ?_
  show a8 _ _ _ _ _
  exact ⟨.inr rfl,_,_,rfl,rfl⟩
 by_cases c2:x.o=0
 case neg=>
  rw[dJ (by simp[cH,q,c1,c2])]
  have e':=eq_false c2
  refine bA (qJ @aD @aE @aA @aF @aS @aV @bF @gF @aT @q @c1 @e') ?_
  show a8 _ _ _ _ _
  exact ⟨.inr rfl,_,_,rfl,rfl⟩
 have hf:=rD (x:=x) (n:=0) (by simp[cH,q,c1,c2])
 rw[hf]
 by_cases hl:(x.args.length:Int)=0
 case neg=>
  rw[iC hl]
  have e':=eq_false hl
  have e2:=(bJ x.args).symm.trans e'
  refine bA (vG @aD @aE @aA @aF @aS @aV @bF @gF @aT @q @c1 @c2 @bJ @e' @e2) ?_
  show a8 _ _ _ _ _
  exact ⟨.inr rfl,_,_,rfl,rfl⟩
 rw[kG hl]
 have e':=eq_true hl
 have e2:=(bJ x.args).symm.trans e'
 refine bA (vG @aD @aE @aA @aF @aS @aV @bF @gF @aT @q @c1 @c2 @bJ @e' @e2) ?_
 apply WP.loop' (I:=fun D s=>∃ j:Nat,j+D=x.args.length∧(x.args.take j).all bS=true∧SE [(1,.ptr 0 0 0),(4,dI j)] [(0,⟨0,false,x.cells.map .d⟩)] 1 s) (d:=x.args.length)
 ·exact ⟨0,by simp,by simp,SE.mk (by simp[dI]) (by simp[aE,q,c1,c2])⟩
 rintro D _ ⟨j,hj,cF,cc,rfl⟩
 refine wk (j4 @aB @aA @aE @aT) ?_
 show WP _ _ _ _ _ _
 refine WP.cond _ rfl (fun hb=>?_) (fun hb=>?_)
 ·simp at hb
  have bP:j<x.args.length:=by omega
  obtain ⟨d,hd,d8,bV⟩:=bM bP
  have cG:=i8 hd
  have hw:=bE bP (by omega)
  have hs:=bZ (p:=bS) hd
  have hr:=ih d (by have:=dZ d8;omega) (by have:=dZ d8;unfold MX;omega)
  simp only[aG,aE,List.map_cons,List.map_nil,dB] at hr
  cases hz:bS d with
  | true=>
   rw[hz] at hr hs
   refine bA (j7 @aB @aA @aE @aT @bV @cG @hr) ?_
   refine aY (by simp[hw];exact Is.rfl) ?_
   exact ⟨D - 1,by omega,j+1,by omega,by rw[hs,cF];rfl,SE.mk (by simp[dI,hw]) (by simp[aE])⟩
  | false=>
   rw[hz] at hr
   have ha:x.args.all bS=false:=by
    cases hq:x.args.all bS with
    | false=>rfl
    | true=>have:=List.all_eq_true.1 hq d d8;rw[hz] at this;cases this
   rw[ha]
   refine bA (j7 @aB @aA @aE @aT @bV @cG @hr) ?_
   show a8 _ _ _ _ _
   exact ⟨.inr rfl,_,_,rfl,rfl⟩
 ·simp at hb
  have eE:j=x.args.length:=by omega
  rw[eE,List.take_length] at cF
  rw[cF]
  refine bA (jn @aB @aA) ?_
  show a8 _ _ _ _ _
  exact ⟨.inr rfl,_,_,rfl,rfl⟩
set_option maxHeartbeats 2000000 in
theorem aQr {N:Nat} (ih:aBx N) (x:X) (hN:x.sz<N+1) (hM:x.sz≤MX) (q:x.k=2):eJ Tryz.prog Ob.cfg 143 [aG x.cells]=some (dB (bS x)):=by
 unfold MX at hM
 have hs0:=X.sz_eq x
 have k1:=gV x.args
 refine bI Tryz.func143 rfl (by kernel_rfl) rfl rfl ?_
 by_cases c1:x.t=0
 case neg=>
  rw[dJ (by simp[cH,q,c1])]
  have e':=eq_false c1
  refine bA (u7 @aD @aE @aA @aF @aS @aV @bF @gF @aT @q @e') ?_
  show a8 _ _ _ _ _
  exact ⟨.inr rfl,_,_,rfl,rfl⟩
 by_cases c2:x.v=0
 case neg=>
  rw[dJ (by simp[cH,q,c1,c2])]
  have e':=eq_false c2
  refine bA (qJ @aD @aE @aA @aF @aS @aV @bF @gF @aT @q @c1 @e') ?_
  show a8 _ _ _ _ _
  exact ⟨.inr rfl,_,_,rfl,rfl⟩
 by_cases c3:x.o=0
 case neg=>
  rw[dJ (by simp[cH,q,c1,c2,c3])]
  have e':=eq_false c3
  refine bA (o9 @aD @aE @aA @aF @aS @aV @bF @gF @aT @q @c1 @c2 @e') ?_
  show a8 _ _ _ _ _
  exact ⟨.inr rfl,_,_,rfl,rfl⟩
 have hf:=rD (x:=x) (n:=0) (by simp[cH,q,c1,c2,c3])
 rw[hf]
 by_cases hl:(x.args.length:Int)=0
 case neg=>
  rw[iC hl]
  have e':=eq_false hl
  have e2:=(bJ x.args).symm.trans e'
  refine bA (nB @aD @aE @aA @aF @aS @aV @bF @gF @aT @q @c1 @c2 @c3 @bJ @e' @e2) ?_
  show a8 _ _ _ _ _
  exact ⟨.inr rfl,_,_,rfl,rfl⟩
 rw[kG hl]
 have e':=eq_true hl
 have e2:=(bJ x.args).symm.trans e'
 refine bA (nB @aD @aE @aA @aF @aS @aV @bF @gF @aT @q @c1 @c2 @c3 @bJ @e' @e2) ?_
 apply WP.loop' (I:=fun D s=>∃ j:Nat,j+D=x.args.length∧(x.args.take j).all bS=true∧SE [(1,.ptr 0 0 0),(4,dI j)] [(0,⟨0,false,x.cells.map .d⟩)] 1 s) (d:=x.args.length)
 ·exact ⟨0,by simp,by simp,SE.mk (by simp[dI]) (by simp[aE,q,c1,c2,c3])⟩
 rintro D _ ⟨j,hj,cF,cc,rfl⟩
 refine wk (j4 @aB @aA @aE @aT) ?_
 show WP _ _ _ _ _ _
 refine WP.cond _ rfl (fun hb=>?_) (fun hb=>?_)
 ·simp at hb
  have bP:j<x.args.length:=by omega
  obtain ⟨d,hd,d8,bV⟩:=bM bP
  have cG:=i8 hd
  have hw:=bE bP (by omega)
  have hs:=bZ (p:=bS) hd
  have hr:=ih d (by have:=dZ d8;omega) (by have:=dZ d8;unfold MX;omega)
  simp only[aG,aE,List.map_cons,List.map_nil,dB] at hr
  cases hz:bS d with
  | true=>
   rw[hz] at hr hs
   refine bA (j7 @aB @aA @aE @aT @bV @cG @hr) ?_
   refine aY (by simp[hw];exact Is.rfl) ?_
   exact ⟨D - 1,by omega,j+1,by omega,by rw[hs,cF];rfl,SE.mk (by simp[dI,hw]) (by simp[aE])⟩
  | false=>
   rw[hz] at hr
   have ha:x.args.all bS=false:=by
    cases hq:x.args.all bS with
    | false=>rfl
    | true=>have:=List.all_eq_true.1 hq d d8;rw[hz] at this;cases this
   rw[ha]
   refine bA (j7 @aB @aA @aE @aT @bV @cG @hr) ?_
   show a8 _ _ _ _ _
   exact ⟨.inr rfl,_,_,rfl,rfl⟩
 ·simp at hb
  have eE:j=x.args.length:=by omega
  rw[eE,List.take_length] at cF
  rw[cF]
  refine bA (jn @aB @aA) ?_
  show a8 _ _ _ _ _
  exact ⟨.inr rfl,_,_,rfl,rfl⟩
set_option maxHeartbeats 2000000 in
theorem aOY {N:Nat} (ih:aBx N) (x:X) (hN:x.sz<N+1) (hM:x.sz≤MX) (q:x.k=12):eJ Tryz.prog Ob.cfg 143 [aG x.cells]=some (dB (bS x)):=by
 unfold MX at hM
 have hs0:=X.sz_eq x
 have k1:=gV x.args
 refine bI Tryz.func143 rfl (by kernel_rfl) rfl rfl ?_
 by_cases c1:x.t=0
 case neg=>
  rw[dJ (by simp[cH,q,c1])]
  have e':=eq_false c1
  refine bA (u7 @aD @aE @aA @aF @aS @aV @bF @gF @aT @q @e') ?_
  show a8 _ _ _ _ _
  exact ⟨.inr rfl,_,_,rfl,rfl⟩
 by_cases c2:x.v=0
 case neg=>
  rw[dJ (by simp[cH,q,c1,c2])]
  have e':=eq_false c2
  refine bA (qJ @aD @aE @aA @aF @aS @aV @bF @gF @aT @q @c1 @e') ?_
  show a8 _ _ _ _ _
  exact ⟨.inr rfl,_,_,rfl,rfl⟩
 by_cases c3:x.o=0
 case neg=>
  rw[dJ (by simp[cH,q,c1,c2,c3])]
  have e':=eq_false c3
  refine bA (o9 @aD @aE @aA @aF @aS @aV @bF @gF @aT @q @c1 @c2 @e') ?_
  show a8 _ _ _ _ _
  exact ⟨.inr rfl,_,_,rfl,rfl⟩
 have hf:=rD (x:=x) (n:=0) (by simp[cH,q,c1,c2,c3])
 rw[hf]
 by_cases hl:(x.args.length:Int)=0
 case neg=>
  rw[iC hl]
  have e':=eq_false hl
  have e2:=(bJ x.args).symm.trans e'
  refine bA (nB @aD @aE @aA @aF @aS @aV @bF @gF @aT @q @c1 @c2 @c3 @bJ @e' @e2) ?_
  show a8 _ _ _ _ _
  exact ⟨.inr rfl,_,_,rfl,rfl⟩
 rw[kG hl]
 have e':=eq_true hl
 have e2:=(bJ x.args).symm.trans e'
 refine bA (nB @aD @aE @aA @aF @aS @aV @bF @gF @aT @q @c1 @c2 @c3 @bJ @e' @e2) ?_
 apply WP.loop' (I:=fun D s=>∃ j:Nat,j+D=x.args.length∧(x.args.take j).all bS=true∧SE [(1,.ptr 0 0 0),(4,dI j)] [(0,⟨0,false,x.cells.map .d⟩)] 1 s) (d:=x.args.length)
 ·exact ⟨0,by simp,by simp,SE.mk (by simp[dI]) (by simp[aE,q,c1,c2,c3])⟩
 rintro D _ ⟨j,hj,cF,cc,rfl⟩
 refine wk (j4 @aB @aA @aE @aT) ?_
 show WP _ _ _ _ _ _
 refine WP.cond _ rfl (fun hb=>?_) (fun hb=>?_)
 ·simp at hb
  have bP:j<x.args.length:=by omega
  obtain ⟨d,hd,d8,bV⟩:=bM bP
  have cG:=i8 hd
  have hw:=bE bP (by omega)
  have hs:=bZ (p:=bS) hd
  have hr:=ih d (by have:=dZ d8;omega) (by have:=dZ d8;unfold MX;omega)
  simp only[aG,aE,List.map_cons,List.map_nil,dB] at hr
  cases hz:bS d with
  | true=>
   rw[hz] at hr hs
   refine bA (j7 @aB @aA @aE @aT @bV @cG @hr) ?_
   refine aY (by simp[hw];exact Is.rfl) ?_
   exact ⟨D - 1,by omega,j+1,by omega,by rw[hs,cF];rfl,SE.mk (by simp[dI,hw]) (by simp[aE])⟩
  | false=>
   rw[hz] at hr
   have ha:x.args.all bS=false:=by
    cases hq:x.args.all bS with
    | false=>rfl
    | true=>have:=List.all_eq_true.1 hq d d8;rw[hz] at this;cases this
   rw[ha]
   refine bA (j7 @aB @aA @aE @aT @bV @cG @hr) ?_
   show a8 _ _ _ _ _
   exact ⟨.inr rfl,_,_,rfl,rfl⟩
 ·simp at hb
  have eE:j=x.args.length:=by omega
  rw[eE,List.take_length] at cF
  rw[cF]
  refine bA (jn @aB @aA) ?_
  show a8 _ _ _ _ _
  exact ⟨.inr rfl,_,_,rfl,rfl⟩
set_option maxHeartbeats 2000000 in
theorem aQo {N:Nat} (ih:aBx N) (x:X) (hN:x.sz<N+1) (hM:x.sz≤MX) (q:x.k=3):eJ Tryz.prog Ob.cfg 143 [aG x.cells]=some (dB (bS x)):=by
 unfold MX at hM
 have hs0:=X.sz_eq x
 have k1:=gV x.args
 have a1:=aSR x.o
 simp only[dI] at a1
 refine bI Tryz.func143 rfl (by kernel_rfl) rfl rfl ?_
 by_cases d1:eT x.o=0
 ·rw[dJ (by simp[cH,q,d1])]
  rw[d1] at a1
  refine bA (u7 @aD @aE @aA @aF @aS @aV @bF @gF @aT @q @a1) ?_
  show a8 _ _ _ _ _
  exact ⟨.inr rfl,_,_,rfl,rfl⟩
 have c1:=eq_false d1
 by_cases c2:x.t=0
 case neg=>
  rw[dJ (by simp[cH,q,d1,c2])]
  have e':=eq_false c2
  refine bA (o9 @aD @aE @aA @aF @aS @aV @bF @gF @aT @q @a1 @c1 @e') ?_
  show a8 _ _ _ _ _
  exact ⟨.inr rfl,_,_,rfl,rfl⟩
 by_cases c3:x.v=0
 case neg=>
  rw[dJ (by simp[cH,q,d1,c2,c3])]
  have e':=eq_false c3
  refine bA (vM @aD @aE @aA @aF @aS @aV @bF @gF @aT @q @a1 @c1 @c2 @e') ?_
  show a8 _ _ _ _ _
  exact ⟨.inr rfl,_,_,rfl,rfl⟩
 by_cases c4:x.nm=[]
 case neg=>
  rw[dJ (by simp[cH,q,d1,c2,c3,c4])]
  have e':=eq_false c4
  refine bA (vG @aD @aE @aA @aF @aS @aV @bF @gF @aT @q @a1 @c1 @c2 @c3 @e') ?_
  show a8 _ _ _ _ _
  exact ⟨.inr rfl,_,_,rfl,rfl⟩
 have hf:=rD (x:=x) (n:=eT x.o) (by simp[cH,q,d1,c2,c3,c4])
 rw[hf]
 by_cases hl:(x.args.length:Int)=eT x.o
 case neg=>
  rw[iC hl]
  have e':=eq_false hl
  have e2:=e'
  refine bA (vP @aD @aE @aA @aF @aS @aV @bF @gF @aT @q @a1 @c1 @c2 @c3 @c4 @bJ @e' @e2) ?_
  show a8 _ _ _ _ _
  exact ⟨.inr rfl,_,_,rfl,rfl⟩
 rw[kG hl]
 have e':=eq_true hl
 have e2:=e'
 refine bA (vP @aD @aE @aA @aF @aS @aV @bF @gF @aT @q @a1 @c1 @c2 @c3 @c4 @bJ @e' @e2) ?_
 apply WP.loop' (I:=fun D s=>∃ j:Nat,j+D=x.args.length∧(x.args.take j).all bS=true∧SE [(1,.ptr 0 0 0),(4,dI j)] [(0,⟨0,false,x.cells.map .d⟩)] 1 s) (d:=x.args.length)
 ·exact ⟨0,by simp,by simp,SE.mk (by simp[dI]) (by simp[aE,q,c2,c3,c4])⟩
 rintro D _ ⟨j,hj,cF,cc,rfl⟩
 refine wk (j4 @aB @aA @aE @aT) ?_
 show WP _ _ _ _ _ _
 refine WP.cond _ rfl (fun hb=>?_) (fun hb=>?_)
 ·simp at hb
  have bP:j<x.args.length:=by omega
  obtain ⟨d,hd,d8,bV⟩:=bM bP
  have cG:=i8 hd
  have hw:=bE bP (by omega)
  have hs:=bZ (p:=bS) hd
  have hr:=ih d (by have:=dZ d8;omega) (by have:=dZ d8;unfold MX;omega)
  simp only[aG,aE,List.map_cons,List.map_nil,dB] at hr
  cases hz:bS d with
  | true=>
   rw[hz] at hr hs
   refine bA (j7 @aB @aA @aE @aT @bV @cG @hr) ?_
   refine aY (by simp[hw];exact Is.rfl) ?_
   exact ⟨D - 1,by omega,j+1,by omega,by rw[hs,cF];rfl,SE.mk (by simp[dI,hw]) (by simp[aE])⟩
  | false=>
   rw[hz] at hr
   have ha:x.args.all bS=false:=by
    cases hq:x.args.all bS with
    | false=>rfl
    | true=>have:=List.all_eq_true.1 hq d d8;rw[hz] at this;cases this
   rw[ha]
   refine bA (j7 @aB @aA @aE @aT @bV @cG @hr) ?_
   show a8 _ _ _ _ _
   exact ⟨.inr rfl,_,_,rfl,rfl⟩
 ·simp at hb
  have eE:j=x.args.length:=by omega
  rw[eE,List.take_length] at cF
  rw[cF]
  refine bA (jn @aB @aA) ?_
  show a8 _ _ _ _ _
  exact ⟨.inr rfl,_,_,rfl,rfl⟩
set_option maxHeartbeats 2000000 in
theorem aQB {N:Nat} (ih:aBx N) (x:X) (hN:x.sz<N+1) (hM:x.sz≤MX) (q:x.k=4):eJ Tryz.prog Ob.cfg 143 [aG x.cells]=some (dB (bS x)):=by
 unfold MX at hM
 have hs0:=X.sz_eq x
 have k1:=gV x.args
 refine bI Tryz.func143 rfl (by kernel_rfl) rfl rfl ?_
 by_cases c1:x.t=0
 case neg=>
  rw[dJ (by simp[cH,q,c1])]
  have e':=eq_false c1
  refine bA (u7 @aD @aE @aA @aF @aS @aV @bF @gF @aT @q @e') ?_
  show a8 _ _ _ _ _
  exact ⟨.inr rfl,_,_,rfl,rfl⟩
 by_cases c2:x.v=0
 case neg=>
  rw[dJ (by simp[cH,q,c1,c2])]
  have e':=eq_false c2
  refine bA (qJ @aD @aE @aA @aF @aS @aV @bF @gF @aT @q @c1 @e') ?_
  show a8 _ _ _ _ _
  exact ⟨.inr rfl,_,_,rfl,rfl⟩
 by_cases c3:x.o=0
 case neg=>
  rw[dJ (by simp[cH,q,c1,c2,c3])]
  have e':=eq_false c3
  refine bA (o9 @aD @aE @aA @aF @aS @aV @bF @gF @aT @q @c1 @c2 @e') ?_
  show a8 _ _ _ _ _
  exact ⟨.inr rfl,_,_,rfl,rfl⟩
 by_cases c4:x.nm=[]
 case neg=>
  rw[dJ (by simp[cH,q,c1,c2,c3,c4])]
  have e':=eq_false c4
  refine bA (vM @aD @aE @aA @aF @aS @aV @bF @gF @aT @q @c1 @c2 @c3 @e') ?_
  show a8 _ _ _ _ _
  exact ⟨.inr rfl,_,_,rfl,rfl⟩
 have hf:=rD (x:=x) (n:=3) (by simp[cH,q,c1,c2,c3,c4])
 rw[hf]
 by_cases hl:(x.args.length:Int)=3
 case neg=>
  rw[iC hl]
  have e':=eq_false hl
  have e2:=e'
  refine bA (sG @aD @aE @aA @aF @aS @aV @bF @gF @aT @q @c1 @c2 @c3 @c4 @bJ @e' @e2) ?_
  show a8 _ _ _ _ _
  exact ⟨.inr rfl,_,_,rfl,rfl⟩
 rw[kG hl]
 have e':=eq_true hl
 have e2:=e'
 refine bA (sG @aD @aE @aA @aF @aS @aV @bF @gF @aT @q @c1 @c2 @c3 @c4 @bJ @e' @e2) ?_
 apply WP.loop' (I:=fun D s=>∃ j:Nat,j+D=x.args.length∧(x.args.take j).all bS=true∧SE [(1,.ptr 0 0 0),(4,dI j)] [(0,⟨0,false,x.cells.map .d⟩)] 1 s) (d:=x.args.length)
 ·exact ⟨0,by simp,by simp,SE.mk (by simp[dI]) (by simp[aE,q,c1,c2,c3,c4])⟩
 rintro D _ ⟨j,hj,cF,cc,rfl⟩
 refine wk (j4 @aB @aA @aE @aT) ?_
 show WP _ _ _ _ _ _
 refine WP.cond _ rfl (fun hb=>?_) (fun hb=>?_)
 ·simp at hb
  have bP:j<x.args.length:=by omega
  obtain ⟨d,hd,d8,bV⟩:=bM bP
  have cG:=i8 hd
  have hw:=bE bP (by omega)
  have hs:=bZ (p:=bS) hd
  have hr:=ih d (by have:=dZ d8;omega) (by have:=dZ d8;unfold MX;omega)
  simp only[aG,aE,List.map_cons,List.map_nil,dB] at hr
  cases hz:bS d with
  | true=>
   rw[hz] at hr hs
   refine bA (j7 @aB @aA @aE @aT @bV @cG @hr) ?_
   refine aY (by simp[hw];exact Is.rfl) ?_
   exact ⟨D - 1,by omega,j+1,by omega,by rw[hs,cF];rfl,SE.mk (by simp[dI,hw]) (by simp[aE])⟩
  | false=>
   rw[hz] at hr
   have ha:x.args.all bS=false:=by
    cases hq:x.args.all bS with
    | false=>rfl
    | true=>have:=List.all_eq_true.1 hq d d8;rw[hz] at this;cases this
   rw[ha]
   refine bA (j7 @aB @aA @aE @aT @bV @cG @hr) ?_
   show a8 _ _ _ _ _
   exact ⟨.inr rfl,_,_,rfl,rfl⟩
 ·simp at hb
  have eE:j=x.args.length:=by omega
  rw[eE,List.take_length] at cF
  rw[cF]
  refine bA (jn @aB @aA) ?_
  show a8 _ _ _ _ _
  exact ⟨.inr rfl,_,_,rfl,rfl⟩
set_option maxHeartbeats 1000000 in
theorem aOh:∀ N,aBx N:=by
 intro N
 induction N with
 | zero=>intro x h;omega
 | succ N ih=>
 intro x hN hM
 by_cases q1:x.k=1
 ·exact aQO ih x hN hM q1
 by_cases q2:x.k=2
 ·exact aQr ih x hN hM q2
 by_cases q3:x.k=12
 ·exact aOY ih x hN hM q3
 by_cases q4:x.k=3
 ·exact aQo ih x hN hM q4
 by_cases q5:x.k=4
 ·exact aQB ih x hN hM q5
 rw[dJ (by simp[cH,q1,q2,q3,q4,q5])]
 refine bI Tryz.func143 rfl (by kernel_rfl) rfl rfl ?_
 refine bA (oR @aD @aE @aA @aF @aS @q1 @q2 @q3 @q4 @q5) ?_
 show a8 _ _ _ _ _
 exact ⟨.inr rfl,_,_,rfl,rfl⟩
end Go.Ac
end
