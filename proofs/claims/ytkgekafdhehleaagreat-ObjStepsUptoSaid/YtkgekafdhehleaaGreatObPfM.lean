/- Object expressions; the results of operators: the program's. -/
import Derived.Test.YtkgekafdhehleaaGreatObZaM
set_option linter.unusedVariables false
set_option linter.unusedSimpArgs false
section
set_option maxRecDepth 4000
namespace Go.Ac
open Go.Proofs
theorem aDT {o:Int} (h:eN o≠0):(fL o=1∧qQ o=true∧tB o=false)∨(fL o=3∧qQ o=false∧tB o=true)∨((fL o=2∨fL o=4)∧qQ o=false∧tB o=false):=by
 have ho:1≤o∧o≤16:=by unfold eN at h;split at h;omega;split at h;omega;exact absurd rfl h
 obtain rfl|rfl|rfl|rfl|rfl|rfl|rfl|rfl|rfl|rfl|rfl|rfl|rfl|rfl|rfl|rfl:o=1∨o=2∨o=3∨o=4∨o=5∨o=6∨o=7∨o=8∨o=9∨o=10∨o=11∨o=12∨o=13∨o=14∨o=15∨o=16:=by omega
 all_goals simp[fL,eN,qQ,qN,tB]
theorem aUI (r:Nat):Ob.keep 149 r=Ob.k149 r:=by kernel_rfl
attribute [local simp] aUI Ob.k149
set_option maxHeartbeats 8000000 in
theorem aKn (o:Int) (l:List Int) (hM:l.length≤MX):d7 Tryz.prog Ob.cfg 149 [dI o,dL (bX l)]=some (.tuple [dI (kP o l).1,dI (kP o l).2]):=by
 unfold MX at hM
 have hg:=aBN o
 have hbo:=aDp o
 have heq:=aDw o
 simp only[dI,dB] at hg hbo heq
 by_cases c0:eN o=0
 ·rw[c0] at hg
  rw[show kP o l=(0,2) by unfold kP;rw[if_pos (by unfold fL;rw[if_pos c0])]]
  refine bF Tryz.func149 rfl (by kernel_rfl) rfl rfl ?_
  refine a9 (j4 @aB @aA @hg @aS) ?_
  show a7 _ _ _ _ _
  exact ⟨.inr rfl,_,_,rfl,rfl⟩
 have c0':=eq_false c0
 have hg0:fL o≠0:=by rcases aDT c0 with h|h|h <;> omega
 by_cases c1:(l.length:Int)=eN o
 case neg=>
  have c1':=eq_false c1
  rw[show kP o l=(0,9) by unfold kP;rw[if_neg hg0,if_pos c1]]
  refine bF Tryz.func149 rfl (by kernel_rfl) rfl rfl ?_
  refine a9 (j8 @aB @aA @hg @aS @aV @c0' @aZ @c1') ?_
  show a7 _ _ _ _ _
  exact ⟨.inr rfl,_,_,rfl,rfl⟩
 have c1':=eq_true c1
 refine bF Tryz.func149 rfl (by kernel_rfl) rfl rfl ?_
 refine a9 (j8 @aB @aA @hg @aS @aV @c0' @aZ @c1') ?_
 have xP:kP o l=if l.any (oC (fL o)) then (0,14) else if fL o=2 then (tL o (l.getD 0 0) (l.getD (l.length - 1) 0),0) else (trE (rS o (l.getD 0 0) (l.getD (l.length - 1) 0)),0):=by
  unfold kP;rw[if_neg hg0,if_neg (by omega)]
 apply WP.loop' (I:=fun D s=>∃ i:Nat,i+D=l.length∧(l.take i).all (fun d=> !oC (fL o) d)=true∧SE [(0,dI o),(1,dL (bX l)),(6,dI i)] [] 0 s) (d:=l.length)
 ·exact ⟨0,by simp,by simp,SE.mk (by simp[dI,dL]) rfl⟩
 rintro D _ ⟨i,hi,cD,cc,rfl⟩
 refine wk (j3 @aB @aA @aZ) ?_
 show WP _ _ _ _ _ _
 refine WP.cond _ rfl (fun hb=>?_) (fun hb=>?_)
 ·simp at hb
  have bR:i<l.length:=by omega
  obtain ⟨v,hv,hvm,bS⟩:=bL bR
  have hv':=c9 hv
  have hw:=bG bR (by omega)
  have hs:=bZ (p:=fun d=> !oC (fL o) d) hv
  have bad:oC (fL o) v=true→kP o l=(0,14):=fun h=>by
   rw[xP,if_pos (List.any_eq_true.2 ⟨v,hvm,h⟩)]
  rcases aDT c0 with ⟨hk,b1,b2⟩|⟨hk,b1,b2⟩|⟨hk,b1,b2⟩
  ·rw[b1] at hbo
   rw[b2] at heq
   rw[hk] at cD hs bad ⊢
   by_cases h0:v=0
   ·have hz:oC 1 v=false:=by simp[oC,h0]
    refine a9 (j9 @aB @aA @aZ @hbo @heq @bS @hv' @h0 @aV) ?_
    refine aY (by simp[hw];exact Is.rfl) ?_
    exact ⟨D - 1,by omega,i+1,by omega,by rw[hs,cD,hz];rfl,SE.mk (by simp[dI,hw,dL]) rfl⟩
   have h0':=eq_false h0
   by_cases h1:v=1
   ·have hz:oC 1 v=false:=by simp[oC,h1]
    refine a9 (j9 @aB @aA @aZ @hbo @heq @bS @hv' @h1 @aV) ?_
    refine aY (by simp[hw];exact Is.rfl) ?_
    exact ⟨D - 1,by omega,i+1,by omega,by rw[hs,cD,hz];rfl,SE.mk (by simp[dI,hw,dL]) rfl⟩
   have xN:=eq_false h1
   rw[bad (by simp[oC,h0,h1])]
   refine a9 (nW @aB @aA @aZ @hbo @heq @bS @hv' @h0' @xN @aV) ?_
   show a7 _ _ _ _ _
   exact ⟨.inr rfl,_,_,rfl,rfl⟩
  ·rw[b1] at hbo
   rw[b2] at heq
   rw[hk] at cD hs bad ⊢
   refine a9 (j8 @aB @aA @aZ @hbo @heq @bS @hv' @aV) ?_
   refine aY (by simp[hw];exact Is.rfl) ?_
   exact ⟨D - 1,by omega,i+1,by omega,by rw[hs,cD];rfl,SE.mk (by simp[dI,hw,dL]) rfl⟩
  ·rw[b1] at hbo
   rw[b2] at heq
   have hof:oC (fL o) v= !inW v:=by unfold oC;rw[if_neg (by omega),if_neg (by omega)]
   by_cases h0:v < -32768
   ·have h0':=eq_true h0
    rw[bad (by rw[hof];simp[inW];omega)]
    refine a9 (j9 @aB @aA @aZ @hbo @heq @bS @hv' @h0' @aV) ?_
    show a7 _ _ _ _ _
    exact ⟨.inr rfl,_,_,rfl,rfl⟩
   have h0':=eq_false h0
   by_cases h1:32767<v
   ·have xN:=eq_true h1
    rw[bad (by rw[hof];simp[inW];omega)]
    refine a9 (nW @aB @aA @aZ @hbo @heq @bS @hv' @h0' @xN @aV) ?_
    show a7 _ _ _ _ _
    exact ⟨.inr rfl,_,_,rfl,rfl⟩
   have xN:=eq_false h1
   have hz:oC (fL o) v=false:=by rw[hof];simp[inW];omega
   refine a9 (nW @aB @aA @aZ @hbo @heq @bS @hv' @h0' @xN @aV) ?_
   refine aY (by simp[hw];exact Is.rfl) ?_
   exact ⟨D - 1,by omega,i+1,by omega,by rw[hs,cD,hz];rfl,SE.mk (by simp[dI,hw,dL]) rfl⟩
 ·simp at hb
  have nE:i=l.length:=by omega
  rw[nE,List.take_length] at cD
  have ha:l.any (oC (fL o))=false:=by
   rw[List.any_eq_false];intro t ht;simpa using List.all_eq_true.1 cD t ht
  rw[ha] at xP
  have hor:∀ v,v∈l→oC (fL o) v=false:=fun v hv=>by simpa using List.all_eq_true.1 cD v hv
  have hlp:0<l.length:=by have:=uH o;omega
  have i0:jQ 0 l.length=some 0:=m6 (i:=0) hlp
  have e0:(bX l)[0]?=some [.int .i64 (l.getD 0 0)]:=c9 (by rw[List.getD_eq_getElem?_getD,List.getElem?_eq_getElem hlp];rfl)
  have m0:l.getD 0 0∈l:=by rw[List.getD_eq_getElem?_getD,List.getElem?_eq_getElem hlp];exact List.getElem_mem hlp
  rw[xP]
  by_cases q1:o=1
  ·subst q1
   have yT:l.length=1:=by
    have:eN 1=1:=by decide
    omega
   have hz:=hor _ m0
   rw[show fL 1=1 by decide] at hz ⊢
   generalize l.getD 0 0=x at e0 hz ⊢
   have hx:x=0∨x=1:=by simp[oC] at hz;omega
   rcases hx with rfl|rfl
   all_goals
    refine a9 (j6 @aB @aA @aZ @i0 @e0 @aS) ?_
    show a7 _ _ _ _ _
    exact ⟨.inr rfl,_,_,rfl,rfl⟩
  have q1':=eq_false q1
  by_cases q2:o=2
  ·subst q2
   have e:=aNJ
   simp only[dI] at e
   rw[show fL 2=2 by decide]
   refine a9 (j7 @aB @aA @aZ @i0 @e0 @aS @e) ?_
   show a7 _ _ _ _ _
   exact ⟨.inr rfl,_,_,rfl,rfl⟩
  have q2':=eq_false q2
  have ho:3≤o∧o≤16:=by unfold eN at c0;split at c0;omega;split at c0;omega;exact absurd rfl c0
  have hl2:l.length=2:=by
   have:eN o=2:=by unfold eN;rw[if_neg (by omega),if_pos (by omega)]
   omega
  have i1:jQ 1 l.length=some 1:=m6 (i:=1) (by omega)
  have e1:(bX l)[1]?=some [.int .i64 (l.getD 1 0)]:=c9 (by rw[List.getD_eq_getElem?_getD,List.getElem?_eq_getElem (by omega)];rfl)
  have m1:l.getD 1 0∈l:=by rw[List.getD_eq_getElem?_getD,List.getElem?_eq_getElem (show 1<l.length by omega)];exact List.getElem_mem _
  have hc:=aHi o (l.getD 0 0) (l.getD 1 0) ho (hor _ m0) (hor _ m1)
  have hrs:(if (false:Bool)=true then ((0:Int),(14:Int)) else if fL o=2 then (tL o (l.getD 0 0) (l.getD (l.length - 1) 0),0) else (trE (rS o (l.getD 0 0) (l.getD (l.length - 1) 0)),0))=(aLL o (l.getD 0 0) (l.getD 1 0),0):=by
   rw[hl2]
   unfold aLL
   rw[if_neg (by simp)]
   split <;> rfl
  rw[hrs]
  generalize l.getD 0 0=x at e0 hc ⊢
  generalize l.getD 1 0=y at e1 hc ⊢
  simp only[dI] at hc
  refine a9 (uQ @aB @aA @aZ @i0 @e0 @i1 @e1 @aS @q1' @q2' @hc) ?_
  show a7 _ _ _ _ _
  exact ⟨.inr rfl,_,_,rfl,rfl⟩
end Go.Ac
end
section
set_option maxRecDepth 4000
namespace Go.Ac
open Go.Proofs
theorem aSN (r:Nat):Ob.keep 195 r=Ob.k195 r:=by kernel_rfl
theorem aTf (r:Nat):Ob.keep 191 r=Ob.k191 r:=by kernel_rfl
theorem aSS (r:Nat):Ob.keep 192 r=Ob.k192 r:=by kernel_rfl
theorem aUR (r:Nat):Ob.keep 173 r=Ob.k173 r:=by kernel_rfl
attribute [local simp] aSN Ob.k195 aTf Ob.k191 aSS Ob.k192 aUR Ob.k173
theorem aLm {p:X→Bool} (l:List X) (hl:l.length≤MX) (hq:∀ v,v∈l→d7 Tryz.prog Ob.cfg 192 [aG v.cells]=some (dB (p v))):d7 Tryz.prog Ob.cfg 195 [dL (fY l),.fn 192 []]=some (dI (ixP p l)):=by
 unfold MX at hl
 refine bF Tryz.func195 rfl (by kernel_rfl) rfl rfl ?_
 refine wk (jn @aA @aT) ?_
 apply WP.loop' (I:=fun D s=>∃ j:Nat,j+D=l.length∧(l.take j).all (fun v=> !p v)=true∧SE [(0,dL (fY l)),(1,.fn 192 []),(7,dI l.length),(8,dI j)] [] 0 s) (d:=l.length)
 ·exact ⟨0,by simp,by simp,SE.mk (by simp[dI,dL]) rfl⟩
 rintro D _ ⟨j,hj,cD,cc,rfl⟩
 refine wk (jn @aB @aA) ?_
 show WP _ _ _ _ _ _
 refine WP.cond _ rfl (fun hb=>?_) (fun hb=>?_)
 ·simp at hb
  have bR:j<l.length:=by omega
  obtain ⟨d,hd,d9,bS⟩:=bL bR
  have cF:=iQ hd
  have hw:=bG bR (by omega)
  have hs:=bZ (p:=fun v=> !p v) hd
  have h4:=hq d d9
  simp only[aG,aE,List.map_cons,List.map_nil,dB] at h4
  cases hpd:p d with
  | true=>
   rw[hpd] at h4
   rw[kF cD hd hpd]
   refine a9 (j6 @aB @aA @bS @cF @aE @h4) ?_
   show a7 _ _ _ _ _
   exact ⟨.inr rfl,_,_,rfl,rfl⟩
  | false=>
   rw[hpd] at h4
   refine a9 (j6 @aB @aA @bS @cF @aE @h4) ?_
   refine aY (by simp[hw];exact Is.rfl) ?_
   exact ⟨D - 1,by omega,j+1,by omega,by rw[hs,cD,hpd];rfl,SE.mk (by simp[dI,dL,hw]) rfl⟩
 ·simp at hb
  have eM:j=l.length:=by omega
  rw[eM,List.take_length] at cD
  rw[kG cD]
  refine a9 (jn @aB @aA) ?_
  show a7 _ _ _ _ _
  exact ⟨.inr rfl,_,_,rfl,rfl⟩
theorem oQ {p:X→Bool} (l:List X) (hl:l.length≤MX) (hq:∀ v,v∈l→d7 Tryz.prog Ob.cfg 192 [aG v.cells]=some (dB (p v))):d7 Tryz.prog Ob.cfg 191 [dL (fY l),.fn 192 []]=some (dB (l.any p)):=by
 have h:=aLm l hl hq
 simp only[dL,dI] at h
 rw[←wV]
 refine bF Tryz.func191 rfl (by kernel_rfl) rfl rfl ?_
 refine wk (jn @aA @h) ?_
 show a7 _ _ _ _ _
 exact ⟨.inr rfl,_,_,rfl,rfl⟩
def tY (N:Nat):Prop:=∀ x:X,x.sz<N→x.sz≤MX→d7 Tryz.prog Ob.cfg 173 [aG x.cells]=some (dB (bQ x))
theorem aDu {N:Nat} (ih:tY N) (x:X) (h:x.sz<N) (h':x.sz≤MX):d7 Tryz.prog Ob.cfg 192 [aG x.cells]=some (dB (!bQ x)):=by
 have h:=ih x h h'
 simp only[aG,aE,List.map_cons,List.map_nil,dB] at h
 refine bF Tryz.func192 rfl (by kernel_rfl) rfl rfl ?_
 refine wk (j3 @aD @aE @h) ?_
 show a7 _ _ _ _ _
 exact ⟨.inr rfl,_,_,rfl,rfl⟩
theorem aCl {α:Type} (p:α→Bool) (l:List α):(!(l.any fun v=> !p v))=l.all p:=by induction l <;> simp_all
set_option maxHeartbeats 8000000 in
theorem aLN {N:Nat} (ih:tY N) (x:X) (hN:x.sz<N+1) (hM:x.sz≤MX) (fke1:x.k=1):d7 Tryz.prog Ob.cfg 173 [aG x.cells]=some (dB (bQ x)):=by
 have gB:=X.sz_eq x
 have eY:=gK x.args
 have hc:=oQ (p:=fun v=> !bQ v) x.args (by omega) fun v hv=>aDu ih v (by have:=dX hv;omega) (by have:=dX hv;omega)
 simp only[dL,dB] at hc
 refine bF Tryz.func173 rfl (by kernel_rfl) rfl rfl ?_
 by_cases foe0:x.o=0
 ·have foe0_:=eq_true foe0
  by_cases fte0:x.t=0
  ·have fte0_:=eq_true fte0
   by_cases fve0:x.v=0
   ·have fve0_:=eq_true fve0
    by_cases fne0:x.nm=[]
    ·have fne0_:=eq_true fne0
     by_cases fae0:x.args=[]
     ·have fae0_:=eq_true fae0
      rw[show bQ x=true by rw[bU,bO];unfold cC eN;simp[fke1,foe0,fte0,fve0,fne0,fae0]]
      refine a9 (oY @aD @aE @aS @aV @bE @bH @aT @fke1 @foe0 @fte0 @fve0 @fne0_ @fae0_) ?_
      show a7 _ _ _ _ _
      exact ⟨.inr rfl,_,_,rfl,rfl⟩
     ·have fae0_:=eq_false fae0
      rw[show bQ x=false by rw[bU,bO];unfold cC eN;simp[fke1,foe0,fte0,fve0,fne0,fae0]]
      refine a9 (oY @aD @aE @aS @aV @bE @bH @aT @fke1 @foe0 @fte0 @fve0 @fne0_ @fae0_) ?_
      show a7 _ _ _ _ _
      exact ⟨.inr rfl,_,_,rfl,rfl⟩
    ·have fne0_:=eq_false fne0
     rw[show bQ x=false by rw[bU,bO];unfold cC eN;simp[fke1,foe0,fte0,fve0,fne0]]
     refine a9 (tS @aD @aE @aS @aV @bE @bH @aT @fke1 @foe0 @fte0 @fve0 @fne0_) ?_
     show a7 _ _ _ _ _
     exact ⟨.inr rfl,_,_,rfl,rfl⟩
   ·have fve0_:=eq_false fve0
    by_cases fne0:x.nm=[]
    ·have fne0_:=eq_true fne0
     by_cases fae0:x.args=[]
     ·have fae0_:=eq_true fae0
      rw[show bQ x=true by rw[bU,bO];unfold cC eN;simp[fke1,foe0,fte0,fve0,fne0,fae0]]
      refine a9 (oY @aD @aE @aS @aV @bE @bH @aT @fke1 @foe0 @fte0 @fve0_ @fne0_ @fae0_) ?_
      show a7 _ _ _ _ _
      exact ⟨.inr rfl,_,_,rfl,rfl⟩
     ·have fae0_:=eq_false fae0
      rw[show bQ x=false by rw[bU,bO];unfold cC eN;simp[fke1,foe0,fte0,fve0,fne0,fae0]]
      refine a9 (oY @aD @aE @aS @aV @bE @bH @aT @fke1 @foe0 @fte0 @fve0_ @fne0_ @fae0_) ?_
      show a7 _ _ _ _ _
      exact ⟨.inr rfl,_,_,rfl,rfl⟩
    ·have fne0_:=eq_false fne0
     rw[show bQ x=false by rw[bU,bO];unfold cC eN;simp[fke1,foe0,fte0,fve0,fne0]]
     refine a9 (tS @aD @aE @aS @aV @bE @bH @aT @fke1 @foe0 @fte0 @fve0_ @fne0_) ?_
     show a7 _ _ _ _ _
     exact ⟨.inr rfl,_,_,rfl,rfl⟩
  ·have fte0_:=eq_false fte0
   by_cases fne0:x.nm=[]
   ·have fne0_:=eq_true fne0
    by_cases fae0:x.args=[]
    ·have fae0_:=eq_true fae0
     rw[show bQ x=true by rw[bU,bO];unfold cC eN;simp[fke1,foe0,fte0,fne0,fae0]]
     refine a9 (tS @aD @aE @aS @aV @bE @bH @aT @fke1 @foe0 @fte0_ @fne0_ @fae0_) ?_
     show a7 _ _ _ _ _
     exact ⟨.inr rfl,_,_,rfl,rfl⟩
    ·have fae0_:=eq_false fae0
     rw[show bQ x=false by rw[bU,bO];unfold cC eN;simp[fke1,foe0,fte0,fne0,fae0]]
     refine a9 (tS @aD @aE @aS @aV @bE @bH @aT @fke1 @foe0 @fte0_ @fne0_ @fae0_) ?_
     show a7 _ _ _ _ _
     exact ⟨.inr rfl,_,_,rfl,rfl⟩
   ·have fne0_:=eq_false fne0
    rw[show bQ x=false by rw[bU,bO];unfold cC eN;simp[fke1,foe0,fte0,fne0]]
    refine a9 (uQ @aD @aE @aS @aV @bE @bH @aT @fke1 @foe0 @fte0_ @fne0_) ?_
    show a7 _ _ _ _ _
    exact ⟨.inr rfl,_,_,rfl,rfl⟩
 ·have foe0_:=eq_false foe0
  rw[show bQ x=false by rw[bU,bO];unfold cC eN;simp[fke1,foe0]]
  refine a9 (j9 @aD @aE @aS @aV @bE @bH @aT @fke1 @foe0_) ?_
  show a7 _ _ _ _ _
  exact ⟨.inr rfl,_,_,rfl,rfl⟩
set_option maxHeartbeats 8000000 in
theorem aMO {N:Nat} (ih:tY N) (x:X) (hN:x.sz<N+1) (hM:x.sz≤MX) (fke2:x.k=2):d7 Tryz.prog Ob.cfg 173 [aG x.cells]=some (dB (bQ x)):=by
 have gB:=X.sz_eq x
 have eY:=gK x.args
 have hc:=oQ (p:=fun v=> !bQ v) x.args (by omega) fun v hv=>aDu ih v (by have:=dX hv;omega) (by have:=dX hv;omega)
 simp only[dL,dB] at hc
 refine bF Tryz.func173 rfl (by kernel_rfl) rfl rfl ?_
 by_cases foe0:x.o=0
 ·have foe0_:=eq_true foe0
  by_cases fte0:x.t=0
  ·have fte0_:=eq_true fte0
   by_cases fve0:x.v=0
   ·have fve0_:=eq_true fve0
    by_cases fne0:x.nm=[]
    ·have fne0_:=eq_true fne0
     by_cases fae0:x.args=[]
     ·have fae0_:=eq_true fae0
      rw[show bQ x=true by rw[bU,bO];unfold cC eN;simp[fke2,foe0,fte0,fve0,fne0,fae0]]
      refine a9 (oY @aD @aE @aS @aV @bE @bH @aT @fke2 @foe0 @fte0 @fve0 @fne0_ @fae0_) ?_
      show a7 _ _ _ _ _
      exact ⟨.inr rfl,_,_,rfl,rfl⟩
     ·have fae0_:=eq_false fae0
      rw[show bQ x=false by rw[bU,bO];unfold cC eN;simp[fke2,foe0,fte0,fve0,fne0,fae0]]
      refine a9 (oY @aD @aE @aS @aV @bE @bH @aT @fke2 @foe0 @fte0 @fve0 @fne0_ @fae0_) ?_
      show a7 _ _ _ _ _
      exact ⟨.inr rfl,_,_,rfl,rfl⟩
    ·have fne0_:=eq_false fne0
     by_cases fae0:x.args=[]
     ·have fae0_:=eq_true fae0
      rw[show bQ x=true by rw[bU,bO];unfold cC eN;simp[fke2,foe0,fte0,fve0,fne0,fae0]]
      refine a9 (oY @aD @aE @aS @aV @bE @bH @aT @fke2 @foe0 @fte0 @fve0 @fne0_ @fae0_) ?_
      show a7 _ _ _ _ _
      exact ⟨.inr rfl,_,_,rfl,rfl⟩
     ·have fae0_:=eq_false fae0
      rw[show bQ x=false by rw[bU,bO];unfold cC eN;simp[fke2,foe0,fte0,fve0,fne0,fae0]]
      refine a9 (oY @aD @aE @aS @aV @bE @bH @aT @fke2 @foe0 @fte0 @fve0 @fne0_ @fae0_) ?_
      show a7 _ _ _ _ _
      exact ⟨.inr rfl,_,_,rfl,rfl⟩
   ·have fve0_:=eq_false fve0
    rw[show bQ x=false by rw[bU,bO];unfold cC eN;simp[fke2,foe0,fte0,fve0]]
    refine a9 (uQ @aD @aE @aS @aV @bE @bH @aT @fke2 @foe0 @fte0 @fve0_) ?_
    show a7 _ _ _ _ _
    exact ⟨.inr rfl,_,_,rfl,rfl⟩
  ·have fte0_:=eq_false fte0
   rw[show bQ x=false by rw[bU,bO];unfold cC eN;simp[fke2,foe0,fte0]]
   refine a9 (nW @aD @aE @aS @aV @bE @bH @aT @fke2 @foe0 @fte0_) ?_
   show a7 _ _ _ _ _
   exact ⟨.inr rfl,_,_,rfl,rfl⟩
 ·have foe0_:=eq_false foe0
  rw[show bQ x=false by rw[bU,bO];unfold cC eN;simp[fke2,foe0]]
  refine a9 (j9 @aD @aE @aS @aV @bE @bH @aT @fke2 @foe0_) ?_
  show a7 _ _ _ _ _
  exact ⟨.inr rfl,_,_,rfl,rfl⟩
set_option maxHeartbeats 8000000 in
theorem aKz {N:Nat} (ih:tY N) (x:X) (hN:x.sz<N+1) (hM:x.sz≤MX) (fke12:x.k=12):d7 Tryz.prog Ob.cfg 173 [aG x.cells]=some (dB (bQ x)):=by
 have gB:=X.sz_eq x
 have eY:=gK x.args
 have hc:=oQ (p:=fun v=> !bQ v) x.args (by omega) fun v hv=>aDu ih v (by have:=dX hv;omega) (by have:=dX hv;omega)
 simp only[dL,dB] at hc
 refine bF Tryz.func173 rfl (by kernel_rfl) rfl rfl ?_
 by_cases foe0:x.o=0
 ·have foe0_:=eq_true foe0
  by_cases fte0:x.t=0
  ·have fte0_:=eq_true fte0
   by_cases fve0:x.v=0
   ·have fve0_:=eq_true fve0
    by_cases fne0:x.nm=[]
    ·have fne0_:=eq_true fne0
     by_cases fae0:x.args=[]
     ·have fae0_:=eq_true fae0
      rw[show bQ x=true by rw[bU,bO];unfold cC eN;simp[fke12,foe0,fte0,fve0,fne0,fae0]]
      refine a9 (oY @aD @aE @aS @aV @bE @bH @aT @fke12 @foe0 @fte0 @fve0 @fne0_ @fae0_) ?_
      show a7 _ _ _ _ _
      exact ⟨.inr rfl,_,_,rfl,rfl⟩
     ·have fae0_:=eq_false fae0
      rw[show bQ x=false by rw[bU,bO];unfold cC eN;simp[fke12,foe0,fte0,fve0,fne0,fae0]]
      refine a9 (oY @aD @aE @aS @aV @bE @bH @aT @fke12 @foe0 @fte0 @fve0 @fne0_ @fae0_) ?_
      show a7 _ _ _ _ _
      exact ⟨.inr rfl,_,_,rfl,rfl⟩
    ·have fne0_:=eq_false fne0
     by_cases fae0:x.args=[]
     ·have fae0_:=eq_true fae0
      rw[show bQ x=true by rw[bU,bO];unfold cC eN;simp[fke12,foe0,fte0,fve0,fne0,fae0]]
      refine a9 (oY @aD @aE @aS @aV @bE @bH @aT @fke12 @foe0 @fte0 @fve0 @fne0_ @fae0_) ?_
      show a7 _ _ _ _ _
      exact ⟨.inr rfl,_,_,rfl,rfl⟩
     ·have fae0_:=eq_false fae0
      rw[show bQ x=false by rw[bU,bO];unfold cC eN;simp[fke12,foe0,fte0,fve0,fne0,fae0]]
      refine a9 (oY @aD @aE @aS @aV @bE @bH @aT @fke12 @foe0 @fte0 @fve0 @fne0_ @fae0_) ?_
      show a7 _ _ _ _ _
      exact ⟨.inr rfl,_,_,rfl,rfl⟩
   ·have fve0_:=eq_false fve0
    rw[show bQ x=false by rw[bU,bO];unfold cC eN;simp[fke12,foe0,fte0,fve0]]
    refine a9 (uQ @aD @aE @aS @aV @bE @bH @aT @fke12 @foe0 @fte0 @fve0_) ?_
    show a7 _ _ _ _ _
    exact ⟨.inr rfl,_,_,rfl,rfl⟩
  ·have fte0_:=eq_false fte0
   rw[show bQ x=false by rw[bU,bO];unfold cC eN;simp[fke12,foe0,fte0]]
   refine a9 (nW @aD @aE @aS @aV @bE @bH @aT @fke12 @foe0 @fte0_) ?_
   show a7 _ _ _ _ _
   exact ⟨.inr rfl,_,_,rfl,rfl⟩
 ·have foe0_:=eq_false foe0
  rw[show bQ x=false by rw[bU,bO];unfold cC eN;simp[fke12,foe0]]
  refine a9 (j9 @aD @aE @aS @aV @bE @bH @aT @fke12 @foe0_) ?_
  show a7 _ _ _ _ _
  exact ⟨.inr rfl,_,_,rfl,rfl⟩
set_option maxHeartbeats 8000000 in
theorem aLq {N:Nat} (ih:tY N) (x:X) (hN:x.sz<N+1) (hM:x.sz≤MX) (fke3:x.k=3):d7 Tryz.prog Ob.cfg 173 [aG x.cells]=some (dB (bQ x)):=by
 have gB:=X.sz_eq x
 have eY:=gK x.args
 have hc:=oQ (p:=fun v=> !bQ v) x.args (by omega) fun v hv=>aDu ih v (by have:=dX hv;omega) (by have:=dX hv;omega)
 simp only[dL,dB] at hc
 refine bF Tryz.func173 rfl (by kernel_rfl) rfl rfl ?_
 by_cases foe0:x.o=0
 ·have foe0_:=eq_true foe0
  by_cases fte0:x.t=0
  ·have fte0_:=eq_true fte0
   by_cases fve0:x.v=0
   ·have fve0_:=eq_true fve0
    by_cases fne0:x.nm=[]
    ·have fne0_:=eq_true fne0
     rw[show bQ x=false by rw[bU,bO];unfold cC;simp[fke3,foe0,fte0,fve0,fne0,eN]]
     refine a9 (tS @aD @aE @aS @aV @bE @bH @aT @fke3 @foe0 @fte0 @fve0 @fne0_) ?_
     show a7 _ _ _ _ _
     exact ⟨.inr rfl,_,_,rfl,rfl⟩
    ·have fne0_:=eq_false fne0
     rw[show bQ x=false by rw[bU,bO];unfold cC;simp[fke3,foe0,fte0,fve0,fne0,eN]]
     refine a9 (tS @aD @aE @aS @aV @bE @bH @aT @fke3 @foe0 @fte0 @fve0 @fne0_) ?_
     show a7 _ _ _ _ _
     exact ⟨.inr rfl,_,_,rfl,rfl⟩
   ·have fve0_:=eq_false fve0
    rw[show bQ x=false by rw[bU,bO];unfold cC;simp[fke3,foe0,fte0,fve0,eN]]
    refine a9 (uQ @aD @aE @aS @aV @bE @bH @aT @fke3 @foe0 @fte0 @fve0_) ?_
    show a7 _ _ _ _ _
    exact ⟨.inr rfl,_,_,rfl,rfl⟩
  ·have fte0_:=eq_false fte0
   rw[show bQ x=false by rw[bU,bO];unfold cC;simp[fke3,foe0,fte0,eN]]
   refine a9 (nW @aD @aE @aS @aV @bE @bH @aT @fke3 @foe0 @fte0_) ?_
   show a7 _ _ _ _ _
   exact ⟨.inr rfl,_,_,rfl,rfl⟩
 ·have foe0_:=eq_false foe0
  by_cases foe1:x.o=1
  ·have foe1_:=eq_true foe1
   by_cases fae1:(x.args.length:Int)=1
   ·have fae1_:=eq_true fae1
    by_cases fte0:x.t=0
    ·have fte0_:=eq_true fte0
     by_cases fve0:x.v=0
     ·have fve0_:=eq_true fve0
      by_cases fne0:x.nm=[]
      ·have fne0_:=eq_true fne0
       rw[show bQ x= !(x.args.any fun v=> !bQ v) by rw[aCl,bU,bO];unfold cC;simp[fke3,foe0,foe1,fae1,fte0,fve0,fne0,eN]]
       refine a9 (uV @aD @aE @aS @aV @bE @bH @hc @aT @fke3 @foe0_ @foe1 @fae1_ @fte0 @fve0 @fne0_) ?_
       show a7 _ _ _ _ _
       exact ⟨.inr rfl,_,_,rfl,rfl⟩
      ·have fne0_:=eq_false fne0
       rw[show bQ x=false by rw[bU,bO];unfold cC;simp[fke3,foe0,foe1,fae1,fte0,fve0,fne0,eN]]
       refine a9 (uN @aD @aE @aS @aV @bE @bH @aT @fke3 @foe0_ @foe1 @fae1_ @fte0 @fve0 @fne0_) ?_
       show a7 _ _ _ _ _
       exact ⟨.inr rfl,_,_,rfl,rfl⟩
     ·have fve0_:=eq_false fve0
      rw[show bQ x=false by rw[bU,bO];unfold cC;simp[fke3,foe0,foe1,fae1,fte0,fve0,eN]]
      refine a9 (oY @aD @aE @aS @aV @bE @bH @aT @fke3 @foe0_ @foe1 @fae1_ @fte0 @fve0_) ?_
      show a7 _ _ _ _ _
      exact ⟨.inr rfl,_,_,rfl,rfl⟩
    ·have fte0_:=eq_false fte0
     rw[show bQ x=false by rw[bU,bO];unfold cC;simp[fke3,foe0,foe1,fae1,fte0,eN]]
     refine a9 (tS @aD @aE @aS @aV @bE @bH @aT @fke3 @foe0_ @foe1 @fae1_ @fte0_) ?_
     show a7 _ _ _ _ _
     exact ⟨.inr rfl,_,_,rfl,rfl⟩
   ·have fae1_:=eq_false fae1
    rw[show bQ x=false by rw[bU,bO];unfold cC;simp[fke3,foe0,foe1,fae1,eN];by_cases hq:x.t=0∧x.v=0∧x.nm=[] <;> simp[hq,fae1]]
    refine a9 (uQ @aD @aE @aS @aV @bE @bH @aT @fke3 @foe0_ @foe1 @fae1_) ?_
    show a7 _ _ _ _ _
    exact ⟨.inr rfl,_,_,rfl,rfl⟩
  ·have foe1_:=eq_false foe1
   by_cases foe2:x.o=2
   ·have foe2_:=eq_true foe2
    by_cases fae1:(x.args.length:Int)=1
    ·have fae1_:=eq_true fae1
     by_cases fte0:x.t=0
     ·have fte0_:=eq_true fte0
      by_cases fve0:x.v=0
      ·have fve0_:=eq_true fve0
       by_cases fne0:x.nm=[]
       ·have fne0_:=eq_true fne0
        rw[show bQ x= !(x.args.any fun v=> !bQ v) by rw[aCl,bU,bO];unfold cC;simp[fke3,foe0,foe1,foe2,fae1,fte0,fve0,fne0,eN]]
        refine a9 (mX @aD @aE @aS @aV @bE @bH @hc @aT @fke3 @foe0_ @foe1_ @foe2 @fae1_ @fte0 @fve0 @fne0_) ?_
        show a7 _ _ _ _ _
        exact ⟨.inr rfl,_,_,rfl,rfl⟩
       ·have fne0_:=eq_false fne0
        rw[show bQ x=false by rw[bU,bO];unfold cC;simp[fke3,foe0,foe1,foe2,fae1,fte0,fve0,fne0,eN]]
        refine a9 (uV @aD @aE @aS @aV @bE @bH @aT @fke3 @foe0_ @foe1_ @foe2 @fae1_ @fte0 @fve0 @fne0_) ?_
        show a7 _ _ _ _ _
        exact ⟨.inr rfl,_,_,rfl,rfl⟩
      ·have fve0_:=eq_false fve0
       rw[show bQ x=false by rw[bU,bO];unfold cC;simp[fke3,foe0,foe1,foe2,fae1,fte0,fve0,eN]]
       refine a9 (uN @aD @aE @aS @aV @bE @bH @aT @fke3 @foe0_ @foe1_ @foe2 @fae1_ @fte0 @fve0_) ?_
       show a7 _ _ _ _ _
       exact ⟨.inr rfl,_,_,rfl,rfl⟩
     ·have fte0_:=eq_false fte0
      rw[show bQ x=false by rw[bU,bO];unfold cC;simp[fke3,foe0,foe1,foe2,fae1,fte0,eN]]
      refine a9 (oY @aD @aE @aS @aV @bE @bH @aT @fke3 @foe0_ @foe1_ @foe2 @fae1_ @fte0_) ?_
      show a7 _ _ _ _ _
      exact ⟨.inr rfl,_,_,rfl,rfl⟩
    ·have fae1_:=eq_false fae1
     rw[show bQ x=false by rw[bU,bO];unfold cC;simp[fke3,foe0,foe1,foe2,fae1,eN];by_cases hq:x.t=0∧x.v=0∧x.nm=[] <;> simp[hq,fae1]]
     refine a9 (tS @aD @aE @aS @aV @bE @bH @aT @fke3 @foe0_ @foe1_ @foe2 @fae1_) ?_
     show a7 _ _ _ _ _
     exact ⟨.inr rfl,_,_,rfl,rfl⟩
   ·have foe2_:=eq_false foe2
    by_cases fol1:x.o<1
    ·have fol1_:=eq_true fol1
     have har:eN x.o=0:=by unfold eN;rw[if_neg (by omega),if_neg (by omega)]
     rw[show bQ x=false by rw[bU,bO];unfold cC;simp[fke3,foe0,foe1,foe2,fol1,har]]
     refine a9 (tS @aD @aE @aS @aV @bE @bH @aT @fke3 @foe0_ @foe1_ @foe2_ @fol1_) ?_
     show a7 _ _ _ _ _
     exact ⟨.inr rfl,_,_,rfl,rfl⟩
    ·have fol1_:=eq_false fol1
     by_cases fog16:16<x.o
     ·have fog16_:=eq_true fog16
      have har:eN x.o=0:=by unfold eN;rw[if_neg (by omega),if_neg (by omega)]
      rw[show bQ x=false by rw[bU,bO];unfold cC;simp[fke3,foe0,foe1,foe2,fol1,fog16,har]]
      refine a9 (oY @aD @aE @aS @aV @bE @bH @aT @fke3 @foe0_ @foe1_ @foe2_ @fol1_ @fog16_) ?_
      show a7 _ _ _ _ _
      exact ⟨.inr rfl,_,_,rfl,rfl⟩
     ·have fog16_:=eq_false fog16
      by_cases fae2:(x.args.length:Int)=2
      ·have fae2_:=eq_true fae2
       by_cases fte0:x.t=0
       ·have fte0_:=eq_true fte0
        by_cases fve0:x.v=0
        ·have fve0_:=eq_true fve0
         by_cases fne0:x.nm=[]
         ·have fne0_:=eq_true fne0
          have har:eN x.o=2:=by unfold eN;rw[if_neg (by omega),if_pos (by omega)]
          rw[show bQ x= !(x.args.any fun v=> !bQ v) by rw[aCl,bU,bO];unfold cC;simp[fke3,foe0,foe1,foe2,fol1,fog16,fae2,fte0,fve0,fne0,har]]
          refine a9 (u7 @aD @aE @aS @aV @bE @bH @hc @aT @fke3 @foe0_ @foe1_ @foe2_ @fol1_ @fog16_ @fae2_ @fte0 @fve0 @fne0_) ?_
          show a7 _ _ _ _ _
          exact ⟨.inr rfl,_,_,rfl,rfl⟩
         ·have fne0_:=eq_false fne0
          have har:eN x.o=2:=by unfold eN;rw[if_neg (by omega),if_pos (by omega)]
          rw[show bQ x=false by rw[bU,bO];unfold cC;simp[fke3,foe0,foe1,foe2,fol1,fog16,fae2,fte0,fve0,fne0,har]]
          refine a9 (sS @aD @aE @aS @aV @bE @bH @aT @fke3 @foe0_ @foe1_ @foe2_ @fol1_ @fog16_ @fae2_ @fte0 @fve0 @fne0_) ?_
          show a7 _ _ _ _ _
          exact ⟨.inr rfl,_,_,rfl,rfl⟩
        ·have fve0_:=eq_false fve0
         have har:eN x.o=2:=by unfold eN;rw[if_neg (by omega),if_pos (by omega)]
         rw[show bQ x=false by rw[bU,bO];unfold cC;simp[fke3,foe0,foe1,foe2,fol1,fog16,fae2,fte0,fve0,har]]
         refine a9 (mX @aD @aE @aS @aV @bE @bH @aT @fke3 @foe0_ @foe1_ @foe2_ @fol1_ @fog16_ @fae2_ @fte0 @fve0_) ?_
         show a7 _ _ _ _ _
         exact ⟨.inr rfl,_,_,rfl,rfl⟩
       ·have fte0_:=eq_false fte0
        have har:eN x.o=2:=by unfold eN;rw[if_neg (by omega),if_pos (by omega)]
        rw[show bQ x=false by rw[bU,bO];unfold cC;simp[fke3,foe0,foe1,foe2,fol1,fog16,fae2,fte0,har]]
        refine a9 (uV @aD @aE @aS @aV @bE @bH @aT @fke3 @foe0_ @foe1_ @foe2_ @fol1_ @fog16_ @fae2_ @fte0_) ?_
        show a7 _ _ _ _ _
        exact ⟨.inr rfl,_,_,rfl,rfl⟩
      ·have fae2_:=eq_false fae2
       have har:eN x.o=2:=by unfold eN;rw[if_neg (by omega),if_pos (by omega)]
       rw[show bQ x=false by rw[bU,bO];unfold cC;simp[fke3,foe0,foe1,foe2,fol1,fog16,fae2,har];by_cases hq:x.t=0∧x.v=0∧x.nm=[] <;> simp[hq,fae2]]
       refine a9 (uN @aD @aE @aS @aV @bE @bH @aT @fke3 @foe0_ @foe1_ @foe2_ @fol1_ @fog16_ @fae2_) ?_
       show a7 _ _ _ _ _
       exact ⟨.inr rfl,_,_,rfl,rfl⟩
set_option maxHeartbeats 8000000 in
theorem aLI {N:Nat} (ih:tY N) (x:X) (hN:x.sz<N+1) (hM:x.sz≤MX) (fke4:x.k=4):d7 Tryz.prog Ob.cfg 173 [aG x.cells]=some (dB (bQ x)):=by
 have gB:=X.sz_eq x
 have eY:=gK x.args
 have hc:=oQ (p:=fun v=> !bQ v) x.args (by omega) fun v hv=>aDu ih v (by have:=dX hv;omega) (by have:=dX hv;omega)
 simp only[dL,dB] at hc
 refine bF Tryz.func173 rfl (by kernel_rfl) rfl rfl ?_
 by_cases foe0:x.o=0
 ·have foe0_:=eq_true foe0
  by_cases fte0:x.t=0
  ·have fte0_:=eq_true fte0
   by_cases fve0:x.v=0
   ·have fve0_:=eq_true fve0
    by_cases fne0:x.nm=[]
    ·have fne0_:=eq_true fne0
     by_cases fae3:(x.args.length:Int)=3
     ·have fae3_:=eq_true fae3
      rw[show bQ x= !(x.args.any fun v=> !bQ v) by rw[aCl,bU,bO];unfold cC eN;simp[fke4,foe0,fte0,fve0,fne0,fae3]]
      refine a9 (uN @aD @aE @aS @aV @bE @bH @hc @aT @fke4 @foe0 @fte0 @fve0 @fne0_ @fae3_) ?_
      show a7 _ _ _ _ _
      exact ⟨.inr rfl,_,_,rfl,rfl⟩
     ·have fae3_:=eq_false fae3
      rw[show bQ x=false by rw[bU,bO];unfold cC eN;simp[fke4,foe0,fte0,fve0,fne0,fae3]]
      refine a9 (oY @aD @aE @aS @aV @bE @bH @aT @fke4 @foe0 @fte0 @fve0 @fne0_ @fae3_) ?_
      show a7 _ _ _ _ _
      exact ⟨.inr rfl,_,_,rfl,rfl⟩
    ·have fne0_:=eq_false fne0
     rw[show bQ x=false by rw[bU,bO];unfold cC eN;simp[fke4,foe0,fte0,fve0,fne0]]
     refine a9 (tS @aD @aE @aS @aV @bE @bH @aT @fke4 @foe0 @fte0 @fve0 @fne0_) ?_
     show a7 _ _ _ _ _
     exact ⟨.inr rfl,_,_,rfl,rfl⟩
   ·have fve0_:=eq_false fve0
    rw[show bQ x=false by rw[bU,bO];unfold cC eN;simp[fke4,foe0,fte0,fve0]]
    refine a9 (uQ @aD @aE @aS @aV @bE @bH @aT @fke4 @foe0 @fte0 @fve0_) ?_
    show a7 _ _ _ _ _
    exact ⟨.inr rfl,_,_,rfl,rfl⟩
  ·have fte0_:=eq_false fte0
   rw[show bQ x=false by rw[bU,bO];unfold cC eN;simp[fke4,foe0,fte0]]
   refine a9 (nW @aD @aE @aS @aV @bE @bH @aT @fke4 @foe0 @fte0_) ?_
   show a7 _ _ _ _ _
   exact ⟨.inr rfl,_,_,rfl,rfl⟩
 ·have foe0_:=eq_false foe0
  rw[show bQ x=false by rw[bU,bO];unfold cC eN;simp[fke4,foe0]]
  refine a9 (j9 @aD @aE @aS @aV @bE @bH @aT @fke4 @foe0_) ?_
  show a7 _ _ _ _ _
  exact ⟨.inr rfl,_,_,rfl,rfl⟩
set_option maxHeartbeats 8000000 in
theorem aMq (x:X) (fke1:¬ x.k=1) (fke2:¬ x.k=2) (fke12:¬ x.k=12) (fke3:¬ x.k=3) (fke4:¬ x.k=4):d7 Tryz.prog Ob.cfg 173 [aG x.cells]=some (dB (bQ x)):=by
 have fke1_:=eq_false fke1
 have fke2_:=eq_false fke2
 have fke12_:=eq_false fke12
 have fke3_:=eq_false fke3
 have fke4_:=eq_false fke4
 refine bF Tryz.func173 rfl (by kernel_rfl) rfl rfl ?_
 by_cases foe0:x.o=0
 ·have foe0_:=eq_true foe0
  by_cases fte0:x.t=0
  ·have fte0_:=eq_true fte0
   by_cases fve0:x.v=0
   ·have fve0_:=eq_true fve0
    by_cases fne0:x.nm=[]
    ·have fne0_:=eq_true fne0
     have hfn:cC x.k x.o x.t x.v x.nm=none:=by unfold cC;simp[fke1,fke2,fke12,fke3,fke4]
     rw[dF hfn]
     refine a9 (mX @aD @aE @aS @aV @bE @bH @aT @fke1_ @fke2_ @fke12_ @fke3_ @fke4_ @foe0 @fte0 @fve0 @fne0_) ?_
     show a7 _ _ _ _ _
     exact ⟨.inr rfl,_,_,rfl,rfl⟩
    ·have fne0_:=eq_false fne0
     have hfn:cC x.k x.o x.t x.v x.nm=none:=by unfold cC;simp[fke1,fke2,fke12,fke3,fke4]
     rw[dF hfn]
     refine a9 (mX @aD @aE @aS @aV @bE @bH @aT @fke1_ @fke2_ @fke12_ @fke3_ @fke4_ @foe0 @fte0 @fve0 @fne0_) ?_
     show a7 _ _ _ _ _
     exact ⟨.inr rfl,_,_,rfl,rfl⟩
   ·have fve0_:=eq_false fve0
    have hfn:cC x.k x.o x.t x.v x.nm=none:=by unfold cC;simp[fke1,fke2,fke12,fke3,fke4]
    rw[dF hfn]
    refine a9 (uV @aD @aE @aS @aV @bE @bH @aT @fke1_ @fke2_ @fke12_ @fke3_ @fke4_ @foe0 @fte0 @fve0_) ?_
    show a7 _ _ _ _ _
    exact ⟨.inr rfl,_,_,rfl,rfl⟩
  ·have fte0_:=eq_false fte0
   have hfn:cC x.k x.o x.t x.v x.nm=none:=by unfold cC;simp[fke1,fke2,fke12,fke3,fke4]
   rw[dF hfn]
   refine a9 (uN @aD @aE @aS @aV @bE @bH @aT @fke1_ @fke2_ @fke12_ @fke3_ @fke4_ @foe0 @fte0_) ?_
   show a7 _ _ _ _ _
   exact ⟨.inr rfl,_,_,rfl,rfl⟩
 ·have foe0_:=eq_false foe0
  have hfn:cC x.k x.o x.t x.v x.nm=none:=by unfold cC;simp[fke1,fke2,fke12,fke3,fke4]
  rw[dF hfn]
  refine a9 (oY @aD @aE @aS @aV @bE @bH @aT @fke1_ @fke2_ @fke12_ @fke3_ @fke4_ @foe0_) ?_
  show a7 _ _ _ _ _
  exact ⟨.inr rfl,_,_,rfl,rfl⟩
theorem aKt:∀ N,tY N:=by
 intro N
 induction N with
 | zero=>intro x h;omega
 | succ N ih=>
 intro x hN hM
 by_cases k1:x.k=1
 ·exact aLN ih x hN hM k1
 by_cases k2:x.k=2
 ·exact aMO ih x hN hM k2
 by_cases k12:x.k=12
 ·exact aKz ih x hN hM k12
 by_cases k3:x.k=3
 ·exact aLq ih x hN hM k3
 by_cases k4:x.k=4
 ·exact aLI ih x hN hM k4
 exact aMq x k1 k2 k12 k3 k4
end Go.Ac
end
