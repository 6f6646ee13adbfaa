/- Object expressions; the results of operators: the program's. -/
import Derived.Test.YtkgekafdhehleaaGreatObZaM
set_option linter.unusedVariables false
set_option linter.unusedSimpArgs false
section
set_option maxRecDepth 4000
namespace Go.Ac
open Go.Proofs
theorem aEY {o:Int} (h:eT o≠0):(fP o=1∧qT o=true∧t7 o=false)∨(fP o=3∧qT o=false∧t7 o=true)∨((fP o=2∨fP o=4)∧qT o=false∧t7 o=false):=by
 have ho:1≤o∧o≤16:=by unfold eT at h;split at h;omega;split at h;omega;exact absurd rfl h
 obtain rfl|rfl|rfl|rfl|rfl|rfl|rfl|rfl|rfl|rfl|rfl|rfl|rfl|rfl|rfl|rfl:o=1∨o=2∨o=3∨o=4∨o=5∨o=6∨o=7∨o=8∨o=9∨o=10∨o=11∨o=12∨o=13∨o=14∨o=15∨o=16:=by omega
 all_goals simp[fP,eT,qT,qS,t7]
theorem aUp (r:Nat):Ob.keep 149 r=Ob.k149 r:=by kernel_rfl
attribute [local simp] aUp Ob.k149
set_option maxHeartbeats 8000000 in
theorem aKV (o:Int) (l:List Int) (hM:l.length≤MX):eJ Tryz.prog Ob.cfg 149 [dI o,dL (bQ l)]=some (.tuple [dI (lI o l).1,dI (lI o l).2]):=by
 unfold MX at hM
 have hg:=aCb o
 have hbo:=aCS o
 have heq:=aDm o
 simp only[dI,dB] at hg hbo heq
 by_cases c0:eT o=0
 ·rw[c0] at hg
  rw[show lI o l=(0,2) by unfold lI;rw[if_pos (by unfold fP;rw[if_pos c0])]]
  refine bI Tryz.func149 rfl (by kernel_rfl) rfl rfl ?_
  refine bA (j4 @aB @aA @hg @aS) ?_
  show a8 _ _ _ _ _
  exact ⟨.inr rfl,_,_,rfl,rfl⟩
 have c0':=eq_false c0
 have hg0:fP o≠0:=by rcases aEY c0 with h|h|h <;> omega
 by_cases c1:(l.length:Int)=eT o
 case neg=>
  have c1':=eq_false c1
  rw[show lI o l=(0,9) by unfold lI;rw[if_neg hg0,if_pos c1]]
  refine bI Tryz.func149 rfl (by kernel_rfl) rfl rfl ?_
  refine bA (j8 @aB @aA @hg @aS @aV @c0' @aZ @c1') ?_
  show a8 _ _ _ _ _
  exact ⟨.inr rfl,_,_,rfl,rfl⟩
 have c1':=eq_true c1
 refine bI Tryz.func149 rfl (by kernel_rfl) rfl rfl ?_
 refine bA (j8 @aB @aA @hg @aS @aV @c0' @aZ @c1') ?_
 have yO:lI o l=if l.any (oS (fP o)) then (0,14) else if fP o=2 then (tY o (l.getD 0 0) (l.getD (l.length - 1) 0),0) else (trE (sH o (l.getD 0 0) (l.getD (l.length - 1) 0)),0):=by
  unfold lI;rw[if_neg hg0,if_neg (by omega)]
 apply WP.loop' (I:=fun D s=>∃ i:Nat,i+D=l.length∧(l.take i).all (fun d=> !oS (fP o) d)=true∧SE [(0,dI o),(1,dL (bQ l)),(6,dI i)] [] 0 s) (d:=l.length)
 ·exact ⟨0,by simp,by simp,SE.mk (by simp[dI,dL]) rfl⟩
 rintro D _ ⟨i,hi,cF,cc,rfl⟩
 refine wk (j3 @aB @aA @aZ) ?_
 show WP _ _ _ _ _ _
 refine WP.cond _ rfl (fun hb=>?_) (fun hb=>?_)
 ·simp at hb
  have bP:i<l.length:=by omega
  obtain ⟨v,hv,hvm,bV⟩:=bM bP
  have zO:=cP hv
  have hw:=bE bP (by omega)
  have hs:=bZ (p:=fun d=> !oS (fP o) d) hv
  have bad:oS (fP o) v=true→lI o l=(0,14):=fun h=>by
   rw[yO,if_pos (List.any_eq_true.2 ⟨v,hvm,h⟩)]
  rcases aEY c0 with ⟨hk,b1,b2⟩|⟨hk,b1,b2⟩|⟨hk,b1,b2⟩
  ·rw[b1] at hbo
   rw[b2] at heq
   rw[hk] at cF hs bad ⊢
   by_cases h0:v=0
   ·have hz:oS 1 v=false:=by simp[oS,h0]
    refine bA (j9 @aB @aA @aZ @hbo @heq @bV @zO @h0 @aV) ?_
    refine aY (by simp[hw];exact Is.rfl) ?_
    exact ⟨D - 1,by omega,i+1,by omega,by rw[hs,cF,hz];rfl,SE.mk (by simp[dI,hw,dL]) rfl⟩
   have h0':=eq_false h0
   by_cases h1:v=1
   ·have hz:oS 1 v=false:=by simp[oS,h1]
    refine bA (j9 @aB @aA @aZ @hbo @heq @bV @zO @h1 @aV) ?_
    refine aY (by simp[hw];exact Is.rfl) ?_
    exact ⟨D - 1,by omega,i+1,by omega,by rw[hs,cF,hz];rfl,SE.mk (by simp[dI,hw,dL]) rfl⟩
   have yN:=eq_false h1
   rw[bad (by simp[oS,h0,h1])]
   refine bA (oR @aB @aA @aZ @hbo @heq @bV @zO @h0' @yN @aV) ?_
   show a8 _ _ _ _ _
   exact ⟨.inr rfl,_,_,rfl,rfl⟩
  ·rw[b1] at hbo
   rw[b2] at heq
   rw[hk] at cF hs bad ⊢
   refine bA (j8 @aB @aA @aZ @hbo @heq @bV @zO @aV) ?_
   refine aY (by simp[hw];exact Is.rfl) ?_
   exact ⟨D - 1,by omega,i+1,by omega,by rw[hs,cF];rfl,SE.mk (by simp[dI,hw,dL]) rfl⟩
  ·rw[b1] at hbo
   rw[b2] at heq
   have hof:oS (fP o) v= !inW v:=by unfold oS;rw[if_neg (by omega),if_neg (by omega)]
   by_cases h0:v < -32768
   ·have h0':=eq_true h0
    rw[bad (by rw[hof];simp[inW];omega)]
    refine bA (j9 @aB @aA @aZ @hbo @heq @bV @zO @h0' @aV) ?_
    show a8 _ _ _ _ _
    exact ⟨.inr rfl,_,_,rfl,rfl⟩
   have h0':=eq_false h0
   by_cases h1:32767<v
   ·have yN:=eq_true h1
    rw[bad (by rw[hof];simp[inW];omega)]
    refine bA (oR @aB @aA @aZ @hbo @heq @bV @zO @h0' @yN @aV) ?_
    show a8 _ _ _ _ _
    exact ⟨.inr rfl,_,_,rfl,rfl⟩
   have yN:=eq_false h1
   have hz:oS (fP o) v=false:=by rw[hof];simp[inW];omega
   refine bA (oR @aB @aA @aZ @hbo @heq @bV @zO @h0' @yN @aV) ?_
   refine aY (by simp[hw];exact Is.rfl) ?_
   exact ⟨D - 1,by omega,i+1,by omega,by rw[hs,cF,hz];rfl,SE.mk (by simp[dI,hw,dL]) rfl⟩
 ·simp at hb
  have kP:i=l.length:=by omega
  rw[kP,List.take_length] at cF
  have ha:l.any (oS (fP o))=false:=by
   rw[List.any_eq_false];intro t ht;simpa using List.all_eq_true.1 cF t ht
  rw[ha] at yO
  have hor:∀ v,v∈l→oS (fP o) v=false:=fun v hv=>by simpa using List.all_eq_true.1 cF v hv
  have hlp:0<l.length:=by have:=uS o;omega
  have i0:jR 0 l.length=some 0:=kX (i:=0) hlp
  have e0:(bQ l)[0]?=some [.int .i64 (l.getD 0 0)]:=cP (by rw[List.getD_eq_getElem?_getD,List.getElem?_eq_getElem hlp];rfl)
  have m0:l.getD 0 0∈l:=by rw[List.getD_eq_getElem?_getD,List.getElem?_eq_getElem hlp];exact List.getElem_mem hlp
  rw[yO]
  by_cases q1:o=1
  ·subst q1
   have zQ:l.length=1:=by
    have:eT 1=1:=by decide
    omega
   have hz:=hor _ m0
   rw[show fP 1=1 by decide] at hz ⊢
   generalize l.getD 0 0=x at e0 hz ⊢
   have hx:x=0∨x=1:=by simp[oS] at hz;omega
   rcases hx with rfl|rfl
   all_goals
    refine bA (j6 @aB @aA @aZ @i0 @e0 @aS) ?_
    show a8 _ _ _ _ _
    exact ⟨.inr rfl,_,_,rfl,rfl⟩
  have q1':=eq_false q1
  by_cases q2:o=2
  ·subst q2
   have e:=aOA
   simp only[dI] at e
   rw[show fP 2=2 by decide]
   refine bA (j7 @aB @aA @aZ @i0 @e0 @aS @e) ?_
   show a8 _ _ _ _ _
   exact ⟨.inr rfl,_,_,rfl,rfl⟩
  have q2':=eq_false q2
  have ho:3≤o∧o≤16:=by unfold eT at c0;split at c0;omega;split at c0;omega;exact absurd rfl c0
  have hl2:l.length=2:=by
   have:eT o=2:=by unfold eT;rw[if_neg (by omega),if_pos (by omega)]
   omega
  have i1:jR 1 l.length=some 1:=kX (i:=1) (by omega)
  have e1:(bQ l)[1]?=some [.int .i64 (l.getD 1 0)]:=cP (by rw[List.getD_eq_getElem?_getD,List.getElem?_eq_getElem (by omega)];rfl)
  have m1:l.getD 1 0∈l:=by rw[List.getD_eq_getElem?_getD,List.getElem?_eq_getElem (show 1<l.length by omega)];exact List.getElem_mem _
  have hc:=aHz o (l.getD 0 0) (l.getD 1 0) ho (hor _ m0) (hor _ m1)
  have hrs:(if (false:Bool)=true then ((0:Int),(14:Int)) else if fP o=2 then (tY o (l.getD 0 0) (l.getD (l.length - 1) 0),0) else (trE (sH o (l.getD 0 0) (l.getD (l.length - 1) 0)),0))=(aMV o (l.getD 0 0) (l.getD 1 0),0):=by
   rw[hl2]
   unfold aMV
   rw[if_neg (by simp)]
   split <;> rfl
  rw[hrs]
  generalize l.getD 0 0=x at e0 hc ⊢
  generalize l.getD 1 0=y at e1 hc ⊢
  simp only[dI] at hc
  refine bA (u7 @aB @aA @aZ @i0 @e0 @i1 @e1 @aS @q1' @q2' @hc) ?_
  show a8 _ _ _ _ _
  exact ⟨.inr rfl,_,_,rfl,rfl⟩
end Go.Ac
end
section
set_option maxRecDepth 4000
namespace Go.Ac
open Go.Proofs
theorem aUH (r:Nat):Ob.keep 195 r=Ob.k195 r:=by kernel_rfl
theorem aVH (r:Nat):Ob.keep 191 r=Ob.k191 r:=by kernel_rfl
theorem aVq (r:Nat):Ob.keep 192 r=Ob.k192 r:=by kernel_rfl
theorem aVC (r:Nat):Ob.keep 173 r=Ob.k173 r:=by kernel_rfl
attribute [local simp] aUH Ob.k195 aVH Ob.k191 aVq Ob.k192 aVC Ob.k173
theorem aMh {p:X→Bool} (l:List X) (hl:l.length≤MX) (hq:∀ v,v∈l→eJ Tryz.prog Ob.cfg 192 [aG v.cells]=some (dB (p v))):eJ Tryz.prog Ob.cfg 195 [dL (gC l),.fn 192 []]=some (dI (ixP p l)):=by
 unfold MX at hl
 refine bI Tryz.func195 rfl (by kernel_rfl) rfl rfl ?_
 refine wk (jn @aA @aT) ?_
 apply WP.loop' (I:=fun D s=>∃ j:Nat,j+D=l.length∧(l.take j).all (fun v=> !p v)=true∧SE [(0,dL (gC l)),(1,.fn 192 []),(7,dI l.length),(8,dI j)] [] 0 s) (d:=l.length)
 ·exact ⟨0,by simp,by simp,SE.mk (by simp[dI,dL]) rfl⟩
 rintro D _ ⟨j,hj,cF,cc,rfl⟩
 refine wk (jn @aB @aA) ?_
 show WP _ _ _ _ _ _
 refine WP.cond _ rfl (fun hb=>?_) (fun hb=>?_)
 ·simp at hb
  have bP:j<l.length:=by omega
  obtain ⟨d,hd,d8,bV⟩:=bM bP
  have cG:=i8 hd
  have hw:=bE bP (by omega)
  have hs:=bZ (p:=fun v=> !p v) hd
  have h4:=hq d d8
  simp only[aG,aE,List.map_cons,List.map_nil,dB] at h4
  cases hpd:p d with
  | true=>
   rw[hpd] at h4
   rw[kZ cF hd hpd]
   refine bA (j6 @aB @aA @bV @cG @aE @h4) ?_
   show a8 _ _ _ _ _
   exact ⟨.inr rfl,_,_,rfl,rfl⟩
  | false=>
   rw[hpd] at h4
   refine bA (j6 @aB @aA @bV @cG @aE @h4) ?_
   refine aY (by simp[hw];exact Is.rfl) ?_
   exact ⟨D - 1,by omega,j+1,by omega,by rw[hs,cF,hpd];rfl,SE.mk (by simp[dI,dL,hw]) rfl⟩
 ·simp at hb
  have eE:j=l.length:=by omega
  rw[eE,List.take_length] at cF
  rw[kU cF]
  refine bA (jn @aB @aA) ?_
  show a8 _ _ _ _ _
  exact ⟨.inr rfl,_,_,rfl,rfl⟩
theorem pK {p:X→Bool} (l:List X) (hl:l.length≤MX) (hq:∀ v,v∈l→eJ Tryz.prog Ob.cfg 192 [aG v.cells]=some (dB (p v))):eJ Tryz.prog Ob.cfg 191 [dL (gC l),.fn 192 []]=some (dB (l.any p)):=by
 have h:=aMh l hl hq
 simp only[dL,dI] at h
 rw[←xZ]
 refine bI Tryz.func191 rfl (by kernel_rfl) rfl rfl ?_
 refine wk (jn @aA @h) ?_
 show a8 _ _ _ _ _
 exact ⟨.inr rfl,_,_,rfl,rfl⟩
def uX (N:Nat):Prop:=∀ x:X,x.sz<N→x.sz≤MX→eJ Tryz.prog Ob.cfg 173 [aG x.cells]=some (dB (bS x))
theorem aDr {N:Nat} (ih:uX N) (x:X) (h:x.sz<N) (h':x.sz≤MX):eJ Tryz.prog Ob.cfg 192 [aG x.cells]=some (dB (!bS x)):=by
 have h:=ih x h h'
 simp only[aG,aE,List.map_cons,List.map_nil,dB] at h
 refine bI Tryz.func192 rfl (by kernel_rfl) rfl rfl ?_
 refine wk (j3 @aD @aE @h) ?_
 show a8 _ _ _ _ _
 exact ⟨.inr rfl,_,_,rfl,rfl⟩
theorem aCz {α:Type} (p:α→Bool) (l:List α):(!(l.any fun v=> !p v))=l.all p:=by induction l <;> simp_all
set_option maxHeartbeats 8000000 in
theorem aMx {N:Nat} (ih:uX N) (x:X) (hN:x.sz<N+1) (hM:x.sz≤MX) (fke1:x.k=1):eJ Tryz.prog Ob.cfg 173 [aG x.cells]=some (dB (bS x)):=by
 have gK:=X.sz_eq x
 have e9:=gV x.args
 have hc:=pK (p:=fun v=> !bS v) x.args (by omega) fun v hv=>aDr ih v (by have:=dZ hv;omega) (by have:=dZ hv;omega)
 simp only[dL,dB] at hc
 refine bI Tryz.func173 rfl (by kernel_rfl) rfl rfl ?_
 by_cases foe0:x.o=0
 ·have foe0_:=eq_true foe0
  by_cases fte0:x.t=0
  ·have fte0_:=eq_true fte0
   by_cases fve0:x.v=0
   ·have fve0_:=eq_true fve0
    by_cases fne0:x.nm=[]
    ·have fne0_:=eq_true fne0
     by_cases fae0:x.args=[]
     ·have fae0_:=eq_true fae0
      rw[show bS x=true by rw[bX,bR];unfold cH eT;simp[fke1,foe0,fte0,fve0,fne0,fae0]]
      refine bA (o9 @aD @aE @aS @aV @bF @bJ @aT @fke1 @foe0 @fte0 @fve0 @fne0_ @fae0_) ?_
      show a8 _ _ _ _ _
      exact ⟨.inr rfl,_,_,rfl,rfl⟩
     ·have fae0_:=eq_false fae0
      rw[show bS x=false by rw[bX,bR];unfold cH eT;simp[fke1,foe0,fte0,fve0,fne0,fae0]]
      refine bA (o9 @aD @aE @aS @aV @bF @bJ @aT @fke1 @foe0 @fte0 @fve0 @fne0_ @fae0_) ?_
      show a8 _ _ _ _ _
      exact ⟨.inr rfl,_,_,rfl,rfl⟩
    ·have fne0_:=eq_false fne0
     rw[show bS x=false by rw[bX,bR];unfold cH eT;simp[fke1,foe0,fte0,fve0,fne0]]
     refine bA (qJ @aD @aE @aS @aV @bF @bJ @aT @fke1 @foe0 @fte0 @fve0 @fne0_) ?_
     show a8 _ _ _ _ _
     exact ⟨.inr rfl,_,_,rfl,rfl⟩
   ·have fve0_:=eq_false fve0
    by_cases fne0:x.nm=[]
    ·have fne0_:=eq_true fne0
     by_cases fae0:x.args=[]
     ·have fae0_:=eq_true fae0
      rw[show bS x=true by rw[bX,bR];unfold cH eT;simp[fke1,foe0,fte0,fve0,fne0,fae0]]
      refine bA (o9 @aD @aE @aS @aV @bF @bJ @aT @fke1 @foe0 @fte0 @fve0_ @fne0_ @fae0_) ?_
      show a8 _ _ _ _ _
      exact ⟨.inr rfl,_,_,rfl,rfl⟩
     ·have fae0_:=eq_false fae0
      rw[show bS x=false by rw[bX,bR];unfold cH eT;simp[fke1,foe0,fte0,fve0,fne0,fae0]]
      refine bA (o9 @aD @aE @aS @aV @bF @bJ @aT @fke1 @foe0 @fte0 @fve0_ @fne0_ @fae0_) ?_
      show a8 _ _ _ _ _
      exact ⟨.inr rfl,_,_,rfl,rfl⟩
    ·have fne0_:=eq_false fne0
     rw[show bS x=false by rw[bX,bR];unfold cH eT;simp[fke1,foe0,fte0,fve0,fne0]]
     refine bA (qJ @aD @aE @aS @aV @bF @bJ @aT @fke1 @foe0 @fte0 @fve0_ @fne0_) ?_
     show a8 _ _ _ _ _
     exact ⟨.inr rfl,_,_,rfl,rfl⟩
  ·have fte0_:=eq_false fte0
   by_cases fne0:x.nm=[]
   ·have fne0_:=eq_true fne0
    by_cases fae0:x.args=[]
    ·have fae0_:=eq_true fae0
     rw[show bS x=true by rw[bX,bR];unfold cH eT;simp[fke1,foe0,fte0,fne0,fae0]]
     refine bA (qJ @aD @aE @aS @aV @bF @bJ @aT @fke1 @foe0 @fte0_ @fne0_ @fae0_) ?_
     show a8 _ _ _ _ _
     exact ⟨.inr rfl,_,_,rfl,rfl⟩
    ·have fae0_:=eq_false fae0
     rw[show bS x=false by rw[bX,bR];unfold cH eT;simp[fke1,foe0,fte0,fne0,fae0]]
     refine bA (qJ @aD @aE @aS @aV @bF @bJ @aT @fke1 @foe0 @fte0_ @fne0_ @fae0_) ?_
     show a8 _ _ _ _ _
     exact ⟨.inr rfl,_,_,rfl,rfl⟩
   ·have fne0_:=eq_false fne0
    rw[show bS x=false by rw[bX,bR];unfold cH eT;simp[fke1,foe0,fte0,fne0]]
    refine bA (u7 @aD @aE @aS @aV @bF @bJ @aT @fke1 @foe0 @fte0_ @fne0_) ?_
    show a8 _ _ _ _ _
    exact ⟨.inr rfl,_,_,rfl,rfl⟩
 ·have foe0_:=eq_false foe0
  rw[show bS x=false by rw[bX,bR];unfold cH eT;simp[fke1,foe0]]
  refine bA (j9 @aD @aE @aS @aV @bF @bJ @aT @fke1 @foe0_) ?_
  show a8 _ _ _ _ _
  exact ⟨.inr rfl,_,_,rfl,rfl⟩
set_option maxHeartbeats 8000000 in
theorem aME {N:Nat} (ih:uX N) (x:X) (hN:x.sz<N+1) (hM:x.sz≤MX) (fke2:x.k=2):eJ Tryz.prog Ob.cfg 173 [aG x.cells]=some (dB (bS x)):=by
 have gK:=X.sz_eq x
 have e9:=gV x.args
 have hc:=pK (p:=fun v=> !bS v) x.args (by omega) fun v hv=>aDr ih v (by have:=dZ hv;omega) (by have:=dZ hv;omega)
 simp only[dL,dB] at hc
 refine bI Tryz.func173 rfl (by kernel_rfl) rfl rfl ?_
 by_cases foe0:x.o=0
 ·have foe0_:=eq_true foe0
  by_cases fte0:x.t=0
  ·have fte0_:=eq_true fte0
   by_cases fve0:x.v=0
   ·have fve0_:=eq_true fve0
    by_cases fne0:x.nm=[]
    ·have fne0_:=eq_true fne0
     by_cases fae0:x.args=[]
     ·have fae0_:=eq_true fae0
      rw[show bS x=true by rw[bX,bR];unfold cH eT;simp[fke2,foe0,fte0,fve0,fne0,fae0]]
      refine bA (o9 @aD @aE @aS @aV @bF @bJ @aT @fke2 @foe0 @fte0 @fve0 @fne0_ @fae0_) ?_
      show a8 _ _ _ _ _
      exact ⟨.inr rfl,_,_,rfl,rfl⟩
     ·have fae0_:=eq_false fae0
      rw[show bS x=false by rw[bX,bR];unfold cH eT;simp[fke2,foe0,fte0,fve0,fne0,fae0]]
      refine bA (o9 @aD @aE @aS @aV @bF @bJ @aT @fke2 @foe0 @fte0 @fve0 @fne0_ @fae0_) ?_
      show a8 _ _ _ _ _
      exact ⟨.inr rfl,_,_,rfl,rfl⟩
    ·have fne0_:=eq_false fne0
     by_cases fae0:x.args=[]
     ·have fae0_:=eq_true fae0
      rw[show bS x=true by rw[bX,bR];unfold cH eT;simp[fke2,foe0,fte0,fve0,fne0,fae0]]
      refine bA (o9 @aD @aE @aS @aV @bF @bJ @aT @fke2 @foe0 @fte0 @fve0 @fne0_ @fae0_) ?_
      show a8 _ _ _ _ _
      exact ⟨.inr rfl,_,_,rfl,rfl⟩
     ·have fae0_:=eq_false fae0
      rw[show bS x=false by rw[bX,bR];unfold cH eT;simp[fke2,foe0,fte0,fve0,fne0,fae0]]
      refine bA (o9 @aD @aE @aS @aV @bF @bJ @aT @fke2 @foe0 @fte0 @fve0 @fne0_ @fae0_) ?_
      show a8 _ _ _ _ _
      exact ⟨.inr rfl,_,_,rfl,rfl⟩
   ·have fve0_:=eq_false fve0
    rw[show bS x=false by rw[bX,bR];unfold cH eT;simp[fke2,foe0,fte0,fve0]]
    refine bA (u7 @aD @aE @aS @aV @bF @bJ @aT @fke2 @foe0 @fte0 @fve0_) ?_
    show a8 _ _ _ _ _
    exact ⟨.inr rfl,_,_,rfl,rfl⟩
  ·have fte0_:=eq_false fte0
   rw[show bS x=false by rw[bX,bR];unfold cH eT;simp[fke2,foe0,fte0]]
   refine bA (oR @aD @aE @aS @aV @bF @bJ @aT @fke2 @foe0 @fte0_) ?_
   show a8 _ _ _ _ _
   exact ⟨.inr rfl,_,_,rfl,rfl⟩
 ·have foe0_:=eq_false foe0
  rw[show bS x=false by rw[bX,bR];unfold cH eT;simp[fke2,foe0]]
  refine bA (j9 @aD @aE @aS @aV @bF @bJ @aT @fke2 @foe0_) ?_
  show a8 _ _ _ _ _
  exact ⟨.inr rfl,_,_,rfl,rfl⟩
set_option maxHeartbeats 8000000 in
theorem aKI {N:Nat} (ih:uX N) (x:X) (hN:x.sz<N+1) (hM:x.sz≤MX) (fke12:x.k=12):eJ Tryz.prog Ob.cfg 173 [aG x.cells]=some (dB (bS x)):=by
 have gK:=X.sz_eq x
 have e9:=gV x.args
 have hc:=pK (p:=fun v=> !bS v) x.args (by omega) fun v hv=>aDr ih v (by have:=dZ hv;omega) (by have:=dZ hv;omega)
 simp only[dL,dB] at hc
 refine bI Tryz.func173 rfl (by kernel_rfl) rfl rfl ?_
 by_cases foe0:x.o=0
 ·have foe0_:=eq_true foe0
  by_cases fte0:x.t=0
  ·have fte0_:=eq_true fte0
   by_cases fve0:x.v=0
   ·have fve0_:=eq_true fve0
    by_cases fne0:x.nm=[]
    ·have fne0_:=eq_true fne0
     by_cases fae0:x.args=[]
     ·have fae0_:=eq_true fae0
      rw[show bS x=true by rw[bX,bR];unfold cH eT;simp[fke12,foe0,fte0,fve0,fne0,fae0]]
      refine bA (o9 @aD @aE @aS @aV @bF @bJ @aT @fke12 @foe0 @fte0 @fve0 @fne0_ @fae0_) ?_
      show a8 _ _ _ _ _
      exact ⟨.inr rfl,_,_,rfl,rfl⟩
     ·have fae0_:=eq_false fae0
      rw[show bS x=false by rw[bX,bR];unfold cH eT;simp[fke12,foe0,fte0,fve0,fne0,fae0]]
      refine bA (o9 @aD @aE @aS @aV @bF @bJ @aT @fke12 @foe0 @fte0 @fve0 @fne0_ @fae0_) ?_
      show a8 _ _ _ _ _
      exact ⟨.inr rfl,_,_,rfl,rfl⟩
    ·have fne0_:=eq_false fne0
     by_cases fae0:x.args=[]
     ·have fae0_:=eq_true fae0
      rw[show bS x=true by rw[bX,bR];unfold cH eT;simp[fke12,foe0,fte0,fve0,fne0,fae0]]
      refine bA (o9 @aD @aE @aS @aV @bF @bJ @aT @fke12 @foe0 @fte0 @fve0 @fne0_ @fae0_) ?_
      show a8 _ _ _ _ _
      exact ⟨.inr rfl,_,_,rfl,rfl⟩
     ·have fae0_:=eq_false fae0
      rw[show bS x=false by rw[bX,bR];unfold cH eT;simp[fke12,foe0,fte0,fve0,fne0,fae0]]
      refine bA (o9 @aD @aE @aS @aV @bF @bJ @aT @fke12 @foe0 @fte0 @fve0 @fne0_ @fae0_) ?_
      show a8 _ _ _ _ _
      exact ⟨.inr rfl,_,_,rfl,rfl⟩
   ·have fve0_:=eq_false fve0
    rw[show bS x=false by rw[bX,bR];unfold cH eT;simp[fke12,foe0,fte0,fve0]]
    refine bA (u7 @aD @aE @aS @aV @bF @bJ @aT @fke12 @foe0 @fte0 @fve0_) ?_
    show a8 _ _ _ _ _
    exact ⟨.inr rfl,_,_,rfl,rfl⟩
  ·have fte0_:=eq_false fte0
   rw[show bS x=false by rw[bX,bR];unfold cH eT;simp[fke12,foe0,fte0]]
   refine bA (oR @aD @aE @aS @aV @bF @bJ @aT @fke12 @foe0 @fte0_) ?_
   show a8 _ _ _ _ _
   exact ⟨.inr rfl,_,_,rfl,rfl⟩
 ·have foe0_:=eq_false foe0
  rw[show bS x=false by rw[bX,bR];unfold cH eT;simp[fke12,foe0]]
  refine bA (j9 @aD @aE @aS @aV @bF @bJ @aT @fke12 @foe0_) ?_
  show a8 _ _ _ _ _
  exact ⟨.inr rfl,_,_,rfl,rfl⟩
set_option maxHeartbeats 8000000 in
theorem aMz {N:Nat} (ih:uX N) (x:X) (hN:x.sz<N+1) (hM:x.sz≤MX) (fke3:x.k=3):eJ Tryz.prog Ob.cfg 173 [aG x.cells]=some (dB (bS x)):=by
 have gK:=X.sz_eq x
 have e9:=gV x.args
 have hc:=pK (p:=fun v=> !bS v) x.args (by omega) fun v hv=>aDr ih v (by have:=dZ hv;omega) (by have:=dZ hv;omega)
 simp only[dL,dB] at hc
 refine bI Tryz.func173 rfl (by kernel_rfl) rfl rfl ?_
 by_cases foe0:x.o=0
 ·have foe0_:=eq_true foe0
  by_cases fte0:x.t=0
  ·have fte0_:=eq_true fte0
   by_cases fve0:x.v=0
   ·have fve0_:=eq_true fve0
    by_cases fne0:x.nm=[]
    ·have fne0_:=eq_true fne0
     rw[show bS x=false by rw[bX,bR];unfold cH;simp[fke3,foe0,fte0,fve0,fne0,eT]]
     refine bA (qJ @aD @aE @aS @aV @bF @bJ @aT @fke3 @foe0 @fte0 @fve0 @fne0_) ?_
     show a8 _ _ _ _ _
     exact ⟨.inr rfl,_,_,rfl,rfl⟩
    ·have fne0_:=eq_false fne0
     rw[show bS x=false by rw[bX,bR];unfold cH;simp[fke3,foe0,fte0,fve0,fne0,eT]]
     refine bA (qJ @aD @aE @aS @aV @bF @bJ @aT @fke3 @foe0 @fte0 @fve0 @fne0_) ?_
     show a8 _ _ _ _ _
     exact ⟨.inr rfl,_,_,rfl,rfl⟩
   ·have fve0_:=eq_false fve0
    rw[show bS x=false by rw[bX,bR];unfold cH;simp[fke3,foe0,fte0,fve0,eT]]
    refine bA (u7 @aD @aE @aS @aV @bF @bJ @aT @fke3 @foe0 @fte0 @fve0_) ?_
    show a8 _ _ _ _ _
    exact ⟨.inr rfl,_,_,rfl,rfl⟩
  ·have fte0_:=eq_false fte0
   rw[show bS x=false by rw[bX,bR];unfold cH;simp[fke3,foe0,fte0,eT]]
   refine bA (oR @aD @aE @aS @aV @bF @bJ @aT @fke3 @foe0 @fte0_) ?_
   show a8 _ _ _ _ _
   exact ⟨.inr rfl,_,_,rfl,rfl⟩
 ·have foe0_:=eq_false foe0
  by_cases foe1:x.o=1
  ·have foe1_:=eq_true foe1
   by_cases fae1:(x.args.length:Int)=1
   ·have fae1_:=eq_true fae1
    by_cases fte0:x.t=0
    ·have fte0_:=eq_true fte0
     by_cases fve0:x.v=0
     ·have fve0_:=eq_true fve0
      by_cases fne0:x.nm=[]
      ·have fne0_:=eq_true fne0
       rw[show bS x= !(x.args.any fun v=> !bS v) by rw[aCz,bX,bR];unfold cH;simp[fke3,foe0,foe1,fae1,fte0,fve0,fne0,eT]]
       refine bA (vG @aD @aE @aS @aV @bF @bJ @hc @aT @fke3 @foe0_ @foe1 @fae1_ @fte0 @fve0 @fne0_) ?_
       show a8 _ _ _ _ _
       exact ⟨.inr rfl,_,_,rfl,rfl⟩
      ·have fne0_:=eq_false fne0
       rw[show bS x=false by rw[bX,bR];unfold cH;simp[fke3,foe0,foe1,fae1,fte0,fve0,fne0,eT]]
       refine bA (vM @aD @aE @aS @aV @bF @bJ @aT @fke3 @foe0_ @foe1 @fae1_ @fte0 @fve0 @fne0_) ?_
       show a8 _ _ _ _ _
       exact ⟨.inr rfl,_,_,rfl,rfl⟩
     ·have fve0_:=eq_false fve0
      rw[show bS x=false by rw[bX,bR];unfold cH;simp[fke3,foe0,foe1,fae1,fte0,fve0,eT]]
      refine bA (o9 @aD @aE @aS @aV @bF @bJ @aT @fke3 @foe0_ @foe1 @fae1_ @fte0 @fve0_) ?_
      show a8 _ _ _ _ _
      exact ⟨.inr rfl,_,_,rfl,rfl⟩
    ·have fte0_:=eq_false fte0
     rw[show bS x=false by rw[bX,bR];unfold cH;simp[fke3,foe0,foe1,fae1,fte0,eT]]
     refine bA (qJ @aD @aE @aS @aV @bF @bJ @aT @fke3 @foe0_ @foe1 @fae1_ @fte0_) ?_
     show a8 _ _ _ _ _
     exact ⟨.inr rfl,_,_,rfl,rfl⟩
   ·have fae1_:=eq_false fae1
    rw[show bS x=false by rw[bX,bR];unfold cH;simp[fke3,foe0,foe1,fae1,eT];by_cases hq:x.t=0∧x.v=0∧x.nm=[] <;> simp[hq,fae1]]
    refine bA (u7 @aD @aE @aS @aV @bF @bJ @aT @fke3 @foe0_ @foe1 @fae1_) ?_
    show a8 _ _ _ _ _
    exact ⟨.inr rfl,_,_,rfl,rfl⟩
  ·have foe1_:=eq_false foe1
   by_cases foe2:x.o=2
   ·have foe2_:=eq_true foe2
    by_cases fae1:(x.args.length:Int)=1
    ·have fae1_:=eq_true fae1
     by_cases fte0:x.t=0
     ·have fte0_:=eq_true fte0
      by_cases fve0:x.v=0
      ·have fve0_:=eq_true fve0
       by_cases fne0:x.nm=[]
       ·have fne0_:=eq_true fne0
        rw[show bS x= !(x.args.any fun v=> !bS v) by rw[aCz,bX,bR];unfold cH;simp[fke3,foe0,foe1,foe2,fae1,fte0,fve0,fne0,eT]]
        refine bA (nB @aD @aE @aS @aV @bF @bJ @hc @aT @fke3 @foe0_ @foe1_ @foe2 @fae1_ @fte0 @fve0 @fne0_) ?_
        show a8 _ _ _ _ _
        exact ⟨.inr rfl,_,_,rfl,rfl⟩
       ·have fne0_:=eq_false fne0
        rw[show bS x=false by rw[bX,bR];unfold cH;simp[fke3,foe0,foe1,foe2,fae1,fte0,fve0,fne0,eT]]
        refine bA (vG @aD @aE @aS @aV @bF @bJ @aT @fke3 @foe0_ @foe1_ @foe2 @fae1_ @fte0 @fve0 @fne0_) ?_
        show a8 _ _ _ _ _
        exact ⟨.inr rfl,_,_,rfl,rfl⟩
      ·have fve0_:=eq_false fve0
       rw[show bS x=false by rw[bX,bR];unfold cH;simp[fke3,foe0,foe1,foe2,fae1,fte0,fve0,eT]]
       refine bA (vM @aD @aE @aS @aV @bF @bJ @aT @fke3 @foe0_ @foe1_ @foe2 @fae1_ @fte0 @fve0_) ?_
       show a8 _ _ _ _ _
       exact ⟨.inr rfl,_,_,rfl,rfl⟩
     ·have fte0_:=eq_false fte0
      rw[show bS x=false by rw[bX,bR];unfold cH;simp[fke3,foe0,foe1,foe2,fae1,fte0,eT]]
      refine bA (o9 @aD @aE @aS @aV @bF @bJ @aT @fke3 @foe0_ @foe1_ @foe2 @fae1_ @fte0_) ?_
      show a8 _ _ _ _ _
      exact ⟨.inr rfl,_,_,rfl,rfl⟩
    ·have fae1_:=eq_false fae1
     rw[show bS x=false by rw[bX,bR];unfold cH;simp[fke3,foe0,foe1,foe2,fae1,eT];by_cases hq:x.t=0∧x.v=0∧x.nm=[] <;> simp[hq,fae1]]
     refine bA (qJ @aD @aE @aS @aV @bF @bJ @aT @fke3 @foe0_ @foe1_ @foe2 @fae1_) ?_
     show a8 _ _ _ _ _
     exact ⟨.inr rfl,_,_,rfl,rfl⟩
   ·have foe2_:=eq_false foe2
    by_cases fol1:x.o<1
    ·have fol1_:=eq_true fol1
     have har:eT x.o=0:=by unfold eT;rw[if_neg (by omega),if_neg (by omega)]
     rw[show bS x=false by rw[bX,bR];unfold cH;simp[fke3,foe0,foe1,foe2,fol1,har]]
     refine bA (qJ @aD @aE @aS @aV @bF @bJ @aT @fke3 @foe0_ @foe1_ @foe2_ @fol1_) ?_
     show a8 _ _ _ _ _
     exact ⟨.inr rfl,_,_,rfl,rfl⟩
    ·have fol1_:=eq_false fol1
     by_cases fog16:16<x.o
     ·have fog16_:=eq_true fog16
      have har:eT x.o=0:=by unfold eT;rw[if_neg (by omega),if_neg (by omega)]
      rw[show bS x=false by rw[bX,bR];unfold cH;simp[fke3,foe0,foe1,foe2,fol1,fog16,har]]
      refine bA (o9 @aD @aE @aS @aV @bF @bJ @aT @fke3 @foe0_ @foe1_ @foe2_ @fol1_ @fog16_) ?_
      show a8 _ _ _ _ _
      exact ⟨.inr rfl,_,_,rfl,rfl⟩
     ·have fog16_:=eq_false fog16
      by_cases fae2:(x.args.length:Int)=2
      ·have fae2_:=eq_true fae2
       by_cases fte0:x.t=0
       ·have fte0_:=eq_true fte0
        by_cases fve0:x.v=0
        ·have fve0_:=eq_true fve0
         by_cases fne0:x.nm=[]
         ·have fne0_:=eq_true fne0
          have har:eT x.o=2:=by unfold eT;rw[if_neg (by omega),if_pos (by omega)]
          rw[show bS x= !(x.args.any fun v=> !bS v) by rw[aCz,bX,bR];unfold cH;simp[fke3,foe0,foe1,foe2,fol1,fog16,fae2,fte0,fve0,fne0,har]]
          refine bA (vP @aD @aE @aS @aV @bF @bJ @hc @aT @fke3 @foe0_ @foe1_ @foe2_ @fol1_ @fog16_ @fae2_ @fte0 @fve0 @fne0_) ?_
          show a8 _ _ _ _ _
          exact ⟨.inr rfl,_,_,rfl,rfl⟩
         ·have fne0_:=eq_false fne0
          have har:eT x.o=2:=by unfold eT;rw[if_neg (by omega),if_pos (by omega)]
          rw[show bS x=false by rw[bX,bR];unfold cH;simp[fke3,foe0,foe1,foe2,fol1,fog16,fae2,fte0,fve0,fne0,har]]
          refine bA (sG @aD @aE @aS @aV @bF @bJ @aT @fke3 @foe0_ @foe1_ @foe2_ @fol1_ @fog16_ @fae2_ @fte0 @fve0 @fne0_) ?_
          show a8 _ _ _ _ _
          exact ⟨.inr rfl,_,_,rfl,rfl⟩
        ·have fve0_:=eq_false fve0
         have har:eT x.o=2:=by unfold eT;rw[if_neg (by omega),if_pos (by omega)]
         rw[show bS x=false by rw[bX,bR];unfold cH;simp[fke3,foe0,foe1,foe2,fol1,fog16,fae2,fte0,fve0,har]]
         refine bA (nB @aD @aE @aS @aV @bF @bJ @aT @fke3 @foe0_ @foe1_ @foe2_ @fol1_ @fog16_ @fae2_ @fte0 @fve0_) ?_
         show a8 _ _ _ _ _
         exact ⟨.inr rfl,_,_,rfl,rfl⟩
       ·have fte0_:=eq_false fte0
        have har:eT x.o=2:=by unfold eT;rw[if_neg (by omega),if_pos (by omega)]
        rw[show bS x=false by rw[bX,bR];unfold cH;simp[fke3,foe0,foe1,foe2,fol1,fog16,fae2,fte0,har]]
        refine bA (vG @aD @aE @aS @aV @bF @bJ @aT @fke3 @foe0_ @foe1_ @foe2_ @fol1_ @fog16_ @fae2_ @fte0_) ?_
        show a8 _ _ _ _ _
        exact ⟨.inr rfl,_,_,rfl,rfl⟩
      ·have fae2_:=eq_false fae2
       have har:eT x.o=2:=by unfold eT;rw[if_neg (by omega),if_pos (by omega)]
       rw[show bS x=false by rw[bX,bR];unfold cH;simp[fke3,foe0,foe1,foe2,fol1,fog16,fae2,har];by_cases hq:x.t=0∧x.v=0∧x.nm=[] <;> simp[hq,fae2]]
       refine bA (vM @aD @aE @aS @aV @bF @bJ @aT @fke3 @foe0_ @foe1_ @foe2_ @fol1_ @fog16_ @fae2_) ?_
       show a8 _ _ _ _ _
       exact ⟨.inr rfl,_,_,rfl,rfl⟩
set_option maxHeartbeats 8000000 in
theorem aML {N:Nat} (ih:uX N) (x:X) (hN:x.sz<N+1) (hM:x.sz≤MX) (fke4:x.k=4):eJ Tryz.prog Ob.cfg 173 [aG x.cells]=some (dB (bS x)):=by
 have gK:=X.sz_eq x
 have e9:=gV x.args
 have hc:=pK (p:=fun v=> !bS v) x.args (by omega) fun v hv=>aDr ih v (by have:=dZ hv;omega) (by have:=dZ hv;omega)
 simp only[dL,dB] at hc
 refine bI Tryz.func173 rfl (by kernel_rfl) rfl rfl ?_
 by_cases foe0:x.o=0
 ·have foe0_:=eq_true foe0
  by_cases fte0:x.t=0
  ·have fte0_:=eq_true fte0
   by_cases fve0:x.v=0
   ·have fve0_:=eq_true fve0
    by_cases fne0:x.nm=[]
    ·have fne0_:=eq_true fne0
     by_cases fae3:(x.args.length:Int)=3
     ·have fae3_:=eq_true fae3
      rw[show bS x= !(x.args.any fun v=> !bS v) by rw[aCz,bX,bR];unfold cH eT;simp[fke4,foe0,fte0,fve0,fne0,fae3]]
      refine bA (vM @aD @aE @aS @aV @bF @bJ @hc @aT @fke4 @foe0 @fte0 @fve0 @fne0_ @fae3_) ?_
      show a8 _ _ _ _ _
      exact ⟨.inr rfl,_,_,rfl,rfl⟩
     ·have fae3_:=eq_false fae3
      rw[show bS x=false by rw[bX,bR];unfold cH eT;simp[fke4,foe0,fte0,fve0,fne0,fae3]]
      refine bA (o9 @aD @aE @aS @aV @bF @bJ @aT @fke4 @foe0 @fte0 @fve0 @fne0_ @fae3_) ?_
      show a8 _ _ _ _ _
      exact ⟨.inr rfl,_,_,rfl,rfl⟩
    ·have fne0_:=eq_false fne0
     rw[show bS x=false by rw[bX,bR];unfold cH eT;simp[fke4,foe0,fte0,fve0,fne0]]
     refine bA (qJ @aD @aE @aS @aV @bF @bJ @aT @fke4 @foe0 @fte0 @fve0 @fne0_) ?_
     show a8 _ _ _ _ _
     exact ⟨.inr rfl,_,_,rfl,rfl⟩
   ·have fve0_:=eq_false fve0
    rw[show bS x=false by rw[bX,bR];unfold cH eT;simp[fke4,foe0,fte0,fve0]]
    refine bA (u7 @aD @aE @aS @aV @bF @bJ @aT @fke4 @foe0 @fte0 @fve0_) ?_
    show a8 _ _ _ _ _
    exact ⟨.inr rfl,_,_,rfl,rfl⟩
  ·have fte0_:=eq_false fte0
   rw[show bS x=false by rw[bX,bR];unfold cH eT;simp[fke4,foe0,fte0]]
   refine bA (oR @aD @aE @aS @aV @bF @bJ @aT @fke4 @foe0 @fte0_) ?_
   show a8 _ _ _ _ _
   exact ⟨.inr rfl,_,_,rfl,rfl⟩
 ·have foe0_:=eq_false foe0
  rw[show bS x=false by rw[bX,bR];unfold cH eT;simp[fke4,foe0]]
  refine bA (j9 @aD @aE @aS @aV @bF @bJ @aT @fke4 @foe0_) ?_
  show a8 _ _ _ _ _
  exact ⟨.inr rfl,_,_,rfl,rfl⟩
set_option maxHeartbeats 8000000 in
theorem aNe (x:X) (fke1:¬ x.k=1) (fke2:¬ x.k=2) (fke12:¬ x.k=12) (fke3:¬ x.k=3) (fke4:¬ x.k=4):eJ Tryz.prog Ob.cfg 173 [aG x.cells]=some (dB (bS x)):=by
 have fke1_:=eq_false fke1
 have fke2_:=eq_false fke2
 have fke12_:=eq_false fke12
 have fke3_:=eq_false fke3
 have fke4_:=eq_false fke4
 refine bI Tryz.func173 rfl (by kernel_rfl) rfl rfl ?_
 by_cases foe0:x.o=0
 ·have foe0_:=eq_true foe0
  by_cases fte0:x.t=0
  ·have fte0_:=eq_true fte0
   by_cases fve0:x.v=0
   ·have fve0_:=eq_true fve0
    by_cases fne0:x.nm=[]
    ·have fne0_:=eq_true fne0
     have hfn:cH x.k x.o x.t x.v x.nm=none:=by unfold cH;simp[fke1,fke2,fke12,fke3,fke4]
     rw[dJ hfn]
     refine bA (nB @aD @aE @aS @aV @bF @bJ @aT @fke1_ @fke2_ @fke12_ @fke3_ @fke4_ @foe0 @fte0 @fve0 @fne0_) ?_
     show a8 _ _ _ _ _
     exact ⟨.inr rfl,_,_,rfl,rfl⟩
    ·have fne0_:=eq_false fne0
     have hfn:cH x.k x.o x.t x.v x.nm=none:=by unfold cH;simp[fke1,fke2,fke12,fke3,fke4]
     rw[dJ hfn]
     refine bA (nB @aD @aE @aS @aV @bF @bJ @aT @fke1_ @fke2_ @fke12_ @fke3_ @fke4_ @foe0 @fte0 @fve0 @fne0_) ?_
     show a8 _ _ _ _ _
     exact ⟨.inr rfl,_,_,rfl,rfl⟩
   ·have fve0_:=eq_false fve0
    have hfn:cH x.k x.o x.t x.v x.nm=none:=by unfold cH;simp[fke1,fke2,fke12,fke3,fke4]
    rw[dJ hfn]
    refine bA (vG @aD @aE @aS @aV @bF @bJ @aT @fke1_ @fke2_ @fke12_ @fke3_ @fke4_ @foe0 @fte0 @fve0_) ?_
    show a8 _ _ _ _ _
    exact ⟨.inr rfl,_,_,rfl,rfl⟩
  ·have fte0_:=eq_false fte0
   have hfn:cH x.k x.o x.t x.v x.nm=none:=by unfold cH;simp[fke1,fke2,fke12,fke3,fke4]
   rw[dJ hfn]
   refine bA (vM @aD @aE @aS @aV @bF @bJ @aT @fke1_ @fke2_ @fke12_ @fke3_ @fke4_ @foe0 @fte0_) ?_
   show a8 _ _ _ _ _
   exact ⟨.inr rfl,_,_,rfl,rfl⟩
 ·have foe0_:=eq_false foe0
  have hfn:cH x.k x.o x.t x.v x.nm=none:=by unfold cH;simp[fke1,fke2,fke12,fke3,fke4]
  rw[dJ hfn]
  refine bA (o9 @aD @aE @aS @aV @bF @bJ @aT @fke1_ @fke2_ @fke12_ @fke3_ @fke4_ @foe0_) ?_
  show a8 _ _ _ _ _
  exact ⟨.inr rfl,_,_,rfl,rfl⟩
theorem aKY:∀ N,uX N:=by
 intro N
 induction N with
 | zero=>intro x h;omega
 | succ N ih=>
 intro x hN hM
 by_cases k1:x.k=1
 ·exact aMx ih x hN hM k1
 by_cases k2:x.k=2
 ·exact aME ih x hN hM k2
 by_cases k12:x.k=12
 ·exact aKI ih x hN hM k12
 by_cases k3:x.k=3
 ·exact aMz ih x hN hM k3
 by_cases k4:x.k=4
 ·exact aML ih x hN hM k4
 exact aNe x k1 k2 k12 k3 k4
end Go.Ac
end
