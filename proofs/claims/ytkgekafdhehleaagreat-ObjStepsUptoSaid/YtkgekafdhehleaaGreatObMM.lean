/- What a statement assigns: the reference's. -/
import Derived.Test.YtkgekafdhehleaaGreatObRM
set_option linter.unusedVariables false
set_option linter.unusedSimpArgs false
section
set_option maxRecDepth 4000
namespace Go.Ac
open Go.Proofs
def inE (en:List En) (t:Int):Bool:=decide (3≤t)&&decide (t - 3<en.length)
def eAt (en:List En) (t:Int):En:=if inE en t then en.getD (t - 3).toNat ⟨[],[]⟩ else ⟨[],[]⟩
def fC (en:List En) (t:Int):Int:=if t=1 then 2 else if t=2 then 65536 else (eAt en t).tags.length
def inW (v:Int):Bool:=decide (-32768≤v)&&decide (v≤32767)
def iG (en:List En) (t v:Int):Bool:=if t=2 then inW v else decide (0≤v)&&decide (v<fC en t)
def nY (en:List En) (t:Int):Bool:=decide (t=1)||decide (t=2)||inE en t
theorem u9.sub3 {t:Int} (h:u9 t) (h3:3≤t):IntKind.i64.wrap (t - 3)=t - 3:=by unfold u9 at h;rw[aEr] <;> omega
theorem aXQ (r:Nat):Ob.keep 38 r=Ob.k38 r:=by kernel_rfl
theorem aWv (r:Nat):Ob.keep 86 r=Ob.k86 r:=by kernel_rfl
theorem aXs (r:Nat):Ob.keep 39 r=Ob.k39 r:=by kernel_rfl
theorem aSD (r:Nat):Ob.keep 101 r=Ob.k101 r:=by kernel_rfl
theorem aWV (r:Nat):Ob.keep 15 r=Ob.k15 r:=by kernel_rfl
theorem aWp (r:Nat):Ob.keep 53 r=Ob.k53 r:=by kernel_rfl
theorem aXW (r:Nat):Ob.keep 73 r=Ob.k73 r:=by kernel_rfl
theorem aUH (r:Nat):Ob.keep 106 r=Ob.k106 r:=by kernel_rfl
theorem aUE (r:Nat):Ob.keep 166 r=Ob.k166 r:=by kernel_rfl
theorem aRN (r:Nat):Ob.keep 159 r=Ob.k159 r:=by kernel_rfl
attribute [local simp] aXQ Ob.k38 aWv Ob.k86 aXs Ob.k39 aSD Ob.k101 aWV Ob.k15 aWp Ob.k53 aXW Ob.k73 aUH Ob.k106 aUE Ob.k166 aRN Ob.k159
theorem aMN (v:Int):d7 Tryz.prog Ob.cfg 38 [dI v]=some (dB (inW v)):=by
 refine bF Tryz.func38 rfl (by kernel_rfl) rfl rfl ?_
 unfold inW
 by_cases h1: -32768≤v
 ·have xN:=eq_true h1
  refine a9 (jn @aB @xN) ?_
  exact ⟨.inr rfl,_,_,rfl,by simp[h1];rfl⟩
 ·have xN:=eq_false h1
  refine a9 (jn @aB @xN) ?_
  exact ⟨.inr rfl,_,_,rfl,by simp[h1];rfl⟩
set_option maxHeartbeats 1000000 in
theorem aLA (en:List En) (t:Int) (ht:u9 t):d7 Tryz.prog Ob.cfg 86 [dL (fW en),dI t]=some (.tuple [aG (eAt en t).cells,dB (inE en t)]):=by
 refine bF Tryz.func86 rfl (by kernel_rfl) rfl rfl ?_
 by_cases h1:t<3
 ·have xN:=eq_true h1
  have hi:inE en t=false:=by unfold inE;rw[decide_eq_false (by omega)];rfl
  unfold eAt
  rw[hi]
  refine a9 (j5 @aB @aA @xN @aH @aI) ?_
  exact ⟨.inr rfl,_,_,rfl,rfl⟩
 have xN:=eq_false h1
 have hw:=ht.sub3 (by omega)
 by_cases h2:t - 3≥en.length
 ·have sV:((en.length:Int)≤t - 3)=True:=eq_true h2
  have hi:inE en t=false:=by unfold inE;rw[decide_eq_false (p:=t - 3<en.length) (by omega)];simp
  unfold eAt
  rw[hi]
  refine a9 (j7 @aB @aA @xN @sV @hw @aH @aI) ?_
  exact ⟨.inr rfl,_,_,rfl,rfl⟩
 have sV:((en.length:Int)≤t - 3)=False:=eq_false h2
 have hi:inE en t=true:=by unfold inE;rw[decide_eq_true (p:=3≤t) (by omega),decide_eq_true (by omega)];rfl
 obtain ⟨k,hk⟩:∃ k:Nat,t - 3=k:=⟨(t - 3).toNat,by omega⟩
 have hkl:k<en.length:=by omega
 obtain ⟨y,hy,vF,bS⟩:=bL hkl
 have pD:=xH hy
 have he:eAt en t=y:=by unfold eAt;rw[hi,hk];simp[List.getD,hy]
 rw[hi,he]
 rw[hk] at sV
 have hw:=hw.trans hk
 refine a9 (j8 @aB @aA @xN @sV @hw @bS @pD @En.cells.eq_1) ?_
 exact ⟨.inr rfl,_,_,rfl,rfl⟩
set_option maxHeartbeats 1000000 in
theorem aMu (en:List En) (t:Int) (ht:u9 t):d7 Tryz.prog Ob.cfg 39 [dL (fW en),dI t]=some (dI (fC en t)):=by
 have h:=aLA en t ht
 simp only[aG,En.cells,List.map_cons,List.map_nil,dL,dI,dB] at h
 refine bF Tryz.func39 rfl (by kernel_rfl) rfl rfl ?_
 unfold fC
 by_cases h1:t=1
 ·subst h1
  refine a9 (jn @aB @aA) ?_
  show a7 _ _ _ _ _
  exact ⟨.inr rfl,_,_,rfl,rfl⟩
 by_cases h2:t=2
 ·subst h2
  refine a9 (jn @aB @aA) ?_
  show a7 _ _ _ _ _
  exact ⟨.inr rfl,_,_,rfl,rfl⟩
 rw[if_neg h1,if_neg h2]
 refine a9 (j6 @aB @aA @h1 @h2 @aS @h) ?_
 show a7 _ _ _ _ _
 exact ⟨.inr rfl,_,_,rfl,rfl⟩
set_option maxHeartbeats 1000000 in
theorem aFf (en:List En) (t:Int) (ht:u9 t):d7 Tryz.prog Ob.cfg 101 [dL (fW en),dI t]=some (dI (fC en t)):=by
 refine bF Tryz.func101 rfl (by kernel_rfl) rfl rfl ?_
 unfold fC
 by_cases h1:t=1
 ·subst h1
  refine a9 (jn @aB @aA) ?_
  show a7 _ _ _ _ _
  exact ⟨.inr rfl,_,_,rfl,rfl⟩
 by_cases h2:t=2
 ·subst h2
  refine a9 (jn @aB @aA) ?_
  show a7 _ _ _ _ _
  exact ⟨.inr rfl,_,_,rfl,rfl⟩
 rw[if_neg h1,if_neg h2]
 by_cases h3:t<3
 ·have h3':=eq_true h3
  have hi:inE en t=false:=by unfold inE;rw[decide_eq_false (by omega)];rfl
  unfold eAt
  rw[hi]
  refine a9 (j6 @aB @aA @h1 @h2 @aS @h3') ?_
  show a7 _ _ _ _ _
  exact ⟨.inr rfl,_,_,rfl,rfl⟩
 have h3':=eq_false h3
 have hw:=ht.sub3 (by omega)
 by_cases h4:t - 3≥en.length
 ·have h4':((en.length:Int)≤t - 3)=True:=eq_true h4
  have hi:inE en t=false:=by unfold inE;rw[decide_eq_false (p:=t - 3<en.length) (by omega)];simp
  unfold eAt
  rw[hi]
  refine a9 (j8 @aB @aA @h1 @h2 @aS @h3' @h4' @hw) ?_
  show a7 _ _ _ _ _
  exact ⟨.inr rfl,_,_,rfl,rfl⟩
 have h4':((en.length:Int)≤t - 3)=False:=eq_false h4
 have hi:inE en t=true:=by unfold inE;rw[decide_eq_true (p:=3≤t) (by omega),decide_eq_true (by omega)];rfl
 obtain ⟨k,hk⟩:∃ k:Nat,t - 3=k:=⟨(t - 3).toNat,by omega⟩
 have hkl:k<en.length:=by omega
 obtain ⟨y,hy,vF,bS⟩:=bL hkl
 have pD:=xH hy
 have he:eAt en t=y:=by unfold eAt;rw[hi,hk];simp[List.getD,hy]
 rw[he]
 rw[hk] at h4'
 have hw:=hw.trans hk
 refine a9 (uQ @aB @aA @h1 @h2 @aS @h3' @h4' @hw @bS @pD @En.cells.eq_1) ?_
 show a7 _ _ _ _ _
 exact ⟨.inr rfl,_,_,rfl,rfl⟩
set_option maxHeartbeats 1000000 in
theorem aMr (en:List En) (t v:Int) (ht:u9 t):d7 Tryz.prog Ob.cfg 15 [dL (fW en),dI t,dI v]=some (dB (iG en t v)):=by
 have h:=aMu en t ht
 have hw:=aMN v
 simp only[dL,dI,dB] at h hw
 refine bF Tryz.func15 rfl (by kernel_rfl) rfl rfl ?_
 unfold iG
 by_cases h1:t=2
 ·subst h1
  refine a9 (j3 @aB @aA @hw) ?_
  show a7 _ _ _ _ _
  exact ⟨.inr rfl,_,_,rfl,rfl⟩
 rw[if_neg h1]
 by_cases h2:0≤v
 ·have sV:=eq_true h2
  refine a9 (j6 @aB @aA @h1 @aS @sV @h) ?_
  exact ⟨.inr rfl,_,_,rfl,by simp[h2];rfl⟩
 ·have sV:=eq_false h2
  refine a9 (j6 @aB @aA @h1 @aS @sV @h) ?_
  exact ⟨.inr rfl,_,_,rfl,by simp[h2];rfl⟩
set_option maxHeartbeats 1000000 in
theorem aMn (en:List En) (t v:Int) (ht:u9 t):d7 Tryz.prog Ob.cfg 53 [dL (fW en),dI t,dI v]=some (dB (iG en t v)):=by
 have h:=aFf en t ht
 simp only[dL,dI,dB] at h
 refine bF Tryz.func53 rfl (by kernel_rfl) rfl rfl ?_
 unfold iG
 by_cases h1:t=2
 ·subst h1
  unfold inW
  by_cases h2: -32768≤v
  ·have sV:=eq_true h2
   refine a9 (j3 @aB @aA @sV) ?_
   exact ⟨.inr rfl,_,_,rfl,by simp[h2];rfl⟩
  ·have sV:=eq_false h2
   refine a9 (j3 @aB @aA @sV) ?_
   exact ⟨.inr rfl,_,_,rfl,by simp[h2];rfl⟩
 rw[if_neg h1]
 by_cases h2:0≤v
 ·have sV:=eq_true h2
  refine a9 (j6 @aB @aA @h1 @aS @sV @h) ?_
  exact ⟨.inr rfl,_,_,rfl,by simp[h2];rfl⟩
 ·have sV:=eq_false h2
  refine a9 (j6 @aB @aA @h1 @aS @sV @h) ?_
  exact ⟨.inr rfl,_,_,rfl,by simp[h2];rfl⟩
theorem aJE (en:List En) (t:Int) (ht:u9 t):d7 Tryz.prog Ob.cfg 73 [dL (fW en),dI t]=some (dB (decide (0<fC en t))):=by
 have h:=aFf en t ht
 simp only[dL,dI,dB] at h
 refine bF Tryz.func73 rfl (by kernel_rfl) rfl rfl ?_
 refine a9 (j3 @aB @aA @h) ?_
 show a7 _ _ _ _ _
 exact ⟨.inr rfl,_,_,rfl,rfl⟩
set_option maxHeartbeats 1000000 in
theorem aFE (en:List En) (t:Int) (ht:u9 t):∃ s:Tx,d7 Tryz.prog Ob.cfg 106 [dL (fW en),dI t]=some (.tuple [dS s,dB (nY en t)]):=by
 have h:=aLA en t ht
 simp only[aG,En.cells,List.map_cons,List.map_nil,dL,dI,dB] at h
 refine yE (F:=fun s=> .tuple [dS s,dB (nY en t)]) Tryz.func106 rfl (by kernel_rfl) rfl (fun _=>rfl) ?_
 by_cases h1:t=1
 ·subst h1
  rw[show nY en 1=true by simp[nY]]
  refine a9 (jn @aB @aA) ?_
  exact ⟨_,.inr rfl,_,_,rfl,rfl⟩
 by_cases h2:t=2
 ·subst h2
  rw[show nY en 2=true by simp[nY]]
  refine a9 (jn @aB @aA) ?_
  exact ⟨_,.inr rfl,_,_,rfl,rfl⟩
 rw[show nY en t=inE en t by simp[nY,h1,h2]]
 refine a9 (j6 @aB @aA @h1 @h2 @aS @h) ?_
 exact ⟨(eAt en t).nm,.inr rfl,_,_,rfl,rfl⟩
def eN (o:Int):Int:=if o=1∨o=2 then 1 else if 2<o∧o≤16 then 2 else 0
theorem aBN (o:Int):d7 Tryz.prog Ob.cfg 166 [dI o]=some (dI (eN o)):=by
 refine bF Tryz.func166 rfl (by kernel_rfl) rfl rfl ?_
 unfold eN
 by_cases h1:o=1
 ·subst h1
  refine a9 (@aB) ?_
  show a7 _ _ _ _ _
  exact ⟨.inr rfl,_,_,rfl,rfl⟩
 by_cases h2:o=2
 ·subst h2
  refine a9 (@aB) ?_
  show a7 _ _ _ _ _
  exact ⟨.inr rfl,_,_,rfl,rfl⟩
 rw[if_neg (by omega)]
 by_cases h3:2<o
 ·have h3':=eq_true h3
  by_cases h4:o≤16
  ·have h4':=eq_true h4
   rw[if_pos ⟨h3,h4⟩]
   refine a9 (j6 @aB @h1 @h2 @aS @h3' @h4') ?_
   show a7 _ _ _ _ _
   exact ⟨.inr rfl,_,_,rfl,rfl⟩
  ·have h4':=eq_false h4
   rw[if_neg (fun h=>h4 h.2)]
   refine a9 (j6 @aB @h1 @h2 @aS @h3' @h4') ?_
   show a7 _ _ _ _ _
   exact ⟨.inr rfl,_,_,rfl,rfl⟩
 ·have h3':=eq_false h3
  rw[if_neg (fun h=>h3 h.1)]
  refine a9 (j5 @aB @h1 @h2 @aS @h3') ?_
  show a7 _ _ _ _ _
  exact ⟨.inr rfl,_,_,rfl,rfl⟩
theorem aTM (o:Int):d7 Tryz.prog Ob.cfg 159 [dI o]=some (dI (eN o)):=by
 have h:=aBN o
 simp only[dI] at h
 refine bF Tryz.func159 rfl (by kernel_rfl) rfl rfl ?_
 refine a9 (jn @aB @h) ?_
 show a7 _ _ _ _ _
 exact ⟨.inr rfl,_,_,rfl,rfl⟩
end Go.Ac
end
section
set_option maxRecDepth 4000
namespace Go.Ac
open Go.Proofs
theorem mR {α:Type} {p:α→Bool}:∀ {l:List α} {j:Nat} {d:α},(l.take j).all (fun a=> !p a)=true→l[j]?=some d→p d=true→l.find? p=some d
 | a::l,0,d,_,h,hp=>by simp at h;subst h;simp[hp]
 | a::l,j+1,d,hn,h,hp=>by
  simp only[List.take_succ_cons,List.all_cons,Bool.and_eq_true] at hn
  have ha:p a=false:=by simpa using hn.1
  simp only[List.find?_cons,ha]
  exact mR hn.2 (by simpa using h) hp
 | [],j,d,_,h,_=>by simp at h
theorem kM {α:Type} {p:α→Bool}:∀ {l:List α},l.all (fun a=> !p a)=true→l.find? p=none
 | [],_=>rfl
 | a::l,h=>by
  simp only[List.all_cons,Bool.and_eq_true] at h
  have ha:p a=false:=by simpa using h.1
  simp only[List.find?_cons,ha]
  exact kM h.2
theorem bZ {α:Type} {p:α→Bool} {l:List α} {j:Nat} {x:α} (h:l[j]?=some x):(l.take (j+1)).all p=((l.take j).all p&&p x):=by
 rw[List.take_add_one,h];simp
structure Pr where
 nm:Tx
 br:Nat
def Pr.cells (x:Pr):List D:=[.str x.nm,.int .i64 x.br]
def iB (l:List Pr):List (List D):=l.map Pr.cells
theorem lE (l:List Pr):(iB l).length=l.length:=by simp[iB]
theorem aFa {l:List Pr} {i:Nat} {y:Pr} (h:l[i]?=some y):(iB l)[i]?=some y.cells:=by unfold iB;simp[h]
attribute [simp] lE
structure Pl where
 o:Oc
 c:Cl
 bf:List Y
 cx:List Pr
def Pl.cells (x:Pl):List D:=[.slice (fW x.o.en),.slice (gA x.o.cl),.str x.c.nm,.slice (cM x.c.inn),.slice (cM x.c.out),.slice (cM x.c.loc),.slice (lA x.c.mems),.slice (mD x.c.ins),.slice (dJ x.c.step),.slice (dJ x.bf),.slice (iB x.cx)]
theorem aK:type_of% @Pl.cells.eq_1:=@Pl.cells.eq_1
def fG (l:List Dc) (x:Tx):Int:=match l.find? (fun d=>decide (d.nm=x)) with|some d=>d.t|none=>0
def eK (l:List Mm) (x:Tx):Int:=match l.find? (fun d=>decide (d.nm=x)) with|some d=>d.t|none=>0
def clZ:Cl:=⟨[],[],[],[],[],[],[]⟩
def cX (l:List Cl) (x:Tx):Cl×Bool:=match l.find? (fun d=>decide (d.nm=x)) with|some d=>(d,true)|none=>(clZ,false)
def e9 (l:List Ii) (cs:List Cl) (x:Tx):Cl×Bool:=match l.find? (fun d=>decide (d.nm=x)) with|some d=>cX cs d.cl|none=>(clZ,false)
theorem aXl (r:Nat):Ob.keep 75 r=Ob.k75 r:=by kernel_rfl
attribute [local simp] aXl Ob.k75
set_option maxHeartbeats 1000000 in
theorem aJi (l:List Tx) (x:Tx) (hl:l.length≤MX):d7 Tryz.prog Ob.cfg 75 [dL (eT l),dS x]=some (dB (decide (x∈l))):=by
 unfold MX at hl
 refine bF Tryz.func75 rfl (by kernel_rfl) rfl rfl ?_
 refine a9 (jn @aA @aM) ?_
 apply WP.loop' (I:=fun D s=>∃ j:Nat,j+D=l.length∧(l.take j).all (fun d:Tx=> !decide (d=x))=true∧SE [(0,dL (eT l)),(1,dS x),(5,dI j)] [] 0 s) (d:=l.length)
 ·exact ⟨0,by simp,by simp,SE.mk (by simp[dI,dL,dS]) (by simp)⟩
 rintro D _ ⟨j,hj,cD,cc,rfl⟩
 refine wk (j3 @aB @aA @aM) ?_
 show WP _ _ _ _ _ _
 refine WP.cond _ rfl (fun hb=>?_) (fun hb=>?_)
 ·simp at hb
  have bR:j<l.length:=by omega
  obtain ⟨d,hd,d9,bS⟩:=bL bR
  have cF:=sJ hd
  have hw:=bG bR (by omega)
  have hs:=bZ (p:=fun d:Tx=> !decide (d=x)) hd
  by_cases hq:d=x
  ·have gQ:=eq_true hq
   have hf:=mR (p:=fun d:Tx=>decide (d=x)) cD hd (decide_eq_true hq)
   have hm:decide (x∈l)=true:=decide_eq_true (by rw[←hq];exact d9)
   rw[hm]
   refine a9 (j7 @aB @aA @aM @bS @cF @bE @gQ) ?_
   show a7 _ _ _ _ _
   exact ⟨.inr rfl,_,_,rfl,rfl⟩
  ·have gQ:=eq_false hq
   refine a9 (j7 @aB @aA @aM @bS @cF @bE @gQ) ?_
   refine aY (by simp[hw];exact Is.rfl) ?_
   exact ⟨D - 1,by omega,j+1,by omega,by rw[hs,cD,decide_eq_false hq];rfl,SE.mk (by simp[dI,dL,dS,hw]) (by simp)⟩
 ·simp at hb
  have eM:j=l.length:=by omega
  rw[eM,List.take_length] at cD
  have hf:=kM (p:=fun d:Tx=>decide (d=x)) cD
  have hm:decide (x∈l)=false:=decide_eq_false (fun h=>by have:=List.all_eq_true.1 cD x h;simp at this)
  rw[hm]
  refine a9 (j5 @aB @aA @aM @aH @aI) ?_
  show a7 _ _ _ _ _
  exact ⟨.inr rfl,_,_,rfl,rfl⟩
theorem aSp (r:Nat):Ob.keep 161 r=Ob.k161 r:=by kernel_rfl
attribute [local simp] aSp Ob.k161
set_option maxHeartbeats 1000000 in
theorem aCf (l:List Dc) (x:Tx) (hl:l.length≤MX):d7 Tryz.prog Ob.cfg 161 [dL (cM l),dS x]=some (dI (fG l x)):=by
 unfold MX at hl
 refine bF Tryz.func161 rfl (by kernel_rfl) rfl rfl ?_
 refine a9 (jn @aA @aM) ?_
 apply WP.loop' (I:=fun D s=>∃ j:Nat,j+D=l.length∧(l.take j).all (fun d:Dc=> !decide (d.nm=x))=true∧SE [(0,dL (cM l)),(1,dS x),(5,dI j)] [] 0 s) (d:=l.length)
 ·exact ⟨0,by simp,by simp,SE.mk (by simp[dI,dL,dS]) (by simp)⟩
 rintro D _ ⟨j,hj,cD,cc,rfl⟩
 refine wk (j3 @aB @aA @aM) ?_
 show WP _ _ _ _ _ _
 refine WP.cond _ rfl (fun hb=>?_) (fun hb=>?_)
 ·simp at hb
  have bR:j<l.length:=by omega
  obtain ⟨d,hd,d9,bS⟩:=bL bR
  have cF:=d6 hd
  have hw:=bG bR (by omega)
  have hs:=bZ (p:=fun d:Dc=> !decide (d.nm=x)) hd
  by_cases hq:d.nm=x
  ·have gQ:=eq_true hq
   have hf:=mR (p:=fun d:Dc=>decide (d.nm=x)) cD hd (decide_eq_true hq)
   have hm:fG l x=d.t:=by unfold fG;rw[hf]
   rw[hm]
   refine a9 (j8 @aB @aA @aM @bS @cF @bE @gQ @aP) ?_
   show a7 _ _ _ _ _
   exact ⟨.inr rfl,_,_,rfl,rfl⟩
  ·have gQ:=eq_false hq
   refine a9 (j8 @aB @aA @aM @bS @cF @bE @gQ @aP) ?_
   refine aY (by simp[hw];exact Is.rfl) ?_
   exact ⟨D - 1,by omega,j+1,by omega,by rw[hs,cD,decide_eq_false hq];rfl,SE.mk (by simp[dI,dL,dS,hw]) (by simp)⟩
 ·simp at hb
  have eM:j=l.length:=by omega
  rw[eM,List.take_length] at cD
  have hf:=kM (p:=fun d:Dc=>decide (d.nm=x)) cD
  have hm:fG l x=0:=by unfold fG;rw[hf]
  rw[hm]
  refine a9 (j5 @aB @aA @aM @aH @aI) ?_
  show a7 _ _ _ _ _
  exact ⟨.inr rfl,_,_,rfl,rfl⟩
theorem aSJ (r:Nat):Ob.keep 117 r=Ob.k117 r:=by kernel_rfl
attribute [local simp] aSJ Ob.k117
set_option maxHeartbeats 1000000 in
theorem aLY (w:Pl) (x:Tx) (hl:w.c.mems.length≤MX):d7 Tryz.prog Ob.cfg 117 [aG w.cells,dS x]=some (dI (eK w.c.mems x)):=by
 unfold MX at hl
 refine bF Tryz.func117 rfl (by kernel_rfl) rfl rfl ?_
 refine a9 (j4 @aD @aK @aA @aM) ?_
 apply WP.loop' (I:=fun D s=>∃ j:Nat,j+D=w.c.mems.length∧(w.c.mems.take j).all (fun d:Mm=> !decide (d.nm=x))=true∧SE [(1,dS x),(2,.ptr 0 0 0),(5,dI j)] [(0,⟨0,false,w.cells.map .d⟩)] 1 s) (d:=w.c.mems.length)
 ·exact ⟨0,by simp,by simp,SE.mk (by simp[dI,dL,dS]) (by simp[Pl.cells])⟩
 rintro D _ ⟨j,hj,cD,cc,rfl⟩
 refine wk (j4 @aB @aA @aM @aK) ?_
 show WP _ _ _ _ _ _
 refine WP.cond _ rfl (fun hb=>?_) (fun hb=>?_)
 ·simp at hb
  have bR:j<w.c.mems.length:=by omega
  obtain ⟨d,hd,d9,bS⟩:=bL bR
  have cF:=mU hd
  have hw:=bG bR (by omega)
  have hs:=bZ (p:=fun d:Mm=> !decide (d.nm=x)) hd
  by_cases hq:d.nm=x
  ·have gQ:=eq_true hq
   have hf:=mR (p:=fun d:Mm=>decide (d.nm=x)) cD hd (decide_eq_true hq)
   have hm:eK w.c.mems x=d.t:=by unfold eK;rw[hf]
   rw[hm]
   refine a9 (j9 @aB @aA @aM @bS @cF @bE @gQ @Mm.cells.eq_1 @aK) ?_
   show a7 _ _ _ _ _
   exact ⟨.inr rfl,_,_,rfl,rfl⟩
  ·have gQ:=eq_false hq
   refine a9 (j9 @aB @aA @aM @bS @cF @bE @gQ @Mm.cells.eq_1 @aK) ?_
   refine aY (by simp[hw];exact Is.rfl) ?_
   exact ⟨D - 1,by omega,j+1,by omega,by rw[hs,cD,decide_eq_false hq];rfl,SE.mk (by simp[dI,dL,dS,hw]) (by simp[Pl.cells])⟩
 ·simp at hb
  have eM:j=w.c.mems.length:=by omega
  rw[eM,List.take_length] at cD
  have hf:=kM (p:=fun d:Mm=>decide (d.nm=x)) cD
  have hm:eK w.c.mems x=0:=by unfold eK;rw[hf]
  rw[hm]
  refine a9 (j6 @aB @aA @aM @aK @aH @aI) ?_
  show a7 _ _ _ _ _
  exact ⟨.inr rfl,_,_,rfl,rfl⟩
theorem aWr (r:Nat):Ob.keep 51 r=Ob.k51 r:=by kernel_rfl
attribute [local simp] aWr Ob.k51
set_option maxHeartbeats 1000000 in
theorem zF (o:Oc) (x:Tx) (hl:o.cl.length≤MX):d7 Tryz.prog Ob.cfg 51 [aG o.cells,dS x]=some (.tuple [aG (cX o.cl x).1.cells,dB (cX o.cl x).2]):=by
 unfold MX at hl
 refine bF Tryz.func51 rfl (by kernel_rfl) rfl rfl ?_
 refine a9 (j4 @aD @aL @aA @aM) ?_
 apply WP.loop' (I:=fun D s=>∃ j:Nat,j+D=o.cl.length∧(o.cl.take j).all (fun d:Cl=> !decide (d.nm=x))=true∧SE [(1,dS x),(2,.ptr 0 0 0),(4,.ptr 1 1 0),(6,dI j)] [(0,⟨0,false,o.cells.map .d⟩),(1,⟨1,false,[.d (.str []),.full [],.full [],.full [],.full [],.full [],.full []]⟩)] 2 s) (d:=o.cl.length)
 ·exact ⟨0,by simp,by simp,SE.mk (by simp[dI,dL,dS]) (by simp[Oc.cells])⟩
 rintro D _ ⟨j,hj,cD,cc,rfl⟩
 refine wk (j4 @aB @aA @aM @aL) ?_
 show WP _ _ _ _ _ _
 refine WP.cond _ rfl (fun hb=>?_) (fun hb=>?_)
 ·simp at hb
  have bR:j<o.cl.length:=by omega
  obtain ⟨d,hd,d9,bS⟩:=bL bR
  have cF:=kU hd
  have hw:=bG bR (by omega)
  have hs:=bZ (p:=fun d:Cl=> !decide (d.nm=x)) hd
  by_cases hq:d.nm=x
  ·have gQ:=eq_true hq
   have hf:=mR (p:=fun d:Cl=>decide (d.nm=x)) cD hd (decide_eq_true hq)
   have hm:cX o.cl x=(d,true):=by unfold cX;rw[hf]
   rw[hm]
   refine a9 (j9 @aB @aA @aM @bS @cF @bE @gQ @aJ @aL) ?_
   exact ⟨.inr rfl,_,_,rfl,rfl⟩
  ·have gQ:=eq_false hq
   refine a9 (j9 @aB @aA @aM @bS @cF @bE @gQ @aJ @aL) ?_
   refine aY (by simp[hw];exact Is.rfl) ?_
   exact ⟨D - 1,by omega,j+1,by omega,by rw[hs,cD,decide_eq_false hq];rfl,SE.mk (by simp[dI,dL,dS,hw]) (by simp[Oc.cells])⟩
 ·simp at hb
  have eM:j=o.cl.length:=by omega
  rw[eM,List.take_length] at cD
  have hf:=kM (p:=fun d:Cl=>decide (d.nm=x)) cD
  have hm:cX o.cl x=(clZ,false):=by unfold cX;rw[hf]
  rw[hm]
  refine a9 (j6 @aB @aA @aM @aL @aH @aI) ?_
  exact ⟨.inr rfl,_,_,rfl,rfl⟩
theorem aRP (r:Nat):Ob.keep 120 r=Ob.k120 r:=by kernel_rfl
attribute [local simp] aRP Ob.k120
set_option maxHeartbeats 1000000 in
theorem aEw (w:Pl) (x:Tx) (hl:w.c.ins.length≤MX) (hl2:w.o.cl.length≤MX):d7 Tryz.prog Ob.cfg 120 [aG w.cells,dS x]=some (.tuple [aG (e9 w.c.ins w.o.cl x).1.cells,dB (e9 w.c.ins w.o.cl x).2]):=by
 have hc:=fun y=>zF w.o y hl2
 simp only[aG,Oc.cells,Cl.cells,List.map_cons,List.map_nil,dS,dB] at hc
 unfold MX at hl
 refine bF Tryz.func120 rfl (by kernel_rfl) rfl rfl ?_
 refine a9 (j4 @aD @aK @aA @aM) ?_
 apply WP.loop' (I:=fun D s=>∃ j:Nat,j+D=w.c.ins.length∧(w.c.ins.take j).all (fun d:Ii=> !decide (d.nm=x))=true∧SE [(1,dS x),(2,.ptr 0 0 0),(4,.ptr 1 1 0),(6,dI j)] [(0,⟨0,false,w.cells.map .d⟩),(1,⟨1,false,[.d (.str []),.full [],.full [],.full [],.full [],.full [],.full []]⟩)] 2 s) (d:=w.c.ins.length)
 ·exact ⟨0,by simp,by simp,SE.mk (by simp[dI,dL,dS]) (by simp[Pl.cells])⟩
 rintro D _ ⟨j,hj,cD,cc,rfl⟩
 refine wk (j4 @aB @aA @aM @aK) ?_
 show WP _ _ _ _ _ _
 refine WP.cond _ rfl (fun hb=>?_) (fun hb=>?_)
 ·simp at hb
  have bR:j<w.c.ins.length:=by omega
  obtain ⟨d,hd,d9,bS⟩:=bL bR
  have cF:=pV hd
  have hw:=bG bR (by omega)
  have hs:=bZ (p:=fun d:Ii=> !decide (d.nm=x)) hd
  by_cases hq:d.nm=x
  ·have gQ:=eq_true hq
   have hf:=mR (p:=fun d:Ii=>decide (d.nm=x)) cD hd (decide_eq_true hq)
   have hm:e9 w.c.ins w.o.cl x=cX w.o.cl d.cl:=by unfold e9;rw[hf]
   rw[hm]
   refine a9 (nW @aB @aA @aM @bS @cF @bE @gQ @Ii.cells.eq_1 @aK @hc) ?_
   exact ⟨.inr rfl,_,_,rfl,rfl⟩
  ·have gQ:=eq_false hq
   refine a9 (j9 @aB @aA @aM @bS @cF @bE @gQ @Ii.cells.eq_1 @aK) ?_
   refine aY (by simp[hw];exact Is.rfl) ?_
   exact ⟨D - 1,by omega,j+1,by omega,by rw[hs,cD,decide_eq_false hq];rfl,SE.mk (by simp[dI,dL,dS,hw]) (by simp[Pl.cells])⟩
 ·simp at hb
  have eM:j=w.c.ins.length:=by omega
  rw[eM,List.take_length] at cD
  have hf:=kM (p:=fun d:Ii=>decide (d.nm=x)) cD
  have hm:e9 w.c.ins w.o.cl x=(clZ,false):=by unfold e9;rw[hf]
  rw[hm]
  refine a9 (j6 @aB @aA @aM @aK @aH @aI) ?_
  exact ⟨.inr rfl,_,_,rfl,rfl⟩
def j1 (c:Cl) (x:Tx):Int:=if fG c.out x=0 then fG c.loc x else fG c.out x
def cZ (c:Cl) (x:Tx):Int:=if fG c.inn x=0 then j1 c x else fG c.inn x
theorem aSa (r:Nat):Ob.keep 145 r=Ob.k145 r:=by kernel_rfl
theorem aTK (r:Nat):Ob.keep 146 r=Ob.k146 r:=by kernel_rfl
attribute [local simp] aSa Ob.k145 aTK Ob.k146
set_option maxHeartbeats 1000000 in
theorem aIg (w:Pl) (x:Tx) (h1:w.c.out.length≤MX) (h2:w.c.loc.length≤MX):d7 Tryz.prog Ob.cfg 145 [aG w.cells,dS x]=some (dI (j1 w.c x)):=by
 have a1:=aCf w.c.out x h1
 have a2:=aCf w.c.loc x h2
 simp only[dL,dS,dI] at a1 a2
 refine bF Tryz.func145 rfl (by kernel_rfl) rfl rfl ?_
 unfold j1
 by_cases h:fG w.c.out x=0
 ·rw[if_pos h]
  rw[h] at a1
  refine a9 (j6 @aD @aK @aA @aM @a1 @a2) ?_
  show a7 _ _ _ _ _
  exact ⟨.inr rfl,_,_,rfl,rfl⟩
 ·rw[if_neg h]
  refine a9 (j7 @aD @aK @aA @aM @a1 @h @aS) ?_
  show a7 _ _ _ _ _
  exact ⟨.inr rfl,_,_,rfl,rfl⟩
set_option maxHeartbeats 1000000 in
theorem aLP (w:Pl) (x:Tx) (h1:w.c.out.length≤MX) (h2:w.c.loc.length≤MX) (h3:w.c.inn.length≤MX):d7 Tryz.prog Ob.cfg 146 [aG w.cells,dS x]=some (dI (cZ w.c x)):=by
 have a1:=aCf w.c.inn x h3
 have a2:=aIg w x h1 h2
 simp only[aG,Pl.cells,List.map_cons,List.map_nil,dL,dS,dI] at a1 a2
 refine bF Tryz.func146 rfl (by kernel_rfl) rfl rfl ?_
 unfold cZ
 by_cases h:fG w.c.inn x=0
 ·rw[if_pos h]
  rw[h] at a1
  refine a9 (j6 @aD @aK @aA @aM @a1 @a2) ?_
  show a7 _ _ _ _ _
  exact ⟨.inr rfl,_,_,rfl,rfl⟩
 ·rw[if_neg h]
  refine a9 (j7 @aD @aK @aA @aM @a1 @h @aS) ?_
  show a7 _ _ _ _ _
  exact ⟨.inr rfl,_,_,rfl,rfl⟩
end Go.Ac
end
section
set_option maxRecDepth 4000
namespace Go.Ac
open Go.Proofs
def fl (l:List (List D)):List V:=l.flatten.map .d
theorem aLV (look:cA) (f:Nat):∀ l:List D,g9 (yQ look f) (l.map V.d)=some (l,[])
 | []=>rfl
 | x::r=>by
  have h1:=aLV look f r
  simp only[List.map_cons,g9,h1,b8];rfl
theorem eJ {sz:Nat}:∀ {l:List (List D)},(∀ r∈l,r.length=sz)→eE sz l.length l.flatten=l
 | [],_=>rfl
 | r::l,h=>by
  have h1:=h r (by simp)
  have ih:=eJ (l:=l) (fun x hx=>h x (by simp[hx]))
  simp only[List.length_cons,List.flatten_cons,eE]
  rw[List.take_append_of_le_length (by omega),List.drop_append_of_le_length (by omega),←h1,List.take_length,List.drop_length,List.nil_append,h1,ih]
theorem aHl {sz:Nat}:∀ {l:List (List D)},(∀ r∈l,r.length=sz)→l.flatten.length=l.length*sz
 | [],_=>by simp
 | r::l,h=>by
  have h1:=h r (by simp)
  have ih:=aHl (l:=l) (fun x hx=>h x (by simp[hx]))
  simp[ih,h1,Nat.add_mul];omega
theorem cT {sz:Nat} {l:List (List D)} (h:∀ r∈l,r.length=sz):(fl l).length=l.length*sz:=by unfold fl;rw[List.length_map,aHl h]
theorem cL {sz:Nat} {l:List (List D)} (h:∀ r∈l,r.length=sz):(fl l).take (l.length*sz)=fl l:=by rw[←cT h,List.take_length]
theorem aAi (look:cA) {sz:Nat} {l:List (List D)} (h:∀ r∈l,r.length=sz):iM look sz (.d (.slice l))=some (l.length,fl l,[]):=by
 have:l.all (fun r=>Nat.beq r.length sz)=true:=by rw[List.all_eq_true];intro r hr;rw[h r hr];exact wX sz
 simp only[iM,this,if_true];rfl
theorem cG (look:cA) (f:Nat) (l:List (List D)):g9 (yQ look f) (fl l)=some (l.flatten,[]):=aLV look f _
theorem dW (l:List (List D)) (r:List D):fl l++r.map .d=fl (l++[r]):=by unfold fl;simp
theorem gG (l:List Pr):∀ r∈iB l,r.length=2:=by unfold iB;intro r hr;obtain ⟨x,_,rfl⟩:=List.mem_map.1 hr;rfl
theorem aAz (l:List Pr) (p:Pr):iB l++[p.cells]=iB (l++[p]):=by unfold iB;simp
theorem jH {look:cA} {id g sz:Nat} {ro:Bool} {l:List (List D)} {cap:Option Nat} (h:∀ r∈l,r.length=sz) (hl:look id=some ⟨g,ro,fl l⟩):dZ look (.osl id g 0 l.length sz cap)=some (dL l,[id]):=by
 show ofD (yQ look qY _)=_
 rw[bI]
 have:live look id g=some ⟨g,ro,fl l⟩:=by simp[live,hl]
 rw[this]
 simp only[Nat.zero_add,List.drop_zero,cT h,cL h,cG,eJ h,bJ,Nat.le_refl,decide_true]
 rfl
theorem aOW (r:Nat):Ob.keep 121 r=Ob.k121 r:=by kernel_rfl
theorem aUD (r:Nat):Ob.keep 33 r=Ob.k33 r:=by kernel_rfl
theorem aSQ (r:Nat):Ob.keep 77 r=Ob.k77 r:=by kernel_rfl
attribute [local simp] aOW Ob.k121 aUD Ob.k33 aSQ Ob.k77
set_option maxHeartbeats 1000000 in
theorem aEe (cx:List Pr) (nm:Tx) (k:Nat) (hl:cx.length≤16777216):d7 Tryz.prog Ob.cfg 121 [dL (iB cx),dS nm,dI k]=some (dL (iB (cx++[⟨nm,k⟩]))):=by
 have r1:=fun look=>aAi look (gG cx)
 have r2:=cT (gG cx)
 have r3:=cL (gG cx)
 have r4:=dW (iB cx) (Pr.cells ⟨nm,k⟩)
 have r5:=aAz cx ⟨nm,k⟩
 have f1:bT cx.length 24=true:=by simp[bT];omega
 have f2:bT (cx.length+1) 24=true:=by simp[bT];omega
 rw[r5] at r4
 rw[lE] at r2 r3
 simp only[Pr.cells,List.map_cons,List.map_nil] at r4
 refine bF Tryz.func121 rfl (by kernel_rfl) rfl rfl ?_
 refine a9 (uN @aA @aM @aB @r1 @r2 @r3 @r4 @f1 @f2 @aH @aI @aQ @aR @bJ) ?_
 have hc:=fun look hl=>jH (look:=look) (id:=0) (g:=3) (ro:=false) (cap:=none) (gG (cx++[⟨nm,k⟩])) hl
 simp only[lE,List.length_append,List.length_cons,List.length_nil] at hc
 exact ⟨.inr rfl,_,[0],rfl,hc _ rfl⟩
mutual
def asY (x:Tx) (all:Bool):List Pr→Y→Bool
 | cx,.mk k nm _ _ outs _ brs=>
  if k=1 then decide (nm=x) else if k=4 then decide (x∈outs) else if k=3 then
   match cx.find? (fun p=>decide (p.nm=nm)) with
   | some p=>asN x all cx brs p.br
   | none=>if all then decide (xL x all cx nm 0 brs=brs.length) else decide (0<xL x all cx nm 0 brs)
  else false
def u6 (x:Tx) (all:Bool):List Pr→List Y→Bool
 | _,[]=>false
 | cx,y::r=>asY x all cx y||u6 x all cx r
def asN (x:Tx) (all:Bool):List Pr→List (List Y)→Nat→Bool
 | _,[],_=>false
 | cx,b::_,0=>u6 x all cx b
 | cx,_::r,n+1=>asN x all cx r n
def xL (x:Tx) (all:Bool):List Pr→Tx→Nat→List (List Y)→Nat
 | _,_,_,[]=>0
 | cx,nm,k,b::r=>(if u6 x all (cx++[⟨nm,k⟩]) b then 1 else 0)+xL x all cx nm (k+1) r
end
theorem aHx (x:Tx) (all:Bool) (cx:List Pr) (y:Y):asY x all cx y=if y.k=1 then decide (y.nm=x) else if y.k=4 then decide (x∈y.outs) else if y.k=3 then
   match cx.find? (fun p=>decide (p.nm=y.nm)) with
   | some p=>asN x all cx y.brs p.br
   | none=>if all then decide (xL x all cx y.nm 0 y.brs=y.brs.length) else decide (0<xL x all cx y.nm 0 y.brs)
  else false:=by cases y;rw[asY];rfl
theorem zS (x:Tx) (all:Bool) (cx:List Pr):∀ l:List Y,u6 x all cx l=l.any (asY x all cx)
 | []=>by rw[u6];rfl
 | y::r=>by rw[u6,zS x all cx r];rfl
theorem aIa (x:Tx) (all:Bool) (cx:List Pr):∀ (l:List (List Y)) (n:Nat) (b:List Y),l[n]?=some b→asN x all cx l n=u6 x all cx b
 | [],n,b,h=>by simp at h
 | c::r,0,b,h=>by simp at h;subst h;rw[asN]
 | c::r,n+1,b,h=>by rw[asN];exact aIa x all cx r n b (by simpa using h)
theorem aFJ (x:Tx) (all:Bool) (cx:List Pr):∀ (l:List (List Y)) (n:Nat),l.length≤n→asN x all cx l n=false
 | [],n,h=>by rw[asN]
 | c::r,0,h=>by simp at h
 | c::r,n+1,h=>by rw[asN];exact aFJ x all cx r n (by simpa using h)
theorem z7 (x:Tx) (all:Bool) (cx:List Pr) (nm:Tx):∀ (l:List (List Y)) (k:Nat) (b:List Y),xL x all cx nm k (l++[b])=xL x all cx nm k l+(if u6 x all (cx++[⟨nm,k+l.length⟩]) b then 1 else 0)
 | [],k,b=>by simp[xL]
 | c::r,k,b=>by
  rw[List.cons_append,xL,xL,z7 x all cx nm r (k+1) b]
  simp only[List.length_cons]
  rw[show k+1+r.length=k+(r.length+1) by omega]
  omega
def aMK (x:Tx) (all:Bool) (N:Nat):Prop:=∀ (l:List Y) (cx:List Pr),hH l<N→cx.length+hH l≤8388608→d7 Tryz.prog Ob.cfg 33 [dL (dJ l),dS x,dL (iB cx),dB all]=some (dB (u6 x all cx l))
theorem zV (x:Tx) (all:Bool) (cx:List Pr) (nm:Tx):∀ (l:List (List Y)) (k:Nat),xL x all cx nm k l≤l.length
 | [],k=>by simp[xL]
 | b::r,k=>by rw[xL];have:=zV x all cx nm r (k+1);simp only[List.length_cons];split <;> omega
set_option maxHeartbeats 4000000 in
theorem aKN {x:Tx} {all:Bool} {N:Nat} (h:aMK x all N) (y:Y) (cx:List Pr) (hy:y.sz≤N) (hb0:cx.length+y.sz≤8388608):d7 Tryz.prog Ob.cfg 77 [aG y.cells,dS x,dL (iB cx),dB all]=some (dB (asY x all cx y)):=by
 rw[Y.sz_eq] at hy hb0
 have k1:=oB y.outs
 have k2:=rZ y.brs
 have ho:=aJi y.outs x (by unfold MX;omega)
 simp only[dL,dS,dB] at ho
 rw[aHx]
 refine bF Tryz.func77 rfl (by kernel_rfl) rfl rfl ?_
 by_cases q1:y.k=1
 ·rw[if_pos q1]
  refine a9 (j8 @aD @aC @aA @aM @aF @aS @bE @q1) ?_
  show a7 _ _ _ _ _
  exact ⟨.inr rfl,_,_,rfl,rfl⟩
 rw[if_neg q1]
 by_cases q4:y.k=4
 ·rw[if_pos q4]
  refine a9 (j9 @aD @aC @aA @aM @aF @aS @bE @q4 @ho) ?_
  show a7 _ _ _ _ _
  exact ⟨.inr rfl,_,_,rfl,rfl⟩
 rw[if_neg q4]
 by_cases q3:y.k=3
 case neg=>
  rw[if_neg q3]
  refine a9 (j9 @aD @aC @aA @aM @aF @aS @q1 @q4 @q3) ?_
  show a7 _ _ _ _ _
  exact ⟨.inr rfl,_,_,rfl,rfl⟩
 rw[if_pos q3]
 refine a9 (j7 @aD @aC @aA @aM @aF @aS @q3) ?_
 apply WP.loop' (I:=fun D s=>∃ j:Nat,j+D=cx.length∧(cx.take j).all (fun p:Pr=> !decide (p.nm=y.nm))=true∧SE [(1,dS x),(2,dL (iB cx)),(3,dB all),(4,.ptr 0 0 0),(9,dI j)] [(0,⟨0,false,y.cells.map .d⟩)] 1 s) (d:=cx.length)
 ·exact ⟨0,by simp,by simp,SE.mk (by simp[dI,dL,dS,dB]) (by simp[aC,q3])⟩
 rintro D _ ⟨j,hj,cD,cc,rfl⟩
 refine wk (j5 @aB @aA @aM @aF @aC) ?_
 show WP _ _ _ _ _ _
 refine WP.cond _ rfl (fun hb=>?_) (fun hb=>?_)
 ·simp at hb
  have bR:j<cx.length:=by omega
  obtain ⟨p,hp,hpm,bS⟩:=bL bR
  have bD:=aFa hp
  have hw:=bG bR (by omega)
  have hs:=bZ (p:=fun p:Pr=> !decide (p.nm=y.nm)) hp
  by_cases hq:p.nm=y.nm
  case neg=>
   have gQ:=eq_false hq
   refine a9 (nW @aB @aA @aM @aF @aC @Pr.cells.eq_1 @bS @bD @bE @gQ) ?_
   refine aY (by simp[hw];exact Is.rfl) ?_
   exact ⟨D - 1,by omega,j+1,by omega,by rw[hs,cD,decide_eq_false hq];rfl,SE.mk (by simp[dI,dL,dS,dB,hw]) (by simp[aC])⟩
  have gQ:=eq_true hq
  have hf:=mR (p:=fun p:Pr=>decide (p.nm=y.nm)) cD hp (decide_eq_true hq)
  rw[hf]
  by_cases fB:p.br<y.brs.length
  ·have c1:((p.br:Int)<y.brs.length)=True:=eq_true (by omega)
   have c1':(p.br<y.brs.length)=True:=eq_true fB
   obtain ⟨b,wL,yU,tV⟩:=bL fB
   have kL:=lH wL
   have hr:=h b cx (by have:=gJ yU;omega) (by have:=gJ yU;omega)
   have he:=aIa x all cx y.brs p.br b wL
   simp only[he]
   simp only[dL,dS,dB] at hr
   refine a9 (uN @aB @aA @aM @aF @aC @Pr.cells.eq_1 @bS @bD @bE @gQ @tV @kL @hr @c1) ?_
   show a7 _ _ _ _ _
   exact ⟨.inr rfl,_,_,rfl,rfl⟩
  ·have c1:((p.br:Int)<y.brs.length)=False:=eq_false (by omega)
   have c1':(p.br<y.brs.length)=False:=eq_false fB
   have he:=aFJ x all cx y.brs p.br (by omega)
   simp only[he]
   refine a9 (tS @aB @aA @aM @aF @aC @Pr.cells.eq_1 @bS @bD @bE @gQ @c1 @c1') ?_
   show a7 _ _ _ _ _
   exact ⟨.inr rfl,_,_,rfl,rfl⟩
 ·simp at hb
  have eM:j=cx.length:=by omega
  rw[eM,List.take_length] at cD
  have hf:=kM (p:=fun p:Pr=>decide (p.nm=y.nm)) cD
  rw[hf]
  refine a9 (j5 @aB @aA @aM @aF @aC) ?_
  apply WP.loop' (I:=fun D s=>∃ i n:Nat,i+D=y.brs.length∧n=xL x all cx y.nm 0 (y.brs.take i)∧SE [(1,dS x),(2,dL (iB cx)),(3,dB all),(4,.ptr 0 0 0),(10,dI n),(11,dI i)] [(0,⟨0,false,y.cells.map .d⟩)] 1 s) (d:=y.brs.length)
  ·exact ⟨0,0,by simp,by simp[xL],SE.mk (by simp[dI,dL,dS,dB]) (by simp[aC])⟩
  rintro D2 _ ⟨i,n,hi,hn,cc2,rfl⟩
  refine wk (j5 @aB @aA @aM @aF @aC) ?_
  show WP _ _ _ _ _ _
  refine WP.cond _ rfl (fun hb=>?_) (fun hb=>?_)
  ·simp at hb
   have hc':i<y.brs.length:=by omega
   obtain ⟨b,wL,yU,tV⟩:=bL hc'
   have kL:=lH wL
   have hw2:=bG hc' (by omega)
   have hin:=aEe cx y.nm i (by omega)
   have hr:=h b (cx++[⟨y.nm,i⟩]) (by have:=gJ yU;omega) (by have:=gJ yU;simp;omega)
   have pC:y.brs.take (i+1)=y.brs.take i++[b]:=bM wL
   have hcn:=z7 x all cx y.nm (y.brs.take i) 0 b
   rw[←pC,←hn,List.length_take,Nat.min_eq_left (by omega),Nat.zero_add] at hcn
   have hnl:=zV x all cx y.nm (y.brs.take i) 0
   rw[←hn] at hnl
   have aYu:n≤y.brs.length:=by rw[List.length_take] at hnl;omega
   have hwn:IntKind.i64.wrap ((n:Int)+1)=((n+1:Nat):Int):=by rw[aEr] <;> omega
   simp only[dL,dS,dB,dI] at hin hr
   cases he:u6 x all (cx++[⟨y.nm,i⟩]) b with
   | true=>
    rw[he] at hr hcn
    refine a9 (j9 @aB @aA @aM @aF @aC @tV @kL @hin @hr) ?_
    refine aY (by simp[hw2,hwn];exact Is.rfl) ?_
    exact ⟨D2 - 1,by omega,i+1,n+1,by omega,by rw[hcn];simp,SE.mk (by simp[dI,dL,dS,dB,hw2,hwn]) (by simp[aC])⟩
   | false=>
    rw[he] at hr hcn
    refine a9 (j9 @aB @aA @aM @aF @aC @tV @kL @hin @hr) ?_
    refine aY (by simp[hw2];exact Is.rfl) ?_
    exact ⟨D2 - 1,by omega,i+1,n,by omega,by rw[hcn];simp,SE.mk (by simp[dI,dL,dS,dB,hw2]) (by simp[aC])⟩
  ·simp at hb
   have nE:i=y.brs.length:=by omega
   rw[nE,List.take_length] at hn
   simp only[←hn]
   cases all with
   | true=>
    by_cases hnn:n=y.brs.length
    ·have e1:((n:Int)=y.brs.length)=True:=eq_true (by omega)
     refine a9 (j8 @aB @aA @aM @aF @aC @aS @e1 @hnn) ?_
     exact ⟨.inr rfl,_,_,rfl,by simp[hnn];rfl⟩
    ·have e1:((n:Int)=y.brs.length)=False:=eq_false (by omega)
     refine a9 (j8 @aB @aA @aM @aF @aC @aS @e1 @hnn) ?_
     exact ⟨.inr rfl,_,_,rfl,by simp[hnn];rfl⟩
   | false=>
    refine a9 (j6 @aB @aA @aM @aF @aC @aS) ?_
    exact ⟨.inr rfl,_,_,rfl,by simp;rfl⟩
set_option maxHeartbeats 1000000 in
theorem aIN (x:Tx) (all:Bool):∀ N,aMK x all N:=by
 intro N
 induction N with
 | zero=>intro l cx h;omega
 | succ N ih=>
 intro l cx hN hb0
 have k1:=lJ l
 refine bF Tryz.func33 rfl (by kernel_rfl) rfl rfl ?_
 rw[zS]
 refine a9 (j3 @aA @aM @aF) ?_
 apply WP.loop' (I:=fun D s=>∃ j:Nat,j+D=l.length∧(l.take j).all (fun y=> !asY x all cx y)=true∧SE [(0,dL (dJ l)),(1,dS x),(2,dL (iB cx)),(3,dB all),(9,dI j)] [] 0 s) (d:=l.length)
 ·exact ⟨0,by simp,by simp,SE.mk (by simp[dI,dL,dS,dB]) rfl⟩
 rintro D _ ⟨j,hj,cD,cc,rfl⟩
 refine wk (j4 @aB @aA @aM @aF) ?_
 show WP _ _ _ _ _ _
 refine WP.cond _ rfl (fun hb=>?_) (fun hb=>?_)
 ·simp at hb
  have bR:j<l.length:=by omega
  obtain ⟨y,hy,vF,bS⟩:=bL bR
  have pD:=oA hy
  have hw:=bG bR (by omega)
  have hs:=bZ (p:=fun y=> !asY x all cx y) hy
  have hr:=aKN ih y cx (by have:=mM vF;omega) (by have:=mM vF;omega)
  simp only[aG,aC,List.map_cons,List.map_nil,dL,dS,dB] at hr
  cases he:asY x all cx y with
  | true=>
   rw[he] at hr
   have ha:l.any (asY x all cx)=true:=List.any_eq_true.2 ⟨y,vF,he⟩
   rw[ha]
   refine a9 (j8 @aB @aA @aM @aF @aC @bS @pD @hr) ?_
   show a7 _ _ _ _ _
   exact ⟨.inr rfl,_,_,rfl,rfl⟩
  | false=>
   rw[he] at hr hs
   refine a9 (j8 @aB @aA @aM @aF @aC @bS @pD @hr) ?_
   refine aY (by simp[hw];exact Is.rfl) ?_
   exact ⟨D - 1,by omega,j+1,by omega,by rw[hs,cD];rfl,SE.mk (by simp[dI,dL,dS,dB,hw]) rfl⟩
 ·simp at hb
  have eM:j=l.length:=by omega
  rw[eM,List.take_length] at cD
  have ha:l.any (asY x all cx)=false:=by
   cases aRe:l.any (asY x all cx) with
   | false=>rfl
   | true=>
    obtain ⟨y,hy,hye⟩:=List.any_eq_true.1 aRe
    have:=List.all_eq_true.1 cD y hy
    rw[hye] at this;cases this
  rw[ha]
  refine a9 (j4 @aB @aA @aM @aF) ?_
  show a7 _ _ _ _ _
  exact ⟨.inr rfl,_,_,rfl,rfl⟩
end Go.Ac
end
