/- What a statement assigns: the reference's. -/
import Derived.Test.YtkgekafdhehleaaGreatObRM
set_option linter.unusedVariables false
set_option linter.unusedSimpArgs false
section
set_option maxRecDepth 4000
namespace Go.Ac
open Go.Proofs
def inE (en:List En) (t:Int):Bool:=decide (3≤t)&&decide (t - 3<en.length)
def eAt (en:List En) (t:Int):En:=if inE en t then en.getD (t - 3).toNat ⟨[],[]⟩ else ⟨[],[]⟩
def fG (en:List En) (t:Int):Int:=if t=1 then 2 else if t=2 then 65536 else (eAt en t).tags.length
def inW (v:Int):Bool:=decide (-32768≤v)&&decide (v≤32767)
def gB (en:List En) (t v:Int):Bool:=if t=2 then inW v else decide (0≤v)&&decide (v<fG en t)
def oL (en:List En) (t:Int):Bool:=decide (t=1)||decide (t=2)||inE en t
theorem vB.sub3 {t:Int} (h:vB t) (h3:3≤t):IntKind.i64.wrap (t - 3)=t - 3:=by unfold vB at h;rw[aEA] <;> omega
theorem aWV (r:Nat):Ob.keep 38 r=Ob.k38 r:=by kernel_rfl
theorem aXt (r:Nat):Ob.keep 86 r=Ob.k86 r:=by kernel_rfl
theorem aWT (r:Nat):Ob.keep 39 r=Ob.k39 r:=by kernel_rfl
theorem aSz (r:Nat):Ob.keep 101 r=Ob.k101 r:=by kernel_rfl
theorem aXU (r:Nat):Ob.keep 15 r=Ob.k15 r:=by kernel_rfl
theorem aWH (r:Nat):Ob.keep 53 r=Ob.k53 r:=by kernel_rfl
theorem aXy (r:Nat):Ob.keep 73 r=Ob.k73 r:=by kernel_rfl
theorem aSs (r:Nat):Ob.keep 106 r=Ob.k106 r:=by kernel_rfl
theorem aSx (r:Nat):Ob.keep 166 r=Ob.k166 r:=by kernel_rfl
theorem aVr (r:Nat):Ob.keep 159 r=Ob.k159 r:=by kernel_rfl
attribute [local simp] aWV Ob.k38 aXt Ob.k86 aWT Ob.k39 aSz Ob.k101 aXU Ob.k15 aWH Ob.k53 aXy Ob.k73 aSs Ob.k106 aSx Ob.k166 aVr Ob.k159
theorem aMq (v:Int):eJ Tryz.prog Ob.cfg 38 [dI v]=some (dB (inW v)):=by
 refine bI Tryz.func38 rfl (by kernel_rfl) rfl rfl ?_
 unfold inW
 by_cases h1: -32768≤v
 ·have yN:=eq_true h1
  refine bA (jn @aB @yN) ?_
  exact ⟨.inr rfl,_,_,rfl,by simp[h1];rfl⟩
 ·have yN:=eq_false h1
  refine bA (jn @aB @yN) ?_
  exact ⟨.inr rfl,_,_,rfl,by simp[h1];rfl⟩
set_option maxHeartbeats 1000000 in
theorem aNh (en:List En) (t:Int) (ht:vB t):eJ Tryz.prog Ob.cfg 86 [dL (f9 en),dI t]=some (.tuple [aG (eAt en t).cells,dB (inE en t)]):=by
 refine bI Tryz.func86 rfl (by kernel_rfl) rfl rfl ?_
 by_cases h1:t<3
 ·have yN:=eq_true h1
  have hi:inE en t=false:=by unfold inE;rw[decide_eq_false (by omega)];rfl
  unfold eAt
  rw[hi]
  refine bA (j5 @aB @aA @yN @aH @aI) ?_
  exact ⟨.inr rfl,_,_,rfl,rfl⟩
 have yN:=eq_false h1
 have hw:=ht.sub3 (by omega)
 by_cases h2:t - 3≥en.length
 ·have tH:((en.length:Int)≤t - 3)=True:=eq_true h2
  have hi:inE en t=false:=by unfold inE;rw[decide_eq_false (p:=t - 3<en.length) (by omega)];simp
  unfold eAt
  rw[hi]
  refine bA (j7 @aB @aA @yN @tH @hw @aH @aI) ?_
  exact ⟨.inr rfl,_,_,rfl,rfl⟩
 have tH:((en.length:Int)≤t - 3)=False:=eq_false h2
 have hi:inE en t=true:=by unfold inE;rw[decide_eq_true (p:=3≤t) (by omega),decide_eq_true (by omega)];rfl
 obtain ⟨k,hk⟩:∃ k:Nat,t - 3=k:=⟨(t - 3).toNat,by omega⟩
 have hkl:k<en.length:=by omega
 obtain ⟨y,hy,vY,bV⟩:=bM hkl
 have pW:=yB hy
 have he:eAt en t=y:=by unfold eAt;rw[hi,hk];simp[List.getD,hy]
 rw[hi,he]
 rw[hk] at tH
 have hw:=hw.trans hk
 refine bA (j8 @aB @aA @yN @tH @hw @bV @pW @En.cells.eq_1) ?_
 exact ⟨.inr rfl,_,_,rfl,rfl⟩
set_option maxHeartbeats 1000000 in
theorem aLN (en:List En) (t:Int) (ht:vB t):eJ Tryz.prog Ob.cfg 39 [dL (f9 en),dI t]=some (dI (fG en t)):=by
 have h:=aNh en t ht
 simp only[aG,En.cells,List.map_cons,List.map_nil,dL,dI,dB] at h
 refine bI Tryz.func39 rfl (by kernel_rfl) rfl rfl ?_
 unfold fG
 by_cases h1:t=1
 ·subst h1
  refine bA (jn @aB @aA) ?_
  show a8 _ _ _ _ _
  exact ⟨.inr rfl,_,_,rfl,rfl⟩
 by_cases h2:t=2
 ·subst h2
  refine bA (jn @aB @aA) ?_
  show a8 _ _ _ _ _
  exact ⟨.inr rfl,_,_,rfl,rfl⟩
 rw[if_neg h1,if_neg h2]
 refine bA (j6 @aB @aA @h1 @h2 @aS @h) ?_
 show a8 _ _ _ _ _
 exact ⟨.inr rfl,_,_,rfl,rfl⟩
set_option maxHeartbeats 1000000 in
theorem aGv (en:List En) (t:Int) (ht:vB t):eJ Tryz.prog Ob.cfg 101 [dL (f9 en),dI t]=some (dI (fG en t)):=by
 refine bI Tryz.func101 rfl (by kernel_rfl) rfl rfl ?_
 unfold fG
 by_cases h1:t=1
 ·subst h1
  refine bA (jn @aB @aA) ?_
  show a8 _ _ _ _ _
  exact ⟨.inr rfl,_,_,rfl,rfl⟩
 by_cases h2:t=2
 ·subst h2
  refine bA (jn @aB @aA) ?_
  show a8 _ _ _ _ _
  exact ⟨.inr rfl,_,_,rfl,rfl⟩
 rw[if_neg h1,if_neg h2]
 by_cases h3:t<3
 ·have h3':=eq_true h3
  have hi:inE en t=false:=by unfold inE;rw[decide_eq_false (by omega)];rfl
  unfold eAt
  rw[hi]
  refine bA (j6 @aB @aA @h1 @h2 @aS @h3') ?_
  show a8 _ _ _ _ _
  exact ⟨.inr rfl,_,_,rfl,rfl⟩
 have h3':=eq_false h3
 have hw:=ht.sub3 (by omega)
 by_cases h4:t - 3≥en.length
 ·have h4':((en.length:Int)≤t - 3)=True:=eq_true h4
  have hi:inE en t=false:=by unfold inE;rw[decide_eq_false (p:=t - 3<en.length) (by omega)];simp
  unfold eAt
  rw[hi]
  refine bA (j8 @aB @aA @h1 @h2 @aS @h3' @h4' @hw) ?_
  show a8 _ _ _ _ _
  exact ⟨.inr rfl,_,_,rfl,rfl⟩
 have h4':((en.length:Int)≤t - 3)=False:=eq_false h4
 have hi:inE en t=true:=by unfold inE;rw[decide_eq_true (p:=3≤t) (by omega),decide_eq_true (by omega)];rfl
 obtain ⟨k,hk⟩:∃ k:Nat,t - 3=k:=⟨(t - 3).toNat,by omega⟩
 have hkl:k<en.length:=by omega
 obtain ⟨y,hy,vY,bV⟩:=bM hkl
 have pW:=yB hy
 have he:eAt en t=y:=by unfold eAt;rw[hi,hk];simp[List.getD,hy]
 rw[he]
 rw[hk] at h4'
 have hw:=hw.trans hk
 refine bA (u7 @aB @aA @h1 @h2 @aS @h3' @h4' @hw @bV @pW @En.cells.eq_1) ?_
 show a8 _ _ _ _ _
 exact ⟨.inr rfl,_,_,rfl,rfl⟩
set_option maxHeartbeats 1000000 in
theorem aKC (en:List En) (t v:Int) (ht:vB t):eJ Tryz.prog Ob.cfg 15 [dL (f9 en),dI t,dI v]=some (dB (gB en t v)):=by
 have h:=aLN en t ht
 have hw:=aMq v
 simp only[dL,dI,dB] at h hw
 refine bI Tryz.func15 rfl (by kernel_rfl) rfl rfl ?_
 unfold gB
 by_cases h1:t=2
 ·subst h1
  refine bA (j3 @aB @aA @hw) ?_
  show a8 _ _ _ _ _
  exact ⟨.inr rfl,_,_,rfl,rfl⟩
 rw[if_neg h1]
 by_cases h2:0≤v
 ·have tH:=eq_true h2
  refine bA (j6 @aB @aA @h1 @aS @tH @h) ?_
  exact ⟨.inr rfl,_,_,rfl,by simp[h2];rfl⟩
 ·have tH:=eq_false h2
  refine bA (j6 @aB @aA @h1 @aS @tH @h) ?_
  exact ⟨.inr rfl,_,_,rfl,by simp[h2];rfl⟩
set_option maxHeartbeats 1000000 in
theorem aKi (en:List En) (t v:Int) (ht:vB t):eJ Tryz.prog Ob.cfg 53 [dL (f9 en),dI t,dI v]=some (dB (gB en t v)):=by
 have h:=aGv en t ht
 simp only[dL,dI,dB] at h
 refine bI Tryz.func53 rfl (by kernel_rfl) rfl rfl ?_
 unfold gB
 by_cases h1:t=2
 ·subst h1
  unfold inW
  by_cases h2: -32768≤v
  ·have tH:=eq_true h2
   refine bA (j3 @aB @aA @tH) ?_
   exact ⟨.inr rfl,_,_,rfl,by simp[h2];rfl⟩
  ·have tH:=eq_false h2
   refine bA (j3 @aB @aA @tH) ?_
   exact ⟨.inr rfl,_,_,rfl,by simp[h2];rfl⟩
 rw[if_neg h1]
 by_cases h2:0≤v
 ·have tH:=eq_true h2
  refine bA (j6 @aB @aA @h1 @aS @tH @h) ?_
  exact ⟨.inr rfl,_,_,rfl,by simp[h2];rfl⟩
 ·have tH:=eq_false h2
  refine bA (j6 @aB @aA @h1 @aS @tH @h) ?_
  exact ⟨.inr rfl,_,_,rfl,by simp[h2];rfl⟩
theorem aJM (en:List En) (t:Int) (ht:vB t):eJ Tryz.prog Ob.cfg 73 [dL (f9 en),dI t]=some (dB (decide (0<fG en t))):=by
 have h:=aGv en t ht
 simp only[dL,dI,dB] at h
 refine bI Tryz.func73 rfl (by kernel_rfl) rfl rfl ?_
 refine bA (j3 @aB @aA @h) ?_
 show a8 _ _ _ _ _
 exact ⟨.inr rfl,_,_,rfl,rfl⟩
set_option maxHeartbeats 1000000 in
theorem aFB (en:List En) (t:Int) (ht:vB t):∃ s:Tx,eJ Tryz.prog Ob.cfg 106 [dL (f9 en),dI t]=some (.tuple [dS s,dB (oL en t)]):=by
 have h:=aNh en t ht
 simp only[aG,En.cells,List.map_cons,List.map_nil,dL,dI,dB] at h
 refine zG (F:=fun s=> .tuple [dS s,dB (oL en t)]) Tryz.func106 rfl (by kernel_rfl) rfl (fun _=>rfl) ?_
 by_cases h1:t=1
 ·subst h1
  rw[show oL en 1=true by simp[oL]]
  refine bA (jn @aB @aA) ?_
  exact ⟨_,.inr rfl,_,_,rfl,rfl⟩
 by_cases h2:t=2
 ·subst h2
  rw[show oL en 2=true by simp[oL]]
  refine bA (jn @aB @aA) ?_
  exact ⟨_,.inr rfl,_,_,rfl,rfl⟩
 rw[show oL en t=inE en t by simp[oL,h1,h2]]
 refine bA (j6 @aB @aA @h1 @h2 @aS @h) ?_
 exact ⟨(eAt en t).nm,.inr rfl,_,_,rfl,rfl⟩
def eT (o:Int):Int:=if o=1∨o=2 then 1 else if 2<o∧o≤16 then 2 else 0
theorem aCb (o:Int):eJ Tryz.prog Ob.cfg 166 [dI o]=some (dI (eT o)):=by
 refine bI Tryz.func166 rfl (by kernel_rfl) rfl rfl ?_
 unfold eT
 by_cases h1:o=1
 ·subst h1
  refine bA (@aB) ?_
  show a8 _ _ _ _ _
  exact ⟨.inr rfl,_,_,rfl,rfl⟩
 by_cases h2:o=2
 ·subst h2
  refine bA (@aB) ?_
  show a8 _ _ _ _ _
  exact ⟨.inr rfl,_,_,rfl,rfl⟩
 rw[if_neg (by omega)]
 by_cases h3:2<o
 ·have h3':=eq_true h3
  by_cases h4:o≤16
  ·have h4':=eq_true h4
   rw[if_pos ⟨h3,h4⟩]
   refine bA (j6 @aB @h1 @h2 @aS @h3' @h4') ?_
   show a8 _ _ _ _ _
   exact ⟨.inr rfl,_,_,rfl,rfl⟩
  ·have h4':=eq_false h4
   rw[if_neg (fun h=>h4 h.2)]
   refine bA (j6 @aB @h1 @h2 @aS @h3' @h4') ?_
   show a8 _ _ _ _ _
   exact ⟨.inr rfl,_,_,rfl,rfl⟩
 ·have h3':=eq_false h3
  rw[if_neg (fun h=>h3 h.1)]
  refine bA (j5 @aB @h1 @h2 @aS @h3') ?_
  show a8 _ _ _ _ _
  exact ⟨.inr rfl,_,_,rfl,rfl⟩
theorem aSR (o:Int):eJ Tryz.prog Ob.cfg 159 [dI o]=some (dI (eT o)):=by
 have h:=aCb o
 simp only[dI] at h
 refine bI Tryz.func159 rfl (by kernel_rfl) rfl rfl ?_
 refine bA (jn @aB @h) ?_
 show a8 _ _ _ _ _
 exact ⟨.inr rfl,_,_,rfl,rfl⟩
end Go.Ac
end
section
set_option maxRecDepth 4000
namespace Go.Ac
open Go.Proofs
theorem m8 {α:Type} {p:α→Bool}:∀ {l:List α} {j:Nat} {d:α},(l.take j).all (fun a=> !p a)=true→l[j]?=some d→p d=true→l.find? p=some d
 | a::l,0,d,_,h,hp=>by simp at h;subst h;simp[hp]
 | a::l,j+1,d,hn,h,hp=>by
  simp only[List.take_succ_cons,List.all_cons,Bool.and_eq_true] at hn
  have ha:p a=false:=by simpa using hn.1
  simp only[List.find?_cons,ha]
  exact m8 hn.2 (by simpa using h) hp
 | [],j,d,_,h,_=>by simp at h
theorem lL {α:Type} {p:α→Bool}:∀ {l:List α},l.all (fun a=> !p a)=true→l.find? p=none
 | [],_=>rfl
 | a::l,h=>by
  simp only[List.all_cons,Bool.and_eq_true] at h
  have ha:p a=false:=by simpa using h.1
  simp only[List.find?_cons,ha]
  exact lL h.2
theorem bZ {α:Type} {p:α→Bool} {l:List α} {j:Nat} {x:α} (h:l[j]?=some x):(l.take (j+1)).all p=((l.take j).all p&&p x):=by
 rw[List.take_add_one,h];simp
structure Pr where
 nm:Tx
 br:Nat
def Pr.cells (x:Pr):List D:=[.str x.nm,.int .i64 x.br]
def iJ (l:List Pr):List (List D):=l.map Pr.cells
theorem lX (l:List Pr):(iJ l).length=l.length:=by simp[iJ]
theorem aFZ {l:List Pr} {i:Nat} {y:Pr} (h:l[i]?=some y):(iJ l)[i]?=some y.cells:=by unfold iJ;simp[h]
attribute [simp] lX
structure Pl where
 o:Oc
 c:Cl
 bf:List Y
 cx:List Pr
def Pl.cells (x:Pl):List D:=[.slice (f9 x.o.en),.slice (gJ x.o.cl),.str x.c.nm,.slice (cM x.c.inn),.slice (cM x.c.out),.slice (cM x.c.loc),.slice (lF x.c.mems),.slice (lV x.c.ins),.slice (dM x.c.step),.slice (dM x.bf),.slice (iJ x.cx)]
theorem aL:type_of% @Pl.cells.eq_1:=@Pl.cells.eq_1
def fI (l:List Dc) (x:Tx):Int:=match l.find? (fun d=>decide (d.nm=x)) with|some d=>d.t|none=>0
def eO (l:List Mm) (x:Tx):Int:=match l.find? (fun d=>decide (d.nm=x)) with|some d=>d.t|none=>0
def clZ:Cl:=⟨[],[],[],[],[],[],[]⟩
def dC (l:List Cl) (x:Tx):Cl×Bool:=match l.find? (fun d=>decide (d.nm=x)) with|some d=>(d,true)|none=>(clZ,false)
def fD (l:List Ii) (cs:List Cl) (x:Tx):Cl×Bool:=match l.find? (fun d=>decide (d.nm=x)) with|some d=>dC cs d.cl|none=>(clZ,false)
theorem aXg (r:Nat):Ob.keep 75 r=Ob.k75 r:=by kernel_rfl
attribute [local simp] aXg Ob.k75
set_option maxHeartbeats 1000000 in
theorem aKw (l:List Tx) (x:Tx) (hl:l.length≤MX):eJ Tryz.prog Ob.cfg 75 [dL (eX l),dS x]=some (dB (decide (x∈l))):=by
 unfold MX at hl
 refine bI Tryz.func75 rfl (by kernel_rfl) rfl rfl ?_
 refine bA (jn @aA @aM) ?_
 apply WP.loop' (I:=fun D s=>∃ j:Nat,j+D=l.length∧(l.take j).all (fun d:Tx=> !decide (d=x))=true∧SE [(0,dL (eX l)),(1,dS x),(5,dI j)] [] 0 s) (d:=l.length)
 ·exact ⟨0,by simp,by simp,SE.mk (by simp[dI,dL,dS]) (by simp)⟩
 rintro D _ ⟨j,hj,cF,cc,rfl⟩
 refine wk (j3 @aB @aA @aM) ?_
 show WP _ _ _ _ _ _
 refine WP.cond _ rfl (fun hb=>?_) (fun hb=>?_)
 ·simp at hb
  have bP:j<l.length:=by omega
  obtain ⟨d,hd,d8,bV⟩:=bM bP
  have cG:=sW hd
  have hw:=bE bP (by omega)
  have hs:=bZ (p:=fun d:Tx=> !decide (d=x)) hd
  by_cases hq:d=x
  ·have g9:=eq_true hq
   have hf:=m8 (p:=fun d:Tx=>decide (d=x)) cF hd (decide_eq_true hq)
   have hm:decide (x∈l)=true:=decide_eq_true (by rw[←hq];exact d8)
   rw[hm]
   refine bA (j7 @aB @aA @aM @bV @cG @bF @g9) ?_
   show a8 _ _ _ _ _
   exact ⟨.inr rfl,_,_,rfl,rfl⟩
  ·have g9:=eq_false hq
   refine bA (j7 @aB @aA @aM @bV @cG @bF @g9) ?_
   refine aY (by simp[hw];exact Is.rfl) ?_
   exact ⟨D - 1,by omega,j+1,by omega,by rw[hs,cF,decide_eq_false hq];rfl,SE.mk (by simp[dI,dL,dS,hw]) (by simp)⟩
 ·simp at hb
  have eE:j=l.length:=by omega
  rw[eE,List.take_length] at cF
  have hf:=lL (p:=fun d:Tx=>decide (d=x)) cF
  have hm:decide (x∈l)=false:=decide_eq_false (fun h=>by have:=List.all_eq_true.1 cF x h;simp at this)
  rw[hm]
  refine bA (j5 @aB @aA @aM @aH @aI) ?_
  show a8 _ _ _ _ _
  exact ⟨.inr rfl,_,_,rfl,rfl⟩
theorem aVK (r:Nat):Ob.keep 161 r=Ob.k161 r:=by kernel_rfl
attribute [local simp] aVK Ob.k161
set_option maxHeartbeats 1000000 in
theorem aCA (l:List Dc) (x:Tx) (hl:l.length≤MX):eJ Tryz.prog Ob.cfg 161 [dL (cM l),dS x]=some (dI (fI l x)):=by
 unfold MX at hl
 refine bI Tryz.func161 rfl (by kernel_rfl) rfl rfl ?_
 refine bA (jn @aA @aM) ?_
 apply WP.loop' (I:=fun D s=>∃ j:Nat,j+D=l.length∧(l.take j).all (fun d:Dc=> !decide (d.nm=x))=true∧SE [(0,dL (cM l)),(1,dS x),(5,dI j)] [] 0 s) (d:=l.length)
 ·exact ⟨0,by simp,by simp,SE.mk (by simp[dI,dL,dS]) (by simp)⟩
 rintro D _ ⟨j,hj,cF,cc,rfl⟩
 refine wk (j3 @aB @aA @aM) ?_
 show WP _ _ _ _ _ _
 refine WP.cond _ rfl (fun hb=>?_) (fun hb=>?_)
 ·simp at hb
  have bP:j<l.length:=by omega
  obtain ⟨d,hd,d8,bV⟩:=bM bP
  have cG:=eD hd
  have hw:=bE bP (by omega)
  have hs:=bZ (p:=fun d:Dc=> !decide (d.nm=x)) hd
  by_cases hq:d.nm=x
  ·have g9:=eq_true hq
   have hf:=m8 (p:=fun d:Dc=>decide (d.nm=x)) cF hd (decide_eq_true hq)
   have hm:fI l x=d.t:=by unfold fI;rw[hf]
   rw[hm]
   refine bA (j8 @aB @aA @aM @bV @cG @bF @g9 @aR) ?_
   show a8 _ _ _ _ _
   exact ⟨.inr rfl,_,_,rfl,rfl⟩
  ·have g9:=eq_false hq
   refine bA (j8 @aB @aA @aM @bV @cG @bF @g9 @aR) ?_
   refine aY (by simp[hw];exact Is.rfl) ?_
   exact ⟨D - 1,by omega,j+1,by omega,by rw[hs,cF,decide_eq_false hq];rfl,SE.mk (by simp[dI,dL,dS,hw]) (by simp)⟩
 ·simp at hb
  have eE:j=l.length:=by omega
  rw[eE,List.take_length] at cF
  have hf:=lL (p:=fun d:Dc=>decide (d.nm=x)) cF
  have hm:fI l x=0:=by unfold fI;rw[hf]
  rw[hm]
  refine bA (j5 @aB @aA @aM @aH @aI) ?_
  show a8 _ _ _ _ _
  exact ⟨.inr rfl,_,_,rfl,rfl⟩
theorem aVw (r:Nat):Ob.keep 117 r=Ob.k117 r:=by kernel_rfl
attribute [local simp] aVw Ob.k117
set_option maxHeartbeats 1000000 in
theorem aMR (w:Pl) (x:Tx) (hl:w.c.mems.length≤MX):eJ Tryz.prog Ob.cfg 117 [aG w.cells,dS x]=some (dI (eO w.c.mems x)):=by
 unfold MX at hl
 refine bI Tryz.func117 rfl (by kernel_rfl) rfl rfl ?_
 refine bA (j4 @aD @aL @aA @aM) ?_
 apply WP.loop' (I:=fun D s=>∃ j:Nat,j+D=w.c.mems.length∧(w.c.mems.take j).all (fun d:Mm=> !decide (d.nm=x))=true∧SE [(1,dS x),(2,.ptr 0 0 0),(5,dI j)] [(0,⟨0,false,w.cells.map .d⟩)] 1 s) (d:=w.c.mems.length)
 ·exact ⟨0,by simp,by simp,SE.mk (by simp[dI,dL,dS]) (by simp[Pl.cells])⟩
 rintro D _ ⟨j,hj,cF,cc,rfl⟩
 refine wk (j4 @aB @aA @aM @aL) ?_
 show WP _ _ _ _ _ _
 refine WP.cond _ rfl (fun hb=>?_) (fun hb=>?_)
 ·simp at hb
  have bP:j<w.c.mems.length:=by omega
  obtain ⟨d,hd,d8,bV⟩:=bM bP
  have cG:=kI hd
  have hw:=bE bP (by omega)
  have hs:=bZ (p:=fun d:Mm=> !decide (d.nm=x)) hd
  by_cases hq:d.nm=x
  ·have g9:=eq_true hq
   have hf:=m8 (p:=fun d:Mm=>decide (d.nm=x)) cF hd (decide_eq_true hq)
   have hm:eO w.c.mems x=d.t:=by unfold eO;rw[hf]
   rw[hm]
   refine bA (j9 @aB @aA @aM @bV @cG @bF @g9 @Mm.cells.eq_1 @aL) ?_
   show a8 _ _ _ _ _
   exact ⟨.inr rfl,_,_,rfl,rfl⟩
  ·have g9:=eq_false hq
   refine bA (j9 @aB @aA @aM @bV @cG @bF @g9 @Mm.cells.eq_1 @aL) ?_
   refine aY (by simp[hw];exact Is.rfl) ?_
   exact ⟨D - 1,by omega,j+1,by omega,by rw[hs,cF,decide_eq_false hq];rfl,SE.mk (by simp[dI,dL,dS,hw]) (by simp[Pl.cells])⟩
 ·simp at hb
  have eE:j=w.c.mems.length:=by omega
  rw[eE,List.take_length] at cF
  have hf:=lL (p:=fun d:Mm=>decide (d.nm=x)) cF
  have hm:eO w.c.mems x=0:=by unfold eO;rw[hf]
  rw[hm]
  refine bA (j6 @aB @aA @aM @aL @aH @aI) ?_
  show a8 _ _ _ _ _
  exact ⟨.inr rfl,_,_,rfl,rfl⟩
theorem aYJ (r:Nat):Ob.keep 51 r=Ob.k51 r:=by kernel_rfl
attribute [local simp] aYJ Ob.k51
set_option maxHeartbeats 1000000 in
theorem aAA (o:Oc) (x:Tx) (hl:o.cl.length≤MX):eJ Tryz.prog Ob.cfg 51 [aG o.cells,dS x]=some (.tuple [aG (dC o.cl x).1.cells,dB (dC o.cl x).2]):=by
 unfold MX at hl
 refine bI Tryz.func51 rfl (by kernel_rfl) rfl rfl ?_
 refine bA (j4 @aD @aJ @aA @aM) ?_
 apply WP.loop' (I:=fun D s=>∃ j:Nat,j+D=o.cl.length∧(o.cl.take j).all (fun d:Cl=> !decide (d.nm=x))=true∧SE [(1,dS x),(2,.ptr 0 0 0),(4,.ptr 1 1 0),(6,dI j)] [(0,⟨0,false,o.cells.map .d⟩),(1,⟨1,false,[.d (.str []),.full [],.full [],.full [],.full [],.full [],.full []]⟩)] 2 s) (d:=o.cl.length)
 ·exact ⟨0,by simp,by simp,SE.mk (by simp[dI,dL,dS]) (by simp[Oc.cells])⟩
 rintro D _ ⟨j,hj,cF,cc,rfl⟩
 refine wk (j4 @aB @aA @aM @aJ) ?_
 show WP _ _ _ _ _ _
 refine WP.cond _ rfl (fun hb=>?_) (fun hb=>?_)
 ·simp at hb
  have bP:j<o.cl.length:=by omega
  obtain ⟨d,hd,d8,bV⟩:=bM bP
  have cG:=lH hd
  have hw:=bE bP (by omega)
  have hs:=bZ (p:=fun d:Cl=> !decide (d.nm=x)) hd
  by_cases hq:d.nm=x
  ·have g9:=eq_true hq
   have hf:=m8 (p:=fun d:Cl=>decide (d.nm=x)) cF hd (decide_eq_true hq)
   have hm:dC o.cl x=(d,true):=by unfold dC;rw[hf]
   rw[hm]
   refine bA (j9 @aB @aA @aM @bV @cG @bF @g9 @aK @aJ) ?_
   exact ⟨.inr rfl,_,_,rfl,rfl⟩
  ·have g9:=eq_false hq
   refine bA (j9 @aB @aA @aM @bV @cG @bF @g9 @aK @aJ) ?_
   refine aY (by simp[hw];exact Is.rfl) ?_
   exact ⟨D - 1,by omega,j+1,by omega,by rw[hs,cF,decide_eq_false hq];rfl,SE.mk (by simp[dI,dL,dS,hw]) (by simp[Oc.cells])⟩
 ·simp at hb
  have eE:j=o.cl.length:=by omega
  rw[eE,List.take_length] at cF
  have hf:=lL (p:=fun d:Cl=>decide (d.nm=x)) cF
  have hm:dC o.cl x=(clZ,false):=by unfold dC;rw[hf]
  rw[hm]
  refine bA (j6 @aB @aA @aM @aJ @aH @aI) ?_
  exact ⟨.inr rfl,_,_,rfl,rfl⟩
theorem aSk (r:Nat):Ob.keep 120 r=Ob.k120 r:=by kernel_rfl
attribute [local simp] aSk Ob.k120
set_option maxHeartbeats 1000000 in
theorem aEI (w:Pl) (x:Tx) (hl:w.c.ins.length≤MX) (hl2:w.o.cl.length≤MX):eJ Tryz.prog Ob.cfg 120 [aG w.cells,dS x]=some (.tuple [aG (fD w.c.ins w.o.cl x).1.cells,dB (fD w.c.ins w.o.cl x).2]):=by
 have hc:=fun y=>aAA w.o y hl2
 simp only[aG,Oc.cells,Cl.cells,List.map_cons,List.map_nil,dS,dB] at hc
 unfold MX at hl
 refine bI Tryz.func120 rfl (by kernel_rfl) rfl rfl ?_
 refine bA (j4 @aD @aL @aA @aM) ?_
 apply WP.loop' (I:=fun D s=>∃ j:Nat,j+D=w.c.ins.length∧(w.c.ins.take j).all (fun d:Ii=> !decide (d.nm=x))=true∧SE [(1,dS x),(2,.ptr 0 0 0),(4,.ptr 1 1 0),(6,dI j)] [(0,⟨0,false,w.cells.map .d⟩),(1,⟨1,false,[.d (.str []),.full [],.full [],.full [],.full [],.full [],.full []]⟩)] 2 s) (d:=w.c.ins.length)
 ·exact ⟨0,by simp,by simp,SE.mk (by simp[dI,dL,dS]) (by simp[Pl.cells])⟩
 rintro D _ ⟨j,hj,cF,cc,rfl⟩
 refine wk (j4 @aB @aA @aM @aL) ?_
 show WP _ _ _ _ _ _
 refine WP.cond _ rfl (fun hb=>?_) (fun hb=>?_)
 ·simp at hb
  have bP:j<w.c.ins.length:=by omega
  obtain ⟨d,hd,d8,bV⟩:=bM bP
  have cG:=nP hd
  have hw:=bE bP (by omega)
  have hs:=bZ (p:=fun d:Ii=> !decide (d.nm=x)) hd
  by_cases hq:d.nm=x
  ·have g9:=eq_true hq
   have hf:=m8 (p:=fun d:Ii=>decide (d.nm=x)) cF hd (decide_eq_true hq)
   have hm:fD w.c.ins w.o.cl x=dC w.o.cl d.cl:=by unfold fD;rw[hf]
   rw[hm]
   refine bA (oR @aB @aA @aM @bV @cG @bF @g9 @Ii.cells.eq_1 @aL @hc) ?_
   exact ⟨.inr rfl,_,_,rfl,rfl⟩
  ·have g9:=eq_false hq
   refine bA (j9 @aB @aA @aM @bV @cG @bF @g9 @Ii.cells.eq_1 @aL) ?_
   refine aY (by simp[hw];exact Is.rfl) ?_
   exact ⟨D - 1,by omega,j+1,by omega,by rw[hs,cF,decide_eq_false hq];rfl,SE.mk (by simp[dI,dL,dS,hw]) (by simp[Pl.cells])⟩
 ·simp at hb
  have eE:j=w.c.ins.length:=by omega
  rw[eE,List.take_length] at cF
  have hf:=lL (p:=fun d:Ii=>decide (d.nm=x)) cF
  have hm:fD w.c.ins w.o.cl x=(clZ,false):=by unfold fD;rw[hf]
  rw[hm]
  refine bA (j6 @aB @aA @aM @aL @aH @aI) ?_
  exact ⟨.inr rfl,_,_,rfl,rfl⟩
def kN (c:Cl) (x:Tx):Int:=if fI c.out x=0 then fI c.loc x else fI c.out x
def dF (c:Cl) (x:Tx):Int:=if fI c.inn x=0 then kN c x else fI c.inn x
theorem aUo (r:Nat):Ob.keep 145 r=Ob.k145 r:=by kernel_rfl
theorem aUa (r:Nat):Ob.keep 146 r=Ob.k146 r:=by kernel_rfl
attribute [local simp] aUo Ob.k145 aUa Ob.k146
set_option maxHeartbeats 1000000 in
theorem aIU (w:Pl) (x:Tx) (h1:w.c.out.length≤MX) (h2:w.c.loc.length≤MX):eJ Tryz.prog Ob.cfg 145 [aG w.cells,dS x]=some (dI (kN w.c x)):=by
 have a1:=aCA w.c.out x h1
 have a2:=aCA w.c.loc x h2
 simp only[dL,dS,dI] at a1 a2
 refine bI Tryz.func145 rfl (by kernel_rfl) rfl rfl ?_
 unfold kN
 by_cases h:fI w.c.out x=0
 ·rw[if_pos h]
  rw[h] at a1
  refine bA (j6 @aD @aL @aA @aM @a1 @a2) ?_
  show a8 _ _ _ _ _
  exact ⟨.inr rfl,_,_,rfl,rfl⟩
 ·rw[if_neg h]
  refine bA (j7 @aD @aL @aA @aM @a1 @h @aS) ?_
  show a8 _ _ _ _ _
  exact ⟨.inr rfl,_,_,rfl,rfl⟩
set_option maxHeartbeats 1000000 in
theorem aMe (w:Pl) (x:Tx) (h1:w.c.out.length≤MX) (h2:w.c.loc.length≤MX) (h3:w.c.inn.length≤MX):eJ Tryz.prog Ob.cfg 146 [aG w.cells,dS x]=some (dI (dF w.c x)):=by
 have a1:=aCA w.c.inn x h3
 have a2:=aIU w x h1 h2
 simp only[aG,Pl.cells,List.map_cons,List.map_nil,dL,dS,dI] at a1 a2
 refine bI Tryz.func146 rfl (by kernel_rfl) rfl rfl ?_
 unfold dF
 by_cases h:fI w.c.inn x=0
 ·rw[if_pos h]
  rw[h] at a1
  refine bA (j6 @aD @aL @aA @aM @a1 @a2) ?_
  show a8 _ _ _ _ _
  exact ⟨.inr rfl,_,_,rfl,rfl⟩
 ·rw[if_neg h]
  refine bA (j7 @aD @aL @aA @aM @a1 @h @aS) ?_
  show a8 _ _ _ _ _
  exact ⟨.inr rfl,_,_,rfl,rfl⟩
end Go.Ac
end
section
set_option maxRecDepth 4000
namespace Go.Ac
open Go.Proofs
def fl (l:List (List D)):List V:=l.flatten.map .d
theorem aMg (look:cA) (f:Nat):∀ l:List D,iH (toD look f) (l.map V.d)=some (l,[])
 | []=>rfl
 | x::r=>by
  have h1:=aMg look f r
  simp only[List.map_cons,iH,h1,b8];rfl
theorem eN {sz:Nat}:∀ {l:List (List D)},(∀ r∈l,r.length=sz)→eL sz l.length l.flatten=l
 | [],_=>rfl
 | r::l,h=>by
  have h1:=h r (by simp)
  have ih:=eN (l:=l) (fun x hx=>h x (by simp[hx]))
  simp only[List.length_cons,List.flatten_cons,eL]
  rw[List.take_append_of_le_length (by omega),List.drop_append_of_le_length (by omega),←h1,List.take_length,List.drop_length,List.nil_append,h1,ih]
theorem aHf {sz:Nat}:∀ {l:List (List D)},(∀ r∈l,r.length=sz)→l.flatten.length=l.length*sz
 | [],_=>by simp
 | r::l,h=>by
  have h1:=h r (by simp)
  have ih:=aHf (l:=l) (fun x hx=>h x (by simp[hx]))
  simp[ih,h1,Nat.add_mul];omega
theorem cR {sz:Nat} {l:List (List D)} (h:∀ r∈l,r.length=sz):(fl l).length=l.length*sz:=by unfold fl;rw[List.length_map,aHf h]
theorem cI {sz:Nat} {l:List (List D)} (h:∀ r∈l,r.length=sz):(fl l).take (l.length*sz)=fl l:=by rw[←cR h,List.take_length]
theorem aAM (look:cA) {sz:Nat} {l:List (List D)} (h:∀ r∈l,r.length=sz):iU look sz (.d (.slice l))=some (l.length,fl l,[]):=by
 have:l.all (fun r=>Nat.beq r.length sz)=true:=by rw[List.all_eq_true];intro r hr;rw[h r hr];exact tW sz
 simp only[iU,this,if_true];rfl
theorem cJ (look:cA) (f:Nat) (l:List (List D)):iH (toD look f) (fl l)=some (l.flatten,[]):=aMg look f _
theorem dT (l:List (List D)) (r:List D):fl l++r.map .d=fl (l++[r]):=by unfold fl;simp
theorem gO (l:List Pr):∀ r∈iJ l,r.length=2:=by unfold iJ;intro r hr;obtain ⟨x,_,rfl⟩:=List.mem_map.1 hr;rfl
theorem aBu (l:List Pr) (p:Pr):iJ l++[p.cells]=iJ (l++[p]):=by unfold iJ;simp
theorem jA {look:cA} {id g sz:Nat} {ro:Bool} {l:List (List D)} {cap:Option Nat} (h:∀ r∈l,r.length=sz) (hl:look id=some ⟨g,ro,fl l⟩):d7 look (.osl id g 0 l.length sz cap)=some (dL l,[id]):=by
 show ofD (toD look xA _)=_
 rw[bG]
 have:live look id g=some ⟨g,ro,fl l⟩:=by simp[live,hl]
 rw[this]
 simp only[Nat.zero_add,List.drop_zero,cR h,cI h,cJ,eN h,bH,Nat.le_refl,decide_true]
 rfl
theorem aPw (r:Nat):Ob.keep 121 r=Ob.k121 r:=by kernel_rfl
theorem aSv (r:Nat):Ob.keep 33 r=Ob.k33 r:=by kernel_rfl
theorem aVc (r:Nat):Ob.keep 77 r=Ob.k77 r:=by kernel_rfl
attribute [local simp] aPw Ob.k121 aSv Ob.k33 aVc Ob.k77
set_option maxHeartbeats 1000000 in
theorem aEC (cx:List Pr) (nm:Tx) (k:Nat) (hl:cx.length≤16777216):eJ Tryz.prog Ob.cfg 121 [dL (iJ cx),dS nm,dI k]=some (dL (iJ (cx++[⟨nm,k⟩]))):=by
 have r1:=fun look=>aAM look (gO cx)
 have r2:=cR (gO cx)
 have r3:=cI (gO cx)
 have r4:=dT (iJ cx) (Pr.cells ⟨nm,k⟩)
 have r5:=aBu cx ⟨nm,k⟩
 have f1:bU cx.length 24=true:=by simp[bU];omega
 have f2:bU (cx.length+1) 24=true:=by simp[bU];omega
 rw[r5] at r4
 rw[lX] at r2 r3
 simp only[Pr.cells,List.map_cons,List.map_nil] at r4
 refine bI Tryz.func121 rfl (by kernel_rfl) rfl rfl ?_
 refine bA (vM @aA @aM @aB @r1 @r2 @r3 @r4 @f1 @f2 @aH @aI @aP @aQ @bH) ?_
 have hc:=fun look hl=>jA (look:=look) (id:=0) (g:=3) (ro:=false) (cap:=none) (gO (cx++[⟨nm,k⟩])) hl
 simp only[lX,List.length_append,List.length_cons,List.length_nil] at hc
 exact ⟨.inr rfl,_,[0],rfl,hc _ rfl⟩
mutual
def asY (x:Tx) (all:Bool):List Pr→Y→Bool
 | cx,.mk k nm _ _ outs _ brs=>
  if k=1 then decide (nm=x) else if k=4 then decide (x∈outs) else if k=3 then
   match cx.find? (fun p=>decide (p.nm=nm)) with
   | some p=>asN x all cx brs p.br
   | none=>if all then decide (yJ x all cx nm 0 brs=brs.length) else decide (0<yJ x all cx nm 0 brs)
  else false
def vQ (x:Tx) (all:Bool):List Pr→List Y→Bool
 | _,[]=>false
 | cx,y::r=>asY x all cx y||vQ x all cx r
def asN (x:Tx) (all:Bool):List Pr→List (List Y)→Nat→Bool
 | _,[],_=>false
 | cx,b::_,0=>vQ x all cx b
 | cx,_::r,n+1=>asN x all cx r n
def yJ (x:Tx) (all:Bool):List Pr→Tx→Nat→List (List Y)→Nat
 | _,_,_,[]=>0
 | cx,nm,k,b::r=>(if vQ x all (cx++[⟨nm,k⟩]) b then 1 else 0)+yJ x all cx nm (k+1) r
end
theorem aJq (x:Tx) (all:Bool) (cx:List Pr) (y:Y):asY x all cx y=if y.k=1 then decide (y.nm=x) else if y.k=4 then decide (x∈y.outs) else if y.k=3 then
   match cx.find? (fun p=>decide (p.nm=y.nm)) with
   | some p=>asN x all cx y.brs p.br
   | none=>if all then decide (yJ x all cx y.nm 0 y.brs=y.brs.length) else decide (0<yJ x all cx y.nm 0 y.brs)
  else false:=by cases y;rw[asY];rfl
theorem z8 (x:Tx) (all:Bool) (cx:List Pr):∀ l:List Y,vQ x all cx l=l.any (asY x all cx)
 | []=>by rw[vQ];rfl
 | y::r=>by rw[vQ,z8 x all cx r];rfl
theorem aJp (x:Tx) (all:Bool) (cx:List Pr):∀ (l:List (List Y)) (n:Nat) (b:List Y),l[n]?=some b→asN x all cx l n=vQ x all cx b
 | [],n,b,h=>by simp at h
 | c::r,0,b,h=>by simp at h;subst h;rw[asN]
 | c::r,n+1,b,h=>by rw[asN];exact aJp x all cx r n b (by simpa using h)
theorem aFC (x:Tx) (all:Bool) (cx:List Pr):∀ (l:List (List Y)) (n:Nat),l.length≤n→asN x all cx l n=false
 | [],n,h=>by rw[asN]
 | c::r,0,h=>by simp at h
 | c::r,n+1,h=>by rw[asN];exact aFC x all cx r n (by simpa using h)
theorem aAd (x:Tx) (all:Bool) (cx:List Pr) (nm:Tx):∀ (l:List (List Y)) (k:Nat) (b:List Y),yJ x all cx nm k (l++[b])=yJ x all cx nm k l+(if vQ x all (cx++[⟨nm,k+l.length⟩]) b then 1 else 0)
 | [],k,b=>by simp[yJ]
 | c::r,k,b=>by
  rw[List.cons_append,yJ,yJ,aAd x all cx nm r (k+1) b]
  simp only[List.length_cons]
  rw[show k+1+r.length=k+(r.length+1) by omega]
  omega
def aMC (x:Tx) (all:Bool) (N:Nat):Prop:=∀ (l:List Y) (cx:List Pr),iG l<N→cx.length+iG l≤8388608→eJ Tryz.prog Ob.cfg 33 [dL (dM l),dS x,dL (iJ cx),dB all]=some (dB (vQ x all cx l))
theorem aAj (x:Tx) (all:Bool) (cx:List Pr) (nm:Tx):∀ (l:List (List Y)) (k:Nat),yJ x all cx nm k l≤l.length
 | [],k=>by simp[yJ]
 | b::r,k=>by rw[yJ];have:=aAj x all cx nm r (k+1);simp only[List.length_cons];split <;> omega
set_option maxHeartbeats 4000000 in
theorem aLs {x:Tx} {all:Bool} {N:Nat} (h:aMC x all N) (y:Y) (cx:List Pr) (hy:y.sz≤N) (hb0:cx.length+y.sz≤8388608):eJ Tryz.prog Ob.cfg 77 [aG y.cells,dS x,dL (iJ cx),dB all]=some (dB (asY x all cx y)):=by
 rw[Y.sz_eq] at hy hb0
 have k1:=oU y.outs
 have k2:=s8 y.brs
 have ho:=aKw y.outs x (by unfold MX;omega)
 simp only[dL,dS,dB] at ho
 rw[aJq]
 refine bI Tryz.func77 rfl (by kernel_rfl) rfl rfl ?_
 by_cases q1:y.k=1
 ·rw[if_pos q1]
  refine bA (j8 @aD @aC @aA @aM @aF @aS @bF @q1) ?_
  show a8 _ _ _ _ _
  exact ⟨.inr rfl,_,_,rfl,rfl⟩
 rw[if_neg q1]
 by_cases q4:y.k=4
 ·rw[if_pos q4]
  refine bA (j9 @aD @aC @aA @aM @aF @aS @bF @q4 @ho) ?_
  show a8 _ _ _ _ _
  exact ⟨.inr rfl,_,_,rfl,rfl⟩
 rw[if_neg q4]
 by_cases q3:y.k=3
 case neg=>
  rw[if_neg q3]
  refine bA (j9 @aD @aC @aA @aM @aF @aS @q1 @q4 @q3) ?_
  show a8 _ _ _ _ _
  exact ⟨.inr rfl,_,_,rfl,rfl⟩
 rw[if_pos q3]
 refine bA (j7 @aD @aC @aA @aM @aF @aS @q3) ?_
 apply WP.loop' (I:=fun D s=>∃ j:Nat,j+D=cx.length∧(cx.take j).all (fun p:Pr=> !decide (p.nm=y.nm))=true∧SE [(1,dS x),(2,dL (iJ cx)),(3,dB all),(4,.ptr 0 0 0),(9,dI j)] [(0,⟨0,false,y.cells.map .d⟩)] 1 s) (d:=cx.length)
 ·exact ⟨0,by simp,by simp,SE.mk (by simp[dI,dL,dS,dB]) (by simp[aC,q3])⟩
 rintro D _ ⟨j,hj,cF,cc,rfl⟩
 refine wk (j5 @aB @aA @aM @aF @aC) ?_
 show WP _ _ _ _ _ _
 refine WP.cond _ rfl (fun hb=>?_) (fun hb=>?_)
 ·simp at hb
  have bP:j<cx.length:=by omega
  obtain ⟨p,hp,hpm,bV⟩:=bM bP
  have bB:=aFZ hp
  have hw:=bE bP (by omega)
  have hs:=bZ (p:=fun p:Pr=> !decide (p.nm=y.nm)) hp
  by_cases hq:p.nm=y.nm
  case neg=>
   have g9:=eq_false hq
   refine bA (oR @aB @aA @aM @aF @aC @Pr.cells.eq_1 @bV @bB @bF @g9) ?_
   refine aY (by simp[hw];exact Is.rfl) ?_
   exact ⟨D - 1,by omega,j+1,by omega,by rw[hs,cF,decide_eq_false hq];rfl,SE.mk (by simp[dI,dL,dS,dB,hw]) (by simp[aC])⟩
  have g9:=eq_true hq
  have hf:=m8 (p:=fun p:Pr=>decide (p.nm=y.nm)) cF hp (decide_eq_true hq)
  rw[hf]
  by_cases eU:p.br<y.brs.length
  ·have c1:((p.br:Int)<y.brs.length)=True:=eq_true (by omega)
   have c1':(p.br<y.brs.length)=True:=eq_true eU
   obtain ⟨b,xG,zR,uH⟩:=bM eU
   have lC:=l9 xG
   have hr:=h b cx (by have:=gR zR;omega) (by have:=gR zR;omega)
   have he:=aJp x all cx y.brs p.br b xG
   simp only[he]
   simp only[dL,dS,dB] at hr
   refine bA (vM @aB @aA @aM @aF @aC @Pr.cells.eq_1 @bV @bB @bF @g9 @uH @lC @hr @c1) ?_
   show a8 _ _ _ _ _
   exact ⟨.inr rfl,_,_,rfl,rfl⟩
  ·have c1:((p.br:Int)<y.brs.length)=False:=eq_false (by omega)
   have c1':(p.br<y.brs.length)=False:=eq_false eU
   have he:=aFC x all cx y.brs p.br (by omega)
   simp only[he]
   refine bA (qJ @aB @aA @aM @aF @aC @Pr.cells.eq_1 @bV @bB @bF @g9 @c1 @c1') ?_
   show a8 _ _ _ _ _
   exact ⟨.inr rfl,_,_,rfl,rfl⟩
 ·simp at hb
  have eE:j=cx.length:=by omega
  rw[eE,List.take_length] at cF
  have hf:=lL (p:=fun p:Pr=>decide (p.nm=y.nm)) cF
  rw[hf]
  refine bA (j5 @aB @aA @aM @aF @aC) ?_
  apply WP.loop' (I:=fun D s=>∃ i n:Nat,i+D=y.brs.length∧n=yJ x all cx y.nm 0 (y.brs.take i)∧SE [(1,dS x),(2,dL (iJ cx)),(3,dB all),(4,.ptr 0 0 0),(10,dI n),(11,dI i)] [(0,⟨0,false,y.cells.map .d⟩)] 1 s) (d:=y.brs.length)
  ·exact ⟨0,0,by simp,by simp[yJ],SE.mk (by simp[dI,dL,dS,dB]) (by simp[aC])⟩
  rintro D2 _ ⟨i,n,hi,hn,cc2,rfl⟩
  refine wk (j5 @aB @aA @aM @aF @aC) ?_
  show WP _ _ _ _ _ _
  refine WP.cond _ rfl (fun hb=>?_) (fun hb=>?_)
  ·simp at hb
   have hc':i<y.brs.length:=by omega
   obtain ⟨b,xG,zR,uH⟩:=bM hc'
   have lC:=l9 xG
   have hw2:=bE hc' (by omega)
   have hin:=aEC cx y.nm i (by omega)
   have hr:=h b (cx++[⟨y.nm,i⟩]) (by have:=gR zR;omega) (by have:=gR zR;simp;omega)
   have jP:y.brs.take (i+1)=y.brs.take i++[b]:=bL xG
   have hcn:=aAd x all cx y.nm (y.brs.take i) 0 b
   rw[←jP,←hn,List.length_take,Nat.min_eq_left (by omega),Nat.zero_add] at hcn
   have hnl:=aAj x all cx y.nm (y.brs.take i) 0
   rw[←hn] at hnl
   have aZh:n≤y.brs.length:=by rw[List.length_take] at hnl;omega
   have hwn:IntKind.i64.wrap ((n:Int)+1)=((n+1:Nat):Int):=by rw[aEA] <;> omega
   simp only[dL,dS,dB,dI] at hin hr
   cases he:vQ x all (cx++[⟨y.nm,i⟩]) b with
   | true=>
    rw[he] at hr hcn
    refine bA (j9 @aB @aA @aM @aF @aC @uH @lC @hin @hr) ?_
    refine aY (by simp[hw2,hwn];exact Is.rfl) ?_
    exact ⟨D2 - 1,by omega,i+1,n+1,by omega,by rw[hcn];simp,SE.mk (by simp[dI,dL,dS,dB,hw2,hwn]) (by simp[aC])⟩
   | false=>
    rw[he] at hr hcn
    refine bA (j9 @aB @aA @aM @aF @aC @uH @lC @hin @hr) ?_
    refine aY (by simp[hw2];exact Is.rfl) ?_
    exact ⟨D2 - 1,by omega,i+1,n,by omega,by rw[hcn];simp,SE.mk (by simp[dI,dL,dS,dB,hw2]) (by simp[aC])⟩
  ·simp at hb
   have kP:i=y.brs.length:=by omega
   rw[kP,List.take_length] at hn
   simp only[←hn]
   cases all with
   | true=>
    by_cases hnn:n=y.brs.length
    ·have e1:((n:Int)=y.brs.length)=True:=eq_true (by omega)
     refine bA (j8 @aB @aA @aM @aF @aC @aS @e1 @hnn) ?_
     exact ⟨.inr rfl,_,_,rfl,by simp[hnn];rfl⟩
    ·have e1:((n:Int)=y.brs.length)=False:=eq_false (by omega)
     refine bA (j8 @aB @aA @aM @aF @aC @aS @e1 @hnn) ?_
     exact ⟨.inr rfl,_,_,rfl,by simp[hnn];rfl⟩
   | false=>
    refine bA (j6 @aB @aA @aM @aF @aC @aS) ?_
    exact ⟨.inr rfl,_,_,rfl,by simp;rfl⟩
set_option maxHeartbeats 1000000 in
theorem aIo (x:Tx) (all:Bool):∀ N,aMC x all N:=by
 intro N
 induction N with
 | zero=>intro l cx h;omega
 | succ N ih=>
 intro l cx hN hb0
 have k1:=l0 l
 refine bI Tryz.func33 rfl (by kernel_rfl) rfl rfl ?_
 rw[z8]
 refine bA (j3 @aA @aM @aF) ?_
 apply WP.loop' (I:=fun D s=>∃ j:Nat,j+D=l.length∧(l.take j).all (fun y=> !asY x all cx y)=true∧SE [(0,dL (dM l)),(1,dS x),(2,dL (iJ cx)),(3,dB all),(9,dI j)] [] 0 s) (d:=l.length)
 ·exact ⟨0,by simp,by simp,SE.mk (by simp[dI,dL,dS,dB]) rfl⟩
 rintro D _ ⟨j,hj,cF,cc,rfl⟩
 refine wk (j4 @aB @aA @aM @aF) ?_
 show WP _ _ _ _ _ _
 refine WP.cond _ rfl (fun hb=>?_) (fun hb=>?_)
 ·simp at hb
  have bP:j<l.length:=by omega
  obtain ⟨y,hy,vY,bV⟩:=bM bP
  have pW:=oT hy
  have hw:=bE bP (by omega)
  have hs:=bZ (p:=fun y=> !asY x all cx y) hy
  have hr:=aLs ih y cx (by have:=nS vY;omega) (by have:=nS vY;omega)
  simp only[aG,aC,List.map_cons,List.map_nil,dL,dS,dB] at hr
  cases he:asY x all cx y with
  | true=>
   rw[he] at hr
   have ha:l.any (asY x all cx)=true:=List.any_eq_true.2 ⟨y,vY,he⟩
   rw[ha]
   refine bA (j8 @aB @aA @aM @aF @aC @bV @pW @hr) ?_
   show a8 _ _ _ _ _
   exact ⟨.inr rfl,_,_,rfl,rfl⟩
  | false=>
   rw[he] at hr hs
   refine bA (j8 @aB @aA @aM @aF @aC @bV @pW @hr) ?_
   refine aY (by simp[hw];exact Is.rfl) ?_
   exact ⟨D - 1,by omega,j+1,by omega,by rw[hs,cF];rfl,SE.mk (by simp[dI,dL,dS,dB,hw]) rfl⟩
 ·simp at hb
  have eE:j=l.length:=by omega
  rw[eE,List.take_length] at cF
  have ha:l.any (asY x all cx)=false:=by
   cases aRS:l.any (asY x all cx) with
   | false=>rfl
   | true=>
    obtain ⟨y,hy,hye⟩:=List.any_eq_true.1 aRS
    have:=List.all_eq_true.1 cF y hy
    rw[hye] at this;cases this
  rw[ha]
  refine bA (j4 @aB @aA @aM @aF) ?_
  show a8 _ _ _ _ _
  exact ⟨.inr rfl,_,_,rfl,rfl⟩
end Go.Ac
end
