/- Names of a class and its maps: plain facts. -/
import Derived.Test.YtkgekafdhehleaaGreatObIxM
set_option linter.unusedVariables false
set_option linter.unusedSimpArgs false
section
set_option maxRecDepth 4000
namespace Go.Ac
open Go.Proofs
attribute [local simp] Hp.get_set dA cK cR bW
theorem aWB (r:Nat):Ob.keep 69 r=Ob.k69 r:=by kernel_rfl
attribute [local simp] aWB Ob.k69
theorem WI.setN {ids0:List Nat} {n0:Nat} {rU hp:Hp} {wl:List Nat} (h:WI ids0 n0 rU wl hp) {k:Nat} {o:Ob} (hk:n0≤k):WI ids0 n0 rU wl (hp.set k o):=
 ⟨h.1,fun j hj hn=>by rw[Hp.get_set_ne _ _ _ _ (by omega)];exact h.2 j hj hn⟩
def f8 (o:Oc) (ea:List Cl) (c:Cl):Int:=
 if b9 o.en c.inn≠0 then b9 o.en c.inn
 else if b9 o.en c.out≠0 then b9 o.en c.out
 else if b9 o.en c.loc≠0 then b9 o.en c.loc
 else if c.mems.any (fun m=> !nG o.en m)=true then 10
 else if s8 [] c.names=true then 7
 else if c.ins.any (fun x=> !(cX ea x.cl).2)=true then 6 else 0
theorem aKJ (en:List En) (m:Mm):nG en m=iG en m.t m.ini:=by
 unfold nG iG
 by_cases h2:m.t=2
 ·rw[if_pos h2,show decide (0<fC en m.t)=true by rw[h2];rfl];rfl
 ·rw[if_neg h2]
  by_cases hp:0<fC en m.t
  ·simp[hp]
  ·simp[hp];omega
theorem lT (en:List En):∀ a b:List Dc,b9 en (a++b)=if b9 en a≠0 then b9 en a else b9 en b
 | [],b=>by simp[b9]
 | d::r,b=>by
  rw[List.cons_append,b9,b9,lT en r b]
  split
  ·simp
  ·split
   ·simp
   ·rfl
theorem aCv:∀ (a b p:List Tx),s8 p (a++b)=(s8 p a||s8 (p++a) b)
 | [],b,p=>by simp[s8]
 | x::r,b,p=>by rw[List.cons_append,s8,s8,aCv r b (p++[x])];simp[Bool.or_assoc]
def uX (l:List Tx):List (Tx×Bool):=l.map fun x=>(x,true)
theorem aMd (l:List Tx) (x:Tx):eO (puts [] (uX l)) x=if x∈l then some true else none:=by
 suffices h:∀ (l:List Tx) (a:List (Tx×Bool)),eO (puts a (uX l)) x=if x∈l then some true else eO a x by
  have:=h l [];simpa [eO] using this
 intro l
 induction l with
 | nil=>intro a;simp[uX,puts]
 | cons y r ih=>
  intro a
  have e:uX (y::r)=(y,true)::uX r:=rfl
  rw[e,puts,ih,aCX]
  by_cases h1:x∈r
  ·simp[h1]
  ·by_cases h2:x=y
   ·simp[h2]
   ·simp[h1,h2]
def iV (ea:List Cl) (l:List Ii):List (Tx×Cl):=l.map fun x=>(x.nm,(cX ea x.cl).1)
structure KD (ic iv ip im ii:Nat):Prop where
 c:ic≠ii
 v:iv≠ii
 p:ip≠ii
 m:im≠ii
section
variable {ic gc iv gv ip gp im gm ii gi:Nat} {o:Oc} {ea:List Cl} {c:Cl} {lv lm:List (Tx×Int)} {lp:List (Tx×Bool)}
set_option maxHeartbeats 8000000 in
theorem aHF (hen:∀ t,nY o.en t=decide (0<fC o.en t)) (hea:ea.length≤MX) (hL:CLen c) (cE:c.ok) (hp:Hp) (n cc:Nat) (hD:KD ic iv ip im ii) (hK:KG ic gc iv gv ip gp im gm ii gi o ea c lv lp lm [] hp n):
  aDG Tryz.prog Ob.cfg 69 [.ptr ic gc 0] hp n cc (dI (f8 o ea c)) [ii] (fun bD=>f8 o ea c=0→KG ic gc iv gv ip gp im gm ii gi o ea c lv lp lm (puts [] (iV ea c.ins)) bD n):=by
 have hLs:=hL.sum
 have eD:=hK.co
 have nc:=nf hK.lc
 have ni:=nf hK.li
 have hlc:=hK.lc
 refine wW Tryz.func69 rfl (by kernel_rfl) rfl ?_
 refine fI (j8 @aN @aO @aB @aA @eD @nc @aH @aI) ?_
 apply WP.loop' (I:=fun D s=>∃ (j c':Nat) (wl:List Nat) (bD:Hp),j+D=3∧(0<j→b9 o.en c.inn=0)∧(1<j→b9 o.en c.out=0)∧(2<j→b9 o.en c.loc=0)∧WI [] n hp wl bD∧s=⟨[(0,.ptr ic gc 0),(32,.agg [dL (cM c.inn),dL (cM c.out),dL (cM c.loc)]),(33,dI j)],bD,n,c',n,wl⟩) (d:=3)
 ·exact ⟨0,_,_,_,by simp,by simp,by simp,by simp,WI.refl,bK (by simp[dI,dL]) rfl⟩
 rintro D _ ⟨j,c',wl,bD,hj,d0,d1,d2,eR,rfl⟩
 have eD:=(eR.frame hlc (by simp)).trans hK.co
 obtain rfl|rfl|rfl|rfl:j=0∨j=1∨j=2∨j=3:=by omega
 ·refine fI (j5 @aB @aA @eD @nc @jQ.eq_def) ?_
  apply WP.loop' (I:=fun D s=>∃ (i c':Nat) (wl:List Nat) (bD:Hp),i+D=c.inn.length∧b9 o.en (c.inn.take i)=0∧WI [] n hp wl bD∧s=⟨[(0,.ptr ic gc 0),(32,.agg [dL (cM c.inn),dL (cM c.out),dL (cM c.loc)]),(33,dI 0),(36,dL (cM c.inn)),(37,dI c.inn.length),(38,dI i)],bD,n,c',n,wl⟩) (d:=c.inn.length)
  ·exact ⟨0,_,_,_,by simp,by simp[b9],eR,bK (by simp[dI,dL]) rfl⟩
  clear eR eD
  rintro D2 _ ⟨i,c',wl,bD,hi,hdw,eR,rfl⟩
  have eD:=(eR.frame hlc (by simp)).trans hK.co
  refine aCt (j4 @aB @aA @eD @nc) ?_
  show WP _ _ _ _ _ _
  refine WP.cond _ rfl (fun hb=>?_) (fun hb=>?_)
  ·simp at hb
   have bR:i<c.inn.length:=by omega
   obtain ⟨d,hd,d9,bS⟩:=bL bR
   have cF:=d6 hd
   have dH:=bG bR (by omega)
   have vD:=bM hd
   have aIU:d.ok:=cE.inn d d9
   obtain ⟨nm0,rJ⟩:=aFE o.en d.t aIU.1
   rw[hen] at rJ
   simp only[dL,dI,dS,dB] at rJ
   have xP:=lT o.en (c.inn.take i) [d]
   rw[←vD,hdw,if_neg (by simp)] at xP
   have gL:=lT o.en (c.inn.take (i+1)) (c.inn.drop (i+1))
   rw[List.take_append_drop,xP] at gL
   by_cases h1:0<fC o.en d.t
   case neg=>
    have xN:=eq_false h1
    have hv:b9 o.en [d]=10:=by rw[b9,if_pos h1]
    rw[hv,if_pos (by decide)] at gL
    have hz:b9 o.en c.inn≠0:=by rw[gL];decide
    have hdp:f8 o ea c=10:=by rw[show f8 o ea c=b9 o.en c.inn by unfold f8;rw[if_pos hz],gL]
    rw[hdp]
    rw[decide_eq_false h1] at rJ
    refine fI (nW @aB @aA @eD @nc @bS @cF @aP @aH @aI @rJ) ?_
    exact ⟨.inr rfl,_,[],rfl,rfl,rfl,(by repeat' (first|exact eR|exact eR.mono (by simp)|exact WI.refl|(refine WI.trunc ?_ (by omega))|(refine WI.set ?_ (.inr (by omega)))|(refine WI.setN ?_ (by omega))|(refine WI.set ?_ (.inl (by simp))))),fun h0=>absurd h0 (by decide)⟩
   rw[decide_eq_true h1] at rJ
   by_cases h2:d.ck=[]
   case neg=>
    have sV:(0<d.ck.length)=True:=eq_true (by cases uS:d.ck with|nil=>exact absurd uS h2|cons a r=>simp)
    have aDB:((0:Int)<(d.ck.length:Int))=True:=eq_true (by have:=sV;simp at this;omega)
    have hv:b9 o.en [d]=5:=by rw[b9,if_neg (by simp[h1]),if_pos h2]
    rw[hv,if_pos (by decide)] at gL
    have hz:b9 o.en c.inn≠0:=by rw[gL];decide
    have hdp:f8 o ea c=5:=by rw[show f8 o ea c=b9 o.en c.inn by unfold f8;rw[if_pos hz],gL]
    rw[hdp]
    refine fI (oY @aB @aA @eD @nc @bS @cF @aP @aH @aI @rJ @sV @aDB @mJ) ?_
    exact ⟨.inr rfl,_,[],rfl,rfl,rfl,(by repeat' (first|exact eR|exact eR.mono (by simp)|exact WI.refl|(refine WI.trunc ?_ (by omega))|(refine WI.set ?_ (.inr (by omega)))|(refine WI.setN ?_ (by omega))|(refine WI.set ?_ (.inl (by simp))))),fun h0=>absurd h0 (by decide)⟩
   have hv:b9 o.en [d]=0:=by rw[b9,if_neg (by simp[h1]),if_neg (by simp[h2]),b9]
   have sV:(0<d.ck.length)=False:=by rw[h2];simp
   have aDB:((0:Int)<(d.ck.length:Int))=False:=by rw[h2];simp
   refine fI (oY @aB @aA @eD @nc @bS @cF @aP @aH @aI @rJ @sV @aDB @mJ) ?_
   refine aY (by simp[-bA,dH];exact Is.rfl) ?_
   exact ⟨D2 - 1,by omega,i+1,_,_,_,by omega,by rw[xP,hv],(by repeat' (first|exact eR|exact eR.mono (by simp)|exact WI.refl|(refine WI.trunc ?_ (by omega))|(refine WI.set ?_ (.inr (by omega)))|(refine WI.setN ?_ (by omega))|(refine WI.set ?_ (.inl (by simp))))),bK (by simp[dI,dL,dH]) rfl⟩
  simp at hb
  have nE:i=c.inn.length:=by omega
  rw[nE,List.take_length] at hdw
  refine fI (jn @aB @aA) ?_
  refine aY (by simp[-bA];exact Is.rfl) ?_
  exact ⟨2,by omega,1,_,_,_,by omega,fun _=>hdw,fun h=>absurd h (by omega),fun h=>absurd h (by omega),(by repeat' (first|exact eR|exact eR.mono (by simp)|exact WI.refl|(refine WI.trunc ?_ (by omega))|(refine WI.set ?_ (.inr (by omega)))|(refine WI.setN ?_ (by omega))|(refine WI.set ?_ (.inl (by simp))))),bK (by simp[dI,dL];try decide) rfl⟩
 ·refine fI (j5 @aB @aA @eD @nc @jQ.eq_def) ?_
  apply WP.loop' (I:=fun D s=>∃ (i c':Nat) (wl:List Nat) (bD:Hp),i+D=c.out.length∧b9 o.en (c.out.take i)=0∧WI [] n hp wl bD∧s=⟨[(0,.ptr ic gc 0),(32,.agg [dL (cM c.inn),dL (cM c.out),dL (cM c.loc)]),(33,dI 1),(36,dL (cM c.out)),(37,dI c.out.length),(38,dI i)],bD,n,c',n,wl⟩) (d:=c.out.length)
  ·exact ⟨0,_,_,_,by simp,by simp[b9],eR,bK (by simp[dI,dL]) rfl⟩
  clear eR eD
  rintro D2 _ ⟨i,c',wl,bD,hi,hdw,eR,rfl⟩
  have eD:=(eR.frame hlc (by simp)).trans hK.co
  refine aCt (j4 @aB @aA @eD @nc) ?_
  show WP _ _ _ _ _ _
  refine WP.cond _ rfl (fun hb=>?_) (fun hb=>?_)
  ·simp at hb
   have bR:i<c.out.length:=by omega
   obtain ⟨d,hd,d9,bS⟩:=bL bR
   have cF:=d6 hd
   have dH:=bG bR (by omega)
   have vD:=bM hd
   have aIU:d.ok:=cE.out d d9
   obtain ⟨nm0,rJ⟩:=aFE o.en d.t aIU.1
   rw[hen] at rJ
   simp only[dL,dI,dS,dB] at rJ
   have xP:=lT o.en (c.out.take i) [d]
   rw[←vD,hdw,if_neg (by simp)] at xP
   have gL:=lT o.en (c.out.take (i+1)) (c.out.drop (i+1))
   rw[List.take_append_drop,xP] at gL
   by_cases h1:0<fC o.en d.t
   case neg=>
    have xN:=eq_false h1
    have hv:b9 o.en [d]=10:=by rw[b9,if_pos h1]
    rw[hv,if_pos (by decide)] at gL
    have hz:b9 o.en c.out≠0:=by rw[gL];decide
    have hdp:f8 o ea c=10:=by rw[show f8 o ea c=b9 o.en c.out by unfold f8;rw[if_neg (by simp[d0 (by omega)]),if_pos hz],gL]
    rw[hdp]
    rw[decide_eq_false h1] at rJ
    refine fI (nW @aB @aA @eD @nc @bS @cF @aP @aH @aI @rJ) ?_
    exact ⟨.inr rfl,_,[],rfl,rfl,rfl,(by repeat' (first|exact eR|exact eR.mono (by simp)|exact WI.refl|(refine WI.trunc ?_ (by omega))|(refine WI.set ?_ (.inr (by omega)))|(refine WI.setN ?_ (by omega))|(refine WI.set ?_ (.inl (by simp))))),fun h0=>absurd h0 (by decide)⟩
   rw[decide_eq_true h1] at rJ
   by_cases h2:d.ck=[]
   case neg=>
    have sV:(0<d.ck.length)=True:=eq_true (by cases uS:d.ck with|nil=>exact absurd uS h2|cons a r=>simp)
    have aDB:((0:Int)<(d.ck.length:Int))=True:=eq_true (by have:=sV;simp at this;omega)
    have hv:b9 o.en [d]=5:=by rw[b9,if_neg (by simp[h1]),if_pos h2]
    rw[hv,if_pos (by decide)] at gL
    have hz:b9 o.en c.out≠0:=by rw[gL];decide
    have hdp:f8 o ea c=5:=by rw[show f8 o ea c=b9 o.en c.out by unfold f8;rw[if_neg (by simp[d0 (by omega)]),if_pos hz],gL]
    rw[hdp]
    refine fI (oY @aB @aA @eD @nc @bS @cF @aP @aH @aI @rJ @sV @aDB @mJ) ?_
    exact ⟨.inr rfl,_,[],rfl,rfl,rfl,(by repeat' (first|exact eR|exact eR.mono (by simp)|exact WI.refl|(refine WI.trunc ?_ (by omega))|(refine WI.set ?_ (.inr (by omega)))|(refine WI.setN ?_ (by omega))|(refine WI.set ?_ (.inl (by simp))))),fun h0=>absurd h0 (by decide)⟩
   have hv:b9 o.en [d]=0:=by rw[b9,if_neg (by simp[h1]),if_neg (by simp[h2]),b9]
   have sV:(0<d.ck.length)=False:=by rw[h2];simp
   have aDB:((0:Int)<(d.ck.length:Int))=False:=by rw[h2];simp
   refine fI (oY @aB @aA @eD @nc @bS @cF @aP @aH @aI @rJ @sV @aDB @mJ) ?_
   refine aY (by simp[-bA,dH];exact Is.rfl) ?_
   exact ⟨D2 - 1,by omega,i+1,_,_,_,by omega,by rw[xP,hv],(by repeat' (first|exact eR|exact eR.mono (by simp)|exact WI.refl|(refine WI.trunc ?_ (by omega))|(refine WI.set ?_ (.inr (by omega)))|(refine WI.setN ?_ (by omega))|(refine WI.set ?_ (.inl (by simp))))),bK (by simp[dI,dL,dH]) rfl⟩
  simp at hb
  have nE:i=c.out.length:=by omega
  rw[nE,List.take_length] at hdw
  refine fI (jn @aB @aA) ?_
  refine aY (by simp[-bA];exact Is.rfl) ?_
  exact ⟨1,by omega,2,_,_,_,by omega,fun _=>d0 (by omega),fun _=>hdw,fun h=>absurd h (by omega),(by repeat' (first|exact eR|exact eR.mono (by simp)|exact WI.refl|(refine WI.trunc ?_ (by omega))|(refine WI.set ?_ (.inr (by omega)))|(refine WI.setN ?_ (by omega))|(refine WI.set ?_ (.inl (by simp))))),bK (by simp[dI,dL];try decide) rfl⟩
 ·refine fI (j5 @aB @aA @eD @nc @jQ.eq_def) ?_
  apply WP.loop' (I:=fun D s=>∃ (i c':Nat) (wl:List Nat) (bD:Hp),i+D=c.loc.length∧b9 o.en (c.loc.take i)=0∧WI [] n hp wl bD∧s=⟨[(0,.ptr ic gc 0),(32,.agg [dL (cM c.inn),dL (cM c.out),dL (cM c.loc)]),(33,dI 2),(36,dL (cM c.loc)),(37,dI c.loc.length),(38,dI i)],bD,n,c',n,wl⟩) (d:=c.loc.length)
  ·exact ⟨0,_,_,_,by simp,by simp[b9],eR,bK (by simp[dI,dL]) rfl⟩
  clear eR eD
  rintro D2 _ ⟨i,c',wl,bD,hi,hdw,eR,rfl⟩
  have eD:=(eR.frame hlc (by simp)).trans hK.co
  refine aCt (j4 @aB @aA @eD @nc) ?_
  show WP _ _ _ _ _ _
  refine WP.cond _ rfl (fun hb=>?_) (fun hb=>?_)
  ·simp at hb
   have bR:i<c.loc.length:=by omega
   obtain ⟨d,hd,d9,bS⟩:=bL bR
   have cF:=d6 hd
   have dH:=bG bR (by omega)
   have vD:=bM hd
   have aIU:d.ok:=cE.loc d d9
   obtain ⟨nm0,rJ⟩:=aFE o.en d.t aIU.1
   rw[hen] at rJ
   simp only[dL,dI,dS,dB] at rJ
   have xP:=lT o.en (c.loc.take i) [d]
   rw[←vD,hdw,if_neg (by simp)] at xP
   have gL:=lT o.en (c.loc.take (i+1)) (c.loc.drop (i+1))
   rw[List.take_append_drop,xP] at gL
   by_cases h1:0<fC o.en d.t
   case neg=>
    have xN:=eq_false h1
    have hv:b9 o.en [d]=10:=by rw[b9,if_pos h1]
    rw[hv,if_pos (by decide)] at gL
    have hz:b9 o.en c.loc≠0:=by rw[gL];decide
    have hdp:f8 o ea c=10:=by rw[show f8 o ea c=b9 o.en c.loc by unfold f8;rw[if_neg (by simp[d0 (by omega)]),if_neg (by simp[d1 (by omega)]),if_pos hz],gL]
    rw[hdp]
    rw[decide_eq_false h1] at rJ
    refine fI (nW @aB @aA @eD @nc @bS @cF @aP @aH @aI @rJ) ?_
    exact ⟨.inr rfl,_,[],rfl,rfl,rfl,(by repeat' (first|exact eR|exact eR.mono (by simp)|exact WI.refl|(refine WI.trunc ?_ (by omega))|(refine WI.set ?_ (.inr (by omega)))|(refine WI.setN ?_ (by omega))|(refine WI.set ?_ (.inl (by simp))))),fun h0=>absurd h0 (by decide)⟩
   rw[decide_eq_true h1] at rJ
   by_cases h2:d.ck=[]
   case neg=>
    have sV:(0<d.ck.length)=True:=eq_true (by cases uS:d.ck with|nil=>exact absurd uS h2|cons a r=>simp)
    have aDB:((0:Int)<(d.ck.length:Int))=True:=eq_true (by have:=sV;simp at this;omega)
    have hv:b9 o.en [d]=5:=by rw[b9,if_neg (by simp[h1]),if_pos h2]
    rw[hv,if_pos (by decide)] at gL
    have hz:b9 o.en c.loc≠0:=by rw[gL];decide
    have hdp:f8 o ea c=5:=by rw[show f8 o ea c=b9 o.en c.loc by unfold f8;rw[if_neg (by simp[d0 (by omega)]),if_neg (by simp[d1 (by omega)]),if_pos hz],gL]
    rw[hdp]
    refine fI (oY @aB @aA @eD @nc @bS @cF @aP @aH @aI @rJ @sV @aDB @mJ) ?_
    exact ⟨.inr rfl,_,[],rfl,rfl,rfl,(by repeat' (first|exact eR|exact eR.mono (by simp)|exact WI.refl|(refine WI.trunc ?_ (by omega))|(refine WI.set ?_ (.inr (by omega)))|(refine WI.setN ?_ (by omega))|(refine WI.set ?_ (.inl (by simp))))),fun h0=>absurd h0 (by decide)⟩
   have hv:b9 o.en [d]=0:=by rw[b9,if_neg (by simp[h1]),if_neg (by simp[h2]),b9]
   have sV:(0<d.ck.length)=False:=by rw[h2];simp
   have aDB:((0:Int)<(d.ck.length:Int))=False:=by rw[h2];simp
   refine fI (oY @aB @aA @eD @nc @bS @cF @aP @aH @aI @rJ @sV @aDB @mJ) ?_
   refine aY (by simp[-bA,dH];exact Is.rfl) ?_
   exact ⟨D2 - 1,by omega,i+1,_,_,_,by omega,by rw[xP,hv],(by repeat' (first|exact eR|exact eR.mono (by simp)|exact WI.refl|(refine WI.trunc ?_ (by omega))|(refine WI.set ?_ (.inr (by omega)))|(refine WI.setN ?_ (by omega))|(refine WI.set ?_ (.inl (by simp))))),bK (by simp[dI,dL,dH]) rfl⟩
  simp at hb
  have nE:i=c.loc.length:=by omega
  rw[nE,List.take_length] at hdw
  refine fI (jn @aB @aA) ?_
  refine aY (by simp[-bA];exact Is.rfl) ?_
  exact ⟨0,by omega,3,_,_,_,by omega,fun _=>d0 (by omega),fun _=>d1 (by omega),fun _=>hdw,(by repeat' (first|exact eR|exact eR.mono (by simp)|exact WI.refl|(refine WI.trunc ?_ (by omega))|(refine WI.set ?_ (.inr (by omega)))|(refine WI.setN ?_ (by omega))|(refine WI.set ?_ (.inl (by simp))))),bK (by simp[dI,dL];try decide) rfl⟩
 replace d0:=d0 (by omega)
 replace d1:=d1 (by omega)
 replace d2:=d2 (by omega)
 refine fI (j4 @aB @aA @eD @nc) ?_
 apply WP.loop' (I:=fun D s=>∃ (i c':Nat) (wl:List Nat) (bD:Hp),i+D=c.mems.length∧(c.mems.take i).all (fun m=> !(!nG o.en m))=true∧WI [] n hp wl bD∧s=⟨[(0,.ptr ic gc 0),(64,dL (lA c.mems)),(65,dI c.mems.length),(66,dI i)],bD,n,c',n,wl⟩) (d:=c.mems.length)
 ·exact ⟨0,_,_,_,by simp,by simp,eR,bK (by simp[dI,dL]) rfl⟩
 clear eR eD hj D
 rintro D _ ⟨i,c',wl,bD,hi,cD,eR,rfl⟩
 have eD:=(eR.frame hlc (by simp)).trans hK.co
 refine aCt (j4 @aB @aA @eD @nc) ?_
 show WP _ _ _ _ _ _
 refine WP.cond _ rfl (fun hb=>?_) (fun hb=>?_)
 ·simp at hb
  have bR:i<c.mems.length:=by omega
  obtain ⟨d,hd,d9,bS⟩:=bL bR
  have cF:=mU hd
  have dH:=bG bR (by omega)
  have hs:=bZ (p:=fun m=> !(!nG o.en m)) hd
  have aIU:d.ok:=cE.mems d d9
  have hh:=aMr o.en d.t d.ini aIU.1
  rw[←aKJ] at hh
  simp only[dL,dI,dB] at hh
  cases hm:nG o.en d with
  | false=>
   rw[hm] at hh
   have hdp:f8 o ea c=10:=by unfold f8;rw[if_neg (by simp[d0]),if_neg (by simp[d1]),if_neg (by simp[d2]),if_pos (List.any_eq_true.2 ⟨d,d9,by simp[hm]⟩)]
   rw[hdp]
   refine fI (nW @aB @aA @eD @nc @bS @cF @Mm.cells.eq_1 @aH @aI @hh) ?_
   exact ⟨.inr rfl,_,[],rfl,rfl,rfl,(by repeat' (first|exact eR|exact eR.mono (by simp)|exact WI.refl|(refine WI.trunc ?_ (by omega))|(refine WI.set ?_ (.inr (by omega)))|(refine WI.setN ?_ (by omega))|(refine WI.set ?_ (.inl (by simp))))),fun h0=>absurd h0 (by decide)⟩
  | true=>
   rw[hm] at hh
   refine fI (nW @aB @aA @eD @nc @bS @cF @Mm.cells.eq_1 @aH @aI @hh) ?_
   refine aY (by simp[-bA,dH];exact Is.rfl) ?_
   exact ⟨D - 1,by omega,i+1,_,_,_,by omega,by rw[hs,cD,hm];rfl,(by repeat' (first|exact eR|exact eR.mono (by simp)|exact WI.refl|(refine WI.trunc ?_ (by omega))|(refine WI.set ?_ (.inr (by omega)))|(refine WI.setN ?_ (by omega))|(refine WI.set ?_ (.inl (by simp))))),bK (by simp[dI,dL,dH]) rfl⟩
 simp at hb
 have nE:i=c.mems.length:=by omega
 rw[nE,List.take_length] at cD
 have d3:=tX cD
 clear cD hb hi nE
 obtain ⟨F,G,hnm⟩:=gU (C:=fun fP n2=>Ag n hp fP∧n≤n2) (P:=Tryz.prog) (cfg:=Ob.cfg) (f:=107) (vs:=[.ptr ic gc 0]) (v:=dL (eT c.names)) (fun fP n2 c2 hC=>aLy hL fP n2 c2 (hK.ag hC.1 hC.2))
 have aBn:=fun fP n2 c2 a b=>hnm fP n2 c2 ⟨a,b⟩
 have dR:Ag n hp bD=True:=eq_true fun id hi=>eR.frame hi (by simp)
 simp only[dL] at aBn
 refine fI (j7 @aB @aA @eD @nc @qO.eq_1 @aBn @dR) ?_
 have hnl:c.names.length≤8388608:=by unfold Cl.names;simp;omega
 apply WP.loop' (I:=fun D s=>∃ (i c' g:Nat) (wl:List Nat) (bD:Hp),i+D=c.names.length∧s8 [] (c.names.take i)=false∧bD.get n=some ⟨g,false,[gF eBo (puts [] (uX (c.names.take i)))]⟩∧WI [] n hp wl bD∧s=⟨[(0,.ptr ic gc 0),(11,.mp n g),(83,dL (eT c.names)),(84,dI c.names.length),(85,dI i)],bD,n+1,c',n,wl⟩) (d:=c.names.length)
 ·exact ⟨0,_,c',_,_,by simp,by simp[s8],by simp[uX,puts,gF],(by repeat' (first|exact eR|exact eR.mono (by simp)|exact WI.refl|(refine WI.trunc ?_ (by omega))|(refine WI.set ?_ (.inr (by omega)))|(refine WI.setN ?_ (by omega))|(refine WI.set ?_ (.inl (by simp))))),bK (by simp[dI,dL]) rfl⟩
 clear eR eD dR
 rintro D _ ⟨i,c',g,wl,bD,hi,cD,aNc,eR,rfl⟩
 have eD:=(eR.frame hlc (by simp)).trans hK.co
 refine aCt (j4 @aB @aA @eD @nc) ?_
 show WP _ _ _ _ _ _
 refine WP.cond _ rfl (fun hb=>?_) (fun hb=>?_)
 ·simp at hb
  have bR:i<c.names.length:=by omega
  obtain ⟨x,hx,hxm,bS⟩:=bL bR
  have hx':=sJ hx
  have dH:=bG bR (by omega)
  have vD:=bM hx
  have hlk:=fun (look:cA) (sz by_:Nat) (zr:Option (List V)) (h:look n=some ⟨g,false,[gF eBo (puts [] (uX (c.names.take i)))]⟩)=>jP eBo (puts [] (uX (c.names.take i))) (ok:=false) (z:= .d (.bool false)) (sz:=sz) (by_:=by_) (zr:=zr) (x:=x) h
  rw[aMd] at hlk
  have oX:=fun (look:cA) (sz by_:Nat) (zr:Option (List V)) (h:look n=some ⟨g,false,[gF eBo (puts [] (uX (c.names.take i)))]⟩)=>iS eBo (puts [] (uX (c.names.take i))) true (w:= .d (.bool true)) (sz:=sz) (by_:=by_) (zr:=zr) (x:=x) rfl h
  have hdu:=aCv (c.names.take i) [x] []
  rw[←vD,cD,List.nil_append,Bool.false_or] at hdu
  have hda:=aCv (c.names.take (i+1)) (c.names.drop (i+1)) []
  rw[List.take_append_drop,hdu] at hda
  by_cases hm:x∈c.names.take i
  ·have hdp:f8 o ea c=7:=by
    unfold f8
    rw[if_neg (by simp[d0]),if_neg (by simp[d1]),if_neg (by simp[d2]),if_neg (by rw[d3];decide),if_pos (by rw[hda];simp[s8,hm])]
   rw[hdp]
   simp only[if_pos hm] at hlk
   refine fI (tS @aB @aA @eD @nc @bS @hx' @hlk @aNc @zt4 @eG.eq_1 @eG.eq_2 @eBo.eq_1) ?_
   exact ⟨.inr rfl,_,[],rfl,rfl,rfl,(by repeat' (first|exact eR|exact eR.mono (by simp)|exact WI.refl|(refine WI.trunc ?_ (by omega))|(refine WI.set ?_ (.inr (by omega)))|(refine WI.setN ?_ (by omega))|(refine WI.set ?_ (.inl (by simp))))),fun h0=>absurd h0 (by decide)⟩
  ·simp only[if_neg hm] at hlk
   refine fI (tS @aB @aA @eD @nc @bS @hx' @hlk @oX @aNc @zt4 @eG.eq_1 @eG.eq_2) ?_
   refine aY (by simp[-bA,dH];exact Is.rfl) ?_
   exact ⟨D - 1,by omega,i+1,_,g,_,_,by omega,by rw[hdu];simp[s8,hm],by rw[vD];simp[uX,gE],(by repeat' (first|exact eR|exact eR.mono (by simp)|exact WI.refl|(refine WI.trunc ?_ (by omega))|(refine WI.set ?_ (.inr (by omega)))|(refine WI.setN ?_ (by omega))|(refine WI.set ?_ (.inl (by simp))))),bK (by simp[dI,dL,dH]) rfl⟩
 simp at hb
 have nE:i=c.names.length:=by omega
 rw[nE,List.take_length] at cD
 have d4:s8 [] c.names≠true:=by rw[cD];decide
 clear cD hb hi nE hnm aBn
 refine fI (j4 @aB @aA @eD @nc) ?_
 apply WP.loop' (I:=fun D s=>∃ (i c':Nat) (wl:List Nat) (bD:Hp),i+D=c.ins.length∧(c.ins.take i).all (fun x=> !(!(cX ea x.cl).2))=true∧bD.get ii=some ⟨gi,false,[gF eC (puts [] (iV ea (c.ins.take i)))]⟩∧WI [ii] n hp wl bD∧s=⟨[(0,.ptr ic gc 0),(99,dL (mD c.ins)),(100,dI c.ins.length),(101,dI i)],bD,n+1,c',n,wl⟩) (d:=c.ins.length)
 ·exact ⟨0,_,_,_,by simp,by simp,by rw[eR.frame hK.li (by simp),hK.ins];rfl,(by repeat' (first|exact eR|exact eR.mono (by simp)|exact WI.refl|(refine WI.trunc ?_ (by omega))|(refine WI.set ?_ (.inr (by omega)))|(refine WI.setN ?_ (by omega))|(refine WI.set ?_ (.inl (by simp))))),bK (by simp[dI,dL]) rfl⟩
 clear eR eD aNc
 rintro D _ ⟨i,c',wl,bD,hi,cD,oX,eR,rfl⟩
 have eD:=(eR.frame hlc (by simp;exact hD.c)).trans hK.co
 refine aCt (j4 @aB @aA @eD @nc) ?_
 show WP _ _ _ _ _ _
 refine WP.cond _ rfl (fun hb=>?_) (fun hb=>?_)
 ·simp at hb
  have bR:i<c.ins.length:=by omega
  obtain ⟨d,hd,d9,bS⟩:=bL bR
  have cF:=pV hd
  have dH:=bG bR (by omega)
  have vD:=bM hd
  have hs:=bZ (p:=fun x:Ii=> !(!(cX ea x.cl).2)) hd
  obtain ⟨F,G,hF⟩:=gU (C:=fun fP n2=>fP.get (n+1)=some ⟨c',false,[dS d.nm,dS d.cl]⟩∧n+1<n2) (P:=Tryz.prog) (cfg:=Ob.cfg) (f:=78) (vs:=[dL (gA ea),.fn 108 [.ptr (n+1) c' 0]]) (v:= .d (.int .i64 (ixP (fun e:Cl=>decide (e.nm=d.cl)) ea)))
   (fun fP n2 c2 hC=>aLF (p:=fun e:Cl=>decide (e.nm=d.cl)) ea hea fP n2 (fun v hv gN c3 d8=>aNB v gN n2 c3 ((d8 (n+1) hC.2).trans hC.1) hC.2) c2)
  have hF':=fun fP n2 c2 a b=>hF fP n2 c2 ⟨a,b⟩
  simp only[dL,dS] at hF'
  rcases vO (fun e:Cl=>decide (e.nm=d.cl)) ea with ⟨k,e,he,hn1,he2⟩|hn1
  ·have hf:cX ea d.cl=(e,true):=by unfold cX;rw[mR hn1 he he2]
   rw[kF hn1 he he2] at hF'
   have hkl:k<ea.length:=(List.getElem?_eq_some_iff.1 he).1
   have aYy:=m6 hkl
   have he':=kU he
   have hnn:((k:Int)<0)=False:=eq_false (by omega)
   have aYz:=fun (look:cA) (sz by_:Nat) (zr:Option (List V)) (h:look ii=some ⟨gi,false,[gF eC (puts [] (iV ea (c.ins.take i)))]⟩)=>iS eC (puts [] (iV ea (c.ins.take i))) e (w:= .agg [V.d (.str e.nm),V.d (.slice (cM e.inn)),V.d (.slice (cM e.out)),V.d (.slice (cM e.loc)),V.d (.slice (lA e.mems)),V.d (.slice (mD e.ins)),V.d (.slice (dJ e.step))]) (sz:=sz) (by_:=by_) (zr:=zr) (x:=d.nm) rfl h
   have hii:=hK.li
   have sX:(ii<n+2)=True:=eq_true (by omega)
   have hi1:(ii<n+1)=True:=eq_true (by omega)
   refine fI (u7 @aB @aA @eD @nc @ni @bS @cF @Ii.cells.eq_1 @aH @aI @hF' @hnn @aYy @he' @aJ @oX @aYz @sX) ?_
   refine aY (by simp[-bA,dH];exact Is.rfl) ?_
   exact ⟨D - 1,by omega,i+1,_,_,_,by omega,by rw[hs,cD,hf];rfl,by rw[vD];simp[iV,gE,hf,hi1],(by repeat' (first|exact eR|exact eR.mono (by simp)|exact WI.refl|(refine WI.trunc ?_ (by omega))|(refine WI.set ?_ (.inr (by omega)))|(refine WI.setN ?_ (by omega))|(refine WI.set ?_ (.inl (by simp))))),bK (by simp[dI,dL,dH]) rfl⟩
  ·have hf:cX ea d.cl=(clZ,false):=by unfold cX;rw[kM hn1]
   rw[kG hn1] at hF'
   have hdp:f8 o ea c=6:=by
    unfold f8
    rw[if_neg (by simp[d0]),if_neg (by simp[d1]),if_neg (by simp[d2]),if_neg (by rw[d3];decide),if_neg d4,if_pos (List.any_eq_true.2 ⟨d,d9,by simp[hf]⟩)]
   rw[hdp]
   refine fI (uQ @aB @aA @eD @nc @ni @bS @cF @Ii.cells.eq_1 @aH @aI @hF') ?_
   exact ⟨.inr rfl,_,[],rfl,rfl,rfl,(by repeat' (first|exact eR|exact eR.mono (by simp)|exact WI.refl|(refine WI.trunc ?_ (by omega))|(refine WI.set ?_ (.inr (by omega)))|(refine WI.setN ?_ (by omega))|(refine WI.set ?_ (.inl (by simp))))),fun h0=>absurd h0 (by decide)⟩
 simp at hb
 have nE:i=c.ins.length:=by omega
 rw[nE,List.take_length] at cD oX
 have hdp:f8 o ea c=0:=by
  unfold f8
  rw[if_neg (by simp[d0]),if_neg (by simp[d1]),if_neg (by simp[d2]),if_neg (by rw[d3];decide),if_neg d4,if_neg (by rw[tX cD];decide)]
 rw[hdp]
 refine fI (j4 @aB @aA @eD @nc) ?_
 refine ⟨.inr rfl,_,[],rfl,rfl,rfl,(by repeat' (first|exact eR|exact eR.mono (by simp)|exact WI.refl|(refine WI.trunc ?_ (by omega))|(refine WI.set ?_ (.inr (by omega)))|(refine WI.setN ?_ (by omega))|(refine WI.set ?_ (.inl (by simp))))),fun _=>?_⟩
 have fr:∀ j,j<n→j≠ii→(Hp.trunc n bD).get j=hp.get j:=fun j hj hne=>by rw[Hp.get_trunc _ _ _ hj];exact eR.frame hj (by simp;exact hne)
 exact ⟨(fr _ hK.lc hD.c).trans hK.co,(fr _ hK.lv hD.v).trans hK.vars,(fr _ hK.lp hD.p).trans hK.ports,(fr _ hK.lm hD.m).trans hK.mems,by rw[Hp.get_trunc _ _ _ hK.li];exact oX,hK.lc,hK.lv,hK.lp,hK.lm,hK.li⟩
end
end Go.Ac
end
section
set_option maxRecDepth 4000
namespace Go.Ac
open Go.Proofs
attribute [local simp] Hp.get_set dA cK cR bW
theorem aXH (r:Nat):Ob.keep 30 r=Ob.k30 r:=by kernel_rfl
attribute [local simp] aXH Ob.k30
theorem WP.gen3 {fid:FuncId} {code:Code} {e:nZ} {hp:Hp} {n c n0:Nat} {wl:List Nat} {Q:Ex→St→Prop}
  (h:∀ bD c' wl',bD=hp→wl'=wl→WP Tryz.prog Ob.cfg fid code ⟨e,bD,n,c',n0,wl'⟩ Q):WP Tryz.prog Ob.cfg fid code ⟨e,hp,n,c,n0,wl⟩ Q:=h hp c wl rfl rfl
def aFL (o:Oc) (ea:List Cl) (c:Cl):Int:=
 if ea.any (fun d=>decide (d.nm=c.nm))=true then 7
 else if f8 o ea c≠0 then f8 o ea c
 else if fR o c [] [] c.step≠0 then fR o c [] [] c.step
 else if c.out.any (fun d=> !u6 d.nm true [] c.step)=true then 22 else 0
structure KF (o:Oc) (ea:List Cl) (c:Cl) (lv:List (Tx×Int)) (lp:List (Tx×Bool)) (lm:List (Tx×Int)) (li:List (Tx×Cl)):Prop where
 vars:∀ x,eO lv x=if cZ c x=0 then none else some (cZ c x)
 ports:∀ x,eO lp x=if j1 c x=0 then none else some true
 mems:∀ x,eO lm x=if eK c.mems x=0 then none else some (eK c.mems x)
 ins:∀ x,eO li x=if (e9 c.ins o.cl x).2=true then some (e9 c.ins o.cl x).1 else none
 kw:KW o c
 pos:∀ x,cZ c x≠0→0<fC o.en (cZ c x)
section
variable {ic gc iv gv ip gp im gm ii gi:Nat} {o:Oc} {ea:List Cl} {c:Cl} {lv lm:List (Tx×Int)} {lp:List (Tx×Bool)} {li:List (Tx×Cl)}
theorem KG.at {hp:Hp} {n:Nat} (h:KG ic gc iv gv ip gp im gm ii gi o ea c lv lp lm li hp n) (f:KF o ea c lv lp lm li):KAt ic gc iv gv ip gp im gm ii gi o ea c hp n:=
 ⟨h.co,⟨lv,h.vars,f.vars⟩,⟨lp,h.ports,f.ports⟩,⟨lm,h.mems,f.mems⟩,⟨li,h.ins,f.ins⟩,h.lc,h.lv,h.lp,h.lm,h.li⟩
theorem KG.same {hp bD:Hp} {n:Nat} (h:KG ic gc iv gv ip gp im gm ii gi o ea c lv lp lm li hp n) (hs:∀ j,j<n→(hp.get j).isSome=true→bD.get j=hp.get j):KG ic gc iv gv ip gp im gm ii gi o ea c lv lp lm li bD n:=
 ⟨(hs _ h.lc (by rw[h.co];rfl)).trans h.co,(hs _ h.lv (by rw[h.vars];rfl)).trans h.vars,(hs _ h.lp (by rw[h.ports];rfl)).trans h.ports,(hs _ h.lm (by rw[h.mems];rfl)).trans h.mems,(hs _ h.li (by rw[h.ins];rfl)).trans h.ins,h.lc,h.lv,h.lp,h.lm,h.li⟩
set_option maxHeartbeats 8000000 in
theorem aNy (hen:∀ t,nY o.en t=decide (0<fC o.en t)) (hea:ea.length≤MX) (hL:CLen c) (cE:c.ok) (hst:hH c.step≤8388600) (hp:Hp) (n cc:Nat) (hD:KD ic iv ip im ii) (hK:KG ic gc iv gv ip gp im gm ii gi o ea c lv lp lm [] hp n) (hF:f8 o ea c=0→KF o ea c lv lp lm (puts [] (iV ea c.ins))):
  aDG Tryz.prog Ob.cfg 30 [.ptr ic gc 0] hp n cc (dI (aFL o ea c)) [ii] (fun _=>True):=by
 have hLs:=hL.sum
 have eD:=hK.co
 have nc:=nf hK.lc
 have ni:=nf hK.li
 have hlc:=hK.lc
 have uY:=hK.li
 obtain ⟨F1,G1,hF1⟩:=gU (C:=fun fP n2=>Ag n hp fP∧fP.get n=some ⟨cc,false,[.ptr ic gc 0]⟩∧n<n2) (P:=Tryz.prog) (cfg:=Ob.cfg) (f:=67) (vs:=[dL (gA ea),.fn 68 [.ptr n cc 0]]) (v:= .d (.bool (ea.any fun d=>decide (d.nm=c.nm))))
  (fun fP n2 c2 hC=>aIH (p:=fun d=>decide (d.nm=c.nm)) ea hea fP n2 (fun v hv gN c3 d8=>aNG v gN n2 c3 ((hK.ag hC.1 (by omega)).ag d8 (Nat.le_refl _)) ((d8 n hC.2.2).trans hC.2.1) hC.2.2) c2)
 have aNd:=fun fP n2 c2 a b d=>hF1 fP n2 c2 ⟨a,b,d⟩
 simp only[dL] at aNd
 refine wW Tryz.func30 rfl (by kernel_rfl) rfl ?_
 have eR:WI [] n hp [] hp:=WI.refl
 unfold aFL
 cases h7:ea.any (fun d=>decide (d.nm=c.nm)) with
 | true=>
  rw[h7] at aNd
  rw[if_pos rfl]
  refine bY (j7 @aN @aO @aB @aA @eD @nc @aNd) ?_
  exact ⟨.inr rfl,_,[],rfl,rfl,rfl,(WI.refl.set (.inr (Nat.le_refl _))),trivial⟩
 | false=>
 rw[h7] at aNd
 rw[if_neg (by decide)]
 refine bY (j7 @aN @aO @aB @aA @eD @nc @aNd) ?_
 apply WP.gen3
 intro nC c1 wl1 eS jF
 have jA:nC.get n=some ⟨cc,false,[.ptr ic gc 0]⟩:=by rw[eS];simp
 have aBV:WI [] n hp wl1 nC:=by rw[eS,jF];repeat' (first|exact eR|exact eR.mono (by simp)|exact WI.refl|(refine WI.trunc ?_ (by omega))|(refine WI.set ?_ (.inr (by omega)))|(refine WI.setN ?_ (by omega))|(refine WI.set ?_ (.inl (by simp))))
 have hK1:KG ic gc iv gv ip gp im gm ii gi o ea c lv lp lm [] nC (n+1):=hK.ag (fun id hi=>aBV.frame hi (by simp)) (by omega)
 clear eS jF eR
 have eR:=aBV
 obtain ⟨q,oZ,hv,hn,tW,nJ,mH,hpz,pW,dU⟩:=(aHF (cc:=c1) hen hea hL cE nC (n+1) hD hK1).caller (by intro j hj;simp at hj;omega)
 have hwq:∀ (W:List Nat) (H:Hp),WI [] n hp W H→WI [ii] n hp (bA n W (sL q (n+1))) (H.sets (sL q (n+1))):=fun W H h=>(h.mono (by simp)).sets fun p bD=> .inl (nJ p.1 (List.mem_map.2 ⟨p,bD,rfl⟩))
 simp only[dI] at hv
 by_cases hz:f8 o ea c=0
 case neg=>
  have lV:=eq_false hz
  rw[if_pos hz]
  have eR:=hwq _ _ eR
  refine bY (j7 @aB @aA @jA @hv @hn @aV @lV) ?_
  exact ⟨.inr rfl,_,[],rfl,rfl,rfl,(by repeat' (first|exact eR|exact eR.mono (by simp)|exact WI.refl|(refine WI.trunc ?_ (by omega))|(refine WI.set ?_ (.inr (by omega)))|(refine WI.setN ?_ (by omega))|(refine WI.set ?_ (.inl (by simp))))),trivial⟩
 rw[if_neg (by simp[hz])]
 rw[hz] at hv
 have hf:=hF hz
 refine bY (j6 @aB @aA @jA @hv @hn @aV) ?_
 apply WP.gen3
 intro fP c2 wl2 eS jF
 have hK2:KG ic gc iv gv ip gp im gm ii gi o ea c lv lp lm (puts [] (iV ea c.ins)) fP (n+1):=(pW hz).same fun j hj hs=>by rw[eS];exact dU j hj hs
 have nH:fP.get n=some ⟨cc,false,[.ptr ic gc 0]⟩:=by rw[eS,mH n (by omega) (by simp;omega)];exact jA
 have aVy:WI [ii] n hp wl2 fP:=by rw[eS,jF];exact hwq _ _ eR
 clear eS jF eR aBV oZ tW nJ mH pW dU hwq hv hn hK1 jA nC hpz
 have eR:=aVy
 have hKA:=hK2.at hf
 have eD:=hK2.co
 obtain ⟨F2,G2,hr⟩:=(aMF (N:=hH c.step) (ic:=ic) (gc:=gc) (iv:=iv) (gv:=gv) (ip:=ip) (gp:=gp) (im:=im) (gm:=gm) (ii:=ii) (gi:=gi) (ea:=ea) (aPq hf.kw hf.pos _) hf.kw hf.pos c.step (Nat.lt_succ_self _) trivial hst cE.step).fn hKA
 simp only[dI,dL] at hr
 by_cases hl:fR o c [] [] c.step=0
 case neg=>
  have hl':=eq_false hl
  rw[if_pos hl]
  refine bY (nW @aB @aA @nH @eD @nc @aH @aI @hr @aV @hl') ?_
  exact ⟨.inr rfl,_,[],rfl,rfl,rfl,(by repeat' (first|exact eR|exact eR.mono (by simp)|exact WI.refl|(refine WI.trunc ?_ (by omega))|(refine WI.set ?_ (.inr (by omega)))|(refine WI.setN ?_ (by omega))|(refine WI.set ?_ (.inl (by simp))))),trivial⟩
 rw[if_neg (by simp[hl])]
 rw[hl] at hr
 have hnb:nbB [c.step]=true:=by rw[nbB,aLw hf.pos _ c.step [] [] (Nat.lt_succ_self _) hl,nbB];rfl
 have aVz:=fun nm=>yB nm false [] [c.step] (by simp[MX]) hnb (by simp;omega)
 simp only[pP,dL,dS,dB,show iB []=[] from rfl,show iA [c.step]=[[.slice (dJ c.step)]] from by simp[iA],show [c.step].flatten=c.step from by simp,Bool.not_false] at aVz
 refine bY (tS @aB @aA @nH @eD @nc @aH @aI @hr @aV @aQ @aR @iE.eq_def) ?_
 apply WP.loop' (I:=fun D s=>∃ (i c' g1 g2:Nat) (wl:List Nat) (bD:Hp),i+D=c.out.length∧(c.out.take i).all (fun d=> !(!u6 d.nm true [] c.step))=true∧bD.get (n+1)=some ⟨g1,false,[.d (.slice (dJ c.step))]⟩∧bD.get (n+2)=some ⟨g2,false,[.full [],.osl (n+1) g1 0 1 1 (some 1)]⟩∧WI [ii] n hp wl bD∧s=⟨[(5,.ptr (n+2) g2 0),(41,dL (cM c.out)),(42,dI c.out.length),(43,dI i)],bD,n+3,c',n,wl⟩) (d:=c.out.length)
 ·exact ⟨0,_,_,_,_,_,by simp,by simp,by simp;rfl,by simp;rfl,(by repeat' (first|exact eR|exact eR.mono (by simp)|exact WI.refl|(refine WI.trunc ?_ (by omega))|(refine WI.set ?_ (.inr (by omega)))|(refine WI.setN ?_ (by omega))|(refine WI.set ?_ (.inl (by simp))))),bK (by simp[dI,dL];try exact ⟨rfl,rfl⟩) rfl⟩
 clear eR aVy
 rintro D _ ⟨i,c',g1,g2,wl,bD,hi,cD,jA,nH,eR,rfl⟩
 refine lM (jn @aB @aA) ?_
 show WP _ _ _ _ _ _
 refine WP.cond _ rfl (fun hb=>?_) (fun hb=>?_)
 ·simp at hb
  have bR:i<c.out.length:=by omega
  obtain ⟨d,hd,d9,bS⟩:=bL bR
  have cF:=d6 hd
  have dH:=bG bR (by omega)
  have hs:=bZ (p:=fun d:Dc=> !(!u6 d.nm true [] c.step)) hd
  have ha:=aVz d.nm
  cases has:u6 d.nm true [] c.step with
  | false=>
   rw[has] at ha
   rw[if_pos (List.any_eq_true.2 ⟨d,d9,by simp[has]⟩)]
   refine bY (sS @aB @aA @bS @cF @aP @aH @aI @jA @nH @bI @b8 @g9.eq_1 @g9.eq_2 @eE.eq_1 @eE.eq_2 @bJ @ha) ?_
   exact ⟨.inr rfl,_,[],rfl,rfl,rfl,(by repeat' (first|exact eR|exact eR.mono (by simp)|exact WI.refl|(refine WI.trunc ?_ (by omega))|(refine WI.set ?_ (.inr (by omega)))|(refine WI.setN ?_ (by omega))|(refine WI.set ?_ (.inl (by simp))))),trivial⟩
  | true=>
   rw[has] at ha
   refine bY (sS @aB @aA @bS @cF @aP @aH @aI @jA @nH @bI @b8 @g9.eq_1 @g9.eq_2 @eE.eq_1 @eE.eq_2 @bJ @ha) ?_
   refine aY (by simp[-bA,dH];exact Is.rfl) ?_
   exact ⟨D - 1,by omega,i+1,_,g1,g2,_,_,by omega,by rw[hs,cD,has];rfl,by simp[jA],by simp[nH],(by repeat' (first|exact eR|exact eR.mono (by simp)|exact WI.refl|(refine WI.trunc ?_ (by omega))|(refine WI.set ?_ (.inr (by omega)))|(refine WI.setN ?_ (by omega))|(refine WI.set ?_ (.inl (by simp))))),bK (by simp[dI,dL,dH]) rfl⟩
 simp at hb
 have nE:i=c.out.length:=by omega
 rw[nE,List.take_length] at cD
 rw[if_neg (by rw[tX cD];decide)]
 refine bY (jn @aB @aA) ?_
 exact ⟨.inr rfl,_,[],rfl,rfl,rfl,(by repeat' (first|exact eR|exact eR.mono (by simp)|exact WI.refl|(refine WI.trunc ?_ (by omega))|(refine WI.set ?_ (.inr (by omega)))|(refine WI.setN ?_ (by omega))|(refine WI.set ?_ (.inl (by simp))))),trivial⟩
end
end Go.Ac
end
section
set_option maxRecDepth 4000
namespace Go.Ac
open Go.Proofs
theorem aBk:∀ (l p:List Tx),s8 p l=false→l.Nodup∧∀ x,x∈l→x∉p
 | [],p,_=>⟨List.nodup_nil,fun x h=>by cases h⟩
 | x::r,p,h=>by
  rw[s8,Bool.or_eq_false_iff] at h
  obtain ⟨h1,h2⟩:=aBk r (p++[x]) h.2
  have h0:x∉p:=by simpa using h.1
  refine ⟨List.nodup_cons.2 ⟨fun hm=>absurd (List.mem_append_right p (List.mem_singleton.2 rfl)) (h2 x hm),h1⟩,fun y hy=>?_⟩
  rcases List.mem_cons.1 hy with rfl|hy
  ·exact h0
  ·exact fun hp=>h2 y hy (List.mem_append_left _ hp)
theorem aHY (en:List En):fC en 0=0:=by
 unfold fC eAt inE;simp
theorem uO {en:List En} {t:Int} (h:0<fC en t):t≠0:=fun e=>by rw[e,aHY] at h;omega
theorem aIq {en:List En} (hen:∀ u,u∈en→oR u=false) (t:Int):nY en t=decide (0<fC en t):=by
 unfold nY fC
 by_cases h1:t=1
 ·simp[h1]
 by_cases h2:t=2
 ·simp[h2]
 rw[if_neg h1,if_neg h2]
 cases hi:inE en t with
 | false=>unfold eAt;rw[hi];simp[h1,h2]
 | true=>
  have fB:(t - 3).toNat<en.length:=by unfold inE at hi;simp at hi;omega
  have he:eAt en t=en[(t - 3).toNat]:=by unfold eAt;rw[hi,if_pos rfl];simp[List.getD,fB]
  have hb:=hen _ (List.getElem_mem fB)
  rw[he]
  unfold oR at hb
  simp[h1,h2] at hb ⊢
  have:=hb.1
  cases hq:en[(t - 3).toNat].tags with
  | nil=>exact absurd hq this
  | cons a r=>simp
theorem qM {en:List En}:∀ {l:List Dc},b9 en l=0→∀ d,d∈l→0<fC en d.t
 | [],_,d,h=>by cases h
 | e::r,h,d,hd=>by
  rw[b9] at h
  split at h
  ·cases h
  ·rename_i h1
   split at h
   ·cases h
   ·rcases List.mem_cons.1 hd with rfl|hd
    ·omega
    ·exact qM h d hd
section
variable {α:Type}
theorem aHp (x:Tx):∀ (ds l:List (Tx×α)),eO (puts l ds) x=(eO ds.reverse x).or (eO l x)
 | [],l=>by simp[puts,eO]
 | p::r,l=>by
  rw[puts,aHp x r,aCX,List.reverse_cons,vY]
  by_cases h:x=p.1
  ·subst h
   rw[if_pos rfl]
   have:eO [p] p.1=some p.2:=by simp[eO]
   rw[this]
   cases eO r.reverse p.1 <;> simp
  ·rw[if_neg h]
   have:eO [p] x=none:=by
    have hd:decide (p.1=x)=false:=by simp;exact fun e=>h e.symm
    simp[eO,List.find?_cons,hd]
   rw[this]
   cases eO r.reverse x <;> simp
theorem y7 {l:List (Tx×α)} {x:Tx} {v:α} (h:eO l x=some v):(x,v)∈l:=by
 unfold eO at h
 cases hf:List.find? (fun p=>decide (p.1=x)) l with
 | none=>rw[hf] at h;cases h
 | some p=>
  rw[hf] at h
  have h1:=List.mem_of_find?_eq_some hf
  have h2:=List.find?_some hf
  simp at h h2
  rw[←h2,←h];exact h1
theorem aEz {l:List (Tx×α)} {x:Tx} (h:eO l x=none):∀ v,(x,v)∉l:=by
 intro v hm
 unfold eO at h
 simp at h
 exact h x v hm rfl
theorem aKy {l:List (Tx×α)} (hn:(l.map (·.1)).Nodup) {x:Tx} {v w:α} (h1:(x,v)∈l) (h2:(x,w)∈l):v=w:=by
 induction l with
 | nil=>cases h1
 | cons p r ih=>
  rw[List.map_cons,List.nodup_cons] at hn
  rcases List.mem_cons.1 h1 with e1|m1
  ·rcases List.mem_cons.1 h2 with e2|m2
   ·rw[←e1] at e2;exact (Prod.mk.inj e2).2.symm
   ·exact absurd (List.mem_map.2 ⟨_,m2,by rw[←e1]⟩) hn.1
  ·rcases List.mem_cons.1 h2 with e2|m2
   ·exact absurd (List.mem_map.2 ⟨_,m1,by rw[←e2]⟩) hn.1
   ·exact ih hn.2 m1 m2
theorem aIn {l:List (Tx×α)} (hn:(l.map (·.1)).Nodup) (x:Tx):eO l.reverse x=eO l x:=by
 cases h:eO l x with
 | none=>
  cases h2:eO l.reverse x with
  | none=>rfl
  | some v=>exact absurd (List.mem_reverse.1 (y7 h2)) (aEz h v)
 | some v=>
  cases h2:eO l.reverse x with
  | none=>exact absurd (List.mem_reverse.2 (y7 h)) (aEz h2 v)
  | some w=>rw[aKy hn (List.mem_reverse.1 (y7 h2)) (y7 h)]
theorem wT {l:List (Tx×α)} (hn:(l.map (·.1)).Nodup) (x:Tx):eO (puts [] l) x=eO l x:=by
 rw[aHp,aIn hn];simp[eO]
end
theorem aFK {l:List Dc} (h:∀ d,d∈l→d.t≠0) (x:Tx):eO (dV l) x=if fG l x=0 then none else some (fG l x):=by
 unfold eO dV fG
 rw[List.find?_map]
 rw[show ((fun p=>decide (p.1=x))∘fun d:Dc=>(d.nm,d.t))=fun d:Dc=>decide (d.nm=x) from rfl]
 cases hf:List.find? (fun d:Dc=>decide (d.nm=x)) l with
 | none=>rfl
 | some d=>
  have:=h d (List.mem_of_find?_eq_some hf)
  simp[this]
theorem aJK {l:List Dc} (h:∀ d,d∈l→d.t≠0) (x:Tx):eO (dP l) x=if fG l x=0 then none else some true:=by
 unfold eO dP fG
 rw[List.find?_map]
 rw[show ((fun p=>decide (p.1=x))∘fun d:Dc=>(d.nm,true))=fun d:Dc=>decide (d.nm=x) from rfl]
 cases hf:List.find? (fun d:Dc=>decide (d.nm=x)) l with
 | none=>rfl
 | some d=>
  have:=h d (List.mem_of_find?_eq_some hf)
  simp[this]
theorem aNW {l:List Mm} (h:∀ d,d∈l→d.t≠0) (x:Tx):eO (mV l) x=if eK l x=0 then none else some (eK l x):=by
 unfold eO mV eK
 rw[List.find?_map]
 rw[show ((fun p=>decide (p.1=x))∘fun d:Mm=>(d.nm,d.t))=fun d:Mm=>decide (d.nm=x) from rfl]
 cases hf:List.find? (fun d:Mm=>decide (d.nm=x)) l with
 | none=>rfl
 | some d=>
  have:=h d (List.mem_of_find?_eq_some hf)
  simp[this]
theorem jN {l:List Dc} {x:Tx} (h:fG l x≠0):∃ d,d∈l∧d.nm=x∧fG l x=d.t:=by
 unfold fG at h ⊢
 cases hf:List.find? (fun d:Dc=>decide (d.nm=x)) l with
 | none=>rw[hf] at h;exact absurd rfl h
 | some d=>exact ⟨d,List.mem_of_find?_eq_some hf,by simpa using List.find?_some hf,rfl⟩
theorem aKf {l:List Dc} (h:∀ d,d∈l→d.t≠0) (x:Tx):l.any (fun d=>decide (d.nm=x))=decide (fG l x≠0):=by
 unfold fG
 cases hf:List.find? (fun d:Dc=>decide (d.nm=x)) l with
 | none=>
  have:=List.find?_eq_none.1 hf
  simp only[ne_eq,not_true_eq_false,decide_false]
  rw[List.any_eq_false];exact this
 | some d=>
  have h1:=h d (List.mem_of_find?_eq_some hf)
  have h2:=List.find?_some hf
  simp only[ne_eq,h1,not_false_eq_true,decide_true]
  exact List.any_eq_true.2 ⟨d,List.mem_of_find?_eq_some hf,h2⟩
theorem aDk {l:List Cl} {i:Nat} {x:Tx} (h:(cX (l.take i) x).2=true):cX l x=cX (l.take i) x:=by
 unfold cX at*
 cases hf:List.find? (fun d:Cl=>decide (d.nm=x)) (l.take i) with
 | none=>rw[hf] at h;cases h
 | some d=>
  have:List.find? (fun d:Cl=>decide (d.nm=x)) l=some d:=by
   rw[←List.take_append_drop i l,List.find?_append,hf];rfl
  rw[this]
set_option maxHeartbeats 1000000 in
theorem aSy {o:Oc} {i:Nat} {c:Cl} (cE:c.ok) (eY:c.inn.length≤MX) (h:f8 o (o.cl.take i) c=0):
  KF o (o.cl.take i) c (puts (puts (puts [] (dV c.inn)) (dV c.out)) (dV c.loc)) (puts (puts [] (dP c.out)) (dP c.loc)) (puts [] (mV c.mems)) (puts [] (iV (o.cl.take i) c.ins)):=by
 unfold f8 at h
 split at h
 ·rename_i hne;exact absurd h hne
 rename_i e1
 split at h
 ·rename_i hne;exact absurd h hne
 rename_i e2
 split at h
 ·rename_i hne;exact absurd h hne
 rename_i e3
 split at h
 ·cases h
 rename_i e4
 split at h
 ·cases h
 rename_i e5
 split at h
 ·cases h
 rename_i e6
 have s1:=qM (show b9 o.en c.inn=0 by simpa using e1)
 have s2:=qM (show b9 o.en c.out=0 by simpa using e2)
 have s3:=qM (show b9 o.en c.loc=0 by simpa using e3)
 have s4:∀ m,m∈c.mems→m.t≠0:=fun m hm=>by
  have:nG o.en m=true:=by
   cases hq:nG o.en m with
   | true=>rfl
   | false=>exact absurd (List.any_eq_true.2 ⟨m,hm,by simp[hq]⟩) e4
  unfold nG at this
  simp at this
  exact uO this.1
 have s6:∀ x,x∈c.ins→(cX (o.cl.take i) x.cl).2=true:=fun x hx=>by
  cases hq:(cX (o.cl.take i) x.cl).2 with
  | true=>rfl
  | false=>exact absurd (List.any_eq_true.2 ⟨x,hx,by simp[hq]⟩) e6
 have z1:=fun d hd=>uO (s1 d hd)
 have z2:=fun d hd=>uO (s2 d hd)
 have z3:=fun d hd=>uO (s3 d hd)
 have mA:=(aBk c.names [] (by simpa using e5)).1
 unfold Cl.names at mA
 obtain ⟨n1,nI,dI1⟩:=List.nodup_append.1 mA
 obtain ⟨n2,nM,dM1⟩:=List.nodup_append.1 n1
 obtain ⟨n3,nL,dL1⟩:=List.nodup_append.1 n2
 obtain ⟨nN,nO,dO1⟩:=List.nodup_append.1 n3
 have hA:((dV c.inn++dV c.out++dV c.loc).map (·.1)).Nodup:=by
  simpa [dV,Function.comp_def] using n2
 rw[List.append_assoc] at hA
 have hP:((dP c.out++dP c.loc).map (·.1)).Nodup:=by
  have:(c.out.map Dc.nm++c.loc.map Dc.nm).Nodup:=by
   rw[List.append_assoc] at n2
   exact (List.nodup_append.1 n2).2.1
  simpa [dP,Function.comp_def] using this
 have aFT:∀ x,j1 c x≠0→fG c.inn x=0:=by
  intro x hs
  by_cases hz:fG c.inn x=0
  ·exact hz
  obtain ⟨d,hd,hdn,_⟩:=jN hz
  have hx:x∈c.inn.map Dc.nm:=List.mem_map.2 ⟨d,hd,hdn⟩
  unfold j1 at hs
  split at hs
  ·obtain ⟨e,he,hen,_⟩:=jN hs
   exact absurd rfl (dL1 x (List.mem_append_left _ hx) x (List.mem_map.2 ⟨e,he,hen⟩))
  ·rename_i hs2
   obtain ⟨e,he,hen,_⟩:=jN hs2
   exact absurd rfl (dO1 x hx x (List.mem_map.2 ⟨e,he,hen⟩))
 have rT:∀ x,cZ c x≠0→0<fC o.en (cZ c x):=by
  intro x hg
  unfold cZ at hg ⊢
  split at hg
  ·rename_i h0
   rw[if_pos h0]
   unfold j1 at hg ⊢
   split at hg
   ·rename_i h1
    rw[if_pos h1]
    obtain ⟨d,hd,_,e⟩:=jN hg
    rw[e];exact s3 d hd
   ·rename_i h1
    rw[if_neg h1]
    obtain ⟨d,hd,_,e⟩:=jN h1
    rw[e];exact s2 d hd
  ·rename_i h0
   rw[if_neg h0]
   obtain ⟨d,hd,_,e⟩:=jN h0
   rw[e];exact s1 d hd
 refine ⟨fun x=>?_,fun x=>?_,fun x=>?_,fun x=>?_,⟨aKf z1,fun x hs=>?_,aGK cE,eY⟩,rT⟩
 ·rw[←oV,←oV,wT hA,vY,vY,aFK z1,aFK z2,aFK z3]
  unfold cZ j1
  by_cases h1:fG c.inn x=0 <;> by_cases h2:fG c.out x=0 <;> by_cases h3:fG c.loc x=0 <;> simp[h1,h2,h3]
 ·rw[←oV,wT hP,vY,aJK z2,aJK z3]
  unfold j1
  by_cases h2:fG c.out x=0 <;> by_cases h3:fG c.loc x=0 <;> simp[h2,h3]
 ·rw[wT (by simpa [mV,Function.comp_def] using nM),aNW s4]
 ·rw[wT (by simpa [iV,Function.comp_def] using nI)]
  unfold eO iV e9
  rw[List.find?_map]
  rw[show ((fun p=>decide (p.1=x))∘fun d:Ii=>(d.nm,(cX (o.cl.take i) d.cl).1))=fun d:Ii=>decide (d.nm=x) from rfl]
  cases hf:List.find? (fun d:Ii=>decide (d.nm=x)) c.ins with
  | none=>rfl
  | some d=>
   have:=s6 d (List.mem_of_find?_eq_some hf)
   have h2:=aDk this
   simp only[Option.map_some,h2,this,if_true]
 ·unfold cZ;rw[if_pos (aFT x hs)]
theorem aKo (o:Oc) (i:Nat) (c:Cl):aFL o (o.cl.take i) c=mO o i c:=by
 unfold aFL mO yW f8
 cases (o.cl.take i).any (fun d=>decide (d.nm=c.nm)) <;> simp
end Go.Ac
end
