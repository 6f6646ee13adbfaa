/- The reference's instances, taken over and put together (plain). -/
import Derived.Test.YtkgekafdhehleaaGreatObYaM
set_option linter.unusedVariables false
set_option linter.unusedSimpArgs false
section
set_option maxRecDepth 4000
namespace Go.Ac
open Go.Proofs
def iO (o:Oc):Nat→Cl→Trn
 | 0,c=> .mk c [] []
 | k+1,c=> .mk c (puts [] (mI c.mems)) (c.ins.map fun i=>iO o k (cX o.cl i.cl).1)
theorem aBZ {α:Type}:∀ (l a:List (Tx×α)),((a++l).map Prod.fst).Nodup→puts a l=a++l
 | [],a,_=>by rw[puts,List.append_nil]
 | p::r,a,h=>by
  have hp:jG a p.1 p.2=a++[p]:=by
   unfold jG
   cases hf:List.findIdx? (fun q=>decide (q.1=p.1)) a with
   | none=>rfl
   | some i=>
    exfalso
    obtain ⟨hi,hx⟩:=qH hf
    rw[List.map_append,List.nodup_append] at h
    exact h.2.2 _ (List.mem_map.2 ⟨_,List.getElem_mem hi,rfl⟩) p.1 (by simp) hx
  rw[puts,hp,aBZ r (a++[p]) (by rw[List.append_assoc];exact h),List.append_assoc]
  rfl
theorem aMb {l:List Cl} {x:Tx} (h:(cX l x).2=true):∃ j:Nat,j<l.length∧l[j]?=some (cX l x).1:=by
 unfold cX at h ⊢
 cases hf:l.find? (fun d=>decide (d.nm=x)) with
 | none=>rw[hf] at h;cases h
 | some d=>
  obtain ⟨j,hj⟩:=List.mem_iff_getElem?.1 (List.mem_of_find?_eq_some hf)
  exact ⟨j,(List.getElem?_eq_some_iff.1 hj).1,hj⟩
theorem nK {o:Oc} (h:dE o=0) {i:Nat} {c:Cl} (hi:o.cl[i]?=some c):∀ d,d∈c.ins→∃ j:Nat,j<i∧o.cl[j]?=some (cX o.cl d.cl).1∧(cX o.cl d.cl).2=true:=by
 unfold dE at h
 split at h
 ·simp at h
 split at h
 ·simp at h
 have hk:=aFx o o.cl 0 i c h hi
 rw[Nat.zero_add] at hk
 unfold mO at hk
 split at hk
 ·rename_i hn;exact absurd hk hn
 rename_i hh
 clear hk
 have hh:=Decidable.not_not.1 hh
 unfold yW at hh
 split at hh
 ·simp at hh
 split at hh
 ·rename_i hn;exact absurd hh hn
 split at hh
 ·rename_i hn;exact absurd hh hn
 split at hh
 ·rename_i hn;exact absurd hh hn
 split at hh
 ·simp at hh
 split at hh
 ·simp at hh
 split at hh
 ·simp at hh
 rename_i e6
 intro d hd
 have h1:=aDU e6 d hd
 have h2:(cX (o.cl.take i) d.cl).2=true:=by simpa using h1
 have h3:=aDk h2
 obtain ⟨j,hj,hja⟩:=aMb h2
 rw[List.length_take] at hj
 refine ⟨j,by omega,?_,by rw[h3];exact h2⟩
 rw[h3,←hja,List.getElem?_take,if_pos (by omega)]
theorem aQE (o:Oc) (k:Nat) (c:Cl):(iO o k c).c=c:=by cases k <;> rfl
theorem aFq {o:Oc} (h:dE o=0):∀ (k i:Nat) (c:Cl),o.cl[i]?=some c→i<k→(iO o k c).ok o
 | 0,i,c,_,hk=>by omega
 | k+1,i,c,hi,hk=>by
  have hc:=List.mem_of_getElem? hi
  have hw:=aAC h c hc
  have hmn:((mI c.mems).map Prod.fst)=c.mems.map Mm.nm:=by unfold mI;rw[List.map_map];rfl
  have mA:(c.mems.map Mm.nm).Nodup:=by
   have:=hw.nd
   unfold Cl.names at this
   exact (List.nodup_append.1 (List.nodup_append.1 this).1).2.1
  have hp:puts [] (mI c.mems)=mI c.mems:=by
   have:=aBZ (mI c.mems) [] (by rw[List.nil_append,hmn];exact mA)
   simpa using this
  rw[iO,Trn.ok,hp]
  refine ⟨hc,⟨hmn,fun nm hn=>?_⟩,?_⟩
  ·obtain ⟨m,hm,rfl,he⟩:=zX hn
   have g:=hw.mem m hm
   have hv:gz (mI c.mems) m.nm=m.ini:=by
    unfold gz eO mI
    have hf:=qR Mm.nm c.mems mA m hm
    rw[List.find?_map]
    have:((fun p:Tx×Int=>decide (p.1=m.nm))∘fun d:Mm=>(d.nm,d.ini))=fun e:Mm=>decide (e.nm=m.nm):=rfl
    rw[this,hf];rfl
   rw[hv,g.1];exact g.2.2
  ·have hb:=nK h hi
   generalize c.ins=l at hb
   induction l with
   | nil=>rw[List.map_nil,uZ]
   | cons d r ih=>
    rw[List.map_cons,uZ,aQE]
    obtain ⟨j,hj,hja,hjt⟩:=hb d (List.mem_cons_self ..)
    exact ⟨Prod.ext rfl hjt,aFq h k j _ hja (by omega),ih fun e he=>hb e (List.mem_cons_of_mem _ he)⟩
end Go.Ac
end
section
set_option maxRecDepth 4000
namespace Go.Ac
open Go.Proofs
def shO (n c:Nat) (o:Ob):Ob:=⟨o.gen+c,o.ro,dO n c o.cells⟩
theorem wR (n c:Nat) (l:List (Nat×Ob)):hZ n c l=l.map fun p=>(p.1+n,shO n c p.2):=rfl
theorem Hp.get_sets_mem:∀ (wr:List (Nat×Ob)) (h:Hp) (j:Nat) (o:Ob),(∀ p,p∈wr→p.1=j→p.2=o)→(∃ p,p∈wr∧p.1=j)→(Hp.sets h wr).get j=some o
 | [],h,j,o,_,hx=>by obtain ⟨p,hp,_⟩:=hx;cases hp
 | (k,x)::r,h,j,o,ho,hx=>by
  simp only[Hp.sets]
  by_cases hr:∃ p,p∈r∧p.1=j
  ·exact Hp.get_sets_mem r _ j o (fun p hp=>ho p (List.mem_cons_of_mem _ hp)) hr
  ·rw[Hp.get_sets_ne r _ j fun p hp he=>hr ⟨p,hp,he⟩]
   obtain ⟨p,hp,he⟩:=hx
   rcases List.mem_cons.1 hp with rfl|hp
   ·simp only at he
    subst he
    rw[Hp.get_set_self,←ho _ (List.mem_cons_self ..) rfl]
   ·exact absurd ⟨p,hp,he⟩ hr
theorem kI {hp:Hp} {look:cA} {n c m id:Nat} {o:Ob} (h:id<m) (ho:look id=some o):(hp.sets (hZ n c (jZ look (List.range m)))).get (id+n)=some (shO n c o):=by
 refine Hp.get_sets_mem _ _ _ _ (fun p hp cY=>?_) ⟨(id+n,shO n c o),?_,rfl⟩
 ·rw[wR,List.mem_map] at hp
  obtain ⟨x,hx,rfl⟩:=hp
  have h2:=(aAA.1 hx).2
  have h3:x.1=id:=by simp only at cY;omega
  rw[h3,ho] at h2
  rw[Option.some.inj h2]
 ·rw[wR,List.mem_map]
  exact ⟨(id,o),aAA.2 ⟨List.mem_range.2 h,ho⟩,rfl⟩
theorem nV {hp:Hp} {look:cA} {n c m id:Nat} (h:id<n):(hp.sets (hZ n c (jZ look (List.range m)))).get id=hp.get id:=by
 refine Hp.get_sets_ne _ _ _ (fun p hp cY=>?_)
 rw[wR,List.mem_map] at hp
 obtain ⟨x,hx,rfl⟩:=hp
 simp only at cY;omega
theorem iF (wl:List Nat):∀ l:List (Nat×Ob),bA 0 wl l=wl
 | []=>rfl
 | (k,o)::r=>by
  have:Nat.blt k 0=false:=by cases k <;> rfl
  simp only[bA,this];exact iF wl r
attribute [local simp] iF
theorem aBM {α:Type} (n c:Nat) (e:α→V) (h:∀ a,cS n c (e a)=e a):∀ l:List (Tx×α),dO n c (l.map fun p=>e p.2)=l.map fun p=>e p.2
 | []=>rfl
 | p::r=>by
  simp only[List.map_cons,dO,h]
  rw[aBM n c e h r]
theorem wY {α:Type} (n c g:Nat) (e:α→V) (h:∀ a,cS n c (e a)=e a) (l:List (Tx×α)):shO n c ⟨g,false,[gF e l]⟩=⟨g+c,false,[gF e l]⟩:=by
 unfold shO
 simp only[gF,dO,cS]
 rw[aBM n c e h l]
theorem KG.import {hp:Hp} {n c1:Nat} {o:Oc} {ea:List Cl} {x:Cl} {lv lm:List (Tx×Int)} {lp:List (Tx×Bool)}:
  KG (5+n) (5+c1) (1+n) (1+c1) (2+n) (2+c1) (3+n) (3+c1) (4+n) (4+c1) o ea x lv lp lm [] (hp.sets (hZ n c1 (jZ (nHp o.en ea x lv lp lm).get (List.range 6)))) (n+6):=by
 refine ⟨?_,?_,?_,?_,?_,by omega,by omega,by omega,by omega,by omega⟩
 ·rw[kI (by omega) (o:=kO o.en ea x) rfl]
  simp[shO,kO,dO,cS]
 ·rw[kI (by omega) (o:=⟨1,false,[gF eI lv]⟩) rfl,wY _ _ _ _ (fun a=>rfl)]
 ·rw[kI (by omega) (o:=⟨2,false,[gF eBo lp]⟩) rfl,wY _ _ _ _ (fun a=>rfl)]
 ·rw[kI (by omega) (o:=⟨3,false,[gF eI lm]⟩) rfl,wY _ _ _ _ (fun a=>rfl)]
 ·rw[kI (by omega) (o:=⟨4,false,[gF eC []]⟩) rfl]
  simp[shO,gF,dO,cS]
theorem aWW (r:Nat):Ob.keep 11 r=Ob.k11 r:=by kernel_rfl
attribute [local simp] aWW Ob.k11
set_option maxHeartbeats 8000000 in
theorem aAM (o:Oc) (gB:o.sz≤2097152) (cE:o.ok):d7 Tryz.prog Ob.cfg 11 [aG o.cells]=some (dI (dE o)):=by
 unfold Oc.sz at gB
 have k1:=aCg o.en
 have k2:=lI o.cl
 refine bF Tryz.func11 rfl (by kernel_rfl) rfl rfl ?_
 unfold dE
 by_cases c1:24<o.en.length
 ·rw[if_pos c1]
  have c1':((24:Int)<o.en.length)=True:=eq_true (by omega)
  have c1'':=eq_true c1
  refine fN (j6 @aD @aL @aB @aA @c1' @c1'') ?_
  show a7 _ _ _ _ _
  exact ⟨.inr rfl,_,_,rfl,rfl⟩
 rw[if_neg c1]
 have c1':((24:Int)<o.en.length)=False:=eq_false (by omega)
 have c1'':=eq_false c1
 refine fN (j6 @aD @aL @aB @aA @c1' @c1'') ?_
 apply WP.loop' (I:=fun D s=>∃ k:Nat,k+D=o.en.length∧(o.en.take k).all (fun u=> !oR u)=true∧SE [(1,.ptr 0 0 0),(13,dL (fW o.en)),(14,dI o.en.length),(15,dI k)] [(0,⟨0,false,o.cells.map .d⟩)] 1 s) (d:=o.en.length)
 ·exact ⟨0,by simp,by simp,SE.mk (by simp[dI,dL]) (by simp[Oc.cells])⟩
 rintro D _ ⟨k,hk,cD,cc,rfl⟩
 refine aJx (j3 @aB @aA @aL) ?_
 show WP _ _ _ _ _ _
 refine WP.cond _ rfl (fun hb=>?_) (fun hb=>?_)
 ·simp at hb
  have bR:k<o.en.length:=by omega
  obtain ⟨d,hd,d9,bS⟩:=bL bR
  have cF:=xH hd
  have tQ:=bG bR (by omega)
  have hs:=bZ (p:=fun u=> !oR u) hd
  by_cases e1:d.tags=[]
  ·rw[if_pos (List.any_eq_true.2 ⟨d,d9,by simp[oR,e1]⟩)]
   refine fN (uQ @aB @aA @aL @bS @cF @En.cells.eq_1 @aW @bH @e1 @aH @aI) ?_
   show a7 _ _ _ _ _
   exact ⟨.inr rfl,_,_,rfl,rfl⟩
  by_cases e2:16<d.tags.length
  ·have e2':((16:Int)<d.tags.length)=True:=eq_true (by omega)
   have e2'':=eq_true e2
   rw[if_pos (List.any_eq_true.2 ⟨d,d9,by simp[oR,e2]⟩)]
   refine fN (uN @aB @aA @aL @bS @cF @En.cells.eq_1 @aW @bH @aS @e1 @e2' @e2'' @aH @aI) ?_
   show a7 _ _ _ _ _
   exact ⟨.inr rfl,_,_,rfl,rfl⟩
  ·have e2':((16:Int)<d.tags.length)=False:=eq_false (by omega)
   have e2'':=eq_false e2
   have oE:oR d=false:=by unfold oR;rw[gY e2];simpa using e1
   rw[oE] at hs
   refine fN (uN @aB @aA @aL @bS @cF @En.cells.eq_1 @aW @bH @aS @e1 @e2' @e2'' @aH @aI) ?_
   refine aY (by simp[tQ];exact Is.rfl) ?_
   exact ⟨D - 1,by omega,k+1,by omega,by rw[hs,cD];rfl,SE.mk (by simp[dI,dL,tQ]) (by simp[Oc.cells])⟩
 simp at hb
 have tU:k=o.en.length:=by omega
 rw[tU,List.take_length] at cD
 rw[if_neg (by rw[tX (p:=oR) cD];simp)]
 have hen:∀ t,nY o.en t=decide (0<fC o.en t):=aIq fun u hu=>by simpa using List.all_eq_true.1 cD u hu
 clear cD tU hb hk
 refine fN (j3 @aB @aA @aL) ?_
 apply WP.loop' (I:=fun D s=>∃ (k c':Nat) (bD:Hp),k+D=o.cl.length∧aBO o k (o.cl.drop k)=aBO o 0 o.cl∧bD.get 0=some ⟨0,false,o.cells.map .d⟩∧s=⟨[(1,.ptr 0 0 0),(31,dL (gA o.cl)),(32,dI o.cl.length),(33,dI k)],bD,1,c',0,[]⟩) (d:=o.cl.length)
 ·exact ⟨0,_,_,by simp,by simp,by simp[Oc.cells],bK (by simp[dI,dL]) rfl⟩
 rintro D _ ⟨k,c',bD,hk,hv,kY,rfl⟩
 simp only[Oc.cells,List.map_cons,List.map_nil] at kY
 refine aJx (jn @aB @aA) ?_
 show WP _ _ _ _ _ _
 refine WP.cond _ rfl (fun hb=>?_) (fun hb=>?_)
 ·simp at hb
  have bR:k<o.cl.length:=by omega
  obtain ⟨c,hc,hcm,bS⟩:=bL bR
  have hc':=kU hc
  have tQ:=bG bR (by omega)
  have rN:=pS hcm
  unfold Cl.sz at rN
  have l1:=kT c.inn
  have l2:=kT c.out
  have l3:=kT c.loc
  have l4:=uE c.mems
  have l5:=sG c.ins
  have aDM:=cE c hcm
  have hsl:=fun look e b z=>nU look e b z (vS o.cl) (j:=k) (by rw[mY];omega)
  have etk:=aDZ o.cl k
  rw[g8 hc,aBO] at hv
  refine fN (j9 @aB @aA @Hp.get_set @kY @bS @hc' @aJ @aH @aI) ?_
  apply WP.gen3
  intro nC c1 wl1 eS jF
  have wP:wl1=[]:=jF
  have rI:nC.get 0=some ⟨0,false,[V.d (.slice (fW o.en)),V.d (.slice (gA o.cl))]⟩:=by rw[eS];simp[Hp.get_set,kY]
  obtain ⟨g1,hy1⟩:∃ g1,g1=c':=⟨_,rfl⟩
  have hy1:nC.get 1=some ⟨c',false,[V.d (.str c.nm),V.d (.slice (cM c.inn)),V.d (.slice (cM c.out)),V.d (.slice (cM c.loc)),V.d (.slice (lA c.mems)),V.d (.slice (mD c.ins)),V.d (.slice (dJ c.step))]⟩:=by rw[eS];simp[Hp.get_set]
  subst wP
  clear eS jF
  obtain ⟨q,hI1,hqv,hqn,hqh⟩:=aTr o.en (o.cl.take k) c (by omega)
  have hI2:dZ eW q.v=none:=by rw[hqv];rfl
  have hI3:cS 2 c1 q.v= .ptr 7 (5+c1) 0:=by rw[hqv];rfl
  obtain ⟨W1,xK⟩:∃ W,hZ 2 c1 (jZ q.hp.get (List.range q.n))=W:=⟨_,rfl⟩
  have hKG:KG 7 (5+c1) 3 (1+c1) 4 (2+c1) 5 (3+c1) 6 (4+c1) o (o.cl.take k) c (puts (puts (puts [] (dV c.inn)) (dV c.out)) (dV c.loc)) (puts (puts [] (dP c.out)) (dP c.loc)) (puts [] (mV c.mems)) [] (nC.sets W1) (2+q.n):=by
   rw[←xK,hqh,hqn];exact KG.import (n:=2) (c1:=c1)
  have aYO:(nC.sets W1).get 0=nC.get 0:=by rw[←xK,nV (by omega)]
  obtain ⟨q2,oZ,aNj,aZp,tW,nJ,mH,_⟩:=(aNy (cc:=c1+q.c) hen (by rw[List.length_take];unfold MX;omega) ⟨by omega⟩ aDM (by omega) (nC.sets W1) (2+q.n) ⟨by omega,by omega,by omega,by omega⟩ hKG (fun hz=>aSy aDM (by unfold MX;omega) hz)).caller (by intro j hj;simp at hj;omega)
  have aYP:((nC.sets W1).sets (sL q2 (2+q.n))).get 0=some ⟨0,false,[V.d (.slice (fW o.en)),V.d (.slice (gA o.cl))]⟩:=by rw[mH 0 (by omega) (by simp),aYO,rI]
  rw[aKo] at aNj
  simp only[dL,dI,aG,Cl.cells,List.map_cons,List.map_nil] at hI1 aNj
  by_cases c2:mO o k c=0
  case neg=>
   have c2':=eq_false c2
   rw[if_pos c2] at hv
   rw[←hv]
   refine fN (j9 @aB @aA @rI @hy1 @hsl @etk @aNj @aV @c2') ?_
   show a7 _ _ _ _ _
   exact ⟨.inr rfl,_,_,rfl,rfl⟩
  rw[if_neg (by simp[c2])] at hv
  rw[c2] at aNj
  refine fN (j8 @aB @aA @rI @hy1 @hsl @etk @aNj @aV) ?_
  refine aY (by simp[tQ];exact Is.rfl) ?_
  exact ⟨D - 1,by omega,k+1,_,_,by omega,hv,by rw[Hp.get_trunc _ _ _ (by omega)];exact aYP,bK (by simp[dI,dL,tQ]) rfl⟩
 ·simp at hb
  have tU:k=o.cl.length:=by omega
  rw[tU,List.drop_length,aBO] at hv
  rw[←hv]
  refine fN (jn @aB @aA) ?_
  show a7 _ _ _ _ _
  exact ⟨.inr rfl,_,_,rfl,rfl⟩
end Go.Ac
end
section
set_option maxRecDepth 4000
namespace Go.Ac
open Go.Proofs
def Pb.sh (n c:Nat) (a:Pb):Pb:=⟨a.x+n,a.gx+c,a.im+n,a.gm+c,a.ii+n,a.gi+c⟩
mutual
def Pt.sh (n c:Nat):Pt→Pt
 | .mk a ps=> .mk (a.sh n c) (vR n c ps)
def vR (n c:Nat):List Pt→List Pt
 | []=>[]
 | p::r=>p.sh n c::vR n c r
end
theorem aFc (n c:Nat):∀ l,vR n c l=l.map (Pt.sh n c)
 | []=>by rw[vR];rfl
 | p::r=>by rw[vR,aFc n c r];rfl
theorem Pt.sh_a (n c:Nat) (p:Pt):(p.sh n c).a=p.a.sh n c:=by cases p;rw[Pt.sh];rfl
mutual
theorem aEJ (n c:Nat):∀ p:Pt,dM (p.sh n c)=(dM p).map (·+n)
 | .mk a ps=>by rw[Pt.sh,dM,dM,aHo n c ps];rfl
theorem aHo (n c:Nat):∀ l:List Pt,dT (vR n c l)=(dT l).map (·+n)
 | []=>by rw[vR,dT];rfl
 | p::r=>by rw[vR,dT,dT,aEJ n c p,aHo n c r,List.map_append]
end
mutual
theorem aEK (n c:Nat):∀ p:Pt,lS (p.sh n c)=(lS p).map (·+n)
 | .mk a ps=>by rw[Pt.sh,lS,lS,aFV n c ps];rfl
theorem aFV (n c:Nat):∀ l:List Pt,fZ (vR n c l)=(fZ l).map (·+n)
 | []=>by rw[vR,fZ];rfl
 | p::r=>by rw[vR,fZ,fZ,aEK n c p,aFV n c r,List.map_append]
end
mutual
theorem aIk (n c:Nat):∀ (t:Trn) (p:Pt),fit t (p.sh n c)↔fit t p
 | .mk k ms sb,.mk a ps=>by rw[Pt.sh,fit,fit,aJe n c sb ps]
theorem aJe (n c:Nat):∀ (l:List Trn) (ps:List Pt),eU l (vR n c ps)↔eU l ps
 | [],[]=>by rw[vR]
 | [],p::ps=>by rw[vR,eU,eU];simp
 | t::r,[]=>by rw[vR,eU]
 | t::r,p::ps=>by rw[vR,eU,eU,aIk n c t p,aJe n c r ps]
end
theorem aQv (n c g:Nat) (ms:List (Tx×Int)):shO n c ⟨g,false,[gF eI ms]⟩=⟨g+c,false,[gF eI ms]⟩:=wY _ _ _ _ (fun _=>rfl) _
theorem aPv (n c g:Nat) (en:List En) (k:Cl) (im gm ii gi:Nat):shO n c (oO g en k im gm ii gi)=oO (g+c) en k (im+n) (gm+c) (ii+n) (gi+c):=by
 simp[shO,oO,dO,cS]
theorem aJm (n c:Nat):∀ l:List (Tx×(Nat×Nat)),dO n c (l.map fun p=>eP p.2)=(l.map fun q=>(q.1,(q.2.1+n,q.2.2+c))).map fun p=>eP p.2
 | []=>rfl
 | p::r=>by
  simp only[List.map_cons,dO]
  rw[aJm n c r];rfl
theorem aNF (n c:Nat) (k:Cl) (ps:List Pt):i4 k (vR n c ps)=(i4 k ps).map fun q=>(q.1,(q.2.1+n,q.2.2+c)):=by
 unfold i4
 rw[aFc,List.map_map]
 generalize k.ins.map Ii.nm=l
 induction l generalizing ps with
 | nil=>simp
 | cons x r ih=>
  cases ps with
  | nil=>simp
  | cons p ps=>simp only[List.map_cons,List.zip_cons_cons,ih];simp[Pt.sh_a,Pb.sh]
theorem aNL (n c g:Nat) (k:Cl) (ps:List Pt):shO n c ⟨g,false,[gF eP (i4 k ps)]⟩=⟨g+c,false,[gF eP (i4 k (vR n c ps))]⟩:=by
 rw[aNF]
 unfold shO gF
 simp only[dO,cS]
 rw[aJm]
 simp
mutual
theorem aMl (n c:Nat):∀ (t:Trn) (p:Pt),qD t (p.sh n c)=(qD t p).map fun q=>(q.1+n,shO n c q.2)
 | .mk k ms sb,.mk a ps=>by rw[Pt.sh,qD,qD,aLE n c sb ps,List.map_cons,aQv];rfl
theorem aLE (n c:Nat):∀ (l:List Trn) (ps:List Pt),xM l (vR n c ps)=(xM l ps).map fun q=>(q.1+n,shO n c q.2)
 | [],ps=>by rw[xM,xM];rfl
 | t::r,[]=>by rw[vR,xM];rfl
 | t::r,p::ps=>by rw[vR,xM,xM,aMl n c t p,aLE n c r ps,List.map_append]
end
mutual
theorem aLX (en:List En) (n c:Nat):∀ (t:Trn) (p:Pt),stC en t (p.sh n c)=(stC en t p).map fun q=>(q.1+n,shO n c q.2)
 | .mk k ms sb,.mk a ps=>by rw[Pt.sh,stC,stC,aMj en n c sb ps,List.map_cons,List.map_cons,aPv,aNL];rfl
theorem aMj (en:List En) (n c:Nat):∀ (l:List Trn) (ps:List Pt),stL en l (vR n c ps)=(stL en l ps).map fun q=>(q.1+n,shO n c q.2)
 | [],ps=>by rw[stL,stL];rfl
 | t::r,[]=>by rw[vR,stL];rfl
 | t::r,p::ps=>by rw[vR,stL,stL,aLX en n c t p,aMj en n c r ps,List.map_append]
end
theorem aDW (n:Nat) (l:List Nat) (h:l.Nodup):(l.map (·+n)).Nodup:=by
 induction l with
 | nil=>simp
 | cons x r ih=>
  rw[List.nodup_cons] at h
  rw[List.map_cons,List.nodup_cons]
  refine ⟨fun hm=>?_,ih h.2⟩
  obtain ⟨y,hy,he⟩:=List.mem_map.1 hm
  have:y=x:=by omega
  exact h.1 (this▸hy)
theorem Lies.import {en:List En} {t:Trn} {p:Pt} {hq hp:Hp} {m n c:Nat} (h:Lies en t p hq m):Lies en t (p.sh n c) (hp.sets (hZ n c (jZ hq.get (List.range m)))) (m+n):=by
 refine ⟨(aIk n c t p).2 h.fit,?_,fun q gQ=>?_,fun q gQ=>?_⟩
 ·unfold Pt.nd
  rw[aEJ,aEK,←List.map_append]
  exact aDW n _ h.nd
 ·rw[aLX] at gQ
  obtain ⟨x,hx,rfl⟩:=List.mem_map.1 gQ
  obtain ⟨h1,h2⟩:=h.st x hx
  exact ⟨by simp only;omega,kI h1 h2⟩
 ·rw[aMl] at gQ
  obtain ⟨x,hx,rfl⟩:=List.mem_map.1 gQ
  obtain ⟨h1,h2⟩:=h.me x hx
  exact ⟨by simp only;omega,kI h1 h2⟩
theorem aOQ (n c:Nat) (p:Pt):∀ k,k∈lS (p.sh n c)++dM (p.sh n c)→n≤k:=by
 rw[aEJ,aEK,←List.map_append]
 intro k hk
 obtain ⟨x,_,rfl⟩:=List.mem_map.1 hk
 omega
structure LL (en:List En) (l:List Trn) (ps:List Pt) (lo:Nat) (hp:Hp) (n:Nat):Prop where
 fit:eU l ps
 nd:(fZ ps++dT ps).Nodup
 lo:∀ k,k∈fZ ps++dT ps→lo≤k∧k<n
 st:∀ q,q∈stL en l ps→hp.get q.1=some q.2
 me:∀ q,q∈xM l ps→hp.get q.1=some q.2
theorem LL.nil {en:List En} {lo:Nat} {hp:Hp} {n:Nat}:LL en [] [] lo hp n:=
 ⟨by rw[eU],by simp[fZ,dT],fun k hk=>by simp[fZ,dT] at hk,fun q hq=>by simp[stL] at hq,fun q hq=>by simp[xM] at hq⟩
theorem LL.same {en:List En} {l:List Trn} {ps:List Pt} {lo:Nat} {hp bD:Hp} {n n':Nat} (h:LL en l ps lo hp n) (hn:n≤n') (hg:∀ k,lo≤k→k<n→bD.get k=hp.get k):LL en l ps lo bD n':=by
 refine ⟨h.fit,h.nd,fun k hk=>⟨(h.lo k hk).1,Nat.lt_of_lt_of_le (h.lo k hk).2 hn⟩,fun q hq=>?_,fun q hq=>?_⟩
 ·have hk:q.1∈fZ ps:=by rw[←aAk en l ps h.fit];exact List.mem_map.2 ⟨q,hq,rfl⟩
  have:=h.lo _ (List.mem_append_left _ hk)
  rw[hg _ this.1 this.2];exact h.st q hq
 ·have hk:q.1∈dT ps:=by rw[←lB l ps h.fit];exact List.mem_map.2 ⟨q,hq,rfl⟩
  have:=h.lo _ (List.mem_append_right _ hk)
  rw[hg _ this.1 this.2];exact h.me q hq
theorem aBh:∀ (l:List Trn) (ps:List Pt) (t:Trn) (p:Pt),eU l ps→fit t p→eU (l++[t]) (ps++[p])
 | [],ps,t,p,h,h2=>by rw[eU] at h;subst h;simp only[List.nil_append];rw[eU,eU];exact ⟨h2,rfl⟩
 | x::r,[],t,p,h,h2=>by rw[eU] at h;exact h.elim
 | x::r,q::ps,t,p,h,h2=>by rw[eU] at h;rw[List.cons_append,List.cons_append,eU];exact ⟨h.1,aBh r ps t p h.2 h2⟩
theorem aAt:∀ a b:List Pt,fZ (a++b)=fZ a++fZ b
 | [],b=>by rw[fZ];rfl
 | p::r,b=>by rw[List.cons_append,fZ,fZ,aAt r b,List.append_assoc]
theorem aAZ:∀ a b:List Pt,dT (a++b)=dT a++dT b
 | [],b=>by rw[dT];rfl
 | p::r,b=>by rw[List.cons_append,dT,dT,aAZ r b,List.append_assoc]
theorem aGv (en:List En):∀ (l:List Trn) (ps:List Pt) (t:Trn) (p:Pt),eU l ps→stL en (l++[t]) (ps++[p])=stL en l ps++stC en t p
 | [],ps,t,p,h=>by rw[eU] at h;subst h;simp[stL]
 | x::r,[],t,p,h=>by rw[eU] at h;exact h.elim
 | x::r,q::ps,t,p,h=>by rw[eU] at h;rw[List.cons_append,List.cons_append,stL,stL,aGv en r ps t p h.2,List.append_assoc]
theorem aGD:∀ (l:List Trn) (ps:List Pt) (t:Trn) (p:Pt),eU l ps→xM (l++[t]) (ps++[p])=xM l ps++qD t p
 | [],ps,t,p,h=>by rw[eU] at h;subst h;simp[xM]
 | x::r,[],t,p,h=>by rw[eU] at h;exact h.elim
 | x::r,q::ps,t,p,h=>by rw[eU] at h;rw[List.cons_append,List.cons_append,xM,xM,aGD r ps t p h.2,List.append_assoc]
theorem LL.snoc {en:List En} {l:List Trn} {ps:List Pt} {lo:Nat} {hp bD:Hp} {n n':Nat} {t:Trn} {p:Pt} (h:LL en l ps lo hp n) (hlo:lo≤n) (hL:Lies en t p bD n') (hge:∀ k,k∈lS p++dM p→n≤k) (hn:n≤n') (hg:∀ k,lo≤k→k<n→bD.get k=hp.get k):LL en (l++[t]) (ps++[p]) lo bD n':=by
 have h2:=h.same hn hg
 refine ⟨aBh _ _ _ _ h.fit hL.fit,?_,fun k hk=>?_,fun q hq=>?_,fun q hq=>?_⟩
 ·rw[aAt,aAZ]
  have e1:fZ [p]=lS p:=by simp[fZ]
  have e2:dT [p]=dM p:=by simp[dT]
  rw[e1,e2]
  have a:=h.nd
  have b:=hL.nd
  unfold Pt.nd at b
  rw[List.nodup_append] at a b
  have lo1:∀ k,k∈fZ ps→k<n:=fun k hk=>(h.lo k (List.mem_append_left _ hk)).2
  have lo2:∀ k,k∈dT ps→k<n:=fun k hk=>(h.lo k (List.mem_append_right _ hk)).2
  have g1:∀ k,k∈lS p→n≤k:=fun k hk=>hge k (List.mem_append_left _ hk)
  have g2:∀ k,k∈dM p→n≤k:=fun k hk=>hge k (List.mem_append_right _ hk)
  rw[List.nodup_append,List.nodup_append,List.nodup_append]
  refine ⟨⟨a.1,b.1,fun x hx y hy=>?_⟩,⟨a.2.1,b.2.1,fun x hx y hy=>?_⟩,fun x hx y hy=>?_⟩
  ·have:=lo1 x hx;have:=g1 y hy;omega
  ·have:=lo2 x hx;have:=g2 y hy;omega
  ·rcases List.mem_append.1 hx with hx|hx <;> rcases List.mem_append.1 hy with hy|hy
   ·exact a.2.2 x hx y hy
   ·have:=lo1 x hx;have:=g2 y hy;omega
   ·have:=g1 x hx;have:=lo2 y hy;omega
   ·exact b.2.2 x hx y hy
 ·rw[aAt,aAZ] at hk
  have e1:fZ [p]=lS p:=by simp[fZ]
  have e2:dT [p]=dM p:=by simp[dT]
  rw[e1,e2] at hk
  have f1:∀ k,k∈lS p→k<n':=fun k hk=>by
   rw[←qJ en t p hL.fit] at hk
   obtain ⟨q,hq,rfl⟩:=List.mem_map.1 hk
   exact (hL.st q hq).1
  have f2:=hL.mids_lt
  simp only[List.mem_append] at hk
  rcases hk with (hk|hk)|(hk|hk)
  ·exact ⟨(h2.lo k (List.mem_append_left _ hk)).1,(h2.lo k (List.mem_append_left _ hk)).2⟩
  ·have:=hge k (List.mem_append_left _ hk);exact ⟨by omega,f1 k hk⟩
  ·exact ⟨(h2.lo k (List.mem_append_right _ hk)).1,(h2.lo k (List.mem_append_right _ hk)).2⟩
  ·have:=hge k (List.mem_append_right _ hk);exact ⟨by omega,f2 k hk⟩
 ·rw[aGv en _ _ _ _ h.fit] at hq
  rcases List.mem_append.1 hq with hq|hq
  ·exact h2.st q hq
  ·exact (hL.st q hq).2
 ·rw[aGD _ _ _ _ h.fit] at hq
  rcases List.mem_append.1 hq with hq|hq
  ·exact h2.me q hq
  ·exact (hL.me q hq).2
theorem LL.lies {en:List En} {c:Cl} {ms:List (Tx×Int)} {l:List Trn} {a:Pb} {ps:List Pt} {lo:Nat} {hp:Hp} {n:Nat} (h:LL en l ps lo hp n) (hl:l.length=c.ins.length) (h1:a.x<lo) (h2:a.im<lo) (h3:a.ii<lo) (d1:a.x≠a.im) (d2:a.x≠a.ii) (d3:a.im≠a.ii) (hlo:lo≤n)
  (hx:hp.get a.x=some (oO a.gx en c a.im a.gm a.ii a.gi)) (hi:hp.get a.ii=some ⟨a.gi,false,[gF eP (i4 c ps)]⟩) (hm:hp.get a.im=some ⟨a.gm,false,[gF eI ms]⟩):Lies en (.mk c ms l) (.mk a ps) hp n:=by
 have k1:∀ k,k∈fZ ps→lo≤k:=fun k hk=>(h.lo k (List.mem_append_left _ hk)).1
 have k2:∀ k,k∈dT ps→lo≤k:=fun k hk=>(h.lo k (List.mem_append_right _ hk)).1
 refine ⟨by rw[Go.Ac.fit];exact ⟨hl,h.fit⟩,?_,fun q hq=>?_,fun q hq=>?_⟩
 ·unfold Pt.nd
  rw[lS,dM]
  have a0:=h.nd
  rw[List.nodup_append] at a0
  rw[List.nodup_append,List.nodup_cons,List.nodup_cons,List.nodup_cons]
  refine ⟨⟨fun hh=>?_,fun hh=>?_,a0.1⟩,⟨fun hh=>?_,a0.2.1⟩,fun x hx y hy=>?_⟩
  ·rcases List.mem_cons.1 hh with hh|hh
   ·exact d2 hh
   ·have:=k1 _ hh;omega
  ·have:=k1 _ hh;omega
  ·have:=k2 _ hh;omega
  ·rcases List.mem_cons.1 hx with rfl|hx
   ·rcases List.mem_cons.1 hy with rfl|hy
    ·exact d1
    ·have:=k2 _ hy;omega
   rcases List.mem_cons.1 hx with rfl|hx
   ·rcases List.mem_cons.1 hy with rfl|hy
    ·exact fun e=>d3 e.symm
    ·have:=k2 _ hy;omega
   rcases List.mem_cons.1 hy with rfl|hy
   ·have:=k1 _ hx;omega
   ·exact a0.2.2 x hx y hy
 ·rw[stC,List.mem_cons,List.mem_cons] at hq
  rcases hq with hq|hq|hq
  ·subst hq;exact ⟨by simp only;omega,hx⟩
  ·subst hq;exact ⟨by simp only;omega,hi⟩
  ·have hk:q.1∈fZ ps:=by rw[←aAk en l ps h.fit];exact List.mem_map.2 ⟨q,hq,rfl⟩
   exact ⟨(h.lo _ (List.mem_append_left _ hk)).2,h.st q hq⟩
 ·rw[qD,List.mem_cons] at hq
  rcases hq with hq|hq
  ·subst hq;exact ⟨by simp only;omega,hm⟩
  ·have hk:q.1∈dT ps:=by rw[←lB l ps h.fit];exact List.mem_map.2 ⟨q,hq,rfl⟩
   exact ⟨(h.lo _ (List.mem_append_right _ hk)).2,h.me q hq⟩
theorem Lies.same2 {en:List En} {t:Trn} {p:Pt} {hp bD:Hp} {n n':Nat} (h:Lies en t p hp n) (hg:∀ k,k∈lS p++dM p→bD.get k=hp.get k) (hn:n≤n'):Lies en t p bD n':=by
 refine ⟨h.fit,h.nd,fun q hq=>⟨Nat.lt_of_lt_of_le (h.st q hq).1 hn,?_⟩,fun q hq=>⟨Nat.lt_of_lt_of_le (h.me q hq).1 hn,?_⟩⟩
 ·rw[hg _ (List.mem_append_left _ (by rw[←qJ en t p h.fit];exact List.mem_map.2 ⟨q,hq,rfl⟩))];exact (h.st q hq).2
 ·rw[hg _ (List.mem_append_right _ (by rw[←eL t p h.fit];exact List.mem_map.2 ⟨q,hq,rfl⟩))];exact (h.me q hq).2
theorem aKT {c:Cl} {ps:List Pt} {p:Pt} {d:Ii} (mA:(c.ins.map Ii.nm).Nodup) (hd:c.ins[ps.length]?=some d):jG (i4 c ps) d.nm (p.a.x,p.a.gx)=i4 c (ps++[p]):=by
 have hz:i4 c (ps++[p])=i4 c ps++[(d.nm,(p.a.x,p.a.gx))]:=by
  unfold i4
  rw[List.map_append]
  have fB:=(List.getElem?_eq_some_iff.1 hd).1
  have e:c.ins.map Ii.nm=(c.ins.map Ii.nm).take ps.length++(c.ins.map Ii.nm).drop ps.length:=(List.take_append_drop _ _).symm
  have e2:(c.ins.map Ii.nm).drop ps.length=d.nm::(c.ins.map Ii.nm).drop (ps.length+1):=by
   rw[List.drop_eq_getElem_cons (by simpa using fB)]
   have:=(List.getElem?_eq_some_iff.1 hd).2
   rw[List.getElem_map,this]
  have l1:((c.ins.map Ii.nm).take ps.length).length=(ps.map fun p=>(p.a.x,p.a.gx)).length:=by simp;omega
  have e3:(c.ins.map Ii.nm).zip (ps.map fun p=>(p.a.x,p.a.gx))=((c.ins.map Ii.nm).take ps.length).zip (ps.map fun p=>(p.a.x,p.a.gx)):=by
   conv=>lhs;rw[e,←List.append_nil (ps.map fun p=>(p.a.x,p.a.gx)),List.zip_append l1,List.zip_nil_right,List.append_nil]
  rw[e3]
  conv=>lhs;rw[e,List.zip_append l1,e2]
  simp
 rw[hz]
 unfold jG
 have hk:(i4 c ps).map Prod.fst=(c.ins.map Ii.nm).take ps.length:=by
  unfold i4
  have fB:=(List.getElem?_eq_some_iff.1 hd).1
  apply List.ext_getElem
  ·simp;omega
  ·intro i h1 h2;simp
 cases hf:List.findIdx? (fun q=>decide (q.1=d.nm)) (i4 c ps) with
 | none=>rfl
 | some i=>
  exfalso
  obtain ⟨hi,hx⟩:=qH hf
  have hm:d.nm∈(c.ins.map Ii.nm).take ps.length:=by
   rw[←hk,List.mem_map];exact ⟨_,List.getElem_mem hi,hx⟩
  obtain ⟨j,hj,eM⟩:=List.getElem_of_mem hm
  simp only[List.length_take,List.length_map] at hj
  have fB:=(List.getElem?_eq_some_iff.1 hd).1
  have hn:=List.pairwise_iff_getElem.1 mA j ps.length (by simp;omega) (by simpa using fB) (by omega)
  have h5:=(List.getElem?_eq_some_iff.1 hd).2
  simp only[List.getElem_take,List.getElem_map] at eM hn
  rw[h5] at hn
  exact hn eM
theorem aLB {l:List Cl} {x:Tx} (h:(cX l x).2=true):(cX l x).1.nm=x:=by
 unfold cX at h ⊢
 cases hf:l.find? (fun d=>decide (d.nm=x)) with
 | none=>rw[hf] at h;cases h
 | some d=>simpa using List.find?_some hf
theorem aAb {l:List Cl} {x:Tx} (h:(cX l x).2=true):∃ j:Nat,ixP (fun d:Cl=>decide (d.nm=x)) l=j∧l[j]?=some (cX l x).1∧∀ (k:Nat) (d:Cl),l[k]?=some d→d.nm=x→j≤k:=by
 unfold cX at h ⊢
 cases hf:l.find? (fun d=>decide (d.nm=x)) with
 | none=>rw[hf] at h;cases h
 | some d=>
  have hf2:=hf
  rw[List.find?_eq_getElem?_findIdx] at hf2
  have fB:=(List.getElem?_eq_some_iff.1 hf2).1
  refine ⟨l.findIdx (fun d=>decide (d.nm=x)),?_,hf2,fun k e hk he=>?_⟩
  ·unfold ixP
   rw[List.findIdx?_eq_some_iff_findIdx_eq.2 ⟨fB,rfl⟩]
  ·rcases Nat.lt_or_ge k (List.findIdx (fun d:Cl=>decide (d.nm=x)) l) with xJ|xJ
   ·exfalso
    have:=List.not_of_lt_findIdx xJ
    obtain ⟨h1,h2⟩:=List.getElem?_eq_some_iff.1 hk
    rw[h2] at this
    simp[he] at this
   ·exact xJ
theorem aIC {o:Oc} (h:dE o=0) {i:Nat} {c:Cl} (hi:o.cl[i]?=some c):∀ d,d∈c.ins→∃ j:Nat,j<i∧ixP (fun e:Cl=>decide (e.nm=d.cl)) o.cl=j∧o.cl[j]?=some (cX o.cl d.cl).1:=by
 intro d hd
 obtain ⟨j,hj,hja,hjt⟩:=nK h hi d hd
 obtain ⟨j2,h1,h2,h3⟩:=aAb hjt
 have:=h3 j _ hja (aLB hjt)
 exact ⟨j2,by omega,h1,h2⟩
theorem nT {o:Oc} (h:dE o=0):∀ (K k i:Nat) (c:Cl),k≤K→o.cl[i]?=some c→i<k→iO o k c=iO o (i+1) c
 | 0,k,i,c,hk,_,hi=>by omega
 | K+1,0,i,c,_,_,hi=>by omega
 | K+1,k+1,i,c,hk,hc,hi=>by
  by_cases hik:i=k
  ·rw[hik]
  rw[iO,iO]
  congr 1
  apply List.map_congr_left
  intro d hd
  obtain ⟨j,hj,hja,_⟩:=nK h hc d hd
  rw[nT h K k j _ (by omega) hja (by omega),nT h K i j _ (by omega) hja (by omega)]
end Go.Ac
end
section
set_option maxRecDepth 4000
namespace Go.Ac
open Go.Proofs
def rO (g:Nat) (o:Oc) (c:Cl) (im gm k ii gi m:Nat):Ob:=⟨g,false,[V.d (.slice (fW o.en)),V.d (.slice (gA o.cl)),V.d (.str c.nm),V.d (.slice (cM c.inn)),V.d (.slice (cM c.out)),V.d (.slice (cM c.loc)),V.d (.slice (lA c.mems)),V.d (.slice (mD c.ins)),V.d (.slice (dJ c.step)),.osl im gm 0 k 1 none,.osl ii gi 0 m 1 none]⟩
def eQ (p:Pt):V:= .ptr p.a.x p.a.gx 0
mutual
def cW:Pt→List Nat
 | .mk a ps=>a.x::a.im::a.ii::dK ps
def dK:List Pt→List Nat
 | []=>[]
 | p::r=>cW p++dK r
end
mutual
def rC (o:Oc):Trn→Pt→List (Nat×Ob)
 | .mk c ms sb,.mk a ps=>(a.x,rO a.gx o c a.im a.gm ms.length a.ii a.gi ps.length)::(a.im,⟨a.gm,false,fl (bX (ms.map Prod.snd))⟩)::(a.ii,⟨a.gi,false,ps.map eQ⟩)::rL o sb ps
def rL (o:Oc):List Trn→List Pt→List (Nat×Ob)
 | t::ts,p::ps=>rC o t p++rL o ts ps
 | [],_=>[]
 | _::_,[]=>[]
end
mutual
theorem aCp (o:Oc):∀ (t:Trn) (p:Pt),fit t p→(rC o t p).map Prod.fst=cW p
 | .mk c ms sb,.mk a ps,h=>by
  rw[fit] at h
  rw[rC,cW,List.map_cons,List.map_cons,List.map_cons,xC o sb ps h.2]
theorem xC (o:Oc):∀ (l:List Trn) (ps:List Pt),eU l ps→(rL o l ps).map Prod.fst=dK ps
 | [],ps,h=>by rw[eU] at h;subst h;rw[rL,dK];rfl
 | t::r,[],h=>by rw[eU] at h;exact h.elim
 | t::r,p::ps,h=>by
  rw[eU] at h
  rw[rL,dK,List.map_append,aCp o t p h.1,xC o r ps h.2]
end
theorem aFH (o:Oc):∀ (l:List Trn) (ps:List Pt) (q:Nat×Ob),q∈rL o l ps↔∃ (i:Nat) (t:Trn) (p:Pt),l[i]?=some t∧ps[i]?=some p∧q∈rC o t p
 | [],ps,q=>by rw[rL];simp
 | t::r,[],q=>by rw[rL];simp
 | t::r,p::ps,q=>by
  rw[rL,List.mem_append,aFH o r ps q]
  constructor
  ·rintro (h|⟨i,u,v,h1,h2,h3⟩)
   ·exact ⟨0,t,p,rfl,rfl,h⟩
   ·exact ⟨i+1,u,v,by simpa using h1,by simpa using h2,h3⟩
  ·rintro ⟨i,u,v,h1,h2,h3⟩
   cases i with
   | zero=>simp at h1 h2;subst h1;subst h2;exact .inl h3
   | succ i=>exact .inr ⟨i,u,v,by simpa using h1,by simpa using h2,h3⟩
theorem pU:∀ (ps:List Pt) (i:Nat) (p:Pt),ps[i]?=some p→∀ k,k∈cW p→k∈dK ps
 | [],i,p,h,_,_=>by simp at h
 | q::r,0,p,h,k,hk=>by simp at h;subst h;rw[dK];exact List.mem_append_left _ hk
 | q::r,i+1,p,h,k,hk=>by rw[dK];exact List.mem_append_right _ (pU r i p (by simpa using h) k hk)
theorem aJz:∀ (ps:List Pt),(dK ps).Nodup→∀ (i j:Nat) (p q:Pt),ps[i]?=some p→ps[j]?=some q→i≠j→∀ k,k∈cW p→k∉cW q
 | [],_,i,j,p,q,h,_,_,_,_,_=>by simp at h
 | x::r,hn,i,j,p,q,hi,hj,hne,k,hk,xJ=>by
  rw[dK,List.nodup_append] at hn
  obtain ⟨n1,n2,n3⟩:=hn
  cases i with
  | zero=>
   cases j with
   | zero=>exact hne rfl
   | succ j=>simp at hi hj;subst hi;exact n3 k hk k (pU r j q hj k xJ) rfl
  | succ i=>
   cases j with
   | zero=>simp at hi hj;subst hj;exact n3 k xJ k (pU r i p hi k hk) rfl
   | succ j=>exact aJz r n2 i j p q (by simpa using hi) (by simpa using hj) (by omega) k hk xJ
theorem aGF:∀ (ps:List Pt) (i:Nat) (p:Pt),(dK ps).Nodup→ps[i]?=some p→(cW p).Nodup
 | [],i,p,_,h=>by simp at h
 | q::r,0,p,hn,h=>by simp at h;subst h;rw[dK] at hn;exact (List.nodup_append.1 hn).1
 | q::r,i+1,p,hn,h=>by rw[dK] at hn;exact aGF r i p (List.nodup_append.1 hn).2.1 (by simpa using h)
theorem aAs:∀ (ps:List Pt) (i:Nat) (q:Pt) (k:Nat),k∈dK (ps.set i q)→k∈dK ps∨k∈cW q
 | [],i,q,k,h=>by simp[dK] at h
 | p::r,0,q,k,h=>by
  rw[List.set_cons_zero,dK] at h
  rw[dK]
  rcases List.mem_append.1 h with h|h
  ·exact .inr h
  ·exact .inl (List.mem_append_right _ h)
 | p::r,i+1,q,k,h=>by
  rw[List.set_cons_succ,dK] at h
  rw[dK]
  rcases List.mem_append.1 h with h|h
  ·exact .inl (List.mem_append_left _ h)
  ·rcases aAs r i q k h with h|h
   ·exact .inl (List.mem_append_right _ h)
   ·exact .inr h
theorem z8 {n:Nat}:∀ (ps:List Pt) (i:Nat) (q q':Pt),(dK ps).Nodup→(∀ k,k∈dK ps→k<n)→ps[i]?=some q→(cW q').Nodup→(∀ k,k∈cW q'→k∈cW q∨n≤k)→(dK (ps.set i q')).Nodup
 | [],i,q,q',_,_,h,_,_=>by simp at h
 | p::r,0,q,q',hn,hl,h,hq,hs=>by
  simp at h;subst h
  rw[dK,List.nodup_append] at hn
  rw[List.set_cons_zero,dK,List.nodup_append]
  refine ⟨hq,hn.2.1,fun x hx y hy e=>?_⟩
  subst e
  rcases hs x hx with h|h
  ·exact hn.2.2 x h x hy rfl
  ·have:=hl x (by rw[dK];exact List.mem_append_right _ hy);omega
 | p::r,i+1,q,q',hn,hl,h,hq,hs=>by
  rw[dK,List.nodup_append] at hn
  have gQ:r[i]?=some q:=by simpa using h
  rw[List.set_cons_succ,dK,List.nodup_append]
  refine ⟨hn.1,z8 r i q q' hn.2.1 (fun k hk=>hl k (by rw[dK];exact List.mem_append_right _ hk)) gQ hq hs,fun x hx y hy e=>?_⟩
  subst e
  rcases aAs r i q' x hy with h2|h2
  ·exact hn.2.2 x hx x h2 rfl
  ·rcases hs x h2 with h3|h3
   ·exact hn.2.2 x hx x (pU r i q gQ x h3) rfl
   ·have:=hl x (by rw[dK];exact List.mem_append_left _ hx);omega
structure RLies (o:Oc) (t:Trn) (p:Pt) (hp:Hp) (n:Nat):Prop where
 fit:fit t p
 nd:(cW p).Nodup
 ce:∀ q,q∈rC o t p→q.1<n∧hp.get q.1=some q.2
section
variable {o:Oc} {t u:Trn} {p q:Pt} {hp bD:Hp} {n n':Nat}
theorem RLies.lt (h:RLies o t p hp n):∀ k,k∈cW p→k<n:=fun k hk=>by
 rw[←aCp o t p h.fit] at hk
 obtain ⟨x,hx,rfl⟩:=List.mem_map.1 hk
 exact (h.ce x hx).1
theorem RLies.same (h:RLies o t p hp n) (hg:∀ k,k∈cW p→bD.get k=hp.get k) (hn:n≤n'):RLies o t p bD n':=
 ⟨h.fit,h.nd,fun q hq=>⟨Nat.lt_of_lt_of_le (h.ce q hq).1 hn,(hg _ (by rw[←aCp o t p h.fit];exact List.mem_map.2 ⟨q,hq,rfl⟩)).trans (h.ce q hq).2⟩⟩
theorem RLies.mono (h:RLies o t p hp n) (ha:Ag n hp bD) (hn:n≤n'):RLies o t p bD n':=h.same (fun k hk=>ha k (h.lt k hk)) hn
theorem RLies.ob (h:RLies o t p hp n):p.a.x<n∧hp.get p.a.x=some (rO p.a.gx o t.c p.a.im p.a.gm t.ms.length p.a.ii p.a.gi p.ps.length):=
 h.ce (p.a.x,rO p.a.gx o t.c p.a.im p.a.gm t.ms.length p.a.ii p.a.gi p.ps.length) (by cases t;cases p;rw[rC];simp[Trn.c,Trn.ms,Pt.a,Pt.ps])
theorem RLies.mo (h:RLies o t p hp n):p.a.im<n∧hp.get p.a.im=some ⟨p.a.gm,false,fl (bX (t.ms.map Prod.snd))⟩:=
 h.ce (p.a.im,⟨p.a.gm,false,fl (bX (t.ms.map Prod.snd))⟩) (by cases t;cases p;rw[rC];simp[Trn.c,Trn.ms,Pt.a,Pt.ps])
theorem RLies.io (h:RLies o t p hp n):p.a.ii<n∧hp.get p.a.ii=some ⟨p.a.gi,false,p.ps.map eQ⟩:=
 h.ce (p.a.ii,⟨p.a.gi,false,p.ps.map eQ⟩) (by cases t;cases p;rw[rC];simp[Trn.c,Trn.ms,Pt.a,Pt.ps])
theorem RLies.len (h:RLies o t p hp n):t.sb.length=t.c.ins.length∧p.ps.length=t.c.ins.length:=by
 have hf:=h.fit
 cases t;cases p
 rw[Go.Ac.fit] at hf
 have:=s9 _ _ hf.2
 simp only[Trn.sb,Trn.c,Pt.ps]
 omega
theorem RLies.sub (h:RLies o t p hp n) {i:Nat} (hu:t.sb[i]?=some u):∃ q,p.ps[i]?=some q∧RLies o u q hp n:=by
 obtain ⟨c,ms,sb⟩:=t
 obtain ⟨a,ps⟩:=p
 obtain ⟨fM,mA,hce⟩:=h
 rw[Go.Ac.fit] at fM
 rw[rC] at hce
 rw[cW,List.nodup_cons,List.nodup_cons,List.nodup_cons] at mA
 have hu':sb[i]?=some u:=hu
 have hl:=s9 sb ps fM.2
 have fB:=(List.getElem?_eq_some_iff.1 hu').1
 have hip:i<ps.length:=by rw[←hl];exact fB
 have hq:ps[i]?=some ps[i]:=List.getElem?_eq_getElem hip
 exact ⟨ps[i],hq,pQ sb ps i u _ fM.2 hu' hq,aGF ps i _ mA.2.2.2 hq,fun q gQ=>hce q (List.mem_cons_of_mem _ (List.mem_cons_of_mem _ (List.mem_cons_of_mem _ ((aFH o sb ps q).2 ⟨i,u,_,hu',hq,gQ⟩))))⟩
theorem aGh:∀ (l:List Trn) (ps:List Pt) (i:Nat) (u:Trn) (q:Pt),eU l ps→fit u q→eU (l.set i u) (ps.set i q)
 | [],ps,i,u,q,h,h2=>by rw[eU] at h;subst h;simp[eU]
 | t::r,[],i,u,q,h,h2=>by rw[eU] at h;exact h.elim
 | t::r,p::ps,0,u,q,h,h2=>by rw[eU] at h;rw[List.set_cons_zero,List.set_cons_zero,eU];exact ⟨h2,h.2⟩
 | t::r,p::ps,i+1,u,q,h,h2=>by rw[eU] at h;rw[List.set_cons_succ,List.set_cons_succ,eU];exact ⟨h.1,aGh r ps i u q h.2 h2⟩
end
structure Moved (p p':Pt) (n:Nat):Prop where
 x:p'.a.x=p.a.x
 g:p'.a.gx=p.a.gx
 sub:∀ k,k∈cW p'→k∈cW p∨n≤k
theorem Moved.refl {p:Pt} {n:Nat}:Moved p p n:=⟨rfl,rfl,fun k hk=> .inl hk⟩
theorem Moved.trans {p p' p'':Pt} {n n':Nat} (h:Moved p p' n) (h2:Moved p' p'' n') (hn:n≤n'):Moved p p'' n:=
 ⟨h2.x.trans h.x,h2.g.trans h.g,fun k hk=>by
  rcases h2.sub k hk with h3|h3
  ·exact h.sub k h3
  ·exact .inr (by omega)⟩
section
variable {o:Oc} {c:Cl} {ms ms':List (Tx×Int)} {sb:List Trn} {a:Pb} {ps:List Pt} {hp bD:Hp} {n n':Nat}
theorem RLies.setM (h:RLies o (.mk c ms sb) (.mk a ps) hp n) (hl:ms'.length=ms.length) (hg:∀ id,id<n→bD.get id=if id=a.im then some ⟨a.gm,false,fl (bX (ms'.map Prod.snd))⟩ else hp.get id):RLies o (.mk c ms' sb) (.mk a ps) bD n:=by
 have mA:=h.nd
 rw[cW,List.nodup_cons,List.nodup_cons,List.nodup_cons] at mA
 have fM:=h.fit
 rw[Go.Ac.fit] at fM
 refine ⟨by rw[Go.Ac.fit];exact fM,h.nd,fun q hq=>?_⟩
 have hce:=h.ce
 rw[rC] at hq hce
 rw[hl] at hq
 simp only[List.mem_cons] at hq
 have hm:=hce (a.im,⟨a.gm,false,fl (bX (ms.map Prod.snd))⟩) (by simp)
 rcases hq with hq|hq|hq|hq
 ·obtain ⟨h1,h2⟩:=hce q (by rw[hq];simp)
  refine ⟨h1,?_⟩
  rw[hg _ h1,if_neg,h2]
  rw[hq];exact fun e=>mA.1 (by simp only at e;simp[e])
 ·rw[hq]
  exact ⟨hm.1,by rw[hg _ hm.1,if_pos rfl]⟩
 ·obtain ⟨h1,h2⟩:=hce q (by rw[hq];simp)
  refine ⟨h1,?_⟩
  rw[hg _ h1,if_neg,h2]
  rw[hq];exact fun e=>mA.2.1 (by simp only at e;simp[←e])
 ·obtain ⟨h1,h2⟩:=hce q (by simp[hq])
  refine ⟨h1,?_⟩
  rw[hg _ h1,if_neg,h2]
  intro e
  have:q.1∈dK ps:=by rw[←xC o sb ps fM.2];exact List.mem_map.2 ⟨q,hq,rfl⟩
  exact mA.2.1 (by rw[e] at this;simp[this])
theorem RLies.setS (h:RLies o (.mk c ms sb) (.mk a ps) hp n) {i:Nat} {t u:Trn} {q q':Pt} (ht:sb[i]?=some t) (hq:ps[i]?=some q) (hm:Moved q q' n) (hL:RLies o u q' bD n') (hn:n≤n') (hf:∀ k,k<n→k∉cW q→bD.get k=hp.get k):RLies o (.mk c ms (sb.set i u)) (.mk a (ps.set i q')) bD n'∧Moved (.mk a ps) (.mk a (ps.set i q')) n:=by
 have mA:=h.nd
 rw[cW,List.nodup_cons,List.nodup_cons,List.nodup_cons] at mA
 have fM:=h.fit
 rw[Go.Ac.fit] at fM
 have fB:=h.lt
 rw[cW] at fB
 have hLt:∀ k,k∈dK ps→k<n:=fun k hk=>fB k (by simp[hk])
 have hnq:∀ k,(k=a.x∨k=a.im∨k=a.ii)→k∉cW q:=fun k hk h2=>by
  have h3:=pU ps i q hq k h2
  rcases hk with rfl|rfl|rfl
  ·exact mA.1 (by simp[h3])
  ·exact mA.2.1 (by simp[h3])
  ·exact mA.2.2.1 h3
 have aFT:∀ k,k∈dK (ps.set i q')→k∈dK ps∨n≤k:=fun k hk=>by
  rcases aAs ps i q' k hk with h2|h2
  ·exact .inl h2
  ·rcases hm.sub k h2 with h3|h3
   ·exact .inl (pU ps i q hq k h3)
   ·exact .inr h3
 refine ⟨⟨by rw[Go.Ac.fit,List.length_set];exact ⟨fM.1,aGh sb ps i u q' fM.2 hL.fit⟩,?_,fun e he=>?_⟩,rfl,rfl,fun k hk=>?_⟩
 ·rw[cW,List.nodup_cons,List.nodup_cons,List.nodup_cons]
  have hx:=fB a.x (by simp)
  have hi:=fB a.im (by simp)
  have hj:=fB a.ii (by simp)
  refine ⟨?_,?_,?_,z8 ps i q q' mA.2.2.2 hLt hq hL.nd hm.sub⟩
  ·simp only[List.mem_cons,not_or] at mA ⊢
   exact ⟨mA.1.1,mA.1.2.1,fun h2=>by rcases aFT _ h2 with h3|h3;exact mA.1.2.2 h3;omega⟩
  ·simp only[List.mem_cons,not_or] at mA ⊢
   exact ⟨mA.2.1.1,fun h2=>by rcases aFT _ h2 with h3|h3;exact mA.2.1.2 h3;omega⟩
  ·exact fun h2=>by rcases aFT _ h2 with h3|h3;exact mA.2.2.1 h3;omega
 ·have hce:=h.ce
  rw[rC] at he hce
  rw[List.length_set] at he
  have hpm:(ps.set i q').map eQ=ps.map eQ:=by
   apply List.ext_getElem
   ·simp
   ·intro j h1 h2
    simp only[List.getElem_map,List.getElem_set]
    split
    ·rename_i e
     subst e
     have:=(List.getElem?_eq_some_iff.1 hq).2
     unfold eQ
     rw[hm.x,hm.g,←this]
    ·rfl
  rw[hpm] at he
  simp only[List.mem_cons] at he
  rcases he with he|he|he|he
  ·obtain ⟨h1,h2⟩:=hce e (by rw[he];simp)
   refine ⟨by omega,?_⟩
   rw[hf _ h1 (hnq _ (.inl (by rw[he])))];exact h2
  ·obtain ⟨h1,h2⟩:=hce e (by rw[he];simp)
   refine ⟨by omega,?_⟩
   rw[hf _ h1 (hnq _ (.inr (.inl (by rw[he]))))];exact h2
  ·obtain ⟨h1,h2⟩:=hce e (by rw[he];simp)
   refine ⟨by omega,?_⟩
   rw[hf _ h1 (hnq _ (.inr (.inr (by rw[he]))))];exact h2
  ·obtain ⟨j,t2,p2,h1,h2,h3⟩:=(aFH o _ _ _).1 he
   rw[List.getElem?_set] at h1 h2
   have hlq:=(List.getElem?_eq_some_iff.1 hq).1
   have aYQ:=(List.getElem?_eq_some_iff.1 ht).1
   by_cases hij:i=j
   ·subst hij
    rw[if_pos rfl,if_pos aYQ] at h1
    rw[if_pos rfl,if_pos hlq] at h2
    simp only[Option.some.injEq] at h1 h2
    subst h1;subst h2
    exact hL.ce e h3
   ·rw[if_neg hij] at h1 h2
    obtain ⟨g1,g2⟩:=hce e (by simp only[List.mem_cons];exact .inr (.inr (.inr ((aFH o sb ps e).2 ⟨j,t2,p2,h1,h2,h3⟩))))
    have hk:e.1∈cW p2:=by rw[←aCp o t2 p2 (pQ sb ps j t2 p2 fM.2 h1 h2)];exact List.mem_map.2 ⟨e,h3,rfl⟩
    refine ⟨by omega,?_⟩
    rw[hf _ g1 (aJz ps mA.2.2.2 j i p2 q h2 hq (fun e=>hij e.symm) _ hk)]
    exact g2
 ·rw[cW] at hk ⊢
  simp only[List.mem_cons] at hk ⊢
  rcases hk with hk|hk|hk|hk
  ·exact .inl (.inl hk)
  ·exact .inl (.inr (.inl hk))
  ·exact .inl (.inr (.inr (.inl hk)))
  ·rcases aFT k hk with h2|h2
   ·exact .inl (.inr (.inr (.inr h2)))
   ·exact .inr h2
end
end Go.Ac
end
section
set_option maxRecDepth 4000
namespace Go.Ac
open Go.Proofs
mutual
theorem aFh (n c:Nat):∀ p:Pt,cW (p.sh n c)=(cW p).map (·+n)
 | .mk a ps=>by rw[Pt.sh,cW,cW,aHn n c ps];rfl
theorem aHn (n c:Nat):∀ l:List Pt,dK (vR n c l)=(dK l).map (·+n)
 | []=>by rw[vR,dK];rfl
 | p::r=>by rw[vR,dK,dK,aFh n c p,aHn n c r,List.map_append]
end
theorem aLR (n c:Nat):∀ l:List D,dO n c (l.map V.d)=l.map V.d
 | []=>rfl
 | d::r=>by simp only[List.map_cons,dO,aLR n c r,cS]
theorem aPQ (n c g:Nat) (l:List (List D)):shO n c ⟨g,false,fl l⟩=⟨g+c,false,fl l⟩:=by
 unfold shO fl;simp only[aLR]
theorem aQt (n c g:Nat) (o:Oc) (k:Cl) (im gm j ii gi m:Nat):shO n c (rO g o k im gm j ii gi m)=rO (g+c) o k (im+n) (gm+c) j (ii+n) (gi+c) m:=by
 simp[shO,rO,dO,cS]
theorem aJw (n c:Nat):∀ l:List Pt,dO n c (l.map eQ)=(vR n c l).map eQ
 | []=>by rw[vR];rfl
 | p::r=>by
  rw[vR]
  simp only[List.map_cons,dO,aJw n c r]
  simp[eQ,cS,Pt.sh_a,Pb.sh]
theorem aOt (n c:Nat) (l:List Pt):(vR n c l).length=l.length:=by rw[aFc];simp
mutual
theorem aOL (o:Oc) (n c:Nat):∀ (t:Trn) (p:Pt),rC o t (p.sh n c)=(rC o t p).map fun q=>(q.1+n,shO n c q.2)
 | .mk k ms sb,.mk a ps=>by
  rw[Pt.sh,rC,rC,aOH o n c sb ps,List.map_cons,List.map_cons,List.map_cons,aQt,aPQ,aOt]
  have:shO n c ⟨a.gi,false,ps.map eQ⟩=⟨a.gi+c,false,(vR n c ps).map eQ⟩:=by unfold shO;simp only[aJw]
  rw[this];rfl
theorem aOH (o:Oc) (n c:Nat):∀ (l:List Trn) (ps:List Pt),rL o l (vR n c ps)=(rL o l ps).map fun q=>(q.1+n,shO n c q.2)
 | [],ps=>by rw[rL,rL];rfl
 | t::r,[]=>by rw[vR,rL];rfl
 | t::r,p::ps=>by rw[vR,rL,rL,aOL o n c t p,aOH o n c r ps,List.map_append]
end
theorem RLies.import {o:Oc} {t:Trn} {p:Pt} {hq hp:Hp} {m n c:Nat} (h:RLies o t p hq m):RLies o t (p.sh n c) (hp.sets (hZ n c (jZ hq.get (List.range m)))) (m+n):=by
 refine ⟨(aIk n c t p).2 h.fit,?_,fun q gQ=>?_⟩
 ·rw[aFh];exact aDW n _ h.nd
 ·rw[aOL] at gQ
  obtain ⟨x,hx,rfl⟩:=List.mem_map.1 gQ
  obtain ⟨h1,h2⟩:=h.ce x hx
  exact ⟨by simp only;omega,kI h1 h2⟩
theorem aFI (n c:Nat) (p:Pt):∀ k,k∈cW (p.sh n c)→n≤k:=by
 rw[aFh]
 intro k hk
 obtain ⟨x,_,rfl⟩:=List.mem_map.1 hk
 omega
structure RLL (o:Oc) (l:List Trn) (ps:List Pt) (lo:Nat) (hp:Hp) (n:Nat):Prop where
 fit:eU l ps
 nd:(dK ps).Nodup
 lo:∀ k,k∈dK ps→lo≤k∧k<n
 ce:∀ q,q∈rL o l ps→hp.get q.1=some q.2
theorem RLL.nil {o:Oc} {lo:Nat} {hp:Hp} {n:Nat}:RLL o [] [] lo hp n:=
 ⟨by rw[eU],by simp[dK],fun k hk=>by simp[dK] at hk,fun q hq=>by simp[rL] at hq⟩
theorem RLL.same {o:Oc} {l:List Trn} {ps:List Pt} {lo:Nat} {hp bD:Hp} {n n':Nat} (h:RLL o l ps lo hp n) (hn:n≤n') (hg:∀ k,lo≤k→k<n→bD.get k=hp.get k):RLL o l ps lo bD n':=by
 refine ⟨h.fit,h.nd,fun k hk=>⟨(h.lo k hk).1,Nat.lt_of_lt_of_le (h.lo k hk).2 hn⟩,fun q hq=>?_⟩
 have hk:q.1∈dK ps:=by rw[←xC o l ps h.fit];exact List.mem_map.2 ⟨q,hq,rfl⟩
 have:=h.lo _ hk
 rw[hg _ this.1 this.2];exact h.ce q hq
theorem aAX:∀ a b:List Pt,dK (a++b)=dK a++dK b
 | [],b=>by rw[dK];rfl
 | p::r,b=>by rw[List.cons_append,dK,dK,aAX r b,List.append_assoc]
theorem aJh (o:Oc):∀ (l:List Trn) (ps:List Pt) (t:Trn) (p:Pt),eU l ps→rL o (l++[t]) (ps++[p])=rL o l ps++rC o t p
 | [],ps,t,p,h=>by rw[eU] at h;subst h;simp[rL]
 | x::r,[],t,p,h=>by rw[eU] at h;exact h.elim
 | x::r,q::ps,t,p,h=>by rw[eU] at h;rw[List.cons_append,List.cons_append,rL,rL,aJh o r ps t p h.2,List.append_assoc]
theorem RLL.snoc {o:Oc} {l:List Trn} {ps:List Pt} {lo:Nat} {hp bD:Hp} {n n':Nat} {t:Trn} {p:Pt} (h:RLL o l ps lo hp n) (hlo:lo≤n) (hL:RLies o t p bD n') (hge:∀ k,k∈cW p→n≤k) (hn:n≤n') (hg:∀ k,lo≤k→k<n→bD.get k=hp.get k):RLL o (l++[t]) (ps++[p]) lo bD n':=by
 have h2:=h.same hn hg
 have e1:dK [p]=cW p:=by simp[dK]
 refine ⟨aBh _ _ _ _ h.fit hL.fit,?_,fun k hk=>?_,fun q hq=>?_⟩
 ·rw[aAX,e1,List.nodup_append]
  exact ⟨h.nd,hL.nd,fun x hx y hy=>by have:=(h.lo x hx).2;have:=hge y hy;omega⟩
 ·rw[aAX,e1] at hk
  rcases List.mem_append.1 hk with hk|hk
  ·exact h2.lo k hk
  ·have:=hge k hk;exact ⟨by omega,hL.lt k hk⟩
 ·rw[aJh o _ _ _ _ h.fit] at hq
  rcases List.mem_append.1 hq with hq|hq
  ·exact h2.ce q hq
  ·exact (hL.ce q hq).2
theorem RLL.lies {o:Oc} {c:Cl} {ms:List (Tx×Int)} {l:List Trn} {a:Pb} {ps:List Pt} {lo:Nat} {hp:Hp} {n:Nat} (h:RLL o l ps lo hp n) (hl:l.length=c.ins.length) (h1:a.x<n) (h2:a.im<n) (h3:a.ii<n) (k1:a.x∉dK ps) (k2:a.im∉dK ps) (k3:a.ii∉dK ps) (d1:a.x≠a.im) (d2:a.x≠a.ii) (d3:a.im≠a.ii)
  (hx:hp.get a.x=some (rO a.gx o c a.im a.gm ms.length a.ii a.gi ps.length)) (hm:hp.get a.im=some ⟨a.gm,false,fl (bX (ms.map Prod.snd))⟩) (hi:hp.get a.ii=some ⟨a.gi,false,ps.map eQ⟩):RLies o (.mk c ms l) (.mk a ps) hp n:=by
 refine ⟨by rw[Go.Ac.fit];exact ⟨hl,h.fit⟩,?_,fun q hq=>?_⟩
 ·rw[cW,List.nodup_cons,List.nodup_cons,List.nodup_cons]
  exact ⟨by simp[d1,d2,k1],by simp[d3,k2],k3,h.nd⟩
 ·rw[rC] at hq
  simp only[List.mem_cons] at hq
  rcases hq with hq|hq|hq|hq
  ·subst hq;exact ⟨h1,hx⟩
  ·subst hq;exact ⟨h2,hm⟩
  ·subst hq;exact ⟨h3,hi⟩
  ·have hk:q.1∈dK ps:=by rw[←xC o l ps h.fit];exact List.mem_map.2 ⟨q,hq,rfl⟩
   exact ⟨(h.lo _ hk).2,h.ce q hq⟩
end Go.Ac
end
