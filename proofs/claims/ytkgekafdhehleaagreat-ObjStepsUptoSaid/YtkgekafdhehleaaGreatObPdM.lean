/- Places of the program. -/
import Derived.Test.YtkgekafdhehleaaGreatObMzM
set_option linter.unusedVariables false
set_option linter.unusedSimpArgs false
section
set_option maxRecDepth 4000
namespace Go.Ac
open Go.Proofs
def oR (u:En):Bool:=decide (u.tags.length=0)||decide (16<u.tags.length)
def mO (o:Oc) (i:Nat) (c:Cl):Int:=
 if yW o i c≠0 then yW o i c
 else if fR o c [] [] c.step≠0 then fR o c [] [] c.step
 else if c.out.any (fun d=> !u6 d.nm true [] c.step)=true then 22 else 0
def aBO (o:Oc):Nat→List Cl→Int
 | _,[]=>0
 | i,c::r=>if mO o i c≠0 then mO o i c else aBO o (i+1) r
def dE (o:Oc):Int:=if 24<o.en.length then 5 else if o.en.any oR=true then 5 else aBO o 0 o.cl
theorem u9.zero:u9 0:=by unfold u9;omega
theorem aAN {l:List Dc} (h:∀ d,d∈l→d.ok) (x:Tx):u9 (fG l x):=by
 unfold fG
 split
 ·rename_i d hd;exact (h d (List.mem_of_find?_eq_some hd)).1
 ·exact u9.zero
theorem aGK {c:Cl} (h:c.ok) (x:Tx):u9 (cZ c x):=by
 unfold cZ j1
 split
 ·split
  ·exact aAN h.loc x
  ·exact aAN h.out x
 ·exact aAN h.inn x
theorem aXV (r:Nat):Ob.keep 12 r=Ob.k12 r:=by kernel_rfl
attribute [local simp] aXV Ob.k12
set_option maxHeartbeats 8000000 in
theorem yL (o:Oc) (gB:o.sz≤2097152) (cE:o.ok):d7 Tryz.prog Ob.cfg 12 [aG o.cells]=some (dI (dE o)):=by
 unfold Oc.sz at gB
 have k1:=aCg o.en
 have k2:=lI o.cl
 refine bF Tryz.func12 rfl (by kernel_rfl) rfl rfl ?_
 unfold dE
 by_cases c1:24<o.en.length
 ·rw[if_pos c1]
  have c1':((24:Int)<o.en.length)=True:=eq_true (by omega)
  have c1'':=eq_true c1
  refine a9 (j6 @aD @aL @aB @aA @c1' @c1'') ?_
  show a7 _ _ _ _ _
  exact ⟨.inr rfl,_,_,rfl,rfl⟩
 rw[if_neg c1]
 have c1':((24:Int)<o.en.length)=False:=eq_false (by omega)
 have c1'':=eq_false c1
 refine a9 (j6 @aD @aL @aB @aA @c1' @c1'') ?_
 apply WP.loop' (I:=fun D s=>∃ k:Nat,k+D=o.en.length∧(o.en.take k).all (fun u=> !oR u)=true∧SE [(1,.ptr 0 0 0),(3,dI k)] [(0,⟨0,false,o.cells.map .d⟩)] 1 s) (d:=o.en.length)
 ·exact ⟨0,by simp,by simp,SE.mk (by simp[dI]) (by simp[Oc.cells])⟩
 rintro D _ ⟨k,hk,cD,cc,rfl⟩
 refine wk (j3 @aB @aA @aL) ?_
 show WP _ _ _ _ _ _
 refine WP.cond _ rfl (fun hb=>?_) (fun hb=>?_)
 ·simp at hb
  have bR:k<o.en.length:=by omega
  obtain ⟨d,hd,d9,bS⟩:=bL bR
  have cF:=xH hd
  have tQ:=bG bR (by omega)
  have hs:=bZ (p:=fun u=> !oR u) hd
  by_cases e1:d.tags=[]
  ·rw[if_pos (List.any_eq_true.2 ⟨d,d9,by simp[oR,e1]⟩)]
   refine a9 (j9 @aB @aA @aL @bS @cF @En.cells.eq_1 @aW @bH @e1) ?_
   show a7 _ _ _ _ _
   exact ⟨.inr rfl,_,_,rfl,rfl⟩
  by_cases e2:16<d.tags.length
  ·have e2':((16:Int)<d.tags.length)=True:=eq_true (by omega)
   have e2'':=eq_true e2
   rw[if_pos (List.any_eq_true.2 ⟨d,d9,by simp[oR,e2]⟩)]
   refine a9 (tS @aB @aA @aL @bS @cF @En.cells.eq_1 @aW @bH @aS @e1 @e2' @e2'') ?_
   show a7 _ _ _ _ _
   exact ⟨.inr rfl,_,_,rfl,rfl⟩
  ·have e2':((16:Int)<d.tags.length)=False:=eq_false (by omega)
   have e2'':=eq_false e2
   have oE:oR d=false:=by unfold oR;rw[gY e2];simpa using e1
   rw[oE] at hs
   refine a9 (tS @aB @aA @aL @bS @cF @En.cells.eq_1 @aW @bH @aS @e1 @e2' @e2'') ?_
   refine aY (by simp[tQ];exact Is.rfl) ?_
   exact ⟨D - 1,by omega,k+1,by omega,by rw[hs,cD];rfl,SE.mk (by simp[dI,dL,tQ]) (by simp[Oc.cells])⟩
 simp at hb
 have tU:k=o.en.length:=by omega
 rw[tU,List.take_length] at cD
 rw[if_neg (by rw[tX (p:=oR) cD];simp)]
 clear cD tU hb hk
 refine a9 (j3 @aB @aA @aL) ?_
 apply WP.loop' (I:=fun D s=>∃ k:Nat,k+D=o.cl.length∧aBO o k (o.cl.drop k)=aBO o 0 o.cl∧SE [(1,.ptr 0 0 0),(4,dI k)] [(0,⟨0,false,o.cells.map .d⟩)] 1 s) (d:=o.cl.length)
 ·exact ⟨0,by simp,by simp,SE.mk (by simp[dI]) (by simp[Oc.cells])⟩
 rintro D _ ⟨k,hk,hv,cc,rfl⟩
 refine wk (j3 @aB @aA @aL) ?_
 show WP _ _ _ _ _ _
 refine WP.cond _ rfl (fun hb=>?_) (fun hb=>?_)
 ·simp at hb
  have bR:k<o.cl.length:=by omega
  obtain ⟨c,hc,hcm,bS⟩:=bL bR
  have hc':=kU hc
  have tQ:=bG bR (by omega)
  have rN:=pS hcm
  unfold Cl.sz at rN
  have l1:=kT c.inn
  have l2:=kT c.out
  have l3:=kT c.loc
  have l4:=uE c.mems
  have l5:=sG c.ins
  have aDM:=cE c hcm
  have h31:=aPn o k c hc (by omega) ⟨by omega⟩ aDM
  have hW:WOK ⟨o,c,[],[]⟩:=⟨by simp only;unfold MX;omega,by simp only;unfold MX;omega,by simp only;unfold MX;omega,by simp only;unfold MX;omega,by simp only;unfold MX;omega,by simp only;unfold MX;omega,by simp[hH]⟩
  have h32:=aPU _ ⟨o,c,[],[]⟩ c.step (Nat.lt_succ_self _) hW (fun nm=>aGK aDM nm) (by simp[hH];omega) aDM.step
  have e0:dJ []=[]:=by rw[dJ]
  have e1:iB []=[]:=rfl
  simp only[aG,Oc.cells,Pl.cells,List.map_cons,List.map_nil,dI,dL,e0,e1] at h31 h32
  rw[g8 hc,aBO] at hv
  by_cases c2:yW o k c=0
  case neg=>
   have c2':=eq_false c2
   have hcw:mO o k c=yW o k c:=by unfold mO;rw[if_pos c2]
   rw[hcw,if_pos c2] at hv
   rw[←hv]
   refine a9 (j6 @aB @aA @aL @h31 @c2' @aV) ?_
   show a7 _ _ _ _ _
   exact ⟨.inr rfl,_,_,rfl,rfl⟩
  rw[c2] at h31
  by_cases c3:fR o c [] [] c.step=0
  case neg=>
   have c3':=eq_false c3
   have hcw:mO o k c=fR o c [] [] c.step:=by unfold mO;rw[if_neg (by simp[c2]),if_pos c3]
   rw[hcw,if_pos c3] at hv
   rw[←hv]
   refine a9 (mX @aB @aA @aL @h31 @bS @hc' @aJ @aH @aI @aQ @aR @b8 @oK @h32 @c3' @aV) ?_
   show a7 _ _ _ _ _
   exact ⟨.inr rfl,_,_,rfl,rfl⟩
  rw[c3] at h32
  have hcw:mO o k c=if c.out.any (fun d=> !u6 d.nm true [] c.step)=true then 22 else 0:=by unfold mO;rw[if_neg (by simp[c2]),if_neg (by simp[c3])]
  refine a9 (uV @aB @aA @aL @h31 @bS @hc' @aJ @aH @aI @aQ @aR @b8 @oK @h32 @aV) ?_
  apply WP.loop' (I:=fun D s=>∃ q:Nat,q+D=c.out.length∧(c.out.take q).all (fun d=> !(!u6 d.nm true [] c.step))=true∧SE [(1,.ptr 0 0 0),(4,dI k),(6,.ptr 1 cc 0),(8,dI q)] [(0,⟨0,false,o.cells.map .d⟩),(1,⟨cc,false,c.cells.map .d⟩),(2,⟨cc+1,false,o.cells.map .d++c.cells.map .d++[.full [],.full []]⟩)] 3 s) (d:=c.out.length)
  ·exact ⟨0,by simp,by simp,SE.mk (by simp[dI]) (by simp[Oc.cells,Cl.cells])⟩
  rintro D2 _ ⟨q,hq,cD,cc2,rfl⟩
  refine wk (j4 @aB @aA @aL @aJ) ?_
  show WP _ _ _ _ _ _
  refine WP.cond _ rfl (fun hb=>?_) (fun hb=>?_)
  ·simp at hb
   have bR:q<c.out.length:=by omega
   obtain ⟨d,hd,d9,aNb⟩:=bL bR
   have cF:=d6 hd
   have hwq:=bG bR (by omega)
   have hs:=bZ (p:=fun d:Dc=> !(!u6 d.nm true [] c.step)) hd
   have h33:=aOg d.nm true c.step (by omega)
   simp only[dI,dL,dS,dB,e1] at h33
   cases hz:u6 d.nm true [] c.step with
   | false=>
    rw[hz] at h33
    rw[if_pos (List.any_eq_true.2 ⟨d,d9,by rw[hz];rfl⟩)] at hcw
    rw[hcw,if_pos (by decide)] at hv
    rw[←hv]
    refine a9 (uN @aB @aA @aL @aJ @aNb @cF @aP @h33 @aH @aI @aQ @aR @b8 @oK) ?_
    show a7 _ _ _ _ _
    exact ⟨.inr rfl,_,_,rfl,rfl⟩
   | true=>
    rw[hz] at h33 hs
    refine a9 (uN @aB @aA @aL @aJ @aNb @cF @aP @h33 @aH @aI @aQ @aR @b8 @oK) ?_
    refine aY (by simp[hwq];exact Is.rfl) ?_
    exact ⟨D2 - 1,by omega,q+1,by omega,by rw[hs,cD];rfl,SE.mk (by simp[dI,dL,hwq]) (by simp[Oc.cells,Cl.cells])⟩
  simp at hb
  have hqe:q=c.out.length:=by omega
  rw[hqe,List.take_length] at cD
  rw[if_neg (by rw[tX (p:=fun d:Dc=> !u6 d.nm true [] c.step) cD];simp)] at hcw
  rw[hcw,if_neg (by decide)] at hv
  refine a9 (j4 @aB @aA @aL @aJ) ?_
  refine aY (by simp[tQ];exact Is.rfl) ?_
  exact ⟨D - 1,by omega,k+1,by omega,hv,SE.mk (by simp[dI,dL,tQ]) (by simp[Oc.cells])⟩
 simp at hb
 have tU:k=o.cl.length:=by omega
 rw[tU,List.drop_length,aBO] at hv
 rw[←hv]
 refine a9 (j3 @aB @aA @aL) ?_
 show a7 _ _ _ _ _
 exact ⟨.inr rfl,_,_,rfl,rfl⟩
end Go.Ac
end
section
set_option maxRecDepth 4000
namespace Go.Ac
open Go.Proofs
def Ag (n:Nat) (hp bD:Hp):Prop:=∀ id,id<n→bD.get id=hp.get id
theorem Ag.refl (n:Nat) (hp:Hp):Ag n hp hp:=fun _ _=>rfl
theorem Ag.trunc {n:Nat} {hp bD:Hp} (h:Ag n hp bD):Ag n hp (Hp.trunc n bD):=fun id hi=>(Hp.get_trunc bD n id hi).trans (h id hi)
theorem Ag.set {n:Nat} {hp bD:Hp} {o:Ob} (h:Ag n hp bD):Ag n hp (bD.set n o):=fun id hi=>(Hp.get_set_ne bD n id o (by omega)).trans (h id hi)
def SQ (e:nZ) (hp:Hp) (n n0:Nat) (s:St):Prop:=∃ bD c,Ag n hp bD∧s=⟨e,bD,n,c,n0,[]⟩
def ixP {α:Type} (p:α→Bool) (l:List α):Int:=match l.findIdx? p with|some i=>(i:Int)|none=> -1
theorem kF {α:Type} {p:α→Bool}:∀ {l:List α} {i:Nat} {v:α},(l.take i).all (fun v=> !p v)=true→l[i]?=some v→p v=true→ixP p l=i:=by
 intro l i v h hi hv
 have:l.findIdx? p=some i:=by
  obtain ⟨xX,hiv⟩:=List.getElem?_eq_some_iff.1 hi
  rw[List.findIdx?_eq_some_iff_getElem]
  refine ⟨xX,by rw[hiv];exact hv,fun j hj=>?_⟩
  have hj':j<l.length:=by omega
  have hm:l[j]∈l.take i:=by rw[List.mem_take_iff_getElem];exact ⟨j,by omega,rfl⟩
  have:=List.all_eq_true.1 h _ hm
  simpa using this
 unfold ixP;rw[this]
theorem kG {α:Type} {p:α→Bool} {l:List α} (h:l.all (fun v=> !p v)=true):ixP p l= -1:=by
 have h':∀ x,x∈l→p x=false:=fun x hx=>by simpa using List.all_eq_true.1 h x hx
 unfold ixP;rw[List.findIdx?_eq_none_iff.2 h']
theorem wV {α:Type} (p:α→Bool) (l:List α):decide (0≤ixP p l)=l.any p:=by
 unfold ixP
 cases h:l.findIdx? p with
 | some i=>
  have:l.any p=true:=by
   obtain ⟨xX,hp,_⟩:=List.findIdx?_eq_some_iff_getElem.1 h
   exact List.any_eq_true.2 ⟨l[i],List.getElem_mem xX,hp⟩
  rw[this];simp
 | none=>
  have:l.any p=false:=by
   rw[List.any_eq_false];intro x hx;rw[List.findIdx?_eq_none_iff.1 h x hx];simp
  rw[this];simp
mutual
def nbY:Y→Bool
 | .mk k _ _ _ _ _ brs=>(!decide (k=3)||decide (brs≠[]))&&nbB brs
def nbL:List Y→Bool
 | []=>true
 | y::r=>nbY y&&nbL r
def nbB:List (List Y)→Bool
 | []=>true
 | b::r=>nbL b&&nbB r
end
theorem aLK (y:Y):nbY y=((!decide (y.k=3)||decide (y.brs≠[]))&&nbB y.brs):=by cases y;rw[nbY];rfl
theorem xG:∀ l:List Y,nbL l=l.all nbY
 | []=>by rw[nbL];rfl
 | x::r=>by rw[nbL,xG r];rfl
theorem aAh:∀ l:List (List Y),nbB l=l.all nbL
 | []=>by rw[nbB];rfl
 | x::r=>by rw[nbB,aAh r];rfl
theorem aRD (r:Nat):Ob.keep 156 r=Ob.k156 r:=by kernel_rfl
theorem aTO (r:Nat):Ob.keep 139 r=Ob.k139 r:=by kernel_rfl
attribute [local simp] aRD Ob.k156 aTO Ob.k139
theorem aLj {i1 g1 i2 g2 i3 g3:Nat} {p:Y→Bool} (l:List (Y)) (hl:l.length≤MX) (hp:Hp) (n:Nat) (hq:∀ v,v∈l→∀ bD c,Ag n hp bD→eF Tryz.prog Ob.cfg 140 [aG v.cells,.ptr i1 g1 0,.ptr i2 g2 0,.ptr i3 g3 0] bD n c (.bool (p v))) (c:Nat):
  eF Tryz.prog Ob.cfg 156 [dL (dJ l),.fn 140 [.ptr i1 g1 0,.ptr i2 g2 0,.ptr i3 g3 0]] hp n c (.int .i64 (ixP p l)):=by
 unfold MX at hl
 refine fT Tryz.func156 rfl (by kernel_rfl) rfl ?_
 refine mF (j4 @aN @aO @aA @cQ) ?_
 apply WP.loop' (I:=fun d s=>∃ i:Nat,i+d=l.length∧(l.take i).all (fun v=> !p v)=true∧SQ [(0,dL (dJ l)),(1,.fn 140 [.ptr i1 g1 0,.ptr i2 g2 0,.ptr i3 g3 0]),(7,dI l.length),(8,dI i)] hp n n s) (d:=l.length)
 ·exact ⟨0,by simp,by simp,_,_,Ag.refl n hp,bK (by simp[dL,dI]) rfl⟩
 rintro d _ ⟨i,hii,cD,bD,c1,d8,rfl⟩
 refine mF (jn @aB @aA) ?_
 show WP _ _ _ _ _ _
 refine WP.cond _ rfl (fun hb=>?_) (fun hb=>?_)
 ·simp at hb
  have bR:i<l.length:=hb
  obtain ⟨v,hv,hvm,bS⟩:=bL bR
  have hv':=oA hv
  have hw:=bG bR (by omega)
  have pC:=bZ (p:=fun v=> !p v) hv
  obtain ⟨h5,h6,h4⟩:=eF.fn (fun c=>hq v hvm bD c d8)
  simp only[aG,dL,dI,aC,List.map_cons,List.map_nil] at h4
  refine mF (j6 @bS @hv' @aA @aB @aC @h4) ?_
  show WP _ _ _ _ _ _
  refine WP.cond _ rfl (fun hb=>?_) (fun hb=>?_)
  ·refine mF True.intro ?_
   rw[kF cD hv hb]
   exact ⟨.inr rfl,rfl,_,rfl,rfl⟩
  ·refine mF True.intro ?_
   refine aY (by simp[hw];exact Is.rfl) ?_
   exact ⟨d - 1,by omega,i+1,by omega,by rw[pC,cD];simpa using hb,_,_,d8.trunc,bK (by simp[dI,dL,hw]) rfl⟩
 ·simp at hb
  have xX:i=l.length:=by omega
  subst xX
  rw[List.take_length] at cD
  refine mF True.intro ?_
  rw[kG cD]
  exact ⟨.inr rfl,rfl,_,rfl,rfl⟩
theorem aFX {i1 g1 i2 g2 i3 g3:Nat} {p:Y→Bool} (l:List (Y)) (hl:l.length≤MX) (hp:Hp) (n:Nat) (hq:∀ v,v∈l→∀ bD c,Ag n hp bD→eF Tryz.prog Ob.cfg 140 [aG v.cells,.ptr i1 g1 0,.ptr i2 g2 0,.ptr i3 g3 0] bD n c (.bool (p v))) (c:Nat):
  eF Tryz.prog Ob.cfg 139 [dL (dJ l),.fn 140 [.ptr i1 g1 0,.ptr i2 g2 0,.ptr i3 g3 0]] hp n c (.bool (l.any p)):=by
 obtain ⟨h5,h6,h4⟩:=eF.fn (fun c=>aLj (p:=p) l hl hp n hq c)
 simp only[dL] at h4
 rw[←wV]
 refine fT Tryz.func139 rfl (by kernel_rfl) rfl ?_
 refine mF (j4 @aN @aO @aA @h4) ?_
 exact ⟨.inr rfl,rfl,_,rfl,rfl⟩
theorem aSE (r:Nat):Ob.keep 138 r=Ob.k138 r:=by kernel_rfl
theorem aUe (r:Nat):Ob.keep 111 r=Ob.k111 r:=by kernel_rfl
attribute [local simp] aSE Ob.k138 aUe Ob.k111
theorem aMm {i1 g1 i2 g2 i3 g3:Nat} {p:List Y→Bool} (l:List (List Y)) (hl:l.length≤MX) (hp:Hp) (n:Nat) (hq:∀ v,v∈l→∀ bD c,Ag n hp bD→eF Tryz.prog Ob.cfg 112 [dL (dJ v),.ptr i1 g1 0,.ptr i2 g2 0,.ptr i3 g3 0] bD n c (.bool (p v))) (c:Nat):
  eF Tryz.prog Ob.cfg 138 [dL (iA l),.fn 112 [.ptr i1 g1 0,.ptr i2 g2 0,.ptr i3 g3 0]] hp n c (.int .i64 (ixP p l)):=by
 unfold MX at hl
 refine fT Tryz.func138 rfl (by kernel_rfl) rfl ?_
 refine mF (j4 @aN @aO @aA @aX) ?_
 apply WP.loop' (I:=fun d s=>∃ i:Nat,i+d=l.length∧(l.take i).all (fun v=> !p v)=true∧SQ [(0,dL (iA l)),(1,.fn 112 [.ptr i1 g1 0,.ptr i2 g2 0,.ptr i3 g3 0]),(7,dI l.length),(8,dI i)] hp n n s) (d:=l.length)
 ·exact ⟨0,by simp,by simp,_,_,Ag.refl n hp,bK (by simp[dL,dI]) rfl⟩
 rintro d _ ⟨i,hii,cD,bD,c1,d8,rfl⟩
 refine mF (jn @aB @aA) ?_
 show WP _ _ _ _ _ _
 refine WP.cond _ rfl (fun hb=>?_) (fun hb=>?_)
 ·simp at hb
  have bR:i<l.length:=hb
  obtain ⟨v,hv,hvm,bS⟩:=bL bR
  have hv':=lH hv
  have hw:=bG bR (by omega)
  have pC:=bZ (p:=fun v=> !p v) hv
  obtain ⟨h5,h6,h4⟩:=eF.fn (fun c=>hq v hvm bD c d8)
  simp only[aG,dL,dI,List.map_cons,List.map_nil] at h4
  refine mF (j5 @bS @hv' @aA @aB @h4) ?_
  show WP _ _ _ _ _ _
  refine WP.cond _ rfl (fun hb=>?_) (fun hb=>?_)
  ·refine mF True.intro ?_
   rw[kF cD hv hb]
   exact ⟨.inr rfl,rfl,_,rfl,rfl⟩
  ·refine mF True.intro ?_
   refine aY (by simp[hw];exact Is.rfl) ?_
   exact ⟨d - 1,by omega,i+1,by omega,by rw[pC,cD];simpa using hb,_,_,d8.trunc,bK (by simp[dI,dL,hw]) rfl⟩
 ·simp at hb
  have xX:i=l.length:=by omega
  subst xX
  rw[List.take_length] at cD
  refine mF True.intro ?_
  rw[kG cD]
  exact ⟨.inr rfl,rfl,_,rfl,rfl⟩
theorem aGf {i1 g1 i2 g2 i3 g3:Nat} {p:List Y→Bool} (l:List (List Y)) (hl:l.length≤MX) (hp:Hp) (n:Nat) (hq:∀ v,v∈l→∀ bD c,Ag n hp bD→eF Tryz.prog Ob.cfg 112 [dL (dJ v),.ptr i1 g1 0,.ptr i2 g2 0,.ptr i3 g3 0] bD n c (.bool (p v))) (c:Nat):
  eF Tryz.prog Ob.cfg 111 [dL (iA l),.fn 112 [.ptr i1 g1 0,.ptr i2 g2 0,.ptr i3 g3 0]] hp n c (.bool (l.any p)):=by
 obtain ⟨h5,h6,h4⟩:=eF.fn (fun c=>aMm (p:=p) l hl hp n hq c)
 simp only[dL] at h4
 rw[←wV]
 refine fT Tryz.func111 rfl (by kernel_rfl) rfl ?_
 refine mF (j4 @aN @aO @aA @h4) ?_
 exact ⟨.inr rfl,rfl,_,rfl,rfl⟩
theorem aUo (r:Nat):Ob.keep 157 r=Ob.k157 r:=by kernel_rfl
attribute [local simp] aUo Ob.k157
theorem aMo {i1 g1:Nat} {p:Pr→Bool} (l:List (Pr)) (hl:l.length≤MX) (hp:Hp) (n:Nat) (hq:∀ v,v∈l→∀ bD c,Ag n hp bD→eF Tryz.prog Ob.cfg 158 [aG v.cells,.ptr i1 g1 0] bD n c (.bool (p v))) (c:Nat):
  eF Tryz.prog Ob.cfg 157 [dL (iB l),.fn 158 [.ptr i1 g1 0]] hp n c (.int .i64 (ixP p l)):=by
 unfold MX at hl
 refine fT Tryz.func157 rfl (by kernel_rfl) rfl ?_
 refine mF (j4 @aN @aO @aA @lE) ?_
 apply WP.loop' (I:=fun d s=>∃ i:Nat,i+d=l.length∧(l.take i).all (fun v=> !p v)=true∧SQ [(0,dL (iB l)),(1,.fn 158 [.ptr i1 g1 0]),(7,dI l.length),(8,dI i)] hp n n s) (d:=l.length)
 ·exact ⟨0,by simp,by simp,_,_,Ag.refl n hp,bK (by simp[dL,dI]) rfl⟩
 rintro d _ ⟨i,hii,cD,bD,c1,d8,rfl⟩
 refine mF (jn @aB @aA) ?_
 show WP _ _ _ _ _ _
 refine WP.cond _ rfl (fun hb=>?_) (fun hb=>?_)
 ·simp at hb
  have bR:i<l.length:=hb
  obtain ⟨v,hv,hvm,bS⟩:=bL bR
  have hv':=aFa hv
  have hw:=bG bR (by omega)
  have pC:=bZ (p:=fun v=> !p v) hv
  obtain ⟨h5,h6,h4⟩:=eF.fn (fun c=>hq v hvm bD c d8)
  simp only[aG,dL,dI,Pr.cells,List.map_cons,List.map_nil] at h4
  refine mF (j6 @bS @hv' @aA @aB @Pr.cells.eq_1 @h4) ?_
  show WP _ _ _ _ _ _
  refine WP.cond _ rfl (fun hb=>?_) (fun hb=>?_)
  ·refine mF True.intro ?_
   rw[kF cD hv hb]
   exact ⟨.inr rfl,rfl,_,rfl,rfl⟩
  ·refine mF True.intro ?_
   refine aY (by simp[hw];exact Is.rfl) ?_
   exact ⟨d - 1,by omega,i+1,by omega,by rw[pC,cD];simpa using hb,_,_,d8.trunc,bK (by simp[dI,dL,hw]) rfl⟩
 ·simp at hb
  have xX:i=l.length:=by omega
  subst xX
  rw[List.take_length] at cD
  refine mF True.intro ?_
  rw[kG cD]
  exact ⟨.inr rfl,rfl,_,rfl,rfl⟩
end Go.Ac
end
section
set_option maxRecDepth 4000
namespace Go.Ac
open Go.Proofs
theorem aRB (r:Nat):Ob.keep 140 r=Ob.k140 r:=by kernel_rfl
theorem aSn (r:Nat):Ob.keep 113 r=Ob.k113 r:=by kernel_rfl
theorem aUr (r:Nat):Ob.keep 158 r=Ob.k158 r:=by kernel_rfl
attribute [local simp] aRB Ob.k140 aSn Ob.k113 aUr Ob.k158
theorem aNO {nm:Tx} {cx:List Pr} {can b:Bool} {y:Y} (h:d7 Tryz.prog Ob.cfg 141 [aG y.cells,dS nm,dL (iB cx),dB can]=some (dB b)) {i1 g1 i2 g2 i3 g3:Nat} (hp:Hp) (n c:Nat)
  (h1:hp.get i1=some ⟨g1,false,[dS nm]⟩) (h2:hp.get i2=some ⟨g2,false,[dL (iB cx)]⟩) (h3:hp.get i3=some ⟨g3,false,[dB can]⟩) (l1:i1<n) (l2:i2<n) (l3:i3<n):
  eF Tryz.prog Ob.cfg 140 [aG y.cells,.ptr i1 g1 0,.ptr i2 g2 0,.ptr i3 g3 0] hp n c (.bool b):=by
 have e1:∀ o,(hp.set n o).get i1=some ⟨g1,false,[dS nm]⟩:=fun o=>(Hp.get_set_ne hp n i1 o (by omega)).trans h1
 have e2:∀ o,(hp.set n o).get i2=some ⟨g2,false,[dL (iB cx)]⟩:=fun o=>(Hp.get_set_ne hp n i2 o (by omega)).trans h2
 have e3:∀ o,(hp.set n o).get i3=some ⟨g3,false,[dB can]⟩:=fun o=>(Hp.get_set_ne hp n i3 o (by omega)).trans h3
 have e0:∀ o,(hp.set n o).get n=some o:=fun o=>Hp.get_set_self ..
 simp only[aG,aC,List.map_cons,List.map_nil,dL,dS,dB] at h e1 e2 e3
 refine fT Tryz.func140 rfl (by kernel_rfl) rfl ?_
 refine mF (tS @aN @aO @aD @aC @aA @aM @aF @e0 @e1 @e2 @e3 @h) ?_
 exact ⟨.inr rfl,rfl,_,rfl,rfl⟩
theorem aNV {nm:Tx} {rest:List V} {x:Pr} {i1 g1:Nat} {k:V} (hp:Hp) (n c:Nat) (h1:hp.get i1=some ⟨g1,false,k::dS nm::rest⟩) (l1:i1<n):
  eF Tryz.prog Ob.cfg 158 [aG x.cells,.ptr i1 g1 0] hp n c (.bool (decide (x.nm=nm))):=by
 have e1:∀ o,(hp.set n o).get i1=some ⟨g1,false,k::dS nm::rest⟩:=fun o=>(Hp.get_set_ne hp n i1 o (by omega)).trans h1
 have e0:∀ o,(hp.set n o).get n=some o:=fun o=>Hp.get_set_self ..
 simp only[dS] at e1
 refine fT Tryz.func158 rfl (by kernel_rfl) rfl ?_
 refine mF (j8 @aN @aO @aD @Pr.cells.eq_1 @aM @e0 @e1 @bE) ?_
 exact ⟨.inr rfl,rfl,_,rfl,rfl⟩
def aJs (nm:Tx) (can:Bool) (N:Nat):Prop:=∀ (l:List Y) (cx:List Pr),hH l<N→nbL l=true→cx.length+hH l≤8388608→d7 Tryz.prog Ob.cfg 113 [dL (dJ l),dS nm,dL (iB cx),dB can]=some (dB (u6 nm (!can) cx l))
theorem aOk {nm:Tx} {can:Bool} {cx:List Pr} (l:List Y) (hl:l.length≤MX) (h:∀ y,y∈l→d7 Tryz.prog Ob.cfg 141 [aG y.cells,dS nm,dL (iB cx),dB can]=some (dB (asY nm (!can) cx y))):
  d7 Tryz.prog Ob.cfg 113 [dL (dJ l),dS nm,dL (iB cx),dB can]=some (dB (u6 nm (!can) cx l)):=by
 have hQ:=fun c=>aFX (i1:=0) (g1:=0) (i2:=1) (g2:=1) (i3:=2) (g3:=2) (p:=asY nm (!can) cx) l hl [(0,⟨0,false,[dS nm]⟩),(1,⟨1,false,[dL (iB cx)]⟩),(2,⟨2,false,[dB can]⟩)] 3
  (fun v hv bD c d8=>aNO (h v hv) bD 3 c ((d8 0 (by omega)).trans rfl) ((d8 1 (by omega)).trans rfl) ((d8 2 (by omega)).trans rfl) (by omega) (by omega) (by omega)) c
 obtain ⟨h5,h6,h4⟩:=eF.fn hQ
 simp only[dL,dS,dB] at h4
 rw[zS]
 refine bF Tryz.func113 rfl (by kernel_rfl) rfl rfl ?_
 refine mF (j4 @aA @aM @aF @h4) ?_
 show a7 _ _ _ _ _
 exact ⟨.inr rfl,_,_,rfl,rfl⟩
end Go.Ac
end
section
set_option maxRecDepth 4000
namespace Go.Ac
open Go.Proofs
theorem aTG (r:Nat):Ob.keep 155 r=Ob.k155 r:=by kernel_rfl
theorem aTD (r:Nat):Ob.keep 175 r=Ob.k175 r:=by kernel_rfl
theorem aTu (r:Nat):Ob.keep 141 r=Ob.k141 r:=by kernel_rfl
attribute [local simp] aTG Ob.k155 aTD Ob.k175 aTu Ob.k141
theorem vO {α:Type} (p:α→Bool):∀ l:List α,(∃ (i:Nat) (v:α),l[i]?=some v∧(l.take i).all (fun a=> !p a)=true∧p v=true)∨l.all (fun a=> !p a)=true
 | []=> .inr rfl
 | a::r=>by
  cases h:p a with
  | true=>exact .inl ⟨0,a,rfl,rfl,h⟩
  | false=>
   rcases vO p r with ⟨i,v,h1,h2,h3⟩|h1
   ·exact .inl ⟨i+1,v,by simpa using h1,by simp[h,h2],h3⟩
   ·exact .inr (by simp only[List.all_cons,h,h1];rfl)
theorem aJj (x:Tx) (all:Bool) (cx:List Pr) (nm:Tx):∀ (a b:List (List Y)) (k:Nat),xL x all cx nm k (a++b)=xL x all cx nm k a+xL x all cx nm (k+a.length) b
 | [],b,k=>by simp[xL]
 | c::r,b,k=>by
  rw[List.cons_append,xL,xL,aJj x all cx nm r b (k+1),List.length_cons,show k+1+r.length=k+(r.length+1) by omega];omega
theorem aNx (x:Tx) (all:Bool) (cx:List Pr) (nm:Tx) (l:List (List Y)) (j:Nat):xL x all cx nm 0 (l.take j)≤xL x all cx nm 0 l∧xL x all cx nm 0 l≤xL x all cx nm 0 (l.take j)+(l.length - j):=by
 have h:=aJj x all cx nm (l.take j) (l.drop j) 0
 rw[List.take_append_drop] at h
 have h2:=zV x all cx nm (l.drop j) (0+(l.take j).length)
 rw[List.length_drop] at h2
 omega
set_option maxHeartbeats 1000000 in
theorem aMg (l:List Tx) (x:Tx) (hl:l.length≤MX):d7 Tryz.prog Ob.cfg 175 [dL (eT l),dS x]=some (dI (ixP (fun v=>decide (x=v)) l)):=by
 unfold MX at hl
 refine bF Tryz.func175 rfl (by kernel_rfl) rfl rfl ?_
 refine mF (j3 @aA @aM @aW) ?_
 apply WP.loop' (I:=fun D s=>∃ j:Nat,j+D=l.length∧(l.take j).all (fun v=> !decide (x=v))=true∧SE [(0,dL (eT l)),(1,dS x),(7,dI l.length),(8,dI j)] [] 0 s) (d:=l.length)
 ·exact ⟨0,by simp,by simp,SE.mk (by simp[dI,dL,dS]) rfl⟩
 rintro D _ ⟨j,hj,cD,cc,rfl⟩
 refine mF (j3 @aB @aA @aM) ?_
 show WP _ _ _ _ _ _
 refine WP.cond _ rfl (fun hb=>?_) (fun hb=>?_)
 ·simp at hb
  have bR:j<l.length:=by omega
  obtain ⟨d,hd,d9,bS⟩:=bL bR
  have cF:=sJ hd
  have hw:=bG bR (by omega)
  have hs:=bZ (p:=fun v=> !decide (x=v)) hd
  by_cases hq:x=d
  ·have gQ:=eq_true hq
   rw[kF cD hd (decide_eq_true hq)]
   refine qX (j7 @aB @aA @aM @bS @cF @bE @gQ) ?_
   show a7 _ _ _ _ _
   exact ⟨.inr rfl,_,_,rfl,rfl⟩
  ·have gQ:=eq_false hq
   refine qX (j7 @aB @aA @aM @bS @cF @bE @gQ) ?_
   refine aY (by simp[hw];exact Is.rfl) ?_
   exact ⟨D - 1,by omega,j+1,by omega,by rw[hs,cD,decide_eq_false hq];rfl,SE.mk (by simp[dI,dL,dS,hw]) rfl⟩
 ·simp at hb
  have eM:j=l.length:=by omega
  rw[eM,List.take_length] at cD
  rw[kG cD]
  refine qX (j3 @aB @aA @aM) ?_
  show a7 _ _ _ _ _
  exact ⟨.inr rfl,_,_,rfl,rfl⟩
theorem aBu (l:List Tx) (x:Tx) (hl:l.length≤MX):d7 Tryz.prog Ob.cfg 155 [dL (eT l),dS x]=some (dB (decide (x∈l))):=by
 have h:=aMg l x hl
 simp only[dL,dS,dI] at h
 have he:decide (x∈l)=decide (0≤ixP (fun v=>decide (x=v)) l):=by
  rw[wV]
  by_cases hm:x∈l
  ·rw[jT hm];exact (List.any_eq_true.2 ⟨x,hm,by simp⟩).symm
  ·rw[gY hm];symm;rw[List.any_eq_false];intro y hy;simp;intro he;subst he;exact hm hy
 rw[he]
 refine bF Tryz.func155 rfl (by kernel_rfl) rfl rfl ?_
 refine mF (j3 @aA @aM @h) ?_
 show a7 _ _ _ _ _
 exact ⟨.inr rfl,_,_,rfl,rfl⟩
set_option maxHeartbeats 4000000 in
theorem aIj {x:Tx} {can:Bool} {N:Nat} (h:aJs x can N) (y:Y) (cx:List Pr) (hy:y.sz≤N) (hnb:nbY y=true) (hb0:cx.length+y.sz≤8388608):d7 Tryz.prog Ob.cfg 141 [aG y.cells,dS x,dL (iB cx),dB can]=some (dB (asY x (!can) cx y)):=by
 rw[Y.sz_eq] at hy hb0
 have k1:=oB y.outs
 have k2:=rZ y.brs
 have ho:=aBu y.outs x (by unfold MX;omega)
 simp only[dL,dS,dB] at ho
 rw[aLK,Bool.and_eq_true] at hnb
 obtain ⟨hn1,hn2⟩:=hnb
 rw[aHx]
 refine bF Tryz.func141 rfl (by kernel_rfl) rfl rfl ?_
 by_cases q1:y.k=1
 ·rw[if_pos q1]
  refine qX (j8 @aD @aC @aA @aM @aF @aS @bE @q1) ?_
  show a7 _ _ _ _ _
  exact ⟨.inr rfl,_,_,rfl,rfl⟩
 rw[if_neg q1]
 by_cases q4:y.k=4
 ·rw[if_pos q4]
  refine qX (j9 @aD @aC @aA @aM @aF @aS @bE @q4 @ho) ?_
  show a7 _ _ _ _ _
  exact ⟨.inr rfl,_,_,rfl,rfl⟩
 rw[if_neg q4]
 by_cases q3:y.k=3
 case neg=>
  rw[if_neg q3]
  refine qX (j9 @aD @aC @aA @aM @aF @aS @q1 @q4 @q3) ?_
  show a7 _ _ _ _ _
  exact ⟨.inr rfl,_,_,rfl,rfl⟩
 rw[if_pos q3]
 have hbr:y.brs≠[]:=by simpa [q3] using hn1
 have hQ:=fun c=>aMo (i1:=0) (g1:=0) (p:=fun p:Pr=>decide (p.nm=y.nm)) cx (by unfold MX;omega) [(0,⟨0,false,y.cells.map .d⟩)] 1
  (fun v hv bD c d8=>aNV (nm:=y.nm) (rest:=(y.cells.drop 2).map .d) (k:= .d (.int .i64 y.k)) bD 1 c ((d8 0 (by omega)).trans (by rw[aC];rfl)) (by omega)) c
 obtain ⟨h5,h6,h4⟩:=eF.fn hQ
 simp only[dL,dS,dB,aC,List.map_cons,List.map_nil,q3] at h4
 rcases vO (fun p:Pr=>decide (p.nm=y.nm)) cx with ⟨i,p,hp,cD,hpp⟩|cD
 ·have hf:=mR cD hp hpp
  rw[kF cD hp hpp] at h4
  rw[hf]
  have xX:i<cx.length:=(List.getElem?_eq_some_iff.1 hp).1
  have bS:=m6 xX
  have bD:=aFa hp
  by_cases fB:p.br<y.brs.length
  ·have c1:((p.br:Int)<y.brs.length)=True:=eq_true (by omega)
   obtain ⟨b,wL,yU,tV⟩:=bL fB
   have kL:=lH wL
   have hr:=h b cx (by have:=gJ yU;omega) (by rw[aAh] at hn2;exact List.all_eq_true.1 hn2 b yU) (by have:=gJ yU;omega)
   have he:=aIa x (!can) cx y.brs p.br b wL
   simp only[he]
   simp only[dL,dS,dB] at hr
   refine qX (mX @aD @aB @aA @aM @aF @aC @Pr.cells.eq_1 @q3 @aS @h4 @bS @bD @tV @kL @hr @c1) ?_
   show a7 _ _ _ _ _
   exact ⟨.inr rfl,_,_,rfl,rfl⟩
  ·have c1:((p.br:Int)<y.brs.length)=False:=eq_false (by omega)
   have c1':(p.br<y.brs.length)=False:=eq_false fB
   have he:=aFJ x (!can) cx y.brs p.br (by omega)
   simp only[he]
   refine qX (uN @aD @aB @aA @aM @aF @aC @Pr.cells.eq_1 @q3 @aS @h4 @bS @bD @c1 @c1') ?_
   show a7 _ _ _ _ _
   exact ⟨.inr rfl,_,_,rfl,rfl⟩
 have hf:=kM cD
 rw[kG cD] at h4
 rw[hf]
 have r1:=fun look=>aAi look (gG cx)
 have f1:bT cx.length 24=true:=by simp[bT];omega
 rw[lE] at r1
 refine qX (nW @aD @aB @aA @aM @aF @aC @q3 @aS @h4 @aX) ?_
 apply WP.loop' (I:=fun D s=>∃ i:Nat,i+D=y.brs.length∧xL x (!can) cx y.nm 0 (y.brs.take i)=(if can=true then 0 else i)∧SE [(1,dS x),(2,dL (iB cx)),(3,dB can),(4,.ptr 0 0 0),(60,dL (iA y.brs)),(61,dI y.brs.length),(62,dI i)] [(0,⟨0,false,y.cells.map .d⟩)] 1 s) (d:=y.brs.length)
 ·exact ⟨0,by simp,by simp[xL],SE.mk (by simp[dI,dL,dS,dB]) (by simp[aC,q3])⟩
 rintro D _ ⟨i,hi,hn,cc,rfl⟩
 refine mF (j5 @aB @aA @aM @aF @aC) ?_
 show WP _ _ _ _ _ _
 refine WP.cond _ rfl (fun hb=>?_) (fun hb=>?_)
 ·simp at hb
  have bR:i<y.brs.length:=by omega
  obtain ⟨b,wL,yU,tV⟩:=bL bR
  have kL:=lH wL
  have hw:=bG bR (by omega)
  have hr:=h b (cx++[⟨y.nm,i⟩]) (by have:=gJ yU;omega) (by rw[aAh] at hn2;exact List.all_eq_true.1 hn2 b yU) (by have:=gJ yU;simp;omega)
  have pC:y.brs.take (i+1)=y.brs.take i++[b]:=bM wL
  have hcn:=z7 x (!can) cx y.nm (y.brs.take i) 0 b
  rw[←pC,hn,List.length_take,Nat.min_eq_left (by omega),Nat.zero_add] at hcn
  have aOz:=aNx x (!can) cx y.nm y.brs (i+1)
  have r2:=cT (gG cx)
  have r3:=cL (gG cx)
  have r4:=dW (iB cx) (Pr.cells ⟨y.nm,i⟩)
  have r5:=aAz cx ⟨y.nm,i⟩
  have r6:=cT (gG (cx++[⟨y.nm,i⟩]))
  have r7:=cL (gG (cx++[⟨y.nm,i⟩]))
  have r8:=eJ (gG (cx++[⟨y.nm,i⟩]))
  have f2:bT (cx.length+1) 24=true:=by simp[bT];omega
  rw[r5] at r4
  rw[lE] at r2 r3
  simp only[lE,List.length_append,List.length_cons,List.length_nil,Nat.zero_add] at r6 r7 r8
  simp only[Pr.cells,List.map_cons,List.map_nil] at r4
  simp only[dL,dS,dB,dI] at hr
  cases he:u6 x (!can) (cx++[⟨y.nm,i⟩]) b with
  | true=>
   rw[he] at hr hcn
   cases can with
   | true=>
    rw[show (if (!true)=true then decide (xL x (!true) cx y.nm 0 y.brs=y.brs.length) else decide (0<xL x (!true) cx y.nm 0 y.brs))=true by simp;simp at hcn aOz;omega]
    refine qX (j23 @aB @aA @aM @aF @aC @tV @kL @r1 @f1 @f2 @r2 @r3 @r4 @r6 @r7 @r8 @bI @b8 @cG @bJ @hr @aQ @aR) ?_
    show a7 _ _ _ _ _
    exact ⟨.inr rfl,_,_,rfl,rfl⟩
   | false=>
    refine qX (j23 @aB @aA @aM @aF @aC @tV @kL @r1 @f1 @f2 @r2 @r3 @r4 @r6 @r7 @r8 @bI @b8 @cG @bJ @hr @aQ @aR) ?_
    refine aY (by simp[hw];exact Is.rfl) ?_
    exact ⟨D - 1,by omega,i+1,by omega,by rw[hcn];simp,SE.mk (by simp[dI,dL,dS,dB,hw]) (by simp[aC])⟩
  | false=>
   rw[he] at hr hcn
   cases can with
   | false=>
    rw[show (if (!false)=true then decide (xL x (!false) cx y.nm 0 y.brs=y.brs.length) else decide (0<xL x (!false) cx y.nm 0 y.brs))=false by simp;simp at hcn aOz;omega]
    refine qX (j23 @aB @aA @aM @aF @aC @tV @kL @r1 @f1 @f2 @r2 @r3 @r4 @r6 @r7 @r8 @bI @b8 @cG @bJ @hr @aQ @aR) ?_
    show a7 _ _ _ _ _
    exact ⟨.inr rfl,_,_,rfl,rfl⟩
   | true=>
    refine qX (j23 @aB @aA @aM @aF @aC @tV @kL @r1 @f1 @f2 @r2 @r3 @r4 @r6 @r7 @r8 @bI @b8 @cG @bJ @hr @aQ @aR) ?_
    refine aY (by simp[hw];exact Is.rfl) ?_
    exact ⟨D - 1,by omega,i+1,by omega,by rw[hcn];simp,SE.mk (by simp[dI,dL,dS,dB,hw]) (by simp[aC])⟩
 ·simp at hb
  have nE:i=y.brs.length:=by omega
  rw[nE,List.take_length] at hn
  simp only[hn]
  cases can with
  | true=>
   refine qX (j5 @aB @aA @aM @aF @aC) ?_
   exact ⟨.inr rfl,_,_,rfl,by simp;rfl⟩
  | false=>
   refine qX (j9 @aB @aA @aM @aF @aC @aX @pY @gP @hbr) ?_
   exact ⟨.inr rfl,_,_,rfl,by simp;rfl⟩
theorem aTw:∀ (x:Tx) (can:Bool) (N:Nat),aJs x can N:=by
 intro x can N
 induction N with
 | zero=>intro l cx h;omega
 | succ N ih=>
 intro l cx hN hnb hb0
 have k1:=lJ l
 rw[xG] at hnb
 exact aOk l (by unfold MX;omega) fun y hy=>aIj ih y cx (by have:=mM hy;omega) (List.all_eq_true.1 hnb y hy) (by have:=mM hy;omega)
end Go.Ac
end
section
set_option maxRecDepth 4000
namespace Go.Ac
open Go.Proofs
def pP (cx:List Pr) (bl:List (List Y)):V:= .agg [.d (.slice (iB cx)),.d (.slice (iA bl))]
theorem aUK (r:Nat):Ob.keep 112 r=Ob.k112 r:=by kernel_rfl
theorem aXi (r:Nat):Ob.keep 71 r=Ob.k71 r:=by kernel_rfl
theorem aRw (r:Nat):Ob.keep 110 r=Ob.k110 r:=by kernel_rfl
attribute [local simp] aUK Ob.k112 aXi Ob.k71 aRw Ob.k110
theorem aGw (x:Tx) (all:Bool) (cx:List Pr):∀ bl:List (List Y),bl.any (u6 x all cx)=u6 x all cx bl.flatten
 | []=>by rw[List.flatten_nil,u6];rfl
 | b::r=>by rw[List.any_cons,aGw x all cx r,List.flatten_cons];simp only[zS,List.any_append]
theorem aNw {nm:Tx} {cx:List Pr} {can b:Bool} {l:List Y} {bf:D} (h:d7 Tryz.prog Ob.cfg 113 [dL (dJ l),dS nm,dL (iB cx),dB can]=some (dB b)) {i1 g1 i2 g2 i3 g3:Nat} (hp:Hp) (n c:Nat)
  (h1:hp.get i1=some ⟨g1,false,[dS nm]⟩) (h2:hp.get i2=some ⟨g2,false,[dL (iB cx),.d bf]⟩) (h3:hp.get i3=some ⟨g3,false,[dB can]⟩) (l1:i1<n) (l2:i2<n) (l3:i3<n):
  eF Tryz.prog Ob.cfg 112 [dL (dJ l),.ptr i1 g1 0,.ptr i2 g2 0,.ptr i3 g3 0] hp n c (.bool b):=by
 simp only[dL,dS,dB] at h h1 h2 h3
 refine fT Tryz.func112 rfl (by kernel_rfl) rfl ?_
 refine mF (j9 @aN @aO @aA @aM @aF @h1 @h2 @h3 @h) ?_
 exact ⟨.inr rfl,rfl,_,rfl,rfl⟩
theorem yB (nm:Tx) (can:Bool) (cx:List Pr) (bl:List (List Y)) (hl:bl.length≤MX) (hnb:nbB bl=true) (hb:cx.length+hH bl.flatten≤8388608):d7 Tryz.prog Ob.cfg 71 [pP cx bl,dS nm,dB can]=some (dB (u6 nm (!can) cx bl.flatten)):=by
 have gB:∀ l,l∈bl→hH l≤hH bl.flatten:=by
  intro l hl
  induction bl with
  | nil=>simp at hl
  | cons b r ih=>
   rw[List.flatten_cons,zE]
   rcases List.mem_cons.1 hl with rfl|h
   ·omega
   ·have:=ih (by rw[List.length_cons] at *;unfold MX at *;omega) (by rw[nbB,Bool.and_eq_true] at hnb;exact hnb.2) (by rw[List.flatten_cons,zE] at hb;omega) h;omega
 rw[aAh] at hnb
 have hQ:=fun c=>aGf (i1:=1) (g1:=1) (i2:=0) (g2:=0) (i3:=2) (g3:=2) (p:=u6 nm (!can) cx) bl hl [(0,⟨0,false,[dL (iB cx),dL (iA bl)]⟩),(1,⟨1,false,[dS nm]⟩),(2,⟨2,false,[dB can]⟩)] 3
  (fun l hl bD c d8=>aNw (bf:= .slice (iA bl)) (aTw nm can _ l cx (Nat.lt_succ_self _) (List.all_eq_true.1 hnb l hl) (by have:=gB l hl;omega)) bD 3 c ((d8 1 (by omega)).trans rfl) ((d8 0 (by omega)).trans rfl) ((d8 2 (by omega)).trans rfl) (by omega) (by omega) (by omega)) c
 obtain ⟨h5,h6,h4⟩:=eF.fn hQ
 simp only[dL,dS,dB] at h4
 rw[←aGw]
 refine bF Tryz.func71 rfl (by kernel_rfl) rfl rfl ?_
 refine mF (j5 @pP.eq_1 @aA @aM @aF @h4) ?_
 show a7 _ _ _ _ _
 exact ⟨.inr rfl,_,_,rfl,rfl⟩
theorem kJ (l:List (List Y)):∀ r∈iA l,r.length=1:=by rw[tM];intro r hr;obtain ⟨x,_,rfl⟩:=List.mem_map.1 hr;rfl
theorem aEo (l:List (List Y)) (y:List Y):iA l++[[.slice (dJ y)]]=iA (l++[y]):=by simp[tM]
theorem aKi (l:List Y) (j:Nat):(dJ l).take j=dJ (l.take j):=by rw[oJ,oJ,List.map_take]
set_option maxHeartbeats 1000000 in
theorem aOU (cx:List Pr) (bl:List (List Y)) (l:List Y) (i:Nat) (hi:i≤l.length) (hb:bl.length≤8388608) (hl:l.length≤8388608):d7 Tryz.prog Ob.cfg 110 [pP cx bl,dL (dJ l),dI i]=some (pP cx (bl++[l.take i])):=by
 have hsl:=fun look e b z=>nU look e b z (oG l) (j:=i) (by rw[cQ];omega)
 have etk:=aKi l i
 have r1:=fun look=>aAi look (kJ bl)
 have r2:=cT (kJ bl)
 have r3:=cL (kJ bl)
 have r4:=dW (iA bl) [.slice (dJ (l.take i))]
 have r5:=aEo bl (l.take i)
 have r6:=cT (kJ (bl++[l.take i]))
 have r7:=cL (kJ (bl++[l.take i]))
 have r8:=eJ (kJ (bl++[l.take i]))
 have f1:bT bl.length 24=true:=by simp[bT];omega
 have f2:bT (bl.length+1) 24=true:=by simp[bT];omega
 rw[r5] at r4
 rw[aX] at r2 r3
 simp only[aX] at r1
 simp only[aX,List.length_append,List.length_cons,List.length_nil,Nat.zero_add,Nat.mul_one] at r2 r3 r6 r7 r8
 simp only[List.map_cons,List.map_nil] at r4
 refine bF Tryz.func110 rfl (by kernel_rfl) rfl rfl ?_
 refine mF (j22 @pP.eq_1 @aA @aB @hsl @etk @r1 @r2 @r3 @r4 @r6 @r7 @r8 @f1 @f2 @aH @aI @aQ @aR @bI @b8 @cG @bJ) ?_
 refine ⟨.inr rfl,_,[2],rfl,?_⟩
 show dZ _ (.agg [V.d (D.slice (iB cx)),V.osl 2 4 0 (bl.length+1) 1 none])=_
 simp[dZ,pP,b8,bI,r6,r7,r8,cG,bJ]
end Go.Ac
end
