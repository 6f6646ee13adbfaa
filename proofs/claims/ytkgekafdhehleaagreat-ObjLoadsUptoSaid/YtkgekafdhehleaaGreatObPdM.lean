/- Places of the program. -/
import Derived.Test.YtkgekafdhehleaaGreatObMzM
set_option linter.unusedVariables false
set_option linter.unusedSimpArgs false
section
set_option maxRecDepth 4000
namespace Go.Ac
open Go.Proofs
def pI (u:En):Bool:=decide (u.tags.length=0)||decide (16<u.tags.length)
def m5 (o:Oc) (i:Nat) (c:Cl):Int:=
 if aAD o i c≠0 then aAD o i c
 else if fU o c [] [] c.step≠0 then fU o c [] [] c.step
 else if c.out.any (fun d=> !vQ d.nm true [] c.step)=true then 22 else 0
def aCq (o:Oc):Nat→List Cl→Int
 | _,[]=>0
 | i,c::r=>if m5 o i c≠0 then m5 o i c else aCq o (i+1) r
def dH (o:Oc):Int:=if 24<o.en.length then 5 else if o.en.any pI=true then 5 else aCq o 0 o.cl
theorem vB.zero:vB 0:=by unfold vB;omega
theorem aBm {l:List Dc} (h:∀ d,d∈l→d.ok) (x:Tx):vB (fI l x):=by
 unfold fI
 split
 ·rename_i d hd;exact (h d (List.mem_of_find?_eq_some hd)).1
 ·exact vB.zero
theorem aHv {c:Cl} (h:c.ok) (x:Tx):vB (dF c x):=by
 unfold dF kN
 split
 ·split
  ·exact aBm h.loc x
  ·exact aBm h.out x
 ·exact aBm h.inn x
theorem aXp (r:Nat):Ob.keep 12 r=Ob.k12 r:=by kernel_rfl
attribute [local simp] aXp Ob.k12
set_option maxHeartbeats 8000000 in
theorem zI (o:Oc) (gK:o.sz≤2097152) (cC:o.ok):eJ Tryz.prog Ob.cfg 12 [aG o.cells]=some (dI (dH o)):=by
 unfold Oc.sz at gK
 have k1:=aCO o.en
 have k2:=l7 o.cl
 refine bI Tryz.func12 rfl (by kernel_rfl) rfl rfl ?_
 unfold dH
 by_cases c1:24<o.en.length
 ·rw[if_pos c1]
  have c1':((24:Int)<o.en.length)=True:=eq_true (by omega)
  have c1'':=eq_true c1
  refine bA (j6 @aD @aJ @aB @aA @c1' @c1'') ?_
  show a8 _ _ _ _ _
  exact ⟨.inr rfl,_,_,rfl,rfl⟩
 rw[if_neg c1]
 have c1':((24:Int)<o.en.length)=False:=eq_false (by omega)
 have c1'':=eq_false c1
 refine bA (j6 @aD @aJ @aB @aA @c1' @c1'') ?_
 apply WP.loop' (I:=fun D s=>∃ k:Nat,k+D=o.en.length∧(o.en.take k).all (fun u=> !pI u)=true∧SE [(1,.ptr 0 0 0),(3,dI k)] [(0,⟨0,false,o.cells.map .d⟩)] 1 s) (d:=o.en.length)
 ·exact ⟨0,by simp,by simp,SE.mk (by simp[dI]) (by simp[Oc.cells])⟩
 rintro D _ ⟨k,hk,cF,cc,rfl⟩
 refine wk (j3 @aB @aA @aJ) ?_
 show WP _ _ _ _ _ _
 refine WP.cond _ rfl (fun hb=>?_) (fun hb=>?_)
 ·simp at hb
  have bP:k<o.en.length:=by omega
  obtain ⟨d,hd,d8,bV⟩:=bM bP
  have cG:=yB hd
  have uD:=bE bP (by omega)
  have hs:=bZ (p:=fun u=> !pI u) hd
  by_cases e1:d.tags=[]
  ·rw[if_pos (List.any_eq_true.2 ⟨d,d8,by simp[pI,e1]⟩)]
   refine bA (j9 @aB @aA @aJ @bV @cG @En.cells.eq_1 @aW @bJ @e1) ?_
   show a8 _ _ _ _ _
   exact ⟨.inr rfl,_,_,rfl,rfl⟩
  by_cases e2:16<d.tags.length
  ·have e2':((16:Int)<d.tags.length)=True:=eq_true (by omega)
   have e2'':=eq_true e2
   rw[if_pos (List.any_eq_true.2 ⟨d,d8,by simp[pI,e2]⟩)]
   refine bA (qJ @aB @aA @aJ @bV @cG @En.cells.eq_1 @aW @bJ @aS @e1 @e2' @e2'') ?_
   show a8 _ _ _ _ _
   exact ⟨.inr rfl,_,_,rfl,rfl⟩
  ·have e2':((16:Int)<d.tags.length)=False:=eq_false (by omega)
   have e2'':=eq_false e2
   have oV:pI d=false:=by unfold pI;rw[iC e2];simpa using e1
   rw[oV] at hs
   refine bA (qJ @aB @aA @aJ @bV @cG @En.cells.eq_1 @aW @bJ @aS @e1 @e2' @e2'') ?_
   refine aY (by simp[uD];exact Is.rfl) ?_
   exact ⟨D - 1,by omega,k+1,by omega,by rw[hs,cF];rfl,SE.mk (by simp[dI,dL,uD]) (by simp[Oc.cells])⟩
 simp at hb
 have uG:k=o.en.length:=by omega
 rw[uG,List.take_length] at cF
 rw[if_neg (by rw[uV (p:=pI) cF];simp)]
 clear cF uG hb hk
 refine bA (j3 @aB @aA @aJ) ?_
 apply WP.loop' (I:=fun D s=>∃ k:Nat,k+D=o.cl.length∧aCq o k (o.cl.drop k)=aCq o 0 o.cl∧SE [(1,.ptr 0 0 0),(4,dI k)] [(0,⟨0,false,o.cells.map .d⟩)] 1 s) (d:=o.cl.length)
 ·exact ⟨0,by simp,by simp,SE.mk (by simp[dI]) (by simp[Oc.cells])⟩
 rintro D _ ⟨k,hk,hv,cc,rfl⟩
 refine wk (j3 @aB @aA @aJ) ?_
 show WP _ _ _ _ _ _
 refine WP.cond _ rfl (fun hb=>?_) (fun hb=>?_)
 ·simp at hb
  have bP:k<o.cl.length:=by omega
  obtain ⟨c,hc,hcm,bV⟩:=bM bP
  have hc':=lH hc
  have uD:=bE bP (by omega)
  have sC:=qE hcm
  unfold Cl.sz at sC
  have l1:=lG c.inn
  have l2:=lG c.out
  have l3:=lG c.loc
  have l4:=u6 c.mems
  have l5:=sO c.ins
  have aEt:=cC c hcm
  have h31:=aQn o k c hc (by omega) ⟨by omega⟩ aEt
  have hW:WOK ⟨o,c,[],[]⟩:=⟨by simp only;unfold MX;omega,by simp only;unfold MX;omega,by simp only;unfold MX;omega,by simp only;unfold MX;omega,by simp only;unfold MX;omega,by simp only;unfold MX;omega,by simp[iG]⟩
  have h32:=aQs _ ⟨o,c,[],[]⟩ c.step (Nat.lt_succ_self _) hW (fun nm=>aHv aEt nm) (by simp[iG];omega) aEt.step
  have e0:dM []=[]:=by rw[dM]
  have e1:iJ []=[]:=rfl
  simp only[aG,Oc.cells,Pl.cells,List.map_cons,List.map_nil,dI,dL,e0,e1] at h31 h32
  rw[iF hc,aCq] at hv
  by_cases c2:aAD o k c=0
  case neg=>
   have c2':=eq_false c2
   have hcw:m5 o k c=aAD o k c:=by unfold m5;rw[if_pos c2]
   rw[hcw,if_pos c2] at hv
   rw[←hv]
   refine bA (j6 @aB @aA @aJ @h31 @c2' @aV) ?_
   show a8 _ _ _ _ _
   exact ⟨.inr rfl,_,_,rfl,rfl⟩
  rw[c2] at h31
  by_cases c3:fU o c [] [] c.step=0
  case neg=>
   have c3':=eq_false c3
   have hcw:m5 o k c=fU o c [] [] c.step:=by unfold m5;rw[if_neg (by simp[c2]),if_pos c3]
   rw[hcw,if_pos c3] at hv
   rw[←hv]
   refine bA (nB @aB @aA @aJ @h31 @bV @hc' @aK @aH @aI @aP @aQ @b8 @pH @h32 @c3' @aV) ?_
   show a8 _ _ _ _ _
   exact ⟨.inr rfl,_,_,rfl,rfl⟩
  rw[c3] at h32
  have hcw:m5 o k c=if c.out.any (fun d=> !vQ d.nm true [] c.step)=true then 22 else 0:=by unfold m5;rw[if_neg (by simp[c2]),if_neg (by simp[c3])]
  refine bA (vG @aB @aA @aJ @h31 @bV @hc' @aK @aH @aI @aP @aQ @b8 @pH @h32 @aV) ?_
  apply WP.loop' (I:=fun D s=>∃ q:Nat,q+D=c.out.length∧(c.out.take q).all (fun d=> !(!vQ d.nm true [] c.step))=true∧SE [(1,.ptr 0 0 0),(4,dI k),(6,.ptr 1 cc 0),(8,dI q)] [(0,⟨0,false,o.cells.map .d⟩),(1,⟨cc,false,c.cells.map .d⟩),(2,⟨cc+1,false,o.cells.map .d++c.cells.map .d++[.full [],.full []]⟩)] 3 s) (d:=c.out.length)
  ·exact ⟨0,by simp,by simp,SE.mk (by simp[dI]) (by simp[Oc.cells,Cl.cells])⟩
  rintro D2 _ ⟨q,hq,cF,cc2,rfl⟩
  refine wk (j4 @aB @aA @aJ @aK) ?_
  show WP _ _ _ _ _ _
  refine WP.cond _ rfl (fun hb=>?_) (fun hb=>?_)
  ·simp at hb
   have bP:q<c.out.length:=by omega
   obtain ⟨d,hd,d8,aEg⟩:=bM bP
   have cG:=eD hd
   have hwq:=bE bP (by omega)
   have hs:=bZ (p:=fun d:Dc=> !(!vQ d.nm true [] c.step)) hd
   have h33:=aPf d.nm true c.step (by omega)
   simp only[dI,dL,dS,dB,e1] at h33
   cases hz:vQ d.nm true [] c.step with
   | false=>
    rw[hz] at h33
    rw[if_pos (List.any_eq_true.2 ⟨d,d8,by rw[hz];rfl⟩)] at hcw
    rw[hcw,if_pos (by decide)] at hv
    rw[←hv]
    refine bA (vM @aB @aA @aJ @aK @aEg @cG @aR @h33 @aH @aI @aP @aQ @b8 @pH) ?_
    show a8 _ _ _ _ _
    exact ⟨.inr rfl,_,_,rfl,rfl⟩
   | true=>
    rw[hz] at h33 hs
    refine bA (vM @aB @aA @aJ @aK @aEg @cG @aR @h33 @aH @aI @aP @aQ @b8 @pH) ?_
    refine aY (by simp[hwq];exact Is.rfl) ?_
    exact ⟨D2 - 1,by omega,q+1,by omega,by rw[hs,cF];rfl,SE.mk (by simp[dI,dL,hwq]) (by simp[Oc.cells,Cl.cells])⟩
  simp at hb
  have hqe:q=c.out.length:=by omega
  rw[hqe,List.take_length] at cF
  rw[if_neg (by rw[uV (p:=fun d:Dc=> !vQ d.nm true [] c.step) cF];simp)] at hcw
  rw[hcw,if_neg (by decide)] at hv
  refine bA (j4 @aB @aA @aJ @aK) ?_
  refine aY (by simp[uD];exact Is.rfl) ?_
  exact ⟨D - 1,by omega,k+1,by omega,hv,SE.mk (by simp[dI,dL,uD]) (by simp[Oc.cells])⟩
 simp at hb
 have uG:k=o.cl.length:=by omega
 rw[uG,List.drop_length,aCq] at hv
 rw[←hv]
 refine bA (j3 @aB @aA @aJ) ?_
 show a8 _ _ _ _ _
 exact ⟨.inr rfl,_,_,rfl,rfl⟩
end Go.Ac
end
section
set_option maxRecDepth 4000
namespace Go.Ac
open Go.Proofs
def Ag (n:Nat) (hp bB:Hp):Prop:=∀ id,id<n→bB.get id=hp.get id
theorem Ag.refl (n:Nat) (hp:Hp):Ag n hp hp:=fun _ _=>rfl
theorem Ag.trunc {n:Nat} {hp bB:Hp} (h:Ag n hp bB):Ag n hp (Hp.trunc n bB):=fun id hi=>(Hp.get_trunc bB n id hi).trans (h id hi)
theorem Ag.set {n:Nat} {hp bB:Hp} {o:Ob} (h:Ag n hp bB):Ag n hp (bB.set n o):=fun id hi=>(Hp.get_set_ne bB n id o (by omega)).trans (h id hi)
def SQ (e:oH) (hp:Hp) (n n0:Nat) (s:St):Prop:=∃ bB c,Ag n hp bB∧s=⟨e,bB,n,c,n0,[]⟩
def ixP {α:Type} (p:α→Bool) (l:List α):Int:=match l.findIdx? p with|some i=>(i:Int)|none=> -1
theorem kZ {α:Type} {p:α→Bool}:∀ {l:List α} {i:Nat} {v:α},(l.take i).all (fun v=> !p v)=true→l[i]?=some v→p v=true→ixP p l=i:=by
 intro l i v h hi hv
 have:l.findIdx? p=some i:=by
  obtain ⟨wB,hiv⟩:=List.getElem?_eq_some_iff.1 hi
  rw[List.findIdx?_eq_some_iff_getElem]
  refine ⟨wB,by rw[hiv];exact hv,fun j hj=>?_⟩
  have hj':j<l.length:=by omega
  have hm:l[j]∈l.take i:=by rw[List.mem_take_iff_getElem];exact ⟨j,by omega,rfl⟩
  have:=List.all_eq_true.1 h _ hm
  simpa using this
 unfold ixP;rw[this]
theorem kU {α:Type} {p:α→Bool} {l:List α} (h:l.all (fun v=> !p v)=true):ixP p l= -1:=by
 have h':∀ x,x∈l→p x=false:=fun x hx=>by simpa using List.all_eq_true.1 h x hx
 unfold ixP;rw[List.findIdx?_eq_none_iff.2 h']
theorem xZ {α:Type} (p:α→Bool) (l:List α):decide (0≤ixP p l)=l.any p:=by
 unfold ixP
 cases h:l.findIdx? p with
 | some i=>
  have:l.any p=true:=by
   obtain ⟨wB,hp,_⟩:=List.findIdx?_eq_some_iff_getElem.1 h
   exact List.any_eq_true.2 ⟨l[i],List.getElem_mem wB,hp⟩
  rw[this];simp
 | none=>
  have:l.any p=false:=by
   rw[List.any_eq_false];intro x hx;rw[List.findIdx?_eq_none_iff.1 h x hx];simp
  rw[this];simp
mutual
def nbY:Y→Bool
 | .mk k _ _ _ _ _ brs=>(!decide (k=3)||decide (brs≠[]))&&nbB brs
def nbL:List Y→Bool
 | []=>true
 | y::r=>nbY y&&nbL r
def nbB:List (List Y)→Bool
 | []=>true
 | b::r=>nbL b&&nbB r
end
theorem aNB (y:Y):nbY y=((!decide (y.k=3)||decide (y.brs≠[]))&&nbB y.brs):=by cases y;rw[nbY];rfl
theorem xN:∀ l:List Y,nbL l=l.all nbY
 | []=>by rw[nbL];rfl
 | x::r=>by rw[nbL,xN r];rfl
theorem aAs:∀ l:List (List Y),nbB l=l.all nbL
 | []=>by rw[nbB];rfl
 | x::r=>by rw[nbB,aAs r];rfl
theorem aVb (r:Nat):Ob.keep 156 r=Ob.k156 r:=by kernel_rfl
theorem aUY (r:Nat):Ob.keep 139 r=Ob.k139 r:=by kernel_rfl
attribute [local simp] aVb Ob.k156 aUY Ob.k139
theorem aNj {i1 g1 i2 g2 i3 g3:Nat} {p:Y→Bool} (l:List (Y)) (hl:l.length≤MX) (hp:Hp) (n:Nat) (hq:∀ v,v∈l→∀ bB c,Ag n hp bB→eK Tryz.prog Ob.cfg 140 [aG v.cells,.ptr i1 g1 0,.ptr i2 g2 0,.ptr i3 g3 0] bB n c (.bool (p v))) (c:Nat):
  eK Tryz.prog Ob.cfg 156 [dL (dM l),.fn 140 [.ptr i1 g1 0,.ptr i2 g2 0,.ptr i3 g3 0]] hp n c (.int .i64 (ixP p l)):=by
 unfold MX at hl
 refine fV Tryz.func156 rfl (by kernel_rfl) rfl ?_
 refine mW (j4 @aN @aO @aA @cV) ?_
 apply WP.loop' (I:=fun d s=>∃ i:Nat,i+d=l.length∧(l.take i).all (fun v=> !p v)=true∧SQ [(0,dL (dM l)),(1,.fn 140 [.ptr i1 g1 0,.ptr i2 g2 0,.ptr i3 g3 0]),(7,dI l.length),(8,dI i)] hp n n s) (d:=l.length)
 ·exact ⟨0,by simp,by simp,_,_,Ag.refl n hp,bK (by simp[dL,dI]) rfl⟩
 rintro d _ ⟨i,hii,cF,bB,c1,dW,rfl⟩
 refine mW (jn @aB @aA) ?_
 show WP _ _ _ _ _ _
 refine WP.cond _ rfl (fun hb=>?_) (fun hb=>?_)
 ·simp at hb
  have bP:i<l.length:=hb
  obtain ⟨v,hv,hvm,bV⟩:=bM bP
  have zO:=oT hv
  have hw:=bE bP (by omega)
  have jP:=bZ (p:=fun v=> !p v) hv
  obtain ⟨h5,h6,h4⟩:=eK.fn (fun c=>hq v hvm bB c dW)
  simp only[aG,dL,dI,aC,List.map_cons,List.map_nil] at h4
  refine mW (j6 @bV @zO @aA @aB @aC @h4) ?_
  show WP _ _ _ _ _ _
  refine WP.cond _ rfl (fun hb=>?_) (fun hb=>?_)
  ·refine mW True.intro ?_
   rw[kZ cF hv hb]
   exact ⟨.inr rfl,rfl,_,rfl,rfl⟩
  ·refine mW True.intro ?_
   refine aY (by simp[hw];exact Is.rfl) ?_
   exact ⟨d - 1,by omega,i+1,by omega,by rw[jP,cF];simpa using hb,_,_,dW.trunc,bK (by simp[dI,dL,hw]) rfl⟩
 ·simp at hb
  have wB:i=l.length:=by omega
  subst wB
  rw[List.take_length] at cF
  refine mW True.intro ?_
  rw[kU cF]
  exact ⟨.inr rfl,rfl,_,rfl,rfl⟩
theorem aGG {i1 g1 i2 g2 i3 g3:Nat} {p:Y→Bool} (l:List (Y)) (hl:l.length≤MX) (hp:Hp) (n:Nat) (hq:∀ v,v∈l→∀ bB c,Ag n hp bB→eK Tryz.prog Ob.cfg 140 [aG v.cells,.ptr i1 g1 0,.ptr i2 g2 0,.ptr i3 g3 0] bB n c (.bool (p v))) (c:Nat):
  eK Tryz.prog Ob.cfg 139 [dL (dM l),.fn 140 [.ptr i1 g1 0,.ptr i2 g2 0,.ptr i3 g3 0]] hp n c (.bool (l.any p)):=by
 obtain ⟨h5,h6,h4⟩:=eK.fn (fun c=>aNj (p:=p) l hl hp n hq c)
 simp only[dL] at h4
 rw[←xZ]
 refine fV Tryz.func139 rfl (by kernel_rfl) rfl ?_
 refine mW (j4 @aN @aO @aA @h4) ?_
 exact ⟨.inr rfl,rfl,_,rfl,rfl⟩
theorem aVF (r:Nat):Ob.keep 138 r=Ob.k138 r:=by kernel_rfl
theorem aSC (r:Nat):Ob.keep 111 r=Ob.k111 r:=by kernel_rfl
attribute [local simp] aVF Ob.k138 aSC Ob.k111
theorem aMQ {i1 g1 i2 g2 i3 g3:Nat} {p:List Y→Bool} (l:List (List Y)) (hl:l.length≤MX) (hp:Hp) (n:Nat) (hq:∀ v,v∈l→∀ bB c,Ag n hp bB→eK Tryz.prog Ob.cfg 112 [dL (dM v),.ptr i1 g1 0,.ptr i2 g2 0,.ptr i3 g3 0] bB n c (.bool (p v))) (c:Nat):
  eK Tryz.prog Ob.cfg 138 [dL (iL l),.fn 112 [.ptr i1 g1 0,.ptr i2 g2 0,.ptr i3 g3 0]] hp n c (.int .i64 (ixP p l)):=by
 unfold MX at hl
 refine fV Tryz.func138 rfl (by kernel_rfl) rfl ?_
 refine mW (j4 @aN @aO @aA @aX) ?_
 apply WP.loop' (I:=fun d s=>∃ i:Nat,i+d=l.length∧(l.take i).all (fun v=> !p v)=true∧SQ [(0,dL (iL l)),(1,.fn 112 [.ptr i1 g1 0,.ptr i2 g2 0,.ptr i3 g3 0]),(7,dI l.length),(8,dI i)] hp n n s) (d:=l.length)
 ·exact ⟨0,by simp,by simp,_,_,Ag.refl n hp,bK (by simp[dL,dI]) rfl⟩
 rintro d _ ⟨i,hii,cF,bB,c1,dW,rfl⟩
 refine mW (jn @aB @aA) ?_
 show WP _ _ _ _ _ _
 refine WP.cond _ rfl (fun hb=>?_) (fun hb=>?_)
 ·simp at hb
  have bP:i<l.length:=hb
  obtain ⟨v,hv,hvm,bV⟩:=bM bP
  have zO:=l9 hv
  have hw:=bE bP (by omega)
  have jP:=bZ (p:=fun v=> !p v) hv
  obtain ⟨h5,h6,h4⟩:=eK.fn (fun c=>hq v hvm bB c dW)
  simp only[aG,dL,dI,List.map_cons,List.map_nil] at h4
  refine mW (j5 @bV @zO @aA @aB @h4) ?_
  show WP _ _ _ _ _ _
  refine WP.cond _ rfl (fun hb=>?_) (fun hb=>?_)
  ·refine mW True.intro ?_
   rw[kZ cF hv hb]
   exact ⟨.inr rfl,rfl,_,rfl,rfl⟩
  ·refine mW True.intro ?_
   refine aY (by simp[hw];exact Is.rfl) ?_
   exact ⟨d - 1,by omega,i+1,by omega,by rw[jP,cF];simpa using hb,_,_,dW.trunc,bK (by simp[dI,dL,hw]) rfl⟩
 ·simp at hb
  have wB:i=l.length:=by omega
  subst wB
  rw[List.take_length] at cF
  refine mW True.intro ?_
  rw[kU cF]
  exact ⟨.inr rfl,rfl,_,rfl,rfl⟩
theorem aHr {i1 g1 i2 g2 i3 g3:Nat} {p:List Y→Bool} (l:List (List Y)) (hl:l.length≤MX) (hp:Hp) (n:Nat) (hq:∀ v,v∈l→∀ bB c,Ag n hp bB→eK Tryz.prog Ob.cfg 112 [dL (dM v),.ptr i1 g1 0,.ptr i2 g2 0,.ptr i3 g3 0] bB n c (.bool (p v))) (c:Nat):
  eK Tryz.prog Ob.cfg 111 [dL (iL l),.fn 112 [.ptr i1 g1 0,.ptr i2 g2 0,.ptr i3 g3 0]] hp n c (.bool (l.any p)):=by
 obtain ⟨h5,h6,h4⟩:=eK.fn (fun c=>aMQ (p:=p) l hl hp n hq c)
 simp only[dL] at h4
 rw[←xZ]
 refine fV Tryz.func111 rfl (by kernel_rfl) rfl ?_
 refine mW (j4 @aN @aO @aA @h4) ?_
 exact ⟨.inr rfl,rfl,_,rfl,rfl⟩
theorem aSY (r:Nat):Ob.keep 157 r=Ob.k157 r:=by kernel_rfl
attribute [local simp] aSY Ob.k157
theorem aNw {i1 g1:Nat} {p:Pr→Bool} (l:List (Pr)) (hl:l.length≤MX) (hp:Hp) (n:Nat) (hq:∀ v,v∈l→∀ bB c,Ag n hp bB→eK Tryz.prog Ob.cfg 158 [aG v.cells,.ptr i1 g1 0] bB n c (.bool (p v))) (c:Nat):
  eK Tryz.prog Ob.cfg 157 [dL (iJ l),.fn 158 [.ptr i1 g1 0]] hp n c (.int .i64 (ixP p l)):=by
 unfold MX at hl
 refine fV Tryz.func157 rfl (by kernel_rfl) rfl ?_
 refine mW (j4 @aN @aO @aA @lX) ?_
 apply WP.loop' (I:=fun d s=>∃ i:Nat,i+d=l.length∧(l.take i).all (fun v=> !p v)=true∧SQ [(0,dL (iJ l)),(1,.fn 158 [.ptr i1 g1 0]),(7,dI l.length),(8,dI i)] hp n n s) (d:=l.length)
 ·exact ⟨0,by simp,by simp,_,_,Ag.refl n hp,bK (by simp[dL,dI]) rfl⟩
 rintro d _ ⟨i,hii,cF,bB,c1,dW,rfl⟩
 refine mW (jn @aB @aA) ?_
 show WP _ _ _ _ _ _
 refine WP.cond _ rfl (fun hb=>?_) (fun hb=>?_)
 ·simp at hb
  have bP:i<l.length:=hb
  obtain ⟨v,hv,hvm,bV⟩:=bM bP
  have zO:=aFZ hv
  have hw:=bE bP (by omega)
  have jP:=bZ (p:=fun v=> !p v) hv
  obtain ⟨h5,h6,h4⟩:=eK.fn (fun c=>hq v hvm bB c dW)
  simp only[aG,dL,dI,Pr.cells,List.map_cons,List.map_nil] at h4
  refine mW (j6 @bV @zO @aA @aB @Pr.cells.eq_1 @h4) ?_
  show WP _ _ _ _ _ _
  refine WP.cond _ rfl (fun hb=>?_) (fun hb=>?_)
  ·refine mW True.intro ?_
   rw[kZ cF hv hb]
   exact ⟨.inr rfl,rfl,_,rfl,rfl⟩
  ·refine mW True.intro ?_
   refine aY (by simp[hw];exact Is.rfl) ?_
   exact ⟨d - 1,by omega,i+1,by omega,by rw[jP,cF];simpa using hb,_,_,dW.trunc,bK (by simp[dI,dL,hw]) rfl⟩
 ·simp at hb
  have wB:i=l.length:=by omega
  subst wB
  rw[List.take_length] at cF
  refine mW True.intro ?_
  rw[kU cF]
  exact ⟨.inr rfl,rfl,_,rfl,rfl⟩
end Go.Ac
end
section
set_option maxRecDepth 4000
namespace Go.Ac
open Go.Proofs
theorem aUx (r:Nat):Ob.keep 140 r=Ob.k140 r:=by kernel_rfl
theorem aSI (r:Nat):Ob.keep 113 r=Ob.k113 r:=by kernel_rfl
theorem aTb (r:Nat):Ob.keep 158 r=Ob.k158 r:=by kernel_rfl
attribute [local simp] aUx Ob.k140 aSI Ob.k113 aTb Ob.k158
theorem aOC {nm:Tx} {cx:List Pr} {can b:Bool} {y:Y} (h:eJ Tryz.prog Ob.cfg 141 [aG y.cells,dS nm,dL (iJ cx),dB can]=some (dB b)) {i1 g1 i2 g2 i3 g3:Nat} (hp:Hp) (n c:Nat)
  (h1:hp.get i1=some ⟨g1,false,[dS nm]⟩) (h2:hp.get i2=some ⟨g2,false,[dL (iJ cx)]⟩) (h3:hp.get i3=some ⟨g3,false,[dB can]⟩) (l1:i1<n) (l2:i2<n) (l3:i3<n):
  eK Tryz.prog Ob.cfg 140 [aG y.cells,.ptr i1 g1 0,.ptr i2 g2 0,.ptr i3 g3 0] hp n c (.bool b):=by
 have e1:∀ o,(hp.set n o).get i1=some ⟨g1,false,[dS nm]⟩:=fun o=>(Hp.get_set_ne hp n i1 o (by omega)).trans h1
 have e2:∀ o,(hp.set n o).get i2=some ⟨g2,false,[dL (iJ cx)]⟩:=fun o=>(Hp.get_set_ne hp n i2 o (by omega)).trans h2
 have e3:∀ o,(hp.set n o).get i3=some ⟨g3,false,[dB can]⟩:=fun o=>(Hp.get_set_ne hp n i3 o (by omega)).trans h3
 have e0:∀ o,(hp.set n o).get n=some o:=fun o=>Hp.get_set_self ..
 simp only[aG,aC,List.map_cons,List.map_nil,dL,dS,dB] at h e1 e2 e3
 refine fV Tryz.func140 rfl (by kernel_rfl) rfl ?_
 refine mW (qJ @aN @aO @aD @aC @aA @aM @aF @e0 @e1 @e2 @e3 @h) ?_
 exact ⟨.inr rfl,rfl,_,rfl,rfl⟩
theorem aOQ {nm:Tx} {rest:List V} {x:Pr} {i1 g1:Nat} {k:V} (hp:Hp) (n c:Nat) (h1:hp.get i1=some ⟨g1,false,k::dS nm::rest⟩) (l1:i1<n):
  eK Tryz.prog Ob.cfg 158 [aG x.cells,.ptr i1 g1 0] hp n c (.bool (decide (x.nm=nm))):=by
 have e1:∀ o,(hp.set n o).get i1=some ⟨g1,false,k::dS nm::rest⟩:=fun o=>(Hp.get_set_ne hp n i1 o (by omega)).trans h1
 have e0:∀ o,(hp.set n o).get n=some o:=fun o=>Hp.get_set_self ..
 simp only[dS] at e1
 refine fV Tryz.func158 rfl (by kernel_rfl) rfl ?_
 refine mW (j8 @aN @aO @aD @Pr.cells.eq_1 @aM @e0 @e1 @bF) ?_
 exact ⟨.inr rfl,rfl,_,rfl,rfl⟩
def aJU (nm:Tx) (can:Bool) (N:Nat):Prop:=∀ (l:List Y) (cx:List Pr),iG l<N→nbL l=true→cx.length+iG l≤8388608→eJ Tryz.prog Ob.cfg 113 [dL (dM l),dS nm,dL (iJ cx),dB can]=some (dB (vQ nm (!can) cx l))
theorem aOc {nm:Tx} {can:Bool} {cx:List Pr} (l:List Y) (hl:l.length≤MX) (h:∀ y,y∈l→eJ Tryz.prog Ob.cfg 141 [aG y.cells,dS nm,dL (iJ cx),dB can]=some (dB (asY nm (!can) cx y))):
  eJ Tryz.prog Ob.cfg 113 [dL (dM l),dS nm,dL (iJ cx),dB can]=some (dB (vQ nm (!can) cx l)):=by
 have hQ:=fun c=>aGG (i1:=0) (g1:=0) (i2:=1) (g2:=1) (i3:=2) (g3:=2) (p:=asY nm (!can) cx) l hl [(0,⟨0,false,[dS nm]⟩),(1,⟨1,false,[dL (iJ cx)]⟩),(2,⟨2,false,[dB can]⟩)] 3
  (fun v hv bB c dW=>aOC (h v hv) bB 3 c ((dW 0 (by omega)).trans rfl) ((dW 1 (by omega)).trans rfl) ((dW 2 (by omega)).trans rfl) (by omega) (by omega) (by omega)) c
 obtain ⟨h5,h6,h4⟩:=eK.fn hQ
 simp only[dL,dS,dB] at h4
 rw[z8]
 refine bI Tryz.func113 rfl (by kernel_rfl) rfl rfl ?_
 refine mW (j4 @aA @aM @aF @h4) ?_
 show a8 _ _ _ _ _
 exact ⟨.inr rfl,_,_,rfl,rfl⟩
end Go.Ac
end
section
set_option maxRecDepth 4000
namespace Go.Ac
open Go.Proofs
theorem aTC (r:Nat):Ob.keep 155 r=Ob.k155 r:=by kernel_rfl
theorem aTX (r:Nat):Ob.keep 175 r=Ob.k175 r:=by kernel_rfl
theorem aTE (r:Nat):Ob.keep 141 r=Ob.k141 r:=by kernel_rfl
attribute [local simp] aTC Ob.k155 aTX Ob.k175 aTE Ob.k141
theorem wH {α:Type} (p:α→Bool):∀ l:List α,(∃ (i:Nat) (v:α),l[i]?=some v∧(l.take i).all (fun a=> !p a)=true∧p v=true)∨l.all (fun a=> !p a)=true
 | []=> .inr rfl
 | a::r=>by
  cases h:p a with
  | true=>exact .inl ⟨0,a,rfl,rfl,h⟩
  | false=>
   rcases wH p r with ⟨i,v,h1,h2,h3⟩|h1
   ·exact .inl ⟨i+1,v,by simpa using h1,by simp[h,h2],h3⟩
   ·exact .inr (by simp only[List.all_cons,h,h1];rfl)
theorem aKf (x:Tx) (all:Bool) (cx:List Pr) (nm:Tx):∀ (a b:List (List Y)) (k:Nat),yJ x all cx nm k (a++b)=yJ x all cx nm k a+yJ x all cx nm (k+a.length) b
 | [],b,k=>by simp[yJ]
 | c::r,b,k=>by
  rw[List.cons_append,yJ,yJ,aKf x all cx nm r b (k+1),List.length_cons,show k+1+r.length=k+(r.length+1) by omega];omega
theorem aON (x:Tx) (all:Bool) (cx:List Pr) (nm:Tx) (l:List (List Y)) (j:Nat):yJ x all cx nm 0 (l.take j)≤yJ x all cx nm 0 l∧yJ x all cx nm 0 l≤yJ x all cx nm 0 (l.take j)+(l.length - j):=by
 have h:=aKf x all cx nm (l.take j) (l.drop j) 0
 rw[List.take_append_drop] at h
 have h2:=aAj x all cx nm (l.drop j) (0+(l.take j).length)
 rw[List.length_drop] at h2
 omega
set_option maxHeartbeats 1000000 in
theorem aLP (l:List Tx) (x:Tx) (hl:l.length≤MX):eJ Tryz.prog Ob.cfg 175 [dL (eX l),dS x]=some (dI (ixP (fun v=>decide (x=v)) l)):=by
 unfold MX at hl
 refine bI Tryz.func175 rfl (by kernel_rfl) rfl rfl ?_
 refine mW (j3 @aA @aM @aW) ?_
 apply WP.loop' (I:=fun D s=>∃ j:Nat,j+D=l.length∧(l.take j).all (fun v=> !decide (x=v))=true∧SE [(0,dL (eX l)),(1,dS x),(7,dI l.length),(8,dI j)] [] 0 s) (d:=l.length)
 ·exact ⟨0,by simp,by simp,SE.mk (by simp[dI,dL,dS]) rfl⟩
 rintro D _ ⟨j,hj,cF,cc,rfl⟩
 refine mW (j3 @aB @aA @aM) ?_
 show WP _ _ _ _ _ _
 refine WP.cond _ rfl (fun hb=>?_) (fun hb=>?_)
 ·simp at hb
  have bP:j<l.length:=by omega
  obtain ⟨d,hd,d8,bV⟩:=bM bP
  have cG:=sW hd
  have hw:=bE bP (by omega)
  have hs:=bZ (p:=fun v=> !decide (x=v)) hd
  by_cases hq:x=d
  ·have g9:=eq_true hq
   rw[kZ cF hd (decide_eq_true hq)]
   refine rI (j7 @aB @aA @aM @bV @cG @bF @g9) ?_
   show a8 _ _ _ _ _
   exact ⟨.inr rfl,_,_,rfl,rfl⟩
  ·have g9:=eq_false hq
   refine rI (j7 @aB @aA @aM @bV @cG @bF @g9) ?_
   refine aY (by simp[hw];exact Is.rfl) ?_
   exact ⟨D - 1,by omega,j+1,by omega,by rw[hs,cF,decide_eq_false hq];rfl,SE.mk (by simp[dI,dL,dS,hw]) rfl⟩
 ·simp at hb
  have eE:j=l.length:=by omega
  rw[eE,List.take_length] at cF
  rw[kU cF]
  refine rI (j3 @aB @aA @aM) ?_
  show a8 _ _ _ _ _
  exact ⟨.inr rfl,_,_,rfl,rfl⟩
theorem aCd (l:List Tx) (x:Tx) (hl:l.length≤MX):eJ Tryz.prog Ob.cfg 155 [dL (eX l),dS x]=some (dB (decide (x∈l))):=by
 have h:=aLP l x hl
 simp only[dL,dS,dI] at h
 have he:decide (x∈l)=decide (0≤ixP (fun v=>decide (x=v)) l):=by
  rw[xZ]
  by_cases hm:x∈l
  ·rw[kG hm];exact (List.any_eq_true.2 ⟨x,hm,by simp⟩).symm
  ·rw[iC hm];symm;rw[List.any_eq_false];intro y hy;simp;intro he;subst he;exact hm hy
 rw[he]
 refine bI Tryz.func155 rfl (by kernel_rfl) rfl rfl ?_
 refine mW (j3 @aA @aM @h) ?_
 show a8 _ _ _ _ _
 exact ⟨.inr rfl,_,_,rfl,rfl⟩
set_option maxHeartbeats 4000000 in
theorem aJn {x:Tx} {can:Bool} {N:Nat} (h:aJU x can N) (y:Y) (cx:List Pr) (hy:y.sz≤N) (hnb:nbY y=true) (hb0:cx.length+y.sz≤8388608):eJ Tryz.prog Ob.cfg 141 [aG y.cells,dS x,dL (iJ cx),dB can]=some (dB (asY x (!can) cx y)):=by
 rw[Y.sz_eq] at hy hb0
 have k1:=oU y.outs
 have k2:=s8 y.brs
 have ho:=aCd y.outs x (by unfold MX;omega)
 simp only[dL,dS,dB] at ho
 rw[aNB,Bool.and_eq_true] at hnb
 obtain ⟨hn1,hn2⟩:=hnb
 rw[aJq]
 refine bI Tryz.func141 rfl (by kernel_rfl) rfl rfl ?_
 by_cases q1:y.k=1
 ·rw[if_pos q1]
  refine rI (j8 @aD @aC @aA @aM @aF @aS @bF @q1) ?_
  show a8 _ _ _ _ _
  exact ⟨.inr rfl,_,_,rfl,rfl⟩
 rw[if_neg q1]
 by_cases q4:y.k=4
 ·rw[if_pos q4]
  refine rI (j9 @aD @aC @aA @aM @aF @aS @bF @q4 @ho) ?_
  show a8 _ _ _ _ _
  exact ⟨.inr rfl,_,_,rfl,rfl⟩
 rw[if_neg q4]
 by_cases q3:y.k=3
 case neg=>
  rw[if_neg q3]
  refine rI (j9 @aD @aC @aA @aM @aF @aS @q1 @q4 @q3) ?_
  show a8 _ _ _ _ _
  exact ⟨.inr rfl,_,_,rfl,rfl⟩
 rw[if_pos q3]
 have hbr:y.brs≠[]:=by simpa [q3] using hn1
 have hQ:=fun c=>aNw (i1:=0) (g1:=0) (p:=fun p:Pr=>decide (p.nm=y.nm)) cx (by unfold MX;omega) [(0,⟨0,false,y.cells.map .d⟩)] 1
  (fun v hv bB c dW=>aOQ (nm:=y.nm) (rest:=(y.cells.drop 2).map .d) (k:= .d (.int .i64 y.k)) bB 1 c ((dW 0 (by omega)).trans (by rw[aC];rfl)) (by omega)) c
 obtain ⟨h5,h6,h4⟩:=eK.fn hQ
 simp only[dL,dS,dB,aC,List.map_cons,List.map_nil,q3] at h4
 rcases wH (fun p:Pr=>decide (p.nm=y.nm)) cx with ⟨i,p,hp,cF,hpp⟩|cF
 ·have hf:=m8 cF hp hpp
  rw[kZ cF hp hpp] at h4
  rw[hf]
  have wB:i<cx.length:=(List.getElem?_eq_some_iff.1 hp).1
  have bV:=kX wB
  have bB:=aFZ hp
  by_cases eU:p.br<y.brs.length
  ·have c1:((p.br:Int)<y.brs.length)=True:=eq_true (by omega)
   obtain ⟨b,xG,zR,uH⟩:=bM eU
   have lC:=l9 xG
   have hr:=h b cx (by have:=gR zR;omega) (by rw[aAs] at hn2;exact List.all_eq_true.1 hn2 b zR) (by have:=gR zR;omega)
   have he:=aJp x (!can) cx y.brs p.br b xG
   simp only[he]
   simp only[dL,dS,dB] at hr
   refine rI (nB @aD @aB @aA @aM @aF @aC @Pr.cells.eq_1 @q3 @aS @h4 @bV @bB @uH @lC @hr @c1) ?_
   show a8 _ _ _ _ _
   exact ⟨.inr rfl,_,_,rfl,rfl⟩
  ·have c1:((p.br:Int)<y.brs.length)=False:=eq_false (by omega)
   have c1':(p.br<y.brs.length)=False:=eq_false eU
   have he:=aFC x (!can) cx y.brs p.br (by omega)
   simp only[he]
   refine rI (vM @aD @aB @aA @aM @aF @aC @Pr.cells.eq_1 @q3 @aS @h4 @bV @bB @c1 @c1') ?_
   show a8 _ _ _ _ _
   exact ⟨.inr rfl,_,_,rfl,rfl⟩
 have hf:=lL cF
 rw[kU cF] at h4
 rw[hf]
 have r1:=fun look=>aAM look (gO cx)
 have f1:bU cx.length 24=true:=by simp[bU];omega
 rw[lX] at r1
 refine rI (oR @aD @aB @aA @aM @aF @aC @q3 @aS @h4 @aX) ?_
 apply WP.loop' (I:=fun D s=>∃ i:Nat,i+D=y.brs.length∧yJ x (!can) cx y.nm 0 (y.brs.take i)=(if can=true then 0 else i)∧SE [(1,dS x),(2,dL (iJ cx)),(3,dB can),(4,.ptr 0 0 0),(60,dL (iL y.brs)),(61,dI y.brs.length),(62,dI i)] [(0,⟨0,false,y.cells.map .d⟩)] 1 s) (d:=y.brs.length)
 ·exact ⟨0,by simp,by simp[yJ],SE.mk (by simp[dI,dL,dS,dB]) (by simp[aC,q3])⟩
 rintro D _ ⟨i,hi,hn,cc,rfl⟩
 refine mW (j5 @aB @aA @aM @aF @aC) ?_
 show WP _ _ _ _ _ _
 refine WP.cond _ rfl (fun hb=>?_) (fun hb=>?_)
 ·simp at hb
  have bP:i<y.brs.length:=by omega
  obtain ⟨b,xG,zR,uH⟩:=bM bP
  have lC:=l9 xG
  have hw:=bE bP (by omega)
  have hr:=h b (cx++[⟨y.nm,i⟩]) (by have:=gR zR;omega) (by rw[aAs] at hn2;exact List.all_eq_true.1 hn2 b zR) (by have:=gR zR;simp;omega)
  have jP:y.brs.take (i+1)=y.brs.take i++[b]:=bL xG
  have hcn:=aAd x (!can) cx y.nm (y.brs.take i) 0 b
  rw[←jP,hn,List.length_take,Nat.min_eq_left (by omega),Nat.zero_add] at hcn
  have aPn:=aON x (!can) cx y.nm y.brs (i+1)
  have r2:=cR (gO cx)
  have r3:=cI (gO cx)
  have r4:=dT (iJ cx) (Pr.cells ⟨y.nm,i⟩)
  have r5:=aBu cx ⟨y.nm,i⟩
  have r6:=cR (gO (cx++[⟨y.nm,i⟩]))
  have r7:=cI (gO (cx++[⟨y.nm,i⟩]))
  have r8:=eN (gO (cx++[⟨y.nm,i⟩]))
  have f2:bU (cx.length+1) 24=true:=by simp[bU];omega
  rw[r5] at r4
  rw[lX] at r2 r3
  simp only[lX,List.length_append,List.length_cons,List.length_nil,Nat.zero_add] at r6 r7 r8
  simp only[Pr.cells,List.map_cons,List.map_nil] at r4
  simp only[dL,dS,dB,dI] at hr
  cases he:vQ x (!can) (cx++[⟨y.nm,i⟩]) b with
  | true=>
   rw[he] at hr hcn
   cases can with
   | true=>
    rw[show (if (!true)=true then decide (yJ x (!true) cx y.nm 0 y.brs=y.brs.length) else decide (0<yJ x (!true) cx y.nm 0 y.brs))=true by simp;simp at hcn aPn;omega]
    refine rI (j23 @aB @aA @aM @aF @aC @uH @lC @r1 @f1 @f2 @r2 @r3 @r4 @r6 @r7 @r8 @bG @b8 @cJ @bH @hr @aP @aQ) ?_
    show a8 _ _ _ _ _
    exact ⟨.inr rfl,_,_,rfl,rfl⟩
   | false=>
    refine rI (j23 @aB @aA @aM @aF @aC @uH @lC @r1 @f1 @f2 @r2 @r3 @r4 @r6 @r7 @r8 @bG @b8 @cJ @bH @hr @aP @aQ) ?_
    refine aY (by simp[hw];exact Is.rfl) ?_
    exact ⟨D - 1,by omega,i+1,by omega,by rw[hcn];simp,SE.mk (by simp[dI,dL,dS,dB,hw]) (by simp[aC])⟩
  | false=>
   rw[he] at hr hcn
   cases can with
   | false=>
    rw[show (if (!false)=true then decide (yJ x (!false) cx y.nm 0 y.brs=y.brs.length) else decide (0<yJ x (!false) cx y.nm 0 y.brs))=false by simp;simp at hcn aPn;omega]
    refine rI (j23 @aB @aA @aM @aF @aC @uH @lC @r1 @f1 @f2 @r2 @r3 @r4 @r6 @r7 @r8 @bG @b8 @cJ @bH @hr @aP @aQ) ?_
    show a8 _ _ _ _ _
    exact ⟨.inr rfl,_,_,rfl,rfl⟩
   | true=>
    refine rI (j23 @aB @aA @aM @aF @aC @uH @lC @r1 @f1 @f2 @r2 @r3 @r4 @r6 @r7 @r8 @bG @b8 @cJ @bH @hr @aP @aQ) ?_
    refine aY (by simp[hw];exact Is.rfl) ?_
    exact ⟨D - 1,by omega,i+1,by omega,by rw[hcn];simp,SE.mk (by simp[dI,dL,dS,dB,hw]) (by simp[aC])⟩
 ·simp at hb
  have kP:i=y.brs.length:=by omega
  rw[kP,List.take_length] at hn
  simp only[hn]
  cases can with
  | true=>
   refine rI (j5 @aB @aA @aM @aF @aC) ?_
   exact ⟨.inr rfl,_,_,rfl,by simp;rfl⟩
  | false=>
   refine rI (j9 @aB @aA @aM @aF @aC @aX @qL @g8 @hbr) ?_
   exact ⟨.inr rfl,_,_,rfl,by simp;rfl⟩
theorem aVM:∀ (x:Tx) (can:Bool) (N:Nat),aJU x can N:=by
 intro x can N
 induction N with
 | zero=>intro l cx h;omega
 | succ N ih=>
 intro l cx hN hnb hb0
 have k1:=l0 l
 rw[xN] at hnb
 exact aOc l (by unfold MX;omega) fun y hy=>aJn ih y cx (by have:=nS hy;omega) (List.all_eq_true.1 hnb y hy) (by have:=nS hy;omega)
end Go.Ac
end
section
set_option maxRecDepth 4000
namespace Go.Ac
open Go.Proofs
def pP (cx:List Pr) (bl:List (List Y)):V:= .agg [.d (.slice (iJ cx)),.d (.slice (iL bl))]
theorem aTS (r:Nat):Ob.keep 112 r=Ob.k112 r:=by kernel_rfl
theorem aXC (r:Nat):Ob.keep 71 r=Ob.k71 r:=by kernel_rfl
theorem aVo (r:Nat):Ob.keep 110 r=Ob.k110 r:=by kernel_rfl
attribute [local simp] aTS Ob.k112 aXC Ob.k71 aVo Ob.k110
theorem aGF (x:Tx) (all:Bool) (cx:List Pr):∀ bl:List (List Y),bl.any (vQ x all cx)=vQ x all cx bl.flatten
 | []=>by rw[List.flatten_nil,vQ];rfl
 | b::r=>by rw[List.any_cons,aGF x all cx r,List.flatten_cons];simp only[z8,List.any_append]
theorem aOr {nm:Tx} {cx:List Pr} {can b:Bool} {l:List Y} {bf:D} (h:eJ Tryz.prog Ob.cfg 113 [dL (dM l),dS nm,dL (iJ cx),dB can]=some (dB b)) {i1 g1 i2 g2 i3 g3:Nat} (hp:Hp) (n c:Nat)
  (h1:hp.get i1=some ⟨g1,false,[dS nm]⟩) (h2:hp.get i2=some ⟨g2,false,[dL (iJ cx),.d bf]⟩) (h3:hp.get i3=some ⟨g3,false,[dB can]⟩) (l1:i1<n) (l2:i2<n) (l3:i3<n):
  eK Tryz.prog Ob.cfg 112 [dL (dM l),.ptr i1 g1 0,.ptr i2 g2 0,.ptr i3 g3 0] hp n c (.bool b):=by
 simp only[dL,dS,dB] at h h1 h2 h3
 refine fV Tryz.func112 rfl (by kernel_rfl) rfl ?_
 refine mW (j9 @aN @aO @aA @aM @aF @h1 @h2 @h3 @h) ?_
 exact ⟨.inr rfl,rfl,_,rfl,rfl⟩
theorem zE (nm:Tx) (can:Bool) (cx:List Pr) (bl:List (List Y)) (hl:bl.length≤MX) (hnb:nbB bl=true) (hb:cx.length+iG bl.flatten≤8388608):eJ Tryz.prog Ob.cfg 71 [pP cx bl,dS nm,dB can]=some (dB (vQ nm (!can) cx bl.flatten)):=by
 have gK:∀ l,l∈bl→iG l≤iG bl.flatten:=by
  intro l hl
  induction bl with
  | nil=>simp at hl
  | cons b r ih=>
   rw[List.flatten_cons,zU]
   rcases List.mem_cons.1 hl with rfl|h
   ·omega
   ·have:=ih (by rw[List.length_cons] at *;unfold MX at *;omega) (by rw[nbB,Bool.and_eq_true] at hnb;exact hnb.2) (by rw[List.flatten_cons,zU] at hb;omega) h;omega
 rw[aAs] at hnb
 have hQ:=fun c=>aHr (i1:=1) (g1:=1) (i2:=0) (g2:=0) (i3:=2) (g3:=2) (p:=vQ nm (!can) cx) bl hl [(0,⟨0,false,[dL (iJ cx),dL (iL bl)]⟩),(1,⟨1,false,[dS nm]⟩),(2,⟨2,false,[dB can]⟩)] 3
  (fun l hl bB c dW=>aOr (bf:= .slice (iL bl)) (aVM nm can _ l cx (Nat.lt_succ_self _) (List.all_eq_true.1 hnb l hl) (by have:=gK l hl;omega)) bB 3 c ((dW 1 (by omega)).trans rfl) ((dW 0 (by omega)).trans rfl) ((dW 2 (by omega)).trans rfl) (by omega) (by omega) (by omega)) c
 obtain ⟨h5,h6,h4⟩:=eK.fn hQ
 simp only[dL,dS,dB] at h4
 rw[←aGF]
 refine bI Tryz.func71 rfl (by kernel_rfl) rfl rfl ?_
 refine mW (j5 @pP.eq_1 @aA @aM @aF @h4) ?_
 show a8 _ _ _ _ _
 exact ⟨.inr rfl,_,_,rfl,rfl⟩
theorem lB (l:List (List Y)):∀ r∈iL l,r.length=1:=by rw[tQ];intro r hr;obtain ⟨x,_,rfl⟩:=List.mem_map.1 hr;rfl
theorem aED (l:List (List Y)) (y:List Y):iL l++[[.slice (dM y)]]=iL (l++[y]):=by simp[tQ]
theorem aLE (l:List Y) (j:Nat):(dM l).take j=dM (l.take j):=by rw[pF,pF,List.map_take]
set_option maxHeartbeats 1000000 in
theorem aPH (cx:List Pr) (bl:List (List Y)) (l:List Y) (i:Nat) (hi:i≤l.length) (hb:bl.length≤8388608) (hl:l.length≤8388608):eJ Tryz.prog Ob.cfg 110 [pP cx bl,dL (dM l),dI i]=some (pP cx (bl++[l.take i])):=by
 have yY:=fun look e b z=>oA look e b z (pD l) (j:=i) (by rw[cV];omega)
 have etk:=aLE l i
 have r1:=fun look=>aAM look (lB bl)
 have r2:=cR (lB bl)
 have r3:=cI (lB bl)
 have r4:=dT (iL bl) [.slice (dM (l.take i))]
 have r5:=aED bl (l.take i)
 have r6:=cR (lB (bl++[l.take i]))
 have r7:=cI (lB (bl++[l.take i]))
 have r8:=eN (lB (bl++[l.take i]))
 have f1:bU bl.length 24=true:=by simp[bU];omega
 have f2:bU (bl.length+1) 24=true:=by simp[bU];omega
 rw[r5] at r4
 rw[aX] at r2 r3
 simp only[aX] at r1
 simp only[aX,List.length_append,List.length_cons,List.length_nil,Nat.zero_add,Nat.mul_one] at r2 r3 r6 r7 r8
 simp only[List.map_cons,List.map_nil] at r4
 refine bI Tryz.func110 rfl (by kernel_rfl) rfl rfl ?_
 refine mW (j22 @pP.eq_1 @aA @aB @yY @etk @r1 @r2 @r3 @r4 @r6 @r7 @r8 @f1 @f2 @aH @aI @aP @aQ @bG @b8 @cJ @bH) ?_
 refine ⟨.inr rfl,_,[2],rfl,?_⟩
 show d7 _ (.agg [V.d (D.slice (iJ cx)),V.osl 2 4 0 (bl.length+1) 1 none])=_
 simp[d7,pP,b8,bG,r6,r7,r8,cJ,bH]
end Go.Ac
end
