/- Where the reference's instances lie (plain). -/
import Derived.Test.YtkgekafdhehleaaGreatObXzM
set_option linter.unusedVariables false
set_option linter.unusedSimpArgs false
section
set_option maxRecDepth 4000
namespace Go.Ac
open Go.Proofs
attribute [local simp] Hp.get_set cY cE cN bW
mutual
def d9:Trn→List Int
 | .mk c ms sb=>c.mems.map (fun d=>d.t)++iW sb
def iW:List Trn→List Int
 | []=>[]
 | t::r=>d9 t++iW r
end
theorem tT:∀ (l:List Trn) (i:Nat) (t:Trn),l[i]?=some t→iW (l.take (i+1))=iW (l.take i)++d9 t
 | [],i,t,h=>by simp at h
 | x::r,0,t,h=>by simp at h;subst h;simp[iW]
 | x::r,i+1,t,h=>by
  rw[List.take_succ_cons,List.take_succ_cons,iW,iW,tT r i t (by simpa using h),List.append_assoc]
theorem aAx:∀ (l:List Trn) (i:Nat),(iW (l.take i)).length≤(iW l).length
 | [],i=>by simp
 | x::r,0=>by simp[iW]
 | x::r,i+1=>by rw[List.take_succ_cons,iW,iW,List.length_append,List.length_append];have:=aAx r i;omega
theorem aXP (r:Nat):Ob.keep 55 r=Ob.k55 r:=by kernel_rfl
attribute [local simp] aXP Ob.k55
set_option maxHeartbeats 8000000 in
theorem aOp {o:Oc} (hO:OW o):∀ (N:Nat) (t:Trn) (p:Pt),t.ht<N→t.ok o→(d9 t).length≤17592186044416→∀ hp n cc,Lies o.en t p hp n→jL Tryz.prog Ob.cfg 55 [.ptr p.a.x p.a.gx 0] hp n cc (dL (bQ (d9 t))):=by
 intro N
 induction N with
 | zero=>intro t p h;omega
 | succ N ih=>
 intro t p hht cC hml hp n cc hK
 obtain ⟨c,ms,sb⟩:=t
 obtain ⟨pb,ps⟩:=p
 rw[Trn.ok] at cC
 rw[Trn.ht] at hht
 rw[d9] at hml ⊢
 rw[List.length_append,List.length_map] at hml
 have hc:=cC.1
 have gI:=(hO.len c hc).sum
 have hxo:=hK.st (pb.x,oO pb.gx o.en c pb.im pb.gm pb.ii pb.gi) (by rw[yI];simp)
 obtain ⟨lx,kD⟩:=hxo
 simp only[oO] at lx kD
 obtain ⟨li,hio⟩:=hK.st (pb.ii,⟨pb.gi,false,[fW eP (gT c ps)]⟩) (by rw[yI];simp)
 obtain ⟨lm,hmo⟩:=hK.me (pb.im,⟨pb.gm,false,[fW eI ms]⟩) (by rw[oF];simp)
 simp only at li hio lm hmo
 have nx:=nf lx
 have ni:=nf li
 have nm:=nf lm
 show jL Tryz.prog Ob.cfg 55 [.ptr pb.x pb.gx 0] hp n cc _
 refine j1 Tryz.func55 rfl (by kernel_rfl) rfl ?_
 refine cT (j8 @aN @aO @aB @aA @aH @aI @kD @nx) ?_
 apply WP.loop' (I:=fun D st=>∃ (j g c':Nat) (bB:Hp) (L:List Int),j+D=c.mems.length∧L=(c.mems.take j).map (fun d=>d.t)∧Ag n hp bB∧bB.get n=some ⟨g,false,fl (bQ L)⟩∧
  st=⟨[(0,.ptr pb.x pb.gx 0),(3,.osl n g 0 j 1 none),(12,dL (lF c.mems)),(13,dI c.mems.length),(14,dI j)],bB,n+1,c',n,[]⟩) (d:=c.mems.length)
 ·exact ⟨0,_,_,_,[],by simp,by simp,by simp,by simp[fl,bQ];rfl,bK (by simp[dI,dL]) rfl⟩
 rintro D _ ⟨j,g,c',bB,L,hj,hL,dW,hx,rfl⟩
 have dN:=eq_true dW
 have fN:=(dW _ lx).trans kD
 refine pS (jn @aB @aA) ?_
 show WP _ _ _ _ _ _
 refine WP.cond _ rfl (fun hb=>?_) (fun hb=>?_)
 ·simp at hb
  have bP:j<c.mems.length:=by omega
  obtain ⟨d,hd,d8,bV⟩:=bM bP
  have cG:=kI hd
  have c9:=bE bP (by omega)
  have y6:=bL hd
  have nT:L.length=j:=by rw[hL];simp;omega
  have hLs:(c.mems.take (j+1)).map (fun d=>d.t)=L++[d.t]:=by rw[y6,hL];simp
  have r2:=cR (b7 L)
  have r3:=cI (b7 L)
  have r4:=dT (bQ L) [.int .i64 (d.t)]
  have r5:=g7 L (d.t)
  have f5:bU (j+1) 8=true:=by simp[bU];omega
  rw[r5] at r4
  rw[aZ,nT,Nat.mul_one] at r2 r3
  simp only[List.map_cons,List.map_nil] at r4
  refine cT (j21 @aB @aA @bV @cG @Mm.cells.eq_1 @aH @aI @fN @nx @nm @hx @aP @aQ @iE.eq_def @bG @b8 @bH @f5 @r2 @r3 @r4) ?_
  refine aY (by simp[c9];exact Is.rfl) ?_
  exact ⟨D - 1,by omega,j+1,_,_,_,_,by omega,hLs.symm,by simp[dW],by simp;rfl,bK (by simp[dI,dL,c9]) rfl⟩
 simp at hb
 have eE:j=c.mems.length:=by omega
 rw[eE,List.take_length] at hL
 refine cT (j4 @aB @aA @fN @nx) ?_
 have nT:L.length=j:=by rw[hL,eE];simp
 have fA:=hK.fit
 rw[fit] at fA
 have yY:=fA.1
 have hpl:=oZ sb ps fA.2
 have mB:(c.ins.map Ii.nm).Nodup:=by
  have:=(hO.wf c hc).nd
  unfold Cl.names at this
  exact (List.nodup_append.1 this).2.1
 obtain ⟨z,hz⟩:=aNs
 apply WP.loop' (I:=fun D2 st=>∃ (i g2 m c5:Nat) (jQ:Hp) (L5:List Int),i+D2=c.ins.length∧L5=L++iW (sb.take i)∧m=L5.length∧Ag n hp jQ∧jQ.get n=some ⟨g2,false,fl (bQ L5)⟩∧
  st=⟨[(0,.ptr pb.x pb.gx 0),(3,.osl n g2 0 m 1 none),(28,dL (lV c.ins)),(29,dI c.ins.length),(30,dI i)],jQ,n+1,c5,n,[]⟩) (d:=c.ins.length)
 ·exact ⟨0,g,j,_,_,L,by simp,by simp[iW],nT.symm,dW,hx,bK (by simp[dI,dL]) rfl⟩
 rintro D2 _ ⟨i,g2,m,c5,jQ,L5,hi5,hL5,hm5,vE,lP,rfl⟩
 have aEi:=eq_true vE
 have vF:=(vE _ lx).trans kD
 have aGD:=(vE _ li).trans hio
 refine pS (jn @aB @aA) ?_
 show WP _ _ _ _ _ _
 refine WP.cond _ rfl (fun hb=>?_) (fun hb=>?_)
 ·simp at hb
  have hb5:i<c.ins.length:=by omega
  obtain ⟨d,hd,d8,bV⟩:=bM hb5
  have cG:=nP hd
  have c9:=bE hb5 (by omega)
  have jP:sb[i]?=some (sb[i]'(by omega)):=List.getElem?_eq_getElem (by omega)
  generalize (sb[i]'(by omega))=t at jP
  obtain ⟨q,hq,pR⟩:=hK.sub (i:=i) (u:=t) jP
  have hq:ps[i]?=some q:=hq
  obtain ⟨_,_,_,hto⟩:=uZ o sb c.ins i t cC.2.2 jP
  have aEg:=z6 c.ins i d mB hd
  have tG:=tV c.ins ps d.nm q (by rw[aEg];exact hb5) (by rw[aEg];exact hq)
  have yF:∀ (look:cA) (sz by_:Nat) (zr:Option (List V)),look pb.ii=some ⟨pb.gi,false,[fW eP (gT c ps)]⟩→gU look ⟨.str,sz,by_,zr⟩ (some z) (.mp pb.ii pb.gi) (.d (.str d.nm)) false=some ⟨.ptr q.a.x q.a.gx 0,[],[pb.ii],0,0,false⟩:=by
   intro look sz by_ zr h
   rw[iO eP (gT c ps) h]
   unfold gT
   rw[tG];rfl
  have aEj:t.ht<N:=by have:=lM (List.mem_of_getElem? jP);omega
  have hmt:=tT sb i t jP
  have yM:=aAx sb (i+1)
  rw[hmt,List.length_append] at yM
  obtain ⟨F,G,hF⟩:=fY (C:=fun eW n2=>Ag n hp eW∧n≤n2) (P:=Tryz.prog) (cfg:=Ob.cfg) (f:=55) (vs:=[.ptr q.a.x q.a.gx 0]) (v:=dL (bQ (d9 t))) (fun eW n2 c2 hC=>ih t q aEj hto (by omega) eW n2 c2 (pR.mono hC.1 hC.2))
  have hr:=fun eW n2 c2 a b=>hF eW n2 c2 ⟨a,b⟩
  simp only[dL] at hr
  have r2:=cR (b7 L5)
  have r3:=cI (b7 L5)
  rw[aZ,←hm5,Nat.mul_one] at r2 r3
  have f5:bU (m+(d9 t).length) 8=true:=by simp[bU];rw[hm5,hL5,List.length_append];omega
  refine cT (j28 @aB @aA @bV @cG @Ii.cells.eq_1 @aH @aI @vF @nx @ni @aGD @yF @hz @hr @lP @aEi @aP @aQ @iE.eq_def @bG @b8 @bH @f5 @r2 @r3 @aZ @aAb @sM) ?_
  refine aY (by simp[c9];exact Is.rfl) ?_
  refine ⟨D2 - 1,by omega,i+1,_,m+(d9 t).length,_,_,L5++d9 t,by omega,by rw[hL5,hmt,List.append_assoc],by rw[List.length_append,←hm5],by simp[vE],by simp;rfl,bK (by simp[dI,dL,c9]) rfl⟩
 simp at hb
 have kP:i=c.ins.length:=by omega
 have hst:sb.take i=sb:=List.take_of_length_le (by omega)
 rw[hst,hL] at hL5
 refine cT (jn @aB @aA) ?_
 have gI:=jA (look:=jQ.get) (id:=n) (g:=g2) (ro:=false) (cap:=none) (b7 L5) lP
 rw[aZ,←hm5] at gI
 refine ⟨.inr rfl,rfl,_,[n],rfl,?_,by simp[Nat.ble_eq]⟩
 show d7 jQ.get (.osl n g2 0 m 1 none)=_
 rw[gI,hL5]
end Go.Ac
end
section
set_option maxRecDepth 4000
namespace Go.Ac
open Go.Proofs
def i5 (o:Oc):Nat→Cl→Trn
 | 0,c=> .mk c [] []
 | k+1,c=> .mk c (puts [] (mI c.mems)) (c.ins.map fun i=>i5 o k (dC o.cl i.cl).1)
theorem aCM {α:Type}:∀ (l a:List (Tx×α)),((a++l).map Prod.fst).Nodup→puts a l=a++l
 | [],a,_=>by rw[puts,List.append_nil]
 | p::r,a,h=>by
  have hp:jY a p.1 p.2=a++[p]:=by
   unfold jY
   cases hf:List.findIdx? (fun q=>decide (q.1=p.1)) a with
   | none=>rfl
   | some i=>
    exfalso
    obtain ⟨hi,hx⟩:=rJ hf
    rw[List.map_append,List.nodup_append] at h
    exact h.2.2 _ (List.mem_map.2 ⟨_,List.getElem_mem hi,rfl⟩) p.1 (by simp) hx
  rw[puts,hp,aCM r (a++[p]) (by rw[List.append_assoc];exact h),List.append_assoc]
  rfl
theorem aMj {l:List Cl} {x:Tx} (h:(dC l x).2=true):∃ j:Nat,j<l.length∧l[j]?=some (dC l x).1:=by
 unfold dC at h ⊢
 cases hf:l.find? (fun d=>decide (d.nm=x)) with
 | none=>rw[hf] at h;cases h
 | some d=>
  obtain ⟨j,hj⟩:=List.mem_iff_getElem?.1 (List.mem_of_find?_eq_some hf)
  exact ⟨j,(List.getElem?_eq_some_iff.1 hj).1,hj⟩
theorem oK {o:Oc} (h:dH o=0) {i:Nat} {c:Cl} (hi:o.cl[i]?=some c):∀ d,d∈c.ins→∃ j:Nat,j<i∧o.cl[j]?=some (dC o.cl d.cl).1∧(dC o.cl d.cl).2=true:=by
 unfold dH at h
 split at h
 ·simp at h
 split at h
 ·simp at h
 have hk:=aFw o o.cl 0 i c h hi
 rw[Nat.zero_add] at hk
 unfold m5 at hk
 split at hk
 ·rename_i hn;exact absurd hk hn
 rename_i hh
 clear hk
 have hh:=Decidable.not_not.1 hh
 unfold aAD at hh
 split at hh
 ·simp at hh
 split at hh
 ·rename_i hn;exact absurd hh hn
 split at hh
 ·rename_i hn;exact absurd hh hn
 split at hh
 ·rename_i hn;exact absurd hh hn
 split at hh
 ·simp at hh
 split at hh
 ·simp at hh
 split at hh
 ·simp at hh
 rename_i e6
 intro d hd
 have h1:=aEQ e6 d hd
 have h2:(dC (o.cl.take i) d.cl).2=true:=by simpa using h1
 have h3:=aDn h2
 obtain ⟨j,hj,hja⟩:=aMj h2
 rw[List.length_take] at hj
 refine ⟨j,by omega,?_,by rw[h3];exact h2⟩
 rw[h3,←hja,List.getElem?_take,if_pos (by omega)]
theorem aRj (o:Oc) (k:Nat) (c:Cl):(i5 o k c).c=c:=by cases k <;> rfl
theorem aFI {o:Oc} (h:dH o=0):∀ (k i:Nat) (c:Cl),o.cl[i]?=some c→i<k→(i5 o k c).ok o
 | 0,i,c,_,hk=>by omega
 | k+1,i,c,hi,hk=>by
  have hc:=List.mem_of_getElem? hi
  have hw:=aAU h c hc
  have hmn:((mI c.mems).map Prod.fst)=c.mems.map Mm.nm:=by unfold mI;rw[List.map_map];rfl
  have mB:(c.mems.map Mm.nm).Nodup:=by
   have:=hw.nd
   unfold Cl.names at this
   exact (List.nodup_append.1 (List.nodup_append.1 this).1).2.1
  have hp:puts [] (mI c.mems)=mI c.mems:=by
   have:=aCM (mI c.mems) [] (by rw[List.nil_append,hmn];exact mB)
   simpa using this
  rw[i5,Trn.ok,hp]
  refine ⟨hc,⟨hmn,fun nm hn=>?_⟩,?_⟩
  ·obtain ⟨m,hm,rfl,he⟩:=wU hn
   have g:=hw.mem m hm
   have hv:gz (mI c.mems) m.nm=m.ini:=by
    unfold gz eS mI
    have hf:=qW Mm.nm c.mems mB m hm
    rw[List.find?_map]
    have:((fun p:Tx×Int=>decide (p.1=m.nm))∘fun d:Mm=>(d.nm,d.ini))=fun e:Mm=>decide (e.nm=m.nm):=rfl
    rw[this,hf];rfl
   rw[hv,g.1];exact g.2.2
  ·have hb:=oK h hi
   generalize c.ins=l at hb
   induction l with
   | nil=>rw[List.map_nil,rS]
   | cons d r ih=>
    rw[List.map_cons,rS,aRj]
    obtain ⟨j,hj,hja,hjt⟩:=hb d (List.mem_cons_self ..)
    exact ⟨Prod.ext rfl hjt,aFI h k j _ hja (by omega),ih fun e he=>hb e (List.mem_cons_of_mem _ he)⟩
end Go.Ac
end
section
set_option maxRecDepth 4000
namespace Go.Ac
open Go.Proofs
def shO (n c:Nat) (o:Ob):Ob:=⟨o.gen+c,o.ro,dQ n c o.cells⟩
theorem xS (n c:Nat) (l:List (Nat×Ob)):iI n c l=l.map fun p=>(p.1+n,shO n c p.2):=rfl
theorem Hp.get_sets_mem:∀ (wr:List (Nat×Ob)) (h:Hp) (j:Nat) (o:Ob),(∀ p,p∈wr→p.1=j→p.2=o)→(∃ p,p∈wr∧p.1=j)→(Hp.sets h wr).get j=some o
 | [],h,j,o,_,hx=>by obtain ⟨p,hp,_⟩:=hx;cases hp
 | (k,x)::r,h,j,o,ho,hx=>by
  simp only[Hp.sets]
  by_cases hr:∃ p,p∈r∧p.1=j
  ·exact Hp.get_sets_mem r _ j o (fun p hp=>ho p (List.mem_cons_of_mem _ hp)) hr
  ·rw[Hp.get_sets_ne r _ j fun p hp he=>hr ⟨p,hp,he⟩]
   obtain ⟨p,hp,he⟩:=hx
   rcases List.mem_cons.1 hp with rfl|hp
   ·simp only at he
    subst he
    rw[Hp.get_set_self,←ho _ (List.mem_cons_self ..) rfl]
   ·exact absurd ⟨p,hp,he⟩ hr
theorem lA {hp:Hp} {look:cA} {n c m id:Nat} {o:Ob} (h:id<m) (ho:look id=some o):(hp.sets (iI n c (kL look (List.range m)))).get (id+n)=some (shO n c o):=by
 refine Hp.get_sets_mem _ _ _ _ (fun p hp c8=>?_) ⟨(id+n,shO n c o),?_,rfl⟩
 ·rw[xS,List.mem_map] at hp
  obtain ⟨x,hx,rfl⟩:=hp
  have h2:=(aBJ.1 hx).2
  have h3:x.1=id:=by simp only at c8;omega
  rw[h3,ho] at h2
  rw[Option.some.inj h2]
 ·rw[xS,List.mem_map]
  exact ⟨(id,o),aBJ.2 ⟨List.mem_range.2 h,ho⟩,rfl⟩
theorem oD {hp:Hp} {look:cA} {n c m id:Nat} (h:id<n):(hp.sets (iI n c (kL look (List.range m)))).get id=hp.get id:=by
 refine Hp.get_sets_ne _ _ _ (fun p hp c8=>?_)
 rw[xS,List.mem_map] at hp
 obtain ⟨x,hx,rfl⟩:=hp
 simp only at c8;omega
theorem gX (wl:List Nat):∀ l:List (Nat×Ob),a9 0 wl l=wl
 | []=>rfl
 | (k,o)::r=>by
  have:Nat.blt k 0=false:=by cases k <;> rfl
  simp only[a9,this];exact gX wl r
attribute [local simp] gX
theorem aCe {α:Type} (n c:Nat) (e:α→V) (h:∀ a,cX n c (e a)=e a):∀ l:List (Tx×α),dQ n c (l.map fun p=>e p.2)=l.map fun p=>e p.2
 | []=>rfl
 | p::r=>by
  simp only[List.map_cons,dQ,h]
  rw[aCe n c e h r]
theorem xR {α:Type} (n c g:Nat) (e:α→V) (h:∀ a,cX n c (e a)=e a) (l:List (Tx×α)):shO n c ⟨g,false,[fW e l]⟩=⟨g+c,false,[fW e l]⟩:=by
 unfold shO
 simp only[fW,dQ,cX]
 rw[aCe n c e h l]
theorem KG.import {hp:Hp} {n c1:Nat} {o:Oc} {ea:List Cl} {x:Cl} {lv lm:List (Tx×Int)} {lp:List (Tx×Bool)}:
  KG (5+n) (5+c1) (1+n) (1+c1) (2+n) (2+c1) (3+n) (3+c1) (4+n) (4+c1) o ea x lv lp lm [] (hp.sets (iI n c1 (kL (nHp o.en ea x lv lp lm).get (List.range 6)))) (n+6):=by
 refine ⟨?_,?_,?_,?_,?_,by omega,by omega,by omega,by omega,by omega⟩
 ·rw[lA (by omega) (o:=kO o.en ea x) rfl]
  simp[shO,kO,dQ,cX]
 ·rw[lA (by omega) (o:=⟨1,false,[fW eI lv]⟩) rfl,xR _ _ _ _ (fun a=>rfl)]
 ·rw[lA (by omega) (o:=⟨2,false,[fW eBo lp]⟩) rfl,xR _ _ _ _ (fun a=>rfl)]
 ·rw[lA (by omega) (o:=⟨3,false,[fW eI lm]⟩) rfl,xR _ _ _ _ (fun a=>rfl)]
 ·rw[lA (by omega) (o:=⟨4,false,[fW eC []]⟩) rfl]
  simp[shO,fW,dQ,cX]
theorem aXY (r:Nat):Ob.keep 11 r=Ob.k11 r:=by kernel_rfl
attribute [local simp] aXY Ob.k11
set_option maxHeartbeats 8000000 in
theorem aBL (o:Oc) (gK:o.sz≤2097152) (cC:o.ok):eJ Tryz.prog Ob.cfg 11 [aG o.cells]=some (dI (dH o)):=by
 unfold Oc.sz at gK
 have k1:=aCO o.en
 have k2:=l7 o.cl
 refine bI Tryz.func11 rfl (by kernel_rfl) rfl rfl ?_
 unfold dH
 by_cases c1:24<o.en.length
 ·rw[if_pos c1]
  have c1':((24:Int)<o.en.length)=True:=eq_true (by omega)
  have c1'':=eq_true c1
  refine gN (j6 @aD @aJ @aB @aA @c1' @c1'') ?_
  show a8 _ _ _ _ _
  exact ⟨.inr rfl,_,_,rfl,rfl⟩
 rw[if_neg c1]
 have c1':((24:Int)<o.en.length)=False:=eq_false (by omega)
 have c1'':=eq_false c1
 refine gN (j6 @aD @aJ @aB @aA @c1' @c1'') ?_
 apply WP.loop' (I:=fun D s=>∃ k:Nat,k+D=o.en.length∧(o.en.take k).all (fun u=> !pI u)=true∧SE [(1,.ptr 0 0 0),(13,dL (f9 o.en)),(14,dI o.en.length),(15,dI k)] [(0,⟨0,false,o.cells.map .d⟩)] 1 s) (d:=o.en.length)
 ·exact ⟨0,by simp,by simp,SE.mk (by simp[dI,dL]) (by simp[Oc.cells])⟩
 rintro D _ ⟨k,hk,cF,cc,rfl⟩
 refine aMu (j3 @aB @aA @aJ) ?_
 show WP _ _ _ _ _ _
 refine WP.cond _ rfl (fun hb=>?_) (fun hb=>?_)
 ·simp at hb
  have bP:k<o.en.length:=by omega
  obtain ⟨d,hd,d8,bV⟩:=bM bP
  have cG:=yB hd
  have uD:=bE bP (by omega)
  have hs:=bZ (p:=fun u=> !pI u) hd
  by_cases e1:d.tags=[]
  ·rw[if_pos (List.any_eq_true.2 ⟨d,d8,by simp[pI,e1]⟩)]
   refine gN (u7 @aB @aA @aJ @bV @cG @En.cells.eq_1 @aW @bJ @e1 @aH @aI) ?_
   show a8 _ _ _ _ _
   exact ⟨.inr rfl,_,_,rfl,rfl⟩
  by_cases e2:16<d.tags.length
  ·have e2':((16:Int)<d.tags.length)=True:=eq_true (by omega)
   have e2'':=eq_true e2
   rw[if_pos (List.any_eq_true.2 ⟨d,d8,by simp[pI,e2]⟩)]
   refine gN (vM @aB @aA @aJ @bV @cG @En.cells.eq_1 @aW @bJ @aS @e1 @e2' @e2'' @aH @aI) ?_
   show a8 _ _ _ _ _
   exact ⟨.inr rfl,_,_,rfl,rfl⟩
  ·have e2':((16:Int)<d.tags.length)=False:=eq_false (by omega)
   have e2'':=eq_false e2
   have oV:pI d=false:=by unfold pI;rw[iC e2];simpa using e1
   rw[oV] at hs
   refine gN (vM @aB @aA @aJ @bV @cG @En.cells.eq_1 @aW @bJ @aS @e1 @e2' @e2'' @aH @aI) ?_
   refine aY (by simp[uD];exact Is.rfl) ?_
   exact ⟨D - 1,by omega,k+1,by omega,by rw[hs,cF];rfl,SE.mk (by simp[dI,dL,uD]) (by simp[Oc.cells])⟩
 simp at hb
 have uG:k=o.en.length:=by omega
 rw[uG,List.take_length] at cF
 rw[if_neg (by rw[uV (p:=pI) cF];simp)]
 have hen:∀ t,oL o.en t=decide (0<fG o.en t):=aIz fun u hu=>by simpa using List.all_eq_true.1 cF u hu
 clear cF uG hb hk
 refine gN (j3 @aB @aA @aJ) ?_
 apply WP.loop' (I:=fun D s=>∃ (k c':Nat) (bB:Hp),k+D=o.cl.length∧aCq o k (o.cl.drop k)=aCq o 0 o.cl∧bB.get 0=some ⟨0,false,o.cells.map .d⟩∧s=⟨[(1,.ptr 0 0 0),(31,dL (gJ o.cl)),(32,dI o.cl.length),(33,dI k)],bB,1,c',0,[]⟩) (d:=o.cl.length)
 ·exact ⟨0,_,_,by simp,by simp,by simp[Oc.cells],bK (by simp[dI,dL]) rfl⟩
 rintro D _ ⟨k,c',bB,hk,hv,lS,rfl⟩
 simp only[Oc.cells,List.map_cons,List.map_nil] at lS
 refine aMu (jn @aB @aA) ?_
 show WP _ _ _ _ _ _
 refine WP.cond _ rfl (fun hb=>?_) (fun hb=>?_)
 ·simp at hb
  have bP:k<o.cl.length:=by omega
  obtain ⟨c,hc,hcm,bV⟩:=bM bP
  have hc':=lH hc
  have uD:=bE bP (by omega)
  have sC:=qE hcm
  unfold Cl.sz at sC
  have l1:=lG c.inn
  have l2:=lG c.out
  have l3:=lG c.loc
  have l4:=u6 c.mems
  have l5:=sO c.ins
  have aEt:=cC c hcm
  have yY:=fun look e b z=>oA look e b z (wZ o.cl) (j:=k) (by rw[nK];omega)
  have etk:=aFc o.cl k
  rw[iF hc,aCq] at hv
  refine gN (j9 @aB @aA @Hp.get_set @lS @bV @hc' @aK @aH @aI) ?_
  apply WP.gen3
  intro n9 c1 wl1 eG iT
  have aBO:wl1=[]:=iT
  have rW:n9.get 0=some ⟨0,false,[V.d (.slice (f9 o.en)),V.d (.slice (gJ o.cl))]⟩:=by rw[eG];simp[Hp.get_set,lS]
  obtain ⟨g1,hy1⟩:∃ g1,g1=c':=⟨_,rfl⟩
  have hy1:n9.get 1=some ⟨c',false,[V.d (.str c.nm),V.d (.slice (cM c.inn)),V.d (.slice (cM c.out)),V.d (.slice (cM c.loc)),V.d (.slice (lF c.mems)),V.d (.slice (lV c.ins)),V.d (.slice (dM c.step))]⟩:=by rw[eG];simp[Hp.get_set]
  subst aBO
  clear eG iT
  obtain ⟨q,hI1,hqv,hqn,hqh⟩:=aSw o.en (o.cl.take k) c (by omega)
  have hI2:d7 fF q.v=none:=by rw[hqv];rfl
  have hI3:cX 2 c1 q.v= .ptr 7 (5+c1) 0:=by rw[hqv];rfl
  obtain ⟨W1,yG⟩:∃ W,iI 2 c1 (kL q.hp.get (List.range q.n))=W:=⟨_,rfl⟩
  have hKG:KG 7 (5+c1) 3 (1+c1) 4 (2+c1) 5 (3+c1) 6 (4+c1) o (o.cl.take k) c (puts (puts (puts [] (dV c.inn)) (dV c.out)) (dV c.loc)) (puts (puts [] (dP c.out)) (dP c.loc)) (puts [] (mV c.mems)) [] (n9.sets W1) (2+q.n):=by
   rw[←yG,hqh,hqn];exact KG.import (n:=2) (c1:=c1)
  have aZA:(n9.sets W1).get 0=n9.get 0:=by rw[←yG,oD (by omega)]
  obtain ⟨q2,lZ,aNV,bAj,rX,lY,lD,_⟩:=(aOM (cc:=c1+q.c) hen (by rw[List.length_take];unfold MX;omega) ⟨by omega⟩ aEt (by omega) (n9.sets W1) (2+q.n) ⟨by omega,by omega,by omega,by omega⟩ hKG (fun hz=>aUg aEt (by unfold MX;omega) hz)).caller (by intro j hj;simp at hj;omega)
  have aZB:((n9.sets W1).sets (sK q2 (2+q.n))).get 0=some ⟨0,false,[V.d (.slice (f9 o.en)),V.d (.slice (gJ o.cl))]⟩:=by rw[lD 0 (by omega) (by simp),aZA,rW]
  rw[aLl] at aNV
  simp only[dL,dI,aG,Cl.cells,List.map_cons,List.map_nil] at hI1 aNV
  by_cases c2:m5 o k c=0
  case neg=>
   have c2':=eq_false c2
   rw[if_pos c2] at hv
   rw[←hv]
   refine gN (j9 @aB @aA @rW @hy1 @yY @etk @aNV @aV @c2') ?_
   show a8 _ _ _ _ _
   exact ⟨.inr rfl,_,_,rfl,rfl⟩
  rw[if_neg (by simp[c2])] at hv
  rw[c2] at aNV
  refine gN (j8 @aB @aA @rW @hy1 @yY @etk @aNV @aV) ?_
  refine aY (by simp[uD];exact Is.rfl) ?_
  exact ⟨D - 1,by omega,k+1,_,_,by omega,hv,by rw[Hp.get_trunc _ _ _ (by omega)];exact aZB,bK (by simp[dI,dL,uD]) rfl⟩
 ·simp at hb
  have uG:k=o.cl.length:=by omega
  rw[uG,List.drop_length,aCq] at hv
  rw[←hv]
  refine gN (jn @aB @aA) ?_
  show a8 _ _ _ _ _
  exact ⟨.inr rfl,_,_,rfl,rfl⟩
end Go.Ac
end
section
set_option maxRecDepth 4000
namespace Go.Ac
open Go.Proofs
def Pb.sh (n c:Nat) (a:Pb):Pb:=⟨a.x+n,a.gx+c,a.im+n,a.gm+c,a.ii+n,a.gi+c⟩
mutual
def Pt.sh (n c:Nat):Pt→Pt
 | .mk a ps=> .mk (a.sh n c) (wT n c ps)
def wT (n c:Nat):List Pt→List Pt
 | []=>[]
 | p::r=>p.sh n c::wT n c r
end
theorem aFP (n c:Nat):∀ l,wT n c l=l.map (Pt.sh n c)
 | []=>by rw[wT];rfl
 | p::r=>by rw[wT,aFP n c r];rfl
theorem Pt.sh_a (n c:Nat) (p:Pt):(p.sh n c).a=p.a.sh n c:=by cases p;rw[Pt.sh];rfl
mutual
theorem aFp (n c:Nat):∀ p:Pt,dE (p.sh n c)=(dE p).map (·+n)
 | .mk a ps=>by rw[Pt.sh,dE,dE,aHE n c ps];rfl
theorem aHE (n c:Nat):∀ l:List Pt,dY (wT n c l)=(dY l).map (·+n)
 | []=>by rw[wT,dY];rfl
 | p::r=>by rw[wT,dY,dY,aFp n c p,aHE n c r,List.map_append]
end
mutual
theorem aFx (n c:Nat):∀ p:Pt,lT (p.sh n c)=(lT p).map (·+n)
 | .mk a ps=>by rw[Pt.sh,lT,lT,aHG n c ps];rfl
theorem aHG (n c:Nat):∀ l:List Pt,gE (wT n c l)=(gE l).map (·+n)
 | []=>by rw[wT,gE];rfl
 | p::r=>by rw[wT,gE,gE,aFx n c p,aHG n c r,List.map_append]
end
mutual
theorem aIS (n c:Nat):∀ (t:Trn) (p:Pt),fit t (p.sh n c)↔fit t p
 | .mk k ms sb,.mk a ps=>by rw[Pt.sh,fit,fit,aJS n c sb ps]
theorem aJS (n c:Nat):∀ (l:List Trn) (ps:List Pt),eY l (wT n c ps)↔eY l ps
 | [],[]=>by rw[wT]
 | [],p::ps=>by rw[wT,eY,eY];simp
 | t::r,[]=>by rw[wT,eY]
 | t::r,p::ps=>by rw[wT,eY,eY,aIS n c t p,aJS n c r ps]
end
theorem aQW (n c g:Nat) (ms:List (Tx×Int)):shO n c ⟨g,false,[fW eI ms]⟩=⟨g+c,false,[fW eI ms]⟩:=xR _ _ _ _ (fun _=>rfl) _
theorem aQm (n c g:Nat) (en:List En) (k:Cl) (im gm ii gi:Nat):shO n c (oO g en k im gm ii gi)=oO (g+c) en k (im+n) (gm+c) (ii+n) (gi+c):=by
 simp[shO,oO,dQ,cX]
theorem aKq (n c:Nat):∀ l:List (Tx×(Nat×Nat)),dQ n c (l.map fun p=>eP p.2)=(l.map fun q=>(q.1,(q.2.1+n,q.2.2+c))).map fun p=>eP p.2
 | []=>rfl
 | p::r=>by
  simp only[List.map_cons,dQ]
  rw[aKq n c r];rfl
theorem aOW (n c:Nat) (k:Cl) (ps:List Pt):gT k (wT n c ps)=(gT k ps).map fun q=>(q.1,(q.2.1+n,q.2.2+c)):=by
 unfold gT
 rw[aFP,List.map_map]
 generalize k.ins.map Ii.nm=l
 induction l generalizing ps with
 | nil=>simp
 | cons x r ih=>
  cases ps with
  | nil=>simp
  | cons p ps=>simp only[List.map_cons,List.zip_cons_cons,ih];simp[Pt.sh_a,Pb.sh]
theorem aOk (n c g:Nat) (k:Cl) (ps:List Pt):shO n c ⟨g,false,[fW eP (gT k ps)]⟩=⟨g+c,false,[fW eP (gT k (wT n c ps))]⟩:=by
 rw[aOW]
 unfold shO fW
 simp only[dQ,cX]
 rw[aKq]
 simp
mutual
theorem aMS (n c:Nat):∀ (t:Trn) (p:Pt),oF t (p.sh n c)=(oF t p).map fun q=>(q.1+n,shO n c q.2)
 | .mk k ms sb,.mk a ps=>by rw[Pt.sh,oF,oF,aNa n c sb ps,List.map_cons,aQW];rfl
theorem aNa (n c:Nat):∀ (l:List Trn) (ps:List Pt),yK l (wT n c ps)=(yK l ps).map fun q=>(q.1+n,shO n c q.2)
 | [],ps=>by rw[yK,yK];rfl
 | t::r,[]=>by rw[wT,yK];rfl
 | t::r,p::ps=>by rw[wT,yK,yK,aMS n c t p,aNa n c r ps,List.map_append]
end
mutual
theorem aMK (en:List En) (n c:Nat):∀ (t:Trn) (p:Pt),yI en t (p.sh n c)=(yI en t p).map fun q=>(q.1+n,shO n c q.2)
 | .mk k ms sb,.mk a ps=>by rw[Pt.sh,yI,yI,aMk en n c sb ps,List.map_cons,List.map_cons,aQm,aOk];rfl
theorem aMk (en:List En) (n c:Nat):∀ (l:List Trn) (ps:List Pt),stL en l (wT n c ps)=(stL en l ps).map fun q=>(q.1+n,shO n c q.2)
 | [],ps=>by rw[stL,stL];rfl
 | t::r,[]=>by rw[wT,stL];rfl
 | t::r,p::ps=>by rw[wT,stL,stL,aMK en n c t p,aMk en n c r ps,List.map_append]
end
theorem aEw (n:Nat) (l:List Nat) (h:l.Nodup):(l.map (·+n)).Nodup:=by
 induction l with
 | nil=>simp
 | cons x r ih=>
  rw[List.nodup_cons] at h
  rw[List.map_cons,List.nodup_cons]
  refine ⟨fun hm=>?_,ih h.2⟩
  obtain ⟨y,hy,he⟩:=List.mem_map.1 hm
  have:y=x:=by omega
  exact h.1 (this▸hy)
theorem Lies.import {en:List En} {t:Trn} {p:Pt} {hq hp:Hp} {m n c:Nat} (h:Lies en t p hq m):Lies en t (p.sh n c) (hp.sets (iI n c (kL hq.get (List.range m)))) (m+n):=by
 refine ⟨(aIS n c t p).2 h.fit,?_,fun q g9=>?_,fun q g9=>?_⟩
 ·unfold Pt.nd
  rw[aFp,aFx,←List.map_append]
  exact aEw n _ h.nd
 ·rw[aMK] at g9
  obtain ⟨x,hx,rfl⟩:=List.mem_map.1 g9
  obtain ⟨h1,h2⟩:=h.st x hx
  exact ⟨by simp only;omega,lA h1 h2⟩
 ·rw[aMS] at g9
  obtain ⟨x,hx,rfl⟩:=List.mem_map.1 g9
  obtain ⟨h1,h2⟩:=h.me x hx
  exact ⟨by simp only;omega,lA h1 h2⟩
theorem aPy (n c:Nat) (p:Pt):∀ k,k∈lT (p.sh n c)++dE (p.sh n c)→n≤k:=by
 rw[aFp,aFx,←List.map_append]
 intro k hk
 obtain ⟨x,_,rfl⟩:=List.mem_map.1 hk
 omega
structure LL (en:List En) (l:List Trn) (ps:List Pt) (lo:Nat) (hp:Hp) (n:Nat):Prop where
 fit:eY l ps
 nd:(gE ps++dY ps).Nodup
 lo:∀ k,k∈gE ps++dY ps→lo≤k∧k<n
 st:∀ q,q∈stL en l ps→hp.get q.1=some q.2
 me:∀ q,q∈yK l ps→hp.get q.1=some q.2
theorem LL.nil {en:List En} {lo:Nat} {hp:Hp} {n:Nat}:LL en [] [] lo hp n:=
 ⟨by rw[eY],by simp[gE,dY],fun k hk=>by simp[gE,dY] at hk,fun q hq=>by simp[stL] at hq,fun q hq=>by simp[yK] at hq⟩
theorem LL.same {en:List En} {l:List Trn} {ps:List Pt} {lo:Nat} {hp bB:Hp} {n n':Nat} (h:LL en l ps lo hp n) (hn:n≤n') (hg:∀ k,lo≤k→k<n→bB.get k=hp.get k):LL en l ps lo bB n':=by
 refine ⟨h.fit,h.nd,fun k hk=>⟨(h.lo k hk).1,Nat.lt_of_lt_of_le (h.lo k hk).2 hn⟩,fun q hq=>?_,fun q hq=>?_⟩
 ·have hk:q.1∈gE ps:=by rw[←aAq en l ps h.fit];exact List.mem_map.2 ⟨q,hq,rfl⟩
  have:=h.lo _ (List.mem_append_left _ hk)
  rw[hg _ this.1 this.2];exact h.st q hq
 ·have hk:q.1∈dY ps:=by rw[←lW l ps h.fit];exact List.mem_map.2 ⟨q,hq,rfl⟩
  have:=h.lo _ (List.mem_append_right _ hk)
  rw[hg _ this.1 this.2];exact h.me q hq
theorem aBk:∀ (l:List Trn) (ps:List Pt) (t:Trn) (p:Pt),eY l ps→fit t p→eY (l++[t]) (ps++[p])
 | [],ps,t,p,h,h2=>by rw[eY] at h;subst h;simp only[List.nil_append];rw[eY,eY];exact ⟨h2,rfl⟩
 | x::r,[],t,p,h,h2=>by rw[eY] at h;exact h.elim
 | x::r,q::ps,t,p,h,h2=>by rw[eY] at h;rw[List.cons_append,List.cons_append,eY];exact ⟨h.1,aBk r ps t p h.2 h2⟩
theorem aBG:∀ a b:List Pt,gE (a++b)=gE a++gE b
 | [],b=>by rw[gE];rfl
 | p::r,b=>by rw[List.cons_append,gE,gE,aBG r b,List.append_assoc]
theorem aBH:∀ a b:List Pt,dY (a++b)=dY a++dY b
 | [],b=>by rw[dY];rfl
 | p::r,b=>by rw[List.cons_append,dY,dY,aBH r b,List.append_assoc]
theorem aGQ (en:List En):∀ (l:List Trn) (ps:List Pt) (t:Trn) (p:Pt),eY l ps→stL en (l++[t]) (ps++[p])=stL en l ps++yI en t p
 | [],ps,t,p,h=>by rw[eY] at h;subst h;simp[stL]
 | x::r,[],t,p,h=>by rw[eY] at h;exact h.elim
 | x::r,q::ps,t,p,h=>by rw[eY] at h;rw[List.cons_append,List.cons_append,stL,stL,aGQ en r ps t p h.2,List.append_assoc]
theorem aHh:∀ (l:List Trn) (ps:List Pt) (t:Trn) (p:Pt),eY l ps→yK (l++[t]) (ps++[p])=yK l ps++oF t p
 | [],ps,t,p,h=>by rw[eY] at h;subst h;simp[yK]
 | x::r,[],t,p,h=>by rw[eY] at h;exact h.elim
 | x::r,q::ps,t,p,h=>by rw[eY] at h;rw[List.cons_append,List.cons_append,yK,yK,aHh r ps t p h.2,List.append_assoc]
theorem LL.snoc {en:List En} {l:List Trn} {ps:List Pt} {lo:Nat} {hp bB:Hp} {n n':Nat} {t:Trn} {p:Pt} (h:LL en l ps lo hp n) (hlo:lo≤n) (hL:Lies en t p bB n') (hge:∀ k,k∈lT p++dE p→n≤k) (hn:n≤n') (hg:∀ k,lo≤k→k<n→bB.get k=hp.get k):LL en (l++[t]) (ps++[p]) lo bB n':=by
 have h2:=h.same hn hg
 refine ⟨aBk _ _ _ _ h.fit hL.fit,?_,fun k hk=>?_,fun q hq=>?_,fun q hq=>?_⟩
 ·rw[aBG,aBH]
  have e1:gE [p]=lT p:=by simp[gE]
  have e2:dY [p]=dE p:=by simp[dY]
  rw[e1,e2]
  have a:=h.nd
  have b:=hL.nd
  unfold Pt.nd at b
  rw[List.nodup_append] at a b
  have lo1:∀ k,k∈gE ps→k<n:=fun k hk=>(h.lo k (List.mem_append_left _ hk)).2
  have lo2:∀ k,k∈dY ps→k<n:=fun k hk=>(h.lo k (List.mem_append_right _ hk)).2
  have g1:∀ k,k∈lT p→n≤k:=fun k hk=>hge k (List.mem_append_left _ hk)
  have g2:∀ k,k∈dE p→n≤k:=fun k hk=>hge k (List.mem_append_right _ hk)
  rw[List.nodup_append,List.nodup_append,List.nodup_append]
  refine ⟨⟨a.1,b.1,fun x hx y hy=>?_⟩,⟨a.2.1,b.2.1,fun x hx y hy=>?_⟩,fun x hx y hy=>?_⟩
  ·have:=lo1 x hx;have:=g1 y hy;omega
  ·have:=lo2 x hx;have:=g2 y hy;omega
  ·rcases List.mem_append.1 hx with hx|hx <;> rcases List.mem_append.1 hy with hy|hy
   ·exact a.2.2 x hx y hy
   ·have:=lo1 x hx;have:=g2 y hy;omega
   ·have:=g1 x hx;have:=lo2 y hy;omega
   ·exact b.2.2 x hx y hy
 ·rw[aBG,aBH] at hk
  have e1:gE [p]=lT p:=by simp[gE]
  have e2:dY [p]=dE p:=by simp[dY]
  rw[e1,e2] at hk
  have f1:∀ k,k∈lT p→k<n':=fun k hk=>by
   rw[←qZ en t p hL.fit] at hk
   obtain ⟨q,hq,rfl⟩:=List.mem_map.1 hk
   exact (hL.st q hq).1
  have f2:=hL.mids_lt
  simp only[List.mem_append] at hk
  rcases hk with (hk|hk)|(hk|hk)
  ·exact ⟨(h2.lo k (List.mem_append_left _ hk)).1,(h2.lo k (List.mem_append_left _ hk)).2⟩
  ·have:=hge k (List.mem_append_left _ hk);exact ⟨by omega,f1 k hk⟩
  ·exact ⟨(h2.lo k (List.mem_append_right _ hk)).1,(h2.lo k (List.mem_append_right _ hk)).2⟩
  ·have:=hge k (List.mem_append_right _ hk);exact ⟨by omega,f2 k hk⟩
 ·rw[aGQ en _ _ _ _ h.fit] at hq
  rcases List.mem_append.1 hq with hq|hq
  ·exact h2.st q hq
  ·exact (hL.st q hq).2
 ·rw[aHh _ _ _ _ h.fit] at hq
  rcases List.mem_append.1 hq with hq|hq
  ·exact h2.me q hq
  ·exact (hL.me q hq).2
theorem LL.lies {en:List En} {c:Cl} {ms:List (Tx×Int)} {l:List Trn} {a:Pb} {ps:List Pt} {lo:Nat} {hp:Hp} {n:Nat} (h:LL en l ps lo hp n) (hl:l.length=c.ins.length) (h1:a.x<lo) (h2:a.im<lo) (h3:a.ii<lo) (d1:a.x≠a.im) (d2:a.x≠a.ii) (d3:a.im≠a.ii) (hlo:lo≤n)
  (hx:hp.get a.x=some (oO a.gx en c a.im a.gm a.ii a.gi)) (hi:hp.get a.ii=some ⟨a.gi,false,[fW eP (gT c ps)]⟩) (hm:hp.get a.im=some ⟨a.gm,false,[fW eI ms]⟩):Lies en (.mk c ms l) (.mk a ps) hp n:=by
 have k1:∀ k,k∈gE ps→lo≤k:=fun k hk=>(h.lo k (List.mem_append_left _ hk)).1
 have k2:∀ k,k∈dY ps→lo≤k:=fun k hk=>(h.lo k (List.mem_append_right _ hk)).1
 refine ⟨by rw[Go.Ac.fit];exact ⟨hl,h.fit⟩,?_,fun q hq=>?_,fun q hq=>?_⟩
 ·unfold Pt.nd
  rw[lT,dE]
  have a0:=h.nd
  rw[List.nodup_append] at a0
  rw[List.nodup_append,List.nodup_cons,List.nodup_cons,List.nodup_cons]
  refine ⟨⟨fun hh=>?_,fun hh=>?_,a0.1⟩,⟨fun hh=>?_,a0.2.1⟩,fun x hx y hy=>?_⟩
  ·rcases List.mem_cons.1 hh with hh|hh
   ·exact d2 hh
   ·have:=k1 _ hh;omega
  ·have:=k1 _ hh;omega
  ·have:=k2 _ hh;omega
  ·rcases List.mem_cons.1 hx with rfl|hx
   ·rcases List.mem_cons.1 hy with rfl|hy
    ·exact d1
    ·have:=k2 _ hy;omega
   rcases List.mem_cons.1 hx with rfl|hx
   ·rcases List.mem_cons.1 hy with rfl|hy
    ·exact fun e=>d3 e.symm
    ·have:=k2 _ hy;omega
   rcases List.mem_cons.1 hy with rfl|hy
   ·have:=k1 _ hx;omega
   ·exact a0.2.2 x hx y hy
 ·rw[yI,List.mem_cons,List.mem_cons] at hq
  rcases hq with hq|hq|hq
  ·subst hq;exact ⟨by simp only;omega,hx⟩
  ·subst hq;exact ⟨by simp only;omega,hi⟩
  ·have hk:q.1∈gE ps:=by rw[←aAq en l ps h.fit];exact List.mem_map.2 ⟨q,hq,rfl⟩
   exact ⟨(h.lo _ (List.mem_append_left _ hk)).2,h.st q hq⟩
 ·rw[oF,List.mem_cons] at hq
  rcases hq with hq|hq
  ·subst hq;exact ⟨by simp only;omega,hm⟩
  ·have hk:q.1∈dY ps:=by rw[←lW l ps h.fit];exact List.mem_map.2 ⟨q,hq,rfl⟩
   exact ⟨(h.lo _ (List.mem_append_right _ hk)).2,h.me q hq⟩
theorem Lies.same2 {en:List En} {t:Trn} {p:Pt} {hp bB:Hp} {n n':Nat} (h:Lies en t p hp n) (hg:∀ k,k∈lT p++dE p→bB.get k=hp.get k) (hn:n≤n'):Lies en t p bB n':=by
 refine ⟨h.fit,h.nd,fun q hq=>⟨Nat.lt_of_lt_of_le (h.st q hq).1 hn,?_⟩,fun q hq=>⟨Nat.lt_of_lt_of_le (h.me q hq).1 hn,?_⟩⟩
 ·rw[hg _ (List.mem_append_left _ (by rw[←qZ en t p h.fit];exact List.mem_map.2 ⟨q,hq,rfl⟩))];exact (h.st q hq).2
 ·rw[hg _ (List.mem_append_right _ (by rw[←eB t p h.fit];exact List.mem_map.2 ⟨q,hq,rfl⟩))];exact (h.me q hq).2
theorem aKL {c:Cl} {ps:List Pt} {p:Pt} {d:Ii} (mB:(c.ins.map Ii.nm).Nodup) (hd:c.ins[ps.length]?=some d):jY (gT c ps) d.nm (p.a.x,p.a.gx)=gT c (ps++[p]):=by
 have hz:gT c (ps++[p])=gT c ps++[(d.nm,(p.a.x,p.a.gx))]:=by
  unfold gT
  rw[List.map_append]
  have eU:=(List.getElem?_eq_some_iff.1 hd).1
  have e:c.ins.map Ii.nm=(c.ins.map Ii.nm).take ps.length++(c.ins.map Ii.nm).drop ps.length:=(List.take_append_drop _ _).symm
  have e2:(c.ins.map Ii.nm).drop ps.length=d.nm::(c.ins.map Ii.nm).drop (ps.length+1):=by
   rw[List.drop_eq_getElem_cons (by simpa using eU)]
   have:=(List.getElem?_eq_some_iff.1 hd).2
   rw[List.getElem_map,this]
  have l1:((c.ins.map Ii.nm).take ps.length).length=(ps.map fun p=>(p.a.x,p.a.gx)).length:=by simp;omega
  have e3:(c.ins.map Ii.nm).zip (ps.map fun p=>(p.a.x,p.a.gx))=((c.ins.map Ii.nm).take ps.length).zip (ps.map fun p=>(p.a.x,p.a.gx)):=by
   conv=>lhs;rw[e,←List.append_nil (ps.map fun p=>(p.a.x,p.a.gx)),List.zip_append l1,List.zip_nil_right,List.append_nil]
  rw[e3]
  conv=>lhs;rw[e,List.zip_append l1,e2]
  simp
 rw[hz]
 unfold jY
 have hk:(gT c ps).map Prod.fst=(c.ins.map Ii.nm).take ps.length:=by
  unfold gT
  have eU:=(List.getElem?_eq_some_iff.1 hd).1
  apply List.ext_getElem
  ·simp;omega
  ·intro i h1 h2;simp
 cases hf:List.findIdx? (fun q=>decide (q.1=d.nm)) (gT c ps) with
 | none=>rfl
 | some i=>
  exfalso
  obtain ⟨hi,hx⟩:=rJ hf
  have hm:d.nm∈(c.ins.map Ii.nm).take ps.length:=by
   rw[←hk,List.mem_map];exact ⟨_,List.getElem_mem hi,hx⟩
  obtain ⟨j,hj,eE⟩:=List.getElem_of_mem hm
  simp only[List.length_take,List.length_map] at hj
  have eU:=(List.getElem?_eq_some_iff.1 hd).1
  have hn:=List.pairwise_iff_getElem.1 mB j ps.length (by simp;omega) (by simpa using eU) (by omega)
  have h5:=(List.getElem?_eq_some_iff.1 hd).2
  simp only[List.getElem_take,List.getElem_map] at eE hn
  rw[h5] at hn
  exact hn eE
theorem aMn {l:List Cl} {x:Tx} (h:(dC l x).2=true):(dC l x).1.nm=x:=by
 unfold dC at h ⊢
 cases hf:l.find? (fun d=>decide (d.nm=x)) with
 | none=>rw[hf] at h;cases h
 | some d=>simpa using List.find?_some hf
theorem aAI {l:List Cl} {x:Tx} (h:(dC l x).2=true):∃ j:Nat,ixP (fun d:Cl=>decide (d.nm=x)) l=j∧l[j]?=some (dC l x).1∧∀ (k:Nat) (d:Cl),l[k]?=some d→d.nm=x→j≤k:=by
 unfold dC at h ⊢
 cases hf:l.find? (fun d=>decide (d.nm=x)) with
 | none=>rw[hf] at h;cases h
 | some d=>
  have hf2:=hf
  rw[List.find?_eq_getElem?_findIdx] at hf2
  have eU:=(List.getElem?_eq_some_iff.1 hf2).1
  refine ⟨l.findIdx (fun d=>decide (d.nm=x)),?_,hf2,fun k e hk he=>?_⟩
  ·unfold ixP
   rw[List.findIdx?_eq_some_iff_findIdx_eq.2 ⟨eU,rfl⟩]
  ·rcases Nat.lt_or_ge k (List.findIdx (fun d:Cl=>decide (d.nm=x)) l) with yE|yE
   ·exfalso
    have:=List.not_of_lt_findIdx yE
    obtain ⟨h1,h2⟩:=List.getElem?_eq_some_iff.1 hk
    rw[h2] at this
    simp[he] at this
   ·exact yE
theorem aJw {o:Oc} (h:dH o=0) {i:Nat} {c:Cl} (hi:o.cl[i]?=some c):∀ d,d∈c.ins→∃ j:Nat,j<i∧ixP (fun e:Cl=>decide (e.nm=d.cl)) o.cl=j∧o.cl[j]?=some (dC o.cl d.cl).1:=by
 intro d hd
 obtain ⟨j,hj,hja,hjt⟩:=oK h hi d hd
 obtain ⟨j2,h1,h2,h3⟩:=aAI hjt
 have:=h3 j _ hja (aMn hjt)
 exact ⟨j2,by omega,h1,h2⟩
theorem oJ {o:Oc} (h:dH o=0):∀ (K k i:Nat) (c:Cl),k≤K→o.cl[i]?=some c→i<k→i5 o k c=i5 o (i+1) c
 | 0,k,i,c,hk,_,hi=>by omega
 | K+1,0,i,c,_,_,hi=>by omega
 | K+1,k+1,i,c,hk,hc,hi=>by
  by_cases hik:i=k
  ·rw[hik]
  rw[i5,i5]
  congr 1
  apply List.map_congr_left
  intro d hd
  obtain ⟨j,hj,hja,_⟩:=oK h hc d hd
  rw[oJ h K k j _ (by omega) hja (by omega),oJ h K i j _ (by omega) hja (by omega)]
end Go.Ac
end
section
set_option maxRecDepth 4000
namespace Go.Ac
open Go.Proofs
def rO (g:Nat) (o:Oc) (c:Cl) (im gm k ii gi m:Nat):Ob:=⟨g,false,[V.d (.slice (f9 o.en)),V.d (.slice (gJ o.cl)),V.d (.str c.nm),V.d (.slice (cM c.inn)),V.d (.slice (cM c.out)),V.d (.slice (cM c.loc)),V.d (.slice (lF c.mems)),V.d (.slice (lV c.ins)),V.d (.slice (dM c.step)),.osl im gm 0 k 1 none,.osl ii gi 0 m 1 none]⟩
def eQ (p:Pt):V:= .ptr p.a.x p.a.gx 0
mutual
def cQ:Pt→List Nat
 | .mk a ps=>a.x::a.im::a.ii::dO ps
def dO:List Pt→List Nat
 | []=>[]
 | p::r=>cQ p++dO r
end
mutual
def rC (o:Oc):Trn→Pt→List (Nat×Ob)
 | .mk c ms sb,.mk a ps=>(a.x,rO a.gx o c a.im a.gm ms.length a.ii a.gi ps.length)::(a.im,⟨a.gm,false,fl (bQ (ms.map Prod.snd))⟩)::(a.ii,⟨a.gi,false,ps.map eQ⟩)::rL o sb ps
def rL (o:Oc):List Trn→List Pt→List (Nat×Ob)
 | t::ts,p::ps=>rC o t p++rL o ts ps
 | [],_=>[]
 | _::_,[]=>[]
end
mutual
theorem aCJ (o:Oc):∀ (t:Trn) (p:Pt),fit t p→(rC o t p).map Prod.fst=cQ p
 | .mk c ms sb,.mk a ps,h=>by
  rw[fit] at h
  rw[rC,cQ,List.map_cons,List.map_cons,List.map_cons,xJ o sb ps h.2]
theorem xJ (o:Oc):∀ (l:List Trn) (ps:List Pt),eY l ps→(rL o l ps).map Prod.fst=dO ps
 | [],ps,h=>by rw[eY] at h;subst h;rw[rL,dO];rfl
 | t::r,[],h=>by rw[eY] at h;exact h.elim
 | t::r,p::ps,h=>by
  rw[eY] at h
  rw[rL,dO,List.map_append,aCJ o t p h.1,xJ o r ps h.2]
end
theorem aGx (o:Oc):∀ (l:List Trn) (ps:List Pt) (q:Nat×Ob),q∈rL o l ps↔∃ (i:Nat) (t:Trn) (p:Pt),l[i]?=some t∧ps[i]?=some p∧q∈rC o t p
 | [],ps,q=>by rw[rL];simp
 | t::r,[],q=>by rw[rL];simp
 | t::r,p::ps,q=>by
  rw[rL,List.mem_append,aGx o r ps q]
  constructor
  ·rintro (h|⟨i,u,v,h1,h2,h3⟩)
   ·exact ⟨0,t,p,rfl,rfl,h⟩
   ·exact ⟨i+1,u,v,by simpa using h1,by simpa using h2,h3⟩
  ·rintro ⟨i,u,v,h1,h2,h3⟩
   cases i with
   | zero=>simp at h1 h2;subst h1;subst h2;exact .inl h3
   | succ i=>exact .inr ⟨i,u,v,by simpa using h1,by simpa using h2,h3⟩
theorem oQ:∀ (ps:List Pt) (i:Nat) (p:Pt),ps[i]?=some p→∀ k,k∈cQ p→k∈dO ps
 | [],i,p,h,_,_=>by simp at h
 | q::r,0,p,h,k,hk=>by simp at h;subst h;rw[dO];exact List.mem_append_left _ hk
 | q::r,i+1,p,h,k,hk=>by rw[dO];exact List.mem_append_right _ (oQ r i p (by simpa using h) k hk)
theorem aKo:∀ (ps:List Pt),(dO ps).Nodup→∀ (i j:Nat) (p q:Pt),ps[i]?=some p→ps[j]?=some q→i≠j→∀ k,k∈cQ p→k∉cQ q
 | [],_,i,j,p,q,h,_,_,_,_,_=>by simp at h
 | x::r,hn,i,j,p,q,hi,hj,hne,k,hk,yE=>by
  rw[dO,List.nodup_append] at hn
  obtain ⟨n1,n2,n3⟩:=hn
  cases i with
  | zero=>
   cases j with
   | zero=>exact hne rfl
   | succ j=>simp at hi hj;subst hi;exact n3 k hk k (oQ r j q hj k yE) rfl
  | succ i=>
   cases j with
   | zero=>simp at hi hj;subst hj;exact n3 k yE k (oQ r i p hi k hk) rfl
   | succ j=>exact aKo r n2 i j p q (by simpa using hi) (by simpa using hj) (by omega) k hk yE
theorem aHu:∀ (ps:List Pt) (i:Nat) (p:Pt),(dO ps).Nodup→ps[i]?=some p→(cQ p).Nodup
 | [],i,p,_,h=>by simp at h
 | q::r,0,p,hn,h=>by simp at h;subst h;rw[dO] at hn;exact (List.nodup_append.1 hn).1
 | q::r,i+1,p,hn,h=>by rw[dO] at hn;exact aHu r i p (List.nodup_append.1 hn).2.1 (by simpa using h)
theorem aBg:∀ (ps:List Pt) (i:Nat) (q:Pt) (k:Nat),k∈dO (ps.set i q)→k∈dO ps∨k∈cQ q
 | [],i,q,k,h=>by simp[dO] at h
 | p::r,0,q,k,h=>by
  rw[List.set_cons_zero,dO] at h
  rw[dO]
  rcases List.mem_append.1 h with h|h
  ·exact .inr h
  ·exact .inl (List.mem_append_right _ h)
 | p::r,i+1,q,k,h=>by
  rw[List.set_cons_succ,dO] at h
  rw[dO]
  rcases List.mem_append.1 h with h|h
  ·exact .inl (List.mem_append_left _ h)
  ·rcases aBg r i q k h with h|h
   ·exact .inl (List.mem_append_right _ h)
   ·exact .inr h
theorem aAc {n:Nat}:∀ (ps:List Pt) (i:Nat) (q q':Pt),(dO ps).Nodup→(∀ k,k∈dO ps→k<n)→ps[i]?=some q→(cQ q').Nodup→(∀ k,k∈cQ q'→k∈cQ q∨n≤k)→(dO (ps.set i q')).Nodup
 | [],i,q,q',_,_,h,_,_=>by simp at h
 | p::r,0,q,q',hn,hl,h,hq,hs=>by
  simp at h;subst h
  rw[dO,List.nodup_append] at hn
  rw[List.set_cons_zero,dO,List.nodup_append]
  refine ⟨hq,hn.2.1,fun x hx y hy e=>?_⟩
  subst e
  rcases hs x hx with h|h
  ·exact hn.2.2 x h x hy rfl
  ·have:=hl x (by rw[dO];exact List.mem_append_right _ hy);omega
 | p::r,i+1,q,q',hn,hl,h,hq,hs=>by
  rw[dO,List.nodup_append] at hn
  have g9:r[i]?=some q:=by simpa using h
  rw[List.set_cons_succ,dO,List.nodup_append]
  refine ⟨hn.1,aAc r i q q' hn.2.1 (fun k hk=>hl k (by rw[dO];exact List.mem_append_right _ hk)) g9 hq hs,fun x hx y hy e=>?_⟩
  subst e
  rcases aBg r i q' x hy with h2|h2
  ·exact hn.2.2 x hx x h2 rfl
  ·rcases hs x h2 with h3|h3
   ·exact hn.2.2 x hx x (oQ r i q g9 x h3) rfl
   ·have:=hl x (by rw[dO];exact List.mem_append_left _ hx);omega
structure RLies (o:Oc) (t:Trn) (p:Pt) (hp:Hp) (n:Nat):Prop where
 fit:fit t p
 nd:(cQ p).Nodup
 ce:∀ q,q∈rC o t p→q.1<n∧hp.get q.1=some q.2
section
variable {o:Oc} {t u:Trn} {p q:Pt} {hp bB:Hp} {n n':Nat}
theorem RLies.lt (h:RLies o t p hp n):∀ k,k∈cQ p→k<n:=fun k hk=>by
 rw[←aCJ o t p h.fit] at hk
 obtain ⟨x,hx,rfl⟩:=List.mem_map.1 hk
 exact (h.ce x hx).1
theorem RLies.same (h:RLies o t p hp n) (hg:∀ k,k∈cQ p→bB.get k=hp.get k) (hn:n≤n'):RLies o t p bB n':=
 ⟨h.fit,h.nd,fun q hq=>⟨Nat.lt_of_lt_of_le (h.ce q hq).1 hn,(hg _ (by rw[←aCJ o t p h.fit];exact List.mem_map.2 ⟨q,hq,rfl⟩)).trans (h.ce q hq).2⟩⟩
theorem RLies.mono (h:RLies o t p hp n) (ha:Ag n hp bB) (hn:n≤n'):RLies o t p bB n':=h.same (fun k hk=>ha k (h.lt k hk)) hn
theorem RLies.ob (h:RLies o t p hp n):p.a.x<n∧hp.get p.a.x=some (rO p.a.gx o t.c p.a.im p.a.gm t.ms.length p.a.ii p.a.gi p.ps.length):=
 h.ce (p.a.x,rO p.a.gx o t.c p.a.im p.a.gm t.ms.length p.a.ii p.a.gi p.ps.length) (by cases t;cases p;rw[rC];simp[Trn.c,Trn.ms,Pt.a,Pt.ps])
theorem RLies.mo (h:RLies o t p hp n):p.a.im<n∧hp.get p.a.im=some ⟨p.a.gm,false,fl (bQ (t.ms.map Prod.snd))⟩:=
 h.ce (p.a.im,⟨p.a.gm,false,fl (bQ (t.ms.map Prod.snd))⟩) (by cases t;cases p;rw[rC];simp[Trn.c,Trn.ms,Pt.a,Pt.ps])
theorem RLies.io (h:RLies o t p hp n):p.a.ii<n∧hp.get p.a.ii=some ⟨p.a.gi,false,p.ps.map eQ⟩:=
 h.ce (p.a.ii,⟨p.a.gi,false,p.ps.map eQ⟩) (by cases t;cases p;rw[rC];simp[Trn.c,Trn.ms,Pt.a,Pt.ps])
theorem RLies.len (h:RLies o t p hp n):t.sb.length=t.c.ins.length∧p.ps.length=t.c.ins.length:=by
 have hf:=h.fit
 cases t;cases p
 rw[Go.Ac.fit] at hf
 have:=oZ _ _ hf.2
 simp only[Trn.sb,Trn.c,Pt.ps]
 omega
theorem RLies.sub (h:RLies o t p hp n) {i:Nat} (hu:t.sb[i]?=some u):∃ q,p.ps[i]?=some q∧RLies o u q hp n:=by
 obtain ⟨c,ms,sb⟩:=t
 obtain ⟨a,ps⟩:=p
 obtain ⟨fA,mB,hce⟩:=h
 rw[Go.Ac.fit] at fA
 rw[rC] at hce
 rw[cQ,List.nodup_cons,List.nodup_cons,List.nodup_cons] at mB
 have hu':sb[i]?=some u:=hu
 have hl:=oZ sb ps fA.2
 have eU:=(List.getElem?_eq_some_iff.1 hu').1
 have hip:i<ps.length:=by rw[←hl];exact eU
 have hq:ps[i]?=some ps[i]:=List.getElem?_eq_getElem hip
 exact ⟨ps[i],hq,qH sb ps i u _ fA.2 hu' hq,aHu ps i _ mB.2.2.2 hq,fun q g9=>hce q (List.mem_cons_of_mem _ (List.mem_cons_of_mem _ (List.mem_cons_of_mem _ ((aGx o sb ps q).2 ⟨i,u,_,hu',hq,g9⟩))))⟩
theorem aHw:∀ (l:List Trn) (ps:List Pt) (i:Nat) (u:Trn) (q:Pt),eY l ps→fit u q→eY (l.set i u) (ps.set i q)
 | [],ps,i,u,q,h,h2=>by rw[eY] at h;subst h;simp[eY]
 | t::r,[],i,u,q,h,h2=>by rw[eY] at h;exact h.elim
 | t::r,p::ps,0,u,q,h,h2=>by rw[eY] at h;rw[List.set_cons_zero,List.set_cons_zero,eY];exact ⟨h2,h.2⟩
 | t::r,p::ps,i+1,u,q,h,h2=>by rw[eY] at h;rw[List.set_cons_succ,List.set_cons_succ,eY];exact ⟨h.1,aHw r ps i u q h.2 h2⟩
end
structure Moved (p p':Pt) (n:Nat):Prop where
 x:p'.a.x=p.a.x
 g:p'.a.gx=p.a.gx
 sub:∀ k,k∈cQ p'→k∈cQ p∨n≤k
theorem Moved.refl {p:Pt} {n:Nat}:Moved p p n:=⟨rfl,rfl,fun k hk=> .inl hk⟩
theorem Moved.trans {p p' p'':Pt} {n n':Nat} (h:Moved p p' n) (h2:Moved p' p'' n') (hn:n≤n'):Moved p p'' n:=
 ⟨h2.x.trans h.x,h2.g.trans h.g,fun k hk=>by
  rcases h2.sub k hk with h3|h3
  ·exact h.sub k h3
  ·exact .inr (by omega)⟩
section
variable {o:Oc} {c:Cl} {ms ms':List (Tx×Int)} {sb:List Trn} {a:Pb} {ps:List Pt} {hp bB:Hp} {n n':Nat}
theorem RLies.setM (h:RLies o (.mk c ms sb) (.mk a ps) hp n) (hl:ms'.length=ms.length) (hg:∀ id,id<n→bB.get id=if id=a.im then some ⟨a.gm,false,fl (bQ (ms'.map Prod.snd))⟩ else hp.get id):RLies o (.mk c ms' sb) (.mk a ps) bB n:=by
 have mB:=h.nd
 rw[cQ,List.nodup_cons,List.nodup_cons,List.nodup_cons] at mB
 have fA:=h.fit
 rw[Go.Ac.fit] at fA
 refine ⟨by rw[Go.Ac.fit];exact fA,h.nd,fun q hq=>?_⟩
 have hce:=h.ce
 rw[rC] at hq hce
 rw[hl] at hq
 simp only[List.mem_cons] at hq
 have hm:=hce (a.im,⟨a.gm,false,fl (bQ (ms.map Prod.snd))⟩) (by simp)
 rcases hq with hq|hq|hq|hq
 ·obtain ⟨h1,h2⟩:=hce q (by rw[hq];simp)
  refine ⟨h1,?_⟩
  rw[hg _ h1,if_neg,h2]
  rw[hq];exact fun e=>mB.1 (by simp only at e;simp[e])
 ·rw[hq]
  exact ⟨hm.1,by rw[hg _ hm.1,if_pos rfl]⟩
 ·obtain ⟨h1,h2⟩:=hce q (by rw[hq];simp)
  refine ⟨h1,?_⟩
  rw[hg _ h1,if_neg,h2]
  rw[hq];exact fun e=>mB.2.1 (by simp only at e;simp[←e])
 ·obtain ⟨h1,h2⟩:=hce q (by simp[hq])
  refine ⟨h1,?_⟩
  rw[hg _ h1,if_neg,h2]
  intro e
  have:q.1∈dO ps:=by rw[←xJ o sb ps fA.2];exact List.mem_map.2 ⟨q,hq,rfl⟩
  exact mB.2.1 (by rw[e] at this;simp[this])
theorem RLies.setS (h:RLies o (.mk c ms sb) (.mk a ps) hp n) {i:Nat} {t u:Trn} {q q':Pt} (ht:sb[i]?=some t) (hq:ps[i]?=some q) (hm:Moved q q' n) (hL:RLies o u q' bB n') (hn:n≤n') (hf:∀ k,k<n→k∉cQ q→bB.get k=hp.get k):RLies o (.mk c ms (sb.set i u)) (.mk a (ps.set i q')) bB n'∧Moved (.mk a ps) (.mk a (ps.set i q')) n:=by
 have mB:=h.nd
 rw[cQ,List.nodup_cons,List.nodup_cons,List.nodup_cons] at mB
 have fA:=h.fit
 rw[Go.Ac.fit] at fA
 have eU:=h.lt
 rw[cQ] at eU
 have hLt:∀ k,k∈dO ps→k<n:=fun k hk=>eU k (by simp[hk])
 have hnq:∀ k,(k=a.x∨k=a.im∨k=a.ii)→k∉cQ q:=fun k hk h2=>by
  have h3:=oQ ps i q hq k h2
  rcases hk with rfl|rfl|rfl
  ·exact mB.1 (by simp[h3])
  ·exact mB.2.1 (by simp[h3])
  ·exact mB.2.2.1 h3
 have aGC:∀ k,k∈dO (ps.set i q')→k∈dO ps∨n≤k:=fun k hk=>by
  rcases aBg ps i q' k hk with h2|h2
  ·exact .inl h2
  ·rcases hm.sub k h2 with h3|h3
   ·exact .inl (oQ ps i q hq k h3)
   ·exact .inr h3
 refine ⟨⟨by rw[Go.Ac.fit,List.length_set];exact ⟨fA.1,aHw sb ps i u q' fA.2 hL.fit⟩,?_,fun e he=>?_⟩,rfl,rfl,fun k hk=>?_⟩
 ·rw[cQ,List.nodup_cons,List.nodup_cons,List.nodup_cons]
  have hx:=eU a.x (by simp)
  have hi:=eU a.im (by simp)
  have hj:=eU a.ii (by simp)
  refine ⟨?_,?_,?_,aAc ps i q q' mB.2.2.2 hLt hq hL.nd hm.sub⟩
  ·simp only[List.mem_cons,not_or] at mB ⊢
   exact ⟨mB.1.1,mB.1.2.1,fun h2=>by rcases aGC _ h2 with h3|h3;exact mB.1.2.2 h3;omega⟩
  ·simp only[List.mem_cons,not_or] at mB ⊢
   exact ⟨mB.2.1.1,fun h2=>by rcases aGC _ h2 with h3|h3;exact mB.2.1.2 h3;omega⟩
  ·exact fun h2=>by rcases aGC _ h2 with h3|h3;exact mB.2.2.1 h3;omega
 ·have hce:=h.ce
  rw[rC] at he hce
  rw[List.length_set] at he
  have hpm:(ps.set i q').map eQ=ps.map eQ:=by
   apply List.ext_getElem
   ·simp
   ·intro j h1 h2
    simp only[List.getElem_map,List.getElem_set]
    split
    ·rename_i e
     subst e
     have:=(List.getElem?_eq_some_iff.1 hq).2
     unfold eQ
     rw[hm.x,hm.g,←this]
    ·rfl
  rw[hpm] at he
  simp only[List.mem_cons] at he
  rcases he with he|he|he|he
  ·obtain ⟨h1,h2⟩:=hce e (by rw[he];simp)
   refine ⟨by omega,?_⟩
   rw[hf _ h1 (hnq _ (.inl (by rw[he])))];exact h2
  ·obtain ⟨h1,h2⟩:=hce e (by rw[he];simp)
   refine ⟨by omega,?_⟩
   rw[hf _ h1 (hnq _ (.inr (.inl (by rw[he]))))];exact h2
  ·obtain ⟨h1,h2⟩:=hce e (by rw[he];simp)
   refine ⟨by omega,?_⟩
   rw[hf _ h1 (hnq _ (.inr (.inr (by rw[he]))))];exact h2
  ·obtain ⟨j,t2,p2,h1,h2,h3⟩:=(aGx o _ _ _).1 he
   rw[List.getElem?_set] at h1 h2
   have hlq:=(List.getElem?_eq_some_iff.1 hq).1
   have aZC:=(List.getElem?_eq_some_iff.1 ht).1
   by_cases hij:i=j
   ·subst hij
    rw[if_pos rfl,if_pos aZC] at h1
    rw[if_pos rfl,if_pos hlq] at h2
    simp only[Option.some.injEq] at h1 h2
    subst h1;subst h2
    exact hL.ce e h3
   ·rw[if_neg hij] at h1 h2
    obtain ⟨g1,g2⟩:=hce e (by simp only[List.mem_cons];exact .inr (.inr (.inr ((aGx o sb ps e).2 ⟨j,t2,p2,h1,h2,h3⟩))))
    have hk:e.1∈cQ p2:=by rw[←aCJ o t2 p2 (qH sb ps j t2 p2 fA.2 h1 h2)];exact List.mem_map.2 ⟨e,h3,rfl⟩
    refine ⟨by omega,?_⟩
    rw[hf _ g1 (aKo ps mB.2.2.2 j i p2 q h2 hq (fun e=>hij e.symm) _ hk)]
    exact g2
 ·rw[cQ] at hk ⊢
  simp only[List.mem_cons] at hk ⊢
  rcases hk with hk|hk|hk|hk
  ·exact .inl (.inl hk)
  ·exact .inl (.inr (.inl hk))
  ·exact .inl (.inr (.inr (.inl hk)))
  ·rcases aGC k hk with h2|h2
   ·exact .inl (.inr (.inr (.inr h2)))
   ·exact .inr h2
end
end Go.Ac
end
