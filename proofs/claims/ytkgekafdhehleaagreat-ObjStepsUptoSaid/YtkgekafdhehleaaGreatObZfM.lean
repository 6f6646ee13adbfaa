/- A step of the reference under way: its variables. -/
import Derived.Test.YtkgekafdhehleaaGreatObZdM
set_option linter.unusedVariables false
set_option linter.unusedSimpArgs false
section
set_option maxRecDepth 4000
namespace Go.Ac
open Go.Proofs
attribute [local simp] Hp.get_set iF
theorem aMc (b:List Nat):jX [] b=true:=rfl
theorem aLb (a:List Nat):jX a []=true:=by unfold jX;simp
theorem xI {W:List (Nat×Ob)} {n k:Nat} (h:∀ p,p∈W→n≤p.1) (hk:k<n):jX (W.map fun x=>x.1) [k]=true:=by
 unfold jX
 rw[List.all_eq_true]
 intro x hx
 obtain ⟨p,hp,rfl⟩:=List.mem_map.1 hx
 have:=h p hp
 have hb:Nat.beq p.1 k=false:=by
  cases hq:Nat.beq p.1 k with
  | false=>rfl
  | true=>have:=Nat.eq_of_beq_eq_true hq;omega
 simp[hb]
theorem aEb (n c:Nat) (l:List (Nat×Ob)):∀ p,p∈hZ n c l→n≤p.1:=by
 intro p hp
 rw[wR,List.mem_map] at hp
 obtain ⟨x,_,rfl⟩:=hp
 simp only;omega
def aTZ (o:Oc) (i:Nat) (t:Trn):Prop:=∃ (q:CR) (p:Pt),m9 Tryz.prog Ob.cfg 35 [aG o.cells,dI i] [] 0 0=some q∧q.v= .ptr p.a.x p.a.gx 0∧Lies o.en t p q.hp q.n
theorem aXf (r:Nat):Ob.keep 35 r=Ob.k35 r:=by kernel_rfl
attribute [local simp] aXf Ob.k35
set_option maxHeartbeats 8000000 in
theorem aPS {o:Oc} (uS:dE o=0) (gB:o.sz≤2097152):∀ (N i:Nat) (c:Cl),i<N→o.cl[i]?=some c→aTZ o i (iO o (i+1) c):=by
 intro N
 induction N with
 | zero=>intro i c h;omega
 | succ N ih=>
 intro i c hiN hic
 unfold Oc.sz at gB
 have k2:=lI o.cl
 have hcm:=List.mem_of_getElem? hic
 have rN:=pS hcm
 unfold Cl.sz at rN
 have l4:=uE c.mems
 have l5:=sG c.ins
 have aDO:=(List.getElem?_eq_some_iff.1 hic).1
 have bS:=m6 aDO
 have aYR:=kU hic
 have hwf:=aAC uS c hcm
 have mA:=hwf.nd
 unfold Cl.names at mA
 have hmn:(c.mems.map Mm.nm).Nodup:=(List.nodup_append.1 (List.nodup_append.1 mA).1).2.1
 have hin:(c.ins.map Ii.nm).Nodup:=(List.nodup_append.1 mA).2.1
 have main:∃ (v:V) (t:St),m9 Tryz.prog Ob.cfg 35 [aG o.cells,dI i] [] 0 0=some ⟨v,t.hp,t.n,t.c,t.wl⟩∧∃ p:Pt,v= .ptr p.a.x p.a.gx 0∧Lies o.en (iO o (i+1) c) p t.hp t.n:=by
  refine wG (Q:=fun v (t:St)=>∃ p:Pt,v= .ptr p.a.x p.a.gx 0∧Lies o.en (iO o (i+1) c) p t.hp t.n) Tryz.func35 rfl (by kernel_rfl) ?_
  refine kZ (oY @aN @aO @aB @aA @aD @aL @aJ @qO.eq_1 @aH @aI @Value.oneCell'.eq_def @bS @aYR) ?_
  apply WP.loop' (I:=fun D s=>∃ (k n' c':Nat) (bD:Hp),k+D=c.mems.length∧4≤n'∧bD.get 0=some ⟨0,false,[V.d (.slice (fW o.en)),V.d (.slice (gA o.cl))]⟩∧bD.get 1=some ⟨1,false,[gF eI (puts [] (mI (c.mems.take k)))]⟩∧bD.get 2=some ⟨2,false,[gF eP []]⟩∧bD.get 3=some (oO 3 o.en c 1 1 2 2)∧
   s=⟨[(2,.ptr 0 0 0),(5,.ptr 3 3 0),(25,dL (lA c.mems)),(26,dI c.mems.length),(27,dI k)],bD,n',c',0,[]⟩) (d:=c.mems.length)
  ·exact ⟨0,4,_,_,by simp,by omega,rfl,rfl,rfl,rfl,bK (by simp[dI,dL]) rfl⟩
  rintro D _ ⟨k,n',c',bD,hk,hn4,h0,h1,h2,h3,rfl⟩
  simp only[oO] at h3
  have n0:=nf (show 0<n' by omega)
  have n1:=nf (show 1<n' by omega)
  have n2:=nf (show 2<n' by omega)
  have n3:=nf (show 3<n' by omega)
  have m1:=eq_true (show 1<n'+1 by omega)
  refine aNA (jn @aB @aA) ?_
  show WP _ _ _ _ _ _
  refine WP.cond _ rfl (fun hb=>?_) (fun hb=>?_)
  ·simp at hb
   have bR:k<c.mems.length:=by omega
   obtain ⟨d,hd,d9,aOE⟩:=bL bR
   have cF:=mU hd
   have tQ:=bG bR (by omega)
   have vD:=bM hd
   have oX:=fun (look:cA) (sz by_:Nat) (zr:Option (List V)) (h:look 1=some ⟨1,false,[gF eI (puts [] (mI (c.mems.take k)))]⟩)=>iS eI (puts [] (mI (c.mems.take k))) d.ini (w:= .d (.int .i64 d.ini)) (sz:=sz) (by_:=by_) (zr:=zr) (x:=d.nm) rfl h
   refine kZ (sS @aB @aA @aOE @cF @Mm.cells.eq_1 @aH @aI @h0 @h1 @h2 @h3 @n0 @n1 @n2 @n3 @m1 @oX) ?_
   refine aY (by simp[tQ];exact Is.rfl) ?_
   have e1:puts [] (mI (c.mems.take (k+1)))=jG (puts [] (mI (c.mems.take k))) d.nm d.ini:=by rw[vD];simp only[mI,List.map_append,List.map_cons,List.map_nil,gE]
   have q0:(n'=0)=False:=eq_false (by omega)
   have q1:(n'=1)=False:=eq_false (by omega)
   have q2:(n'=2)=False:=eq_false (by omega)
   have q3:(n'=3)=False:=eq_false (by omega)
   exact ⟨D - 1,by omega,k+1,_,_,_,by omega,by omega,by simp[q0,h0],by simp[e1],by simp[q2,h2],by simp[q3,h3,oO],bK (by simp[dI,dL,tQ]) rfl⟩
  simp at hb
  have tU:k=c.mems.length:=by omega
  rw[tU,List.take_length] at h1
  refine kZ (j4 @aB @aA @h3 @n3) ?_
  apply WP.loop' (I:=fun D s=>∃ (k n' c':Nat) (bD:Hp) (ps:List Pt),k+D=c.ins.length∧ps.length=k∧4≤n'∧LL o.en ((c.ins.take k).map fun d=>iO o i (cX o.cl d.cl).1) ps 4 bD n'∧bD.get 0=some ⟨0,false,[V.d (.slice (fW o.en)),V.d (.slice (gA o.cl))]⟩∧bD.get 1=some ⟨1,false,[gF eI (puts [] (mI c.mems))]⟩∧bD.get 2=some ⟨2,false,[gF eP (i4 c ps)]⟩∧bD.get 3=some (oO 3 o.en c 1 1 2 2)∧
   s=⟨[(2,.ptr 0 0 0),(5,.ptr 3 3 0),(44,dL (mD c.ins)),(45,dI c.ins.length),(46,dI k)],bD,n',c',0,[]⟩) (d:=c.ins.length)
  ·exact ⟨0,n',_,_,[],by simp,rfl,hn4,by simpa using LL.nil,h0,h1,by rw[h2];simp[i4],by rw[h3];rfl,bK (by simp[dI,dL]) rfl⟩
  clear h0 h1 h2 h3 n0 n1 n2 n3 m1 hn4 tU hb hk
  clear n' c' bD k D
  rintro D _ ⟨k,n',c',bD,ps,hk,hpl,hn4,hLL,h0,h1,h2,h3,rfl⟩
  simp only[oO] at h3
  have n0:=nf (show 0<n' by omega)
  have n1:=nf (show 1<n' by omega)
  have n2:=nf (show 2<n' by omega)
  have n3:=nf (show 3<n' by omega)
  refine aNA (jn @aB @aA) ?_
  show WP _ _ _ _ _ _
  refine WP.cond _ rfl (fun hb=>?_) (fun hb=>?_)
  ·simp at hb
   have bR:k<c.ins.length:=by omega
   obtain ⟨d,hd,d9,aOE⟩:=bL bR
   have cF:=pV hd
   have tQ:=bG bR (by omega)
   have vD:=bM hd
   obtain ⟨j,hji,hjx,hja⟩:=aIC uS hic d d9
   obtain ⟨q,p,hI1,hqv,tR⟩:=ih j _ (by omega) hja
   rw[←nT uS i i j _ (Nat.le_refl _) hja hji] at tR
   have hf:=aIe o d.cl (by unfold MX;omega)
   rw[hjx] at hf
   simp only[aG,Oc.cells,List.map_cons,List.map_nil,dS,dI] at hf hI1
   have hI2:dZ eW q.v=none:=by rw[hqv];rfl
   refine kZ (uV @aB @aA @aOE @cF @Ii.cells.eq_1 @aH @aI @h0 @h1 @h2 @h3 @n0 @n1 @n2 @n3) ?_
   apply WP.gen3
   intro nC c1 wl1 eS jF
   have q0:(n'=0)=False:=eq_false (by omega)
   have q1:(n'=1)=False:=eq_false (by omega)
   have q2:(n'=2)=False:=eq_false (by omega)
   have q3:(n'=3)=False:=eq_false (by omega)
   have y0:nC.get 0=some ⟨0,false,[V.d (.slice (fW o.en)),V.d (.slice (gA o.cl))]⟩:=by rw[eS];simp[q0,h0]
   have y1:nC.get 1=some ⟨1,false,[gF eI (puts [] (mI c.mems))]⟩:=by rw[eS];simp[q1,h1]
   have y2:nC.get 2=some ⟨2,false,[gF eP (i4 c ps)]⟩:=by rw[eS];simp[q2,h2]
   have y3:nC.get 3=some ⟨3,false,[V.d (.slice (fW o.en)),V.d (.str c.nm),V.d (.slice (cM c.inn)),V.d (.slice (cM c.out)),V.d (.slice (cM c.loc)),V.d (.slice (lA c.mems)),V.d (.slice (mD c.ins)),V.d (.slice (dJ c.step)),.mp 1 1,.mp 2 2]⟩:=by rw[eS];simp[q3,h3]
   have y4:nC.get n'=some ⟨c',false,[V.d (.str d.nm),V.d (.str d.cl)]⟩:=by rw[eS];simp
   have aRm:LL o.en ((c.ins.take k).map fun d=>iO o i (cX o.cl d.cl).1) ps 4 nC n':=hLL.same (Nat.le_refl _) fun x jA nH=>by
    have:(n'=x)=False:=eq_false (by omega)
    rw[eS];simp[this]
   have wP:wl1=[]:=jF
   subst wP
   clear eS jF
   obtain ⟨p2,fP⟩:∃ p2,p2=p.sh (n'+1) c1:=⟨_,rfl⟩
   have hI3:cS (n'+1) c1 q.v= .ptr p2.a.x p2.a.gx 0:=by rw[hqv,fP,Pt.sh_a];simp[cS,Pb.sh]
   obtain ⟨W1,xK⟩:∃ W,hZ (n'+1) c1 (jZ q.hp.get (List.range q.n))=W:=⟨_,rfl⟩
   have hL2:Lies o.en (iO o i (cX o.cl d.cl).1) p2 (nC.sets W1) (q.n+(n'+1)):=by rw[←xK,fP];exact tR.import
   have oW:∀ x,x<n'+1→(nC.sets W1).get x=nC.get x:=fun x hx=>by rw[←xK,nV hx]
   have z2:=(oW 2 (by omega)).trans y2
   have m2:=eq_true (show 2<n'+1+q.n by omega)
   have oX:=fun (look:cA) (sz by_:Nat) (zr:Option (List V)) (h:look 2=some ⟨2,false,[gF eP (i4 c ps)]⟩)=>iS eP (i4 c ps) (p2.a.x,p2.a.gx) (w:= .ptr p2.a.x p2.a.gx 0) (sz:=sz) (by_:=by_) (zr:=zr) (x:=d.nm) rfl h
   rw[aKT hin (by rw[hpl];exact hd)] at oX
   have hge:∀ p,p∈W1→n'+1≤p.1:=by rw[←xK];exact aEb _ _ _
   have d0:=xI hge (show 0<n'+1 by omega)
   have d3:=xI hge (show 3<n'+1 by omega)
   have dn:=xI hge (show n' < n'+1 by omega)
   repeat (first
 | apply WP.seq
 | (apply WP.reg;(case hR=>dsimp only [e8,eA,List.map,gS,gZ];exact iZ);(case hr=>(repeat (first
 | (apply RT.op;simp[dI,dL,y0,y1,y2,y3,y4,z2,n0,n1,n2,n3,m2,hf,oX];exact iZ;(try dsimp only [a8]) <;> exact rfl)
 | (apply RT.call;(iterate 2 simp;exact iZ);exact iZ;(iterate 4 simp[dI,dL,y0,y1,y2,y3,y4,z2,n0,n1,n2,n3,m2,hf,oX];exact iZ);simp[Is];(try dsimp only [a8]) <;> exact rfl;simp;exact iZ;simp;exact iZ)
 | (apply RT.callV;(iterate 2 simp;exact iZ);exact iZ;(iterate 3 simp[dI,dL,y0,y1,y2,y3,y4,z2,n0,n1,n2,n3,m2,hf,oX];exact iZ);(try dsimp only [a8]) <;> exact rfl)
 | (apply RT.callI (hd:=hI1) (hne:=hI2) (hw:=hI3) (hwr:=xK);(iterate 2 simp;exact iZ);exact iZ;(iterate 2 simp[dI,dL,y0,y1,y2,y3,y4,z2,n0,n1,n2,n3,m2,hf,oX];exact iZ);(try dsimp only [a8]) <;> exact rfl;(first|omega|simp))
 | (apply RT.wr;simp[dI,dL,y0,y1,y2,y3,y4,z2,n0,n1,n2,n3,m2,hf,oX];exact iZ;(try dsimp only [a8]) <;> exact rfl;simp[dI,dL,y0,y1,y2,y3,y4,z2,n0,n1,n2,n3,m2,hf,oX];exact iZ;(iterate 2 exact iZ);simp;exact iZ)));exact RT.nil);(case hc=>first|(refine c8 [(0,4),(1,4),(2,4),(3,4),(0,5),(1,5),(2,5),(3,5),(0,6),(1,6),(2,6),(3,6),(4,6),(5,6),(0,7),(1,7),(2,7),(3,7),(4,7),(5,7),(6,7),(0,8),(1,8),(2,8),(3,8),(4,8),(5,8),(6,8),(7,8),(0,9),(1,9),(2,9),(3,9),(4,9),(5,9),(6,9),(7,9),(0,10),(1,10),(2,10),(3,10),(4,10),(5,10),(6,10),(0,11),(1,11),(2,11),(3,11),(4,11),(5,11)] (by kernel_rfl) (by kernel_rfl) rfl ?_;simp[lF,d0,d3,dn,aMc,aLb];done)|(show _=_;kernel_rfl));(case ht=>simp[dI,dL,y0,y1,y2,y3,y4,z2,n0,n1,n2,n3,m2,hf,oX];exact iZ))
 | apply WP.block|apply WP.skip|apply WP.exit|apply WP.ret|refine WP.condT rfl ?_|refine WP.condF rfl ?_)
   refine aY (by simp[tQ];exact Is.rfl) ?_
   refine ⟨D - 1,by omega,k+1,n'+1+q.n,_,_,ps++[p2],by omega,by simp[hpl],by omega,?_,by simp[(oW 0 (by omega)).trans y0],by simp[(oW 1 (by omega)).trans y1],by simp,by simp[(oW 3 (by omega)).trans y3,oO],bK (by simp[dI,dL,tQ]) rfl⟩
   rw[vD,List.map_append]
   refine aRm.snoc hn4 (hL2.same2 (fun x hx=>?_) (by omega)) (fun x hx=>?_) (by omega) (fun x jA nH=>?_)
   ·have nH:n'+1≤x:=by rw[fP] at hx;exact aOQ _ _ _ x hx
    have:(2=x)=False:=eq_false (by omega)
    simp[this]
   ·have nH:n'+1≤x:=by rw[fP] at hx;exact aOQ _ _ _ x hx
    omega
   ·have:(2=x)=False:=eq_false (by omega)
    simp only[Hp.get_set,this,if_false]
    exact oW x (by omega)
  simp at hb
  have tU:k=c.ins.length:=by omega
  rw[tU,List.take_length] at hLL
  refine kZ (jn @aB @aA) ?_
  refine ⟨.inr rfl,_,rfl,.inr rfl,.mk ⟨3,3,1,1,2,2⟩ ps,rfl,?_⟩
  rw[iO]
  exact hLL.lies (by simp) (by simp) (by simp) (by simp) (by simp) (by simp) (by simp) hn4 (by rw[h3];rfl) h2 h1
 obtain ⟨v,t,h1,p,h2,h3⟩:=main
 exact ⟨_,p,h1,h2,h3⟩
end Go.Ac
end
section
set_option maxRecDepth 4000
namespace Go.Ac
open Go.Proofs
theorem aLh {α:Type} (a ms:List (Tx×α)) (k:Tx) (v0 v:α) (h:k∉a.map Prod.fst):jG (a++(k,v0)::ms) k v=a++(k,v)::ms:=by
 have hf:List.findIdx? (fun p=>decide (p.1=k)) (a++(k,v0)::ms)=some a.length:=by
  rw[List.findIdx?_eq_some_iff_getElem]
  refine ⟨by simp,by simp,fun j hj=>?_⟩
  rw[List.getElem_append_left hj]
  have:a[j].1≠k:=fun e=>h (List.mem_map.2 ⟨_,List.getElem_mem hj,e⟩)
  simp[this]
 unfold jG
 rw[hf]
 simp
theorem aCI {α:Type}:∀ (ms vs a:List (Tx×α)),ms.map Prod.fst=vs.map Prod.fst→((a++ms).map Prod.fst).Nodup→puts (a++ms) vs=a++vs
 | [],[],a,_,_=>by rw[puts]
 | [],v::vs,a,h,_=>by simp at h
 | m::ms,[],a,h,_=>by simp at h
 | m::ms,v::vs,a,h,hn=>by
  simp only[List.map_cons,List.cons.injEq] at h
  obtain ⟨k,v0⟩:=m
  obtain ⟨k',v1⟩:=v
  obtain ⟨rfl,h2⟩:=h
  rw[List.map_append,List.map_cons,List.nodup_append] at hn
  have hk:k∉a.map Prod.fst:=fun hm=>hn.2.2 k hm k (List.mem_cons_self ..) rfl
  rw[puts,aLh a ms k v0 v1 hk]
  have:=aCI ms vs (a++[(k,v1)]) h2 (by
   rw[List.append_assoc,List.map_append,List.map_append,List.map_cons,List.map_nil,List.singleton_append,List.nodup_append]
   exact hn)
  rw[List.append_assoc,List.append_assoc] at this
  exact this
theorem aAH {α:Type} {ms vs:List (Tx×α)} (h:ms.map Prod.fst=vs.map Prod.fst) (hn:(ms.map Prod.fst).Nodup):puts ms vs=vs:=by
 have:=aCI ms vs [] h (by simpa using hn)
 simpa using this
theorem CWf.mn {o:Oc} {c:Cl} (h:CWf o c):(c.mems.map Mm.nm).Nodup:=by
 have:=h.nd
 unfold Cl.names at this
 exact (List.nodup_append.1 (List.nodup_append.1 this).1).2.1
theorem aQg {l:List (Tx×Int)} (hn:(l.map Prod.fst).Nodup):(l.map Prod.fst).map (gz l)=l.map Prod.snd:=by
 rw[List.map_map]
 apply List.map_congr_left
 intro p hp
 have hf:=qR Prod.fst l hn p hp
 simp only[Function.comp,gz,eO,hf]
 rfl
section
variable {o:Oc} (hw:∀ c,c∈o.cl→CWf o c)
include hw
mutual
theorem aFz:∀ (t:Trn),t.ok o→(n9 t).length=(aHX t).length
 | .mk c ms sb,h=>by have _:=hw;rw[Trn.ok] at h;rw[n9,aHX,List.length_append,List.length_append,List.length_map,List.length_map,aHm sb c.ins h.2.2]
theorem aHm:∀ (l:List Trn) (is:List Ii),uZ o l is→(qZ l).length=(aFD l).length
 | [],is,h=>by have _:=hw;rw[qZ,aFD]
 | t::r,[],h=>by rw[uZ] at h;exact h.elim
 | t::r,i::is,h=>by rw[uZ] at h;rw[qZ,aFD,List.length_append,List.length_append,aFz t h.2.1,aHm r is h.2.2]
end
mutual
theorem aGt:∀ (t u:Trn),t.bare=u.bare→aHX t=aHX u
 | .mk c ms sb,.mk d ns sc,h=>by
  have _:=hw
  rw[Trn.bare,Trn.bare] at h
  injection h with h1 h2 h3
  subst h1
  rw[aHX,aHX,aEg sb sc h3]
theorem aEg:∀ (l k:List Trn),fF l=fF k→aFD l=aFD k
 | [],[],_=>by have _:=hw;rfl
 | [],u::k,h=>by rw[fF,fF] at h;cases h
 | t::r,[],h=>by rw[fF,fF] at h;cases h
 | t::r,u::k,h=>by
  rw[fF,fF] at h
  injection h with h1 h2
  rw[aFD,aFD,aGt t u h1,aEg r k h2]
end
mutual
theorem aCP:∀ (t u:Trn),t.ok o→u.ok o→t.bare=u.bare→t.init=u.init
 | .mk c ms sb,.mk d ns sc,h1,h2,hb=>by
  rw[Trn.bare,Trn.bare] at hb
  injection hb with e1 e2 e3
  subst e1
  rw[Trn.ok] at h1 h2
  have hn:=(hw c h1.1).mn
  have hmn:((mI c.mems).map Prod.fst)=c.mems.map Mm.nm:=by unfold mI;rw[List.map_map];rfl
  rw[Trn.init,Trn.init,aAH (h1.2.1.1.trans hmn.symm) (by rw[h1.2.1.1];exact hn),aAH (h2.2.1.1.trans hmn.symm) (by rw[h2.2.1.1];exact hn),aBr sb sc c.ins h1.2.2 h2.2.2 e3]
theorem aBr:∀ (l k:List Trn) (is:List Ii),uZ o l is→uZ o k is→fF l=fF k→gT l=gT k
 | [],[],is,_,_,_=>by have _:=hw;rfl
 | [],u::k,is,_,_,h=>by rw[fF,fF] at h;cases h
 | t::r,[],is,_,_,h=>by rw[fF,fF] at h;cases h
 | t::r,u::k,[],h1,_,_=>by rw[uZ] at h1;exact h1.elim
 | t::r,u::k,i::is,h1,h2,hb=>by
  rw[uZ] at h1 h2
  rw[fF,fF] at hb
  injection hb with b1 b2
  rw[gT,gT,aCP t u h1.2.1 h2.2.1 b1,aBr r k is h1.2.2 h2.2.2 b2]
end
end
end Go.Ac
end
section
set_option maxRecDepth 4000
namespace Go.Ac
open Go.Proofs
attribute [local simp] Hp.get_set iF
theorem aMG (a b:Nat):jX [a] [b]= !Nat.beq a b:=by unfold jX;simp
def aQO (o:Oc) (c:Cl) (t:Trn):Prop:=∃ (q:CR) (p:Pt),m9 Tryz.prog Ob.cfg 52 [aG o.cells,aG c.cells] [] 0 0=some q∧q.v= .ptr p.a.x p.a.gx 0∧RLies o t p q.hp q.n
theorem aXL (r:Nat):Ob.keep 52 r=Ob.k52 r:=by kernel_rfl
attribute [local simp] aXL Ob.k52
set_option maxHeartbeats 8000000 in
theorem aLO {o:Oc} (uS:dE o=0) (gB:o.sz≤2097152):∀ (N i:Nat) (c:Cl),i<N→o.cl[i]?=some c→aQO o c (iO o (i+1) c):=by
 intro N
 induction N with
 | zero=>intro i c h;omega
 | succ N ih=>
 intro i c hiN hic
 unfold Oc.sz at gB
 have k2:=lI o.cl
 have hcm:=List.mem_of_getElem? hic
 have rN:=pS hcm
 unfold Cl.sz at rN
 have l4:=uE c.mems
 have l5:=sG c.ins
 have hmn:=(aAC uS c hcm).mn
 have main:∃ (v:V) (t:St),m9 Tryz.prog Ob.cfg 52 [aG o.cells,aG c.cells] [] 0 0=some ⟨v,t.hp,t.n,t.c,t.wl⟩∧∃ p:Pt,v= .ptr p.a.x p.a.gx 0∧RLies o (iO o (i+1) c) p t.hp t.n:=by
  refine wG (Q:=fun v (t:St)=>∃ p:Pt,v= .ptr p.a.x p.a.gx 0∧RLies o (iO o (i+1) c) p t.hp t.n) Tryz.func52 rfl (by kernel_rfl) ?_
  refine kZ (j9 @aN @aO @aB @aA @aD @aL @aJ @aH @aI) ?_
  apply WP.loop' (I:=fun D s=>∃ (k g n' c':Nat) (bD:Hp),k+D=c.mems.length∧5≤n'∧bD.get 0=some ⟨0,false,[V.d (.slice (fW o.en)),V.d (.slice (gA o.cl))]⟩∧bD.get 1=some ⟨1,false,[V.d (.str c.nm),V.d (.slice (cM c.inn)),V.d (.slice (cM c.out)),V.d (.slice (cM c.loc)),V.d (.slice (lA c.mems)),V.d (.slice (mD c.ins)),V.d (.slice (dJ c.step))]⟩∧bD.get 2=some ⟨2,false,[V.d (.slice (fW o.en)),V.d (.slice (gA o.cl)),V.d (.str c.nm),V.d (.slice (cM c.inn)),V.d (.slice (cM c.out)),V.d (.slice (cM c.loc)),V.d (.slice (lA c.mems)),V.d (.slice (mD c.ins)),V.d (.slice (dJ c.step)),.osl 3 g 0 k 1 none,.osl 4 4 0 0 1 none]⟩∧bD.get 3=some ⟨g,false,fl (bX ((c.mems.take k).map Mm.ini))⟩∧bD.get 4=some ⟨4,false,[]⟩∧
   s=⟨[(2,.ptr 0 0 0),(3,.ptr 1 1 0),(5,.ptr 2 2 0),(6,dI k)],bD,n',c',0,[]⟩) (d:=c.mems.length)
  ·exact ⟨0,3,5,_,_,by simp,by omega,rfl,rfl,rfl,rfl,rfl,bK (by simp[dI,dL]) rfl⟩
  rintro D _ ⟨k,g,n',c',bD,hk,hn5,h0,h1,h2,h3,h4,rfl⟩
  have n0:=nf (show 0<n' by omega)
  have n1:=nf (show 1<n' by omega)
  have n2:=nf (show 2<n' by omega)
  have n3:=nf (show 3<n' by omega)
  have n4:=nf (show 4<n' by omega)
  refine aNA (uQ @aB @aA @h0 @h1 @h2 @n0 @n1 @n2 @n3 @n4 @lC) ?_
  show WP _ _ _ _ _ _
  refine WP.cond _ rfl (fun hb=>?_) (fun hb=>?_)
  ·simp at hb
   have bR:k<c.mems.length:=by omega
   obtain ⟨d,hd,d9,bS⟩:=bL bR
   have cF:=mU hd
   have tQ:=bG bR (by omega)
   have vD:=bM hd
   obtain ⟨L,hL⟩:∃ L,L=(c.mems.take k).map Mm.ini:=⟨_,rfl⟩
   have hLs:(c.mems.take (k+1)).map Mm.ini=L++[d.ini]:=by rw[vD,hL];simp
   have pL:L.length=k:=by rw[hL];simp;omega
   rw[←hL] at h3
   have r2:=cT (cI L)
   have r3:=cL (cI L)
   have r4:=dW (bX L) [.int .i64 d.ini]
   have r5:=iY L d.ini
   have f5:bT (k+1) 8=true:=by simp[bT];omega
   rw[r5] at r4
   rw[aZ,pL,Nat.mul_one] at r2 r3
   simp only[List.map_cons,List.map_nil] at r4
   have lt3:=eq_true (show 3<n'+1 by omega)
   have lt2:=eq_true (show 2<n'+1 by omega)
   repeat (first
 | apply WP.seq
 | (apply WP.reg;(case hR=>dsimp only [e8,eA,List.map,gS,gZ];exact iZ);(case hr=>(repeat (first
 | (apply RT.op;simp[dI,dL,bS,cF,Mm.cells,bN,h0,h1,h2,h3,n0,n1,n2,n3,n4,bC,iE,bI,b8,bJ,f5,r2,r3,r4,lt3,lt2];exact iZ;(try dsimp only [a8]) <;> exact rfl)
 | (apply RT.call;(iterate 2 simp;exact iZ);exact iZ;(iterate 4 simp[dI,dL,bS,cF,Mm.cells,bN,h0,h1,h2,h3,n0,n1,n2,n3,n4,bC,iE,bI,b8,bJ,f5,r2,r3,r4,lt3,lt2];exact iZ);simp[Is];(try dsimp only [a8]) <;> exact rfl;simp;exact iZ;simp;exact iZ)
 | (apply RT.callV;(iterate 2 simp;exact iZ);exact iZ;(iterate 3 simp[dI,dL,bS,cF,Mm.cells,bN,h0,h1,h2,h3,n0,n1,n2,n3,n4,bC,iE,bI,b8,bJ,f5,r2,r3,r4,lt3,lt2];exact iZ);(try dsimp only [a8]) <;> exact rfl)
 | (apply RT.callI (hd:=hI1) (hne:=hI2) (hw:=hI3) (hwr:=xK);(iterate 2 simp;exact iZ);exact iZ;(iterate 2 simp[dI,dL,bS,cF,Mm.cells,bN,h0,h1,h2,h3,n0,n1,n2,n3,n4,bC,iE,bI,b8,bJ,f5,r2,r3,r4,lt3,lt2];exact iZ);(try dsimp only [a8]) <;> exact rfl;(first|omega|simp))
 | (apply RT.wr;simp[dI,dL,bS,cF,Mm.cells,bN,h0,h1,h2,h3,n0,n1,n2,n3,n4,bC,iE,bI,b8,bJ,f5,r2,r3,r4,lt3,lt2];exact iZ;(try dsimp only [a8]) <;> exact rfl;simp[dI,dL,bS,cF,Mm.cells,bN,h0,h1,h2,h3,n0,n1,n2,n3,n4,bC,iE,bI,b8,bJ,f5,r2,r3,r4,lt3,lt2];exact iZ;(iterate 2 exact iZ);simp;exact iZ)));exact RT.nil);(case hc=>first|(refine c8 [(0,1),(0,2),(0,3),(0,4),(0,5),(1,5),(2,5),(3,5),(4,5),(0,6),(1,6),(2,6),(3,6),(4,6),(0,7),(1,7),(2,7),(3,7),(4,7),(5,7),(6,7),(0,8),(1,8),(2,8),(3,8),(4,8),(0,9),(1,9),(2,9),(3,9),(4,9),(0,10),(1,10),(2,10),(3,10),(4,10),(0,11),(1,11),(2,11),(3,11),(4,11),(0,12)] (by kernel_rfl) (by kernel_rfl) rfl ?_;simp[lF,jX,dY,n0,n1,n2,n3,n4];done)|(show _=_;kernel_rfl));(case ht=>simp[dI,dL,bS,cF,Mm.cells,bN,h0,h1,h2,h3,n0,n1,n2,n3,n4,bC,iE,bI,b8,bJ,f5,r2,r3,r4,lt3,lt2];exact iZ))
 | apply WP.block|apply WP.skip|apply WP.exit|apply WP.ret|refine WP.condT rfl ?_|refine WP.condF rfl ?_)
   refine aY (by simp[tQ];exact Is.rfl) ?_
   exact ⟨D - 1,by omega,k+1,c'+1,_,_,_,by omega,by omega,by simp[n0,h0],by simp[n1,h1],by simp,by simp[n3,hLs],by simp[n4,h4],bK (by simp[dI,dL,tQ]) rfl⟩
  simp at hb
  have tU:k=c.mems.length:=by omega
  rw[tU,List.take_length] at h3
  refine kZ (jn @aB @aA) ?_
  apply WP.loop' (I:=fun D s=>∃ (k gi n' c':Nat) (bD:Hp) (ps:List Pt),k+D=c.ins.length∧ps.length=k∧5≤n'∧RLL o ((c.ins.take k).map fun d=>iO o i (cX o.cl d.cl).1) ps 5 bD n'∧bD.get 0=some ⟨0,false,[V.d (.slice (fW o.en)),V.d (.slice (gA o.cl))]⟩∧bD.get 1=some ⟨1,false,[V.d (.str c.nm),V.d (.slice (cM c.inn)),V.d (.slice (cM c.out)),V.d (.slice (cM c.loc)),V.d (.slice (lA c.mems)),V.d (.slice (mD c.ins)),V.d (.slice (dJ c.step))]⟩∧bD.get 2=some ⟨2,false,[V.d (.slice (fW o.en)),V.d (.slice (gA o.cl)),V.d (.str c.nm),V.d (.slice (cM c.inn)),V.d (.slice (cM c.out)),V.d (.slice (cM c.loc)),V.d (.slice (lA c.mems)),V.d (.slice (mD c.ins)),V.d (.slice (dJ c.step)),.osl 3 g 0 c.mems.length 1 none,.osl 4 gi 0 k 1 none]⟩∧bD.get 3=some ⟨g,false,fl (bX (c.mems.map Mm.ini))⟩∧bD.get 4=some ⟨gi,false,ps.map eQ⟩∧
   s=⟨[(2,.ptr 0 0 0),(3,.ptr 1 1 0),(5,.ptr 2 2 0),(7,dI k)],bD,n',c',0,[]⟩) (d:=c.ins.length)
  ·exact ⟨0,4,n',_,_,[],by simp,rfl,hn5,by simpa using RLL.nil,h0,h1,by rw[h2,tU],h3,by rw[h4];rfl,bK (by simp[dI,dL]) rfl⟩
  clear h0 h1 h2 h3 h4 n0 n1 n2 n3 n4 hn5 tU hb hk
  clear n' c' bD k D
  rintro D _ ⟨k,gi,n',c',bD,ps,hk,hpl,hn5,hLL,h0,h1,h2,h3,h4,rfl⟩
  have n0:=nf (show 0<n' by omega)
  have n1:=nf (show 1<n' by omega)
  have n2:=nf (show 2<n' by omega)
  have n3:=nf (show 3<n' by omega)
  have n4:=nf (show 4<n' by omega)
  refine aNA (uQ @aB @aA @h0 @h1 @h2 @n0 @n1 @n2 @n3 @n4 @lD) ?_
  show WP _ _ _ _ _ _
  refine WP.cond _ rfl (fun hb=>?_) (fun hb=>?_)
  ·simp at hb
   have bR:k<c.ins.length:=by omega
   obtain ⟨d,hd,d9,bS⟩:=bL bR
   have cF:=pV hd
   have tQ:=bG bR (by omega)
   have vD:=bM hd
   obtain ⟨j,hji,hjx,hja⟩:=aIC uS hic d d9
   obtain ⟨_,_,_,aYS⟩:=nK uS hic d d9
   obtain ⟨q,p,hI1,hqv,tR⟩:=ih j _ (by omega) hja
   rw[←nT uS i i j _ (Nat.le_refl _) hja hji] at tR
   have hf:=zF o d.cl (by unfold MX;omega)
   rw[aYS] at hf
   simp only[aG,Oc.cells,Cl.cells,List.map_cons,List.map_nil,dS,dI,dB] at hf hI1
   have hI2:dZ eW q.v=none:=by rw[hqv];rfl
   repeat (first
 | apply WP.seq
 | (apply WP.reg;(case hR=>dsimp only [e8,eA,List.map,gS,gZ];exact iZ);(case hr=>(repeat (first
 | (apply RT.op;simp[dI,dL,bS,cF,Ii.cells,bN,h0,h1,h2,h3,n0,n1,n2,n3,n4,hf];exact iZ;(try dsimp only [a8]) <;> exact rfl)
 | (apply RT.call;(iterate 2 simp;exact iZ);exact iZ;(iterate 4 simp[dI,dL,bS,cF,Ii.cells,bN,h0,h1,h2,h3,n0,n1,n2,n3,n4,hf];exact iZ);simp[Is];(try dsimp only [a8]) <;> exact rfl;simp;exact iZ;simp;exact iZ)
 | (apply RT.callV;(iterate 2 simp;exact iZ);exact iZ;(iterate 3 simp[dI,dL,bS,cF,Ii.cells,bN,h0,h1,h2,h3,n0,n1,n2,n3,n4,hf];exact iZ);(try dsimp only [a8]) <;> exact rfl)
 | (apply RT.callI (hd:=hI1) (hne:=hI2) (hw:=hI3) (hwr:=xK);(iterate 2 simp;exact iZ);exact iZ;(iterate 2 simp[dI,dL,bS,cF,Ii.cells,bN,h0,h1,h2,h3,n0,n1,n2,n3,n4,hf];exact iZ);(try dsimp only [a8]) <;> exact rfl;(first|omega|simp))
 | (apply RT.wr;simp[dI,dL,bS,cF,Ii.cells,bN,h0,h1,h2,h3,n0,n1,n2,n3,n4,hf];exact iZ;(try dsimp only [a8]) <;> exact rfl;simp[dI,dL,bS,cF,Ii.cells,bN,h0,h1,h2,h3,n0,n1,n2,n3,n4,hf];exact iZ;(iterate 2 exact iZ);simp;exact iZ)));exact RT.nil);(case hc=>first|(refine c8 [(0,1),(0,2),(0,3),(1,3),(2,3),(0,4),(0,5),(0,6),(9,10),(0,11),(1,11),(2,11),(3,11),(4,11),(5,11),(6,11),(7,11),(8,11),(9,11),(10,11),(10,12)] (by kernel_rfl) (by kernel_rfl) rfl ?_;simp[lF,jX,dY,n0,n1,n2,n3,n4];done)|(show _=_;kernel_rfl));(case ht=>simp[dI,dL,bS,cF,Ii.cells,bN,h0,h1,h2,h3,n0,n1,n2,n3,n4,hf];exact iZ))
 | apply WP.block|apply WP.skip|apply WP.exit|apply WP.ret|refine WP.condT rfl ?_|refine WP.condF rfl ?_)
   generalize hc2:(cX o.cl d.cl).1=c2 at hI1 tR ⊢
   apply WP.gen3
   intro nC c1 wl1 eS jF
   have y0:nC.get 0=some ⟨0,false,[V.d (.slice (fW o.en)),V.d (.slice (gA o.cl))]⟩:=by rw[eS];simp[n0,h0]
   have y1:nC.get 1=some ⟨1,false,[V.d (.str c.nm),V.d (.slice (cM c.inn)),V.d (.slice (cM c.out)),V.d (.slice (cM c.loc)),V.d (.slice (lA c.mems)),V.d (.slice (mD c.ins)),V.d (.slice (dJ c.step))]⟩:=by rw[eS];simp[n1,h1]
   have y2:nC.get 2=some ⟨2,false,[V.d (.slice (fW o.en)),V.d (.slice (gA o.cl)),V.d (.str c.nm),V.d (.slice (cM c.inn)),V.d (.slice (cM c.out)),V.d (.slice (cM c.loc)),V.d (.slice (lA c.mems)),V.d (.slice (mD c.ins)),V.d (.slice (dJ c.step)),.osl 3 g 0 c.mems.length 1 none,.osl 4 gi 0 k 1 none]⟩:=by rw[eS];simp[n2,h2]
   have y3:nC.get 3=some ⟨g,false,fl (bX (c.mems.map Mm.ini))⟩:=by rw[eS];simp[n3,h3]
   have y4:nC.get 4=some ⟨gi,false,ps.map eQ⟩:=by rw[eS];simp[n4,h4]
   have y5:nC.get n'=some ⟨c',false,[V.d (.str c2.nm),V.d (.slice (cM c2.inn)),V.d (.slice (cM c2.out)),V.d (.slice (cM c2.loc)),V.d (.slice (lA c2.mems)),V.d (.slice (mD c2.ins)),V.d (.slice (dJ c2.step))]⟩:=by rw[eS];simp
   have aRm:RLL o ((c.ins.take k).map fun d=>iO o i (cX o.cl d.cl).1) ps 5 nC n':=hLL.same (Nat.le_refl _) fun x jA nH=>by
    have:(n'=x)=False:=eq_false (by omega)
    rw[eS];simp[this]
   have wP:wl1=[]:=jF
   subst wP
   clear eS jF
   obtain ⟨p2,fP⟩:∃ p2,p2=p.sh (n'+1) c1:=⟨_,rfl⟩
   have hI3:cS (n'+1) c1 q.v= .ptr p2.a.x p2.a.gx 0:=by rw[hqv,fP,Pt.sh_a];simp[cS,Pb.sh]
   obtain ⟨W1,xK⟩:∃ W,hZ (n'+1) c1 (jZ q.hp.get (List.range q.n))=W:=⟨_,rfl⟩
   have hL2:RLies o (iO o i c2) p2 (nC.sets W1) (q.n+(n'+1)):=by rw[←xK,fP];exact tR.import
   have oW:∀ x,x<n'+1→(nC.sets W1).get x=nC.get x:=fun x hx=>by rw[←xK,nV hx]
   have z2:=(oW 2 (by omega)).trans y2
   have z4:=(oW 4 (by omega)).trans y4
   have m1:=nf (show 1<n'+1+q.n by omega)
   have m2:=nf (show 2<n'+1+q.n by omega)
   have m3:=nf (show 3<n'+1+q.n by omega)
   have m4:=nf (show 4<n'+1+q.n by omega)
   have lt2:=eq_true (show 2<n'+1+q.n+1 by omega)
   have lt4:=eq_true (show 4<n'+1+q.n+1 by omega)
   obtain ⟨E,hE⟩:∃ E:List V,E=ps.map eQ:=⟨_,rfl⟩
   have hEl:E.length=k:=by rw[hE];simp[hpl]
   have hEt:E.take k=E:=List.take_of_length_le (by omega)
   rw[←hE] at z4
   have f5:bT (k+1) 8=true:=by simp[bT];omega
   have hge:∀ p,p∈W1→n'+1≤p.1:=by rw[←xK];exact aEb _ _ _
   have d0:=xI hge (show 0<n'+1 by omega)
   have d2:=xI hge (show 2<n'+1 by omega)
   have dn:=xI hge (show n' < n'+1 by omega)
   have mn:=nf (show n' < n'+1+q.n by omega)
   have m0:=nf (show 0<n'+1+q.n by omega)
   repeat (first
 | apply WP.seq
 | (apply WP.reg;(case hR=>dsimp only [e8,eA,List.map,gS,gZ];exact iZ);(case hr=>(repeat (first
 | (apply RT.op;simp[dI,dL,bN,Value.oneCell',y0,y1,y2,y3,y4,y5,z2,z4,n0,n1,n2,n3,n4,m1,m2,m3,m4,lt2,lt4,hEl,hEt,f5,bJ,bC,iE];exact iZ;(try dsimp only [a8]) <;> exact rfl)
 | (apply RT.call;(iterate 2 simp;exact iZ);exact iZ;(iterate 4 simp[dI,dL,bN,Value.oneCell',y0,y1,y2,y3,y4,y5,z2,z4,n0,n1,n2,n3,n4,m1,m2,m3,m4,lt2,lt4,hEl,hEt,f5,bJ,bC,iE];exact iZ);simp[Is];(try dsimp only [a8]) <;> exact rfl;simp;exact iZ;simp;exact iZ)
 | (apply RT.callV;(iterate 2 simp;exact iZ);exact iZ;(iterate 3 simp[dI,dL,bN,Value.oneCell',y0,y1,y2,y3,y4,y5,z2,z4,n0,n1,n2,n3,n4,m1,m2,m3,m4,lt2,lt4,hEl,hEt,f5,bJ,bC,iE];exact iZ);(try dsimp only [a8]) <;> exact rfl)
 | (apply RT.callI (hd:=hI1) (hne:=hI2) (hw:=hI3) (hwr:=xK);(iterate 2 simp;exact iZ);exact iZ;(iterate 2 simp[dI,dL,bN,Value.oneCell',y0,y1,y2,y3,y4,y5,z2,z4,n0,n1,n2,n3,n4,m1,m2,m3,m4,lt2,lt4,hEl,hEt,f5,bJ,bC,iE];exact iZ);(try dsimp only [a8]) <;> exact rfl;(first|omega|simp))
 | (apply RT.wr;simp[dI,dL,bN,Value.oneCell',y0,y1,y2,y3,y4,y5,z2,z4,n0,n1,n2,n3,n4,m1,m2,m3,m4,lt2,lt4,hEl,hEt,f5,bJ,bC,iE];exact iZ;(try dsimp only [a8]) <;> exact rfl;simp[dI,dL,bN,Value.oneCell',y0,y1,y2,y3,y4,y5,z2,z4,n0,n1,n2,n3,n4,m1,m2,m3,m4,lt2,lt4,hEl,hEt,f5,bJ,bC,iE];exact iZ;(iterate 2 exact iZ);simp;exact iZ)));exact RT.nil);(case hc=>first|(refine c8 [(0,1),(0,2),(0,3),(0,4),(0,5),(1,5),(2,5),(3,5),(4,5),(0,6),(1,6),(2,6),(3,6),(4,6),(5,6),(0,7),(1,7),(2,7),(3,7),(4,7),(0,8),(1,8),(2,8),(3,8),(4,8),(0,9)] (by kernel_rfl) (by kernel_rfl) rfl ?_;simp[lF,d0,d2,dn,aMc,aLb,aMG,dY,m0,m2,m4,mn,n0,n2];done)|(show _=_;kernel_rfl));(case ht=>simp[dI,dL,bN,Value.oneCell',y0,y1,y2,y3,y4,y5,z2,z4,n0,n1,n2,n3,n4,m1,m2,m3,m4,lt2,lt4,hEl,hEt,f5,bJ,bC,iE];exact iZ))
 | apply WP.block|apply WP.skip|apply WP.exit|apply WP.ret|refine WP.condT rfl ?_|refine WP.condF rfl ?_)
   refine aY (by simp[tQ];exact Is.rfl) ?_
   refine ⟨D - 1,by omega,k+1,c1+q.c+1,n'+1+q.n+1,_,_,ps++[p2],by omega,by simp[hpl],by omega,?_,by simp[m0,(oW 0 (by omega)).trans y0],by simp[m1,(oW 1 (by omega)).trans y1],by simp,by simp[m3,(oW 3 (by omega)).trans y3],by simp[hE,eQ],bK (by simp[dI,dL,tQ]) rfl⟩
   rw[vD,List.map_append,List.map_cons,List.map_nil,hc2]
   refine aRm.snoc hn5 (hL2.same (fun x hx=>?_) (by omega)) (fun x hx=>?_) (by omega) (fun x jA nH=>?_)
   ·have nH:n'+1≤x:=by rw[fP] at hx;exact aFI _ _ _ x hx
    have hx3:=hL2.lt x hx
    have e1:(2=x)=False:=eq_false (by omega)
    have e2:(4=x)=False:=eq_false (by omega)
    have e3:(n'+1+q.n=x)=False:=eq_false (by omega)
    simp[e1,e2,e3]
   ·have nH:n'+1≤x:=by rw[fP] at hx;exact aFI _ _ _ x hx
    omega
   ·have e1:(2=x)=False:=eq_false (by omega)
    have e2:(4=x)=False:=eq_false (by omega)
    have e3:(n'+1+q.n=x)=False:=eq_false (by omega)
    simp only[Hp.get_set,e1,e2,e3,if_false]
    exact oW x (by omega)
  simp at hb
  have tU:k=c.ins.length:=by omega
  rw[tU,List.take_length] at hLL
  refine kZ (jn @aB @aA) ?_
  refine ⟨.inr rfl,_,rfl,.inr rfl,.mk ⟨2,2,3,g,4,gi⟩ ps,rfl,?_⟩
  have hms:puts [] (mI c.mems)=mI c.mems:=by
   have aYT:((mI c.mems).map Prod.fst)=c.mems.map Mm.nm:=by unfold mI;rw[List.map_map];rfl
   have:=aBZ (mI c.mems) [] (by rw[List.nil_append,aYT];exact hmn)
   simpa using this
  have hnr:∀ x,x<5→x∉dK ps:=fun x hx h=>by have:=(hLL.lo x h).1;omega
  rw[iO,hms]
  refine hLL.lies (by simp) (by show 2<n';omega) (by show 3<n';omega) (by show 4<n';omega) (hnr 2 (by omega)) (hnr 3 (by omega)) (hnr 4 (by omega)) (by simp) (by simp) (by simp) ?_ ?_ h4
  ·show bD.get 2=_
   rw[h2,hpl,tU]
   simp[rO,mI]
  ·show bD.get 3=_
   rw[h3]
   simp[mI,Function.comp_def]
 obtain ⟨v,t,h1,p,h2,h3⟩:=main
 exact ⟨_,p,h1,h2,h3⟩
end Go.Ac
end
section
set_option maxRecDepth 4000
namespace Go.Ac
open Go.Proofs
attribute [local simp] Hp.get_set dA cK cR bW
structure Rb where
 r:Nat
 gr:Nat
 nn:Nat
 gn:Nat
 vv:Nat
 gv:Nat
 x:Nat
 gx:Nat
structure RunA (b:Rb) (vs:List (Tx×Int)) (hp:Hp) (n:Nat):Prop where
 ob:hp.get b.r=some ⟨b.gr,false,[.ptr b.x b.gx 0,.osl b.nn b.gn 0 vs.length 1 none,.osl b.vv b.gv 0 vs.length 1 none]⟩
 nm:hp.get b.nn=some ⟨b.gn,false,fl (eT (vs.map Prod.fst))⟩
 vl:hp.get b.vv=some ⟨b.gv,false,fl (bX (vs.map Prod.snd))⟩
 lr:b.r<n
 ln:b.nn<n
 lv:b.vv<n
 d1:b.r≠b.nn
 d2:b.r≠b.vv
 d3:b.nn≠b.vv
theorem RunA.mono {b:Rb} {vs:List (Tx×Int)} {hp bD:Hp} {n n':Nat} (h:RunA b vs hp n) (ha:Ag n hp bD) (hn:n≤n'):RunA b vs bD n':=
 ⟨(ha _ h.lr).trans h.ob,(ha _ h.ln).trans h.nm,(ha _ h.lv).trans h.vl,by have:=h.lr;omega,by have:=h.ln;omega,by have:=h.lv;omega,h.d1,h.d2,h.d3⟩
theorem aGL:∀ l:List Tx,fl (eT l)=l.map fun s=>V.d (.str s)
 | []=>rfl
 | a::r=>by
  show V.d (.str a)::fl (eT r)=_
  rw[aGL r];rfl
theorem tK:∀ l:List Int,fl (bX l)=l.map fun s=>V.d (.int .i64 s)
 | []=>rfl
 | a::r=>by
  show V.d (.int .i64 a)::fl (bX r)=_
  rw[tK r];rfl
theorem aJv {l:List Tx} {j:Nat} {x:Tx} (h:l[j]?=some x):(fl (eT l))[j]?=some (.d (.str x)):=by rw[aGL,List.getElem?_map,h];rfl
theorem aCb {l:List Int} {j:Nat} {x:Int} (h:l[j]?=some x):(fl (bX l))[j]?=some (.d (.int .i64 x)):=by rw[tK,List.getElem?_map,h];rfl
theorem aHk {vs:List (Tx×Int)} {nm:Tx} {j:Nat} {v:Int} (h:(vs.take j).all (fun p=> !decide (p.1=nm))=true) (hj:vs[j]?=some (nm,v)):gz vs nm=v:=by
 unfold gz eO
 have:vs.find? (fun p=>decide (p.1=nm))=some (nm,v):=by
  rw[←List.take_append_drop j vs,List.find?_append]
  have h1:(vs.take j).find? (fun p=>decide (p.1=nm))=none:=by
   rw[List.find?_eq_none]
   intro x hx
   have:=List.all_eq_true.1 h x hx
   simpa using this
  have h2:vs.drop j=(nm,v)::vs.drop (j+1):=by
   obtain ⟨g1,g2⟩:=List.getElem?_eq_some_iff.1 hj
   rw[List.drop_eq_getElem_cons g1,g2]
  rw[h1,h2];simp
 rw[this];rfl
theorem aTB {vs:List (Tx×Int)} {nm:Tx} (h:vs.all (fun p=> !decide (p.1=nm))=true):gz vs nm=0:=by
 unfold gz eO
 have:vs.find? (fun p=>decide (p.1=nm))=none:=by
  rw[List.find?_eq_none]
  intro x hx
  have:=List.all_eq_true.1 h x hx
  simpa using this
 rw[this];rfl
theorem aUw (r:Nat):Ob.keep 104 r=Ob.k104 r:=by kernel_rfl
theorem aTl (r:Nat):Ob.keep 130 r=Ob.k130 r:=by kernel_rfl
theorem aSW (r:Nat):Ob.keep 131 r=Ob.k131 r:=by kernel_rfl
theorem aON (r:Nat):Ob.keep 129 r=Ob.k129 r:=by kernel_rfl
theorem aOJ (r:Nat):Ob.keep 102 r=Ob.k102 r:=by kernel_rfl
attribute [local simp] aUw Ob.k104 aTl Ob.k130 aSW Ob.k131 aON Ob.k129 aOJ Ob.k102
set_option maxHeartbeats 4000000 in
theorem aFr {b:Rb} {vs:List (Tx×Int)} {hp:Hp} {n:Nat} (h:RunA b vs hp n) (hl:vs.length≤4611686018427387904) (nm:Tx) (cc:Nat):kV Tryz.prog Ob.cfg 104 [.ptr b.r b.gr 0,dS nm] hp n cc (dI (gz vs nm)):=by
 have pB:=h.ob
 refine lZ Tryz.func104 rfl (by kernel_rfl) rfl ?_
 refine cV (j4 @aN @aO @aB @aM) ?_
 apply WP.loop' (I:=fun D st=>∃ (j c':Nat) (bD:Hp),j+D=vs.length∧(vs.take j).all (fun p=> !decide (p.1=nm))=true∧Ag n hp bD∧
  st=⟨[(0,.ptr b.r b.gr 0),(1,dS nm),(5,dI j)],bD,n,c',n,[]⟩) (d:=vs.length)
 ·exact ⟨0,_,_,by simp,by simp,Ag.refl _ _,bK (by simp[dI,dS]) rfl⟩
 rintro D _ ⟨j,c',bD,hj,cD,d8,rfl⟩
 have h':=h.mono d8 (Nat.le_refl n)
 have mG:=h'.ob
 have aBn:=h'.nm
 have aHt:=h'.vl
 refine qE (j5 @aB @aM @mG @aBn @aHt) ?_
 show WP _ _ _ _ _ _
 refine WP.cond _ rfl (fun hb=>?_) (fun hb=>?_)
 ·simp at hb
  have bR:j<vs.length:=by omega
  obtain ⟨p,rU,hpm,bS⟩:=bL bR
  have dH:=bG bR (by omega)
  have hS:=aJv (l:=vs.map Prod.fst) (j:=j) (x:=p.1) (by simp[rU])
  have hV:=aCb (l:=vs.map Prod.snd) (j:=j) (x:=p.2) (by simp[rU])
  have hs:=bZ (p:=fun p:Tx×Int=> !decide (p.1=nm)) rU
  by_cases q:p.1=nm
  ·have q':=eq_true q
   rw[aHk cD (v:=p.2) (by rw[rU,←q])]
   refine cV (nW @aB @aM @mG @aBn @aHt @bS @hS @hV @bE @q') ?_
   exact ⟨.inr rfl,rfl,_,[],rfl,rfl,rfl⟩
  ·have q':=eq_false q
   refine cV (nW @aB @aM @mG @aBn @aHt @bS @hS @hV @bE @q') ?_
   refine aY (by simp[dH];exact Is.rfl) ?_
   exact ⟨D - 1,by omega,j+1,_,_,by omega,by rw[hs,cD];simp[q],by simp[d8],bK (by simp[dI,dS,dH]) rfl⟩
 ·simp at hb
  have eM:j=vs.length:=by omega
  rw[eM,List.take_length] at cD
  rw[aTB cD]
  refine cV (jn @aB @aM) ?_
  exact ⟨.inr rfl,rfl,_,[],rfl,rfl,rfl⟩
def aAS (l:List Mm) (x:Tx):Nat:=match l.findIdx? (fun d=>decide (d.nm=x)) with|some i=>i|none=>0
def aBR (l:List Ii) (x:Tx):Nat:=match l.findIdx? (fun d=>decide (d.nm=x)) with|some i=>i|none=>0
theorem aDi {α:Type} {p:α→Bool} {l:List α} {j:Nat} {d:α} (h:(l.take j).all (fun e=> !p e)=true) (hj:l[j]?=some d) (hp:p d=true):l.findIdx? p=some j:=by
 obtain ⟨g1,g2⟩:=List.getElem?_eq_some_iff.1 hj
 rw[List.findIdx?_eq_some_iff_getElem]
 refine ⟨g1,by rw[g2];exact hp,fun i hi=>?_⟩
 have hm:l[i]'(by omega)∈l.take j:=by rw[List.mem_take_iff_getElem];exact ⟨i,by omega,rfl⟩
 have:=List.all_eq_true.1 h _ hm
 simpa using this
theorem aLW {α:Type} {p:α→Bool} {l:List α} (h:l.all (fun e=> !p e)=true):l.findIdx? p=none:=by
 rw[List.findIdx?_eq_none_iff]
 intro x hx
 have:=List.all_eq_true.1 h x hx
 simpa using this
set_option maxHeartbeats 4000000 in
theorem aLo {o:Oc} {t:Trn} {p:Pt} {hp:Hp} {n:Nat} (h:RLies o t p hp n) (hl:t.c.mems.length≤4611686018427387904) (nm:Tx) (cc:Nat):kV Tryz.prog Ob.cfg 130 [.ptr p.a.x p.a.gx 0,dS nm] hp n cc (dI (aAS t.c.mems nm)):=by
 refine lZ Tryz.func130 rfl (by kernel_rfl) rfl ?_
 refine cV (j4 @aN @aO @aB @aM) ?_
 apply WP.loop' (I:=fun D st=>∃ (j c':Nat) (bD:Hp),j+D=t.c.mems.length∧(t.c.mems.take j).all (fun d=> !decide (d.nm=nm))=true∧Ag n hp bD∧
  st=⟨[(0,.ptr p.a.x p.a.gx 0),(1,dS nm),(5,dI j)],bD,n,c',n,[]⟩) (d:=t.c.mems.length)
 ·exact ⟨0,_,_,by simp,by simp,Ag.refl _ _,bK (by simp[dI,dS]) rfl⟩
 rintro D _ ⟨j,c',bD,hj,cD,d8,rfl⟩
 have mG:=(h.mono d8 (Nat.le_refl n)).ob.2
 simp only[rO] at mG
 refine qE (j4 @aB @aM @mG @lC) ?_
 show WP _ _ _ _ _ _
 refine WP.cond _ rfl (fun hb=>?_) (fun hb=>?_)
 ·simp at hb
  have bR:j<t.c.mems.length:=by omega
  obtain ⟨d,hd,d9,bS⟩:=bL bR
  have cF:=mU hd
  have dH:=bG bR (by omega)
  have hs:=bZ (p:=fun d:Mm=> !decide (d.nm=nm)) hd
  by_cases q:d.nm=nm
  ·have q':=eq_true q
   rw[show aAS t.c.mems nm=j by unfold aAS;rw[aDi cD hd (by simp[q])]]
   refine cV (nW @aB @aM @mG @bS @cF @Mm.cells.eq_1 @aH @aI @bE @q') ?_
   exact ⟨.inr rfl,rfl,_,[],rfl,rfl,rfl⟩
  ·have q':=eq_false q
   refine cV (nW @aB @aM @mG @bS @cF @Mm.cells.eq_1 @aH @aI @bE @q') ?_
   refine aY (by simp[dH];exact Is.rfl) ?_
   exact ⟨D - 1,by omega,j+1,_,_,by omega,by rw[hs,cD];simp[q],by simp[d8],bK (by simp[dI,dS,dH]) rfl⟩
 ·simp at hb
  have eM:j=t.c.mems.length:=by omega
  rw[eM,List.take_length] at cD
  rw[show aAS t.c.mems nm=0 by unfold aAS;rw[aLW cD]]
  refine cV (jn @aB @aM) ?_
  exact ⟨.inr rfl,rfl,_,[],rfl,rfl,rfl⟩
set_option maxHeartbeats 4000000 in
theorem aJg {o:Oc} {t:Trn} {p:Pt} {hp:Hp} {n:Nat} (h:RLies o t p hp n) (hl:t.c.ins.length≤4611686018427387904) (nm:Tx) (cc:Nat):kV Tryz.prog Ob.cfg 131 [.ptr p.a.x p.a.gx 0,dS nm] hp n cc (dI (aBR t.c.ins nm)):=by
 refine lZ Tryz.func131 rfl (by kernel_rfl) rfl ?_
 refine cV (j4 @aN @aO @aB @aM) ?_
 apply WP.loop' (I:=fun D st=>∃ (j c':Nat) (bD:Hp),j+D=t.c.ins.length∧(t.c.ins.take j).all (fun d=> !decide (d.nm=nm))=true∧Ag n hp bD∧
  st=⟨[(0,.ptr p.a.x p.a.gx 0),(1,dS nm),(5,dI j)],bD,n,c',n,[]⟩) (d:=t.c.ins.length)
 ·exact ⟨0,_,_,by simp,by simp,Ag.refl _ _,bK (by simp[dI,dS]) rfl⟩
 rintro D _ ⟨j,c',bD,hj,cD,d8,rfl⟩
 have mG:=(h.mono d8 (Nat.le_refl n)).ob.2
 simp only[rO] at mG
 refine qE (j4 @aB @aM @mG @lD) ?_
 show WP _ _ _ _ _ _
 refine WP.cond _ rfl (fun hb=>?_) (fun hb=>?_)
 ·simp at hb
  have bR:j<t.c.ins.length:=by omega
  obtain ⟨d,hd,d9,bS⟩:=bL bR
  have cF:=pV hd
  have dH:=bG bR (by omega)
  have hs:=bZ (p:=fun d:Ii=> !decide (d.nm=nm)) hd
  by_cases q:d.nm=nm
  ·have q':=eq_true q
   rw[show aBR t.c.ins nm=j by unfold aBR;rw[aDi cD hd (by simp[q])]]
   refine cV (nW @aB @aM @mG @bS @cF @Ii.cells.eq_1 @aH @aI @bE @q') ?_
   exact ⟨.inr rfl,rfl,_,[],rfl,rfl,rfl⟩
  ·have q':=eq_false q
   refine cV (nW @aB @aM @mG @bS @cF @Ii.cells.eq_1 @aH @aI @bE @q') ?_
   refine aY (by simp[dH];exact Is.rfl) ?_
   exact ⟨D - 1,by omega,j+1,_,_,by omega,by rw[hs,cD];simp[q],by simp[d8],bK (by simp[dI,dS,dH]) rfl⟩
 ·simp at hb
  have eM:j=t.c.ins.length:=by omega
  rw[eM,List.take_length] at cD
  rw[show aBR t.c.ins nm=0 by unfold aBR;rw[aLW cD]]
  refine cV (jn @aB @aM) ?_
  exact ⟨.inr rfl,rfl,_,[],rfl,rfl,rfl⟩
end Go.Ac
end
