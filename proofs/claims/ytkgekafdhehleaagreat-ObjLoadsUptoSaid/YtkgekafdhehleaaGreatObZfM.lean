/- A step of the reference under way: its variables. -/
import Derived.Test.YtkgekafdhehleaaGreatObZcM
set_option linter.unusedVariables false
set_option linter.unusedSimpArgs false
section
set_option maxRecDepth 4000
namespace Go.Ac
open Go.Proofs
mutual
theorem aGs (n c:Nat):∀ p:Pt,cQ (p.sh n c)=(cQ p).map (·+n)
 | .mk a ps=>by rw[Pt.sh,cQ,cQ,aHL n c ps];rfl
theorem aHL (n c:Nat):∀ l:List Pt,dO (wT n c l)=(dO l).map (·+n)
 | []=>by rw[wT,dO];rfl
 | p::r=>by rw[wT,dO,dO,aGs n c p,aHL n c r,List.map_append]
end
theorem aMX (n c:Nat):∀ l:List D,dQ n c (l.map V.d)=l.map V.d
 | []=>rfl
 | d::r=>by simp only[List.map_cons,dQ,aMX n c r,cX]
theorem aRy (n c g:Nat) (l:List (List D)):shO n c ⟨g,false,fl l⟩=⟨g+c,false,fl l⟩:=by
 unfold shO fl;simp only[aMX]
theorem aQX (n c g:Nat) (o:Oc) (k:Cl) (im gm j ii gi m:Nat):shO n c (rO g o k im gm j ii gi m)=rO (g+c) o k (im+n) (gm+c) j (ii+n) (gi+c) m:=by
 simp[shO,rO,dQ,cX]
theorem aKz (n c:Nat):∀ l:List Pt,dQ n c (l.map eQ)=(wT n c l).map eQ
 | []=>by rw[wT];rfl
 | p::r=>by
  rw[wT]
  simp only[List.map_cons,dQ,aKz n c r]
  simp[eQ,cX,Pt.sh_a,Pb.sh]
theorem aOG (n c:Nat) (l:List Pt):(wT n c l).length=l.length:=by rw[aFP];simp
mutual
theorem aPJ (o:Oc) (n c:Nat):∀ (t:Trn) (p:Pt),rC o t (p.sh n c)=(rC o t p).map fun q=>(q.1+n,shO n c q.2)
 | .mk k ms sb,.mk a ps=>by
  rw[Pt.sh,rC,rC,aPv o n c sb ps,List.map_cons,List.map_cons,List.map_cons,aQX,aRy,aOG]
  have:shO n c ⟨a.gi,false,ps.map eQ⟩=⟨a.gi+c,false,(wT n c ps).map eQ⟩:=by unfold shO;simp only[aKz]
  rw[this];rfl
theorem aPv (o:Oc) (n c:Nat):∀ (l:List Trn) (ps:List Pt),rL o l (wT n c ps)=(rL o l ps).map fun q=>(q.1+n,shO n c q.2)
 | [],ps=>by rw[rL,rL];rfl
 | t::r,[]=>by rw[wT,rL];rfl
 | t::r,p::ps=>by rw[wT,rL,rL,aPJ o n c t p,aPv o n c r ps,List.map_append]
end
theorem RLies.import {o:Oc} {t:Trn} {p:Pt} {hq hp:Hp} {m n c:Nat} (h:RLies o t p hq m):RLies o t (p.sh n c) (hp.sets (iI n c (kL hq.get (List.range m)))) (m+n):=by
 refine ⟨(aIS n c t p).2 h.fit,?_,fun q g9=>?_⟩
 ·rw[aGs];exact aEw n _ h.nd
 ·rw[aPJ] at g9
  obtain ⟨x,hx,rfl⟩:=List.mem_map.1 g9
  obtain ⟨h1,h2⟩:=h.ce x hx
  exact ⟨by simp only;omega,lA h1 h2⟩
theorem aFT (n c:Nat) (p:Pt):∀ k,k∈cQ (p.sh n c)→n≤k:=by
 rw[aGs]
 intro k hk
 obtain ⟨x,_,rfl⟩:=List.mem_map.1 hk
 omega
structure RLL (o:Oc) (l:List Trn) (ps:List Pt) (lo:Nat) (hp:Hp) (n:Nat):Prop where
 fit:eY l ps
 nd:(dO ps).Nodup
 lo:∀ k,k∈dO ps→lo≤k∧k<n
 ce:∀ q,q∈rL o l ps→hp.get q.1=some q.2
theorem RLL.nil {o:Oc} {lo:Nat} {hp:Hp} {n:Nat}:RLL o [] [] lo hp n:=
 ⟨by rw[eY],by simp[dO],fun k hk=>by simp[dO] at hk,fun q hq=>by simp[rL] at hq⟩
theorem RLL.same {o:Oc} {l:List Trn} {ps:List Pt} {lo:Nat} {hp bB:Hp} {n n':Nat} (h:RLL o l ps lo hp n) (hn:n≤n') (hg:∀ k,lo≤k→k<n→bB.get k=hp.get k):RLL o l ps lo bB n':=by
 refine ⟨h.fit,h.nd,fun k hk=>⟨(h.lo k hk).1,Nat.lt_of_lt_of_le (h.lo k hk).2 hn⟩,fun q hq=>?_⟩
 have hk:q.1∈dO ps:=by rw[←xJ o l ps h.fit];exact List.mem_map.2 ⟨q,hq,rfl⟩
 have:=h.lo _ hk
 rw[hg _ this.1 this.2];exact h.ce q hq
theorem aBi:∀ a b:List Pt,dO (a++b)=dO a++dO b
 | [],b=>by rw[dO];rfl
 | p::r,b=>by rw[List.cons_append,dO,dO,aBi r b,List.append_assoc]
theorem aKy (o:Oc):∀ (l:List Trn) (ps:List Pt) (t:Trn) (p:Pt),eY l ps→rL o (l++[t]) (ps++[p])=rL o l ps++rC o t p
 | [],ps,t,p,h=>by rw[eY] at h;subst h;simp[rL]
 | x::r,[],t,p,h=>by rw[eY] at h;exact h.elim
 | x::r,q::ps,t,p,h=>by rw[eY] at h;rw[List.cons_append,List.cons_append,rL,rL,aKy o r ps t p h.2,List.append_assoc]
theorem RLL.snoc {o:Oc} {l:List Trn} {ps:List Pt} {lo:Nat} {hp bB:Hp} {n n':Nat} {t:Trn} {p:Pt} (h:RLL o l ps lo hp n) (hlo:lo≤n) (hL:RLies o t p bB n') (hge:∀ k,k∈cQ p→n≤k) (hn:n≤n') (hg:∀ k,lo≤k→k<n→bB.get k=hp.get k):RLL o (l++[t]) (ps++[p]) lo bB n':=by
 have h2:=h.same hn hg
 have e1:dO [p]=cQ p:=by simp[dO]
 refine ⟨aBk _ _ _ _ h.fit hL.fit,?_,fun k hk=>?_,fun q hq=>?_⟩
 ·rw[aBi,e1,List.nodup_append]
  exact ⟨h.nd,hL.nd,fun x hx y hy=>by have:=(h.lo x hx).2;have:=hge y hy;omega⟩
 ·rw[aBi,e1] at hk
  rcases List.mem_append.1 hk with hk|hk
  ·exact h2.lo k hk
  ·have:=hge k hk;exact ⟨by omega,hL.lt k hk⟩
 ·rw[aKy o _ _ _ _ h.fit] at hq
  rcases List.mem_append.1 hq with hq|hq
  ·exact h2.ce q hq
  ·exact (hL.ce q hq).2
theorem RLL.lies {o:Oc} {c:Cl} {ms:List (Tx×Int)} {l:List Trn} {a:Pb} {ps:List Pt} {lo:Nat} {hp:Hp} {n:Nat} (h:RLL o l ps lo hp n) (hl:l.length=c.ins.length) (h1:a.x<n) (h2:a.im<n) (h3:a.ii<n) (k1:a.x∉dO ps) (k2:a.im∉dO ps) (k3:a.ii∉dO ps) (d1:a.x≠a.im) (d2:a.x≠a.ii) (d3:a.im≠a.ii)
  (hx:hp.get a.x=some (rO a.gx o c a.im a.gm ms.length a.ii a.gi ps.length)) (hm:hp.get a.im=some ⟨a.gm,false,fl (bQ (ms.map Prod.snd))⟩) (hi:hp.get a.ii=some ⟨a.gi,false,ps.map eQ⟩):RLies o (.mk c ms l) (.mk a ps) hp n:=by
 refine ⟨by rw[Go.Ac.fit];exact ⟨hl,h.fit⟩,?_,fun q hq=>?_⟩
 ·rw[cQ,List.nodup_cons,List.nodup_cons,List.nodup_cons]
  exact ⟨by simp[d1,d2,k1],by simp[d3,k2],k3,h.nd⟩
 ·rw[rC] at hq
  simp only[List.mem_cons] at hq
  rcases hq with hq|hq|hq|hq
  ·subst hq;exact ⟨h1,hx⟩
  ·subst hq;exact ⟨h2,hm⟩
  ·subst hq;exact ⟨h3,hi⟩
  ·have hk:q.1∈dO ps:=by rw[←xJ o l ps h.fit];exact List.mem_map.2 ⟨q,hq,rfl⟩
   exact ⟨(h.lo _ hk).2,h.ce q hq⟩
end Go.Ac
end
section
set_option maxRecDepth 4000
namespace Go.Ac
open Go.Proofs
attribute [local simp] Hp.get_set gX
theorem aLK (b:List Nat):jW [] b=true:=rfl
theorem aMt (a:List Nat):jW a []=true:=by unfold jW;simp
theorem xP {W:List (Nat×Ob)} {n k:Nat} (h:∀ p,p∈W→n≤p.1) (hk:k<n):jW (W.map fun x=>x.1) [k]=true:=by
 unfold jW
 rw[List.all_eq_true]
 intro x hx
 obtain ⟨p,hp,rfl⟩:=List.mem_map.1 hx
 have:=h p hp
 have hb:Nat.beq p.1 k=false:=by
  cases hq:Nat.beq p.1 k with
  | false=>rfl
  | true=>have:=Nat.eq_of_beq_eq_true hq;omega
 simp[hb]
theorem aFb (n c:Nat) (l:List (Nat×Ob)):∀ p,p∈iI n c l→n≤p.1:=by
 intro p hp
 rw[xS,List.mem_map] at hp
 obtain ⟨x,_,rfl⟩:=hp
 simp only;omega
def aTy (o:Oc) (i:Nat) (t:Trn):Prop:=∃ (q:CR) (p:Pt),nV Tryz.prog Ob.cfg 35 [aG o.cells,dI i] [] 0 0=some q∧q.v= .ptr p.a.x p.a.gx 0∧Lies o.en t p q.hp q.n
theorem aXh (r:Nat):Ob.keep 35 r=Ob.k35 r:=by kernel_rfl
attribute [local simp] aXh Ob.k35
set_option maxHeartbeats 8000000 in
theorem aQx {o:Oc} (vD:dH o=0) (gK:o.sz≤2097152):∀ (N i:Nat) (c:Cl),i<N→o.cl[i]?=some c→aTy o i (i5 o (i+1) c):=by
 intro N
 induction N with
 | zero=>intro i c h;omega
 | succ N ih=>
 intro i c hiN hic
 unfold Oc.sz at gK
 have k2:=l7 o.cl
 have hcm:=List.mem_of_getElem? hic
 have sC:=qE hcm
 unfold Cl.sz at sC
 have l4:=u6 c.mems
 have l5:=sO c.ins
 have aEv:=(List.getElem?_eq_some_iff.1 hic).1
 have bV:=kX aEv
 have aZD:=lH hic
 have hwf:=aAU vD c hcm
 have mB:=hwf.nd
 unfold Cl.names at mB
 have hmn:(c.mems.map Mm.nm).Nodup:=(List.nodup_append.1 (List.nodup_append.1 mB).1).2.1
 have hin:(c.ins.map Ii.nm).Nodup:=(List.nodup_append.1 mB).2.1
 have main:∃ (v:V) (t:St),nV Tryz.prog Ob.cfg 35 [aG o.cells,dI i] [] 0 0=some ⟨v,t.hp,t.n,t.c,t.wl⟩∧∃ p:Pt,v= .ptr p.a.x p.a.gx 0∧Lies o.en (i5 o (i+1) c) p t.hp t.n:=by
  refine wV (Q:=fun v (t:St)=>∃ p:Pt,v= .ptr p.a.x p.a.gx 0∧Lies o.en (i5 o (i+1) c) p t.hp t.n) Tryz.func35 rfl (by kernel_rfl) ?_
  refine pZ (o9 @aN @aO @aB @aA @aD @aJ @aK @rH.eq_1 @aH @aI @Value.oneCell'.eq_def @bV @aZD) ?_
  apply WP.loop' (I:=fun D s=>∃ (k n' c':Nat) (bB:Hp),k+D=c.mems.length∧4≤n'∧bB.get 0=some ⟨0,false,[V.d (.slice (f9 o.en)),V.d (.slice (gJ o.cl))]⟩∧bB.get 1=some ⟨1,false,[fW eI (puts [] (mI (c.mems.take k)))]⟩∧bB.get 2=some ⟨2,false,[fW eP []]⟩∧bB.get 3=some (oO 3 o.en c 1 1 2 2)∧
   s=⟨[(2,.ptr 0 0 0),(5,.ptr 3 3 0),(25,dL (lF c.mems)),(26,dI c.mems.length),(27,dI k)],bB,n',c',0,[]⟩) (d:=c.mems.length)
  ·exact ⟨0,4,_,_,by simp,by omega,rfl,rfl,rfl,rfl,bK (by simp[dI,dL]) rfl⟩
  rintro D _ ⟨k,n',c',bB,hk,hn4,h0,h1,h2,h3,rfl⟩
  simp only[oO] at h3
  have n0:=nf (show 0<n' by omega)
  have n1:=nf (show 1<n' by omega)
  have n2:=nf (show 2<n' by omega)
  have n3:=nf (show 3<n' by omega)
  have m1:=eq_true (show 1<n'+1 by omega)
  refine aPb (jn @aB @aA) ?_
  show WP _ _ _ _ _ _
  refine WP.cond _ rfl (fun hb=>?_) (fun hb=>?_)
  ·simp at hb
   have bP:k<c.mems.length:=by omega
   obtain ⟨d,hd,d8,aPr⟩:=bM bP
   have cG:=kI hd
   have uD:=bE bP (by omega)
   have vV:=bL hd
   have nX:=fun (look:cA) (sz by_:Nat) (zr:Option (List V)) (h:look 1=some ⟨1,false,[fW eI (puts [] (mI (c.mems.take k)))]⟩)=>iM eI (puts [] (mI (c.mems.take k))) d.ini (w:= .d (.int .i64 d.ini)) (sz:=sz) (by_:=by_) (zr:=zr) (x:=d.nm) rfl h
   refine pZ (sG @aB @aA @aPr @cG @Mm.cells.eq_1 @aH @aI @h0 @h1 @h2 @h3 @n0 @n1 @n2 @n3 @m1 @nX) ?_
   refine aY (by simp[uD];exact Is.rfl) ?_
   have e1:puts [] (mI (c.mems.take (k+1)))=jY (puts [] (mI (c.mems.take k))) d.nm d.ini:=by rw[vV];simp only[mI,List.map_append,List.map_cons,List.map_nil,fQ]
   have q0:(n'=0)=False:=eq_false (by omega)
   have q1:(n'=1)=False:=eq_false (by omega)
   have q2:(n'=2)=False:=eq_false (by omega)
   have q3:(n'=3)=False:=eq_false (by omega)
   exact ⟨D - 1,by omega,k+1,_,_,_,by omega,by omega,by simp[q0,h0],by simp[e1],by simp[q2,h2],by simp[q3,h3,oO],bK (by simp[dI,dL,uD]) rfl⟩
  simp at hb
  have uG:k=c.mems.length:=by omega
  rw[uG,List.take_length] at h1
  refine pZ (j4 @aB @aA @h3 @n3) ?_
  apply WP.loop' (I:=fun D s=>∃ (k n' c':Nat) (bB:Hp) (ps:List Pt),k+D=c.ins.length∧ps.length=k∧4≤n'∧LL o.en ((c.ins.take k).map fun d=>i5 o i (dC o.cl d.cl).1) ps 4 bB n'∧bB.get 0=some ⟨0,false,[V.d (.slice (f9 o.en)),V.d (.slice (gJ o.cl))]⟩∧bB.get 1=some ⟨1,false,[fW eI (puts [] (mI c.mems))]⟩∧bB.get 2=some ⟨2,false,[fW eP (gT c ps)]⟩∧bB.get 3=some (oO 3 o.en c 1 1 2 2)∧
   s=⟨[(2,.ptr 0 0 0),(5,.ptr 3 3 0),(44,dL (lV c.ins)),(45,dI c.ins.length),(46,dI k)],bB,n',c',0,[]⟩) (d:=c.ins.length)
  ·exact ⟨0,n',_,_,[],by simp,rfl,hn4,by simpa using LL.nil,h0,h1,by rw[h2];simp[gT],by rw[h3];rfl,bK (by simp[dI,dL]) rfl⟩
  clear h0 h1 h2 h3 n0 n1 n2 n3 m1 hn4 uG hb hk
  clear n' c' bB k D
  rintro D _ ⟨k,n',c',bB,ps,hk,hpl,hn4,hLL,h0,h1,h2,h3,rfl⟩
  simp only[oO] at h3
  have n0:=nf (show 0<n' by omega)
  have n1:=nf (show 1<n' by omega)
  have n2:=nf (show 2<n' by omega)
  have n3:=nf (show 3<n' by omega)
  refine aPb (jn @aB @aA) ?_
  show WP _ _ _ _ _ _
  refine WP.cond _ rfl (fun hb=>?_) (fun hb=>?_)
  ·simp at hb
   have bP:k<c.ins.length:=by omega
   obtain ⟨d,hd,d8,aPr⟩:=bM bP
   have cG:=nP hd
   have uD:=bE bP (by omega)
   have vV:=bL hd
   obtain ⟨j,hji,hjx,hja⟩:=aJw vD hic d d8
   obtain ⟨q,p,hI1,hqv,pR⟩:=ih j _ (by omega) hja
   rw[←oJ vD i i j _ (Nat.le_refl _) hja hji] at pR
   have hf:=aJs o d.cl (by unfold MX;omega)
   rw[hjx] at hf
   simp only[aG,Oc.cells,List.map_cons,List.map_nil,dS,dI] at hf hI1
   have hI2:d7 fF q.v=none:=by rw[hqv];rfl
   refine pZ (vG @aB @aA @aPr @cG @Ii.cells.eq_1 @aH @aI @h0 @h1 @h2 @h3 @n0 @n1 @n2 @n3) ?_
   apply WP.gen3
   intro n9 c1 wl1 eG iT
   have q0:(n'=0)=False:=eq_false (by omega)
   have q1:(n'=1)=False:=eq_false (by omega)
   have q2:(n'=2)=False:=eq_false (by omega)
   have q3:(n'=3)=False:=eq_false (by omega)
   have y0:n9.get 0=some ⟨0,false,[V.d (.slice (f9 o.en)),V.d (.slice (gJ o.cl))]⟩:=by rw[eG];simp[q0,h0]
   have y1:n9.get 1=some ⟨1,false,[fW eI (puts [] (mI c.mems))]⟩:=by rw[eG];simp[q1,h1]
   have y2:n9.get 2=some ⟨2,false,[fW eP (gT c ps)]⟩:=by rw[eG];simp[q2,h2]
   have y3:n9.get 3=some ⟨3,false,[V.d (.slice (f9 o.en)),V.d (.str c.nm),V.d (.slice (cM c.inn)),V.d (.slice (cM c.out)),V.d (.slice (cM c.loc)),V.d (.slice (lF c.mems)),V.d (.slice (lV c.ins)),V.d (.slice (dM c.step)),.mp 1 1,.mp 2 2]⟩:=by rw[eG];simp[q3,h3]
   have y4:n9.get n'=some ⟨c',false,[V.d (.str d.nm),V.d (.str d.cl)]⟩:=by rw[eG];simp
   have aRZ:LL o.en ((c.ins.take k).map fun d=>i5 o i (dC o.cl d.cl).1) ps 4 n9 n':=hLL.same (Nat.le_refl _) fun x jI n8=>by
    have:(n'=x)=False:=eq_false (by omega)
    rw[eG];simp[this]
   have aBO:wl1=[]:=iT
   subst aBO
   clear eG iT
   obtain ⟨p2,eW⟩:∃ p2,p2=p.sh (n'+1) c1:=⟨_,rfl⟩
   have hI3:cX (n'+1) c1 q.v= .ptr p2.a.x p2.a.gx 0:=by rw[hqv,eW,Pt.sh_a];simp[cX,Pb.sh]
   obtain ⟨W1,yG⟩:∃ W,iI (n'+1) c1 (kL q.hp.get (List.range q.n))=W:=⟨_,rfl⟩
   have hL2:Lies o.en (i5 o i (dC o.cl d.cl).1) p2 (n9.sets W1) (q.n+(n'+1)):=by rw[←yG,eW];exact pR.import
   have pQ:∀ x,x<n'+1→(n9.sets W1).get x=n9.get x:=fun x hx=>by rw[←yG,oD hx]
   have z2:=(pQ 2 (by omega)).trans y2
   have m2:=eq_true (show 2<n'+1+q.n by omega)
   have nX:=fun (look:cA) (sz by_:Nat) (zr:Option (List V)) (h:look 2=some ⟨2,false,[fW eP (gT c ps)]⟩)=>iM eP (gT c ps) (p2.a.x,p2.a.gx) (w:= .ptr p2.a.x p2.a.gx 0) (sz:=sz) (by_:=by_) (zr:=zr) (x:=d.nm) rfl h
   rw[aKL hin (by rw[hpl];exact hd)] at nX
   have hge:∀ p,p∈W1→n'+1≤p.1:=by rw[←yG];exact aFb _ _ _
   have d0:=xP hge (show 0<n'+1 by omega)
   have d3:=xP hge (show 3<n'+1 by omega)
   have dn:=xP hge (show n' < n'+1 by omega)
   repeat (first
 | apply WP.seq
 | (apply WP.reg;(case hR=>dsimp only [eV,eA,List.map,gS,gZ];exact iZ);(case hr=>(repeat (first
 | (apply RT.op;simp[dI,dL,y0,y1,y2,y3,y4,z2,n0,n1,n2,n3,m2,hf,nX];exact iZ;(try dsimp only [a7]) <;> exact rfl)
 | (apply RT.call;(iterate 2 simp;exact iZ);exact iZ;(iterate 4 simp[dI,dL,y0,y1,y2,y3,y4,z2,n0,n1,n2,n3,m2,hf,nX];exact iZ);simp[Is];(try dsimp only [a7]) <;> exact rfl;simp;exact iZ;simp;exact iZ)
 | (apply RT.callV;(iterate 2 simp;exact iZ);exact iZ;(iterate 3 simp[dI,dL,y0,y1,y2,y3,y4,z2,n0,n1,n2,n3,m2,hf,nX];exact iZ);(try dsimp only [a7]) <;> exact rfl)
 | (apply RT.callI (hd:=hI1) (hne:=hI2) (hw:=hI3) (hwr:=yG);(iterate 2 simp;exact iZ);exact iZ;(iterate 2 simp[dI,dL,y0,y1,y2,y3,y4,z2,n0,n1,n2,n3,m2,hf,nX];exact iZ);(try dsimp only [a7]) <;> exact rfl;(first|omega|simp))
 | (apply RT.wr;simp[dI,dL,y0,y1,y2,y3,y4,z2,n0,n1,n2,n3,m2,hf,nX];exact iZ;(try dsimp only [a7]) <;> exact rfl;simp[dI,dL,y0,y1,y2,y3,y4,z2,n0,n1,n2,n3,m2,hf,nX];exact iZ;(iterate 2 exact iZ);simp;exact iZ)));exact RT.nil);(case hc=>first|(refine cW [(0,4),(1,4),(2,4),(3,4),(0,5),(1,5),(2,5),(3,5),(0,6),(1,6),(2,6),(3,6),(4,6),(5,6),(0,7),(1,7),(2,7),(3,7),(4,7),(5,7),(6,7),(0,8),(1,8),(2,8),(3,8),(4,8),(5,8),(6,8),(7,8),(0,9),(1,9),(2,9),(3,9),(4,9),(5,9),(6,9),(7,9),(0,10),(1,10),(2,10),(3,10),(4,10),(5,10),(6,10),(0,11),(1,11),(2,11),(3,11),(4,11),(5,11)] (by kernel_rfl) (by kernel_rfl) rfl ?_;simp[lO,d0,d3,dn,aLK,aMt];done)|(show _=_;kernel_rfl));(case ht=>simp[dI,dL,y0,y1,y2,y3,y4,z2,n0,n1,n2,n3,m2,hf,nX];exact iZ))
 | apply WP.block|apply WP.skip|apply WP.exit|apply WP.ret|refine WP.condT rfl ?_|refine WP.condF rfl ?_)
   refine aY (by simp[uD];exact Is.rfl) ?_
   refine ⟨D - 1,by omega,k+1,n'+1+q.n,_,_,ps++[p2],by omega,by simp[hpl],by omega,?_,by simp[(pQ 0 (by omega)).trans y0],by simp[(pQ 1 (by omega)).trans y1],by simp,by simp[(pQ 3 (by omega)).trans y3,oO],bK (by simp[dI,dL,uD]) rfl⟩
   rw[vV,List.map_append]
   refine aRZ.snoc hn4 (hL2.same2 (fun x hx=>?_) (by omega)) (fun x hx=>?_) (by omega) (fun x jI n8=>?_)
   ·have n8:n'+1≤x:=by rw[eW] at hx;exact aPy _ _ _ x hx
    have:(2=x)=False:=eq_false (by omega)
    simp[this]
   ·have n8:n'+1≤x:=by rw[eW] at hx;exact aPy _ _ _ x hx
    omega
   ·have:(2=x)=False:=eq_false (by omega)
    simp only[Hp.get_set,this,if_false]
    exact pQ x (by omega)
  simp at hb
  have uG:k=c.ins.length:=by omega
  rw[uG,List.take_length] at hLL
  refine pZ (jn @aB @aA) ?_
  refine ⟨.inr rfl,_,rfl,.inr rfl,.mk ⟨3,3,1,1,2,2⟩ ps,rfl,?_⟩
  rw[i5]
  exact hLL.lies (by simp) (by simp) (by simp) (by simp) (by simp) (by simp) (by simp) hn4 (by rw[h3];rfl) h2 h1
 obtain ⟨v,t,h1,p,h2,h3⟩:=main
 exact ⟨_,p,h1,h2,h3⟩
end Go.Ac
end
section
set_option maxRecDepth 4000
namespace Go.Ac
open Go.Proofs
mutual
def qA:Trn→List Int→Trn
 | .mk c ms sb,m=> .mk c (puts ms ((c.mems.map Mm.nm).zip m)) (kJ sb (m.drop c.mems.length))
def kJ:List Trn→List Int→List Trn
 | [],_=>[]
 | t::r,m=>qA t m::kJ r (m.drop (d9 t).length)
end
mutual
theorem qQ:∀ (t:Trn) (m:List Int),(qA t m).bare=t.bare
 | .mk c ms sb,m=>by rw[qA,Trn.bare,Trn.bare,aDK sb]
theorem aDK:∀ (l:List Trn) (m:List Int),e8 (kJ l m)=e8 l
 | [],m=>by rw[kJ]
 | t::r,m=>by rw[kJ,e8,e8,qQ t,aDK r]
end
theorem aHH {α:Type} (a ms:List (Tx×α)) (k:Tx) (v0 v:α) (h:k∉a.map Prod.fst):jY (a++(k,v0)::ms) k v=a++(k,v)::ms:=by
 have hf:List.findIdx? (fun p=>decide (p.1=k)) (a++(k,v0)::ms)=some a.length:=by
  rw[List.findIdx?_eq_some_iff_getElem]
  refine ⟨by simp,by simp,fun j hj=>?_⟩
  rw[List.getElem_append_left hj]
  have:a[j].1≠k:=fun e=>h (List.mem_map.2 ⟨_,List.getElem_mem hj,e⟩)
  simp[this]
 unfold jY
 rw[hf]
 simp
theorem aDh {α:Type}:∀ (ms vs a:List (Tx×α)),ms.map Prod.fst=vs.map Prod.fst→((a++ms).map Prod.fst).Nodup→puts (a++ms) vs=a++vs
 | [],[],a,_,_=>by rw[puts]
 | [],v::vs,a,h,_=>by simp at h
 | m::ms,[],a,h,_=>by simp at h
 | m::ms,v::vs,a,h,hn=>by
  simp only[List.map_cons,List.cons.injEq] at h
  obtain ⟨k,v0⟩:=m
  obtain ⟨k',v1⟩:=v
  obtain ⟨rfl,h2⟩:=h
  rw[List.map_append,List.map_cons,List.nodup_append] at hn
  have hk:k∉a.map Prod.fst:=fun hm=>hn.2.2 k hm k (List.mem_cons_self ..) rfl
  rw[puts,aHH a ms k v0 v1 hk]
  have:=aDh ms vs (a++[(k,v1)]) h2 (by
   rw[List.append_assoc,List.map_append,List.map_append,List.map_cons,List.map_nil,List.singleton_append,List.nodup_append]
   exact hn)
  rw[List.append_assoc,List.append_assoc] at this
  exact this
theorem xI {α:Type} {ms vs:List (Tx×α)} (h:ms.map Prod.fst=vs.map Prod.fst) (hn:(ms.map Prod.fst).Nodup):puts ms vs=vs:=by
 have:=aDh ms vs [] h (by simpa using hn)
 simpa using this
theorem CWf.mn {o:Oc} {c:Cl} (h:CWf o c):(c.mems.map Mm.nm).Nodup:=by
 have:=h.nd
 unfold Cl.names at this
 exact (List.nodup_append.1 (List.nodup_append.1 this).1).2.1
theorem aMs {l:List (Tx×Int)} (hn:(l.map Prod.fst).Nodup):(l.map Prod.fst).map (gz l)=l.map Prod.snd:=by
 rw[List.map_map]
 apply List.map_congr_left
 intro p hp
 have hf:=qW Prod.fst l hn p hp
 simp only[Function.comp,gz,eS,hf]
 rfl
section
variable {o:Oc} (hw:∀ c,c∈o.cl→CWf o c)
include hw
mutual
theorem aCI:∀ (t:Trn),t.ok o→(mS t).length=(d9 t).length
 | .mk c ms sb,h=>by have _:=hw;rw[Trn.ok] at h;rw[mS,d9,List.length_append,List.length_append,List.length_map,List.length_map,aGY sb c.ins h.2.2]
theorem aGY:∀ (l:List Trn) (is:List Ii),rS o l is→(oY l).length=(iW l).length
 | [],is,h=>by have _:=hw;rw[oY,iW]
 | t::r,[],h=>by rw[rS] at h;exact h.elim
 | t::r,i::is,h=>by rw[rS] at h;rw[oY,iW,List.length_append,List.length_append,aCI t h.2.1,aGY r is h.2.2]
end
mutual
theorem aHa:∀ (t u:Trn),t.bare=u.bare→d9 t=d9 u
 | .mk c ms sb,.mk d ns sc,h=>by
  have _:=hw
  rw[Trn.bare,Trn.bare] at h
  injection h with h1 h2 h3
  subst h1
  rw[d9,d9,aEy sb sc h3]
theorem aEy:∀ (l k:List Trn),e8 l=e8 k→iW l=iW k
 | [],[],_=>by have _:=hw;rfl
 | [],u::k,h=>by rw[e8,e8] at h;cases h
 | t::r,[],h=>by rw[e8,e8] at h;cases h
 | t::r,u::k,h=>by
  rw[e8,e8] at h
  injection h with h1 h2
  rw[iW,iW,aHa t u h1,aEy r k h2]
end
mutual
theorem aDZ:∀ (t u:Trn),t.ok o→u.ok o→t.bare=u.bare→t.init=u.init
 | .mk c ms sb,.mk d ns sc,h1,h2,hb=>by
  rw[Trn.bare,Trn.bare] at hb
  injection hb with e1 e2 e3
  subst e1
  rw[Trn.ok] at h1 h2
  have hn:=(hw c h1.1).mn
  have hmn:((mI c.mems).map Prod.fst)=c.mems.map Mm.nm:=by unfold mI;rw[List.map_map];rfl
  rw[Trn.init,Trn.init,xI (h1.2.1.1.trans hmn.symm) (by rw[h1.2.1.1];exact hn),xI (h2.2.1.1.trans hmn.symm) (by rw[h2.2.1.1];exact hn),aBQ sb sc c.ins h1.2.2 h2.2.2 e3]
theorem aBQ:∀ (l k:List Trn) (is:List Ii),rS o l is→rS o k is→e8 l=e8 k→hJ l=hJ k
 | [],[],is,_,_,_=>by have _:=hw;rfl
 | [],u::k,is,_,_,h=>by rw[e8,e8] at h;cases h
 | t::r,[],is,_,_,h=>by rw[e8,e8] at h;cases h
 | t::r,u::k,[],h1,_,_=>by rw[rS] at h1;exact h1.elim
 | t::r,u::k,i::is,h1,h2,hb=>by
  rw[rS] at h1 h2
  rw[e8,e8] at hb
  injection hb with b1 b2
  rw[hJ,hJ,aDZ t u h1.2.1 h2.2.1 b1,aBQ r k is h1.2.2 h2.2.2 b2]
end
end
end Go.Ac
end
section
set_option maxRecDepth 4000
namespace Go.Ac
open Go.Proofs
attribute [local simp] Hp.get_set gX
theorem aMW (a b:Nat):jW [a] [b]= !Nat.beq a b:=by unfold jW;simp
def aPX (o:Oc) (c:Cl) (t:Trn):Prop:=∃ (q:CR) (p:Pt),nV Tryz.prog Ob.cfg 52 [aG o.cells,aG c.cells] [] 0 0=some q∧q.v= .ptr p.a.x p.a.gx 0∧RLies o t p q.hp q.n
theorem aWR (r:Nat):Ob.keep 52 r=Ob.k52 r:=by kernel_rfl
attribute [local simp] aWR Ob.k52
set_option maxHeartbeats 8000000 in
theorem aMH {o:Oc} (vD:dH o=0) (gK:o.sz≤2097152):∀ (N i:Nat) (c:Cl),i<N→o.cl[i]?=some c→aPX o c (i5 o (i+1) c):=by
 intro N
 induction N with
 | zero=>intro i c h;omega
 | succ N ih=>
 intro i c hiN hic
 unfold Oc.sz at gK
 have k2:=l7 o.cl
 have hcm:=List.mem_of_getElem? hic
 have sC:=qE hcm
 unfold Cl.sz at sC
 have l4:=u6 c.mems
 have l5:=sO c.ins
 have hmn:=(aAU vD c hcm).mn
 have main:∃ (v:V) (t:St),nV Tryz.prog Ob.cfg 52 [aG o.cells,aG c.cells] [] 0 0=some ⟨v,t.hp,t.n,t.c,t.wl⟩∧∃ p:Pt,v= .ptr p.a.x p.a.gx 0∧RLies o (i5 o (i+1) c) p t.hp t.n:=by
  refine wV (Q:=fun v (t:St)=>∃ p:Pt,v= .ptr p.a.x p.a.gx 0∧RLies o (i5 o (i+1) c) p t.hp t.n) Tryz.func52 rfl (by kernel_rfl) ?_
  refine pZ (j9 @aN @aO @aB @aA @aD @aJ @aK @aH @aI) ?_
  apply WP.loop' (I:=fun D s=>∃ (k g n' c':Nat) (bB:Hp),k+D=c.mems.length∧5≤n'∧bB.get 0=some ⟨0,false,[V.d (.slice (f9 o.en)),V.d (.slice (gJ o.cl))]⟩∧bB.get 1=some ⟨1,false,[V.d (.str c.nm),V.d (.slice (cM c.inn)),V.d (.slice (cM c.out)),V.d (.slice (cM c.loc)),V.d (.slice (lF c.mems)),V.d (.slice (lV c.ins)),V.d (.slice (dM c.step))]⟩∧bB.get 2=some ⟨2,false,[V.d (.slice (f9 o.en)),V.d (.slice (gJ o.cl)),V.d (.str c.nm),V.d (.slice (cM c.inn)),V.d (.slice (cM c.out)),V.d (.slice (cM c.loc)),V.d (.slice (lF c.mems)),V.d (.slice (lV c.ins)),V.d (.slice (dM c.step)),.osl 3 g 0 k 1 none,.osl 4 4 0 0 1 none]⟩∧bB.get 3=some ⟨g,false,fl (bQ ((c.mems.take k).map Mm.ini))⟩∧bB.get 4=some ⟨4,false,[]⟩∧
   s=⟨[(2,.ptr 0 0 0),(3,.ptr 1 1 0),(5,.ptr 2 2 0),(6,dI k)],bB,n',c',0,[]⟩) (d:=c.mems.length)
  ·exact ⟨0,3,5,_,_,by simp,by omega,rfl,rfl,rfl,rfl,rfl,bK (by simp[dI,dL]) rfl⟩
  rintro D _ ⟨k,g,n',c',bB,hk,hn5,h0,h1,h2,h3,h4,rfl⟩
  have n0:=nf (show 0<n' by omega)
  have n1:=nf (show 1<n' by omega)
  have n2:=nf (show 2<n' by omega)
  have n3:=nf (show 3<n' by omega)
  have n4:=nf (show 4<n' by omega)
  refine aPb (u7 @aB @aA @h0 @h1 @h2 @n0 @n1 @n2 @n3 @n4 @jC) ?_
  show WP _ _ _ _ _ _
  refine WP.cond _ rfl (fun hb=>?_) (fun hb=>?_)
  ·simp at hb
   have bP:k<c.mems.length:=by omega
   obtain ⟨d,hd,d8,bV⟩:=bM bP
   have cG:=kI hd
   have uD:=bE bP (by omega)
   have vV:=bL hd
   obtain ⟨L,hL⟩:∃ L,L=(c.mems.take k).map Mm.ini:=⟨_,rfl⟩
   have hLs:(c.mems.take (k+1)).map Mm.ini=L++[d.ini]:=by rw[vV,hL];simp
   have nT:L.length=k:=by rw[hL];simp;omega
   rw[←hL] at h3
   have r2:=cR (b7 L)
   have r3:=cI (b7 L)
   have r4:=dT (bQ L) [.int .i64 d.ini]
   have r5:=g7 L d.ini
   have f5:bU (k+1) 8=true:=by simp[bU];omega
   rw[r5] at r4
   rw[aZ,nT,Nat.mul_one] at r2 r3
   simp only[List.map_cons,List.map_nil] at r4
   have lt3:=eq_true (show 3<n'+1 by omega)
   have lt2:=eq_true (show 2<n'+1 by omega)
   repeat (first
 | apply WP.seq
 | (apply WP.reg;(case hR=>dsimp only [eV,eA,List.map,gS,gZ];exact iZ);(case hr=>(repeat (first
 | (apply RT.op;simp[dI,dL,bV,cG,Mm.cells,bO,h0,h1,h2,h3,n0,n1,n2,n3,n4,bD,iE,bG,b8,bH,f5,r2,r3,r4,lt3,lt2];exact iZ;(try dsimp only [a7]) <;> exact rfl)
 | (apply RT.call;(iterate 2 simp;exact iZ);exact iZ;(iterate 4 simp[dI,dL,bV,cG,Mm.cells,bO,h0,h1,h2,h3,n0,n1,n2,n3,n4,bD,iE,bG,b8,bH,f5,r2,r3,r4,lt3,lt2];exact iZ);simp[Is];(try dsimp only [a7]) <;> exact rfl;simp;exact iZ;simp;exact iZ)
 | (apply RT.callV;(iterate 2 simp;exact iZ);exact iZ;(iterate 3 simp[dI,dL,bV,cG,Mm.cells,bO,h0,h1,h2,h3,n0,n1,n2,n3,n4,bD,iE,bG,b8,bH,f5,r2,r3,r4,lt3,lt2];exact iZ);(try dsimp only [a7]) <;> exact rfl)
 | (apply RT.callI (hd:=hI1) (hne:=hI2) (hw:=hI3) (hwr:=yG);(iterate 2 simp;exact iZ);exact iZ;(iterate 2 simp[dI,dL,bV,cG,Mm.cells,bO,h0,h1,h2,h3,n0,n1,n2,n3,n4,bD,iE,bG,b8,bH,f5,r2,r3,r4,lt3,lt2];exact iZ);(try dsimp only [a7]) <;> exact rfl;(first|omega|simp))
 | (apply RT.wr;simp[dI,dL,bV,cG,Mm.cells,bO,h0,h1,h2,h3,n0,n1,n2,n3,n4,bD,iE,bG,b8,bH,f5,r2,r3,r4,lt3,lt2];exact iZ;(try dsimp only [a7]) <;> exact rfl;simp[dI,dL,bV,cG,Mm.cells,bO,h0,h1,h2,h3,n0,n1,n2,n3,n4,bD,iE,bG,b8,bH,f5,r2,r3,r4,lt3,lt2];exact iZ;(iterate 2 exact iZ);simp;exact iZ)));exact RT.nil);(case hc=>first|(refine cW [(0,1),(0,2),(0,3),(0,4),(0,5),(1,5),(2,5),(3,5),(4,5),(0,6),(1,6),(2,6),(3,6),(4,6),(0,7),(1,7),(2,7),(3,7),(4,7),(5,7),(6,7),(0,8),(1,8),(2,8),(3,8),(4,8),(0,9),(1,9),(2,9),(3,9),(4,9),(0,10),(1,10),(2,10),(3,10),(4,10),(0,11),(1,11),(2,11),(3,11),(4,11),(0,12)] (by kernel_rfl) (by kernel_rfl) rfl ?_;simp[lO,jW,dX,n0,n1,n2,n3,n4];done)|(show _=_;kernel_rfl));(case ht=>simp[dI,dL,bV,cG,Mm.cells,bO,h0,h1,h2,h3,n0,n1,n2,n3,n4,bD,iE,bG,b8,bH,f5,r2,r3,r4,lt3,lt2];exact iZ))
 | apply WP.block|apply WP.skip|apply WP.exit|apply WP.ret|refine WP.condT rfl ?_|refine WP.condF rfl ?_)
   refine aY (by simp[uD];exact Is.rfl) ?_
   exact ⟨D - 1,by omega,k+1,c'+1,_,_,_,by omega,by omega,by simp[n0,h0],by simp[n1,h1],by simp,by simp[n3,hLs],by simp[n4,h4],bK (by simp[dI,dL,uD]) rfl⟩
  simp at hb
  have uG:k=c.mems.length:=by omega
  rw[uG,List.take_length] at h3
  refine pZ (jn @aB @aA) ?_
  apply WP.loop' (I:=fun D s=>∃ (k gi n' c':Nat) (bB:Hp) (ps:List Pt),k+D=c.ins.length∧ps.length=k∧5≤n'∧RLL o ((c.ins.take k).map fun d=>i5 o i (dC o.cl d.cl).1) ps 5 bB n'∧bB.get 0=some ⟨0,false,[V.d (.slice (f9 o.en)),V.d (.slice (gJ o.cl))]⟩∧bB.get 1=some ⟨1,false,[V.d (.str c.nm),V.d (.slice (cM c.inn)),V.d (.slice (cM c.out)),V.d (.slice (cM c.loc)),V.d (.slice (lF c.mems)),V.d (.slice (lV c.ins)),V.d (.slice (dM c.step))]⟩∧bB.get 2=some ⟨2,false,[V.d (.slice (f9 o.en)),V.d (.slice (gJ o.cl)),V.d (.str c.nm),V.d (.slice (cM c.inn)),V.d (.slice (cM c.out)),V.d (.slice (cM c.loc)),V.d (.slice (lF c.mems)),V.d (.slice (lV c.ins)),V.d (.slice (dM c.step)),.osl 3 g 0 c.mems.length 1 none,.osl 4 gi 0 k 1 none]⟩∧bB.get 3=some ⟨g,false,fl (bQ (c.mems.map Mm.ini))⟩∧bB.get 4=some ⟨gi,false,ps.map eQ⟩∧
   s=⟨[(2,.ptr 0 0 0),(3,.ptr 1 1 0),(5,.ptr 2 2 0),(7,dI k)],bB,n',c',0,[]⟩) (d:=c.ins.length)
  ·exact ⟨0,4,n',_,_,[],by simp,rfl,hn5,by simpa using RLL.nil,h0,h1,by rw[h2,uG],h3,by rw[h4];rfl,bK (by simp[dI,dL]) rfl⟩
  clear h0 h1 h2 h3 h4 n0 n1 n2 n3 n4 hn5 uG hb hk
  clear n' c' bB k D
  rintro D _ ⟨k,gi,n',c',bB,ps,hk,hpl,hn5,hLL,h0,h1,h2,h3,h4,rfl⟩
  have n0:=nf (show 0<n' by omega)
  have n1:=nf (show 1<n' by omega)
  have n2:=nf (show 2<n' by omega)
  have n3:=nf (show 3<n' by omega)
  have n4:=nf (show 4<n' by omega)
  refine aPb (u7 @aB @aA @h0 @h1 @h2 @n0 @n1 @n2 @n3 @n4 @lU) ?_
  show WP _ _ _ _ _ _
  refine WP.cond _ rfl (fun hb=>?_) (fun hb=>?_)
  ·simp at hb
   have bP:k<c.ins.length:=by omega
   obtain ⟨d,hd,d8,bV⟩:=bM bP
   have cG:=nP hd
   have uD:=bE bP (by omega)
   have vV:=bL hd
   obtain ⟨j,hji,hjx,hja⟩:=aJw vD hic d d8
   obtain ⟨_,_,_,aZE⟩:=oK vD hic d d8
   obtain ⟨q,p,hI1,hqv,pR⟩:=ih j _ (by omega) hja
   rw[←oJ vD i i j _ (Nat.le_refl _) hja hji] at pR
   have hf:=aAA o d.cl (by unfold MX;omega)
   rw[aZE] at hf
   simp only[aG,Oc.cells,Cl.cells,List.map_cons,List.map_nil,dS,dI,dB] at hf hI1
   have hI2:d7 fF q.v=none:=by rw[hqv];rfl
   repeat (first
 | apply WP.seq
 | (apply WP.reg;(case hR=>dsimp only [eV,eA,List.map,gS,gZ];exact iZ);(case hr=>(repeat (first
 | (apply RT.op;simp[dI,dL,bV,cG,Ii.cells,bO,h0,h1,h2,h3,n0,n1,n2,n3,n4,hf];exact iZ;(try dsimp only [a7]) <;> exact rfl)
 | (apply RT.call;(iterate 2 simp;exact iZ);exact iZ;(iterate 4 simp[dI,dL,bV,cG,Ii.cells,bO,h0,h1,h2,h3,n0,n1,n2,n3,n4,hf];exact iZ);simp[Is];(try dsimp only [a7]) <;> exact rfl;simp;exact iZ;simp;exact iZ)
 | (apply RT.callV;(iterate 2 simp;exact iZ);exact iZ;(iterate 3 simp[dI,dL,bV,cG,Ii.cells,bO,h0,h1,h2,h3,n0,n1,n2,n3,n4,hf];exact iZ);(try dsimp only [a7]) <;> exact rfl)
 | (apply RT.callI (hd:=hI1) (hne:=hI2) (hw:=hI3) (hwr:=yG);(iterate 2 simp;exact iZ);exact iZ;(iterate 2 simp[dI,dL,bV,cG,Ii.cells,bO,h0,h1,h2,h3,n0,n1,n2,n3,n4,hf];exact iZ);(try dsimp only [a7]) <;> exact rfl;(first|omega|simp))
 | (apply RT.wr;simp[dI,dL,bV,cG,Ii.cells,bO,h0,h1,h2,h3,n0,n1,n2,n3,n4,hf];exact iZ;(try dsimp only [a7]) <;> exact rfl;simp[dI,dL,bV,cG,Ii.cells,bO,h0,h1,h2,h3,n0,n1,n2,n3,n4,hf];exact iZ;(iterate 2 exact iZ);simp;exact iZ)));exact RT.nil);(case hc=>first|(refine cW [(0,1),(0,2),(0,3),(1,3),(2,3),(0,4),(0,5),(0,6),(9,10),(0,11),(1,11),(2,11),(3,11),(4,11),(5,11),(6,11),(7,11),(8,11),(9,11),(10,11),(10,12)] (by kernel_rfl) (by kernel_rfl) rfl ?_;simp[lO,jW,dX,n0,n1,n2,n3,n4];done)|(show _=_;kernel_rfl));(case ht=>simp[dI,dL,bV,cG,Ii.cells,bO,h0,h1,h2,h3,n0,n1,n2,n3,n4,hf];exact iZ))
 | apply WP.block|apply WP.skip|apply WP.exit|apply WP.ret|refine WP.condT rfl ?_|refine WP.condF rfl ?_)
   generalize hc2:(dC o.cl d.cl).1=c2 at hI1 pR ⊢
   apply WP.gen3
   intro n9 c1 wl1 eG iT
   have y0:n9.get 0=some ⟨0,false,[V.d (.slice (f9 o.en)),V.d (.slice (gJ o.cl))]⟩:=by rw[eG];simp[n0,h0]
   have y1:n9.get 1=some ⟨1,false,[V.d (.str c.nm),V.d (.slice (cM c.inn)),V.d (.slice (cM c.out)),V.d (.slice (cM c.loc)),V.d (.slice (lF c.mems)),V.d (.slice (lV c.ins)),V.d (.slice (dM c.step))]⟩:=by rw[eG];simp[n1,h1]
   have y2:n9.get 2=some ⟨2,false,[V.d (.slice (f9 o.en)),V.d (.slice (gJ o.cl)),V.d (.str c.nm),V.d (.slice (cM c.inn)),V.d (.slice (cM c.out)),V.d (.slice (cM c.loc)),V.d (.slice (lF c.mems)),V.d (.slice (lV c.ins)),V.d (.slice (dM c.step)),.osl 3 g 0 c.mems.length 1 none,.osl 4 gi 0 k 1 none]⟩:=by rw[eG];simp[n2,h2]
   have y3:n9.get 3=some ⟨g,false,fl (bQ (c.mems.map Mm.ini))⟩:=by rw[eG];simp[n3,h3]
   have y4:n9.get 4=some ⟨gi,false,ps.map eQ⟩:=by rw[eG];simp[n4,h4]
   have y5:n9.get n'=some ⟨c',false,[V.d (.str c2.nm),V.d (.slice (cM c2.inn)),V.d (.slice (cM c2.out)),V.d (.slice (cM c2.loc)),V.d (.slice (lF c2.mems)),V.d (.slice (lV c2.ins)),V.d (.slice (dM c2.step))]⟩:=by rw[eG];simp
   have aRZ:RLL o ((c.ins.take k).map fun d=>i5 o i (dC o.cl d.cl).1) ps 5 n9 n':=hLL.same (Nat.le_refl _) fun x jI n8=>by
    have:(n'=x)=False:=eq_false (by omega)
    rw[eG];simp[this]
   have aBO:wl1=[]:=iT
   subst aBO
   clear eG iT
   obtain ⟨p2,eW⟩:∃ p2,p2=p.sh (n'+1) c1:=⟨_,rfl⟩
   have hI3:cX (n'+1) c1 q.v= .ptr p2.a.x p2.a.gx 0:=by rw[hqv,eW,Pt.sh_a];simp[cX,Pb.sh]
   obtain ⟨W1,yG⟩:∃ W,iI (n'+1) c1 (kL q.hp.get (List.range q.n))=W:=⟨_,rfl⟩
   have hL2:RLies o (i5 o i c2) p2 (n9.sets W1) (q.n+(n'+1)):=by rw[←yG,eW];exact pR.import
   have pQ:∀ x,x<n'+1→(n9.sets W1).get x=n9.get x:=fun x hx=>by rw[←yG,oD hx]
   have z2:=(pQ 2 (by omega)).trans y2
   have z4:=(pQ 4 (by omega)).trans y4
   have m1:=nf (show 1<n'+1+q.n by omega)
   have m2:=nf (show 2<n'+1+q.n by omega)
   have m3:=nf (show 3<n'+1+q.n by omega)
   have m4:=nf (show 4<n'+1+q.n by omega)
   have lt2:=eq_true (show 2<n'+1+q.n+1 by omega)
   have lt4:=eq_true (show 4<n'+1+q.n+1 by omega)
   obtain ⟨E,hE⟩:∃ E:List V,E=ps.map eQ:=⟨_,rfl⟩
   have hEl:E.length=k:=by rw[hE];simp[hpl]
   have hEt:E.take k=E:=List.take_of_length_le (by omega)
   rw[←hE] at z4
   have f5:bU (k+1) 8=true:=by simp[bU];omega
   have hge:∀ p,p∈W1→n'+1≤p.1:=by rw[←yG];exact aFb _ _ _
   have d0:=xP hge (show 0<n'+1 by omega)
   have d2:=xP hge (show 2<n'+1 by omega)
   have dn:=xP hge (show n' < n'+1 by omega)
   have mn:=nf (show n' < n'+1+q.n by omega)
   have m0:=nf (show 0<n'+1+q.n by omega)
   repeat (first
 | apply WP.seq
 | (apply WP.reg;(case hR=>dsimp only [eV,eA,List.map,gS,gZ];exact iZ);(case hr=>(repeat (first
 | (apply RT.op;simp[dI,dL,bO,Value.oneCell',y0,y1,y2,y3,y4,y5,z2,z4,n0,n1,n2,n3,n4,m1,m2,m3,m4,lt2,lt4,hEl,hEt,f5,bH,bD,iE];exact iZ;(try dsimp only [a7]) <;> exact rfl)
 | (apply RT.call;(iterate 2 simp;exact iZ);exact iZ;(iterate 4 simp[dI,dL,bO,Value.oneCell',y0,y1,y2,y3,y4,y5,z2,z4,n0,n1,n2,n3,n4,m1,m2,m3,m4,lt2,lt4,hEl,hEt,f5,bH,bD,iE];exact iZ);simp[Is];(try dsimp only [a7]) <;> exact rfl;simp;exact iZ;simp;exact iZ)
 | (apply RT.callV;(iterate 2 simp;exact iZ);exact iZ;(iterate 3 simp[dI,dL,bO,Value.oneCell',y0,y1,y2,y3,y4,y5,z2,z4,n0,n1,n2,n3,n4,m1,m2,m3,m4,lt2,lt4,hEl,hEt,f5,bH,bD,iE];exact iZ);(try dsimp only [a7]) <;> exact rfl)
 | (apply RT.callI (hd:=hI1) (hne:=hI2) (hw:=hI3) (hwr:=yG);(iterate 2 simp;exact iZ);exact iZ;(iterate 2 simp[dI,dL,bO,Value.oneCell',y0,y1,y2,y3,y4,y5,z2,z4,n0,n1,n2,n3,n4,m1,m2,m3,m4,lt2,lt4,hEl,hEt,f5,bH,bD,iE];exact iZ);(try dsimp only [a7]) <;> exact rfl;(first|omega|simp))
 | (apply RT.wr;simp[dI,dL,bO,Value.oneCell',y0,y1,y2,y3,y4,y5,z2,z4,n0,n1,n2,n3,n4,m1,m2,m3,m4,lt2,lt4,hEl,hEt,f5,bH,bD,iE];exact iZ;(try dsimp only [a7]) <;> exact rfl;simp[dI,dL,bO,Value.oneCell',y0,y1,y2,y3,y4,y5,z2,z4,n0,n1,n2,n3,n4,m1,m2,m3,m4,lt2,lt4,hEl,hEt,f5,bH,bD,iE];exact iZ;(iterate 2 exact iZ);simp;exact iZ)));exact RT.nil);(case hc=>first|(refine cW [(0,1),(0,2),(0,3),(0,4),(0,5),(1,5),(2,5),(3,5),(4,5),(0,6),(1,6),(2,6),(3,6),(4,6),(5,6),(0,7),(1,7),(2,7),(3,7),(4,7),(0,8),(1,8),(2,8),(3,8),(4,8),(0,9)] (by kernel_rfl) (by kernel_rfl) rfl ?_;simp[lO,d0,d2,dn,aLK,aMt,aMW,dX,m0,m2,m4,mn,n0,n2];done)|(show _=_;kernel_rfl));(case ht=>simp[dI,dL,bO,Value.oneCell',y0,y1,y2,y3,y4,y5,z2,z4,n0,n1,n2,n3,n4,m1,m2,m3,m4,lt2,lt4,hEl,hEt,f5,bH,bD,iE];exact iZ))
 | apply WP.block|apply WP.skip|apply WP.exit|apply WP.ret|refine WP.condT rfl ?_|refine WP.condF rfl ?_)
   refine aY (by simp[uD];exact Is.rfl) ?_
   refine ⟨D - 1,by omega,k+1,c1+q.c+1,n'+1+q.n+1,_,_,ps++[p2],by omega,by simp[hpl],by omega,?_,by simp[m0,(pQ 0 (by omega)).trans y0],by simp[m1,(pQ 1 (by omega)).trans y1],by simp,by simp[m3,(pQ 3 (by omega)).trans y3],by simp[hE,eQ],bK (by simp[dI,dL,uD]) rfl⟩
   rw[vV,List.map_append,List.map_cons,List.map_nil,hc2]
   refine aRZ.snoc hn5 (hL2.same (fun x hx=>?_) (by omega)) (fun x hx=>?_) (by omega) (fun x jI n8=>?_)
   ·have n8:n'+1≤x:=by rw[eW] at hx;exact aFT _ _ _ x hx
    have hx3:=hL2.lt x hx
    have e1:(2=x)=False:=eq_false (by omega)
    have e2:(4=x)=False:=eq_false (by omega)
    have e3:(n'+1+q.n=x)=False:=eq_false (by omega)
    simp[e1,e2,e3]
   ·have n8:n'+1≤x:=by rw[eW] at hx;exact aFT _ _ _ x hx
    omega
   ·have e1:(2=x)=False:=eq_false (by omega)
    have e2:(4=x)=False:=eq_false (by omega)
    have e3:(n'+1+q.n=x)=False:=eq_false (by omega)
    simp only[Hp.get_set,e1,e2,e3,if_false]
    exact pQ x (by omega)
  simp at hb
  have uG:k=c.ins.length:=by omega
  rw[uG,List.take_length] at hLL
  refine pZ (jn @aB @aA) ?_
  refine ⟨.inr rfl,_,rfl,.inr rfl,.mk ⟨2,2,3,g,4,gi⟩ ps,rfl,?_⟩
  have hms:puts [] (mI c.mems)=mI c.mems:=by
   have aZF:((mI c.mems).map Prod.fst)=c.mems.map Mm.nm:=by unfold mI;rw[List.map_map];rfl
   have:=aCM (mI c.mems) [] (by rw[List.nil_append,aZF];exact hmn)
   simpa using this
  have hnr:∀ x,x<5→x∉dO ps:=fun x hx h=>by have:=(hLL.lo x h).1;omega
  rw[i5,hms]
  refine hLL.lies (by simp) (by show 2<n';omega) (by show 3<n';omega) (by show 4<n';omega) (hnr 2 (by omega)) (hnr 3 (by omega)) (hnr 4 (by omega)) (by simp) (by simp) (by simp) ?_ ?_ h4
  ·show bB.get 2=_
   rw[h2,hpl,uG]
   simp[rO,mI]
  ·show bB.get 3=_
   rw[h3]
   simp[mI,Function.comp_def]
 obtain ⟨v,t,h1,p,h2,h3⟩:=main
 exact ⟨_,p,h1,h2,h3⟩
end Go.Ac
end
section
set_option maxRecDepth 4000
namespace Go.Ac
open Go.Proofs
attribute [local simp] Hp.get_set cY cE cN bW
structure Rb where
 r:Nat
 gr:Nat
 nn:Nat
 gn:Nat
 vv:Nat
 gv:Nat
 x:Nat
 gx:Nat
structure RunA (b:Rb) (vs:List (Tx×Int)) (hp:Hp) (n:Nat):Prop where
 ob:hp.get b.r=some ⟨b.gr,false,[.ptr b.x b.gx 0,.osl b.nn b.gn 0 vs.length 1 none,.osl b.vv b.gv 0 vs.length 1 none]⟩
 nm:hp.get b.nn=some ⟨b.gn,false,fl (eX (vs.map Prod.fst))⟩
 vl:hp.get b.vv=some ⟨b.gv,false,fl (bQ (vs.map Prod.snd))⟩
 lr:b.r<n
 ln:b.nn<n
 lv:b.vv<n
 d1:b.r≠b.nn
 d2:b.r≠b.vv
 d3:b.nn≠b.vv
theorem RunA.mono {b:Rb} {vs:List (Tx×Int)} {hp bB:Hp} {n n':Nat} (h:RunA b vs hp n) (ha:Ag n hp bB) (hn:n≤n'):RunA b vs bB n':=
 ⟨(ha _ h.lr).trans h.ob,(ha _ h.ln).trans h.nm,(ha _ h.lv).trans h.vl,by have:=h.lr;omega,by have:=h.ln;omega,by have:=h.lv;omega,h.d1,h.d2,h.d3⟩
theorem aHn:∀ l:List Tx,fl (eX l)=l.map fun s=>V.d (.str s)
 | []=>rfl
 | a::r=>by
  show V.d (.str a)::fl (eX r)=_
  rw[aHn r];rfl
theorem qP:∀ l:List Int,fl (bQ l)=l.map fun s=>V.d (.int .i64 s)
 | []=>rfl
 | a::r=>by
  show V.d (.int .i64 a)::fl (bQ r)=_
  rw[qP r];rfl
theorem aKs {l:List Tx} {j:Nat} {x:Tx} (h:l[j]?=some x):(fl (eX l))[j]?=some (.d (.str x)):=by rw[aHn,List.getElem?_map,h];rfl
theorem aCQ {l:List Int} {j:Nat} {x:Int} (h:l[j]?=some x):(fl (bQ l))[j]?=some (.d (.int .i64 x)):=by rw[qP,List.getElem?_map,h];rfl
theorem aHN {vs:List (Tx×Int)} {nm:Tx} {j:Nat} {v:Int} (h:(vs.take j).all (fun p=> !decide (p.1=nm))=true) (hj:vs[j]?=some (nm,v)):gz vs nm=v:=by
 unfold gz eS
 have:vs.find? (fun p=>decide (p.1=nm))=some (nm,v):=by
  rw[←List.take_append_drop j vs,List.find?_append]
  have h1:(vs.take j).find? (fun p=>decide (p.1=nm))=none:=by
   rw[List.find?_eq_none]
   intro x hx
   have:=List.all_eq_true.1 h x hx
   simpa using this
  have h2:vs.drop j=(nm,v)::vs.drop (j+1):=by
   obtain ⟨g1,g2⟩:=List.getElem?_eq_some_iff.1 hj
   rw[List.drop_eq_getElem_cons g1,g2]
  rw[h1,h2];simp
 rw[this];rfl
theorem aVx {vs:List (Tx×Int)} {nm:Tx} (h:vs.all (fun p=> !decide (p.1=nm))=true):gz vs nm=0:=by
 unfold gz eS
 have:vs.find? (fun p=>decide (p.1=nm))=none:=by
  rw[List.find?_eq_none]
  intro x hx
  have:=List.all_eq_true.1 h x hx
  simpa using this
 rw[this];rfl
theorem aTG (r:Nat):Ob.keep 104 r=Ob.k104 r:=by kernel_rfl
theorem aUD (r:Nat):Ob.keep 130 r=Ob.k130 r:=by kernel_rfl
theorem aUP (r:Nat):Ob.keep 131 r=Ob.k131 r:=by kernel_rfl
theorem aPB (r:Nat):Ob.keep 129 r=Ob.k129 r:=by kernel_rfl
theorem aPG (r:Nat):Ob.keep 102 r=Ob.k102 r:=by kernel_rfl
attribute [local simp] aTG Ob.k104 aUD Ob.k130 aUP Ob.k131 aPB Ob.k129 aPG Ob.k102
set_option maxHeartbeats 4000000 in
theorem aFV {b:Rb} {vs:List (Tx×Int)} {hp:Hp} {n:Nat} (h:RunA b vs hp n) (hl:vs.length≤4611686018427387904) (nm:Tx) (cc:Nat):jL Tryz.prog Ob.cfg 104 [.ptr b.r b.gr 0,dS nm] hp n cc (dI (gz vs nm)):=by
 have kD:=h.ob
 refine j1 Tryz.func104 rfl (by kernel_rfl) rfl ?_
 refine cT (j4 @aN @aO @aB @aM) ?_
 apply WP.loop' (I:=fun D st=>∃ (j c':Nat) (bB:Hp),j+D=vs.length∧(vs.take j).all (fun p=> !decide (p.1=nm))=true∧Ag n hp bB∧
  st=⟨[(0,.ptr b.r b.gr 0),(1,dS nm),(5,dI j)],bB,n,c',n,[]⟩) (d:=vs.length)
 ·exact ⟨0,_,_,by simp,by simp,Ag.refl _ _,bK (by simp[dI,dS]) rfl⟩
 rintro D _ ⟨j,c',bB,hj,cF,dW,rfl⟩
 have h':=h.mono dW (Nat.le_refl n)
 have fN:=h'.ob
 have aBN:=h'.nm
 have aIb:=h'.vl
 refine pS (j5 @aB @aM @fN @aBN @aIb) ?_
 show WP _ _ _ _ _ _
 refine WP.cond _ rfl (fun hb=>?_) (fun hb=>?_)
 ·simp at hb
  have bP:j<vs.length:=by omega
  obtain ⟨p,sJ,hpm,bV⟩:=bM bP
  have c9:=bE bP (by omega)
  have hS:=aKs (l:=vs.map Prod.fst) (j:=j) (x:=p.1) (by simp[sJ])
  have hV:=aCQ (l:=vs.map Prod.snd) (j:=j) (x:=p.2) (by simp[sJ])
  have hs:=bZ (p:=fun p:Tx×Int=> !decide (p.1=nm)) sJ
  by_cases q:p.1=nm
  ·have q':=eq_true q
   rw[aHN cF (v:=p.2) (by rw[sJ,←q])]
   refine cT (oR @aB @aM @fN @aBN @aIb @bV @hS @hV @bF @q') ?_
   exact ⟨.inr rfl,rfl,_,[],rfl,rfl,rfl⟩
  ·have q':=eq_false q
   refine cT (oR @aB @aM @fN @aBN @aIb @bV @hS @hV @bF @q') ?_
   refine aY (by simp[c9];exact Is.rfl) ?_
   exact ⟨D - 1,by omega,j+1,_,_,by omega,by rw[hs,cF];simp[q],by simp[dW],bK (by simp[dI,dS,c9]) rfl⟩
 ·simp at hb
  have eE:j=vs.length:=by omega
  rw[eE,List.take_length] at cF
  rw[aVx cF]
  refine cT (jn @aB @aM) ?_
  exact ⟨.inr rfl,rfl,_,[],rfl,rfl,rfl⟩
def aBC (l:List Mm) (x:Tx):Nat:=match l.findIdx? (fun d=>decide (d.nm=x)) with|some i=>i|none=>0
def aCr (l:List Ii) (x:Tx):Nat:=match l.findIdx? (fun d=>decide (d.nm=x)) with|some i=>i|none=>0
theorem aDR {α:Type} {p:α→Bool} {l:List α} {j:Nat} {d:α} (h:(l.take j).all (fun e=> !p e)=true) (hj:l[j]?=some d) (hp:p d=true):l.findIdx? p=some j:=by
 obtain ⟨g1,g2⟩:=List.getElem?_eq_some_iff.1 hj
 rw[List.findIdx?_eq_some_iff_getElem]
 refine ⟨g1,by rw[g2];exact hp,fun i hi=>?_⟩
 have hm:l[i]'(by omega)∈l.take j:=by rw[List.mem_take_iff_getElem];exact ⟨i,by omega,rfl⟩
 have:=List.all_eq_true.1 h _ hm
 simpa using this
theorem aLW {α:Type} {p:α→Bool} {l:List α} (h:l.all (fun e=> !p e)=true):l.findIdx? p=none:=by
 rw[List.findIdx?_eq_none_iff]
 intro x hx
 have:=List.all_eq_true.1 h x hx
 simpa using this
set_option maxHeartbeats 4000000 in
theorem aMc {o:Oc} {t:Trn} {p:Pt} {hp:Hp} {n:Nat} (h:RLies o t p hp n) (hl:t.c.mems.length≤4611686018427387904) (nm:Tx) (cc:Nat):jL Tryz.prog Ob.cfg 130 [.ptr p.a.x p.a.gx 0,dS nm] hp n cc (dI (aBC t.c.mems nm)):=by
 refine j1 Tryz.func130 rfl (by kernel_rfl) rfl ?_
 refine cT (j4 @aN @aO @aB @aM) ?_
 apply WP.loop' (I:=fun D st=>∃ (j c':Nat) (bB:Hp),j+D=t.c.mems.length∧(t.c.mems.take j).all (fun d=> !decide (d.nm=nm))=true∧Ag n hp bB∧
  st=⟨[(0,.ptr p.a.x p.a.gx 0),(1,dS nm),(5,dI j)],bB,n,c',n,[]⟩) (d:=t.c.mems.length)
 ·exact ⟨0,_,_,by simp,by simp,Ag.refl _ _,bK (by simp[dI,dS]) rfl⟩
 rintro D _ ⟨j,c',bB,hj,cF,dW,rfl⟩
 have fN:=(h.mono dW (Nat.le_refl n)).ob.2
 simp only[rO] at fN
 refine pS (j4 @aB @aM @fN @jC) ?_
 show WP _ _ _ _ _ _
 refine WP.cond _ rfl (fun hb=>?_) (fun hb=>?_)
 ·simp at hb
  have bP:j<t.c.mems.length:=by omega
  obtain ⟨d,hd,d8,bV⟩:=bM bP
  have cG:=kI hd
  have c9:=bE bP (by omega)
  have hs:=bZ (p:=fun d:Mm=> !decide (d.nm=nm)) hd
  by_cases q:d.nm=nm
  ·have q':=eq_true q
   rw[show aBC t.c.mems nm=j by unfold aBC;rw[aDR cF hd (by simp[q])]]
   refine cT (oR @aB @aM @fN @bV @cG @Mm.cells.eq_1 @aH @aI @bF @q') ?_
   exact ⟨.inr rfl,rfl,_,[],rfl,rfl,rfl⟩
  ·have q':=eq_false q
   refine cT (oR @aB @aM @fN @bV @cG @Mm.cells.eq_1 @aH @aI @bF @q') ?_
   refine aY (by simp[c9];exact Is.rfl) ?_
   exact ⟨D - 1,by omega,j+1,_,_,by omega,by rw[hs,cF];simp[q],by simp[dW],bK (by simp[dI,dS,c9]) rfl⟩
 ·simp at hb
  have eE:j=t.c.mems.length:=by omega
  rw[eE,List.take_length] at cF
  rw[show aBC t.c.mems nm=0 by unfold aBC;rw[aLW cF]]
  refine cT (jn @aB @aM) ?_
  exact ⟨.inr rfl,rfl,_,[],rfl,rfl,rfl⟩
set_option maxHeartbeats 4000000 in
theorem aKg {o:Oc} {t:Trn} {p:Pt} {hp:Hp} {n:Nat} (h:RLies o t p hp n) (hl:t.c.ins.length≤4611686018427387904) (nm:Tx) (cc:Nat):jL Tryz.prog Ob.cfg 131 [.ptr p.a.x p.a.gx 0,dS nm] hp n cc (dI (aCr t.c.ins nm)):=by
 refine j1 Tryz.func131 rfl (by kernel_rfl) rfl ?_
 refine cT (j4 @aN @aO @aB @aM) ?_
 apply WP.loop' (I:=fun D st=>∃ (j c':Nat) (bB:Hp),j+D=t.c.ins.length∧(t.c.ins.take j).all (fun d=> !decide (d.nm=nm))=true∧Ag n hp bB∧
  st=⟨[(0,.ptr p.a.x p.a.gx 0),(1,dS nm),(5,dI j)],bB,n,c',n,[]⟩) (d:=t.c.ins.length)
 ·exact ⟨0,_,_,by simp,by simp,Ag.refl _ _,bK (by simp[dI,dS]) rfl⟩
 rintro D _ ⟨j,c',bB,hj,cF,dW,rfl⟩
 have fN:=(h.mono dW (Nat.le_refl n)).ob.2
 simp only[rO] at fN
 refine pS (j4 @aB @aM @fN @lU) ?_
 show WP _ _ _ _ _ _
 refine WP.cond _ rfl (fun hb=>?_) (fun hb=>?_)
 ·simp at hb
  have bP:j<t.c.ins.length:=by omega
  obtain ⟨d,hd,d8,bV⟩:=bM bP
  have cG:=nP hd
  have c9:=bE bP (by omega)
  have hs:=bZ (p:=fun d:Ii=> !decide (d.nm=nm)) hd
  by_cases q:d.nm=nm
  ·have q':=eq_true q
   rw[show aCr t.c.ins nm=j by unfold aCr;rw[aDR cF hd (by simp[q])]]
   refine cT (oR @aB @aM @fN @bV @cG @Ii.cells.eq_1 @aH @aI @bF @q') ?_
   exact ⟨.inr rfl,rfl,_,[],rfl,rfl,rfl⟩
  ·have q':=eq_false q
   refine cT (oR @aB @aM @fN @bV @cG @Ii.cells.eq_1 @aH @aI @bF @q') ?_
   refine aY (by simp[c9];exact Is.rfl) ?_
   exact ⟨D - 1,by omega,j+1,_,_,by omega,by rw[hs,cF];simp[q],by simp[dW],bK (by simp[dI,dS,c9]) rfl⟩
 ·simp at hb
  have eE:j=t.c.ins.length:=by omega
  rw[eE,List.take_length] at cF
  rw[show aCr t.c.ins nm=0 by unfold aCr;rw[aLW cF]]
  refine cT (jn @aB @aM) ?_
  exact ⟨.inr rfl,rfl,_,[],rfl,rfl,rfl⟩
end Go.Ac
end
