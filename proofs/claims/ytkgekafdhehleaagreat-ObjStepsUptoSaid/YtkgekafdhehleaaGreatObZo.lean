/- ObSteps by data. -/
import Derived.Test.YtkgekafdhehleaaGreatObZnM
set_option linter.unusedVariables false
set_option linter.unusedSimpArgs false
set_option maxRecDepth 4000
namespace Go.Ac
open Go.Proofs
attribute [local simp] Hp.get_set iF bW
structure Both (o:Oc) (t:Trn) (p:Pt) (u:Trn) (r:Pt) (hp:Hp) (n:Nat):Prop where
 a:Lies o.en t p hp n
 b:RLies o u r hp n
 d:∀ k,k∈cW r→k∉lS p++dM p
section
variable {o:Oc} {t t' u u':Trn} {p r r':Pt} {hp bD hpz:Hp} {n n':Nat}
theorem Both.stepa (h:Both o t p u r hp n) (hL:Lies o.en t' p bD n) (hf:∀ k,k<n→k∉dM p→bD.get k=hp.get k):Both o t' p u r bD n:=
 ⟨hL,h.b.same (fun k hk=>hf k (h.b.lt k hk) fun h2=>h.d k hk (List.mem_append_right _ h2)) (Nat.le_refl _),h.d⟩
theorem Both.stepb (h:Both o t p u r hp n) (hL:RLies o u' r' bD n') (hm:Moved r r' n) (hn:n≤n') (hf:∀ k,k<n→k∉cW r→bD.get k=hp.get k):Both o t p u' r' bD n':=by
 have fB:∀ k,k∈lS p++dM p→k<n:=fun k hk=>by
  rcases List.mem_append.1 hk with hk|hk
  ·exact h.a.sids_lt k hk
  ·exact h.a.mids_lt k hk
 refine ⟨h.a.same2 (fun k hk=>hf k (fB k hk) fun h2=>h.d k h2 hk) hn,hL,fun k hk h2=>?_⟩
 rcases hm.sub k hk with h3|h3
 ·exact h.d k h3 h2
 ·have:=fB k h2;omega
theorem Both.mono (h:Both o t p u r hp n) (ha:Ag n hp bD):Both o t p u r bD n:=⟨h.a.mono ha (Nat.le_refl _),h.b.mono ha (Nat.le_refl _),h.d⟩
end
theorem aTq (va:V):d7 Tryz.prog Ob.cfg 19 [nP,va]=some (.tuple [.full [],dI 1]):=by
 have h:aGU 19 [nP,va] [] 0 0 (.tuple [.full [],dI 1]) [] (fun _ _=>True):=by
  refine aEP Tryz.func19 rfl (by kernel_rfl) rfl ?_
  refine fN (j5 @aN @aO @aB @aA @nP.eq_1) ?_
  exact ⟨.inr rfl,_,rfl,rfl,Nat.le_refl 0,WI.refl,trivial⟩
 obtain ⟨q,h1,h2,_⟩:=h
 unfold d7
 rw[h1]
 show (match dZ eW q.v with|some _=>some q.v|none=>none)=_
 rw[h2]
 rfl
theorem aQF {look:cA} {id g sz:Nat} {ro:Bool} {l:List (List D)} {cap:Option Nat} (h:∀ r∈l,r.length=sz) (hl:look id=some ⟨g,ro,fl l⟩):yQ look qY (.osl id g 0 l.length sz cap)=some (.slice l,[id]):=by
 have h2:ofD (yQ look qY (.osl id g 0 l.length sz cap))=some (dL l,[id]):=jH h hl
 cases ht:yQ look qY (.osl id g 0 l.length sz cap) with
 | none=>rw[ht] at h2;cases h2
 | some x=>
  obtain ⟨a,b⟩:=x
  rw[ht] at h2
  simp only[ofD,dL,Option.some.injEq,Prod.mk.injEq,V.d.injEq] at h2
  rw[h2.1,h2.2]
attribute [local simp] aVc Ob.k20
theorem aJk:d7 Tryz.prog Ob.cfg 20 [dL [],.full []]=some (dB true):=by
 refine bF Tryz.func20 rfl (by kernel_rfl) rfl rfl ?_
 refine fN (j3 @aB @aA @aV) ?_
 apply WP.loop' (I:=fun D s=>SE [(0,dL []),(1,.full []),(5,dI 0)] [] 0 s) (d:=0)
 ·exact SE.mk (by simp[dI,dL]) rfl
 rintro D _ ⟨cc,rfl⟩
 refine fN (jn @aB @aA) ?_
 show a7 _ _ _ _ _
 exact ⟨.inr rfl,_,_,rfl,rfl⟩
theorem kf6 (r:Nat):Ob.keep 6 r=Ob.k6 r:=by kernel_rfl
attribute [local simp] kf6 Ob.k6
set_option maxHeartbeats 8000000 in
theorem steps_den (o:Oc) (nm:Tx) (rows:List (List Int)) (gB:o.sz≤2097152) (cE:o.ok) (sW:rows.length≤1048576) (hr2:∀ r∈rows,r.length≤1048576):d7 Tryz.prog Ob.cfg 6 [aG o.cells,dS nm,dLL rows]=some (dB true):=by
 have haw:=aKe
 simp only[dB] at haw
 by_cases aRn:12<qV o.cl
 ·have hh:=aKA o (by unfold MX;omega) aRn
  simp only[aG,Oc.cells,List.map_cons,List.map_nil,dB,dI] at hh
  refine bF Tryz.func6 rfl (by kernel_rfl) rfl rfl ?_
  refine fN (j7 @aD @aL @dLL.eq_1 @aM @hh @haw @iW) ?_
  show a7 _ _ _ _ _
  exact ⟨.inr rfl,_,_,rfl,rfl⟩
 obtain ⟨bh,hh⟩:=aKj o (by unfold MX;omega)
 have aMV:=gB
 unfold Oc.sz at aMV
 have k2:=lI o.cl
 simp only[aG,Oc.cells,List.map_cons,List.map_nil,dB,dI] at hh
 cases bh with
 | true=>
  refine bF Tryz.func6 rfl (by kernel_rfl) rfl rfl ?_
  refine fN (j7 @aD @aL @dLL.eq_1 @aM @hh @haw @iW) ?_
  show a7 _ _ _ _ _
  exact ⟨.inr rfl,_,_,rfl,rfl⟩
 | false=>
 by_cases c1:40<rows.length
 ·have c1':=eq_true (show (40:Int)<rows.length by omega)
  refine bF Tryz.func6 rfl (by kernel_rfl) rfl rfl ?_
  refine fN (j8 @aD @aL @dLL.eq_1 @aM @hh @haw @iW @c1') ?_
  show a7 _ _ _ _ _
  exact ⟨.inr rfl,_,_,rfl,rfl⟩
 have c1':=eq_false (show ¬ (40:Int)<rows.length by omega)
 have bad:∀ e:Int,e≠0→d7 Tryz.prog Ob.cfg 13 [aG o.cells,dS nm]=some (.tuple [.con (.pointer none),dI e])→d7 Tryz.prog Ob.cfg 18 [aG o.cells,dS nm]=some (.tuple [.con (.pointer none),dI e])→d7 Tryz.prog Ob.cfg 6 [aG o.cells,dS nm,dLL rows]=some (dB true):=by
  intro e he hb kL
  have he':=eq_false he
  simp only[aG,Oc.cells,List.map_cons,List.map_nil,dS,dI] at hb kL
  refine bF Tryz.func6 rfl (by kernel_rfl) rfl rfl ?_
  refine fN (uN @aD @aL @aB @dLL.eq_1 @aM @hh @haw @iW @c1' @hb @kL @aS @aV @he') ?_
  apply WP.gen3
  intro nC c2 wl1 eS aNo
  have wP:wl1=[]:=aNo
  subst wP
  clear eS aNo
  apply WP.loop' (I:=fun D s=>∃ (j c':Nat) (bD:Hp),j+D=rows.length∧
   s=⟨[(2,dLL rows),(7,.con (.pointer none)),(9,.con (.pointer none)),(11,dI j)],bD,1,c',0,[]⟩) (d:=rows.length)
  ·exact ⟨0,_,_,by simp,bK (by simp[dI,dL,dLL,nP]) rfl⟩
  rintro D _ ⟨j,c',bD,hj,rfl⟩
  refine aJx (j4 @aB @dLL.eq_1 @aA @iW) ?_
  show WP _ _ _ _ _ _
  refine WP.cond _ rfl (fun hb=>?_) (fun hb=>?_)
  ·simp at hb
   have bR:j<rows.length:=by omega
   have dH:=bG bR (by omega)
   have bS:=m6 bR
   have dC:=aGT bR
   obtain ⟨row,aJU⟩:∃ r,r=rows.getD j []:=⟨_,rfl⟩
   rw[←aJU] at dC
   have h14:=aOM (dL (bX row))
   have h21:=aOP
   have h22:=aUh
   have h20:=aHT [] [] (by simp) (by simp)
   rw[decide_eq_true rfl] at h20
   have aVM:=aJk
   have h19:=aTq (dL (bX row))
   have e0:bX []=[]:=rfl
   simp only[nP,dL,dI,dB,e0] at h14 h19 h21 h22 h20 aVM
   refine fN (uN @aB @aA @dLL.eq_1 @iW @bS @dC @aS @aV @h14 @h19 @h21 @h22 @h20 @aVM) ?_
   refine aY (by simp[dH];exact Is.rfl) ?_
   exact ⟨D - 1,by omega,j+1,_,_,by omega,bK (by simp[dI,dL,dLL,dH]) rfl⟩
  simp at hb
  have h14:=aOM (.full [])
  have h21:=aOP
  have h23:=aSB
  have h24:=aSh (.full [])
  have e0:bX []=[]:=rfl
  simp only[nP,dL,dI,dB,e0] at h14 h21 h23 h24
  refine fN (nW @aB @aA @dLL.eq_1 @aS @aV @h14 @h21 @h23 @h24 @haw) ?_
  show a7 _ _ _ _ _
  exact ⟨.inr rfl,_,_,rfl,rfl⟩
 by_cases uS:dE o=0
 case neg=>exact bad _ uS (aKh o nm gB cE uS) (aHJ o nm gB cE uS)
 cases hfn:(cX o.cl nm).2 with
 | false=>exact bad 6 (by omega) (aHU o nm gB cE uS hfn) (aGB o nm gB cE uS hfn)
 | true=>
 have hO:=aVa gB cE uS
 obtain ⟨i,_,hia,_⟩:=aAb hfn
 have aDO:=(List.getElem?_eq_some_iff.1 hia).1
 obtain ⟨q,p0,hI1,hqv,tR⟩:=aLu o nm gB cE uS hfn
 obtain ⟨rq,r0,hJ1,hrv,hLr⟩:=aKw o nm gB cE uS hfn
 have hto:=aFq uS o.cl.length i _ hia aDO
 have hml:∀ c,c∈o.cl→c.mems.length≤2097152:=fun c hc=>by
  have h1:=pS hc
  unfold Cl.sz at h1
  have h2:=uE c.mems
  omega
 have oE:=aEc uS hml o.cl.length i _ hia aDO
 have aZd:2097152*2 ^ qV (o.cl.take (i+1))≤2097152*2 ^ 12:=Nat.mul_le_mul_left _ (Nat.pow_le_pow_right (by omega) (by have:=xA o.cl o.cl.length (i+1) (by omega);rw[List.take_length] at this;omega))
 generalize iO o o.cl.length (cX o.cl nm).1=t0 at tR hLr hto oE
 have hM0:(n9 t0).length≤17592186044416:=by omega
 clear oE aZd hml
 have eY:∀ t:Trn,t.ok o→t.bare=t0.bare→(n9 t).length≤17592186044416:=fun t ht hb=>by
  have h1:=aFz hO.wf t ht
  have h2:=aFz hO.wf t0 hto
  rw[aGt hO.wf t t0 hb] at h1
  omega
 have hI2:dZ eW q.v=none:=by rw[hqv];rfl
 have hJ2:dZ eW rq.v=none:=by rw[hrv];rfl
 obtain ⟨p,hp⟩:∃ p,p=p0.sh 1 1:=⟨_,rfl⟩
 have hI3:cS 1 1 q.v= .tuple [.ptr p.a.x p.a.gx 0,dI 0]:=by rw[hqv,hp,Pt.sh_a];simp[cS,dO,Pb.sh,dI]
 obtain ⟨W1,xK⟩:∃ W,hZ 1 1 (jZ q.hp.get (List.range q.n))=W:=⟨_,rfl⟩
 simp only[aG,Oc.cells,List.map_cons,List.map_nil,dS] at hI1 hJ1
 refine bF Tryz.func6 rfl (by kernel_rfl) rfl rfl ?_
 refine fN (j9 @aD @aL @aB @dLL.eq_1 @aM @hh @haw @iW @c1') ?_
 apply WP.gen
 intro nC wl1 eS aNo
 have wP:wl1=[]:=aNo
 subst wP
 have h0:nC.get 0=some ⟨0,false,[V.d (.slice (fW o.en)),V.d (.slice (gA o.cl))]⟩:=by rw[eS,←xK,nV (by omega)];rfl
 have hL1:Lies o.en t0 p nC (1+q.n):=by rw[eS,←xK,hp,Nat.add_comm];exact tR.import
 clear eS aNo hI3 xK hI1 hI2
 obtain ⟨n1,hn1⟩:∃ n1,n1=1+q.n:=⟨_,rfl⟩
 obtain ⟨cc1,aZe⟩:∃ n1,n1=1+q.c:=⟨_,rfl⟩
 rw[←hn1] at hL1
 rw[←hn1,←aZe]
 obtain ⟨r,hr⟩:∃ r,r=r0.sh n1 cc1:=⟨_,rfl⟩
 have hI1:=hJ1
 have hI2:=hJ2
 have hI3:cS n1 cc1 rq.v= .tuple [.ptr r.a.x r.a.gx 0,dI 0]:=by rw[hrv,hr,Pt.sh_a];simp[cS,dO,Pb.sh,dI]
 obtain ⟨W2,xK⟩:∃ W,hZ n1 cc1 (jZ rq.hp.get (List.range rq.n))=W:=⟨_,rfl⟩
 refine fN (j6 @aD @aL @aB @dLL.eq_1 @aM @h0) ?_
 apply WP.gen
 intro fP wl2 eS aNe
 have wP:wl2=[]:=aNe
 subst wP
 have hT:Both o t0 p t0 r fP (n1+rq.n):=by
  refine ⟨?_,?_,fun k hk xJ=>?_⟩
  ·rw[eS];exact hL1.mono (fun k hk=>by rw[←xK,nV hk]) (by omega)
  ·rw[eS,←xK,hr,Nat.add_comm];exact hLr.import
  ·have h2:n1≤k:=by rw[hr] at hk;exact aFI _ _ _ k hk
   rcases List.mem_append.1 xJ with xJ|xJ
   ·have:=hL1.sids_lt k xJ;omega
   ·have:=hL1.mids_lt k xJ;omega
 have hN0:0<n1+rq.n:=by omega
 clear eS aNe hI3 xK hI1 hI2 hJ1 hJ2 hL1 h0 hqv tR hrv hLr
 generalize n1+rq.n=N at hT hN0 ⊢
 generalize cc1+rq.c=C at ⊢
 obtain ⟨lp,hop⟩:=hT.a.ob
 obtain ⟨lr,hor⟩:=hT.b.ob
 simp only[oO] at hop
 simp only[rO] at hor
 have np:=nf lp
 have nr:=nf lr
 refine fN (nW @aB @aA @dLL.eq_1 @aV @aS @hop @hor @np @nr @iW) ?_
 apply WP.loop' (I:=fun D s=>∃ (j c' N:Nat) (bD:Hp) (t:Trn) (r':Pt),j+D=rows.length∧t.ok o∧t.bare=t0.bare∧Both o t p t r' bD N∧r'.a.x=r.a.x∧r'.a.gx=r.a.gx∧
  s=⟨[(2,dLL rows),(7,.ptr p.a.x p.a.gx 0),(9,.ptr r.a.x r.a.gx 0),(11,dI j)],bD,N,c',0,[]⟩) (d:=rows.length)
 ·exact ⟨0,_,_,_,t0,r,by simp,hto,rfl,hT,rfl,rfl,bK (by simp[dI,dL,dLL]) rfl⟩
 clear hT hop hor lp lr np nr hN0
 clear N
 rintro D _ ⟨j,c',N,bD,t,r',hj,aOG,htb,hT,hrx,hrg,rfl⟩
 rw[←hrx,←hrg]
 refine aJx (j4 @aB @dLL.eq_1 @aA @iW) ?_
 show WP _ _ _ _ _ _
 refine WP.cond _ rfl (fun hb=>?_) (fun hb=>?_)
 ·simp at hb
  have bR:j<rows.length:=by omega
  have dH:=bG bR (by omega)
  have bS:=m6 bR
  have dC:=aGT bR
  obtain ⟨row,aJU⟩:∃ r,r=rows.getD j []:=⟨_,rfl⟩
  have hrl:row.length≤1048576:=by rw[aJU];exact hr2 _ (by rw[List.getD_eq_getElem?_getD,List.getElem?_eq_getElem bR];exact List.getElem_mem bR)
  rw[←aJU] at dC
  refine fN (j3 @aB @dLL.eq_1 @iW) ?_
  obtain ⟨r0,oZ,hv,hn,tW,nJ,mH,hpz,pW,dU⟩:=(aQr hO t p row aOG (by omega) bD N c' hT.a).caller (fun k h=>hT.a.mids_lt k h)
  obtain ⟨g1,g2,g3,g4,g5⟩:=aLd hO aOG row
  have hT4:=hT.stepa (hT.a.step (n:=N) g3 (fun k hk h=>mH k hk h) pW dU) (fun k hk h=>mH k hk h)
  simp only[dL,dI] at oZ hv
  refine fN (nW @aB @aA @dLL.eq_1 @iW @bS @dC @aS @aV @hv @hn) ?_
  apply WP.gen3
  intro hp4 c4 wl4 eS aVN
  have wP:wl4=[]:=aVN
  subst wP
  rw[←eS] at hT4
  clear oZ tW hv hn nJ mH pW dU eS aVN hT
  obtain ⟨vb,aAn⟩:=aNH uS gB hO t r' row aOG (by omega) hp4 N c4 hT4.b
  obtain ⟨q,oZ,hv,hn,tW,nJ,mH,aZv,⟨⟨r2,hmv,pW⟩,aNf⟩,dU⟩:=aAn.caller (fun k h=>hT4.b.lt k h)
  have hT5:=hT4.stepb (pW.after dU) hmv hn (fun k hk h=>mH k hk h)
  have aNp:aOj (hp4.sets (sL q N)) N q.n vb (jU o.en t row).2.1:=by
   rcases aNf with ho|⟨id,g,o1,o2,o3,o4⟩
   ·exact .inl ho
   ·exact .inr ⟨id,g,o1,(dU id o4 (by rw[o2];rfl)).trans o2,o3,o4⟩
  have hN:N+(q.n - N)=q.n:=by omega
  generalize jU o.en t row=R at g1 g2 g3 g4 g5 hT5 hv aNp ⊢
  obtain ⟨u,outs,e⟩:=R
  simp only at g1 g2 g3 g4 g5 hT5 hv aNp ⊢
  simp only[dL,dI] at oZ hv
  have hol:outs.length≤17592186044416:=by
   by_cases he:e=0
   ·have h1:=(g4 he).1
    have h2:=(hO.len t.c ((Trn.ok_eq o t).1 aOG).1).sum
    omega
   ·rw[g5 he];simp
  have hub:=g3.trans htb
  have hi1:=aHT outs outs hol hol
  have sX:=aHT (n9 u) (n9 u) (eY u g1 hub) (eY u g1 hub)
  rw[decide_eq_true rfl] at hi1 sX
  have hi3:=aJk
  obtain ⟨F,G,hF⟩:=gU (C:=fun bD n'=>Lies o.en u p bD n') (P:=Tryz.prog) (cfg:=Ob.cfg) (f:=21) (vs:=[.ptr p.a.x p.a.gx 0]) (v:=dL (bX (n9 u))) (fun bD n' c' hC=>aLr hO (u.ht+1) u p (Nat.lt_succ_self _) g1 (eY u g1 hub) bD n' c' hC)
  obtain ⟨F2,G2,hF2⟩:=gU (C:=fun bD n'=>RLies o u r2 bD n') (P:=Tryz.prog) (cfg:=Ob.cfg) (f:=22) (vs:=[.ptr r2.a.x r2.a.gx 0]) (v:=dL (bX (n9 u))) (fun bD n' c' hC=>aKp hO (u.ht+1) u r2 (Nat.lt_succ_self _) g1 (eY u g1 hub) bD n' c' hC)
  simp only[dL,dB] at hi1 sX hi3 hF hF2
  rcases aNp with ⟨hv1,hv2⟩|⟨id,g,o1,o2,o3,o4⟩
  ·subst hv1
   refine fN (nW @aB @aA @dLL.eq_1 @iW @bS @dC @aS @aV @hv @hN) ?_
   rw[←hmv.x,←hmv.g]
   apply WP.gen3
   intro hp6 c6 wl6 eS aNq
   have wP:wl6=[]:=aNq
   subst wP
   rw[←eS] at hT5
   have e0:bX []=[]:=rfl
   rw[hv2,e0]
   clear oZ tW hv hn nJ mH pW dU eS aNq
   have hLa:=eq_true hT5.a
   have hLb:=eq_true hT5.b
   refine fN (uQ @aB @aA @dLL.eq_1 @aS @aV @hi3 @sX @hF @hF2 @hLa @hLb) ?_
   refine aY (by simp[dH];exact Is.rfl) ?_
   exact ⟨D - 1,by omega,j+1,_,_,_,u,r2,by omega,g1,hub,hT5.mono (by simp[cR,cK]),rfl,rfl,bK (by simp[dI,dL,dLL,dH]) rfl⟩
  ·subst o1
   refine fN (nW @aB @aA @dLL.eq_1 @iW @bS @dC @aS @aV @hv @hN) ?_
   rw[←hmv.x,←hmv.g]
   apply WP.gen3
   intro hp6 c6 wl6 eS aNq
   have wP:wl6=[]:=aNq
   subst wP
   rw[←eS] at hT5 o2
   clear oZ tW hv hn nJ mH pW dU eS aNq
   have hLa:=eq_true hT5.a
   have hLb:=eq_true hT5.b
   have gM:=aQF (look:=hp6.get) (id:=id) (g:=g) (ro:=false) (cap:=none) (cI outs) o2
   rw[aZ] at gM
   refine fN (tS @aB @aA @dLL.eq_1 @aS @aV @gM @hi1 @sX @hF @hF2 @hLa @hLb) ?_
   refine aY (by simp[dH];exact Is.rfl) ?_
   exact ⟨D - 1,by omega,j+1,_,_,_,u,r2,by omega,g1,hub,hT5.mono (by simp[cR,cK]),rfl,rfl,bK (by simp[dI,dL,dLL,dH]) rfl⟩
 simp at hb
 obtain ⟨lp,hop⟩:=hT.a.ob
 simp only[oO] at hop
 have np:=nf lp
 refine fN (j8 @aB @dLL.eq_1 @aA @aS @aV @haw @hop @np) ?_
 show a7 _ _ _ _ _
 exact ⟨.inr rfl,_,_,rfl,rfl⟩
end Go.Ac
