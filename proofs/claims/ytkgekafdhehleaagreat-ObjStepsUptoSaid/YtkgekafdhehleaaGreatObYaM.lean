/- The types of the memories (the program's). -/
import Derived.Test.YtkgekafdhehleaaGreatObXvM
set_option linter.unusedVariables false
set_option linter.unusedSimpArgs false
section
set_option maxRecDepth 4000
namespace Go.Ac
open Go.Proofs
attribute [local simp] Hp.get_set dA cK cR bW
theorem aAg:∀ (is:List Ii) (ps:List Pt) (nm:Tx) (q:Pt),is.findIdx (fun d=>decide (d.nm=nm))<is.length→ps[is.findIdx fun d=>decide (d.nm=nm)]?=some q→eO ((is.map Ii.nm).zip (ps.map fun p=>(p.a.x,p.a.gx))) nm=some (q.a.x,q.a.gx)
 | [],ps,nm,q,h,_=>by simp at h
 | d::r,[],nm,q,h,hq=>by simp at hq
 | d::r,p::ps,nm,q,h,hq=>by
  rw[List.findIdx_cons] at h hq
  unfold eO
  rw[List.map_cons,List.map_cons,List.zip_cons_cons,List.find?_cons]
  by_cases hd:d.nm=nm
  ·simp[hd] at hq ⊢
   rw[hq];exact ⟨rfl,rfl⟩
  ·rw[decide_eq_false hd] at h hq ⊢
   simp only[cond_false,List.length_cons] at h hq
   have:=aAg r ps nm q (by omega) (by simpa using hq)
   unfold eO at this
   exact this
theorem aDR {w:Pl}:∀ (l:List X) (ds:List Dc),lW w l ds=0→l.length=ds.length→l.all bQ=true
 | [],_,_,_=>rfl
 | x::r,[],_,h=>by simp at h
 | x::r,d::ds,h,hl=>by
  rw[lW] at h
  split at h
  ·rename_i hn;exact absurd h hn
  rename_i hn
  have ha:sZ w x d=0:=Decidable.not_not.1 hn
  unfold sZ at ha
  split at ha
  ·rename_i h1;exact absurd ha h1
  rename_i h1
  have h1:=Decidable.not_not.1 h1
  rw[List.all_cons,aDR r ds h (by simpa using hl),Bool.and_true]
  unfold eB at h1
  split at h1
  ·assumption
  ·simp at h1
theorem aQj:∃ z,xS Tryz.prog 37=some z:=Option.isSome_iff_exists.1 (by kernel_rfl)
def aLl (o:Oc) (N:Nat):Prop:=∀ (t:Trn) (p:Pt) (ins:List Int),t.ht≤N→t.ok o→y9 o.en t.c.inn ins→∀ hp n cc,Lies o.en t p hp n→
 aDG Tryz.prog Ob.cfg 37 [.ptr p.a.x p.a.gx 0,dL (bX ins)] hp n cc (dL (bX (eZ N t ins).2)) (dM p) (fun bD=>∀ e,e∈qD (eZ N t ins).1 p→bD.get e.1=some e.2)
theorem aVY (r:Nat):Ob.keep 85 r=Ob.k85 r:=by kernel_rfl
attribute [local simp] aVY Ob.k85
section
variable {o:Oc} {c:Cl} {pb:Pb} {ps:List Pt} {v gv:Nat} {N h0:Nat}
theorem aGq (F:Trn→List Int→Trn×List Int) {l:List Y} {j:Nat} {y:Y} (h:l[j]?=some y) (s:Es):uW c F (l.take (j+1)) s=exY c F y (uW c F (l.take j) s):=by
 rw[bM h,aJr,uW,uW]
set_option maxHeartbeats 8000000 in
theorem aQB (hw:∀ c,c∈o.cl→CWf o c) (hL:∀ c,c∈o.cl→CLen c) (hc:c∈o.cl) (hS:aLl o N) (hh:h0≤N):∀ M,M≤8388609→∀ l:List Y,hH l<M→wtL o c l→okY l→∀ s:Es,s.ok o c h0→∀ hp n cc,EA o.en c pb ps v gv s hp n→
  aDG Tryz.prog Ob.cfg 85 [.agg [.ptr pb.x pb.gx 0,.mp v gv],dL (dJ l)] hp n cc (.tuple []) (v::dM (.mk pb ps)) (fun bD=>bD.get v=some ⟨gv,false,[gF eI (uW c (eZ N) l s).vs]⟩∧∀ e,e∈qD (.mk c (uW c (eZ N) l s).ms (uW c (eZ N) l s).sb) (.mk pb ps)→bD.get e.1=some e.2):=by
 intro M
 induction M with
 | zero=>intro _ l h;omega
 | succ M ih=>
 intro hM l hl hwt cE s hs hp n cc hE
 have eY:=lJ l
 have hcw:=hw c hc
 have aOC:Fok o N (eZ N):=s7 hw N
 have hF0:Fok o h0 (eZ N):=fun t ins h1=>aOC t ins (by omega)
 refine wW Tryz.func85 rfl (by kernel_rfl) rfl ?_
 refine bY (j7 @aN @aO @aB @aA @aH @aI @cQ) ?_
 apply WP.loop' (I:=fun D st=>∃ (j c':Nat) (wl:List Nat) (bD:Hp) (sj:Es),j+D=l.length∧sj=uW c (eZ N) (l.take j) s∧sj.ok o c h0∧EA o.en c pb ps v gv sj bD n∧WI (v::dM (.mk pb ps)) n hp wl bD∧bD.get n=some ⟨cc,false,[.ptr pb.x pb.gx 0,.mp v gv]⟩∧
  st=⟨[(2,.ptr n cc 0),(9,dL (dJ l)),(10,dI l.length),(11,dI j)],bD,n+1,c',n,wl⟩) (d:=l.length)
 ·exact ⟨0,_,_,_,s,by simp,by simp[uW],hs,hE.mono (by simp[dA,cK]) (Nat.le_refl n),WI.refl.set (.inr (Nat.le_refl n)),by simp,bK (by simp[dI,dL]) rfl⟩
 rintro D _ ⟨j,c',wl,bD,sj,hj,hsj,rK,pF,eR,kY,rfl⟩
 refine lM (j3 @aB @aA @cQ) ?_
 show WP _ _ _ _ _ _
 refine WP.cond _ rfl (fun hb=>?_) (fun hb=>?_)
 ·simp at hb
  have bR:j<l.length:=by omega
  obtain ⟨y,hy,vF,bS⟩:=bL bR
  have pD:=oA hy
  have dH:=bG bR (by omega)
  have rQ:=aGq (c:=c) (eZ N) hy s
  rw[←hsj,aDo] at rQ
  have hyt:=hwt y vF
  have aYG:=mM vF
  have m8:=Y.sz_eq y
  obtain ⟨ok1,ok2,ok3,ok4⟩:=Y.ok_eq ((uP _).1 cE y vF)
  have hvn:=eq_false (show ¬ n=v by have:=pF.lv;omega)
  have aVD:=eq_false (show ¬ n+1=v by have:=pF.lv;omega)
  have lv1:(v<n+1)=True:=eq_true (by have:=pF.lv;omega)
  have lv2:(v<n+2)=True:=eq_true (by have:=pF.lv;omega)
  have hs2:=aMf hw hcw hF0 _ (l.take (j+1)) (Nat.lt_succ_self _) (fun z hz=>hwt z (List.mem_of_mem_take hz)) s hs
  have hva:=pF.va
  have pB:=pF.ob.2
  simp only[oO] at pB
  have hmo:=pF.mo.2
  have hio:=pF.io.2
  have nx:=nf pF.ob.1
  have nm:=nf pF.mo.1
  have ni:=nf pF.io.1
  have nv:=nf pF.lv
  have hnv:=eq_false (show ¬ v=n by have:=pF.lv;omega)
  have hni:=eq_false (show ¬ pb.im=n by have:=pF.mo.1;omega)
  have aZl:=pF.lv
  have aYH:=eq_false (show ¬ v=n+1 by have:=pF.lv;omega)
  have lm1:(pb.im<n+1)=True:=eq_true (by have:=pF.mo.1;omega)
  have lm2:(pb.im<n+2)=True:=eq_true (by have:=pF.mo.1;omega)
  rcases hyt.cases hw hcw with ⟨k,t,h1,h2,h3⟩|⟨k,h1,h2⟩|⟨k,h1,h2,h3,h4⟩|⟨k,h1,h2,h3,cx,bf,h4,h5⟩|⟨k,h1⟩
  ·rw[if_pos k] at rQ
   have wM:=aDg (a:=aIm pb v gv) (en:=o.en) (c:=c) (ms:=sj.ms) (vs:=sj.vs) M (by omega) y.r (by omega) h1.1 ok2
   obtain ⟨F,G,hr⟩:=wM.fn pF.ra
   simp only[aG,rV,aIm,aE,List.map_cons,List.map_nil,dI] at hr
   have oX:=fun (look:cA) (sz by_:Nat) (zr:Option (List V)) (h:look v=some ⟨gv,false,[gF eI sj.vs]⟩)=>iS eI sj.vs (uK sj.vs sj.ms y.r) (w:= .d (.int .i64 (uK sj.vs sj.ms y.r))) (sz:=sz) (by_:=by_) (zr:=zr) (x:=y.nm) rfl h
   refine bY (j19 @aB @aA @cQ @bS @pD @aC @aE @aH @aI @k @aS @kY @hr @hvn @aVD @lv1 @lv2 @hva @oX) ?_
   refine aY (by simp[-bA,dH];exact Is.rfl) ?_
   refine ⟨D - 1,by omega,j+1,_,_,_,_,by omega,rfl,hs2,?_,(by repeat' (first|exact eR|(refine WI.trunc ?_ (by omega))|(refine WI.set ?_ (.inr (by omega)))|(refine WI.set ?_ (.inl (by simp[dM]))))),by simp[kY,hnv,hni],bK (by simp[dI,dL,dH]) rfl⟩
   rw[rQ]
   refine pF.setV fun id cY=>?_
   have e1:(n+1=id)=False:=eq_false (by omega)
   have e2:(id<n+1)=True:=eq_true (by omega)
   by_cases hq:v=id
   ·subst hq;simp[e2]
   ·simp[e1,e2,hq,Ne.symm hq]
  ·rw[if_neg (by omega),if_pos k] at rQ
   have wM:=aDg (a:=aIm pb v gv) (en:=o.en) (c:=c) (ms:=sj.ms) (vs:=sj.vs) M (by omega) y.r (by omega) h1.1 ok2
   obtain ⟨F,G,hr⟩:=wM.fn pF.ra
   simp only[aG,rV,aIm,aE,List.map_cons,List.map_nil,dI] at hr
   have oX:=fun (look:cA) (sz by_:Nat) (zr:Option (List V)) (h:look pb.im=some ⟨pb.gm,false,[gF eI sj.ms]⟩)=>iS eI sj.ms (uK sj.vs sj.ms y.r) (w:= .d (.int .i64 (uK sj.vs sj.ms y.r))) (sz:=sz) (by_:=by_) (zr:=zr) (x:=y.nm) rfl h
   refine bY (j20 @aB @aA @cQ @bS @pD @aC @aE @aH @aI @k @aS @kY @hr @pB @nx @nm @lm1 @lm2 @hmo @oX) ?_
   refine aY (by simp[-bA,dH];exact Is.rfl) ?_
   refine ⟨D - 1,by omega,j+1,_,_,_,_,by omega,rfl,hs2,?_,(by repeat' (first|exact eR|(refine WI.trunc ?_ (by omega))|(refine WI.set ?_ (.inr (by omega)))|(refine WI.set ?_ (.inl (by simp[dM]))))),by simp[kY,hnv,hni],bK (by simp[dI,dL,dH]) rfl⟩
   rw[rQ]
   refine pF.setM fun id cY=>?_
   have e1:(n+1=id)=False:=eq_false (by omega)
   have e2:(id<n+1)=True:=eq_true (by omega)
   by_cases hq:pb.im=id
   ·rw[←hq];simp[lm1]
   ·simp[e1,e2,hq,Ne.symm hq]
  ·rw[if_neg (by omega),if_neg (by omega),if_pos k] at rQ
   have hty:=rK.v y.nm h1
   unfold iG at hty
   rw[if_neg h2] at hty
   simp at hty
   generalize hV0:gz sj.vs y.nm=V0 at*
   have fB:V0.toNat<y.brs.length:=by omega
   obtain ⟨b,wL⟩:∃ b,y.brs[V0.toNat]?=some b:=⟨_,List.getElem?_eq_getElem fB⟩
   have yU:=List.mem_of_getElem? wL
   have kL:=lH wL
   rw[aAK c (eZ N) sj y.brs _ b wL] at rQ
   have aYI:(0≤V0)=True:=eq_true hty.1
   have aFQ:(V0<(y.brs.length:Int))=True:=eq_true (by omega)
   have aYJ:jQ V0 y.brs.length=some V0.toNat:=by unfold jQ;rw[if_pos ⟨hty.1,by omega⟩]
   have vB:=fun (look:cA) (sz by_:Nat) (zr:Option (List V)) (h:look v=bD.get v)=>yY sj.vs (sz:=sz) (by_:=by_) (zr:=zr) (x:=y.nm) (h.trans pF.va)
   simp only[hV0] at vB
   refine bY (j20 @aB @aA @cQ @bS @pD @aC @aE @aH @aI @k @aS @kY @hvn @aVD @zt3 @nv @vB @aYI @aFQ @aX) ?_
   apply WP.gen3
   intro gN c3 wl3 eS jF
   have hx3:gN.get n=some ⟨cc,false,[.ptr pb.x pb.gx 0,.mp v gv]⟩:=by rw[eS];simp[kY]
   have hy3:gN.get (n+1)=some ⟨c',false,[V.d (.int .i64 3),V.d (.str y.nm),V.d (.int .i64 y.t),V.d (.int .i64 y.r.k),V.d (.int .i64 y.r.o),V.d (.int .i64 y.r.t),V.d (.int .i64 y.r.v),V.d (.str y.r.nm),V.d (.slice (fY y.r.args)),V.d (.slice (eT y.outs)),V.d (.slice (fY y.args)),V.d (.slice (iA y.brs))]⟩:=by rw[eS];simp
   have wO:Ag n bD gN:=by rw[eS];simp[dA,cK]
   have pX:WI (v::dM (.mk pb ps)) n hp wl3 gN:=by rw[eS,jF];exact (eR.set (.inr (by omega))).set (.inr (by omega))
   have pM:EA o.en c pb ps v gv sj gN (n+2):=pF.mono wO (by omega)
   clear eS jF
   obtain ⟨q,oZ,hv,hn,tW,nJ,mH,hpz,pW,dU⟩:=(ih (by omega) b (by have:=gJ yU;omega) (h4 b yU) ((wQ _).1 ok4 b yU) sj rK gN (n+2) c3 pM).caller (by
    intro k hk
    rcases List.mem_cons.1 hk with rfl|hk
    ·exact pM.lv
    ·exact pM.mlt k hk)
   refine bY (j9 @aB @aA @aX @hx3 @hy3 @aYJ @kL @hv @hn) ?_
   refine aY (by simp[-bA,dH];exact Is.rfl) ?_
   refine ⟨D - 1,by omega,j+1,_,_,_,_,by omega,rfl,hs2,?_,WI.trunc (pX.sets fun p bD=> .inl (nJ p.1 (List.mem_map.2 ⟨p,bD,rfl⟩))) (by omega),?_,bK (by simp[dI,dL,dH]) rfl⟩
   ·rw[rQ]
    refine pF.setA (aCn (lR N) _ b (Nat.lt_succ_self _) sj) (fun id h1 h2 h3=>?_) ?_ fun e he=>?_
    ·rw[Hp.get_trunc _ _ _ (by omega),mH id (by omega) (by simp[h2,h3]),wO id h1]
    ·rw[Hp.get_trunc _ _ _ (by omega),dU v (by omega) (by rw[pW.1];rfl)];exact pW.1
    ·have hfi:fit (.mk c (uW c (eZ N) b sj).ms (uW c (eZ N) b sj).sb) (.mk pb ps):=by rw[←dG,Trn.bare,aCn (lR N) _ b (Nat.lt_succ_self _) sj,←Trn.bare,dG];exact pF.li.fit
     have fB:=pF.mlt e.1 (by rw[←eL _ _ hfi];exact List.mem_map.2 ⟨e,he,rfl⟩)
     have h2:=pW.2 e he
     rw[Hp.get_trunc _ _ _ (by omega),dU _ (by omega) (by rw[h2];rfl)];exact h2
   ·rw[Hp.get_trunc _ _ _ (Nat.lt_succ_self n),mH n (by omega) fun h=>?_]
    ·exact hx3
    ·rcases List.mem_cons.1 h with h|h
     ·omega
     ·exact Nat.lt_irrefl _ (pF.mlt _ h)
  ·rw[if_neg (by omega),if_neg (by omega),if_neg (by omega),if_pos k] at rQ
   obtain ⟨t,ht,hto,htc⟩:=w9 rK.b h1
   simp only[ht] at rQ
   have fB:mE c y.nm<c.ins.length:=by
    have h1:=aCk o _ _ rK.b
    have h2:=(List.getElem?_eq_some_iff.1 ht).1
    omega
   obtain ⟨q,hq,tR⟩:=pF.li.sub (i:=mE c y.nm) (u:=t) ht
   have hq:ps[mE c y.nm]?=some q:=hq
   have wJ:=aAg c.ins ps y.nm q fB hq
   obtain ⟨z,hz⟩:=aQj
   have hlk:∀ (look:cA) (sz by_:Nat) (zr:Option (List V)),look pb.ii=some ⟨pb.gi,false,[gF eP (i4 c ps)]⟩→iH look ⟨.str,sz,by_,zr⟩ (some z) (.mp pb.ii pb.gi) (.d (.str y.nm)) false=some ⟨.ptr q.a.x q.a.gx 0,[],[pb.ii],0,0,false⟩:=by
    intro look sz by_ zr h
    rw[jP eP (i4 c ps) h]
    unfold i4
    rw[wJ];rfl
   have hql:∀ k,k∈dM q→k∈v::dM (.mk pb ps):=fun k hk=>List.mem_cons_of_mem _ (by rw[dM];exact List.mem_cons_of_mem _ (jV ps _ q hq k hk))
   rw[←htc] at h2 h3 h4 h5
   have hi:=aCo hw rK.v rK.m cx bf y.args t.c.inn h4 h2
   have hth:t.ht≤N:=by
    have h1:=pT (List.mem_of_getElem? ht)
    have h2:=rK.h
    omega
   obtain ⟨g1,g2,g3,g4⟩:=aOC t _ hth hto hi
   have aVE:=aJF (a:=aIm pb v gv) (en:=o.en) (c:=c) (ms:=sj.ms) (vs:=sj.vs) (N:=M) (fun x a1 a2 a3=>aDg M (by omega) x a1 a2 a3) y.args (by omega) (aDR y.args t.c.inn h4 h2) ok3 (by omega)
   obtain ⟨F,G,hr⟩:=aVE.fn pF.ra
   simp only[rV,aIm,dL] at hr
   refine bY (tS @aB @aA @cQ @bS @pD @aC @aE @aH @aI @k @aS @kY) ?_
   apply WP.gen3
   intro gN c3 wl3 eS jF
   have hx3:gN.get n=some ⟨cc,false,[.ptr pb.x pb.gx 0,.mp v gv]⟩:=by rw[eS];simp[kY]
   have hy3:gN.get (n+1)=some ⟨c',false,[V.d (.int .i64 4),V.d (.str y.nm),V.d (.int .i64 y.t),V.d (.int .i64 y.r.k),V.d (.int .i64 y.r.o),V.d (.int .i64 y.r.t),V.d (.int .i64 y.r.v),V.d (.str y.r.nm),V.d (.slice (fY y.r.args)),V.d (.slice (eT y.outs)),V.d (.slice (fY y.args)),V.d (.slice (iA y.brs))]⟩:=by rw[eS];simp
   have wO:Ag n bD gN:=by rw[eS];simp[dA,cK]
   have pX:WI (v::dM (.mk pb ps)) n hp wl3 gN:=by rw[eS,jF];exact (eR.set (.inr (by omega))).set (.inr (by omega))
   clear eS jF
   have i5:gN.get pb.x=_:=(wO _ pF.ob.1).trans pB
   have pG:gN.get pb.ii=_:=(wO _ pF.io.1).trans hio
   have aNg:Lies o.en t q gN (n+2):=tR.mono wO (by omega)
   have dR:=eq_true wO
   obtain ⟨q4,oZ,hv,hn,tW,nJ,mH,hpz,pW,dU⟩:=(hS t q _ hth hto hi gN (n+2) (c3+(G gN (n+2) c3 - c3)) aNg).caller (by
    intro k hk
    exact aNg.mids_lt k hk)
   have hub:=lR N t (evL sj.vs sj.ms y.args)
   simp only[dL] at oZ hv
   generalize hST:eZ N t (evL sj.vs sj.ms y.args)=ST at*
   obtain ⟨u,os⟩:=ST
   simp only at hv pW rQ g1 g2 g3 g4 hub
   repeat (first
 | apply WP.seq
 | (apply WP.reg;(case hR=>dsimp only [e8,eA,List.map,gS,gZ];exact iZ);(case hr=>(repeat (first
 | (apply RT.op;simp[-bA,dI,dL,hx3,hy3,i5,pG,hlk,hz,hr,dR,nx,ni,hv,hn,aZ];exact iZ;(try dsimp only [a8]) <;> exact rfl)
 | (apply RT.call;(iterate 2 simp;exact iZ);exact iZ;(iterate 4 simp[-bA,dI,dL,hx3,hy3,i5,pG,hlk,hz,hr,dR,nx,ni,hv,hn,aZ];exact iZ);simp[Is];(try dsimp only [a8]) <;> exact rfl;simp;exact iZ;exact iZ)
 | (apply RT.callV;(iterate 2 simp;exact iZ);exact iZ;(iterate 3 simp[-bA,dI,dL,hx3,hy3,i5,pG,hlk,hz,hr,dR,nx,ni,hv,hn,aZ];exact iZ);(try dsimp only [a8]) <;> exact rfl)
 | (apply RT.callT (hd:=oZ) (hk:=tW);(iterate 2 simp;exact iZ);exact iZ;(iterate 2 simp[-bA,dI,dL,hx3,hy3,i5,pG,hlk,hz,hr,dR,nx,ni,hv,hn,aZ];exact iZ);(try dsimp only [a8]) <;> exact rfl)
 | (apply RT.wr;simp[-bA,dI,dL,hx3,hy3,i5,pG,hlk,hz,hr,dR,nx,ni,hv,hn,aZ];exact iZ;(try dsimp only [a8]) <;> exact rfl;simp[-bA,dI,dL,hx3,hy3,i5,pG,hlk,hz,hr,dR,nx,ni,hv,hn,aZ];exact iZ;(iterate 2 exact iZ);exact iZ)));exact RT.nil);(case hc=>first|(refine c8 [(0,5),(1,5),(2,5),(3,5),(4,5),(0,6),(1,6),(2,6),(3,6),(4,6),(0,8),(1,8),(2,8),(3,8),(4,8),(5,8),(6,8),(7,8),(0,9),(1,9),(2,9),(3,9),(4,9),(5,9),(6,9),(7,9),(8,9),(0,10),(1,10),(2,10),(3,10),(4,10),(5,10),(6,10),(7,10),(8,10),(0,11),(1,11),(2,11),(3,11),(4,11),(5,11),(6,11),(7,11),(0,14),(1,14),(2,14),(3,14),(4,14),(5,14),(6,14),(7,14),(8,14),(9,14),(10,14),(11,14),(12,14),(13,14)] (by kernel_rfl) (by kernel_rfl) rfl ?_;simp[lF,jX,dY,nx,ni];done)|(show _=_;kernel_rfl));(case ht=>simp[-bA,dI,dL,hx3,hy3,i5,pG,hlk,hz,hr,dR,nx,ni,hv,hn,aZ];exact iZ))
 | apply WP.block|apply WP.skip|apply WP.exit|apply WP.ret|refine WP.condT rfl ?_|refine WP.condF rfl ?_)
   have hEs:EA o.en c pb ps v gv { sj with sb:=sj.sb.set (mE c y.nm) u } (gN.sets (sL q4 (n+2))) n:=by
    refine pF.setS ht hq hub (fun id h1 h2=>?_) fun e he=>?_
    ·rw[mH id (by omega) h2,wO id h1]
    ·have h6:=pW e he
     have hfi:fit u q:=by rw[←dG,hub,dG];exact tR.fit
     have fB:=tR.mids_lt e.1 (by rw[←eL _ _ hfi];exact List.mem_map.2 ⟨e,he,rfl⟩)
     rw[dU _ (by omega) (by rw[h6];rfl)];exact h6
   have hol:y.outs.length=os.length:=by rw[h3];exact g4.1.symm
   have hqn:n∉dM q∧n+1∉dM q:=⟨fun h=>by have:=tR.mids_lt _ h;omega,fun h=>by have:=tR.mids_lt _ h;omega⟩
   have hou:y.outs.length≤8388608:=by have:=oB y.outs;omega
   apply WP.loop' (I:=fun D2 st=>∃ (i c5:Nat) (wl5:List Nat) (lG:Hp),i+D2=os.length∧EA o.en c pb ps v gv { sj with vs:=puts sj.vs ((y.outs.zip os).take i),sb:=sj.sb.set (mE c y.nm) u } lG n∧WI (v::dM (.mk pb ps)) n hp wl5 lG∧
    lG.get n=some ⟨cc,false,[.ptr pb.x pb.gx 0,.mp v gv]⟩∧lG.get (n+1)=some ⟨c',false,[V.d (.int .i64 4),V.d (.str y.nm),V.d (.int .i64 y.t),V.d (.int .i64 y.r.k),V.d (.int .i64 y.r.o),V.d (.int .i64 y.r.t),V.d (.int .i64 y.r.v),V.d (.str y.r.nm),V.d (.slice (fY y.r.args)),V.d (.slice (eT y.outs)),V.d (.slice (fY y.args)),V.d (.slice (iA y.brs))]⟩∧st=⟨[(2,.ptr n cc 0),(5,.ptr (n+1) c' 0),(9,dL (dJ l)),(10,dI l.length),(11,dI j),(77,dL (bX os)),(78,dI os.length),(79,dI i)],lG,n+2,c5,n,wl5⟩) (d:=os.length)
   ·exact ⟨0,_,_,_,by simp,by simpa [puts] using hEs,pX.sets fun p bD=> .inl (hql _ (nJ p.1 (List.mem_map.2 ⟨p,bD,rfl⟩))),by rw[mH n (by omega) hqn.1];exact hx3,by rw[mH (n+1) (by omega) hqn.2];exact hy3,bK (by simp[dI,dL]) rfl⟩
   rintro D2 _ ⟨i,c5,wl5,lG,hi5,hE5,aBW,mB,hy5,rfl⟩
   refine lM (j3 @aB @aA @aZ) ?_
   show WP _ _ _ _ _ _
   refine WP.cond _ rfl (fun hb=>?_) (fun hb=>?_)
   ·simp at hb
    have hb5:i<os.length:=by omega
    obtain ⟨d5,hd5,aZm,aDN⟩:=bL hb5
    have aYK:=c9 hd5
    obtain ⟨e5,he5,aZn,aYL⟩:=bL (show i<y.outs.length by omega)
    have aYM:=sJ he5
    have aVF:=bG hb5 (by omega)
    have aVG:=hE5.va
    have hzs:(y.outs.zip os).take (i+1)=(y.outs.zip os).take i++[(e5,d5)]:=bM (by rw[List.getElem?_zip_eq_some];exact ⟨he5,hd5⟩)
    simp only at aVG
    have oX:=fun (look:cA) (sz by_:Nat) (zr:Option (List V)) (h:look v=some ⟨gv,false,[gF eI (puts sj.vs ((y.outs.zip os).take i))]⟩)=>iS eI (puts sj.vs ((y.outs.zip os).take i)) d5 (w:= .d (.int .i64 d5)) (sz:=sz) (by_:=by_) (zr:=zr) (x:=e5) rfl h
    refine bY (uN @aB @aA @aZ @aW @mB @hy5 @aDN @aYK @aYL @aYM @aVG @lv1 @lv2 @oX) ?_
    refine aY (by simp[-bA,aVF];exact Is.rfl) ?_
    have eR:=aBW
    refine ⟨D2 - 1,by omega,i+1,_,_,_,by omega,?_,(by repeat' (first|exact eR|(refine WI.trunc ?_ (by omega))|(refine WI.set ?_ (.inr (by omega)))|(refine WI.set ?_ (.inl (by simp[dM]))))),by simp[mB,hnv],by simp[hy5,aYH],bK (by simp[dI,dL,aVF]) rfl⟩
    rw[hzs,gE]
    refine hE5.setV fun id cY=>?_
    have e2:(id<n+2)=True:=eq_true (by omega)
    by_cases hq:v=id
    ·subst hq;simp[e2,lv2]
    ·simp[e2,hq,Ne.symm hq]
   simp at hb
   have aZo:i=os.length:=by omega
   have hzt:(y.outs.zip os).take i=y.outs.zip os:=List.take_of_length_le (by simp;omega)
   rw[hzt] at hE5
   refine bY (jn @aB @aA) ?_
   refine aY (by simp[-bA,dH];exact Is.rfl) ?_
   have eR:=aBW
   refine ⟨D - 1,by omega,j+1,_,_,_,_,by omega,rfl,hs2,?_,(by repeat' (first|exact eR|(refine WI.trunc ?_ (by omega))|(refine WI.set ?_ (.inr (by omega)))|(refine WI.set ?_ (.inl (by simp[dM]))))),by simp[mB],bK (by simp[dI,dL,dH]) rfl⟩
   rw[rQ]
   exact hE5.mono (by simp[cR,cK]) (Nat.le_refl n)
  ·rw[if_neg (by omega),if_neg (by omega),if_neg (by omega),if_neg (by omega)] at rQ
   obtain ⟨t,ht,hto,htc⟩:=w9 rK.b h1
   simp only[ht] at rQ
   have fB:mE c y.nm<c.ins.length:=by
    have h1:=aCk o _ _ rK.b
    have h2:=(List.getElem?_eq_some_iff.1 ht).1
    omega
   obtain ⟨q,hq,tR⟩:=pF.li.sub (i:=mE c y.nm) (u:=t) ht
   have hq:ps[mE c y.nm]?=some q:=hq
   have wJ:=aAg c.ins ps y.nm q fB hq
   obtain ⟨z,hz⟩:=aQj
   have hlk:∀ (look:cA) (sz by_:Nat) (zr:Option (List V)),look pb.ii=some ⟨pb.gi,false,[gF eP (i4 c ps)]⟩→iH look ⟨.str,sz,by_,zr⟩ (some z) (.mp pb.ii pb.gi) (.d (.str y.nm)) false=some ⟨.ptr q.a.x q.a.gx 0,[],[pb.ii],0,0,false⟩:=by
    intro look sz by_ zr h
    rw[jP eP (i4 c ps) h]
    unfold i4
    rw[wJ];rfl
   have hql:∀ k,k∈dM q→k∈v::dM (.mk pb ps):=fun k hk=>List.mem_cons_of_mem _ (by rw[dM];exact List.mem_cons_of_mem _ (jV ps _ q hq k hk))
   refine bY (tS @aB @aA @cQ @bS @pD @aC @aE @aH @aI @k @aS @kY) ?_
   apply WP.gen3
   intro gN c3 wl3 eS jF
   have hx3:gN.get n=some ⟨cc,false,[.ptr pb.x pb.gx 0,.mp v gv]⟩:=by rw[eS];simp[kY]
   have hy3:gN.get (n+1)=some ⟨c',false,[V.d (.int .i64 5),V.d (.str y.nm),V.d (.int .i64 y.t),V.d (.int .i64 y.r.k),V.d (.int .i64 y.r.o),V.d (.int .i64 y.r.t),V.d (.int .i64 y.r.v),V.d (.str y.r.nm),V.d (.slice (fY y.r.args)),V.d (.slice (eT y.outs)),V.d (.slice (fY y.args)),V.d (.slice (iA y.brs))]⟩:=by rw[eS];simp
   have wO:Ag n bD gN:=by rw[eS];simp[dA,cK]
   have pX:WI (v::dM (.mk pb ps)) n hp wl3 gN:=by rw[eS,jF];exact (eR.set (.inr (by omega))).set (.inr (by omega))
   clear eS jF
   have i5:gN.get pb.x=_:=(wO _ pF.ob.1).trans pB
   have pG:gN.get pb.ii=_:=(wO _ pF.io.1).trans hio
   have aNg:Lies o.en t q gN (n+2):=tR.mono wO (by omega)
   obtain ⟨r,oZ,hrv,hrn,hrw,hrf,hrm⟩:=aJX hL o.en _ t q (Nat.lt_succ_self _) hto gN (n+2) c3 aNg
   have tW:∀ k,k∈(sL r (n+2)).map (·.1)→k<n+2+(r.n - (n+2)):=by
    intro k hk
    obtain ⟨h1,h2⟩:=(aCi hrn).1 hk
    have:=aNg.mids_lt k (iU t q k ((hrw k).1 h1))
    omega
   refine bY (uQ @aB @aA @hx3 @hy3 @i5 @pG @hlk @hz @hrn @nx @ni) ?_
   refine aY (by simp[-bA,dH];exact Is.rfl) ?_
   refine ⟨D - 1,by omega,j+1,_,_,_,_,by omega,rfl,hs2,?_,WI.trunc (pX.sets fun p bD=> .inl (hql _ (iU t q _ ((hrw _).1 ((aCi hrn).1 (List.mem_map.2 ⟨p,bD,rfl⟩)).1)))) (by omega),?_,bK (by simp[dI,dL,dH]) rfl⟩
   ·rw[rQ]
    refine pF.setS ht hq (kQ t) (fun id h1 h2=>?_) fun e he=>?_
    ·rw[Hp.get_trunc _ _ _ (by omega),aCj hrn,if_neg fun h=>h2 (iU t q _ ((hrw _).1 h.1)),wO id h1]
    ·have hfi:fit t.init q:=by rw[←dG,kQ,dG];exact tR.fit
     have fB:=tR.mids_lt e.1 (by rw[←eL _ _ hfi];exact List.mem_map.2 ⟨e,he,rfl⟩)
     have h2:=hrm e he
     rw[Hp.get_trunc _ _ _ (by omega),aCj hrn]
     split
     ·exact h2
     ·rename_i hw3
      rw[←hrf _ (by omega) fun hw4=>hw3 ⟨(hrw _).2 hw4,by rw[h2];rfl⟩];exact h2
   ·rw[Hp.get_trunc _ _ _ (Nat.lt_succ_self n),aCj hrn,if_neg fun h=>?_]
    ·exact hx3
    ·exact Nat.lt_irrefl _ (tR.mids_lt _ (iU t q _ ((hrw _).1 h.1)))
 ·simp at hb
  have eM:j=l.length:=by omega
  rw[eM,List.take_length] at hsj
  refine bY (jn @aB @aA) ?_
  refine ⟨.inl rfl,[],[],rfl,rfl,rfl,eR,?_,fun e he=>?_⟩
  ·rw[Hp.get_trunc _ _ _ pF.lv,←hsj];exact pF.va
  ·rw[←hsj] at he
   obtain ⟨h1,h2⟩:=pF.li.me e he
   rw[Hp.get_trunc _ _ _ h1];exact h2
end
end Go.Ac
end
section
set_option maxRecDepth 4000
namespace Go.Ac
open Go.Proofs
attribute [local simp] Hp.get_set dA cK cR bW
structure OW (o:Oc):Prop where
 wf:∀ c,c∈o.cl→CWf o c
 len:∀ c,c∈o.cl→CLen c
 ok:∀ c,c∈o.cl→c.ok
 sz:∀ c,c∈o.cl→hH c.step≤8388600
theorem Lies.sids_lt {en:List En} {t:Trn} {p:Pt} {hp:Hp} {n:Nat} (h:Lies en t p hp n):∀ k,k∈lS p→k<n:=fun k hk=>by
 rw[←qJ en t p h.fit] at hk
 obtain ⟨q,hq,rfl⟩:=List.mem_map.1 hk
 exact (h.st q hq).1
theorem aXh (r:Nat):Ob.keep 37 r=Ob.k37 r:=by kernel_rfl
attribute [local simp] aXh Ob.k37
set_option maxHeartbeats 8000000 in
theorem aQw {o:Oc} (hO:OW o):∀ N,aLl o N:=by
 intro N
 induction N with
 | zero=>intro t p ins h;cases t;rw[Trn.ht] at h;omega
 | succ N ih=>
 intro t p ins hht cE hi hp n cc hK
 obtain ⟨c,ms,sb⟩:=t
 obtain ⟨pb,ps⟩:=p
 have aNh:=s7 hO.wf (N+1) _ ins hht cE hi
 rw[eZ] at aNh ⊢
 rw[Trn.ok] at cE
 rw[Trn.ht] at hht
 have hi1:ins.length=c.inn.length:=hi.1
 have hc:=cE.1
 have hcw:=hO.wf c hc
 have gM:=(hO.len c hc).sum
 have gB:=hO.sz c hc
 have hxo:=hK.st (pb.x,oO pb.gx o.en c pb.im pb.gm pb.ii pb.gi) (by rw[stC];simp)
 obtain ⟨lx,pB⟩:=hxo
 simp only[oO] at lx pB
 have nx:=nf lx
 show aDG Tryz.prog Ob.cfg 37 [.ptr pb.x pb.gx 0,dL (bX ins)] hp n cc _ _ _
 generalize hs':uW c (eZ N) c.step ⟨puts [] ((c.inn.map Dc.nm).zip ins),ms,sb⟩=s' at aNh ⊢
 refine wW Tryz.func37 rfl (by kernel_rfl) rfl ?_
 refine bY (uQ @aN @aO @aB @aA @aH @aI @qO.eq_1 @Value.oneCell'.eq_def @pB @nx @bP) ?_
 have hvs:n∉lS (.mk pb ps):=fun h=>by have:=hK.sids_lt _ h;omega
 have hvm:n∉dM (.mk pb ps):=fun h=>by have:=hK.mids_lt _ h;omega
 apply WP.loop' (I:=fun D st=>∃ (i c':Nat) (wl:List Nat) (bD:Hp),i+D=c.inn.length∧EA o.en c pb ps n cc ⟨puts [] (((c.inn.map Dc.nm).zip ins).take i),ms,sb⟩ bD (n+2)∧WI (dM (.mk pb ps)) n hp wl bD∧bD.get (n+1)=some ⟨cc+1,false,[.ptr pb.x pb.gx 0,.mp n cc]⟩∧
  st=⟨[(0,.ptr pb.x pb.gx 0),(1,dL (bX ins)),(5,.ptr (n+1) (cc+1) 0),(18,dL (cM c.inn)),(19,dI c.inn.length),(20,dI i)],bD,n+2,c',n,wl⟩) (d:=c.inn.length)
 ·refine ⟨0,_,_,_,by simp,⟨hK.mono (by simp[dA,cK]) (by omega),by simp[puts,gF],by omega,hvs,hvm⟩,((WI.refl.set (.inr (by omega))).set (.inr (by omega))).set (.inr (by omega)),by simp,bK (by simp[dI,dL]) rfl⟩
 rintro D _ ⟨i,c',wl,bD,hii,hE,eR,jA,rfl⟩
 refine lM (jn @aB @aA) ?_
 show WP _ _ _ _ _ _
 refine WP.cond _ rfl (fun hb=>?_) (fun hb=>?_)
 ·simp at hb
  have bR:i<c.inn.length:=by omega
  obtain ⟨d,hd,d9,bS⟩:=bL bR
  have cF:=d6 hd
  obtain ⟨w,hw,hwm,hiy⟩:=bL (show i<ins.length by omega)
  have hw':=c9 hw
  have dH:=bG bR (by omega)
  have hva:=hE.va
  simp only at hva
  have hzs:((c.inn.map Dc.nm).zip ins).take (i+1)=((c.inn.map Dc.nm).zip ins).take i++[(d.nm,w)]:=bM (by rw[List.getElem?_zip_eq_some];exact ⟨by simp[hd],hw⟩)
  have oX:=fun (look:cA) (sz by_:Nat) (zr:Option (List V)) (h:look n=some ⟨cc,false,[gF eI (puts [] (((c.inn.map Dc.nm).zip ins).take i))]⟩)=>iS eI (puts [] (((c.inn.map Dc.nm).zip ins).take i)) w (w:= .d (.int .i64 w)) (sz:=sz) (by_:=by_) (zr:=zr) (x:=d.nm) rfl h
  refine bY (oY @aB @aA @bS @cF @aP @aH @aI @hiy @hw' @aZ @jA @hva @oX) ?_
  refine aY (by simp[-bA,dH];exact Is.rfl) ?_
  refine ⟨D - 1,by omega,i+1,_,_,_,by omega,?_,(by repeat' (first|exact eR|(refine WI.trunc ?_ (by omega))|(refine WI.set ?_ (.inr (by omega))))),by simp[jA],bK (by simp[dI,dL,dH]) rfl⟩
  rw[hzs,gE]
  refine hE.setV fun id cY=>?_
  have e1:(n+2=id)=False:=eq_false (by omega)
  by_cases hq:n=id
  ·subst hq;simp
  ·simp[cY,e1,hq,Ne.symm hq]
 simp at hb
 have nE:i=c.inn.length:=by omega
 have hzt:((c.inn.map Dc.nm).zip ins).take i=(c.inn.map Dc.nm).zip ins:=List.take_of_length_le (by simp;omega)
 rw[hzt] at hE
 refine bY (jn @aB @aA) ?_
 apply WP.gen3
 intro gN c3 wl3 eS jF
 have hx3:gN.get (n+1)=some ⟨cc+1,false,[.ptr pb.x pb.gx 0,.mp n cc]⟩:=by rw[eS];exact jA
 have pM:EA o.en c pb ps n cc ⟨puts [] ((c.inn.map Dc.nm).zip ins),ms,sb⟩ gN (n+2):=by rw[eS];exact hE
 have pX:WI (dM (.mk pb ps)) n hp wl3 gN:=by rw[eS,jF];exact eR
 clear eS jF
 have i5:=pM.ob.2
 simp only[oO] at i5
 obtain ⟨q,oZ,hv,hn,tW,nJ,mH,hpz,pW,dU⟩:=(aQB (h0:=htL sb) hO.wf hO.len hc ih (by omega) 8388609 (Nat.le_refl _) c.step (by omega) hcw.step (hO.ok c hc).step _ ⟨zW hO.wf hcw hi,cE.2.1,cE.2.2,rfl⟩ gN (n+2) c3 pM).caller (by
  intro k hk
  rcases List.mem_cons.1 hk with rfl|hk
  ·omega
  ·have:=hK.mids_lt k hk;omega)
 have hbr:=aCn (c:=c) (lR N) _ c.step (Nat.lt_succ_self _) ⟨puts [] ((c.inn.map Dc.nm).zip ins),ms,sb⟩
 rw[hs'] at pW hbr
 have hbr:fF s'.sb=fF sb:=hbr
 have kL:Trn.bare (.mk c s'.ms s'.sb)=Trn.bare (.mk c ms sb):=by rw[Trn.bare,Trn.bare,hbr]
 have hE4:EA o.en c pb ps n cc s' (gN.sets (sL q (n+2))) (n+2):=by
  refine pM.setA hbr (fun id h1 h2 h3=>mH id (by omega) (by simp[h2,h3])) ?_ fun e he=>?_
  ·rw[dU n (by omega) (by rw[pW.1];rfl)];exact pW.1
  ·have hfi:fit (.mk c s'.ms s'.sb) (.mk pb ps):=by rw[←dG,kL,dG];exact hK.fit
   have fB:=hK.mids_lt e.1 (by rw[←eL _ _ hfi];exact List.mem_map.2 ⟨e,he,rfl⟩)
   have h2:=pW.2 e he
   rw[dU _ (by omega) (by rw[h2];rfl)];exact h2
 have aBX:WI (dM (.mk pb ps)) n hp (bA n wl3 (sL q (n+2))) (gN.sets (sL q (n+2))):=pX.sets fun p bD=>by
  rcases List.mem_cons.1 (nJ p.1 (List.mem_map.2 ⟨p,bD,rfl⟩)) with h|h
  ·exact .inr (by omega)
  ·exact .inl h
 have hx4:(gN.sets (sL q (n+2))).get (n+1)=some ⟨cc+1,false,[.ptr pb.x pb.gx 0,.mp n cc]⟩:=by
  rw[mH (n+1) (by omega) fun h=>?_]
  ·exact hx3
  ·rcases List.mem_cons.1 h with h|h
   ·omega
   ·have:=hK.mids_lt _ h;omega
 have aRk:=hE4.ob.2
 simp only[oO] at aRk
 refine bY (nW @aB @aA @hx3 @i5 @aRk @hv @hn @aH @aI @nx) ?_
 apply WP.loop' (I:=fun D st=>∃ (j g c5:Nat) (wl5:List Nat) (lG:Hp) (L:List Int),j+D=c.out.length∧L=(c.out.take j).map (fun d=>gz s'.vs d.nm)∧EA o.en c pb ps n cc s' lG (n+2)∧WI (dM (.mk pb ps)) n hp wl5 lG∧lG.get (n+1)=some ⟨cc+1,false,[.ptr pb.x pb.gx 0,.mp n cc]⟩∧lG.get (n+2)=some ⟨g,false,fl (bX L)⟩∧
  st=⟨[(5,.ptr (n+1) (cc+1) 0),(8,.osl (n+2) g 0 j 1 none),(45,dL (cM c.out)),(46,dI c.out.length),(47,dI j)],lG,n+3,c5,n,wl5⟩) (d:=c.out.length)
 ·exact ⟨0,_,_,_,_,[],by simp,by simp,hE4.mono (by simp[dA,cK]) (Nat.le_refl _),⟨aBX.1,fun k h1 h2=>by rw[Hp.get_set_ne _ _ _ _ (by omega)];exact aBX.2 k h1 h2⟩,by simp[hx4],by simp[fl,bX];rfl,bK (by simp[dI,dL]) rfl⟩
 clear hE4 aBX hx4 aRk pM pX hx3 i5 oZ tW nJ mH hpz pW dU hv hn hE eR jA
 rintro D _ ⟨j,g,c5,wl5,lG,L,hj,hL,hE,eR,jA,nH,rfl⟩
 refine lM (jn @aB @aA) ?_
 show WP _ _ _ _ _ _
 refine WP.cond _ rfl (fun hb=>?_) (fun hb=>?_)
 ·simp at hb
  have bR:j<c.out.length:=by omega
  obtain ⟨d,hd,d9,bS⟩:=bL bR
  have cF:=d6 hd
  have dH:=bG bR (by omega)
  have hsn:=bM hd
  have pL:L.length=j:=by rw[hL];simp;omega
  have hLs:(c.out.take (j+1)).map (fun d=>gz s'.vs d.nm)=L++[gz s'.vs d.nm]:=by rw[hsn,hL];simp
  have r2:=cT (cI L)
  have r3:=cL (cI L)
  have r4:=dW (bX L) [.int .i64 (gz s'.vs d.nm)]
  have r5:=iY L (gz s'.vs d.nm)
  have f5:bT (j+1) 8=true:=by simp[bT];omega
  rw[r5] at r4
  rw[aZ,pL,Nat.mul_one] at r2 r3
  simp only[List.map_cons,List.map_nil] at r4
  have hva:=hE.va
  have vB:=fun (look:cA) (sz by_:Nat) (zr:Option (List V)) (h:look n=some ⟨cc,false,[gF eI s'.vs]⟩)=>yY s'.vs (sz:=sz) (by_:=by_) (zr:=zr) (x:=d.nm) h
  refine bY (j22 @aB @aA @bS @cF @aP @aH @aI @jA @nH @hva @vB @zt3 @aQ @aR @iE.eq_def @bI @b8 @bJ @f5 @r2 @r3 @r4) ?_
  refine aY (by simp[-bA,dH];exact Is.rfl) ?_
  refine ⟨D - 1,by omega,j+1,_,_,_,_,_,by omega,hLs.symm,hE.mono (by simp[dA,cK,cR]) (Nat.le_refl _),(by repeat' (first|exact eR|(refine WI.trunc ?_ (by omega))|(refine WI.set ?_ (.inr (by omega))))),by simp[jA],by simp;rfl,bK (by simp[dI,dL,dH]) rfl⟩
 ·simp at hb
  have eM:j=c.out.length:=by omega
  rw[eM,List.take_length] at hL
  have pL:L.length=j:=by rw[hL,eM];simp
  refine bY (jn @aB @aA) ?_
  have gM:=jH (look:=lG.get) (id:=n+2) (g:=g) (ro:=false) (cap:=none) (cI L) nH
  rw[aZ,pL] at gM
  refine ⟨.inr rfl,_,[n+2],rfl,?_,by simp[Nat.ble_eq],eR,fun e he=>?_⟩
  ·show dZ lG.get (.osl (n+2) g 0 j 1 none)=_
   rw[gM,hL]
  ·obtain ⟨h1,h2⟩:=hE.li.me e he
   have hfi:fit (.mk c s'.ms s'.sb) (.mk pb ps):=by rw[←dG,kL,dG];exact hK.fit
   have fB:=hK.mids_lt e.1 (by rw[←eL _ _ hfi];exact List.mem_map.2 ⟨e,he,rfl⟩)
   show (Hp.trunc n lG).get e.1=_
   rw[Hp.get_trunc _ _ _ fB];exact h2
end Go.Ac
end
section
set_option maxRecDepth 4000
namespace Go.Ac
open Go.Proofs
attribute [local simp] Hp.get_set dA cK cR bW
def okI (en:List En) (l:List Dc) (vs:List Int):Bool:=(l.zip vs).all fun p=>iG en p.1.t p.2
def jU (en:List En) (t:Trn) (ins:List Int):Trn×List Int×Int:=
 if ins.length≠t.c.inn.length then (t,[],9) else if okI en t.c.inn ins=false then (t,[],14) else ((eZ t.ht t ins).1,(eZ t.ht t ins).2,0)
theorem aHy {en:List En} {l:List Dc} {vs:List Int} (hl:vs.length=l.length) (h:okI en l vs=true):y9 en l vs:=by
 refine ⟨hl,fun i d v h1 h2=>?_⟩
 have hz:(l.zip vs)[i]?=some (d,v):=by rw[List.getElem?_zip_eq_some];exact ⟨h1,h2⟩
 exact List.all_eq_true.1 h _ (List.mem_of_getElem? hz)
theorem aUW (r:Nat):Ob.keep 14 r=Ob.k14 r:=by kernel_rfl
attribute [local simp] aUW Ob.k14
set_option maxHeartbeats 8000000 in
theorem aQr {o:Oc} (hO:OW o) (t:Trn) (p:Pt) (ins:List Int) (cE:t.ok o) (xX:ins.length≤4611686018427387904) (hp:Hp) (n cc:Nat) (hK:Lies o.en t p hp n):
  aDG Tryz.prog Ob.cfg 14 [.ptr p.a.x p.a.gx 0,dL (bX ins)] hp n cc (.tuple [dL (bX (jU o.en t ins).2.1),dI (jU o.en t ins).2.2]) (dM p) (fun bD=>∀ e,e∈qD (jU o.en t ins).1 p→bD.get e.1=some e.2):=by
 have hc:t.c∈o.cl:=((Trn.ok_eq o t).1 cE).1
 have gM:=(hO.len _ hc).sum
 have aDM:=hO.ok _ hc
 have hxo:=hK.st (p.a.x,oO p.a.gx o.en t.c p.a.im p.a.gm p.a.ii p.a.gi) (by cases t;cases p;rw[stC];simp[Trn.c,Pt.a])
 obtain ⟨lx,pB⟩:=hxo
 simp only[oO] at lx pB
 have nx:=nf lx
 have hme:∀ e,e∈qD t p→hp.get e.1=some e.2:=fun e he=>(hK.me e he).2
 have hmt:∀ e,e∈qD t p→e.1<n:=fun e he=>(hK.me e he).1
 unfold jU
 refine wW Tryz.func14 rfl (by kernel_rfl) rfl ?_
 by_cases q1:ins.length=t.c.inn.length
 case neg=>
  rw[if_pos q1]
  have q1':=eq_false (show ¬ (ins.length:Int)=t.c.inn.length by omega)
  refine bY (tS @aN @aO @aB @aA @aH @aI @pB @nx @aZ @bP @aV @q1') ?_
  exact ⟨.inr rfl,_,[],rfl,rfl,rfl,WI.refl,fun e he=>by rw[Hp.get_trunc _ _ _ (hmt e he)];exact hme e he⟩
 rw[if_neg (fun h=>h q1)]
 have q1':=eq_true (show (ins.length:Int)=t.c.inn.length by omega)
 refine bY (tS @aN @aO @aB @aA @aH @aI @pB @nx @aZ @bP @aV @q1') ?_
 apply WP.loop' (I:=fun D st=>∃ (i c':Nat) (wl:List Nat) (bD:Hp),i+D=t.c.inn.length∧((t.c.inn.zip ins).take i).all (fun e=>iG o.en e.1.t e.2)=true∧WI (dM p) n hp wl bD∧Ag n hp bD∧
  st=⟨[(0,.ptr p.a.x p.a.gx 0),(1,dL (bX ins)),(25,dL (cM t.c.inn)),(26,dI t.c.inn.length),(27,dI i)],bD,n,c',n,wl⟩) (d:=t.c.inn.length)
 ·exact ⟨0,_,_,_,by simp,by simp,WI.refl,Ag.refl n hp,bK (by simp[dI,dL]) rfl⟩
 rintro D _ ⟨i,c',wl,bD,hi,cD,eR,d8,rfl⟩
 have mG:=(d8 _ lx).trans pB
 have dR:=eq_true d8
 refine lM (jn @aB @aA) ?_
 show WP _ _ _ _ _ _
 refine WP.cond _ rfl (fun hb=>?_) (fun hb=>?_)
 ·simp at hb
  have bR:i<t.c.inn.length:=by omega
  obtain ⟨d,hd,d9,bS⟩:=bL bR
  have cF:=d6 hd
  obtain ⟨w,hw,hwm,hiy⟩:=bL (show i<ins.length by omega)
  have hw':=c9 hw
  have dH:=bG bR (by omega)
  have hzd:(t.c.inn.zip ins)[i]?=some (d,w):=by rw[List.getElem?_zip_eq_some];exact ⟨hd,hw⟩
  have hh:=aMr o.en d.t w ((aDM.inn d d9).1)
  simp only[dL,dI,dB] at hh
  have hs:=bZ (p:=fun e:Dc×Int=>iG o.en e.1.t e.2) hzd
  cases hz:iG o.en d.t w with
  | true=>
   rw[hz] at hh
   refine bY (oY @aB @aA @bS @cF @aP @aH @aI @hiy @hw' @aZ @mG @nx @hh) ?_
   refine aY (by simp[-bA,dH];exact Is.rfl) ?_
   exact ⟨D - 1,by omega,i+1,_,_,_,by omega,by rw[hs,cD,hz];rfl,(by repeat' (first|exact eR|(refine WI.trunc ?_ (by omega))|(refine WI.set ?_ (.inr (by omega))))),by simp[d8],bK (by simp[dI,dL,dH]) rfl⟩
  | false=>
   rw[hz] at hh
   have hk:okI o.en t.c.inn ins=false:=by
    unfold okI
    cases ha:(t.c.inn.zip ins).all (fun p=>iG o.en p.1.t p.2) with
    | false=>rfl
    | true=>
     have:=List.all_eq_true.1 ha _ (List.mem_of_getElem? hzd)
     simp only at this
     rw[hz] at this;cases this
   rw[if_pos hk]
   refine bY (oY @aB @aA @bS @cF @aP @aH @aI @hiy @hw' @aZ @mG @nx @hh) ?_
   refine ⟨.inr rfl,_,[],rfl,rfl,rfl,(by repeat' (first|exact eR|(refine WI.trunc ?_ (by omega))|(refine WI.set ?_ (.inr (by omega))))),fun e he=>?_⟩
   have fB:=hmt e he
   have h2:=(d8 _ fB).trans (hme e he)
   have e1:(n=e.1)=False:=eq_false (by omega)
   have e3:(e.1<n)=True:=eq_true fB
   simp[e1,e3,h2]
 simp at hb
 have nE:i=t.c.inn.length:=by omega
 have hk:okI o.en t.c.inn ins=true:=by
  have hzt:(t.c.inn.zip ins).take i=t.c.inn.zip ins:=List.take_of_length_le (by simp;omega)
  rw[hzt] at cD;exact cD
 rw[if_neg (by simp[hk])]
 refine bY (jn @aB @aA) ?_
 apply WP.gen3
 intro gN c3 wl3 eS jF
 have wO:Ag n hp gN:=by rw[eS];exact d8
 have pX:WI (dM p) n hp wl3 gN:=by rw[eS,jF];exact eR
 clear eS jF
 obtain ⟨q,oZ,hv,hn,tW,nJ,mH,hpz,pW,dU⟩:=(aQw hO t.ht t p ins (Nat.le_refl _) cE (aHy q1 hk) gN n c3 (hK.mono wO (Nat.le_refl n))).caller (fun k h=>hK.mids_lt k h)
 simp only[dL] at oZ hv
 refine bY (j4 @aB @aA @hv @hn) ?_
 refine ⟨.inr rfl,_,[],rfl,rfl,rfl,pX.sets fun x hx=> .inl (nJ x.1 (List.mem_map.2 ⟨x,hx,rfl⟩)),fun e he=>?_⟩
 have hfi:fit (eZ t.ht t ins).1 p:=by rw[←dG,lR,dG];exact hK.fit
 have fB:=hK.mids_lt e.1 (by rw[←eL _ _ hfi];exact List.mem_map.2 ⟨e,he,rfl⟩)
 have h2:=pW e he
 rw[Hp.get_trunc _ _ _ fB,dU _ fB (by rw[h2];rfl)];exact h2
end Go.Ac
end
section
set_option maxRecDepth 4000
namespace Go.Ac
open Go.Proofs
attribute [local simp] Hp.get_set dA cK cR bW
mutual
def n9:Trn→List Int
 | .mk c ms sb=>c.mems.map (fun d=>gz ms d.nm)++qZ sb
def qZ:List Trn→List Int
 | []=>[]
 | t::r=>n9 t++qZ r
end
theorem aAB:∀ (l:List Trn) (i:Nat) (t:Trn),l[i]?=some t→qZ (l.take (i+1))=qZ (l.take i)++n9 t
 | [],i,t,h=>by simp at h
 | x::r,0,t,h=>by simp at h;subst h;simp[qZ]
 | x::r,i+1,t,h=>by
  rw[List.take_succ_cons,List.take_succ_cons,qZ,qZ,aAB r i t (by simpa using h),List.append_assoc]
theorem aFl:∀ (l:List Trn) (i:Nat),(qZ (l.take i)).length≤(qZ l).length
 | [],i=>by simp
 | x::r,0=>by simp[qZ]
 | x::r,i+1=>by rw[List.take_succ_cons,qZ,qZ,List.length_append,List.length_append];have:=aFl r i;omega
theorem aGV:∀ (l:List Ii) (i:Nat) (d:Ii),(l.map Ii.nm).Nodup→l[i]?=some d→l.findIdx (fun e=>decide (e.nm=d.nm))=i
 | [],i,d,_,h=>by simp at h
 | x::r,0,d,_,h=>by simp at h;subst h;rw[List.findIdx_cons];simp
 | x::r,i+1,d,hn,h=>by
  rw[List.map_cons,List.nodup_cons] at hn
  have h':r[i]?=some d:=by simpa using h
  have hne:x.nm≠d.nm:=fun e=>hn.1 (List.mem_map.2 ⟨d,List.mem_of_getElem? h',e.symm⟩)
  rw[List.findIdx_cons,decide_eq_false hne,cond_false,aGV r i d hn.2 h']
theorem aGY (look:cA) (l:List Int):iM look 1 (.d (.slice (bX l)))=some (l.length,fl (bX l),[]):=by
 have h:(bX l).all (fun r=>Nat.beq r.length 1)=true:=by
  rw[List.all_eq_true];intro r hr;rw[cI l r hr];rfl
 unfold iM
 simp only[h,aZ]
 rfl
theorem aBt (a b:List Int):fl (bX a)++fl (bX b)=fl (bX (a++b)):=by unfold fl bX;simp
theorem aVb (r:Nat):Ob.keep 21 r=Ob.k21 r:=by kernel_rfl
attribute [local simp] aVb Ob.k21
set_option maxHeartbeats 8000000 in
theorem aLr {o:Oc} (hO:OW o):∀ (N:Nat) (t:Trn) (p:Pt),t.ht<N→t.ok o→(n9 t).length≤17592186044416→∀ hp n cc,Lies o.en t p hp n→kV Tryz.prog Ob.cfg 21 [.ptr p.a.x p.a.gx 0] hp n cc (dL (bX (n9 t))):=by
 intro N
 induction N with
 | zero=>intro t p h;omega
 | succ N ih=>
 intro t p hht cE hml hp n cc hK
 obtain ⟨c,ms,sb⟩:=t
 obtain ⟨pb,ps⟩:=p
 rw[Trn.ok] at cE
 rw[Trn.ht] at hht
 rw[n9] at hml ⊢
 rw[List.length_append,List.length_map] at hml
 have hc:=cE.1
 have gM:=(hO.len c hc).sum
 have hxo:=hK.st (pb.x,oO pb.gx o.en c pb.im pb.gm pb.ii pb.gi) (by rw[stC];simp)
 obtain ⟨lx,pB⟩:=hxo
 simp only[oO] at lx pB
 obtain ⟨li,hio⟩:=hK.st (pb.ii,⟨pb.gi,false,[gF eP (i4 c ps)]⟩) (by rw[stC];simp)
 obtain ⟨lm,hmo⟩:=hK.me (pb.im,⟨pb.gm,false,[gF eI ms]⟩) (by rw[qD];simp)
 simp only at li hio lm hmo
 have nx:=nf lx
 have ni:=nf li
 have nm:=nf lm
 show kV Tryz.prog Ob.cfg 21 [.ptr pb.x pb.gx 0] hp n cc _
 refine lZ Tryz.func21 rfl (by kernel_rfl) rfl ?_
 refine cV (j8 @aN @aO @aB @aA @aH @aI @pB @nx) ?_
 apply WP.loop' (I:=fun D st=>∃ (j g c':Nat) (bD:Hp) (L:List Int),j+D=c.mems.length∧L=(c.mems.take j).map (fun d=>gz ms d.nm)∧Ag n hp bD∧bD.get n=some ⟨g,false,fl (bX L)⟩∧
  st=⟨[(0,.ptr pb.x pb.gx 0),(3,.osl n g 0 j 1 none),(14,dL (lA c.mems)),(15,dI c.mems.length),(16,dI j)],bD,n+1,c',n,[]⟩) (d:=c.mems.length)
 ·exact ⟨0,_,_,_,[],by simp,by simp,by simp,by simp[fl,bX];rfl,bK (by simp[dI,dL]) rfl⟩
 rintro D _ ⟨j,g,c',bD,L,hj,hL,d8,hx,rfl⟩
 have dR:=eq_true d8
 have mG:=(d8 _ lx).trans pB
 refine qE (jn @aB @aA) ?_
 show WP _ _ _ _ _ _
 refine WP.cond _ rfl (fun hb=>?_) (fun hb=>?_)
 ·simp at hb
  have bR:j<c.mems.length:=by omega
  obtain ⟨d,hd,d9,bS⟩:=bL bR
  have cF:=mU hd
  have dH:=bG bR (by omega)
  have hsn:=bM hd
  have pL:L.length=j:=by rw[hL];simp;omega
  have hLs:(c.mems.take (j+1)).map (fun d=>gz ms d.nm)=L++[gz ms d.nm]:=by rw[hsn,hL];simp
  have r2:=cT (cI L)
  have r3:=cL (cI L)
  have r4:=dW (bX L) [.int .i64 (gz ms d.nm)]
  have r5:=iY L (gz ms d.nm)
  have f5:bT (j+1) 8=true:=by simp[bT];omega
  rw[r5] at r4
  rw[aZ,pL,Nat.mul_one] at r2 r3
  simp only[List.map_cons,List.map_nil] at r4
  have aYN:=(d8 _ lm).trans hmo
  have vB:=fun (look:cA) (sz by_:Nat) (zr:Option (List V)) (h:look pb.im=some ⟨pb.gm,false,[gF eI ms]⟩)=>yY ms (sz:=sz) (by_:=by_) (zr:=zr) (x:=d.nm) h
  refine cV (j24 @aB @aA @bS @cF @Mm.cells.eq_1 @aH @aI @mG @nx @nm @aYN @vB @zt3 @hx @aQ @aR @iE.eq_def @bI @b8 @bJ @f5 @r2 @r3 @r4) ?_
  refine aY (by simp[dH];exact Is.rfl) ?_
  exact ⟨D - 1,by omega,j+1,_,_,_,_,by omega,hLs.symm,by simp[d8],by simp;rfl,bK (by simp[dI,dL,dH]) rfl⟩
 simp at hb
 have eM:j=c.mems.length:=by omega
 rw[eM,List.take_length] at hL
 refine cV (j4 @aB @aA @mG @nx) ?_
 have pL:L.length=j:=by rw[hL,eM];simp
 have fM:=hK.fit
 rw[fit] at fM
 have hsl:=fM.1
 have hpl:=s9 sb ps fM.2
 have mA:(c.ins.map Ii.nm).Nodup:=by
  have:=(hO.wf c hc).nd
  unfold Cl.names at this
  exact (List.nodup_append.1 this).2.1
 obtain ⟨z,hz⟩:=aQj
 apply WP.loop' (I:=fun D2 st=>∃ (i g2 m c5:Nat) (lG:Hp) (L5:List Int),i+D2=c.ins.length∧L5=L++qZ (sb.take i)∧m=L5.length∧Ag n hp lG∧lG.get n=some ⟨g2,false,fl (bX L5)⟩∧
  st=⟨[(0,.ptr pb.x pb.gx 0),(3,.osl n g2 0 m 1 none),(35,dL (mD c.ins)),(36,dI c.ins.length),(37,dI i)],lG,n+1,c5,n,[]⟩) (d:=c.ins.length)
 ·exact ⟨0,g,j,_,_,L,by simp,by simp[qZ],pL.symm,d8,hx,bK (by simp[dI,dL]) rfl⟩
 rintro D2 _ ⟨i,g2,m,c5,lG,L5,hi5,hL5,hm5,aFU,mB,rfl⟩
 have aNi:=eq_true aFU
 have aAr:=(aFU _ lx).trans pB
 have aOD:=(aFU _ li).trans hio
 refine qE (jn @aB @aA) ?_
 show WP _ _ _ _ _ _
 refine WP.cond _ rfl (fun hb=>?_) (fun hb=>?_)
 ·simp at hb
  have hb5:i<c.ins.length:=by omega
  obtain ⟨d,hd,d9,bS⟩:=bL hb5
  have cF:=pV hd
  have dH:=bG hb5 (by omega)
  have pC:sb[i]?=some (sb[i]'(by omega)):=List.getElem?_eq_getElem (by omega)
  generalize (sb[i]'(by omega))=t at pC
  obtain ⟨q,hq,tR⟩:=hK.sub (i:=i) (u:=t) pC
  have hq:ps[i]?=some q:=hq
  obtain ⟨_,_,_,hto⟩:=aDv o sb c.ins i t cE.2.2 pC
  have aNb:=aGV c.ins i d mA hd
  have wJ:=aAg c.ins ps d.nm q (by rw[aNb];exact hb5) (by rw[aNb];exact hq)
  have hlk:∀ (look:cA) (sz by_:Nat) (zr:Option (List V)),look pb.ii=some ⟨pb.gi,false,[gF eP (i4 c ps)]⟩→iH look ⟨.str,sz,by_,zr⟩ (some z) (.mp pb.ii pb.gi) (.d (.str d.nm)) false=some ⟨.ptr q.a.x q.a.gx 0,[],[pb.ii],0,0,false⟩:=by
   intro look sz by_ zr h
   rw[jP eP (i4 c ps) h]
   unfold i4
   rw[wJ];rfl
  have aRl:t.ht<N:=by have:=pT (List.mem_of_getElem? pC);omega
  have hmt:=aAB sb i t pC
  have hle:=aFl sb (i+1)
  rw[hmt,List.length_append] at hle
  obtain ⟨F,G,hF⟩:=gU (C:=fun fP n2=>Ag n hp fP∧n≤n2) (P:=Tryz.prog) (cfg:=Ob.cfg) (f:=21) (vs:=[.ptr q.a.x q.a.gx 0]) (v:=dL (bX (n9 t))) (fun fP n2 c2 hC=>ih t q aRl hto (by omega) fP n2 c2 (tR.mono hC.1 hC.2))
  have hr:=fun fP n2 c2 a b=>hF fP n2 c2 ⟨a,b⟩
  simp only[dL] at hr
  have r2:=cT (cI L5)
  have r3:=cL (cI L5)
  rw[aZ,←hm5,Nat.mul_one] at r2 r3
  have f5:bT (m+(n9 t).length) 8=true:=by simp[bT];rw[hm5,hL5,List.length_append];omega
  refine cV (j28 @aB @aA @bS @cF @Ii.cells.eq_1 @aH @aI @aAr @nx @ni @aOD @hlk @hz @hr @mB @aNi @aQ @aR @iE.eq_def @bI @b8 @bJ @f5 @r2 @r3 @aZ @aGY @aBt) ?_
  refine aY (by simp[dH];exact Is.rfl) ?_
  refine ⟨D2 - 1,by omega,i+1,_,m+(n9 t).length,_,_,L5++n9 t,by omega,by rw[hL5,hmt,List.append_assoc],by rw[List.length_append,←hm5],by simp[aFU],by simp;rfl,bK (by simp[dI,dL,dH]) rfl⟩
 simp at hb
 have nE:i=c.ins.length:=by omega
 have hst:sb.take i=sb:=List.take_of_length_le (by omega)
 rw[hst,hL] at hL5
 refine cV (jn @aB @aA) ?_
 have gM:=jH (look:=lG.get) (id:=n) (g:=g2) (ro:=false) (cap:=none) (cI L5) mB
 rw[aZ,←hm5] at gM
 refine ⟨.inr rfl,rfl,_,[n],rfl,?_,by simp[Nat.ble_eq]⟩
 show dZ lG.get (.osl n g2 0 m 1 none)=_
 rw[gM,hL5]
end Go.Ac
end
section
set_option maxRecDepth 4000
namespace Go.Ac
open Go.Proofs
attribute [local simp] Hp.get_set dA cK cR bW
mutual
def aHX:Trn→List Int
 | .mk c ms sb=>c.mems.map (fun d=>d.t)++aFD sb
def aFD:List Trn→List Int
 | []=>[]
 | t::r=>aHX t++aFD r
end
theorem aXX (r:Nat):Ob.keep 55 r=Ob.k55 r:=by kernel_rfl
attribute [local simp] aXX Ob.k55
end Go.Ac
end
