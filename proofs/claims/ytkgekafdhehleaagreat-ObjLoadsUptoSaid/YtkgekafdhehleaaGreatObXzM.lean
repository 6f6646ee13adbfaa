/- The memories of an instance (the program's Memory). -/
import Derived.Test.YtkgekafdhehleaaGreatObXvM
set_option linter.unusedVariables false
set_option linter.unusedSimpArgs false
section
set_option maxRecDepth 4000
namespace Go.Ac
open Go.Proofs
attribute [local simp] Hp.get_set cY cE cN bW
theorem tV:∀ (is:List Ii) (ps:List Pt) (nm:Tx) (q:Pt),is.findIdx (fun d=>decide (d.nm=nm))<is.length→ps[is.findIdx fun d=>decide (d.nm=nm)]?=some q→eS ((is.map Ii.nm).zip (ps.map fun p=>(p.a.x,p.a.gx))) nm=some (q.a.x,q.a.gx)
 | [],ps,nm,q,h,_=>by simp at h
 | d::r,[],nm,q,h,hq=>by simp at hq
 | d::r,p::ps,nm,q,h,hq=>by
  rw[List.findIdx_cons] at h hq
  unfold eS
  rw[List.map_cons,List.map_cons,List.zip_cons_cons,List.find?_cons]
  by_cases hd:d.nm=nm
  ·simp[hd] at hq ⊢
   rw[hq];exact ⟨rfl,rfl⟩
  ·rw[decide_eq_false hd] at h hq ⊢
   simp only[cond_false,List.length_cons] at h hq
   have:=tV r ps nm q (by omega) (by simpa using hq)
   unfold eS at this
   exact this
theorem aEJ {w:Pl}:∀ (l:List X) (ds:List Dc),mN w l ds=0→l.length=ds.length→l.all bS=true
 | [],_,_,_=>rfl
 | x::r,[],_,h=>by simp at h
 | x::r,d::ds,h,hl=>by
  rw[mN] at h
  split at h
  ·rename_i hn;exact absurd h hn
  rename_i hn
  have ha:tZ w x d=0:=Decidable.not_not.1 hn
  unfold tZ at ha
  split at ha
  ·rename_i h1;exact absurd ha h1
  rename_i h1
  have h1:=Decidable.not_not.1 h1
  rw[List.all_cons,aEJ r ds h (by simpa using hl),Bool.and_true]
  unfold eF at h1
  split at h1
  ·assumption
  ·simp at h1
theorem aNs:∃ z,yP Tryz.prog 37=some z:=Option.isSome_iff_exists.1 (by kernel_rfl)
def aMT (o:Oc) (N:Nat):Prop:=∀ (t:Trn) (p:Pt) (ins:List Int),t.ht≤N→t.ok o→aAf o.en t.c.inn ins→∀ hp n cc,Lies o.en t p hp n→
 yL Tryz.prog Ob.cfg 37 [.ptr p.a.x p.a.gx 0,dL (bQ ins)] hp n cc (dL (bQ (fC N t ins).2)) (dE p) (fun bB=>∀ e,e∈oF (fC N t ins).1 p→bB.get e.1=some e.2)
theorem aWA (r:Nat):Ob.keep 85 r=Ob.k85 r:=by kernel_rfl
attribute [local simp] aWA Ob.k85
section
variable {o:Oc} {c:Cl} {pb:Pb} {ps:List Pt} {v gv:Nat} {N h0:Nat}
theorem aGN (F:Trn→List Int→Trn×List Int) {l:List Y} {j:Nat} {y:Y} (h:l[j]?=some y) (s:Es):vN c F (l.take (j+1)) s=exY c F y (vN c F (l.take j) s):=by
 rw[bL h,aJP,vN,vN]
set_option maxHeartbeats 8000000 in
theorem aQa (hw:∀ c,c∈o.cl→CWf o c) (hL:∀ c,c∈o.cl→CLen c) (hc:c∈o.cl) (hS:aMT o N) (hh:h0≤N):∀ M,M≤8388609→∀ l:List Y,iG l<M→wtL o c l→okY l→∀ s:Es,s.ok o c h0→∀ hp n cc,EA o.en c pb ps v gv s hp n→
  yL Tryz.prog Ob.cfg 85 [.agg [.ptr pb.x pb.gx 0,.mp v gv],dL (dM l)] hp n cc (.tuple []) (v::dE (.mk pb ps)) (fun bB=>bB.get v=some ⟨gv,false,[fW eI (vN c (fC N) l s).vs]⟩∧∀ e,e∈oF (.mk c (vN c (fC N) l s).ms (vN c (fC N) l s).sb) (.mk pb ps)→bB.get e.1=some e.2):=by
 intro M
 induction M with
 | zero=>intro _ l h;omega
 | succ M ih=>
 intro hM l hl hwt cC s hs hp n cc hE
 have e9:=l0 l
 have hcw:=hw c hc
 have aPq:Fok o N (fC N):=tO hw N
 have hF0:Fok o h0 (fC N):=fun t ins h1=>aPq t ins (by omega)
 refine oP Tryz.func85 rfl (by kernel_rfl) rfl ?_
 refine bN (j7 @aN @aO @aB @aA @aH @aI @cV) ?_
 apply WP.loop' (I:=fun D st=>∃ (j c':Nat) (wl:List Nat) (bB:Hp) (sj:Es),j+D=l.length∧sj=vN c (fC N) (l.take j) s∧sj.ok o c h0∧EA o.en c pb ps v gv sj bB n∧WI (v::dE (.mk pb ps)) n hp wl bB∧bB.get n=some ⟨cc,false,[.ptr pb.x pb.gx 0,.mp v gv]⟩∧
  st=⟨[(2,.ptr n cc 0),(9,dL (dM l)),(10,dI l.length),(11,dI j)],bB,n+1,c',n,wl⟩) (d:=l.length)
 ·exact ⟨0,_,_,_,s,by simp,by simp[vN],hs,hE.mono (by simp[cY,cE]) (Nat.le_refl n),WI.refl.set (.inr (Nat.le_refl n)),by simp,bK (by simp[dI,dL]) rfl⟩
 rintro D _ ⟨j,c',wl,bB,sj,hj,hsj,sA,pX,d6,lS,rfl⟩
 refine iX (j3 @aB @aA @cV) ?_
 show WP _ _ _ _ _ _
 refine WP.cond _ rfl (fun hb=>?_) (fun hb=>?_)
 ·simp at hb
  have bP:j<l.length:=by omega
  obtain ⟨y,hy,vY,bV⟩:=bM bP
  have pW:=oT hy
  have c9:=bE bP (by omega)
  have sE:=aGN (c:=c) (fC N) hy s
  rw[←hsj,aEd] at sE
  have hyt:=hwt y vY
  have aZt:=nS vY
  have nU:=Y.sz_eq y
  obtain ⟨ok1,ok2,ok3,ok4⟩:=Y.ok_eq ((uQ _).1 cC y vY)
  have hvn:=eq_false (show ¬ n=v by have:=pX.lv;omega)
  have aWm:=eq_false (show ¬ n+1=v by have:=pX.lv;omega)
  have lv1:(v<n+1)=True:=eq_true (by have:=pX.lv;omega)
  have lv2:(v<n+2)=True:=eq_true (by have:=pX.lv;omega)
  have hs2:=aNo hw hcw hF0 _ (l.take (j+1)) (Nat.lt_succ_self _) (fun z hz=>hwt z (List.mem_of_mem_take hz)) s hs
  have hva:=pX.va
  have kD:=pX.ob.2
  simp only[oO] at kD
  have hmo:=pX.mo.2
  have hio:=pX.io.2
  have nx:=nf pX.ob.1
  have nm:=nf pX.mo.1
  have ni:=nf pX.io.1
  have nv:=nf pX.lv
  have hnv:=eq_false (show ¬ v=n by have:=pX.lv;omega)
  have hni:=eq_false (show ¬ pb.im=n by have:=pX.mo.1;omega)
  have bAf:=pX.lv
  have aZu:=eq_false (show ¬ v=n+1 by have:=pX.lv;omega)
  have lm1:(pb.im<n+1)=True:=eq_true (by have:=pX.mo.1;omega)
  have lm2:(pb.im<n+2)=True:=eq_true (by have:=pX.mo.1;omega)
  rcases hyt.cases hw hcw with ⟨k,t,h1,h2,h3⟩|⟨k,h1,h2⟩|⟨k,h1,h2,h3,h4⟩|⟨k,h1,h2,h3,cx,bf,h4,h5⟩|⟨k,h1⟩
  ·rw[if_pos k] at sE
   have vW:=aEc (a:=aIP pb v gv) (en:=o.en) (c:=c) (ms:=sj.ms) (vs:=sj.vs) M (by omega) y.r (by omega) h1.1 ok2
   obtain ⟨F,G,hr⟩:=vW.fn pX.ra
   simp only[aG,rV,aIP,aE,List.map_cons,List.map_nil,dI] at hr
   have nX:=fun (look:cA) (sz by_:Nat) (zr:Option (List V)) (h:look v=some ⟨gv,false,[fW eI sj.vs]⟩)=>iM eI sj.vs (uO sj.vs sj.ms y.r) (w:= .d (.int .i64 (uO sj.vs sj.ms y.r))) (sz:=sz) (by_:=by_) (zr:=zr) (x:=y.nm) rfl h
   refine bN (j19 @aB @aA @cV @bV @pW @aC @aE @aH @aI @k @aS @lS @hr @hvn @aWm @lv1 @lv2 @hva @nX) ?_
   refine aY (by simp[-a9,c9];exact Is.rfl) ?_
   refine ⟨D - 1,by omega,j+1,_,_,_,_,by omega,rfl,hs2,?_,(by repeat' (first|exact d6|(refine WI.trunc ?_ (by omega))|(refine WI.set ?_ (.inr (by omega)))|(refine WI.set ?_ (.inl (by simp[dE]))))),by simp[lS,hnv,hni],bK (by simp[dI,dL,c9]) rfl⟩
   rw[sE]
   refine pX.setV fun id c8=>?_
   have e1:(n+1=id)=False:=eq_false (by omega)
   have e2:(id<n+1)=True:=eq_true (by omega)
   by_cases hq:v=id
   ·subst hq;simp[e2]
   ·simp[e1,e2,hq,Ne.symm hq]
  ·rw[if_neg (by omega),if_pos k] at sE
   have vW:=aEc (a:=aIP pb v gv) (en:=o.en) (c:=c) (ms:=sj.ms) (vs:=sj.vs) M (by omega) y.r (by omega) h1.1 ok2
   obtain ⟨F,G,hr⟩:=vW.fn pX.ra
   simp only[aG,rV,aIP,aE,List.map_cons,List.map_nil,dI] at hr
   have nX:=fun (look:cA) (sz by_:Nat) (zr:Option (List V)) (h:look pb.im=some ⟨pb.gm,false,[fW eI sj.ms]⟩)=>iM eI sj.ms (uO sj.vs sj.ms y.r) (w:= .d (.int .i64 (uO sj.vs sj.ms y.r))) (sz:=sz) (by_:=by_) (zr:=zr) (x:=y.nm) rfl h
   refine bN (j20 @aB @aA @cV @bV @pW @aC @aE @aH @aI @k @aS @lS @hr @kD @nx @nm @lm1 @lm2 @hmo @nX) ?_
   refine aY (by simp[-a9,c9];exact Is.rfl) ?_
   refine ⟨D - 1,by omega,j+1,_,_,_,_,by omega,rfl,hs2,?_,(by repeat' (first|exact d6|(refine WI.trunc ?_ (by omega))|(refine WI.set ?_ (.inr (by omega)))|(refine WI.set ?_ (.inl (by simp[dE]))))),by simp[lS,hnv,hni],bK (by simp[dI,dL,c9]) rfl⟩
   rw[sE]
   refine pX.setM fun id c8=>?_
   have e1:(n+1=id)=False:=eq_false (by omega)
   have e2:(id<n+1)=True:=eq_true (by omega)
   by_cases hq:pb.im=id
   ·rw[←hq];simp[lm1]
   ·simp[e1,e2,hq,Ne.symm hq]
  ·rw[if_neg (by omega),if_neg (by omega),if_pos k] at sE
   have hty:=sA.v y.nm h1
   unfold gB at hty
   rw[if_neg h2] at hty
   simp at hty
   generalize hV0:gz sj.vs y.nm=V0 at*
   have eU:V0.toNat<y.brs.length:=by omega
   obtain ⟨b,xG⟩:∃ b,y.brs[V0.toNat]?=some b:=⟨_,List.getElem?_eq_getElem eU⟩
   have zR:=List.mem_of_getElem? xG
   have lC:=l9 xG
   rw[aBf c (fC N) sj y.brs _ b xG] at sE
   have aZv:(0≤V0)=True:=eq_true hty.1
   have aGz:(V0<(y.brs.length:Int))=True:=eq_true (by omega)
   have aZw:jR V0 y.brs.length=some V0.toNat:=by unfold jR;rw[if_pos ⟨hty.1,by omega⟩]
   have vT:=fun (look:cA) (sz by_:Nat) (zr:Option (List V)) (h:look v=bB.get v)=>aAE sj.vs (sz:=sz) (by_:=by_) (zr:=zr) (x:=y.nm) (h.trans pX.va)
   simp only[hV0] at vT
   refine bN (j20 @aB @aA @cV @bV @pW @aC @aE @aH @aI @k @aS @lS @hvn @aWm @zt3 @nv @vT @aZv @aGz @aX) ?_
   apply WP.gen3
   intro fX c3 wl3 eG iT
   have hx3:fX.get n=some ⟨cc,false,[.ptr pb.x pb.gx 0,.mp v gv]⟩:=by rw[eG];simp[lS]
   have hy3:fX.get (n+1)=some ⟨c',false,[V.d (.int .i64 3),V.d (.str y.nm),V.d (.int .i64 y.t),V.d (.int .i64 y.r.k),V.d (.int .i64 y.r.o),V.d (.int .i64 y.r.t),V.d (.int .i64 y.r.v),V.d (.str y.r.nm),V.d (.slice (gC y.r.args)),V.d (.slice (eX y.outs)),V.d (.slice (gC y.args)),V.d (.slice (iL y.brs))]⟩:=by rw[eG];simp
   have tI:Ag n bB fX:=by rw[eG];simp[cY,cE]
   have mX:WI (v::dE (.mk pb ps)) n hp wl3 fX:=by rw[eG,iT];exact (d6.set (.inr (by omega))).set (.inr (by omega))
   have oM:EA o.en c pb ps v gv sj fX (n+2):=pX.mono tI (by omega)
   clear eG iT
   obtain ⟨q,lZ,hv,hn,rX,lY,lD,yH,mY,dD⟩:=(ih (by omega) b (by have:=gR zR;omega) (h4 b zR) ((xT _).1 ok4 b zR) sj sA fX (n+2) c3 oM).caller (by
    intro k hk
    rcases List.mem_cons.1 hk with rfl|hk
    ·exact oM.lv
    ·exact oM.mlt k hk)
   refine bN (j9 @aB @aA @aX @hx3 @hy3 @aZw @lC @hv @hn) ?_
   refine aY (by simp[-a9,c9];exact Is.rfl) ?_
   refine ⟨D - 1,by omega,j+1,_,_,_,_,by omega,rfl,hs2,?_,WI.trunc (mX.sets fun p bB=> .inl (lY p.1 (List.mem_map.2 ⟨p,bB,rfl⟩))) (by omega),?_,bK (by simp[dI,dL,c9]) rfl⟩
   ·rw[sE]
    refine pX.setA (aCE (mD N) _ b (Nat.lt_succ_self _) sj) (fun id h1 h2 h3=>?_) ?_ fun e he=>?_
    ·rw[Hp.get_trunc _ _ _ (by omega),lD id (by omega) (by simp[h2,h3]),tI id h1]
    ·rw[Hp.get_trunc _ _ _ (by omega),dD v (by omega) (by rw[mY.1];rfl)];exact mY.1
    ·have hfi:fit (.mk c (vN c (fC N) b sj).ms (vN c (fC N) b sj).sb) (.mk pb ps):=by rw[←dA,Trn.bare,aCE (mD N) _ b (Nat.lt_succ_self _) sj,←Trn.bare,dA];exact pX.li.fit
     have eU:=pX.mlt e.1 (by rw[←eB _ _ hfi];exact List.mem_map.2 ⟨e,he,rfl⟩)
     have h2:=mY.2 e he
     rw[Hp.get_trunc _ _ _ (by omega),dD _ (by omega) (by rw[h2];rfl)];exact h2
   ·rw[Hp.get_trunc _ _ _ (Nat.lt_succ_self n),lD n (by omega) fun h=>?_]
    ·exact hx3
    ·rcases List.mem_cons.1 h with h|h
     ·omega
     ·exact Nat.lt_irrefl _ (pX.mlt _ h)
  ·rw[if_neg (by omega),if_neg (by omega),if_neg (by omega),if_pos k] at sE
   obtain ⟨t,ht,hto,htc⟩:=yC sA.b h1
   simp only[ht] at sE
   have eU:mU c y.nm<c.ins.length:=by
    have h1:=aCF o _ _ sA.b
    have h2:=(List.getElem?_eq_some_iff.1 ht).1
    omega
   obtain ⟨q,hq,pR⟩:=pX.li.sub (i:=mU c y.nm) (u:=t) ht
   have hq:ps[mU c y.nm]?=some q:=hq
   have tG:=tV c.ins ps y.nm q eU hq
   obtain ⟨z,hz⟩:=aNs
   have yF:∀ (look:cA) (sz by_:Nat) (zr:Option (List V)),look pb.ii=some ⟨pb.gi,false,[fW eP (gT c ps)]⟩→gU look ⟨.str,sz,by_,zr⟩ (some z) (.mp pb.ii pb.gi) (.d (.str y.nm)) false=some ⟨.ptr q.a.x q.a.gx 0,[],[pb.ii],0,0,false⟩:=by
    intro look sz by_ zr h
    rw[iO eP (gT c ps) h]
    unfold gT
    rw[tG];rfl
   have hql:∀ k,k∈dE q→k∈v::dE (.mk pb ps):=fun k hk=>List.mem_cons_of_mem _ (by rw[dE];exact List.mem_cons_of_mem _ (jO ps _ q hq k hk))
   rw[←htc] at h2 h3 h4 h5
   have hi:=aCG hw sA.v sA.m cx bf y.args t.c.inn h4 h2
   have hth:t.ht≤N:=by
    have h1:=lM (List.mem_of_getElem? ht)
    have h2:=sA.h
    omega
   obtain ⟨g1,g2,g3,g4⟩:=aPq t _ hth hto hi
   have aWn:=aKn (a:=aIP pb v gv) (en:=o.en) (c:=c) (ms:=sj.ms) (vs:=sj.vs) (N:=M) (fun x a1 a2 a3=>aEc M (by omega) x a1 a2 a3) y.args (by omega) (aEJ y.args t.c.inn h4 h2) ok3 (by omega)
   obtain ⟨F,G,hr⟩:=aWn.fn pX.ra
   simp only[rV,aIP,dL] at hr
   refine bN (qJ @aB @aA @cV @bV @pW @aC @aE @aH @aI @k @aS @lS) ?_
   apply WP.gen3
   intro fX c3 wl3 eG iT
   have hx3:fX.get n=some ⟨cc,false,[.ptr pb.x pb.gx 0,.mp v gv]⟩:=by rw[eG];simp[lS]
   have hy3:fX.get (n+1)=some ⟨c',false,[V.d (.int .i64 4),V.d (.str y.nm),V.d (.int .i64 y.t),V.d (.int .i64 y.r.k),V.d (.int .i64 y.r.o),V.d (.int .i64 y.r.t),V.d (.int .i64 y.r.v),V.d (.str y.r.nm),V.d (.slice (gC y.r.args)),V.d (.slice (eX y.outs)),V.d (.slice (gC y.args)),V.d (.slice (iL y.brs))]⟩:=by rw[eG];simp
   have tI:Ag n bB fX:=by rw[eG];simp[cY,cE]
   have mX:WI (v::dE (.mk pb ps)) n hp wl3 fX:=by rw[eG,iT];exact (d6.set (.inr (by omega))).set (.inr (by omega))
   clear eG iT
   have gH:fX.get pb.x=_:=(tI _ pX.ob.1).trans kD
   have jZ:fX.get pb.ii=_:=(tI _ pX.io.1).trans hio
   have aNT:Lies o.en t q fX (n+2):=pR.mono tI (by omega)
   have dN:=eq_true tI
   obtain ⟨q4,lZ,hv,hn,rX,lY,lD,yH,mY,dD⟩:=(hS t q _ hth hto hi fX (n+2) (c3+(G fX (n+2) c3 - c3)) aNT).caller (by
    intro k hk
    exact aNT.mids_lt k hk)
   have hub:=mD N t (evL sj.vs sj.ms y.args)
   simp only[dL] at lZ hv
   generalize hST:fC N t (evL sj.vs sj.ms y.args)=ST at*
   obtain ⟨u,os⟩:=ST
   simp only at hv mY sE g1 g2 g3 g4 hub
   repeat (first
 | apply WP.seq
 | (apply WP.reg;(case hR=>dsimp only [eV,eA,List.map,gS,gZ];exact iZ);(case hr=>(repeat (first
 | (apply RT.op;simp[-a9,dI,dL,hx3,hy3,gH,jZ,yF,hz,hr,dN,nx,ni,hv,hn,aZ];exact iZ;(try dsimp only [a7]) <;> exact rfl)
 | (apply RT.call;(iterate 2 simp;exact iZ);exact iZ;(iterate 4 simp[-a9,dI,dL,hx3,hy3,gH,jZ,yF,hz,hr,dN,nx,ni,hv,hn,aZ];exact iZ);simp[Is];(try dsimp only [a7]) <;> exact rfl;simp;exact iZ;exact iZ)
 | (apply RT.callV;(iterate 2 simp;exact iZ);exact iZ;(iterate 3 simp[-a9,dI,dL,hx3,hy3,gH,jZ,yF,hz,hr,dN,nx,ni,hv,hn,aZ];exact iZ);(try dsimp only [a7]) <;> exact rfl)
 | (apply RT.callT (hd:=lZ) (hk:=rX);(iterate 2 simp;exact iZ);exact iZ;(iterate 2 simp[-a9,dI,dL,hx3,hy3,gH,jZ,yF,hz,hr,dN,nx,ni,hv,hn,aZ];exact iZ);(try dsimp only [a7]) <;> exact rfl)
 | (apply RT.wr;simp[-a9,dI,dL,hx3,hy3,gH,jZ,yF,hz,hr,dN,nx,ni,hv,hn,aZ];exact iZ;(try dsimp only [a7]) <;> exact rfl;simp[-a9,dI,dL,hx3,hy3,gH,jZ,yF,hz,hr,dN,nx,ni,hv,hn,aZ];exact iZ;(iterate 2 exact iZ);exact iZ)));exact RT.nil);(case hc=>first|(refine cW [(0,5),(1,5),(2,5),(3,5),(4,5),(0,6),(1,6),(2,6),(3,6),(4,6),(0,8),(1,8),(2,8),(3,8),(4,8),(5,8),(6,8),(7,8),(0,9),(1,9),(2,9),(3,9),(4,9),(5,9),(6,9),(7,9),(8,9),(0,10),(1,10),(2,10),(3,10),(4,10),(5,10),(6,10),(7,10),(8,10),(0,11),(1,11),(2,11),(3,11),(4,11),(5,11),(6,11),(7,11),(0,14),(1,14),(2,14),(3,14),(4,14),(5,14),(6,14),(7,14),(8,14),(9,14),(10,14),(11,14),(12,14),(13,14)] (by kernel_rfl) (by kernel_rfl) rfl ?_;simp[lO,jW,dX,nx,ni];done)|(show _=_;kernel_rfl));(case ht=>simp[-a9,dI,dL,hx3,hy3,gH,jZ,yF,hz,hr,dN,nx,ni,hv,hn,aZ];exact iZ))
 | apply WP.block|apply WP.skip|apply WP.exit|apply WP.ret|refine WP.condT rfl ?_|refine WP.condF rfl ?_)
   have hEs:EA o.en c pb ps v gv { sj with sb:=sj.sb.set (mU c y.nm) u } (fX.sets (sK q4 (n+2))) n:=by
    refine pX.setS ht hq hub (fun id h1 h2=>?_) fun e he=>?_
    ·rw[lD id (by omega) h2,tI id h1]
    ·have h6:=mY e he
     have hfi:fit u q:=by rw[←dA,hub,dA];exact pR.fit
     have eU:=pR.mids_lt e.1 (by rw[←eB _ _ hfi];exact List.mem_map.2 ⟨e,he,rfl⟩)
     rw[dD _ (by omega) (by rw[h6];rfl)];exact h6
   have hol:y.outs.length=os.length:=by rw[h3];exact g4.1.symm
   have hqn:n∉dE q∧n+1∉dE q:=⟨fun h=>by have:=pR.mids_lt _ h;omega,fun h=>by have:=pR.mids_lt _ h;omega⟩
   have hou:y.outs.length≤8388608:=by have:=oU y.outs;omega
   apply WP.loop' (I:=fun D2 st=>∃ (i c5:Nat) (wl5:List Nat) (jQ:Hp),i+D2=os.length∧EA o.en c pb ps v gv { sj with vs:=puts sj.vs ((y.outs.zip os).take i),sb:=sj.sb.set (mU c y.nm) u } jQ n∧WI (v::dE (.mk pb ps)) n hp wl5 jQ∧
    jQ.get n=some ⟨cc,false,[.ptr pb.x pb.gx 0,.mp v gv]⟩∧jQ.get (n+1)=some ⟨c',false,[V.d (.int .i64 4),V.d (.str y.nm),V.d (.int .i64 y.t),V.d (.int .i64 y.r.k),V.d (.int .i64 y.r.o),V.d (.int .i64 y.r.t),V.d (.int .i64 y.r.v),V.d (.str y.r.nm),V.d (.slice (gC y.r.args)),V.d (.slice (eX y.outs)),V.d (.slice (gC y.args)),V.d (.slice (iL y.brs))]⟩∧st=⟨[(2,.ptr n cc 0),(5,.ptr (n+1) c' 0),(9,dL (dM l)),(10,dI l.length),(11,dI j),(77,dL (bQ os)),(78,dI os.length),(79,dI i)],jQ,n+2,c5,n,wl5⟩) (d:=os.length)
   ·exact ⟨0,_,_,_,by simp,by simpa [puts] using hEs,mX.sets fun p bB=> .inl (hql _ (lY p.1 (List.mem_map.2 ⟨p,bB,rfl⟩))),by rw[lD n (by omega) hqn.1];exact hx3,by rw[lD (n+1) (by omega) hqn.2];exact hy3,bK (by simp[dI,dL]) rfl⟩
   rintro D2 _ ⟨i,c5,wl5,jQ,hi5,hE5,aCw,lP,hy5,rfl⟩
   refine iX (j3 @aB @aA @aZ) ?_
   show WP _ _ _ _ _ _
   refine WP.cond _ rfl (fun hb=>?_) (fun hb=>?_)
   ·simp at hb
    have hb5:i<os.length:=by omega
    obtain ⟨d5,hd5,bAg,aEu⟩:=bM hb5
    have aZx:=cP hd5
    obtain ⟨e5,he5,bAh,aZy⟩:=bM (show i<y.outs.length by omega)
    have aZz:=sW he5
    have aWo:=bE hb5 (by omega)
    have aWp:=hE5.va
    have hzs:(y.outs.zip os).take (i+1)=(y.outs.zip os).take i++[(e5,d5)]:=bL (by rw[List.getElem?_zip_eq_some];exact ⟨he5,hd5⟩)
    simp only at aWp
    have nX:=fun (look:cA) (sz by_:Nat) (zr:Option (List V)) (h:look v=some ⟨gv,false,[fW eI (puts sj.vs ((y.outs.zip os).take i))]⟩)=>iM eI (puts sj.vs ((y.outs.zip os).take i)) d5 (w:= .d (.int .i64 d5)) (sz:=sz) (by_:=by_) (zr:=zr) (x:=e5) rfl h
    refine bN (vM @aB @aA @aZ @aW @lP @hy5 @aEu @aZx @aZy @aZz @aWp @lv1 @lv2 @nX) ?_
    refine aY (by simp[-a9,aWo];exact Is.rfl) ?_
    have d6:=aCw
    refine ⟨D2 - 1,by omega,i+1,_,_,_,by omega,?_,(by repeat' (first|exact d6|(refine WI.trunc ?_ (by omega))|(refine WI.set ?_ (.inr (by omega)))|(refine WI.set ?_ (.inl (by simp[dE]))))),by simp[lP,hnv],by simp[hy5,aZu],bK (by simp[dI,dL,aWo]) rfl⟩
    rw[hzs,fQ]
    refine hE5.setV fun id c8=>?_
    have e2:(id<n+2)=True:=eq_true (by omega)
    by_cases hq:v=id
    ·subst hq;simp[e2,lv2]
    ·simp[e2,hq,Ne.symm hq]
   simp at hb
   have bAi:i=os.length:=by omega
   have hzt:(y.outs.zip os).take i=y.outs.zip os:=List.take_of_length_le (by simp;omega)
   rw[hzt] at hE5
   refine bN (jn @aB @aA) ?_
   refine aY (by simp[-a9,c9];exact Is.rfl) ?_
   have d6:=aCw
   refine ⟨D - 1,by omega,j+1,_,_,_,_,by omega,rfl,hs2,?_,(by repeat' (first|exact d6|(refine WI.trunc ?_ (by omega))|(refine WI.set ?_ (.inr (by omega)))|(refine WI.set ?_ (.inl (by simp[dE]))))),by simp[lP],bK (by simp[dI,dL,c9]) rfl⟩
   rw[sE]
   exact hE5.mono (by simp[cN,cE]) (Nat.le_refl n)
  ·rw[if_neg (by omega),if_neg (by omega),if_neg (by omega),if_neg (by omega)] at sE
   obtain ⟨t,ht,hto,htc⟩:=yC sA.b h1
   simp only[ht] at sE
   have eU:mU c y.nm<c.ins.length:=by
    have h1:=aCF o _ _ sA.b
    have h2:=(List.getElem?_eq_some_iff.1 ht).1
    omega
   obtain ⟨q,hq,pR⟩:=pX.li.sub (i:=mU c y.nm) (u:=t) ht
   have hq:ps[mU c y.nm]?=some q:=hq
   have tG:=tV c.ins ps y.nm q eU hq
   obtain ⟨z,hz⟩:=aNs
   have yF:∀ (look:cA) (sz by_:Nat) (zr:Option (List V)),look pb.ii=some ⟨pb.gi,false,[fW eP (gT c ps)]⟩→gU look ⟨.str,sz,by_,zr⟩ (some z) (.mp pb.ii pb.gi) (.d (.str y.nm)) false=some ⟨.ptr q.a.x q.a.gx 0,[],[pb.ii],0,0,false⟩:=by
    intro look sz by_ zr h
    rw[iO eP (gT c ps) h]
    unfold gT
    rw[tG];rfl
   have hql:∀ k,k∈dE q→k∈v::dE (.mk pb ps):=fun k hk=>List.mem_cons_of_mem _ (by rw[dE];exact List.mem_cons_of_mem _ (jO ps _ q hq k hk))
   refine bN (qJ @aB @aA @cV @bV @pW @aC @aE @aH @aI @k @aS @lS) ?_
   apply WP.gen3
   intro fX c3 wl3 eG iT
   have hx3:fX.get n=some ⟨cc,false,[.ptr pb.x pb.gx 0,.mp v gv]⟩:=by rw[eG];simp[lS]
   have hy3:fX.get (n+1)=some ⟨c',false,[V.d (.int .i64 5),V.d (.str y.nm),V.d (.int .i64 y.t),V.d (.int .i64 y.r.k),V.d (.int .i64 y.r.o),V.d (.int .i64 y.r.t),V.d (.int .i64 y.r.v),V.d (.str y.r.nm),V.d (.slice (gC y.r.args)),V.d (.slice (eX y.outs)),V.d (.slice (gC y.args)),V.d (.slice (iL y.brs))]⟩:=by rw[eG];simp
   have tI:Ag n bB fX:=by rw[eG];simp[cY,cE]
   have mX:WI (v::dE (.mk pb ps)) n hp wl3 fX:=by rw[eG,iT];exact (d6.set (.inr (by omega))).set (.inr (by omega))
   clear eG iT
   have gH:fX.get pb.x=_:=(tI _ pX.ob.1).trans kD
   have jZ:fX.get pb.ii=_:=(tI _ pX.io.1).trans hio
   have aNT:Lies o.en t q fX (n+2):=pR.mono tI (by omega)
   obtain ⟨r,lZ,hrv,hrn,hrw,hrf,hrm⟩:=aKR hL o.en _ t q (Nat.lt_succ_self _) hto fX (n+2) c3 aNT
   have rX:∀ k,k∈(sK r (n+2)).map (·.1)→k<n+2+(r.n - (n+2)):=by
    intro k hk
    obtain ⟨h1,h2⟩:=(aCL hrn).1 hk
    have:=aNT.mids_lt k (jE t q k ((hrw k).1 h1))
    omega
   refine bN (u7 @aB @aA @hx3 @hy3 @gH @jZ @yF @hz @hrn @nx @ni) ?_
   refine aY (by simp[-a9,c9];exact Is.rfl) ?_
   refine ⟨D - 1,by omega,j+1,_,_,_,_,by omega,rfl,hs2,?_,WI.trunc (mX.sets fun p bB=> .inl (hql _ (jE t q _ ((hrw _).1 ((aCL hrn).1 (List.mem_map.2 ⟨p,bB,rfl⟩)).1)))) (by omega),?_,bK (by simp[dI,dL,c9]) rfl⟩
   ·rw[sE]
    refine pX.setS ht hq (lE t) (fun id h1 h2=>?_) fun e he=>?_
    ·rw[Hp.get_trunc _ _ _ (by omega),aCB hrn,if_neg fun h=>h2 (jE t q _ ((hrw _).1 h.1)),tI id h1]
    ·have hfi:fit t.init q:=by rw[←dA,lE,dA];exact pR.fit
     have eU:=pR.mids_lt e.1 (by rw[←eB _ _ hfi];exact List.mem_map.2 ⟨e,he,rfl⟩)
     have h2:=hrm e he
     rw[Hp.get_trunc _ _ _ (by omega),aCB hrn]
     split
     ·exact h2
     ·rename_i hw3
      rw[←hrf _ (by omega) fun hw4=>hw3 ⟨(hrw _).2 hw4,by rw[h2];rfl⟩];exact h2
   ·rw[Hp.get_trunc _ _ _ (Nat.lt_succ_self n),aCB hrn,if_neg fun h=>?_]
    ·exact hx3
    ·exact Nat.lt_irrefl _ (pR.mids_lt _ (jE t q _ ((hrw _).1 h.1)))
 ·simp at hb
  have eE:j=l.length:=by omega
  rw[eE,List.take_length] at hsj
  refine bN (jn @aB @aA) ?_
  refine ⟨.inl rfl,[],[],rfl,rfl,rfl,d6,?_,fun e he=>?_⟩
  ·rw[Hp.get_trunc _ _ _ pX.lv,←hsj];exact pX.va
  ·rw[←hsj] at he
   obtain ⟨h1,h2⟩:=pX.li.me e he
   rw[Hp.get_trunc _ _ _ h1];exact h2
end
end Go.Ac
end
section
set_option maxRecDepth 4000
namespace Go.Ac
open Go.Proofs
attribute [local simp] Hp.get_set cY cE cN bW
structure OW (o:Oc):Prop where
 wf:∀ c,c∈o.cl→CWf o c
 len:∀ c,c∈o.cl→CLen c
 ok:∀ c,c∈o.cl→c.ok
 sz:∀ c,c∈o.cl→iG c.step≤8388600
theorem Lies.sids_lt {en:List En} {t:Trn} {p:Pt} {hp:Hp} {n:Nat} (h:Lies en t p hp n):∀ k,k∈lT p→k<n:=fun k hk=>by
 rw[←qZ en t p h.fit] at hk
 obtain ⟨q,hq,rfl⟩:=List.mem_map.1 hk
 exact (h.st q hq).1
theorem aWZ (r:Nat):Ob.keep 37 r=Ob.k37 r:=by kernel_rfl
attribute [local simp] aWZ Ob.k37
set_option maxHeartbeats 8000000 in
theorem aQk {o:Oc} (hO:OW o):∀ N,aMT o N:=by
 intro N
 induction N with
 | zero=>intro t p ins h;cases t;rw[Trn.ht] at h;omega
 | succ N ih=>
 intro t p ins hht cC hi hp n cc hK
 obtain ⟨c,ms,sb⟩:=t
 obtain ⟨pb,ps⟩:=p
 have aNU:=tO hO.wf (N+1) _ ins hht cC hi
 rw[fC] at aNU ⊢
 rw[Trn.ok] at cC
 rw[Trn.ht] at hht
 have hi1:ins.length=c.inn.length:=hi.1
 have hc:=cC.1
 have hcw:=hO.wf c hc
 have gI:=(hO.len c hc).sum
 have gK:=hO.sz c hc
 have hxo:=hK.st (pb.x,oO pb.gx o.en c pb.im pb.gm pb.ii pb.gi) (by rw[yI];simp)
 obtain ⟨lx,kD⟩:=hxo
 simp only[oO] at lx kD
 have nx:=nf lx
 show yL Tryz.prog Ob.cfg 37 [.ptr pb.x pb.gx 0,dL (bQ ins)] hp n cc _ _ _
 generalize hs':vN c (fC N) c.step ⟨puts [] ((c.inn.map Dc.nm).zip ins),ms,sb⟩=s' at aNU ⊢
 refine oP Tryz.func37 rfl (by kernel_rfl) rfl ?_
 refine bN (u7 @aN @aO @aB @aA @aH @aI @rH.eq_1 @Value.oneCell'.eq_def @kD @nx @bT) ?_
 have hvs:n∉lT (.mk pb ps):=fun h=>by have:=hK.sids_lt _ h;omega
 have hvm:n∉dE (.mk pb ps):=fun h=>by have:=hK.mids_lt _ h;omega
 apply WP.loop' (I:=fun D st=>∃ (i c':Nat) (wl:List Nat) (bB:Hp),i+D=c.inn.length∧EA o.en c pb ps n cc ⟨puts [] (((c.inn.map Dc.nm).zip ins).take i),ms,sb⟩ bB (n+2)∧WI (dE (.mk pb ps)) n hp wl bB∧bB.get (n+1)=some ⟨cc+1,false,[.ptr pb.x pb.gx 0,.mp n cc]⟩∧
  st=⟨[(0,.ptr pb.x pb.gx 0),(1,dL (bQ ins)),(5,.ptr (n+1) (cc+1) 0),(18,dL (cM c.inn)),(19,dI c.inn.length),(20,dI i)],bB,n+2,c',n,wl⟩) (d:=c.inn.length)
 ·refine ⟨0,_,_,_,by simp,⟨hK.mono (by simp[cY,cE]) (by omega),by simp[puts,fW],by omega,hvs,hvm⟩,((WI.refl.set (.inr (by omega))).set (.inr (by omega))).set (.inr (by omega)),by simp,bK (by simp[dI,dL]) rfl⟩
 rintro D _ ⟨i,c',wl,bB,hii,hE,d6,jI,rfl⟩
 refine iX (jn @aB @aA) ?_
 show WP _ _ _ _ _ _
 refine WP.cond _ rfl (fun hb=>?_) (fun hb=>?_)
 ·simp at hb
  have bP:i<c.inn.length:=by omega
  obtain ⟨d,hd,d8,bV⟩:=bM bP
  have cG:=eD hd
  obtain ⟨w,hw,hwm,vZ⟩:=bM (show i<ins.length by omega)
  have wA:=cP hw
  have c9:=bE bP (by omega)
  have hva:=hE.va
  simp only at hva
  have hzs:((c.inn.map Dc.nm).zip ins).take (i+1)=((c.inn.map Dc.nm).zip ins).take i++[(d.nm,w)]:=bL (by rw[List.getElem?_zip_eq_some];exact ⟨by simp[hd],hw⟩)
  have nX:=fun (look:cA) (sz by_:Nat) (zr:Option (List V)) (h:look n=some ⟨cc,false,[fW eI (puts [] (((c.inn.map Dc.nm).zip ins).take i))]⟩)=>iM eI (puts [] (((c.inn.map Dc.nm).zip ins).take i)) w (w:= .d (.int .i64 w)) (sz:=sz) (by_:=by_) (zr:=zr) (x:=d.nm) rfl h
  refine bN (o9 @aB @aA @bV @cG @aR @aH @aI @vZ @wA @aZ @jI @hva @nX) ?_
  refine aY (by simp[-a9,c9];exact Is.rfl) ?_
  refine ⟨D - 1,by omega,i+1,_,_,_,by omega,?_,(by repeat' (first|exact d6|(refine WI.trunc ?_ (by omega))|(refine WI.set ?_ (.inr (by omega))))),by simp[jI],bK (by simp[dI,dL,c9]) rfl⟩
  rw[hzs,fQ]
  refine hE.setV fun id c8=>?_
  have e1:(n+2=id)=False:=eq_false (by omega)
  by_cases hq:n=id
  ·subst hq;simp
  ·simp[c8,e1,hq,Ne.symm hq]
 simp at hb
 have kP:i=c.inn.length:=by omega
 have hzt:((c.inn.map Dc.nm).zip ins).take i=(c.inn.map Dc.nm).zip ins:=List.take_of_length_le (by simp;omega)
 rw[hzt] at hE
 refine bN (jn @aB @aA) ?_
 apply WP.gen3
 intro fX c3 wl3 eG iT
 have hx3:fX.get (n+1)=some ⟨cc+1,false,[.ptr pb.x pb.gx 0,.mp n cc]⟩:=by rw[eG];exact jI
 have oM:EA o.en c pb ps n cc ⟨puts [] ((c.inn.map Dc.nm).zip ins),ms,sb⟩ fX (n+2):=by rw[eG];exact hE
 have mX:WI (dE (.mk pb ps)) n hp wl3 fX:=by rw[eG,iT];exact d6
 clear eG iT
 have gH:=oM.ob.2
 simp only[oO] at gH
 obtain ⟨q,lZ,hv,hn,rX,lY,lD,yH,mY,dD⟩:=(aQa (h0:=htL sb) hO.wf hO.len hc ih (by omega) 8388609 (Nat.le_refl _) c.step (by omega) hcw.step (hO.ok c hc).step _ ⟨zW hO.wf hcw hi,cC.2.1,cC.2.2,rfl⟩ fX (n+2) c3 oM).caller (by
  intro k hk
  rcases List.mem_cons.1 hk with rfl|hk
  ·omega
  ·have:=hK.mids_lt k hk;omega)
 have hbr:=aCE (c:=c) (mD N) _ c.step (Nat.lt_succ_self _) ⟨puts [] ((c.inn.map Dc.nm).zip ins),ms,sb⟩
 rw[hs'] at mY hbr
 have hbr:e8 s'.sb=e8 sb:=hbr
 have lC:Trn.bare (.mk c s'.ms s'.sb)=Trn.bare (.mk c ms sb):=by rw[Trn.bare,Trn.bare,hbr]
 have hE4:EA o.en c pb ps n cc s' (fX.sets (sK q (n+2))) (n+2):=by
  refine oM.setA hbr (fun id h1 h2 h3=>lD id (by omega) (by simp[h2,h3])) ?_ fun e he=>?_
  ·rw[dD n (by omega) (by rw[mY.1];rfl)];exact mY.1
  ·have hfi:fit (.mk c s'.ms s'.sb) (.mk pb ps):=by rw[←dA,lC,dA];exact hK.fit
   have eU:=hK.mids_lt e.1 (by rw[←eB _ _ hfi];exact List.mem_map.2 ⟨e,he,rfl⟩)
   have h2:=mY.2 e he
   rw[dD _ (by omega) (by rw[h2];rfl)];exact h2
 have aCx:WI (dE (.mk pb ps)) n hp (a9 n wl3 (sK q (n+2))) (fX.sets (sK q (n+2))):=mX.sets fun p bB=>by
  rcases List.mem_cons.1 (lY p.1 (List.mem_map.2 ⟨p,bB,rfl⟩)) with h|h
  ·exact .inr (by omega)
  ·exact .inl h
 have hx4:(fX.sets (sK q (n+2))).get (n+1)=some ⟨cc+1,false,[.ptr pb.x pb.gx 0,.mp n cc]⟩:=by
  rw[lD (n+1) (by omega) fun h=>?_]
  ·exact hx3
  ·rcases List.mem_cons.1 h with h|h
   ·omega
   ·have:=hK.mids_lt _ h;omega
 have aRY:=hE4.ob.2
 simp only[oO] at aRY
 refine bN (oR @aB @aA @hx3 @gH @aRY @hv @hn @aH @aI @nx) ?_
 apply WP.loop' (I:=fun D st=>∃ (j g c5:Nat) (wl5:List Nat) (jQ:Hp) (L:List Int),j+D=c.out.length∧L=(c.out.take j).map (fun d=>gz s'.vs d.nm)∧EA o.en c pb ps n cc s' jQ (n+2)∧WI (dE (.mk pb ps)) n hp wl5 jQ∧jQ.get (n+1)=some ⟨cc+1,false,[.ptr pb.x pb.gx 0,.mp n cc]⟩∧jQ.get (n+2)=some ⟨g,false,fl (bQ L)⟩∧
  st=⟨[(5,.ptr (n+1) (cc+1) 0),(8,.osl (n+2) g 0 j 1 none),(45,dL (cM c.out)),(46,dI c.out.length),(47,dI j)],jQ,n+3,c5,n,wl5⟩) (d:=c.out.length)
 ·exact ⟨0,_,_,_,_,[],by simp,by simp,hE4.mono (by simp[cY,cE]) (Nat.le_refl _),⟨aCx.1,fun k h1 h2=>by rw[Hp.get_set_ne _ _ _ _ (by omega)];exact aCx.2 k h1 h2⟩,by simp[hx4],by simp[fl,bQ];rfl,bK (by simp[dI,dL]) rfl⟩
 clear hE4 aCx hx4 aRY oM mX hx3 gH lZ rX lY lD yH mY dD hv hn hE d6 jI
 rintro D _ ⟨j,g,c5,wl5,jQ,L,hj,hL,hE,d6,jI,n8,rfl⟩
 refine iX (jn @aB @aA) ?_
 show WP _ _ _ _ _ _
 refine WP.cond _ rfl (fun hb=>?_) (fun hb=>?_)
 ·simp at hb
  have bP:j<c.out.length:=by omega
  obtain ⟨d,hd,d8,bV⟩:=bM bP
  have cG:=eD hd
  have c9:=bE bP (by omega)
  have y6:=bL hd
  have nT:L.length=j:=by rw[hL];simp;omega
  have hLs:(c.out.take (j+1)).map (fun d=>gz s'.vs d.nm)=L++[gz s'.vs d.nm]:=by rw[y6,hL];simp
  have r2:=cR (b7 L)
  have r3:=cI (b7 L)
  have r4:=dT (bQ L) [.int .i64 (gz s'.vs d.nm)]
  have r5:=g7 L (gz s'.vs d.nm)
  have f5:bU (j+1) 8=true:=by simp[bU];omega
  rw[r5] at r4
  rw[aZ,nT,Nat.mul_one] at r2 r3
  simp only[List.map_cons,List.map_nil] at r4
  have hva:=hE.va
  have vT:=fun (look:cA) (sz by_:Nat) (zr:Option (List V)) (h:look n=some ⟨cc,false,[fW eI s'.vs]⟩)=>aAE s'.vs (sz:=sz) (by_:=by_) (zr:=zr) (x:=d.nm) h
  refine bN (j22 @aB @aA @bV @cG @aR @aH @aI @jI @n8 @hva @vT @zt3 @aP @aQ @iE.eq_def @bG @b8 @bH @f5 @r2 @r3 @r4) ?_
  refine aY (by simp[-a9,c9];exact Is.rfl) ?_
  refine ⟨D - 1,by omega,j+1,_,_,_,_,_,by omega,hLs.symm,hE.mono (by simp[cY,cE,cN]) (Nat.le_refl _),(by repeat' (first|exact d6|(refine WI.trunc ?_ (by omega))|(refine WI.set ?_ (.inr (by omega))))),by simp[jI],by simp;rfl,bK (by simp[dI,dL,c9]) rfl⟩
 ·simp at hb
  have eE:j=c.out.length:=by omega
  rw[eE,List.take_length] at hL
  have nT:L.length=j:=by rw[hL,eE];simp
  refine bN (jn @aB @aA) ?_
  have gI:=jA (look:=jQ.get) (id:=n+2) (g:=g) (ro:=false) (cap:=none) (b7 L) n8
  rw[aZ,nT] at gI
  refine ⟨.inr rfl,_,[n+2],rfl,?_,by simp[Nat.ble_eq],d6,fun e he=>?_⟩
  ·show d7 jQ.get (.osl (n+2) g 0 j 1 none)=_
   rw[gI,hL]
  ·obtain ⟨h1,h2⟩:=hE.li.me e he
   have hfi:fit (.mk c s'.ms s'.sb) (.mk pb ps):=by rw[←dA,lC,dA];exact hK.fit
   have eU:=hK.mids_lt e.1 (by rw[←eB _ _ hfi];exact List.mem_map.2 ⟨e,he,rfl⟩)
   show (Hp.trunc n jQ).get e.1=_
   rw[Hp.get_trunc _ _ _ eU];exact h2
end Go.Ac
end
section
set_option maxRecDepth 4000
namespace Go.Ac
open Go.Proofs
attribute [local simp] Hp.get_set cY cE cN bW
def okI (en:List En) (l:List Dc) (vs:List Int):Bool:=(l.zip vs).all fun p=>gB en p.1.t p.2
def kK (en:List En) (t:Trn) (ins:List Int):Trn×List Int×Int:=
 if ins.length≠t.c.inn.length then (t,[],9) else if okI en t.c.inn ins=false then (t,[],14) else ((fC t.ht t ins).1,(fC t.ht t ins).2,0)
theorem aIv {en:List En} {l:List Dc} {vs:List Int} (hl:vs.length=l.length) (h:okI en l vs=true):aAf en l vs:=by
 refine ⟨hl,fun i d v h1 h2=>?_⟩
 have hz:(l.zip vs)[i]?=some (d,v):=by rw[List.getElem?_zip_eq_some];exact ⟨h1,h2⟩
 exact List.all_eq_true.1 h _ (List.mem_of_getElem? hz)
theorem aTs (r:Nat):Ob.keep 14 r=Ob.k14 r:=by kernel_rfl
attribute [local simp] aTs Ob.k14
set_option maxHeartbeats 8000000 in
theorem aQp {o:Oc} (hO:OW o) (t:Trn) (p:Pt) (ins:List Int) (cC:t.ok o) (wB:ins.length≤4611686018427387904) (hp:Hp) (n cc:Nat) (hK:Lies o.en t p hp n):
  yL Tryz.prog Ob.cfg 14 [.ptr p.a.x p.a.gx 0,dL (bQ ins)] hp n cc (.tuple [dL (bQ (kK o.en t ins).2.1),dI (kK o.en t ins).2.2]) (dE p) (fun bB=>∀ e,e∈oF (kK o.en t ins).1 p→bB.get e.1=some e.2):=by
 have hc:t.c∈o.cl:=((Trn.ok_eq o t).1 cC).1
 have gI:=(hO.len _ hc).sum
 have aEt:=hO.ok _ hc
 have hxo:=hK.st (p.a.x,oO p.a.gx o.en t.c p.a.im p.a.gm p.a.ii p.a.gi) (by cases t;cases p;rw[yI];simp[Trn.c,Pt.a])
 obtain ⟨lx,kD⟩:=hxo
 simp only[oO] at lx kD
 have nx:=nf lx
 have hme:∀ e,e∈oF t p→hp.get e.1=some e.2:=fun e he=>(hK.me e he).2
 have hmt:∀ e,e∈oF t p→e.1<n:=fun e he=>(hK.me e he).1
 unfold kK
 refine oP Tryz.func14 rfl (by kernel_rfl) rfl ?_
 by_cases q1:ins.length=t.c.inn.length
 case neg=>
  rw[if_pos q1]
  have q1':=eq_false (show ¬ (ins.length:Int)=t.c.inn.length by omega)
  refine bN (qJ @aN @aO @aB @aA @aH @aI @kD @nx @aZ @bT @aV @q1') ?_
  exact ⟨.inr rfl,_,[],rfl,rfl,rfl,WI.refl,fun e he=>by rw[Hp.get_trunc _ _ _ (hmt e he)];exact hme e he⟩
 rw[if_neg (fun h=>h q1)]
 have q1':=eq_true (show (ins.length:Int)=t.c.inn.length by omega)
 refine bN (qJ @aN @aO @aB @aA @aH @aI @kD @nx @aZ @bT @aV @q1') ?_
 apply WP.loop' (I:=fun D st=>∃ (i c':Nat) (wl:List Nat) (bB:Hp),i+D=t.c.inn.length∧((t.c.inn.zip ins).take i).all (fun e=>gB o.en e.1.t e.2)=true∧WI (dE p) n hp wl bB∧Ag n hp bB∧
  st=⟨[(0,.ptr p.a.x p.a.gx 0),(1,dL (bQ ins)),(25,dL (cM t.c.inn)),(26,dI t.c.inn.length),(27,dI i)],bB,n,c',n,wl⟩) (d:=t.c.inn.length)
 ·exact ⟨0,_,_,_,by simp,by simp,WI.refl,Ag.refl n hp,bK (by simp[dI,dL]) rfl⟩
 rintro D _ ⟨i,c',wl,bB,hi,cF,d6,dW,rfl⟩
 have fN:=(dW _ lx).trans kD
 have dN:=eq_true dW
 refine iX (jn @aB @aA) ?_
 show WP _ _ _ _ _ _
 refine WP.cond _ rfl (fun hb=>?_) (fun hb=>?_)
 ·simp at hb
  have bP:i<t.c.inn.length:=by omega
  obtain ⟨d,hd,d8,bV⟩:=bM bP
  have cG:=eD hd
  obtain ⟨w,hw,hwm,vZ⟩:=bM (show i<ins.length by omega)
  have wA:=cP hw
  have c9:=bE bP (by omega)
  have hzd:(t.c.inn.zip ins)[i]?=some (d,w):=by rw[List.getElem?_zip_eq_some];exact ⟨hd,hw⟩
  have hh:=aKC o.en d.t w ((aEt.inn d d8).1)
  simp only[dL,dI,dB] at hh
  have hs:=bZ (p:=fun e:Dc×Int=>gB o.en e.1.t e.2) hzd
  cases hz:gB o.en d.t w with
  | true=>
   rw[hz] at hh
   refine bN (o9 @aB @aA @bV @cG @aR @aH @aI @vZ @wA @aZ @fN @nx @hh) ?_
   refine aY (by simp[-a9,c9];exact Is.rfl) ?_
   exact ⟨D - 1,by omega,i+1,_,_,_,by omega,by rw[hs,cF,hz];rfl,(by repeat' (first|exact d6|(refine WI.trunc ?_ (by omega))|(refine WI.set ?_ (.inr (by omega))))),by simp[dW],bK (by simp[dI,dL,c9]) rfl⟩
  | false=>
   rw[hz] at hh
   have hk:okI o.en t.c.inn ins=false:=by
    unfold okI
    cases ha:(t.c.inn.zip ins).all (fun p=>gB o.en p.1.t p.2) with
    | false=>rfl
    | true=>
     have:=List.all_eq_true.1 ha _ (List.mem_of_getElem? hzd)
     simp only at this
     rw[hz] at this;cases this
   rw[if_pos hk]
   refine bN (o9 @aB @aA @bV @cG @aR @aH @aI @vZ @wA @aZ @fN @nx @hh) ?_
   refine ⟨.inr rfl,_,[],rfl,rfl,rfl,(by repeat' (first|exact d6|(refine WI.trunc ?_ (by omega))|(refine WI.set ?_ (.inr (by omega))))),fun e he=>?_⟩
   have eU:=hmt e he
   have h2:=(dW _ eU).trans (hme e he)
   have e1:(n=e.1)=False:=eq_false (by omega)
   have e3:(e.1<n)=True:=eq_true eU
   simp[e1,e3,h2]
 simp at hb
 have kP:i=t.c.inn.length:=by omega
 have hk:okI o.en t.c.inn ins=true:=by
  have hzt:(t.c.inn.zip ins).take i=t.c.inn.zip ins:=List.take_of_length_le (by simp;omega)
  rw[hzt] at cF;exact cF
 rw[if_neg (by simp[hk])]
 refine bN (jn @aB @aA) ?_
 apply WP.gen3
 intro fX c3 wl3 eG iT
 have tI:Ag n hp fX:=by rw[eG];exact dW
 have mX:WI (dE p) n hp wl3 fX:=by rw[eG,iT];exact d6
 clear eG iT
 obtain ⟨q,lZ,hv,hn,rX,lY,lD,yH,mY,dD⟩:=(aQk hO t.ht t p ins (Nat.le_refl _) cC (aIv q1 hk) fX n c3 (hK.mono tI (Nat.le_refl n))).caller (fun k h=>hK.mids_lt k h)
 simp only[dL] at lZ hv
 refine bN (j4 @aB @aA @hv @hn) ?_
 refine ⟨.inr rfl,_,[],rfl,rfl,rfl,mX.sets fun x hx=> .inl (lY x.1 (List.mem_map.2 ⟨x,hx,rfl⟩)),fun e he=>?_⟩
 have hfi:fit (fC t.ht t ins).1 p:=by rw[←dA,mD,dA];exact hK.fit
 have eU:=hK.mids_lt e.1 (by rw[←eB _ _ hfi];exact List.mem_map.2 ⟨e,he,rfl⟩)
 have h2:=mY e he
 rw[Hp.get_trunc _ _ _ eU,dD _ eU (by rw[h2];rfl)];exact h2
end Go.Ac
end
section
set_option maxRecDepth 4000
namespace Go.Ac
open Go.Proofs
attribute [local simp] Hp.get_set cY cE cN bW
mutual
def mS:Trn→List Int
 | .mk c ms sb=>c.mems.map (fun d=>gz ms d.nm)++oY sb
def oY:List Trn→List Int
 | []=>[]
 | t::r=>mS t++oY r
end
theorem aBK:∀ (l:List Trn) (i:Nat) (t:Trn),l[i]?=some t→oY (l.take (i+1))=oY (l.take i)++mS t
 | [],i,t,h=>by simp at h
 | x::r,0,t,h=>by simp at h;subst h;simp[oY]
 | x::r,i+1,t,h=>by
  rw[List.take_succ_cons,List.take_succ_cons,oY,oY,aBK r i t (by simpa using h),List.append_assoc]
theorem aFY:∀ (l:List Trn) (i:Nat),(oY (l.take i)).length≤(oY l).length
 | [],i=>by simp
 | x::r,0=>by simp[oY]
 | x::r,i+1=>by rw[List.take_succ_cons,oY,oY,List.length_append,List.length_append];have:=aFY r i;omega
theorem z6:∀ (l:List Ii) (i:Nat) (d:Ii),(l.map Ii.nm).Nodup→l[i]?=some d→l.findIdx (fun e=>decide (e.nm=d.nm))=i
 | [],i,d,_,h=>by simp at h
 | x::r,0,d,_,h=>by simp at h;subst h;rw[List.findIdx_cons];simp
 | x::r,i+1,d,hn,h=>by
  rw[List.map_cons,List.nodup_cons] at hn
  have h':r[i]?=some d:=by simpa using h
  have hne:x.nm≠d.nm:=fun e=>hn.1 (List.mem_map.2 ⟨d,List.mem_of_getElem? h',e.symm⟩)
  rw[List.findIdx_cons,decide_eq_false hne,cond_false,z6 r i d hn.2 h']
theorem aAb (look:cA) (l:List Int):iU look 1 (.d (.slice (bQ l)))=some (l.length,fl (bQ l),[]):=by
 have h:(bQ l).all (fun r=>Nat.beq r.length 1)=true:=by
  rw[List.all_eq_true];intro r hr;rw[b7 l r hr];rfl
 unfold iU
 simp only[h,aZ]
 rfl
theorem sM (a b:List Int):fl (bQ a)++fl (bQ b)=fl (bQ (a++b)):=by unfold fl bQ;simp
theorem aTO (r:Nat):Ob.keep 21 r=Ob.k21 r:=by kernel_rfl
attribute [local simp] aTO Ob.k21
set_option maxHeartbeats 8000000 in
theorem aMf {o:Oc} (hO:OW o):∀ (N:Nat) (t:Trn) (p:Pt),t.ht<N→t.ok o→(mS t).length≤17592186044416→∀ hp n cc,Lies o.en t p hp n→jL Tryz.prog Ob.cfg 21 [.ptr p.a.x p.a.gx 0] hp n cc (dL (bQ (mS t))):=by
 intro N
 induction N with
 | zero=>intro t p h;omega
 | succ N ih=>
 intro t p hht cC hml hp n cc hK
 obtain ⟨c,ms,sb⟩:=t
 obtain ⟨pb,ps⟩:=p
 rw[Trn.ok] at cC
 rw[Trn.ht] at hht
 rw[mS] at hml ⊢
 rw[List.length_append,List.length_map] at hml
 have hc:=cC.1
 have gI:=(hO.len c hc).sum
 have hxo:=hK.st (pb.x,oO pb.gx o.en c pb.im pb.gm pb.ii pb.gi) (by rw[yI];simp)
 obtain ⟨lx,kD⟩:=hxo
 simp only[oO] at lx kD
 obtain ⟨li,hio⟩:=hK.st (pb.ii,⟨pb.gi,false,[fW eP (gT c ps)]⟩) (by rw[yI];simp)
 obtain ⟨lm,hmo⟩:=hK.me (pb.im,⟨pb.gm,false,[fW eI ms]⟩) (by rw[oF];simp)
 simp only at li hio lm hmo
 have nx:=nf lx
 have ni:=nf li
 have nm:=nf lm
 show jL Tryz.prog Ob.cfg 21 [.ptr pb.x pb.gx 0] hp n cc _
 refine j1 Tryz.func21 rfl (by kernel_rfl) rfl ?_
 refine cT (j8 @aN @aO @aB @aA @aH @aI @kD @nx) ?_
 apply WP.loop' (I:=fun D st=>∃ (j g c':Nat) (bB:Hp) (L:List Int),j+D=c.mems.length∧L=(c.mems.take j).map (fun d=>gz ms d.nm)∧Ag n hp bB∧bB.get n=some ⟨g,false,fl (bQ L)⟩∧
  st=⟨[(0,.ptr pb.x pb.gx 0),(3,.osl n g 0 j 1 none),(14,dL (lF c.mems)),(15,dI c.mems.length),(16,dI j)],bB,n+1,c',n,[]⟩) (d:=c.mems.length)
 ·exact ⟨0,_,_,_,[],by simp,by simp,by simp,by simp[fl,bQ];rfl,bK (by simp[dI,dL]) rfl⟩
 rintro D _ ⟨j,g,c',bB,L,hj,hL,dW,hx,rfl⟩
 have dN:=eq_true dW
 have fN:=(dW _ lx).trans kD
 refine pS (jn @aB @aA) ?_
 show WP _ _ _ _ _ _
 refine WP.cond _ rfl (fun hb=>?_) (fun hb=>?_)
 ·simp at hb
  have bP:j<c.mems.length:=by omega
  obtain ⟨d,hd,d8,bV⟩:=bM bP
  have cG:=kI hd
  have c9:=bE bP (by omega)
  have y6:=bL hd
  have nT:L.length=j:=by rw[hL];simp;omega
  have hLs:(c.mems.take (j+1)).map (fun d=>gz ms d.nm)=L++[gz ms d.nm]:=by rw[y6,hL];simp
  have r2:=cR (b7 L)
  have r3:=cI (b7 L)
  have r4:=dT (bQ L) [.int .i64 (gz ms d.nm)]
  have r5:=g7 L (gz ms d.nm)
  have f5:bU (j+1) 8=true:=by simp[bU];omega
  rw[r5] at r4
  rw[aZ,nT,Nat.mul_one] at r2 r3
  simp only[List.map_cons,List.map_nil] at r4
  have uE:=(dW _ lm).trans hmo
  have vT:=fun (look:cA) (sz by_:Nat) (zr:Option (List V)) (h:look pb.im=some ⟨pb.gm,false,[fW eI ms]⟩)=>aAE ms (sz:=sz) (by_:=by_) (zr:=zr) (x:=d.nm) h
  refine cT (j24 @aB @aA @bV @cG @Mm.cells.eq_1 @aH @aI @fN @nx @nm @uE @vT @zt3 @hx @aP @aQ @iE.eq_def @bG @b8 @bH @f5 @r2 @r3 @r4) ?_
  refine aY (by simp[c9];exact Is.rfl) ?_
  exact ⟨D - 1,by omega,j+1,_,_,_,_,by omega,hLs.symm,by simp[dW],by simp;rfl,bK (by simp[dI,dL,c9]) rfl⟩
 simp at hb
 have eE:j=c.mems.length:=by omega
 rw[eE,List.take_length] at hL
 refine cT (j4 @aB @aA @fN @nx) ?_
 have nT:L.length=j:=by rw[hL,eE];simp
 have fA:=hK.fit
 rw[fit] at fA
 have yY:=fA.1
 have hpl:=oZ sb ps fA.2
 have mB:(c.ins.map Ii.nm).Nodup:=by
  have:=(hO.wf c hc).nd
  unfold Cl.names at this
  exact (List.nodup_append.1 this).2.1
 obtain ⟨z,hz⟩:=aNs
 apply WP.loop' (I:=fun D2 st=>∃ (i g2 m c5:Nat) (jQ:Hp) (L5:List Int),i+D2=c.ins.length∧L5=L++oY (sb.take i)∧m=L5.length∧Ag n hp jQ∧jQ.get n=some ⟨g2,false,fl (bQ L5)⟩∧
  st=⟨[(0,.ptr pb.x pb.gx 0),(3,.osl n g2 0 m 1 none),(35,dL (lV c.ins)),(36,dI c.ins.length),(37,dI i)],jQ,n+1,c5,n,[]⟩) (d:=c.ins.length)
 ·exact ⟨0,g,j,_,_,L,by simp,by simp[oY],nT.symm,dW,hx,bK (by simp[dI,dL]) rfl⟩
 rintro D2 _ ⟨i,g2,m,c5,jQ,L5,hi5,hL5,hm5,vE,lP,rfl⟩
 have aEi:=eq_true vE
 have vF:=(vE _ lx).trans kD
 have aGD:=(vE _ li).trans hio
 refine pS (jn @aB @aA) ?_
 show WP _ _ _ _ _ _
 refine WP.cond _ rfl (fun hb=>?_) (fun hb=>?_)
 ·simp at hb
  have hb5:i<c.ins.length:=by omega
  obtain ⟨d,hd,d8,bV⟩:=bM hb5
  have cG:=nP hd
  have c9:=bE hb5 (by omega)
  have jP:sb[i]?=some (sb[i]'(by omega)):=List.getElem?_eq_getElem (by omega)
  generalize (sb[i]'(by omega))=t at jP
  obtain ⟨q,hq,pR⟩:=hK.sub (i:=i) (u:=t) jP
  have hq:ps[i]?=some q:=hq
  obtain ⟨_,_,_,hto⟩:=uZ o sb c.ins i t cC.2.2 jP
  have aEg:=z6 c.ins i d mB hd
  have tG:=tV c.ins ps d.nm q (by rw[aEg];exact hb5) (by rw[aEg];exact hq)
  have yF:∀ (look:cA) (sz by_:Nat) (zr:Option (List V)),look pb.ii=some ⟨pb.gi,false,[fW eP (gT c ps)]⟩→gU look ⟨.str,sz,by_,zr⟩ (some z) (.mp pb.ii pb.gi) (.d (.str d.nm)) false=some ⟨.ptr q.a.x q.a.gx 0,[],[pb.ii],0,0,false⟩:=by
   intro look sz by_ zr h
   rw[iO eP (gT c ps) h]
   unfold gT
   rw[tG];rfl
  have aEj:t.ht<N:=by have:=lM (List.mem_of_getElem? jP);omega
  have hmt:=aBK sb i t jP
  have yM:=aFY sb (i+1)
  rw[hmt,List.length_append] at yM
  obtain ⟨F,G,hF⟩:=fY (C:=fun eW n2=>Ag n hp eW∧n≤n2) (P:=Tryz.prog) (cfg:=Ob.cfg) (f:=21) (vs:=[.ptr q.a.x q.a.gx 0]) (v:=dL (bQ (mS t))) (fun eW n2 c2 hC=>ih t q aEj hto (by omega) eW n2 c2 (pR.mono hC.1 hC.2))
  have hr:=fun eW n2 c2 a b=>hF eW n2 c2 ⟨a,b⟩
  simp only[dL] at hr
  have r2:=cR (b7 L5)
  have r3:=cI (b7 L5)
  rw[aZ,←hm5,Nat.mul_one] at r2 r3
  have f5:bU (m+(mS t).length) 8=true:=by simp[bU];rw[hm5,hL5,List.length_append];omega
  refine cT (j28 @aB @aA @bV @cG @Ii.cells.eq_1 @aH @aI @vF @nx @ni @aGD @yF @hz @hr @lP @aEi @aP @aQ @iE.eq_def @bG @b8 @bH @f5 @r2 @r3 @aZ @aAb @sM) ?_
  refine aY (by simp[c9];exact Is.rfl) ?_
  refine ⟨D2 - 1,by omega,i+1,_,m+(mS t).length,_,_,L5++mS t,by omega,by rw[hL5,hmt,List.append_assoc],by rw[List.length_append,←hm5],by simp[vE],by simp;rfl,bK (by simp[dI,dL,c9]) rfl⟩
 simp at hb
 have kP:i=c.ins.length:=by omega
 have hst:sb.take i=sb:=List.take_of_length_le (by omega)
 rw[hst,hL] at hL5
 refine cT (jn @aB @aA) ?_
 have gI:=jA (look:=jQ.get) (id:=n) (g:=g2) (ro:=false) (cap:=none) (b7 L5) lP
 rw[aZ,←hm5] at gI
 refine ⟨.inr rfl,rfl,_,[n],rfl,?_,by simp[Nat.ble_eq]⟩
 show d7 jQ.get (.osl n g2 0 m 1 none)=_
 rw[gI,hL5]
end Go.Ac
end
