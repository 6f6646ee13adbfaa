/- Cases, statements, lists: the program's. -/
import Derived.Test.YtkgekafdhehleaaGreatObPjM
set_option linter.unusedVariables false
set_option linter.unusedSimpArgs false
section
set_option maxRecDepth 4000
namespace Go.Ac
open Go.Proofs
attribute [local simp] Hp.get_set dA cK cR bW
theorem aRF (r:Nat):Ob.keep 135 r=Ob.k135 r:=by kernel_rfl
attribute [local simp] aRF Ob.k135
theorem dY (a b:Nat):Nat.beq a b=decide (a=b):=by
 by_cases h:a=b
 ·subst h;simp
 ·rw[aCe h,decide_eq_false h]
theorem aMA (w:Pl) (pre:List Tx) (x:Tx) (d:Dc):aKV w x (decide (x∈pre)) d.t=aBl w pre x d:=by unfold aKV aBl;simp
section
variable {ic gc iv gv ip gp im gm ii gi:Nat} {o:Oc} {ea:List Cl} {c:Cl}
set_option maxHeartbeats 4000000 in
theorem aNR (hW:KW o c) (cx:List Pr) (bl:List (List Y)) (hB:BOK cx bl) (y:Y) (gB:y.sz≤MX) (cE:okX y.args):
  QK ic gc iv gv ip gp im gm ii gi o ea c 135 [.ptr ic gc 0,aG y.cells,pP cx bl] (dI (aCT ⟨o,c,bl.flatten,cx⟩ y)):=by
 intro hp n cc hK
 unfold MX at gB
 rw[Y.sz_eq] at gB
 have k1:=gK y.args
 have k2:=oB y.outs
 have eD:=hK.co
 have nc:=nf hK.lc
 have ni:=nf hK.li
 have uY:=fun (look:cA) (sz by_:Nat) (zr:Option (List V)) (y:Tx) (h:look ii=hp.get ii)=>hK.look_ins (look:=look) (sz:=sz) (by_:=by_) (zr:=zr) (x:=y) h
 refine iR Tryz.func135 rfl (by kernel_rfl) rfl (fun _=>rfl) ?_
 unfold aCT
 show WP _ _ _ _ _ (aEV _ _ _ (dI (if (e9 c.ins o.cl y.nm).2=false then 6 else if y.args.length≠(e9 c.ins o.cl y.nm).1.inn.length∨y.outs.length≠(e9 c.ins o.cl y.nm).1.out.length then 9 else if lW ⟨o,c,bl.flatten,cx⟩ y.args (e9 c.ins o.cl y.nm).1.inn≠0 then lW ⟨o,c,bl.flatten,cx⟩ y.args (e9 c.ins o.cl y.nm).1.inn else rX ⟨o,c,bl.flatten,cx⟩ [] y.outs (e9 c.ins o.cl y.nm).1.out)))
 generalize hw:(⟨o,c,bl.flatten,cx⟩:Pl)=w
 have hf:∀ q,e9 c.ins o.cl y.nm=q→True:=fun _ _=>trivial
 generalize hG:e9 c.ins o.cl y.nm=G
 obtain ⟨g,ok⟩:=G
 cases ok with
 | false=>
  have lU:aAP (g,false)= .agg [.d (.str []),.full [],.full [],.full [],.full [],.full [],.full []]:=rfl
  repeat (first
 | apply WP.seq
 | (apply WP.reg;(case hR=>dsimp only [e8,eA,List.map,gS,gZ];exact iZ);(case hr=>(repeat (first
 | (apply RT.op;simp[dD,aG,pP,aC,dL,eD,nc,ni,uY,jY,hG,lU,bN];exact iZ;(try dsimp only [a8]) <;> exact rfl)
 | (apply RT.call;(iterate 2 simp;exact iZ);exact iZ;(iterate 4 simp[dD,aG,pP,aC,dL,eD,nc,ni,uY,jY,hG,lU,bN];exact iZ);simp[Is];(try dsimp only [a8]) <;> exact rfl;simp;exact iZ;simp;exact iZ)
 | (apply RT.callV;(iterate 2 simp;exact iZ);exact iZ;(iterate 3 simp[dD,aG,pP,aC,dL,eD,nc,ni,uY,jY,hG,lU,bN];exact iZ);(try dsimp only [a8]) <;> exact rfl)
 | (apply RT.wr;simp[dD,aG,pP,aC,dL,eD,nc,ni,uY,jY,hG,lU,bN];exact iZ;(try dsimp only [a8]) <;> exact rfl;simp[dD,aG,pP,aC,dL,eD,nc,ni,uY,jY,hG,lU,bN];exact iZ;(iterate 2 exact iZ);simp;exact iZ)));exact RT.nil);(case hc=>first|(refine c8 [(0,4),(1,4),(2,4),(3,4),(0,5),(1,5),(2,5),(3,5),(8,9),(0,10),(1,10),(2,10),(3,10),(4,10),(5,10),(6,10),(7,10),(8,10),(9,10),(9,11)] (by kernel_rfl) (by kernel_rfl) rfl ?_;simp[lF,jX,dY,nc,ni];done)|(show _=_;kernel_rfl));(case ht=>simp[dD,aG,pP,aC,dL,eD,nc,ni,uY,jY,hG,lU,bN];exact iZ))
 | apply WP.block|apply WP.skip|apply WP.exit|apply WP.ret|refine WP.condT rfl ?_|refine WP.condF rfl ?_)
  exact ⟨.inr rfl,rfl,_,rfl,rfl⟩
 | true=>
 have lU:aAP (g,true)= .agg [V.d (.str g.nm),V.d (.slice (cM g.inn)),V.d (.slice (cM g.out)),V.d (.slice (cM g.loc)),V.d (.slice (lA g.mems)),V.d (.slice (mD g.ins)),V.d (.slice (dJ g.step))]:=rfl
 rw[if_neg (by simp)]
 simp only[]
 by_cases c1:y.args.length=g.inn.length
 case neg=>
  have c1':((y.args.length:Int)=g.inn.length)=False:=eq_false (by omega)
  have c1'':=eq_false c1
  rw[if_pos (.inl c1)]
  repeat (first
 | apply WP.seq
 | (apply WP.reg;(case hR=>dsimp only [e8,eA,List.map,gS,gZ];exact iZ);(case hr=>(repeat (first
 | (apply RT.op;simp[dD,aG,pP,aC,dL,eD,nc,ni,uY,jY,hG,lU,bN,aV,aT,bP,c1',c1''];exact iZ;(try dsimp only [a8]) <;> exact rfl)
 | (apply RT.call;(iterate 2 simp;exact iZ);exact iZ;(iterate 4 simp[dD,aG,pP,aC,dL,eD,nc,ni,uY,jY,hG,lU,bN,aV,aT,bP,c1',c1''];exact iZ);simp[Is];(try dsimp only [a8]) <;> exact rfl;simp;exact iZ;simp;exact iZ)
 | (apply RT.callV;(iterate 2 simp;exact iZ);exact iZ;(iterate 3 simp[dD,aG,pP,aC,dL,eD,nc,ni,uY,jY,hG,lU,bN,aV,aT,bP,c1',c1''];exact iZ);(try dsimp only [a8]) <;> exact rfl)
 | (apply RT.wr;simp[dD,aG,pP,aC,dL,eD,nc,ni,uY,jY,hG,lU,bN,aV,aT,bP,c1',c1''];exact iZ;(try dsimp only [a8]) <;> exact rfl;simp[dD,aG,pP,aC,dL,eD,nc,ni,uY,jY,hG,lU,bN,aV,aT,bP,c1',c1''];exact iZ;(iterate 2 exact iZ);simp;exact iZ)));exact RT.nil);(case hc=>first|(refine c8 [(0,4),(1,4),(2,4),(3,4),(0,5),(1,5),(2,5),(3,5),(8,9),(0,10),(1,10),(2,10),(3,10),(4,10),(5,10),(6,10),(7,10),(8,10),(9,10),(9,11)] (by kernel_rfl) (by kernel_rfl) rfl ?_;simp[lF,jX,dY,nc,ni];done)|(show _=_;kernel_rfl));(case ht=>simp[dD,aG,pP,aC,dL,eD,nc,ni,uY,jY,hG,lU,bN,aV,aT,bP,c1',c1''];exact iZ))
 | apply WP.block|apply WP.skip|apply WP.exit|apply WP.ret|refine WP.condT rfl ?_|refine WP.condF rfl ?_)
  exact ⟨.inr rfl,rfl,_,rfl,rfl⟩
 have c1':((y.args.length:Int)=g.inn.length)=True:=eq_true (by omega)
 by_cases c2:y.outs.length=g.out.length
 case neg=>
  have c2':((y.outs.length:Int)=g.out.length)=False:=eq_false (by omega)
  have c2'':=eq_false c2
  rw[if_pos (.inr c2)]
  repeat (first
 | apply WP.seq
 | (apply WP.reg;(case hR=>dsimp only [e8,eA,List.map,gS,gZ];exact iZ);(case hr=>(repeat (first
 | (apply RT.op;simp[dD,aG,pP,aC,dL,eD,nc,ni,uY,jY,hG,lU,bN,aV,aT,aW,bP,c1,c2',c2''];exact iZ;(try dsimp only [a8]) <;> exact rfl)
 | (apply RT.call;(iterate 2 simp;exact iZ);exact iZ;(iterate 4 simp[dD,aG,pP,aC,dL,eD,nc,ni,uY,jY,hG,lU,bN,aV,aT,aW,bP,c1,c2',c2''];exact iZ);simp[Is];(try dsimp only [a8]) <;> exact rfl;simp;exact iZ;simp;exact iZ)
 | (apply RT.callV;(iterate 2 simp;exact iZ);exact iZ;(iterate 3 simp[dD,aG,pP,aC,dL,eD,nc,ni,uY,jY,hG,lU,bN,aV,aT,aW,bP,c1,c2',c2''];exact iZ);(try dsimp only [a8]) <;> exact rfl)
 | (apply RT.wr;simp[dD,aG,pP,aC,dL,eD,nc,ni,uY,jY,hG,lU,bN,aV,aT,aW,bP,c1,c2',c2''];exact iZ;(try dsimp only [a8]) <;> exact rfl;simp[dD,aG,pP,aC,dL,eD,nc,ni,uY,jY,hG,lU,bN,aV,aT,aW,bP,c1,c2',c2''];exact iZ;(iterate 2 exact iZ);simp;exact iZ)));exact RT.nil);(case hc=>first|(refine c8 [(0,4),(1,4),(2,4),(3,4),(0,5),(1,5),(2,5),(3,5),(8,9),(0,10),(1,10),(2,10),(3,10),(4,10),(5,10),(6,10),(7,10),(8,10),(9,10),(9,11)] (by kernel_rfl) (by kernel_rfl) rfl ?_;simp[lF,jX,dY,nc,ni];done)|(show _=_;kernel_rfl));(case ht=>simp[dD,aG,pP,aC,dL,eD,nc,ni,uY,jY,hG,lU,bN,aV,aT,aW,bP,c1,c2',c2''];exact iZ))
 | apply WP.block|apply WP.skip|apply WP.exit|apply WP.ret|refine WP.condT rfl ?_|refine WP.condF rfl ?_)
  exact ⟨.inr rfl,rfl,_,rfl,rfl⟩
 rw[if_neg (fun h=>h.elim (fun h=>h c1) (fun h=>h c2))]
 repeat (first
 | apply WP.seq
 | (apply WP.reg;(case hR=>dsimp only [e8,eA,List.map,gS,gZ];exact iZ);(case hr=>(repeat (first
 | (apply RT.op;simp[dD,aG,pP,aC,dL,eD,nc,ni,uY,jY,hG,lU,bN,aV,aT,aW,bP,c1,c2];exact iZ;(try dsimp only [a8]) <;> exact rfl)
 | (apply RT.call;(iterate 2 simp;exact iZ);exact iZ;(iterate 4 simp[dD,aG,pP,aC,dL,eD,nc,ni,uY,jY,hG,lU,bN,aV,aT,aW,bP,c1,c2];exact iZ);simp[Is];(try dsimp only [a8]) <;> exact rfl;simp;exact iZ;simp;exact iZ)
 | (apply RT.callV;(iterate 2 simp;exact iZ);exact iZ;(iterate 3 simp[dD,aG,pP,aC,dL,eD,nc,ni,uY,jY,hG,lU,bN,aV,aT,aW,bP,c1,c2];exact iZ);(try dsimp only [a8]) <;> exact rfl)
 | (apply RT.wr;simp[dD,aG,pP,aC,dL,eD,nc,ni,uY,jY,hG,lU,bN,aV,aT,aW,bP,c1,c2];exact iZ;(try dsimp only [a8]) <;> exact rfl;simp[dD,aG,pP,aC,dL,eD,nc,ni,uY,jY,hG,lU,bN,aV,aT,aW,bP,c1,c2];exact iZ;(iterate 2 exact iZ);simp;exact iZ)));exact RT.nil);(case hc=>first|(refine c8 [(0,4),(1,4),(2,4),(3,4),(0,5),(1,5),(2,5),(3,5),(8,9),(0,10),(1,10),(2,10),(3,10),(4,10),(5,10),(6,10),(7,10),(8,10),(9,10),(9,11)] (by kernel_rfl) (by kernel_rfl) rfl ?_;simp[lF,jX,dY,nc,ni];done)|(show _=_;kernel_rfl));(case ht=>simp[dD,aG,pP,aC,dL,eD,nc,ni,uY,jY,hG,lU,bN,aV,aT,aW,bP,c1,c2];exact iZ))
 | apply WP.block|apply WP.skip|apply WP.exit|apply WP.ret|refine WP.condT rfl ?_|refine WP.condF rfl ?_)
 apply WP.loop' (I:=fun D s=>∃ (j c':Nat) (bD:Hp),j+D=y.args.length∧lW w (y.args.drop j) (g.inn.drop j)=lW w y.args g.inn∧Ag n hp bD∧bD.get n=some ⟨cc,false,y.cells.map .d⟩∧bD.get (n+1)=some ⟨cc+1,false,[V.d (.slice (iB cx)),V.d (.slice (iA bl))]⟩∧bD.get (n+2)=some ⟨cc+2,false,g.cells.map .d⟩∧
  s=⟨[(0,.ptr ic gc 0),(4,.ptr n cc 0),(5,.ptr (n+1) (cc+1) 0),(7,.ptr (n+2) (cc+2) 0),(45,dL (fY y.args)),(46,dI y.args.length),(47,dI j)],bD,n+3,c',n,[]⟩) (d:=y.args.length)
 ·exact ⟨0,_,_,by simp,by simp,by simp,by simp[aC],by simp,by simp[Cl.cells],bK (by simp[dI,dL,c1]) rfl⟩
 rintro D _ ⟨j,c',bD,hj,hv,d8,rI,jA,nH,rfl⟩
 have dR:=eq_true d8
 rw[aC] at rI
 simp only[Cl.cells,List.map_cons,List.map_nil] at rI nH
 refine qE (jn @aB @aA) ?_
 show WP _ _ _ _ _ _
 refine WP.cond _ rfl (fun hb=>?_) (fun hb=>?_)
 ·simp at hb
  have bR:j<y.args.length:=by omega
  have kL:j<g.inn.length:=by omega
  obtain ⟨x,hx,hxm,bS⟩:=bL bR
  obtain ⟨d,hd,d9,cY⟩:=bL kL
  have hx':=iQ hx
  have cF:=d6 hd
  have dH:=bG bR (by omega)
  have aRf:=(uF _).1 cE x hxm
  obtain ⟨F,G,hr⟩:=(aJo (ic:=ic) (gc:=gc) (iv:=iv) (gv:=gv) (ip:=ip) (gp:=gp) (im:=im) (gm:=gm) (ii:=ii) (gi:=gi) (ea:=ea) hW cx bl hB x (by have:=dX hxm;unfold MX;omega) aRf).fn hK
  rw[hw] at hr
  simp only[aG,pP,aE,List.map_cons,List.map_nil,dI] at hr
  rw[g8 hx,g8 hd,lW] at hv
  by_cases hz:(eB w x).2=0
  case neg=>
   have lV:=eq_false hz
   have ha:sZ w x d=(eB w x).2:=by unfold sZ;rw[if_pos hz]
   rw[ha,if_pos hz] at hv
   rw[←hv,if_pos hz]
   refine cV (uN @aB @aA @rI @jA @nH @dR @bS @hx' @aE @hr @aV @lV @aH @aI) ?_
   exact ⟨.inr rfl,rfl,_,rfl,rfl⟩
  rw[hz,aGH hz] at hr
  by_cases ht:(eB w x).1=d.t
  case neg=>
   have ht':=eq_false ht
   have ha:sZ w x d=10:=by unfold sZ;rw[if_neg (by simp[hz]),if_pos ht]
   rw[ha,if_pos (by decide)] at hv
   rw[←hv,if_pos (by decide)]
   refine cV (j19 @aB @aA @rI @jA @nH @dR @aT @bP @bS @cY @hx' @cF @aE @aP @hr @aV @ht' @aH @aI) ?_
   exact ⟨.inr rfl,rfl,_,rfl,rfl⟩
  have ha:sZ w x d=0:=by unfold sZ;rw[if_neg (by simp[hz]),if_neg (by simp[ht])]
  rw[ha,if_neg (by decide)] at hv
  have ht':=eq_true ht
  refine cV (j19 @aB @aA @rI @jA @nH @dR @aT @bP @bS @cY @hx' @cF @aE @aP @hr @aV @ht' @aH @aI) ?_
  refine aY (by simp[dH];exact Is.rfl) ?_
  exact ⟨D - 1,by omega,j+1,_,_,by omega,hv,by simp[d8],by simp[rI,aC],by simp[jA],by simp[nH,Cl.cells],bK (by simp[dI,dL,dH]) rfl⟩
 ·simp at hb
  have eM:j=y.args.length:=by omega
  rw[eM,List.drop_length,aEi] at hv
  rw[←hv,if_neg (by decide)]
  refine cV (j6 @aB @aA @rI @jA @nH @dR) ?_
  apply WP.loop' (I:=fun D s=>∃ (j c':Nat) (bD:Hp),j+D=y.outs.length∧rX w (y.outs.take j) (y.outs.drop j) (g.out.drop j)=rX w [] y.outs g.out∧Ag n hp bD∧bD.get n=some ⟨cc,false,y.cells.map .d⟩∧bD.get (n+1)=some ⟨cc+1,false,[V.d (.slice (iB cx)),V.d (.slice (iA bl))]⟩∧bD.get (n+2)=some ⟨cc+2,false,g.cells.map .d⟩∧
   s=⟨[(0,.ptr ic gc 0),(4,.ptr n cc 0),(5,.ptr (n+1) (cc+1) 0),(7,.ptr (n+2) (cc+2) 0),(72,dL (eT y.outs)),(73,dI y.outs.length),(74,dI j)],bD,n+3,c',n,[]⟩) (d:=y.outs.length)
  ·exact ⟨0,_,_,by simp,by simp,d8,by simp[rI,aC],jA,by simp[nH,Cl.cells],bK (by simp[dI,dL]) rfl⟩
  clear hv hj eM hb rI jA nH dR d8 bD
  rintro D2 _ ⟨j,c2,bD,hj,hv,d8,rI,jA,nH,rfl⟩
  have dR:=eq_true d8
  rw[aC] at rI
  simp only[Cl.cells,List.map_cons,List.map_nil] at rI nH
  refine qE (jn @aB @aA) ?_
  show WP _ _ _ _ _ _
  refine WP.cond _ rfl (fun hb=>?_) (fun hb=>?_)
  ·simp at hb
   have bR:j<y.outs.length:=by omega
   have kL:j<g.out.length:=by omega
   obtain ⟨x,hx,hxm,bS⟩:=bL bR
   obtain ⟨d,hd,d9,cY⟩:=bL kL
   have hx':=sJ hx
   have cF:=d6 hd
   have dH:=bG bR (by omega)
   have h75:=aBu (y.outs.take j) x (by unfold MX;rw[List.length_take];omega)
   obtain ⟨F,G,ht⟩:=(aDX (ic:=ic) (gc:=gc) (iv:=iv) (gv:=gv) (ip:=ip) (gp:=gp) (im:=im) (gm:=gm) (ii:=ii) (gi:=gi) (ea:=ea) hW cx bl hB x (decide (x∈y.outs.take j)) d.t).fn hK
   rw[hw,aMA] at ht
   simp only[dL,dS,dB,dI,pP] at h75 ht
   rw[g8 hx,g8 hd,rX] at hv
   have vD:=bM hx
   rw[←vD] at hv
   have hsl:=fun look e b z=>nU look e b z (cP y.outs) (j:=j) (by rw[aW];omega)
   have etk:=aAR y.outs j
   by_cases hz:aBl w (y.outs.take j) x d=0
   case neg=>
    have lV:=eq_false hz
    rw[if_pos hz] at hv
    rw[←hv]
    refine cV (j19 @aB @aA @rI @jA @nH @dR @aW @bP @bS @cY @hx' @cF @aP @hsl @etk @h75 @ht @aV @lV) ?_
    exact ⟨.inr rfl,rfl,_,rfl,rfl⟩
   rw[if_neg (by simp[hz])] at hv
   rw[hz] at ht
   refine cV (u7 @aB @aA @rI @jA @nH @dR @aW @bP @bS @cY @hx' @cF @aP @hsl @etk @h75 @ht @aV) ?_
   refine aY (by simp[dH];exact Is.rfl) ?_
   exact ⟨D2 - 1,by omega,j+1,_,_,by omega,hv,by simp[d8],by simp[rI,aC],by simp[jA],by simp[nH,Cl.cells],bK (by simp[dI,dL,dH]) rfl⟩
  ·simp at hb
   have eM:j=y.outs.length:=by omega
   rw[eM,List.drop_length,aEB] at hv
   rw[←hv]
   refine cV (jn @aB @aA) ?_
   exact ⟨.inr rfl,rfl,_,rfl,rfl⟩
end
end Go.Ac
end
section
namespace Go.Ac
theorem aLT {L:Prop} (hl:L) {G G':Prop} (k:G') (h:Wk L G G':=by
 intro hl hk
 repeat (first
 | apply WP.seq
 | (apply WP.reg;(case hR=>dsimp only [e8,eA,List.map,gS,gZ];exact iZ);(case hr=>(repeat (first
 | (apply RT.op;simp[hl];exact iZ;(try dsimp only [a8]) <;> exact rfl)
 | (apply RT.call;(iterate 2 simp;exact iZ);exact iZ;(iterate 4 simp[hl];exact iZ);simp[Is];(try dsimp only [a8]) <;> exact rfl;simp;exact iZ;simp;exact iZ)
 | (apply RT.clone;(iterate 2 simp;exact iZ);exact iZ;(iterate 2 simp[hl];exact iZ);(first|assumption|(simp[bT];omega));(try dsimp only [a8]) <;> exact rfl;simp[hl];exact iZ;simp;exact iZ)
 | (apply RT.callV;(iterate 2 simp;exact iZ);exact iZ;(iterate 3 simp[hl];exact iZ);(try dsimp only [a8]) <;> exact rfl)
 | (apply RT.wr;simp[hl];exact iZ;(try dsimp only [a8]) <;> exact rfl;simp[hl];exact iZ;(iterate 2 exact iZ);simp;exact iZ)));exact RT.nil);(case hc=>(show _=_;kernel_rfl));(case ht=>simp[hl];exact iZ))
 | apply WP.block|apply WP.skip|apply WP.exit|apply WP.ret)
 exact hk.out):G:=h hl ⟨k⟩
theorem aNA {L:Prop} (hl:L) {G G':Prop} (k:G') (h:Wk L G G':=by
 intro hl hk
 repeat (first
 | apply WP.seq
 | (apply WP.reg;(case hR=>dsimp only [e8,eA,List.map,gS,gZ];exact iZ);(case hr=>(repeat (first
 | (apply RT.op;simp[hl];exact iZ;(try dsimp only [a8]) <;> exact rfl)
 | (apply RT.call;(iterate 2 simp;exact iZ);exact iZ;(iterate 4 simp[hl];exact iZ);simp[Is];(try dsimp only [a8]) <;> exact rfl;simp;exact iZ;simp;exact iZ)
 | (apply RT.callV;(iterate 2 simp;exact iZ);exact iZ;(iterate 3 simp[hl];exact iZ);(try dsimp only [a8]) <;> exact rfl)
 | (apply RT.callI (hd:=hI1) (hne:=hI2) (hw:=hI3) (hwr:=xK);(iterate 2 simp;exact iZ);exact iZ;(iterate 2 simp[hl];exact iZ);(try dsimp only [a8]) <;> exact rfl;(first|omega|simp))
 | (apply RT.wr;simp[hl];exact iZ;(try dsimp only [a8]) <;> exact rfl;simp[hl];exact iZ;(iterate 2 exact iZ);simp;exact iZ)));exact RT.nil);(case hc=>(show _=_;kernel_rfl));(case ht=>simp[hl];exact iZ))
 | apply WP.block|apply WP.skip|apply WP.exit|apply WP.ret)
 exact hk.out):G:=h hl ⟨k⟩
theorem aJx {L:Prop} (hl:L) {G G':Prop} (k:G') (h:Wk L G G':=by
 intro hl hk
 repeat (first
 | apply WP.seq
 | (apply WP.reg;(case hR=>dsimp only [e8,eA,List.map,gS,gZ];exact iZ);(case hr=>(repeat (first
 | (apply RT.op;simp[hl];exact iZ;(try dsimp only [a8]) <;> exact rfl)
 | (apply RT.call;(iterate 2 simp;exact iZ);exact iZ;(iterate 4 simp[hl];exact iZ);simp[Is];(try dsimp only [a8]) <;> exact rfl;simp;exact iZ;simp;exact iZ)
 | (apply RT.callV;(iterate 2 simp;exact iZ);exact iZ;(iterate 3 simp[hl];exact iZ);(try dsimp only [a8]) <;> exact rfl)
 | (apply RT.callI (hd:=hI1) (hne:=hI2) (hw:=hI3) (hwr:=xK);(iterate 2 simp;exact iZ);exact iZ;(iterate 2 simp[hl];exact iZ);(try dsimp only [a8]) <;> exact rfl;(first|omega|simp))
 | (apply RT.callT (hd:=oZ) (hk:=tW);(iterate 2 simp;exact iZ);exact iZ;(iterate 2 simp[hl];exact iZ);(try dsimp only [a8]) <;> exact rfl)
 | (apply RT.wr;simp[hl];exact iZ;(try dsimp only [a8]) <;> exact rfl;simp[hl];exact iZ;(iterate 2 exact iZ);simp;exact iZ)));exact RT.nil);(case hc=>(show _=_;kernel_rfl));(case ht=>simp[hl];exact iZ))
 | apply WP.block|apply WP.skip|apply WP.exit|apply WP.ret)
 exact hk.out):G:=h hl ⟨k⟩
theorem tF {L:Prop} (hl:L) {G G':Prop} (k:G') (h:Wk L G G':=by
 intro hl hk
 repeat (first
 | apply WP.seq
 | (apply WP.reg;(case hR=>dsimp only [e8,eA,List.map,gS,gZ];exact iZ);(case hr=>(repeat (first
 | (apply RT.op;simp[hl];exact iZ;(try dsimp only [a8]) <;> exact rfl)
 | (apply RT.call;(iterate 2 simp;exact iZ);exact iZ;(iterate 4 simp[hl];exact iZ);simp[Is];(try dsimp only [a8]) <;> exact rfl;simp;exact iZ;simp;exact iZ)
 | (apply RT.clone;(iterate 2 simp;exact iZ);exact iZ;(iterate 2 simp[hl];exact iZ);(first|assumption|(simp[bT];omega));(try dsimp only [a8]) <;> exact rfl;simp[hl];exact iZ;simp;exact iZ)
 | (apply RT.callV;(iterate 2 simp;exact iZ);exact iZ;(iterate 3 simp[hl];exact iZ);(try dsimp only [a8]) <;> exact rfl)
 | (apply RT.wr;simp[hl];exact iZ;(try dsimp only [a8]) <;> exact rfl;simp[hl];exact iZ;(iterate 2 exact iZ);simp;exact iZ)));exact RT.nil);(case hc=>(show _=_;kernel_rfl));(case ht=>simp[hl];exact iZ))
 | apply WP.block|apply WP.skip|apply WP.exit|apply WP.ret|refine WP.condT rfl ?_|refine WP.condF rfl ?_)
 exact hk.out):G:=h hl ⟨k⟩
theorem kZ {L:Prop} (hl:L) {G G':Prop} (k:G') (h:Wk L G G':=by
 intro hl hk
 repeat (first
 | apply WP.seq
 | (apply WP.reg;(case hR=>dsimp only [e8,eA,List.map,gS,gZ];exact iZ);(case hr=>(repeat (first
 | (apply RT.op;simp[hl];exact iZ;(try dsimp only [a8]) <;> exact rfl)
 | (apply RT.call;(iterate 2 simp;exact iZ);exact iZ;(iterate 4 simp[hl];exact iZ);simp[Is];(try dsimp only [a8]) <;> exact rfl;simp;exact iZ;simp;exact iZ)
 | (apply RT.callV;(iterate 2 simp;exact iZ);exact iZ;(iterate 3 simp[hl];exact iZ);(try dsimp only [a8]) <;> exact rfl)
 | (apply RT.callI (hd:=hI1) (hne:=hI2) (hw:=hI3) (hwr:=xK);(iterate 2 simp;exact iZ);exact iZ;(iterate 2 simp[hl];exact iZ);(try dsimp only [a8]) <;> exact rfl;(first|omega|simp))
 | (apply RT.wr;simp[hl];exact iZ;(try dsimp only [a8]) <;> exact rfl;simp[hl];exact iZ;(iterate 2 exact iZ);simp;exact iZ)));exact RT.nil);(case hc=>(show _=_;kernel_rfl));(case ht=>simp[hl];exact iZ))
 | apply WP.block|apply WP.skip|apply WP.exit|apply WP.ret|refine WP.condT rfl ?_|refine WP.condF rfl ?_)
 exact hk.out):G:=h hl ⟨k⟩
theorem fN {L:Prop} (hl:L) {G G':Prop} (k:G') (h:Wk L G G':=by
 intro hl hk
 repeat (first
 | apply WP.seq
 | (apply WP.reg;(case hR=>dsimp only [e8,eA,List.map,gS,gZ];exact iZ);(case hr=>(repeat (first
 | (apply RT.op;simp[hl];exact iZ;(try dsimp only [a8]) <;> exact rfl)
 | (apply RT.call;(iterate 2 simp;exact iZ);exact iZ;(iterate 4 simp[hl];exact iZ);simp[Is];(try dsimp only [a8]) <;> exact rfl;simp;exact iZ;simp;exact iZ)
 | (apply RT.callV;(iterate 2 simp;exact iZ);exact iZ;(iterate 3 simp[hl];exact iZ);(try dsimp only [a8]) <;> exact rfl)
 | (apply RT.callI (hd:=hI1) (hne:=hI2) (hw:=hI3) (hwr:=xK);(iterate 2 simp;exact iZ);exact iZ;(iterate 2 simp[hl];exact iZ);(try dsimp only [a8]) <;> exact rfl;(first|omega|simp))
 | (apply RT.callT (hd:=oZ) (hk:=tW);(iterate 2 simp;exact iZ);exact iZ;(iterate 2 simp[hl];exact iZ);(try dsimp only [a8]) <;> exact rfl)
 | (apply RT.wr;simp[hl];exact iZ;(try dsimp only [a8]) <;> exact rfl;simp[hl];exact iZ;(iterate 2 exact iZ);simp;exact iZ)));exact RT.nil);(case hc=>(show _=_;kernel_rfl));(case ht=>simp[hl];exact iZ))
 | apply WP.block|apply WP.skip|apply WP.exit|apply WP.ret|refine WP.condT rfl ?_|refine WP.condF rfl ?_)
 exact hk.out):G:=h hl ⟨k⟩
theorem aCt {L:Prop} (hl:L) {G G':Prop} (k:G') (h:Wk L G G':=by
 intro hl hk
 repeat (first
 | apply WP.seq
 | (apply WP.reg;(case hR=>dsimp only [e8,eA,List.map,gS,gZ];exact iZ);(case hr=>(repeat (first
 | (apply RT.op;simp[hl,-bA];exact iZ;(try dsimp only [a8]) <;> exact rfl)
 | (apply RT.call;(iterate 2 simp;exact iZ);exact iZ;(iterate 4 simp[hl,-bA];exact iZ);simp[Is];(try dsimp only [a8]) <;> exact rfl;simp;exact iZ;exact iZ)
 | (apply RT.callV;(iterate 2 simp;exact iZ);exact iZ;(iterate 3 simp[hl,-bA];exact iZ);(try dsimp only [a8]) <;> exact rfl)
 | (apply RT.wr;simp[hl,-bA];exact iZ;(try dsimp only [a8]) <;> exact rfl;simp[hl,-bA];exact iZ;(iterate 2 exact iZ);exact iZ)));exact RT.nil);(case hc=>(show _=_;kernel_rfl));(case ht=>simp[hl,-bA];exact iZ))
 | apply WP.block|apply WP.skip|apply WP.exit|apply WP.ret)
 exact hk.out):G:=h hl ⟨k⟩
theorem lM {L:Prop} (hl:L) {G G':Prop} (k:G') (h:Wk L G G':=by
 intro hl hk
 repeat (first
 | apply WP.seq
 | (apply WP.reg;(case hR=>dsimp only [e8,eA,List.map,gS,gZ];exact iZ);(case hr=>(repeat (first
 | (apply RT.op;simp[hl,-bA];exact iZ;(try dsimp only [a8]) <;> exact rfl)
 | (apply RT.call;(iterate 2 simp;exact iZ);exact iZ;(iterate 4 simp[hl,-bA];exact iZ);simp[Is];(try dsimp only [a8]) <;> exact rfl;simp;exact iZ;exact iZ)
 | (apply RT.callV;(iterate 2 simp;exact iZ);exact iZ;(iterate 3 simp[hl,-bA];exact iZ);(try dsimp only [a8]) <;> exact rfl)
 | (apply RT.callT (hd:=oZ) (hk:=tW);(iterate 2 simp;exact iZ);exact iZ;(iterate 2 simp[hl,-bA];exact iZ);(try dsimp only [a8]) <;> exact rfl)
 | (apply RT.wr;simp[hl,-bA];exact iZ;(try dsimp only [a8]) <;> exact rfl;simp[hl,-bA];exact iZ;(iterate 2 exact iZ);exact iZ)));exact RT.nil);(case hc=>(show _=_;kernel_rfl));(case ht=>simp[hl,-bA];exact iZ))
 | apply WP.block|apply WP.skip|apply WP.exit|apply WP.ret)
 exact hk.out):G:=h hl ⟨k⟩
theorem fI {L:Prop} (hl:L) {G G':Prop} (k:G') (h:Wk L G G':=by
 intro hl hk
 repeat (first
 | apply WP.seq
 | (apply WP.reg;(case hR=>dsimp only [e8,eA,List.map,gS,gZ];exact iZ);(case hr=>(repeat (first
 | (apply RT.op;simp[hl,-bA];exact iZ;(try dsimp only [a8]) <;> exact rfl)
 | (apply RT.call;(iterate 2 simp;exact iZ);exact iZ;(iterate 4 simp[hl,-bA];exact iZ);simp[Is];(try dsimp only [a8]) <;> exact rfl;simp;exact iZ;exact iZ)
 | (apply RT.callV;(iterate 2 simp;exact iZ);exact iZ;(iterate 3 simp[hl,-bA];exact iZ);(try dsimp only [a8]) <;> exact rfl)
 | (apply RT.wr;simp[hl,-bA];exact iZ;(try dsimp only [a8]) <;> exact rfl;simp[hl,-bA];exact iZ;(iterate 2 exact iZ);exact iZ)));exact RT.nil);(case hc=>(show _=_;kernel_rfl));(case ht=>simp[hl,-bA];exact iZ))
 | apply WP.block|apply WP.skip|apply WP.exit|apply WP.ret|refine WP.condT rfl ?_|refine WP.condF rfl ?_)
 exact hk.out):G:=h hl ⟨k⟩
theorem bY {L:Prop} (hl:L) {G G':Prop} (k:G') (h:Wk L G G':=by
 intro hl hk
 repeat (first
 | apply WP.seq
 | (apply WP.reg;(case hR=>dsimp only [e8,eA,List.map,gS,gZ];exact iZ);(case hr=>(repeat (first
 | (apply RT.op;simp[hl,-bA];exact iZ;(try dsimp only [a8]) <;> exact rfl)
 | (apply RT.call;(iterate 2 simp;exact iZ);exact iZ;(iterate 4 simp[hl,-bA];exact iZ);simp[Is];(try dsimp only [a8]) <;> exact rfl;simp;exact iZ;exact iZ)
 | (apply RT.callV;(iterate 2 simp;exact iZ);exact iZ;(iterate 3 simp[hl,-bA];exact iZ);(try dsimp only [a8]) <;> exact rfl)
 | (apply RT.callT (hd:=oZ) (hk:=tW);(iterate 2 simp;exact iZ);exact iZ;(iterate 2 simp[hl,-bA];exact iZ);(try dsimp only [a8]) <;> exact rfl)
 | (apply RT.wr;simp[hl,-bA];exact iZ;(try dsimp only [a8]) <;> exact rfl;simp[hl,-bA];exact iZ;(iterate 2 exact iZ);exact iZ)));exact RT.nil);(case hc=>(show _=_;kernel_rfl));(case ht=>simp[hl,-bA];exact iZ))
 | apply WP.block|apply WP.skip|apply WP.exit|apply WP.ret|refine WP.condT rfl ?_|refine WP.condF rfl ?_)
 exact hk.out):G:=h hl ⟨k⟩
theorem aND {L:Prop} (hl:L) {G G':Prop} (k:G') (h:Wk L G G':=by
 intro hl hk
 repeat (first
 | apply WP.seq
 | (apply WP.reg;(case hR=>dsimp only [e8,eA,List.map,gS,gZ];exact iZ);(case hr=>(repeat (first
 | (apply RT.op;simp[hl,-bA];exact iZ;(try dsimp only [a8]) <;> exact rfl)
 | (apply RT.call;(iterate 2 simp;exact iZ);exact iZ;(iterate 4 simp[hl,-bA];exact iZ);simp[Is];(try dsimp only [a8]) <;> exact rfl;simp;exact iZ;exact iZ)
 | (apply RT.callV;(iterate 2 simp;exact iZ);exact iZ;(iterate 3 simp[hl,-bA];exact iZ);(try dsimp only [a8]) <;> exact rfl)
 | (apply RT.callI (hd:=hI1) (hne:=hI2) (hw:=hI3) (hwr:=xK);(iterate 2 simp;exact iZ);exact iZ;(iterate 2 simp[hl,-bA];exact iZ);(try dsimp only [a8]) <;> exact rfl;(first|omega|simp))
 | (apply RT.wr;simp[hl,-bA];exact iZ;(try dsimp only [a8]) <;> exact rfl;simp[hl,-bA];exact iZ;(iterate 2 exact iZ);exact iZ)));exact RT.nil);(case hc=>(show _=_;kernel_rfl));(case ht=>simp[hl,-bA];exact iZ))
 | apply WP.block|apply WP.skip|apply WP.exit|apply WP.ret|refine WP.condT rfl ?_|refine WP.condF rfl ?_)
 exact hk.out):G:=h hl ⟨k⟩
end Go.Ac
end
section
set_option maxRecDepth 4000
namespace Go.Ac
open Go.Proofs
attribute [local simp] Hp.get_set dA cK cR bW
theorem aRQ (r:Nat):Ob.keep 134 r=Ob.k134 r:=by kernel_rfl
theorem aOK (r:Nat):Ob.keep 109 r=Ob.k109 r:=by kernel_rfl
theorem aUl (r:Nat):Ob.keep 70 r=Ob.k70 r:=by kernel_rfl
attribute [local simp] aRQ Ob.k134 aOK Ob.k109 aUl Ob.k70
theorem aLw {o:Oc} {c:Cl} (rT:∀ x,cZ c x≠0→0<fC o.en (cZ c x)):∀ (N:Nat),(∀ (l:List Y) cx bf,hH l<N→fR o c cx bf l=0→nbL l=true):=by
 intro N
 induction N with
 | zero=>intro l cx bf h;omega
 | succ N ih=>
 intro l
 induction l with
 | nil=>intro cx bf _ _;rw[nbL]
 | cons y r ihl=>
  intro cx bf hN h
  rw[fR] at h
  split at h
  ·rename_i hne;exact absurd h hne
  rename_i hz
  have hz:wA o c cx bf y=0:=by simpa using hz
  rw[hH] at hN
  rw[nbL,ihl cx _ (by omega) h,Bool.and_true,aLK]
  rw[zC] at hz
  split at hz
  ·cases hz
  rename_i hfe
  have hfe:aU y=true:=by simpa using hfe
  by_cases k3:y.k=3
  ·rw[if_neg (by omega),if_neg (by omega),if_pos k3] at hz
   split at hz
   ·cases hz
   rename_i hg
   split at hz
   ·cases hz
   split at hz
   ·cases hz
   split at hz
   ·cases hz
   rename_i eY
   have hp:=rT _ hg
   have aYx:y.brs≠[]:=fun e=>by rw[e] at eY;simp at eY;omega
   have hb:∀ (brs:List (List Y)) k,szB brs<y.sz→uJ o c cx bf y.nm k brs=0→nbB brs=true:=by
    intro brs
    induction brs with
    | nil=>intro k _ _;rw[nbB]
    | cons b s ihb=>
     intro k hs h
     rw[uJ] at h
     split at h
     ·rename_i hne;exact absurd h hne
     rename_i hz
     have hz:fR o c (cx++[⟨y.nm,k⟩]) bf b=0:=by simpa using hz
     rw[szB] at hs
     rw[nbB,ih b _ _ (by omega) hz,ihb _ (by omega) h];rfl
   rw[hb _ _ (by rw[Y.sz_eq y];omega) hz]
   simp[aYx]
  ·have hbr:y.brs=[]:=by
    unfold aU at hfe
    by_cases k12:y.k=1∨y.k=2
    ·rw[if_pos k12] at hfe;simp at hfe;exact hfe.2
    ·rw[if_neg k12,if_neg k3] at hfe
     by_cases k4:y.k=4
     ·rw[if_pos k4] at hfe;simp at hfe;exact hfe.2
     ·rw[if_neg k4] at hfe
      by_cases k5:y.k=5
      ·rw[if_pos k5] at hfe;simp at hfe;exact hfe.2
      ·rw[if_neg k5] at hfe;cases hfe
   rw[hbr,nbB];simp[k3]
section
variable {ic gc iv gv ip gp im gm ii gi:Nat} {o:Oc} {ea:List Cl} {c:Cl}
def y6 (ic gc iv gv ip gp im gm ii gi:Nat) (o:Oc) (ea:List Cl) (c:Cl) (N:Nat):Prop:=∀ (l:List Y) (cx:List Pr) (bl:List (List Y)),hH l<N→bl.length≤cx.length→nbB bl=true→cx.length+hH bl.flatten+hH l≤8388600→okY l→
 QK ic gc iv gv ip gp im gm ii gi o ea c 70 [.ptr ic gc 0,dL (dJ l),pP cx bl] (dI (fR o c cx bl.flatten l))
set_option maxHeartbeats 4000000 in
theorem aLM {N:Nat} (ih:y6 ic gc iv gv ip gp im gm ii gi o ea c N) (hW:KW o c) (cx:List Pr) (bl:List (List Y)) (hl:bl.length≤cx.length+1) (hnb:nbB bl=true) (y:Y) (hN:y.sz<N+1) (oE:cx.length+hH bl.flatten+y.sz≤8388600) (cE:y.ok):
  QK ic gc iv gv ip gp im gm ii gi o ea c 134 [.ptr ic gc 0,aG y.cells,pP cx bl] (dI (yI ⟨o,c,bl.flatten,cx⟩ y)):=by
 intro hp n cc hK
 obtain ⟨hy1,hy2,hy3,hy4⟩:=Y.ok_eq cE
 have m8:=Y.sz_eq y
 have k1:=rZ y.brs
 have hB:BOK cx bl:=⟨by unfold MX;omega,hnb,by omega⟩
 have eD:=hK.co
 have nc:=nf hK.lc
 have nv:=nf hK.lv
 have vB:=fun (look:cA) (sz by_:Nat) (zr:Option (List V)) (y:Tx) (h:look iv=hp.get iv)=>hK.look_vars (look:=look) (sz:=sz) (by_:=by_) (zr:=zr) (x:=y) h
 have gB:=aMu o.en (cZ c y.nm) (hW.i64 _)
 obtain ⟨F,G,hr⟩:=(aHh (ic:=ic) (gc:=gc) (iv:=iv) (gv:=gv) (ip:=ip) (gp:=gp) (im:=im) (gm:=gm) (ii:=ii) (gi:=gi) (ea:=ea) hW y.nm cx bl hB.len hB.nb hB.sz).fn hK
 simp only[dS,pP,dI,dL] at hr gB
 refine iR Tryz.func134 rfl (by kernel_rfl) rfl (fun _=>rfl) ?_
 unfold yI
 show WP _ _ _ _ _ (aEV _ _ _ (dI (if cZ c y.nm=0 then 6 else if lO ⟨o,c,bl.flatten,cx⟩ y.nm=false then 22 else if y.t≠cZ c y.nm∨cZ c y.nm=2 then 10 else if (y.brs.length:Int)≠fC o.en (cZ c y.nm) then 9 else uJ o c cx bl.flatten y.nm 0 y.brs)))
 by_cases hz:cZ c y.nm=0
 ·rw[if_pos hz]
  refine tF (tS @aN @aO @aD @pP.eq_1 @aC @aA @eD @nc @nv @vB @zt3 @hz) ?_
  exact ⟨.inr rfl,rfl,_,rfl,rfl⟩
 have lV:=eq_false hz
 rw[if_neg hz]
 cases hy:lO ⟨o,c,bl.flatten,cx⟩ y.nm with
 | false=>
  rw[hy] at hr
  rw[if_pos rfl]
  refine tF (oY @aN @aO @aD @pP.eq_1 @aC @aA @eD @nc @nv @vB @zt3 @lV @hr) ?_
  exact ⟨.inr rfl,rfl,_,rfl,rfl⟩
 | true=>
 rw[hy] at hr
 rw[if_neg (by decide)]
 by_cases ht:y.t=cZ c y.nm
 case neg=>
  have ht':(cZ c y.nm=y.t)=False:=eq_false fun e=>ht e.symm
  rw[if_pos (.inl ht)]
  refine tF (uV @aN @aO @aD @pP.eq_1 @aC @aA @eD @nc @nv @vB @zt3 @lV @hr @aV @ht') ?_
  exact ⟨.inr rfl,rfl,_,rfl,rfl⟩
 have ht':(cZ c y.nm=y.t)=True:=eq_true ht.symm
 by_cases h2:cZ c y.nm=2
 ·rw[if_pos (.inr h2)]
  have h2y:y.t=2:=ht.trans h2
  refine tF (uN @aN @aO @aD @pP.eq_1 @aC @aA @eD @nc @nv @vB @zt3 @hr @h2 @h2y) ?_
  exact ⟨.inr rfl,rfl,_,rfl,rfl⟩
 have sV:=eq_false h2
 have h2y:(y.t=2)=False:=eq_false (by rw[ht];exact h2)
 rw[if_neg (fun h=>h.elim (fun h=>h ht) h2)]
 by_cases hs:(y.brs.length:Int)=fC o.en (cZ c y.nm)
 case neg=>
  have hs':=eq_false hs
  rw[if_pos hs]
  refine tF (j20 @aN @aO @aD @pP.eq_1 @aC @aA @eD @nc @nv @vB @zt3 @lV @hr @aV @aS @ht @sV @gB @hs' @aX) ?_
  exact ⟨.inr rfl,rfl,_,rfl,rfl⟩
 have hs':=eq_true hs
 rw[if_neg (by simp[hs])]
 refine tF (j20 @aN @aO @aD @pP.eq_1 @aC @aA @eD @nc @nv @vB @zt3 @lV @hr @aV @aS @ht @sV @gB @hs' @aX) ?_
 apply WP.loop' (I:=fun D s=>∃ (j c':Nat) (bD:Hp),j+D=y.brs.length∧uJ o c cx bl.flatten y.nm j (y.brs.drop j)=uJ o c cx bl.flatten y.nm 0 y.brs∧Ag n hp bD∧bD.get n=some ⟨cc,false,y.cells.map .d⟩∧bD.get (n+1)=some ⟨cc+1,false,[V.d (.slice (iB cx)),V.d (.slice (iA bl))]⟩∧
  s=⟨[(0,.ptr ic gc 0),(4,.ptr n cc 0),(5,.ptr (n+1) (cc+1) 0),(52,dL (iA y.brs)),(53,dI y.brs.length),(54,dI j)],bD,n+2,c',n,[]⟩) (d:=y.brs.length)
 ·exact ⟨0,_,_,by simp,by simp,by simp,by simp[aC,ht],by simp,bK (by simp[dI,dL]) rfl⟩
 rintro D _ ⟨j,c',bD,hj,hv,d8,rI,jA,rfl⟩
 have dR:=eq_true d8
 rw[aC] at rI
 simp only[List.map_cons,List.map_nil] at rI
 refine aLT (jn @aB @aA) ?_
 show WP _ _ _ _ _ _
 refine WP.cond _ rfl (fun hb=>?_) (fun hb=>?_)
 ·simp at hb
  have bR:j<y.brs.length:=by omega
  obtain ⟨b,wL,yU,tV⟩:=bL bR
  have kL:=lH wL
  have dH:=bG bR (by omega)
  have hbs:=gJ yU
  obtain ⟨F,G,hr⟩:=(ih b (cx++[⟨y.nm,j⟩]) bl (by omega) (by simp;omega) hnb (by simp;omega) ((wQ _).1 hy4 b yU)).fn hK
  rw[g8 wL,uJ] at hv
  have r1:=fun look=>aAi look (gG cx)
  have f1:bT cx.length 24=true:=by simp[bT];omega
  rw[lE] at r1
  have r2:=cT (gG cx)
  have r3:=cL (gG cx)
  have r4:=dW (iB cx) (Pr.cells ⟨y.nm,j⟩)
  have r5:=aAz cx ⟨y.nm,j⟩
  have r6:=cT (gG (cx++[⟨y.nm,j⟩]))
  have r7:=cL (gG (cx++[⟨y.nm,j⟩]))
  have r8:=eJ (gG (cx++[⟨y.nm,j⟩]))
  have f2:bT (cx.length+1) 24=true:=by simp[bT];omega
  rw[r5] at r4
  rw[lE] at r2 r3
  simp only[lE,List.length_append,List.length_cons,List.length_nil,Nat.zero_add] at r6 r7 r8
  simp only[Pr.cells,List.map_cons,List.map_nil] at r4
  simp only[pP,dI,dL] at hr
  by_cases hz:fR o c (cx++[⟨y.nm,j⟩]) bl.flatten b=0
  case neg=>
   have lV:=eq_false hz
   rw[if_pos hz] at hv
   rw[←hv]
   repeat (first
 | apply WP.seq
 | (apply WP.reg;(case hR=>dsimp only [e8,eA,List.map,gS,gZ];exact iZ);(case hr=>(repeat (first
 | (apply RT.op;simp[dI,dL,rI,jA,dR,tV,kL,r1,f1,f2,r2,r3,r4,r6,r7,r8,bN,bI,b8,cG,bJ,hr,bC,iE,aV,lV];exact iZ;(try dsimp only [a8]) <;> exact rfl)
 | (apply RT.call;(iterate 2 simp;exact iZ);exact iZ;(iterate 4 simp[dI,dL,rI,jA,dR,tV,kL,r1,f1,f2,r2,r3,r4,r6,r7,r8,bN,bI,b8,cG,bJ,hr,bC,iE,aV,lV];exact iZ);simp[Is];(try dsimp only [a8]) <;> exact rfl;simp;exact iZ;simp;exact iZ)
 | (apply RT.clone;(iterate 2 simp;exact iZ);exact iZ;(iterate 2 simp[dI,dL,rI,jA,dR,tV,kL,r1,f1,f2,r2,r3,r4,r6,r7,r8,bN,bI,b8,cG,bJ,hr,bC,iE,aV,lV];exact iZ);(first|assumption|(simp[bT];omega));(try dsimp only [a8]) <;> exact rfl;simp[dI,dL,rI,jA,dR,tV,kL,r1,f1,f2,r2,r3,r4,r6,r7,r8,bN,bI,b8,cG,bJ,hr,bC,iE,aV,lV];exact iZ;simp;exact iZ)
 | (apply RT.callV;(iterate 2 simp;exact iZ);exact iZ;(iterate 3 simp[dI,dL,rI,jA,dR,tV,kL,r1,f1,f2,r2,r3,r4,r6,r7,r8,bN,bI,b8,cG,bJ,hr,bC,iE,aV,lV];exact iZ);(try dsimp only [a8]) <;> exact rfl)
 | (apply RT.wr;simp[dI,dL,rI,jA,dR,tV,kL,r1,f1,f2,r2,r3,r4,r6,r7,r8,bN,bI,b8,cG,bJ,hr,bC,iE,aV,lV];exact iZ;(try dsimp only [a8]) <;> exact rfl;simp[dI,dL,rI,jA,dR,tV,kL,r1,f1,f2,r2,r3,r4,r6,r7,r8,bN,bI,b8,cG,bJ,hr,bC,iE,aV,lV];exact iZ;(iterate 2 exact iZ);simp;exact iZ)));exact RT.nil);(case hc=>first|(refine c8 [(0,1),(0,2),(1,2),(0,3),(1,3),(0,4),(1,4),(0,5),(1,5),(2,5),(3,5),(4,5),(0,6),(1,6),(2,6),(3,6),(4,6),(0,7),(1,7),(2,7),(3,7),(4,7),(5,7),(6,7),(0,8),(1,8),(2,8),(3,8),(4,8),(0,9),(1,9),(2,9),(3,9),(4,9),(0,10),(1,10),(0,11),(1,11),(2,11),(3,11),(4,11),(5,11),(6,11),(7,11),(8,11),(9,11),(10,11),(0,12),(1,12),(2,12),(3,12),(4,12),(5,12),(6,12),(7,12),(8,12),(9,12),(10,12),(0,13),(1,13)] (by kernel_rfl) (by kernel_rfl) rfl ?_;simp[lF,jX,dY,nc];done)|(show _=_;kernel_rfl));(case ht=>simp[dI,dL,rI,jA,dR,tV,kL,r1,f1,f2,r2,r3,r4,r6,r7,r8,bN,bI,b8,cG,bJ,hr,bC,iE,aV,lV];exact iZ))
 | apply WP.block|apply WP.skip|apply WP.exit|apply WP.ret|refine WP.condT rfl ?_|refine WP.condF rfl ?_)
   exact ⟨.inr rfl,rfl,_,rfl,rfl⟩
  rw[if_neg (by simp[hz])] at hv
  rw[hz] at hr
  repeat (first
 | apply WP.seq
 | (apply WP.reg;(case hR=>dsimp only [e8,eA,List.map,gS,gZ];exact iZ);(case hr=>(repeat (first
 | (apply RT.op;simp[dI,dL,rI,jA,dR,tV,kL,r1,f1,f2,r2,r3,r4,r6,r7,r8,bN,bI,b8,cG,bJ,hr,bC,iE,aV];exact iZ;(try dsimp only [a8]) <;> exact rfl)
 | (apply RT.call;(iterate 2 simp;exact iZ);exact iZ;(iterate 4 simp[dI,dL,rI,jA,dR,tV,kL,r1,f1,f2,r2,r3,r4,r6,r7,r8,bN,bI,b8,cG,bJ,hr,bC,iE,aV];exact iZ);simp[Is];(try dsimp only [a8]) <;> exact rfl;simp;exact iZ;simp;exact iZ)
 | (apply RT.clone;(iterate 2 simp;exact iZ);exact iZ;(iterate 2 simp[dI,dL,rI,jA,dR,tV,kL,r1,f1,f2,r2,r3,r4,r6,r7,r8,bN,bI,b8,cG,bJ,hr,bC,iE,aV];exact iZ);(first|assumption|(simp[bT];omega));(try dsimp only [a8]) <;> exact rfl;simp[dI,dL,rI,jA,dR,tV,kL,r1,f1,f2,r2,r3,r4,r6,r7,r8,bN,bI,b8,cG,bJ,hr,bC,iE,aV];exact iZ;simp;exact iZ)
 | (apply RT.callV;(iterate 2 simp;exact iZ);exact iZ;(iterate 3 simp[dI,dL,rI,jA,dR,tV,kL,r1,f1,f2,r2,r3,r4,r6,r7,r8,bN,bI,b8,cG,bJ,hr,bC,iE,aV];exact iZ);(try dsimp only [a8]) <;> exact rfl)
 | (apply RT.wr;simp[dI,dL,rI,jA,dR,tV,kL,r1,f1,f2,r2,r3,r4,r6,r7,r8,bN,bI,b8,cG,bJ,hr,bC,iE,aV];exact iZ;(try dsimp only [a8]) <;> exact rfl;simp[dI,dL,rI,jA,dR,tV,kL,r1,f1,f2,r2,r3,r4,r6,r7,r8,bN,bI,b8,cG,bJ,hr,bC,iE,aV];exact iZ;(iterate 2 exact iZ);simp;exact iZ)));exact RT.nil);(case hc=>first|(refine c8 [(0,1),(0,2),(1,2),(0,3),(1,3),(0,4),(1,4),(0,5),(1,5),(2,5),(3,5),(4,5),(0,6),(1,6),(2,6),(3,6),(4,6),(0,7),(1,7),(2,7),(3,7),(4,7),(5,7),(6,7),(0,8),(1,8),(2,8),(3,8),(4,8),(0,9),(1,9),(2,9),(3,9),(4,9),(0,10),(1,10),(0,11),(1,11),(2,11),(3,11),(4,11),(5,11),(6,11),(7,11),(8,11),(9,11),(10,11),(0,12),(1,12),(2,12),(3,12),(4,12),(5,12),(6,12),(7,12),(8,12),(9,12),(10,12),(0,13),(1,13)] (by kernel_rfl) (by kernel_rfl) rfl ?_;simp[lF,jX,dY,nc];done)|(show _=_;kernel_rfl));(case ht=>simp[dI,dL,rI,jA,dR,tV,kL,r1,f1,f2,r2,r3,r4,r6,r7,r8,bN,bI,b8,cG,bJ,hr,bC,iE,aV];exact iZ))
 | apply WP.block|apply WP.skip|apply WP.exit|apply WP.ret|refine WP.condT rfl ?_|refine WP.condF rfl ?_)
  refine aY (by simp[dH];exact Is.rfl) ?_
  exact ⟨D - 1,by omega,j+1,_,_,by omega,hv,by simp[d8],by simp[rI,aC],by simp[jA],bK (by simp[dI,dL,dH]) rfl⟩
 ·simp at hb
  have eM:j=y.brs.length:=by omega
  rw[eM,List.drop_length,uJ] at hv
  rw[←hv]
  refine tF (jn @aB @aA) ?_
  exact ⟨.inr rfl,rfl,_,rfl,rfl⟩
end
end Go.Ac
end
