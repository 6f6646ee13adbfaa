/- Cases, statements, lists: the program's. -/
import Derived.Test.YtkgekafdhehleaaGreatObPjM
set_option linter.unusedVariables false
set_option linter.unusedSimpArgs false
section
set_option maxRecDepth 4000
namespace Go.Ac
open Go.Proofs
attribute [local simp] Hp.get_set cY cE cN bW
theorem aUl (r:Nat):Ob.keep 135 r=Ob.k135 r:=by kernel_rfl
attribute [local simp] aUl Ob.k135
theorem dX (a b:Nat):Nat.beq a b=decide (a=b):=by
 by_cases h:a=b
 ·subst h;simp
 ·rw[aCN h,decide_eq_false h]
theorem aNc (w:Pl) (pre:List Tx) (x:Tx) (d:Dc):aKG w x (decide (x∈pre)) d.t=aBA w pre x d:=by unfold aKG aBA;simp
section
variable {ic gc iv gv ip gp im gm ii gi:Nat} {o:Oc} {ea:List Cl} {c:Cl}
set_option maxHeartbeats 4000000 in
theorem aOP (hW:KW o c) (cx:List Pr) (bl:List (List Y)) (hB:BOK cx bl) (y:Y) (gK:y.sz≤MX) (cC:okX y.args):
  QK ic gc iv gv ip gp im gm ii gi o ea c 135 [.ptr ic gc 0,aG y.cells,pP cx bl] (dI (aDY ⟨o,c,bl.flatten,cx⟩ y)):=by
 intro hp n cc hK
 unfold MX at gK
 rw[Y.sz_eq] at gK
 have k1:=gV y.args
 have k2:=oU y.outs
 have eH:=hK.co
 have nc:=nf hK.lc
 have ni:=nf hK.li
 have vO:=fun (look:cA) (sz by_:Nat) (zr:Option (List V)) (y:Tx) (h:look ii=hp.get ii)=>hK.look_ins (look:=look) (sz:=sz) (by_:=by_) (zr:=zr) (x:=y) h
 refine i9 Tryz.func135 rfl (by kernel_rfl) rfl (fun _=>rfl) ?_
 unfold aDY
 show WP _ _ _ _ _ (aFK _ _ _ (dI (if (fD c.ins o.cl y.nm).2=false then 6 else if y.args.length≠(fD c.ins o.cl y.nm).1.inn.length∨y.outs.length≠(fD c.ins o.cl y.nm).1.out.length then 9 else if mN ⟨o,c,bl.flatten,cx⟩ y.args (fD c.ins o.cl y.nm).1.inn≠0 then mN ⟨o,c,bl.flatten,cx⟩ y.args (fD c.ins o.cl y.nm).1.inn else s9 ⟨o,c,bl.flatten,cx⟩ [] y.outs (fD c.ins o.cl y.nm).1.out)))
 generalize hw:(⟨o,c,bl.flatten,cx⟩:Pl)=w
 have hf:∀ q,fD c.ins o.cl y.nm=q→True:=fun _ _=>trivial
 generalize hG:fD c.ins o.cl y.nm=G
 obtain ⟨g,ok⟩:=G
 cases ok with
 | false=>
  have mJ:aBD (g,false)= .agg [.d (.str []),.full [],.full [],.full [],.full [],.full [],.full []]:=rfl
  repeat (first
 | apply WP.seq
 | (apply WP.reg;(case hR=>dsimp only [eV,eA,List.map,gS,gZ];exact iZ);(case hr=>(repeat (first
 | (apply RT.op;simp[dG,aG,pP,aC,dL,eH,nc,ni,vO,kM,hG,mJ,bO];exact iZ;(try dsimp only [a7]) <;> exact rfl)
 | (apply RT.call;(iterate 2 simp;exact iZ);exact iZ;(iterate 4 simp[dG,aG,pP,aC,dL,eH,nc,ni,vO,kM,hG,mJ,bO];exact iZ);simp[Is];(try dsimp only [a7]) <;> exact rfl;simp;exact iZ;simp;exact iZ)
 | (apply RT.callV;(iterate 2 simp;exact iZ);exact iZ;(iterate 3 simp[dG,aG,pP,aC,dL,eH,nc,ni,vO,kM,hG,mJ,bO];exact iZ);(try dsimp only [a7]) <;> exact rfl)
 | (apply RT.wr;simp[dG,aG,pP,aC,dL,eH,nc,ni,vO,kM,hG,mJ,bO];exact iZ;(try dsimp only [a7]) <;> exact rfl;simp[dG,aG,pP,aC,dL,eH,nc,ni,vO,kM,hG,mJ,bO];exact iZ;(iterate 2 exact iZ);simp;exact iZ)));exact RT.nil);(case hc=>first|(refine cW [(0,4),(1,4),(2,4),(3,4),(0,5),(1,5),(2,5),(3,5),(8,9),(0,10),(1,10),(2,10),(3,10),(4,10),(5,10),(6,10),(7,10),(8,10),(9,10),(9,11)] (by kernel_rfl) (by kernel_rfl) rfl ?_;simp[lO,jW,dX,nc,ni];done)|(show _=_;kernel_rfl));(case ht=>simp[dG,aG,pP,aC,dL,eH,nc,ni,vO,kM,hG,mJ,bO];exact iZ))
 | apply WP.block|apply WP.skip|apply WP.exit|apply WP.ret|refine WP.condT rfl ?_|refine WP.condF rfl ?_)
  exact ⟨.inr rfl,rfl,_,rfl,rfl⟩
 | true=>
 have mJ:aBD (g,true)= .agg [V.d (.str g.nm),V.d (.slice (cM g.inn)),V.d (.slice (cM g.out)),V.d (.slice (cM g.loc)),V.d (.slice (lF g.mems)),V.d (.slice (lV g.ins)),V.d (.slice (dM g.step))]:=rfl
 rw[if_neg (by simp)]
 simp only[]
 by_cases c1:y.args.length=g.inn.length
 case neg=>
  have c1':((y.args.length:Int)=g.inn.length)=False:=eq_false (by omega)
  have c1'':=eq_false c1
  rw[if_pos (.inl c1)]
  repeat (first
 | apply WP.seq
 | (apply WP.reg;(case hR=>dsimp only [eV,eA,List.map,gS,gZ];exact iZ);(case hr=>(repeat (first
 | (apply RT.op;simp[dG,aG,pP,aC,dL,eH,nc,ni,vO,kM,hG,mJ,bO,aV,aT,bT,c1',c1''];exact iZ;(try dsimp only [a7]) <;> exact rfl)
 | (apply RT.call;(iterate 2 simp;exact iZ);exact iZ;(iterate 4 simp[dG,aG,pP,aC,dL,eH,nc,ni,vO,kM,hG,mJ,bO,aV,aT,bT,c1',c1''];exact iZ);simp[Is];(try dsimp only [a7]) <;> exact rfl;simp;exact iZ;simp;exact iZ)
 | (apply RT.callV;(iterate 2 simp;exact iZ);exact iZ;(iterate 3 simp[dG,aG,pP,aC,dL,eH,nc,ni,vO,kM,hG,mJ,bO,aV,aT,bT,c1',c1''];exact iZ);(try dsimp only [a7]) <;> exact rfl)
 | (apply RT.wr;simp[dG,aG,pP,aC,dL,eH,nc,ni,vO,kM,hG,mJ,bO,aV,aT,bT,c1',c1''];exact iZ;(try dsimp only [a7]) <;> exact rfl;simp[dG,aG,pP,aC,dL,eH,nc,ni,vO,kM,hG,mJ,bO,aV,aT,bT,c1',c1''];exact iZ;(iterate 2 exact iZ);simp;exact iZ)));exact RT.nil);(case hc=>first|(refine cW [(0,4),(1,4),(2,4),(3,4),(0,5),(1,5),(2,5),(3,5),(8,9),(0,10),(1,10),(2,10),(3,10),(4,10),(5,10),(6,10),(7,10),(8,10),(9,10),(9,11)] (by kernel_rfl) (by kernel_rfl) rfl ?_;simp[lO,jW,dX,nc,ni];done)|(show _=_;kernel_rfl));(case ht=>simp[dG,aG,pP,aC,dL,eH,nc,ni,vO,kM,hG,mJ,bO,aV,aT,bT,c1',c1''];exact iZ))
 | apply WP.block|apply WP.skip|apply WP.exit|apply WP.ret|refine WP.condT rfl ?_|refine WP.condF rfl ?_)
  exact ⟨.inr rfl,rfl,_,rfl,rfl⟩
 have c1':((y.args.length:Int)=g.inn.length)=True:=eq_true (by omega)
 by_cases c2:y.outs.length=g.out.length
 case neg=>
  have c2':((y.outs.length:Int)=g.out.length)=False:=eq_false (by omega)
  have c2'':=eq_false c2
  rw[if_pos (.inr c2)]
  repeat (first
 | apply WP.seq
 | (apply WP.reg;(case hR=>dsimp only [eV,eA,List.map,gS,gZ];exact iZ);(case hr=>(repeat (first
 | (apply RT.op;simp[dG,aG,pP,aC,dL,eH,nc,ni,vO,kM,hG,mJ,bO,aV,aT,aW,bT,c1,c2',c2''];exact iZ;(try dsimp only [a7]) <;> exact rfl)
 | (apply RT.call;(iterate 2 simp;exact iZ);exact iZ;(iterate 4 simp[dG,aG,pP,aC,dL,eH,nc,ni,vO,kM,hG,mJ,bO,aV,aT,aW,bT,c1,c2',c2''];exact iZ);simp[Is];(try dsimp only [a7]) <;> exact rfl;simp;exact iZ;simp;exact iZ)
 | (apply RT.callV;(iterate 2 simp;exact iZ);exact iZ;(iterate 3 simp[dG,aG,pP,aC,dL,eH,nc,ni,vO,kM,hG,mJ,bO,aV,aT,aW,bT,c1,c2',c2''];exact iZ);(try dsimp only [a7]) <;> exact rfl)
 | (apply RT.wr;simp[dG,aG,pP,aC,dL,eH,nc,ni,vO,kM,hG,mJ,bO,aV,aT,aW,bT,c1,c2',c2''];exact iZ;(try dsimp only [a7]) <;> exact rfl;simp[dG,aG,pP,aC,dL,eH,nc,ni,vO,kM,hG,mJ,bO,aV,aT,aW,bT,c1,c2',c2''];exact iZ;(iterate 2 exact iZ);simp;exact iZ)));exact RT.nil);(case hc=>first|(refine cW [(0,4),(1,4),(2,4),(3,4),(0,5),(1,5),(2,5),(3,5),(8,9),(0,10),(1,10),(2,10),(3,10),(4,10),(5,10),(6,10),(7,10),(8,10),(9,10),(9,11)] (by kernel_rfl) (by kernel_rfl) rfl ?_;simp[lO,jW,dX,nc,ni];done)|(show _=_;kernel_rfl));(case ht=>simp[dG,aG,pP,aC,dL,eH,nc,ni,vO,kM,hG,mJ,bO,aV,aT,aW,bT,c1,c2',c2''];exact iZ))
 | apply WP.block|apply WP.skip|apply WP.exit|apply WP.ret|refine WP.condT rfl ?_|refine WP.condF rfl ?_)
  exact ⟨.inr rfl,rfl,_,rfl,rfl⟩
 rw[if_neg (fun h=>h.elim (fun h=>h c1) (fun h=>h c2))]
 repeat (first
 | apply WP.seq
 | (apply WP.reg;(case hR=>dsimp only [eV,eA,List.map,gS,gZ];exact iZ);(case hr=>(repeat (first
 | (apply RT.op;simp[dG,aG,pP,aC,dL,eH,nc,ni,vO,kM,hG,mJ,bO,aV,aT,aW,bT,c1,c2];exact iZ;(try dsimp only [a7]) <;> exact rfl)
 | (apply RT.call;(iterate 2 simp;exact iZ);exact iZ;(iterate 4 simp[dG,aG,pP,aC,dL,eH,nc,ni,vO,kM,hG,mJ,bO,aV,aT,aW,bT,c1,c2];exact iZ);simp[Is];(try dsimp only [a7]) <;> exact rfl;simp;exact iZ;simp;exact iZ)
 | (apply RT.callV;(iterate 2 simp;exact iZ);exact iZ;(iterate 3 simp[dG,aG,pP,aC,dL,eH,nc,ni,vO,kM,hG,mJ,bO,aV,aT,aW,bT,c1,c2];exact iZ);(try dsimp only [a7]) <;> exact rfl)
 | (apply RT.wr;simp[dG,aG,pP,aC,dL,eH,nc,ni,vO,kM,hG,mJ,bO,aV,aT,aW,bT,c1,c2];exact iZ;(try dsimp only [a7]) <;> exact rfl;simp[dG,aG,pP,aC,dL,eH,nc,ni,vO,kM,hG,mJ,bO,aV,aT,aW,bT,c1,c2];exact iZ;(iterate 2 exact iZ);simp;exact iZ)));exact RT.nil);(case hc=>first|(refine cW [(0,4),(1,4),(2,4),(3,4),(0,5),(1,5),(2,5),(3,5),(8,9),(0,10),(1,10),(2,10),(3,10),(4,10),(5,10),(6,10),(7,10),(8,10),(9,10),(9,11)] (by kernel_rfl) (by kernel_rfl) rfl ?_;simp[lO,jW,dX,nc,ni];done)|(show _=_;kernel_rfl));(case ht=>simp[dG,aG,pP,aC,dL,eH,nc,ni,vO,kM,hG,mJ,bO,aV,aT,aW,bT,c1,c2];exact iZ))
 | apply WP.block|apply WP.skip|apply WP.exit|apply WP.ret|refine WP.condT rfl ?_|refine WP.condF rfl ?_)
 apply WP.loop' (I:=fun D s=>∃ (j c':Nat) (bB:Hp),j+D=y.args.length∧mN w (y.args.drop j) (g.inn.drop j)=mN w y.args g.inn∧Ag n hp bB∧bB.get n=some ⟨cc,false,y.cells.map .d⟩∧bB.get (n+1)=some ⟨cc+1,false,[V.d (.slice (iJ cx)),V.d (.slice (iL bl))]⟩∧bB.get (n+2)=some ⟨cc+2,false,g.cells.map .d⟩∧
  s=⟨[(0,.ptr ic gc 0),(4,.ptr n cc 0),(5,.ptr (n+1) (cc+1) 0),(7,.ptr (n+2) (cc+2) 0),(45,dL (gC y.args)),(46,dI y.args.length),(47,dI j)],bB,n+3,c',n,[]⟩) (d:=y.args.length)
 ·exact ⟨0,_,_,by simp,by simp,by simp,by simp[aC],by simp,by simp[Cl.cells],bK (by simp[dI,dL,c1]) rfl⟩
 rintro D _ ⟨j,c',bB,hj,hv,dW,rW,jI,n8,rfl⟩
 have dN:=eq_true dW
 rw[aC] at rW
 simp only[Cl.cells,List.map_cons,List.map_nil] at rW n8
 refine pS (jn @aB @aA) ?_
 show WP _ _ _ _ _ _
 refine WP.cond _ rfl (fun hb=>?_) (fun hb=>?_)
 ·simp at hb
  have bP:j<y.args.length:=by omega
  have lC:j<g.inn.length:=by omega
  obtain ⟨x,hx,hxm,bV⟩:=bM bP
  obtain ⟨d,hd,d8,c8⟩:=bM lC
  have hx':=i8 hx
  have cG:=eD hd
  have c9:=bE bP (by omega)
  have aRT:=(u9 _).1 cC x hxm
  obtain ⟨F,G,hr⟩:=(aKu (ic:=ic) (gc:=gc) (iv:=iv) (gv:=gv) (ip:=ip) (gp:=gp) (im:=im) (gm:=gm) (ii:=ii) (gi:=gi) (ea:=ea) hW cx bl hB x (by have:=dZ hxm;unfold MX;omega) aRT).fn hK
  rw[hw] at hr
  simp only[aG,pP,aE,List.map_cons,List.map_nil,dI] at hr
  rw[iF hx,iF hd,mN] at hv
  by_cases hz:(eF w x).2=0
  case neg=>
   have mK:=eq_false hz
   have ha:tZ w x d=(eF w x).2:=by unfold tZ;rw[if_pos hz]
   rw[ha,if_pos hz] at hv
   rw[←hv,if_pos hz]
   refine cT (vM @aB @aA @rW @jI @n8 @dN @bV @hx' @aE @hr @aV @mK @aH @aI) ?_
   exact ⟨.inr rfl,rfl,_,rfl,rfl⟩
  rw[hz,aHx hz] at hr
  by_cases ht:(eF w x).1=d.t
  case neg=>
   have ht':=eq_false ht
   have ha:tZ w x d=10:=by unfold tZ;rw[if_neg (by simp[hz]),if_pos ht]
   rw[ha,if_pos (by decide)] at hv
   rw[←hv,if_pos (by decide)]
   refine cT (j19 @aB @aA @rW @jI @n8 @dN @aT @bT @bV @c8 @hx' @cG @aE @aR @hr @aV @ht' @aH @aI) ?_
   exact ⟨.inr rfl,rfl,_,rfl,rfl⟩
  have ha:tZ w x d=0:=by unfold tZ;rw[if_neg (by simp[hz]),if_neg (by simp[ht])]
  rw[ha,if_neg (by decide)] at hv
  have ht':=eq_true ht
  refine cT (j19 @aB @aA @rW @jI @n8 @dN @aT @bT @bV @c8 @hx' @cG @aE @aR @hr @aV @ht' @aH @aI) ?_
  refine aY (by simp[c9];exact Is.rfl) ?_
  exact ⟨D - 1,by omega,j+1,_,_,by omega,hv,by simp[dW],by simp[rW,aC],by simp[jI],by simp[n8,Cl.cells],bK (by simp[dI,dL,c9]) rfl⟩
 ·simp at hb
  have eE:j=y.args.length:=by omega
  rw[eE,List.drop_length,aEz] at hv
  rw[←hv,if_neg (by decide)]
  refine cT (j6 @aB @aA @rW @jI @n8 @dN) ?_
  apply WP.loop' (I:=fun D s=>∃ (j c':Nat) (bB:Hp),j+D=y.outs.length∧s9 w (y.outs.take j) (y.outs.drop j) (g.out.drop j)=s9 w [] y.outs g.out∧Ag n hp bB∧bB.get n=some ⟨cc,false,y.cells.map .d⟩∧bB.get (n+1)=some ⟨cc+1,false,[V.d (.slice (iJ cx)),V.d (.slice (iL bl))]⟩∧bB.get (n+2)=some ⟨cc+2,false,g.cells.map .d⟩∧
   s=⟨[(0,.ptr ic gc 0),(4,.ptr n cc 0),(5,.ptr (n+1) (cc+1) 0),(7,.ptr (n+2) (cc+2) 0),(72,dL (eX y.outs)),(73,dI y.outs.length),(74,dI j)],bB,n+3,c',n,[]⟩) (d:=y.outs.length)
  ·exact ⟨0,_,_,by simp,by simp,dW,by simp[rW,aC],jI,by simp[n8,Cl.cells],bK (by simp[dI,dL]) rfl⟩
  clear hv hj eE hb rW jI n8 dN dW bB
  rintro D2 _ ⟨j,c2,bB,hj,hv,dW,rW,jI,n8,rfl⟩
  have dN:=eq_true dW
  rw[aC] at rW
  simp only[Cl.cells,List.map_cons,List.map_nil] at rW n8
  refine pS (jn @aB @aA) ?_
  show WP _ _ _ _ _ _
  refine WP.cond _ rfl (fun hb=>?_) (fun hb=>?_)
  ·simp at hb
   have bP:j<y.outs.length:=by omega
   have lC:j<g.out.length:=by omega
   obtain ⟨x,hx,hxm,bV⟩:=bM bP
   obtain ⟨d,hd,d8,c8⟩:=bM lC
   have hx':=sW hx
   have cG:=eD hd
   have c9:=bE bP (by omega)
   have h75:=aCd (y.outs.take j) x (by unfold MX;rw[List.length_take];omega)
   obtain ⟨F,G,ht⟩:=(aEG (ic:=ic) (gc:=gc) (iv:=iv) (gv:=gv) (ip:=ip) (gp:=gp) (im:=im) (gm:=gm) (ii:=ii) (gi:=gi) (ea:=ea) hW cx bl hB x (decide (x∈y.outs.take j)) d.t).fn hK
   rw[hw,aNc] at ht
   simp only[dL,dS,dB,dI,pP] at h75 ht
   rw[iF hx,iF hd,s9] at hv
   have vV:=bL hx
   rw[←vV] at hv
   have yY:=fun look e b z=>oA look e b z (cU y.outs) (j:=j) (by rw[aW];omega)
   have etk:=aBo y.outs j
   by_cases hz:aBA w (y.outs.take j) x d=0
   case neg=>
    have mK:=eq_false hz
    rw[if_pos hz] at hv
    rw[←hv]
    refine cT (j19 @aB @aA @rW @jI @n8 @dN @aW @bT @bV @c8 @hx' @cG @aR @yY @etk @h75 @ht @aV @mK) ?_
    exact ⟨.inr rfl,rfl,_,rfl,rfl⟩
   rw[if_neg (by simp[hz])] at hv
   rw[hz] at ht
   refine cT (vP @aB @aA @rW @jI @n8 @dN @aW @bT @bV @c8 @hx' @cG @aR @yY @etk @h75 @ht @aV) ?_
   refine aY (by simp[c9];exact Is.rfl) ?_
   exact ⟨D2 - 1,by omega,j+1,_,_,by omega,hv,by simp[dW],by simp[rW,aC],by simp[jI],by simp[n8,Cl.cells],bK (by simp[dI,dL,c9]) rfl⟩
  ·simp at hb
   have eE:j=y.outs.length:=by omega
   rw[eE,List.drop_length,aFa] at hv
   rw[←hv]
   refine cT (jn @aB @aA) ?_
   exact ⟨.inr rfl,rfl,_,rfl,rfl⟩
end
end Go.Ac
end
section
namespace Go.Ac
theorem aMD {L:Prop} (hl:L) {G G':Prop} (k:G') (h:Wk L G G':=by
 intro hl hk
 repeat (first
 | apply WP.seq
 | (apply WP.reg;(case hR=>dsimp only [eV,eA,List.map,gS,gZ];exact iZ);(case hr=>(repeat (first
 | (apply RT.op;simp[hl];exact iZ;(try dsimp only [a7]) <;> exact rfl)
 | (apply RT.call;(iterate 2 simp;exact iZ);exact iZ;(iterate 4 simp[hl];exact iZ);simp[Is];(try dsimp only [a7]) <;> exact rfl;simp;exact iZ;simp;exact iZ)
 | (apply RT.clone;(iterate 2 simp;exact iZ);exact iZ;(iterate 2 simp[hl];exact iZ);(first|assumption|(simp[bU];omega));(try dsimp only [a7]) <;> exact rfl;simp[hl];exact iZ;simp;exact iZ)
 | (apply RT.callV;(iterate 2 simp;exact iZ);exact iZ;(iterate 3 simp[hl];exact iZ);(try dsimp only [a7]) <;> exact rfl)
 | (apply RT.wr;simp[hl];exact iZ;(try dsimp only [a7]) <;> exact rfl;simp[hl];exact iZ;(iterate 2 exact iZ);simp;exact iZ)));exact RT.nil);(case hc=>(show _=_;kernel_rfl));(case ht=>simp[hl];exact iZ))
 | apply WP.block|apply WP.skip|apply WP.exit|apply WP.ret)
 exact hk.out):G:=h hl ⟨k⟩
theorem aPb {L:Prop} (hl:L) {G G':Prop} (k:G') (h:Wk L G G':=by
 intro hl hk
 repeat (first
 | apply WP.seq
 | (apply WP.reg;(case hR=>dsimp only [eV,eA,List.map,gS,gZ];exact iZ);(case hr=>(repeat (first
 | (apply RT.op;simp[hl];exact iZ;(try dsimp only [a7]) <;> exact rfl)
 | (apply RT.call;(iterate 2 simp;exact iZ);exact iZ;(iterate 4 simp[hl];exact iZ);simp[Is];(try dsimp only [a7]) <;> exact rfl;simp;exact iZ;simp;exact iZ)
 | (apply RT.callV;(iterate 2 simp;exact iZ);exact iZ;(iterate 3 simp[hl];exact iZ);(try dsimp only [a7]) <;> exact rfl)
 | (apply RT.callI (hd:=hI1) (hne:=hI2) (hw:=hI3) (hwr:=yG);(iterate 2 simp;exact iZ);exact iZ;(iterate 2 simp[hl];exact iZ);(try dsimp only [a7]) <;> exact rfl;(first|omega|simp))
 | (apply RT.wr;simp[hl];exact iZ;(try dsimp only [a7]) <;> exact rfl;simp[hl];exact iZ;(iterate 2 exact iZ);simp;exact iZ)));exact RT.nil);(case hc=>(show _=_;kernel_rfl));(case ht=>simp[hl];exact iZ))
 | apply WP.block|apply WP.skip|apply WP.exit|apply WP.ret)
 exact hk.out):G:=h hl ⟨k⟩
theorem aMu {L:Prop} (hl:L) {G G':Prop} (k:G') (h:Wk L G G':=by
 intro hl hk
 repeat (first
 | apply WP.seq
 | (apply WP.reg;(case hR=>dsimp only [eV,eA,List.map,gS,gZ];exact iZ);(case hr=>(repeat (first
 | (apply RT.op;simp[hl];exact iZ;(try dsimp only [a7]) <;> exact rfl)
 | (apply RT.call;(iterate 2 simp;exact iZ);exact iZ;(iterate 4 simp[hl];exact iZ);simp[Is];(try dsimp only [a7]) <;> exact rfl;simp;exact iZ;simp;exact iZ)
 | (apply RT.callV;(iterate 2 simp;exact iZ);exact iZ;(iterate 3 simp[hl];exact iZ);(try dsimp only [a7]) <;> exact rfl)
 | (apply RT.callI (hd:=hI1) (hne:=hI2) (hw:=hI3) (hwr:=yG);(iterate 2 simp;exact iZ);exact iZ;(iterate 2 simp[hl];exact iZ);(try dsimp only [a7]) <;> exact rfl;(first|omega|simp))
 | (apply RT.callT (hd:=lZ) (hk:=rX);(iterate 2 simp;exact iZ);exact iZ;(iterate 2 simp[hl];exact iZ);(try dsimp only [a7]) <;> exact rfl)
 | (apply RT.wr;simp[hl];exact iZ;(try dsimp only [a7]) <;> exact rfl;simp[hl];exact iZ;(iterate 2 exact iZ);simp;exact iZ)));exact RT.nil);(case hc=>(show _=_;kernel_rfl));(case ht=>simp[hl];exact iZ))
 | apply WP.block|apply WP.skip|apply WP.exit|apply WP.ret)
 exact hk.out):G:=h hl ⟨k⟩
theorem tX {L:Prop} (hl:L) {G G':Prop} (k:G') (h:Wk L G G':=by
 intro hl hk
 repeat (first
 | apply WP.seq
 | (apply WP.reg;(case hR=>dsimp only [eV,eA,List.map,gS,gZ];exact iZ);(case hr=>(repeat (first
 | (apply RT.op;simp[hl];exact iZ;(try dsimp only [a7]) <;> exact rfl)
 | (apply RT.call;(iterate 2 simp;exact iZ);exact iZ;(iterate 4 simp[hl];exact iZ);simp[Is];(try dsimp only [a7]) <;> exact rfl;simp;exact iZ;simp;exact iZ)
 | (apply RT.clone;(iterate 2 simp;exact iZ);exact iZ;(iterate 2 simp[hl];exact iZ);(first|assumption|(simp[bU];omega));(try dsimp only [a7]) <;> exact rfl;simp[hl];exact iZ;simp;exact iZ)
 | (apply RT.callV;(iterate 2 simp;exact iZ);exact iZ;(iterate 3 simp[hl];exact iZ);(try dsimp only [a7]) <;> exact rfl)
 | (apply RT.wr;simp[hl];exact iZ;(try dsimp only [a7]) <;> exact rfl;simp[hl];exact iZ;(iterate 2 exact iZ);simp;exact iZ)));exact RT.nil);(case hc=>(show _=_;kernel_rfl));(case ht=>simp[hl];exact iZ))
 | apply WP.block|apply WP.skip|apply WP.exit|apply WP.ret|refine WP.condT rfl ?_|refine WP.condF rfl ?_)
 exact hk.out):G:=h hl ⟨k⟩
theorem pZ {L:Prop} (hl:L) {G G':Prop} (k:G') (h:Wk L G G':=by
 intro hl hk
 repeat (first
 | apply WP.seq
 | (apply WP.reg;(case hR=>dsimp only [eV,eA,List.map,gS,gZ];exact iZ);(case hr=>(repeat (first
 | (apply RT.op;simp[hl];exact iZ;(try dsimp only [a7]) <;> exact rfl)
 | (apply RT.call;(iterate 2 simp;exact iZ);exact iZ;(iterate 4 simp[hl];exact iZ);simp[Is];(try dsimp only [a7]) <;> exact rfl;simp;exact iZ;simp;exact iZ)
 | (apply RT.callV;(iterate 2 simp;exact iZ);exact iZ;(iterate 3 simp[hl];exact iZ);(try dsimp only [a7]) <;> exact rfl)
 | (apply RT.callI (hd:=hI1) (hne:=hI2) (hw:=hI3) (hwr:=yG);(iterate 2 simp;exact iZ);exact iZ;(iterate 2 simp[hl];exact iZ);(try dsimp only [a7]) <;> exact rfl;(first|omega|simp))
 | (apply RT.wr;simp[hl];exact iZ;(try dsimp only [a7]) <;> exact rfl;simp[hl];exact iZ;(iterate 2 exact iZ);simp;exact iZ)));exact RT.nil);(case hc=>(show _=_;kernel_rfl));(case ht=>simp[hl];exact iZ))
 | apply WP.block|apply WP.skip|apply WP.exit|apply WP.ret|refine WP.condT rfl ?_|refine WP.condF rfl ?_)
 exact hk.out):G:=h hl ⟨k⟩
theorem gN {L:Prop} (hl:L) {G G':Prop} (k:G') (h:Wk L G G':=by
 intro hl hk
 repeat (first
 | apply WP.seq
 | (apply WP.reg;(case hR=>dsimp only [eV,eA,List.map,gS,gZ];exact iZ);(case hr=>(repeat (first
 | (apply RT.op;simp[hl];exact iZ;(try dsimp only [a7]) <;> exact rfl)
 | (apply RT.call;(iterate 2 simp;exact iZ);exact iZ;(iterate 4 simp[hl];exact iZ);simp[Is];(try dsimp only [a7]) <;> exact rfl;simp;exact iZ;simp;exact iZ)
 | (apply RT.callV;(iterate 2 simp;exact iZ);exact iZ;(iterate 3 simp[hl];exact iZ);(try dsimp only [a7]) <;> exact rfl)
 | (apply RT.callI (hd:=hI1) (hne:=hI2) (hw:=hI3) (hwr:=yG);(iterate 2 simp;exact iZ);exact iZ;(iterate 2 simp[hl];exact iZ);(try dsimp only [a7]) <;> exact rfl;(first|omega|simp))
 | (apply RT.callT (hd:=lZ) (hk:=rX);(iterate 2 simp;exact iZ);exact iZ;(iterate 2 simp[hl];exact iZ);(try dsimp only [a7]) <;> exact rfl)
 | (apply RT.wr;simp[hl];exact iZ;(try dsimp only [a7]) <;> exact rfl;simp[hl];exact iZ;(iterate 2 exact iZ);simp;exact iZ)));exact RT.nil);(case hc=>(show _=_;kernel_rfl));(case ht=>simp[hl];exact iZ))
 | apply WP.block|apply WP.skip|apply WP.exit|apply WP.ret|refine WP.condT rfl ?_|refine WP.condF rfl ?_)
 exact hk.out):G:=h hl ⟨k⟩
theorem aDJ {L:Prop} (hl:L) {G G':Prop} (k:G') (h:Wk L G G':=by
 intro hl hk
 repeat (first
 | apply WP.seq
 | (apply WP.reg;(case hR=>dsimp only [eV,eA,List.map,gS,gZ];exact iZ);(case hr=>(repeat (first
 | (apply RT.op;simp[hl,-a9];exact iZ;(try dsimp only [a7]) <;> exact rfl)
 | (apply RT.call;(iterate 2 simp;exact iZ);exact iZ;(iterate 4 simp[hl,-a9];exact iZ);simp[Is];(try dsimp only [a7]) <;> exact rfl;simp;exact iZ;exact iZ)
 | (apply RT.callV;(iterate 2 simp;exact iZ);exact iZ;(iterate 3 simp[hl,-a9];exact iZ);(try dsimp only [a7]) <;> exact rfl)
 | (apply RT.wr;simp[hl,-a9];exact iZ;(try dsimp only [a7]) <;> exact rfl;simp[hl,-a9];exact iZ;(iterate 2 exact iZ);exact iZ)));exact RT.nil);(case hc=>(show _=_;kernel_rfl));(case ht=>simp[hl,-a9];exact iZ))
 | apply WP.block|apply WP.skip|apply WP.exit|apply WP.ret)
 exact hk.out):G:=h hl ⟨k⟩
theorem iX {L:Prop} (hl:L) {G G':Prop} (k:G') (h:Wk L G G':=by
 intro hl hk
 repeat (first
 | apply WP.seq
 | (apply WP.reg;(case hR=>dsimp only [eV,eA,List.map,gS,gZ];exact iZ);(case hr=>(repeat (first
 | (apply RT.op;simp[hl,-a9];exact iZ;(try dsimp only [a7]) <;> exact rfl)
 | (apply RT.call;(iterate 2 simp;exact iZ);exact iZ;(iterate 4 simp[hl,-a9];exact iZ);simp[Is];(try dsimp only [a7]) <;> exact rfl;simp;exact iZ;exact iZ)
 | (apply RT.callV;(iterate 2 simp;exact iZ);exact iZ;(iterate 3 simp[hl,-a9];exact iZ);(try dsimp only [a7]) <;> exact rfl)
 | (apply RT.callT (hd:=lZ) (hk:=rX);(iterate 2 simp;exact iZ);exact iZ;(iterate 2 simp[hl,-a9];exact iZ);(try dsimp only [a7]) <;> exact rfl)
 | (apply RT.wr;simp[hl,-a9];exact iZ;(try dsimp only [a7]) <;> exact rfl;simp[hl,-a9];exact iZ;(iterate 2 exact iZ);exact iZ)));exact RT.nil);(case hc=>(show _=_;kernel_rfl));(case ht=>simp[hl,-a9];exact iZ))
 | apply WP.block|apply WP.skip|apply WP.exit|apply WP.ret)
 exact hk.out):G:=h hl ⟨k⟩
theorem fK {L:Prop} (hl:L) {G G':Prop} (k:G') (h:Wk L G G':=by
 intro hl hk
 repeat (first
 | apply WP.seq
 | (apply WP.reg;(case hR=>dsimp only [eV,eA,List.map,gS,gZ];exact iZ);(case hr=>(repeat (first
 | (apply RT.op;simp[hl,-a9];exact iZ;(try dsimp only [a7]) <;> exact rfl)
 | (apply RT.call;(iterate 2 simp;exact iZ);exact iZ;(iterate 4 simp[hl,-a9];exact iZ);simp[Is];(try dsimp only [a7]) <;> exact rfl;simp;exact iZ;exact iZ)
 | (apply RT.callV;(iterate 2 simp;exact iZ);exact iZ;(iterate 3 simp[hl,-a9];exact iZ);(try dsimp only [a7]) <;> exact rfl)
 | (apply RT.wr;simp[hl,-a9];exact iZ;(try dsimp only [a7]) <;> exact rfl;simp[hl,-a9];exact iZ;(iterate 2 exact iZ);exact iZ)));exact RT.nil);(case hc=>(show _=_;kernel_rfl));(case ht=>simp[hl,-a9];exact iZ))
 | apply WP.block|apply WP.skip|apply WP.exit|apply WP.ret|refine WP.condT rfl ?_|refine WP.condF rfl ?_)
 exact hk.out):G:=h hl ⟨k⟩
theorem bN {L:Prop} (hl:L) {G G':Prop} (k:G') (h:Wk L G G':=by
 intro hl hk
 repeat (first
 | apply WP.seq
 | (apply WP.reg;(case hR=>dsimp only [eV,eA,List.map,gS,gZ];exact iZ);(case hr=>(repeat (first
 | (apply RT.op;simp[hl,-a9];exact iZ;(try dsimp only [a7]) <;> exact rfl)
 | (apply RT.call;(iterate 2 simp;exact iZ);exact iZ;(iterate 4 simp[hl,-a9];exact iZ);simp[Is];(try dsimp only [a7]) <;> exact rfl;simp;exact iZ;exact iZ)
 | (apply RT.callV;(iterate 2 simp;exact iZ);exact iZ;(iterate 3 simp[hl,-a9];exact iZ);(try dsimp only [a7]) <;> exact rfl)
 | (apply RT.callT (hd:=lZ) (hk:=rX);(iterate 2 simp;exact iZ);exact iZ;(iterate 2 simp[hl,-a9];exact iZ);(try dsimp only [a7]) <;> exact rfl)
 | (apply RT.wr;simp[hl,-a9];exact iZ;(try dsimp only [a7]) <;> exact rfl;simp[hl,-a9];exact iZ;(iterate 2 exact iZ);exact iZ)));exact RT.nil);(case hc=>(show _=_;kernel_rfl));(case ht=>simp[hl,-a9];exact iZ))
 | apply WP.block|apply WP.skip|apply WP.exit|apply WP.ret|refine WP.condT rfl ?_|refine WP.condF rfl ?_)
 exact hk.out):G:=h hl ⟨k⟩
theorem aOX {L:Prop} (hl:L) {G G':Prop} (k:G') (h:Wk L G G':=by
 intro hl hk
 repeat (first
 | apply WP.seq
 | (apply WP.reg;(case hR=>dsimp only [eV,eA,List.map,gS,gZ];exact iZ);(case hr=>(repeat (first
 | (apply RT.op;simp[hl,-a9];exact iZ;(try dsimp only [a7]) <;> exact rfl)
 | (apply RT.call;(iterate 2 simp;exact iZ);exact iZ;(iterate 4 simp[hl,-a9];exact iZ);simp[Is];(try dsimp only [a7]) <;> exact rfl;simp;exact iZ;exact iZ)
 | (apply RT.callV;(iterate 2 simp;exact iZ);exact iZ;(iterate 3 simp[hl,-a9];exact iZ);(try dsimp only [a7]) <;> exact rfl)
 | (apply RT.callI (hd:=hI1) (hne:=hI2) (hw:=hI3) (hwr:=yG);(iterate 2 simp;exact iZ);exact iZ;(iterate 2 simp[hl,-a9];exact iZ);(try dsimp only [a7]) <;> exact rfl;(first|omega|simp))
 | (apply RT.wr;simp[hl,-a9];exact iZ;(try dsimp only [a7]) <;> exact rfl;simp[hl,-a9];exact iZ;(iterate 2 exact iZ);exact iZ)));exact RT.nil);(case hc=>(show _=_;kernel_rfl));(case ht=>simp[hl,-a9];exact iZ))
 | apply WP.block|apply WP.skip|apply WP.exit|apply WP.ret|refine WP.condT rfl ?_|refine WP.condF rfl ?_)
 exact hk.out):G:=h hl ⟨k⟩
end Go.Ac
end
section
set_option maxRecDepth 4000
namespace Go.Ac
open Go.Proofs
attribute [local simp] Hp.get_set cY cE cN bW
theorem aVz (r:Nat):Ob.keep 134 r=Ob.k134 r:=by kernel_rfl
theorem aPF (r:Nat):Ob.keep 109 r=Ob.k109 r:=by kernel_rfl
theorem aUs (r:Nat):Ob.keep 70 r=Ob.k70 r:=by kernel_rfl
attribute [local simp] aVz Ob.k134 aPF Ob.k109 aUs Ob.k70
theorem aNi {o:Oc} {c:Cl} (sI:∀ x,dF c x≠0→0<fG o.en (dF c x)):∀ (N:Nat),(∀ (l:List Y) cx bf,iG l<N→fU o c cx bf l=0→nbL l=true):=by
 intro N
 induction N with
 | zero=>intro l cx bf h;omega
 | succ N ih=>
 intro l
 induction l with
 | nil=>intro cx bf _ _;rw[nbL]
 | cons y r ihl=>
  intro cx bf hN h
  rw[fU] at h
  split at h
  ·rename_i hne;exact absurd h hne
  rename_i hz
  have hz:wG o c cx bf y=0:=by simpa using hz
  rw[iG] at hN
  rw[nbL,ihl cx _ (by omega) h,Bool.and_true,aNB]
  rw[aAJ] at hz
  split at hz
  ·cases hz
  rename_i hfe
  have hfe:aU y=true:=by simpa using hfe
  by_cases k3:y.k=3
  ·rw[if_neg (by omega),if_neg (by omega),if_pos k3] at hz
   split at hz
   ·cases hz
   rename_i hg
   split at hz
   ·cases hz
   split at hz
   ·cases hz
   split at hz
   ·cases hz
   rename_i e9
   have hp:=sI _ hg
   have aZk:y.brs≠[]:=fun e=>by rw[e] at e9;simp at e9;omega
   have hb:∀ (brs:List (List Y)) k,szB brs<y.sz→uY o c cx bf y.nm k brs=0→nbB brs=true:=by
    intro brs
    induction brs with
    | nil=>intro k _ _;rw[nbB]
    | cons b s ihb=>
     intro k hs h
     rw[uY] at h
     split at h
     ·rename_i hne;exact absurd h hne
     rename_i hz
     have hz:fU o c (cx++[⟨y.nm,k⟩]) bf b=0:=by simpa using hz
     rw[szB] at hs
     rw[nbB,ih b _ _ (by omega) hz,ihb _ (by omega) h];rfl
   rw[hb _ _ (by rw[Y.sz_eq y];omega) hz]
   simp[aZk]
  ·have hbr:y.brs=[]:=by
    unfold aU at hfe
    by_cases k12:y.k=1∨y.k=2
    ·rw[if_pos k12] at hfe;simp at hfe;exact hfe.2
    ·rw[if_neg k12,if_neg k3] at hfe
     by_cases k4:y.k=4
     ·rw[if_pos k4] at hfe;simp at hfe;exact hfe.2
     ·rw[if_neg k4] at hfe
      by_cases k5:y.k=5
      ·rw[if_pos k5] at hfe;simp at hfe;exact hfe.2
      ·rw[if_neg k5] at hfe;cases hfe
   rw[hbr,nbB];simp[k3]
section
variable {ic gc iv gv ip gp im gm ii gi:Nat} {o:Oc} {ea:List Cl} {c:Cl}
def aAa (ic gc iv gv ip gp im gm ii gi:Nat) (o:Oc) (ea:List Cl) (c:Cl) (N:Nat):Prop:=∀ (l:List Y) (cx:List Pr) (bl:List (List Y)),iG l<N→bl.length≤cx.length→nbB bl=true→cx.length+iG bl.flatten+iG l≤8388600→okY l→
 QK ic gc iv gv ip gp im gm ii gi o ea c 70 [.ptr ic gc 0,dL (dM l),pP cx bl] (dI (fU o c cx bl.flatten l))
set_option maxHeartbeats 4000000 in
theorem aNC {N:Nat} (ih:aAa ic gc iv gv ip gp im gm ii gi o ea c N) (hW:KW o c) (cx:List Pr) (bl:List (List Y)) (hl:bl.length≤cx.length+1) (hnb:nbB bl=true) (y:Y) (hN:y.sz<N+1) (oV:cx.length+iG bl.flatten+y.sz≤8388600) (cC:y.ok):
  QK ic gc iv gv ip gp im gm ii gi o ea c 134 [.ptr ic gc 0,aG y.cells,pP cx bl] (dI (zM ⟨o,c,bl.flatten,cx⟩ y)):=by
 intro hp n cc hK
 obtain ⟨hy1,hy2,hy3,hy4⟩:=Y.ok_eq cC
 have nU:=Y.sz_eq y
 have k1:=s8 y.brs
 have hB:BOK cx bl:=⟨by unfold MX;omega,hnb,by omega⟩
 have eH:=hK.co
 have nc:=nf hK.lc
 have nv:=nf hK.lv
 have vT:=fun (look:cA) (sz by_:Nat) (zr:Option (List V)) (y:Tx) (h:look iv=hp.get iv)=>hK.look_vars (look:=look) (sz:=sz) (by_:=by_) (zr:=zr) (x:=y) h
 have gK:=aLN o.en (dF c y.nm) (hW.i64 _)
 obtain ⟨F,G,hr⟩:=(aHJ (ic:=ic) (gc:=gc) (iv:=iv) (gv:=gv) (ip:=ip) (gp:=gp) (im:=im) (gm:=gm) (ii:=ii) (gi:=gi) (ea:=ea) hW y.nm cx bl hB.len hB.nb hB.sz).fn hK
 simp only[dS,pP,dI,dL] at hr gK
 refine i9 Tryz.func134 rfl (by kernel_rfl) rfl (fun _=>rfl) ?_
 unfold zM
 show WP _ _ _ _ _ (aFK _ _ _ (dI (if dF c y.nm=0 then 6 else if mG ⟨o,c,bl.flatten,cx⟩ y.nm=false then 22 else if y.t≠dF c y.nm∨dF c y.nm=2 then 10 else if (y.brs.length:Int)≠fG o.en (dF c y.nm) then 9 else uY o c cx bl.flatten y.nm 0 y.brs)))
 by_cases hz:dF c y.nm=0
 ·rw[if_pos hz]
  refine tX (qJ @aN @aO @aD @pP.eq_1 @aC @aA @eH @nc @nv @vT @zt3 @hz) ?_
  exact ⟨.inr rfl,rfl,_,rfl,rfl⟩
 have mK:=eq_false hz
 rw[if_neg hz]
 cases hy:mG ⟨o,c,bl.flatten,cx⟩ y.nm with
 | false=>
  rw[hy] at hr
  rw[if_pos rfl]
  refine tX (o9 @aN @aO @aD @pP.eq_1 @aC @aA @eH @nc @nv @vT @zt3 @mK @hr) ?_
  exact ⟨.inr rfl,rfl,_,rfl,rfl⟩
 | true=>
 rw[hy] at hr
 rw[if_neg (by decide)]
 by_cases ht:y.t=dF c y.nm
 case neg=>
  have ht':(dF c y.nm=y.t)=False:=eq_false fun e=>ht e.symm
  rw[if_pos (.inl ht)]
  refine tX (vG @aN @aO @aD @pP.eq_1 @aC @aA @eH @nc @nv @vT @zt3 @mK @hr @aV @ht') ?_
  exact ⟨.inr rfl,rfl,_,rfl,rfl⟩
 have ht':(dF c y.nm=y.t)=True:=eq_true ht.symm
 by_cases h2:dF c y.nm=2
 ·rw[if_pos (.inr h2)]
  have h2y:y.t=2:=ht.trans h2
  refine tX (vM @aN @aO @aD @pP.eq_1 @aC @aA @eH @nc @nv @vT @zt3 @hr @h2 @h2y) ?_
  exact ⟨.inr rfl,rfl,_,rfl,rfl⟩
 have tH:=eq_false h2
 have h2y:(y.t=2)=False:=eq_false (by rw[ht];exact h2)
 rw[if_neg (fun h=>h.elim (fun h=>h ht) h2)]
 by_cases hs:(y.brs.length:Int)=fG o.en (dF c y.nm)
 case neg=>
  have hs':=eq_false hs
  rw[if_pos hs]
  refine tX (j20 @aN @aO @aD @pP.eq_1 @aC @aA @eH @nc @nv @vT @zt3 @mK @hr @aV @aS @ht @tH @gK @hs' @aX) ?_
  exact ⟨.inr rfl,rfl,_,rfl,rfl⟩
 have hs':=eq_true hs
 rw[if_neg (by simp[hs])]
 refine tX (j20 @aN @aO @aD @pP.eq_1 @aC @aA @eH @nc @nv @vT @zt3 @mK @hr @aV @aS @ht @tH @gK @hs' @aX) ?_
 apply WP.loop' (I:=fun D s=>∃ (j c':Nat) (bB:Hp),j+D=y.brs.length∧uY o c cx bl.flatten y.nm j (y.brs.drop j)=uY o c cx bl.flatten y.nm 0 y.brs∧Ag n hp bB∧bB.get n=some ⟨cc,false,y.cells.map .d⟩∧bB.get (n+1)=some ⟨cc+1,false,[V.d (.slice (iJ cx)),V.d (.slice (iL bl))]⟩∧
  s=⟨[(0,.ptr ic gc 0),(4,.ptr n cc 0),(5,.ptr (n+1) (cc+1) 0),(52,dL (iL y.brs)),(53,dI y.brs.length),(54,dI j)],bB,n+2,c',n,[]⟩) (d:=y.brs.length)
 ·exact ⟨0,_,_,by simp,by simp,by simp,by simp[aC,ht],by simp,bK (by simp[dI,dL]) rfl⟩
 rintro D _ ⟨j,c',bB,hj,hv,dW,rW,jI,rfl⟩
 have dN:=eq_true dW
 rw[aC] at rW
 simp only[List.map_cons,List.map_nil] at rW
 refine aMD (jn @aB @aA) ?_
 show WP _ _ _ _ _ _
 refine WP.cond _ rfl (fun hb=>?_) (fun hb=>?_)
 ·simp at hb
  have bP:j<y.brs.length:=by omega
  obtain ⟨b,xG,zR,uH⟩:=bM bP
  have lC:=l9 xG
  have c9:=bE bP (by omega)
  have hbs:=gR zR
  obtain ⟨F,G,hr⟩:=(ih b (cx++[⟨y.nm,j⟩]) bl (by omega) (by simp;omega) hnb (by simp;omega) ((xT _).1 hy4 b zR)).fn hK
  rw[iF xG,uY] at hv
  have r1:=fun look=>aAM look (gO cx)
  have f1:bU cx.length 24=true:=by simp[bU];omega
  rw[lX] at r1
  have r2:=cR (gO cx)
  have r3:=cI (gO cx)
  have r4:=dT (iJ cx) (Pr.cells ⟨y.nm,j⟩)
  have r5:=aBu cx ⟨y.nm,j⟩
  have r6:=cR (gO (cx++[⟨y.nm,j⟩]))
  have r7:=cI (gO (cx++[⟨y.nm,j⟩]))
  have r8:=eN (gO (cx++[⟨y.nm,j⟩]))
  have f2:bU (cx.length+1) 24=true:=by simp[bU];omega
  rw[r5] at r4
  rw[lX] at r2 r3
  simp only[lX,List.length_append,List.length_cons,List.length_nil,Nat.zero_add] at r6 r7 r8
  simp only[Pr.cells,List.map_cons,List.map_nil] at r4
  simp only[pP,dI,dL] at hr
  by_cases hz:fU o c (cx++[⟨y.nm,j⟩]) bl.flatten b=0
  case neg=>
   have mK:=eq_false hz
   rw[if_pos hz] at hv
   rw[←hv]
   repeat (first
 | apply WP.seq
 | (apply WP.reg;(case hR=>dsimp only [eV,eA,List.map,gS,gZ];exact iZ);(case hr=>(repeat (first
 | (apply RT.op;simp[dI,dL,rW,jI,dN,uH,lC,r1,f1,f2,r2,r3,r4,r6,r7,r8,bO,bG,b8,cJ,bH,hr,bD,iE,aV,mK];exact iZ;(try dsimp only [a7]) <;> exact rfl)
 | (apply RT.call;(iterate 2 simp;exact iZ);exact iZ;(iterate 4 simp[dI,dL,rW,jI,dN,uH,lC,r1,f1,f2,r2,r3,r4,r6,r7,r8,bO,bG,b8,cJ,bH,hr,bD,iE,aV,mK];exact iZ);simp[Is];(try dsimp only [a7]) <;> exact rfl;simp;exact iZ;simp;exact iZ)
 | (apply RT.clone;(iterate 2 simp;exact iZ);exact iZ;(iterate 2 simp[dI,dL,rW,jI,dN,uH,lC,r1,f1,f2,r2,r3,r4,r6,r7,r8,bO,bG,b8,cJ,bH,hr,bD,iE,aV,mK];exact iZ);(first|assumption|(simp[bU];omega));(try dsimp only [a7]) <;> exact rfl;simp[dI,dL,rW,jI,dN,uH,lC,r1,f1,f2,r2,r3,r4,r6,r7,r8,bO,bG,b8,cJ,bH,hr,bD,iE,aV,mK];exact iZ;simp;exact iZ)
 | (apply RT.callV;(iterate 2 simp;exact iZ);exact iZ;(iterate 3 simp[dI,dL,rW,jI,dN,uH,lC,r1,f1,f2,r2,r3,r4,r6,r7,r8,bO,bG,b8,cJ,bH,hr,bD,iE,aV,mK];exact iZ);(try dsimp only [a7]) <;> exact rfl)
 | (apply RT.wr;simp[dI,dL,rW,jI,dN,uH,lC,r1,f1,f2,r2,r3,r4,r6,r7,r8,bO,bG,b8,cJ,bH,hr,bD,iE,aV,mK];exact iZ;(try dsimp only [a7]) <;> exact rfl;simp[dI,dL,rW,jI,dN,uH,lC,r1,f1,f2,r2,r3,r4,r6,r7,r8,bO,bG,b8,cJ,bH,hr,bD,iE,aV,mK];exact iZ;(iterate 2 exact iZ);simp;exact iZ)));exact RT.nil);(case hc=>first|(refine cW [(0,1),(0,2),(1,2),(0,3),(1,3),(0,4),(1,4),(0,5),(1,5),(2,5),(3,5),(4,5),(0,6),(1,6),(2,6),(3,6),(4,6),(0,7),(1,7),(2,7),(3,7),(4,7),(5,7),(6,7),(0,8),(1,8),(2,8),(3,8),(4,8),(0,9),(1,9),(2,9),(3,9),(4,9),(0,10),(1,10),(0,11),(1,11),(2,11),(3,11),(4,11),(5,11),(6,11),(7,11),(8,11),(9,11),(10,11),(0,12),(1,12),(2,12),(3,12),(4,12),(5,12),(6,12),(7,12),(8,12),(9,12),(10,12),(0,13),(1,13)] (by kernel_rfl) (by kernel_rfl) rfl ?_;simp[lO,jW,dX,nc];done)|(show _=_;kernel_rfl));(case ht=>simp[dI,dL,rW,jI,dN,uH,lC,r1,f1,f2,r2,r3,r4,r6,r7,r8,bO,bG,b8,cJ,bH,hr,bD,iE,aV,mK];exact iZ))
 | apply WP.block|apply WP.skip|apply WP.exit|apply WP.ret|refine WP.condT rfl ?_|refine WP.condF rfl ?_)
   exact ⟨.inr rfl,rfl,_,rfl,rfl⟩
  rw[if_neg (by simp[hz])] at hv
  rw[hz] at hr
  repeat (first
 | apply WP.seq
 | (apply WP.reg;(case hR=>dsimp only [eV,eA,List.map,gS,gZ];exact iZ);(case hr=>(repeat (first
 | (apply RT.op;simp[dI,dL,rW,jI,dN,uH,lC,r1,f1,f2,r2,r3,r4,r6,r7,r8,bO,bG,b8,cJ,bH,hr,bD,iE,aV];exact iZ;(try dsimp only [a7]) <;> exact rfl)
 | (apply RT.call;(iterate 2 simp;exact iZ);exact iZ;(iterate 4 simp[dI,dL,rW,jI,dN,uH,lC,r1,f1,f2,r2,r3,r4,r6,r7,r8,bO,bG,b8,cJ,bH,hr,bD,iE,aV];exact iZ);simp[Is];(try dsimp only [a7]) <;> exact rfl;simp;exact iZ;simp;exact iZ)
 | (apply RT.clone;(iterate 2 simp;exact iZ);exact iZ;(iterate 2 simp[dI,dL,rW,jI,dN,uH,lC,r1,f1,f2,r2,r3,r4,r6,r7,r8,bO,bG,b8,cJ,bH,hr,bD,iE,aV];exact iZ);(first|assumption|(simp[bU];omega));(try dsimp only [a7]) <;> exact rfl;simp[dI,dL,rW,jI,dN,uH,lC,r1,f1,f2,r2,r3,r4,r6,r7,r8,bO,bG,b8,cJ,bH,hr,bD,iE,aV];exact iZ;simp;exact iZ)
 | (apply RT.callV;(iterate 2 simp;exact iZ);exact iZ;(iterate 3 simp[dI,dL,rW,jI,dN,uH,lC,r1,f1,f2,r2,r3,r4,r6,r7,r8,bO,bG,b8,cJ,bH,hr,bD,iE,aV];exact iZ);(try dsimp only [a7]) <;> exact rfl)
 | (apply RT.wr;simp[dI,dL,rW,jI,dN,uH,lC,r1,f1,f2,r2,r3,r4,r6,r7,r8,bO,bG,b8,cJ,bH,hr,bD,iE,aV];exact iZ;(try dsimp only [a7]) <;> exact rfl;simp[dI,dL,rW,jI,dN,uH,lC,r1,f1,f2,r2,r3,r4,r6,r7,r8,bO,bG,b8,cJ,bH,hr,bD,iE,aV];exact iZ;(iterate 2 exact iZ);simp;exact iZ)));exact RT.nil);(case hc=>first|(refine cW [(0,1),(0,2),(1,2),(0,3),(1,3),(0,4),(1,4),(0,5),(1,5),(2,5),(3,5),(4,5),(0,6),(1,6),(2,6),(3,6),(4,6),(0,7),(1,7),(2,7),(3,7),(4,7),(5,7),(6,7),(0,8),(1,8),(2,8),(3,8),(4,8),(0,9),(1,9),(2,9),(3,9),(4,9),(0,10),(1,10),(0,11),(1,11),(2,11),(3,11),(4,11),(5,11),(6,11),(7,11),(8,11),(9,11),(10,11),(0,12),(1,12),(2,12),(3,12),(4,12),(5,12),(6,12),(7,12),(8,12),(9,12),(10,12),(0,13),(1,13)] (by kernel_rfl) (by kernel_rfl) rfl ?_;simp[lO,jW,dX,nc];done)|(show _=_;kernel_rfl));(case ht=>simp[dI,dL,rW,jI,dN,uH,lC,r1,f1,f2,r2,r3,r4,r6,r7,r8,bO,bG,b8,cJ,bH,hr,bD,iE,aV];exact iZ))
 | apply WP.block|apply WP.skip|apply WP.exit|apply WP.ret|refine WP.condT rfl ?_|refine WP.condF rfl ?_)
  refine aY (by simp[c9];exact Is.rfl) ?_
  exact ⟨D - 1,by omega,j+1,_,_,by omega,hv,by simp[dW],by simp[rW,aC],by simp[jI],bK (by simp[dI,dL,c9]) rfl⟩
 ·simp at hb
  have eE:j=y.brs.length:=by omega
  rw[eE,List.drop_length,uY] at hv
  rw[←hv]
  refine tX (jn @aB @aA) ?_
  exact ⟨.inr rfl,rfl,_,rfl,rfl⟩
end
end Go.Ac
end
