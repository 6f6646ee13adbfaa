/- The names of the program's class. -/
import Derived.Test.YtkgekafdhehleaaGreatObPlM
set_option linter.unusedVariables false
set_option linter.unusedSimpArgs false
section
set_option maxRecDepth 4000
namespace Go.Ac
open Go.Proofs
attribute [local simp] Hp.get_set dA cK cR bW aOK Ob.k109 aUl Ob.k70
theorem aKM {y:Y} (h:aU y=true):y.k=1∨y.k=2∨y.k=3∨y.k=4∨y.k=5:=by
 unfold aU at h
 by_cases k12:y.k=1∨y.k=2
 ·omega
 rw[if_neg k12] at h
 by_cases k3:y.k=3
 ·omega
 rw[if_neg k3] at h
 by_cases k4:y.k=4
 ·omega
 rw[if_neg k4] at h
 by_cases k5:y.k=5
 ·omega
 rw[if_neg k5] at h;cases h
section
variable {ic gc iv gv ip gp im gm ii gi:Nat} {o:Oc} {ea:List Cl} {c:Cl}
set_option maxHeartbeats 4000000 in
theorem aJb {N:Nat} (ih:y6 ic gc iv gv ip gp im gm ii gi o ea c N) (hW:KW o c) (cx:List Pr) (bl:List (List Y)) (hl:bl.length≤cx.length+1) (hnb:nbB bl=true) (y:Y) (hN:y.sz<N+1) (oE:cx.length+hH bl.flatten+y.sz≤8388600) (cE:y.ok):
  QK ic gc iv gv ip gp im gm ii gi o ea c 109 [.ptr ic gc 0,aG y.cells,pP cx bl] (dI (wA o c cx bl.flatten y)):=by
 intro hp n cc hK
 obtain ⟨hy1,hy2,hy3,hy4⟩:=Y.ok_eq cE
 have m8:=Y.sz_eq y
 have hB:BOK cx bl:=⟨by unfold MX;omega,hnb,by omega⟩
 have eD:=hK.co
 have nc:=nf hK.lc
 have ni:=nf hK.li
 have uY:=fun (look:cA) (sz by_:Nat) (zr:Option (List V)) (y:Tx) (h:look ii=hp.get ii)=>hK.look_ins (look:=look) (sz:=sz) (by_:=by_) (zr:=zr) (x:=y) h
 have hfm:=aOf y
 simp only[aG,aC,List.map_cons,List.map_nil,dB] at hfm
 refine iR Tryz.func109 rfl (by kernel_rfl) rfl (fun _=>rfl) ?_
 rw[zC]
 cases hfe:aU y with
 | false=>
  rw[hfe] at hfm
  rw[if_pos rfl]
  refine cV (j7 @aN @aO @aD @pP.eq_1 @aC @aA @hfm) ?_
  exact ⟨.inr rfl,rfl,_,rfl,rfl⟩
 | true=>
 rw[hfe] at hfm
 rw[if_neg (by decide)]
 have hst:=fun h=>(aLC (ic:=ic) (gc:=gc) (iv:=iv) (gv:=gv) (ip:=ip) (gp:=gp) (im:=im) (gm:=gm) (ii:=ii) (gi:=gi) (ea:=ea) hW cx bl hB y h (by unfold MX;omega) cE).fn hK
 rcases aKM hfe with q|q|q|q|q
 ·rw[if_pos q]
  obtain ⟨F,G,hr⟩:=hst (.inl q)
  rw[←show vL ⟨o,c,bl.flatten,cx⟩ y=(if (eB ⟨o,c,bl.flatten,cx⟩ y.r).2≠0 then (eB ⟨o,c,bl.flatten,cx⟩ y.r).2 else jB ⟨o,c,bl.flatten,cx⟩ y.nm (eB ⟨o,c,bl.flatten,cx⟩ y.r).1) by unfold vL;rw[if_pos q]]
  generalize vL ⟨o,c,bl.flatten,cx⟩ y=v at hr ⊢
  simp only[aG,pP,aC,List.map_cons,List.map_nil,dI,q] at hr
  simp only[q] at hfm
  refine cV (j9 @aN @aO @aD @pP.eq_1 @aC @aA @hfm @q @hr) ?_
  exact ⟨.inr rfl,rfl,_,rfl,rfl⟩
 ·rw[if_neg (by omega),if_pos q]
  obtain ⟨F,G,hr⟩:=hst (.inr q)
  rw[←show vL ⟨o,c,bl.flatten,cx⟩ y=(if (eB ⟨o,c,bl.flatten,cx⟩ y.r).2≠0 then (eB ⟨o,c,bl.flatten,cx⟩ y.r).2 else if eK c.mems y.nm=0 then 6 else if eK c.mems y.nm≠(eB ⟨o,c,bl.flatten,cx⟩ y.r).1 then 10 else 0) by unfold vL;rw[if_neg (by omega:¬ y.k=1)]]
  generalize vL ⟨o,c,bl.flatten,cx⟩ y=v at hr ⊢
  simp only[aG,pP,aC,List.map_cons,List.map_nil,dI,q] at hr
  simp only[q] at hfm
  refine cV (j9 @aN @aO @aD @pP.eq_1 @aC @aA @hfm @q @hr) ?_
  exact ⟨.inr rfl,rfl,_,rfl,rfl⟩
 ·rw[if_neg (by omega),if_neg (by omega),if_pos q]
  obtain ⟨F,G,hr⟩:=(aLM ih hW cx bl hl hnb y hN oE cE).fn hK
  rw[show (if cZ c y.nm=0 then (6:Int) else if lO ⟨o,c,bl.flatten,cx⟩ y.nm=false then 22 else if y.t≠cZ c y.nm∨cZ c y.nm=2 then 10 else if (y.brs.length:Int)≠fC o.en (cZ c y.nm) then 9 else uJ o c cx bl.flatten y.nm 0 y.brs)=yI ⟨o,c,bl.flatten,cx⟩ y from rfl]
  generalize yI ⟨o,c,bl.flatten,cx⟩ y=v at hr ⊢
  simp only[aG,pP,aC,List.map_cons,List.map_nil,dI,q] at hr
  simp only[q] at hfm
  refine cV (j9 @aN @aO @aD @pP.eq_1 @aC @aA @hfm @q @hr) ?_
  exact ⟨.inr rfl,rfl,_,rfl,rfl⟩
 ·rw[if_neg (by omega),if_neg (by omega),if_neg (by omega),if_pos q]
  obtain ⟨F,G,hr⟩:=(aNR (ic:=ic) (gc:=gc) (iv:=iv) (gv:=gv) (ip:=ip) (gp:=gp) (im:=im) (gm:=gm) (ii:=ii) (gi:=gi) (ea:=ea) hW cx bl hB y (by unfold MX;omega) hy3).fn hK
  simp only[aG,pP,aC,List.map_cons,List.map_nil,dI,q] at hr
  simp only[q] at hfm
  refine cV (j9 @aN @aO @aD @pP.eq_1 @aC @aA @hfm @q @hr) ?_
  exact ⟨.inr rfl,rfl,_,rfl,rfl⟩
 ·rw[if_neg (by omega),if_neg (by omega),if_neg (by omega),if_neg (by omega)]
  simp only[q] at hfm
  generalize hG:e9 c.ins o.cl y.nm=G
  obtain ⟨g,ok⟩:=G
  cases ok with
  | false=>
   have lU:aAP (g,false)= .agg [.d (.str []),.full [],.full [],.full [],.full [],.full [],.full []]:=rfl
   repeat (first
 | apply WP.seq
 | (apply WP.reg;(case hR=>dsimp only [e8,eA,List.map,gS,gZ];exact iZ);(case hr=>(repeat (first
 | (apply RT.op;simp[dD,aG,pP,aC,dL,hfm,q,eD,nc,ni,uY,jY,hG,lU,bN];exact iZ;(try dsimp only [a8]) <;> exact rfl)
 | (apply RT.call;(iterate 2 simp;exact iZ);exact iZ;(iterate 4 simp[dD,aG,pP,aC,dL,hfm,q,eD,nc,ni,uY,jY,hG,lU,bN];exact iZ);simp[Is];(try dsimp only [a8]) <;> exact rfl;simp;exact iZ;simp;exact iZ)
 | (apply RT.callV;(iterate 2 simp;exact iZ);exact iZ;(iterate 3 simp[dD,aG,pP,aC,dL,hfm,q,eD,nc,ni,uY,jY,hG,lU,bN];exact iZ);(try dsimp only [a8]) <;> exact rfl)
 | (apply RT.wr;simp[dD,aG,pP,aC,dL,hfm,q,eD,nc,ni,uY,jY,hG,lU,bN];exact iZ;(try dsimp only [a8]) <;> exact rfl;simp[dD,aG,pP,aC,dL,hfm,q,eD,nc,ni,uY,jY,hG,lU,bN];exact iZ;(iterate 2 exact iZ);simp;exact iZ)));exact RT.nil);(case hc=>first|(refine c8 [(0,4),(1,4),(2,4),(3,4),(0,5),(1,5),(2,5),(3,5),(8,9),(0,10),(1,10),(2,10),(3,10),(4,10),(5,10),(6,10),(7,10),(8,10),(9,10),(9,11)] (by kernel_rfl) (by kernel_rfl) rfl ?_;simp[lF,jX,dY,nc,ni];done)|(show _=_;kernel_rfl));(case ht=>simp[dD,aG,pP,aC,dL,hfm,q,eD,nc,ni,uY,jY,hG,lU,bN];exact iZ))
 | apply WP.block|apply WP.skip|apply WP.exit|apply WP.ret|refine WP.condT rfl ?_|refine WP.condF rfl ?_)
   exact ⟨.inr rfl,rfl,_,rfl,rfl⟩
  | true=>
   have lU:aAP (g,true)= .agg [V.d (.str g.nm),V.d (.slice (cM g.inn)),V.d (.slice (cM g.out)),V.d (.slice (cM g.loc)),V.d (.slice (lA g.mems)),V.d (.slice (mD g.ins)),V.d (.slice (dJ g.step))]:=rfl
   repeat (first
 | apply WP.seq
 | (apply WP.reg;(case hR=>dsimp only [e8,eA,List.map,gS,gZ];exact iZ);(case hr=>(repeat (first
 | (apply RT.op;simp[dD,aG,pP,aC,dL,hfm,q,eD,nc,ni,uY,jY,hG,lU,bN];exact iZ;(try dsimp only [a8]) <;> exact rfl)
 | (apply RT.call;(iterate 2 simp;exact iZ);exact iZ;(iterate 4 simp[dD,aG,pP,aC,dL,hfm,q,eD,nc,ni,uY,jY,hG,lU,bN];exact iZ);simp[Is];(try dsimp only [a8]) <;> exact rfl;simp;exact iZ;simp;exact iZ)
 | (apply RT.callV;(iterate 2 simp;exact iZ);exact iZ;(iterate 3 simp[dD,aG,pP,aC,dL,hfm,q,eD,nc,ni,uY,jY,hG,lU,bN];exact iZ);(try dsimp only [a8]) <;> exact rfl)
 | (apply RT.wr;simp[dD,aG,pP,aC,dL,hfm,q,eD,nc,ni,uY,jY,hG,lU,bN];exact iZ;(try dsimp only [a8]) <;> exact rfl;simp[dD,aG,pP,aC,dL,hfm,q,eD,nc,ni,uY,jY,hG,lU,bN];exact iZ;(iterate 2 exact iZ);simp;exact iZ)));exact RT.nil);(case hc=>first|(refine c8 [(0,4),(1,4),(2,4),(3,4),(0,5),(1,5),(2,5),(3,5),(8,9),(0,10),(1,10),(2,10),(3,10),(4,10),(5,10),(6,10),(7,10),(8,10),(9,10),(9,11)] (by kernel_rfl) (by kernel_rfl) rfl ?_;simp[lF,jX,dY,nc,ni];done)|(show _=_;kernel_rfl));(case ht=>simp[dD,aG,pP,aC,dL,hfm,q,eD,nc,ni,uY,jY,hG,lU,bN];exact iZ))
 | apply WP.block|apply WP.skip|apply WP.exit|apply WP.ret|refine WP.condT rfl ?_|refine WP.condF rfl ?_)
   exact ⟨.inr rfl,rfl,_,rfl,rfl⟩
theorem aNS (a b:List (List Y)):nbB (a++b)=(nbB a&&nbB b):=by simp[aAh]
set_option maxHeartbeats 4000000 in
theorem aKq {N:Nat} (ih:y6 ic gc iv gv ip gp im gm ii gi o ea c N) (hW:KW o c) (rT:∀ x,cZ c x≠0→0<fC o.en (cZ c x)) (l:List Y) (cx:List Pr) (bl:List (List Y)) (hN:hH l<N+1) (hl:bl.length≤cx.length) (hnb:nbB bl=true) (oE:cx.length+hH bl.flatten+hH l≤8388600) (cE:okY l):
  QK ic gc iv gv ip gp im gm ii gi o ea c 70 [.ptr ic gc 0,dL (dJ l),pP cx bl] (dI (fR o c cx bl.flatten l)):=by
 intro hp n cc hK
 have k1:=lJ l
 refine iR Tryz.func70 rfl (by kernel_rfl) rfl (fun _=>rfl) ?_
 refine cV (j5 @aN @aO @pP.eq_1 @aA @cQ) ?_
 apply WP.loop' (I:=fun D s=>∃ (j c':Nat) (bD:Hp),j+D=l.length∧fR o c cx (bl.flatten++l.take j) (l.drop j)=fR o c cx bl.flatten l∧nbL (l.take j)=true∧Ag n hp bD∧bD.get n=some ⟨cc,false,[V.d (.slice (iB cx)),V.d (.slice (iA bl))]⟩∧
  s=⟨[(0,.ptr ic gc 0),(1,dL (dJ l)),(5,.ptr n cc 0),(10,dL (dJ l)),(11,dI l.length),(12,dI j)],bD,n+1,c',n,[]⟩) (d:=l.length)
 ·exact ⟨0,_,_,by simp,by simp,by simp[nbL],by simp,by simp,bK (by simp[dI,dL]) rfl⟩
 rintro D _ ⟨j,c',bD,hj,hv,hnl,d8,kY,rfl⟩
 have dR:=eq_true d8
 refine qE (jn @aB @aA) ?_
 show WP _ _ _ _ _ _
 refine WP.cond _ rfl (fun hb=>?_) (fun hb=>?_)
 ·simp at hb
  have bR:j<l.length:=by omega
  obtain ⟨y,hy,vF,bS⟩:=bL bR
  have pD:=oA hy
  have dH:=bG bR (by omega)
  have hsy:=aCY hy
  have hfl:(bl++[l.take j]).flatten=bl.flatten++l.take j:=by simp
  obtain ⟨F,G,hr⟩:=(aJb (ic:=ic) (gc:=gc) (iv:=iv) (gv:=gv) (ip:=ip) (gp:=gp) (im:=im) (gm:=gm) (ii:=ii) (gi:=gi) (ea:=ea) ih hW cx (bl++[l.take j]) (by simp;omega) (by rw[aNS,hnb];simp[nbB,hnl]) y (by have:=mM vF;omega) (by rw[hfl,zE];omega) ((uP _).1 cE y vF)).fn hK
  rw[hfl] at hr
  have ha:=aOU cx bl l j (by omega) (by omega) (by omega)
  rw[g8 hy,fR] at hv
  simp only[aG,pP,aC,List.map_cons,List.map_nil,dI,dL,wX] at hr ha
  by_cases hz:wA o c cx (bl.flatten++l.take j) y=0
  case neg=>
   have lV:=eq_false hz
   rw[if_pos hz] at hv
   rw[←hv]
   refine cV (oY @aB @aA @kY @dR @bS @pD @aC @aH @aI @ha @hr @aV @lV) ?_
   exact ⟨.inr rfl,rfl,_,rfl,rfl⟩
  rw[if_neg (by simp[hz])] at hv
  rw[hz] at hr
  have hny:nbY y=true:=by
   have:=aLw rT (hH [y]+1) [y] cx (bl.flatten++l.take j) (by omega) (by rw[fR,hz,fR];rfl)
   rw[nbL,nbL] at this;simpa using this
  have vD:=bM hy
  refine cV (tS @aB @aA @kY @dR @bS @pD @aC @aH @aI @ha @hr @aV) ?_
  refine aY (by simp[dH];exact Is.rfl) ?_
  exact ⟨D - 1,by omega,j+1,_,_,by omega,by rw[vD,←List.append_assoc];exact hv,by rw[vD,xG,List.all_append,←xG,hnl];simp[hny],by simp[d8],by simp[kY],bK (by simp[dI,dL,dH]) rfl⟩
 ·simp at hb
  have eM:j=l.length:=by omega
  rw[eM,List.drop_length,fR] at hv
  rw[←hv]
  refine cV (jn @aB @aA) ?_
  exact ⟨.inr rfl,rfl,_,rfl,rfl⟩
set_option maxHeartbeats 4000000 in
theorem aMF {N:Nat} (ih:y6 ic gc iv gv ip gp im gm ii gi o ea c N) (hW:KW o c) (rT:∀ x,cZ c x≠0→0<fC o.en (cZ c x)) (l:List Y)  (hN:hH l<N+1) (hu:True) (oE:hH l≤8388600) (cE:okY l):
  QK ic gc iv gv ip gp im gm ii gi o ea c 70 [.ptr ic gc 0,dL (dJ l),.agg [.full [],.full []]] (dI (fR o c [] [] l)):=by
 intro hp n cc hK
 have k1:=lJ l
 refine iR Tryz.func70 rfl (by kernel_rfl) rfl (fun _=>rfl) ?_
 refine cV (j5 @aN @aO @pP.eq_1 @aA @cQ) ?_
 apply WP.loop' (I:=fun D s=>∃ (j c':Nat) (bD:Hp),j+D=l.length∧fR o c [] (l.take j) (l.drop j)=fR o c [] [] l∧nbL (l.take j)=true∧Ag n hp bD∧bD.get n=some ⟨cc,false,[.full [],.full []]⟩∧
  s=⟨[(0,.ptr ic gc 0),(1,dL (dJ l)),(5,.ptr n cc 0),(10,dL (dJ l)),(11,dI l.length),(12,dI j)],bD,n+1,c',n,[]⟩) (d:=l.length)
 ·exact ⟨0,_,_,by simp,by simp,by simp[nbL],by simp,by simp,bK (by simp[dI,dL]) rfl⟩
 rintro D _ ⟨j,c',bD,hj,hv,hnl,d8,kY,rfl⟩
 have dR:=eq_true d8
 refine qE (jn @aB @aA) ?_
 show WP _ _ _ _ _ _
 refine WP.cond _ rfl (fun hb=>?_) (fun hb=>?_)
 ·simp at hb
  have bR:j<l.length:=by omega
  obtain ⟨y,hy,vF,bS⟩:=bL bR
  have pD:=oA hy
  have dH:=bG bR (by omega)
  have hsy:=aCY hy
  have hfl:[l.take j].flatten=l.take j:=by simp
  obtain ⟨F,G,hr⟩:=(aJb (ic:=ic) (gc:=gc) (iv:=iv) (gv:=gv) (ip:=ip) (gp:=gp) (im:=im) (gm:=gm) (ii:=ii) (gi:=gi) (ea:=ea) ih hW [] [l.take j] (by simp) (by simp[nbB,hnl]) y (by have:=mM vF;omega) (by rw[hfl];simp;omega) ((uP _).1 cE y vF)).fn hK
  rw[hfl] at hr
  have ha:=aOU [] [] l j (by omega) (by simp) (by omega)
  rw[g8 hy,fR] at hv
  simp only[aG,pP,aC,List.map_cons,List.map_nil,dI,dL,show iB []=[] from rfl,show iA []=[] from by simp[iA]] at hr ha
  by_cases hz:wA o c [] (l.take j) y=0
  case neg=>
   have lV:=eq_false hz
   rw[if_pos hz] at hv
   rw[←hv]
   refine cV (oY @aB @aA @kY @dR @bS @pD @aC @aH @aI @ha @hr @aV @lV) ?_
   exact ⟨.inr rfl,rfl,_,rfl,rfl⟩
  rw[if_neg (by simp[hz])] at hv
  rw[hz] at hr
  have hny:nbY y=true:=by
   have:=aLw rT (hH [y]+1) [y] [] (l.take j) (by omega) (by rw[fR,hz,fR];rfl)
   rw[nbL,nbL] at this;simpa using this
  have vD:=bM hy
  refine cV (tS @aB @aA @kY @dR @bS @pD @aC @aH @aI @ha @hr @aV) ?_
  refine aY (by simp[dH];exact Is.rfl) ?_
  exact ⟨D - 1,by omega,j+1,_,_,by omega,by rw[vD];exact hv,by rw[vD,xG,List.all_append,←xG,hnl];simp[hny],by simp[d8],by simp[kY],bK (by simp[dI,dL,dH]) rfl⟩
 ·simp at hb
  have eM:j=l.length:=by omega
  rw[eM,List.drop_length,fR] at hv
  rw[←hv]
  refine cV (jn @aB @aA) ?_
  exact ⟨.inr rfl,rfl,_,rfl,rfl⟩
theorem aPq (hW:KW o c) (rT:∀ x,cZ c x≠0→0<fC o.en (cZ c x)):∀ N,y6 ic gc iv gv ip gp im gm ii gi o ea c N:=by
 intro N
 induction N with
 | zero=>intro l cx bl h;omega
 | succ N ih=>intro l cx bl hN hl hnb oE cE;exact aKq ih hW rT l cx bl hN hl hnb oE cE
end
end Go.Ac
end
section
set_option maxRecDepth 4000
namespace Go.Ac
open Go.Proofs
section
variable {α:Type}
def jG (l:List (Tx×α)) (x:Tx) (v:α):List (Tx×α):=match l.findIdx? (fun p=>decide (p.1=x)) with|some i=>l.set i (x,v)|none=>l++[(x,v)]
def mix (l:List (Tx×α)) (x:Tx):Nat:=match l.findIdx? (fun p=>decide (p.1=x)) with|some i=>i|none=>l.length
def aCM (l:List (Tx×α)) (x:Tx) (z:α):List (Tx×α):=match l.findIdx? (fun p=>decide (p.1=x)) with|some i=>l|none=>l++[(x,z)]
theorem qH {l:List (Tx×α)} {x:Tx} {i:Nat} (h:l.findIdx? (fun p=>decide (p.1=x))=some i):∃ hi:i<l.length,(l[i]'hi).1=x:=by
 obtain ⟨h1,h2,_⟩:=List.findIdx?_eq_some_iff_getElem.1 h
 exact ⟨h1,by simpa using h2⟩
theorem aBC (l:List (Tx×α)) (x:Tx) (v:α) (i:Nat) (hi:i<l.length) (h:(l[i]'hi).1=x):(l.set i (x,v)).map (fun p=>D.str p.1)=l.map fun p=>D.str p.1:=by
 rw[List.map_set]
 apply List.ext_getElem
 ·simp
 ·intro j h1 h2
  simp only[List.getElem_set,List.getElem_map]
  split
  ·rename_i e;subst e;rw[h]
  ·rfl
theorem iS (e:α→V) (l:List (Tx×α)) (v:α) {id g:Nat} {sz by_:Nat} {zr:Option (List V)} {look:cA} {x:Tx} {w:V} (hw:w=e v) (h:look id=some ⟨g,false,[gF e l]⟩):
  sI look ⟨.str,sz,by_,zr⟩ (.mp id g) (.d (.str x)) w=some ⟨.undef,[(id,⟨g,false,[gF e (jG l x v)]⟩)],[id],0,0,false⟩:=by
 subst hw
 unfold sI
 have hl:live look id g=some ⟨g,false,[gF e l]⟩:=by unfold live;rw[h];simp
 simp only[nF,hl,gF,zU]
 unfold jG
 cases hf:List.findIdx? (fun p=>decide (p.1=x)) l with
 | none=>simp[List.range_succ]
 | some i=>
  obtain ⟨hi,hx⟩:=qH hf
  have:=aBC l x v i hi hx
  simp[List.map_set] at this ⊢
  exact this.symm
theorem aBw:∀ (n s j i:Nat),i<n→sB ((s+i:Nat):Int) (List.range' s n) j=some (j+i)
 | 0,s,j,i,h=>by omega
 | n+1,s,j,i,h=>by
  rw[List.range'_succ,sB]
  cases i with
  | zero=>simp
  | succ i=>
   have h1:decide ((s:Int)=((s+(i+1):Nat):Int))=false:=by simp;omega
   rw[h1]
   have:=aBw n (s+1) (j+1) i (by omega)
   rw[show s+(i+1)=s+1+i by omega,this,show j+1+i=j+(i+1) by omega]
theorem aCw (n i:Nat) (h:i<n):sB (i:Int) (List.range n) 0=some i:=by
 have:=aBw n 0 0 i h
 rw[List.range_eq_range']
 simpa using this
theorem aQf (l:List (Tx×α)) (x:Tx) (z:α):mix l x<(aCM l x z).length:=by
 unfold mix aCM
 cases hf:List.findIdx? (fun p=>decide (p.1=x)) l with
 | none=>simp
 | some i=>exact (qH hf).1
theorem zO (e:α→V) (l:List (Tx×α)) (z:α) {id g:Nat} {sz by_:Nat} {zr:Option (List V)} {look:cA} {x:Tx} {w:V} (hw:w=e z) (h:look id=some ⟨g,false,[gF e l]⟩):
  vK look ⟨.str,sz,by_,zr⟩ (some w) (.mp id g) (.d (.str x))=some ⟨.tuple [e ((eO l x).getD z),.d (.int .i64 (mix l x))],[(id,⟨g,false,[gF e (aCM l x z)]⟩)],[id],0,0,false⟩:=by
 subst hw
 unfold vK
 have hl:live look id g=some ⟨g,false,[gF e l]⟩:=by unfold live;rw[h];simp
 simp only[nF,hl,gF,zU]
 rw[←z9]
 unfold aCM mix
 cases hf:List.findIdx? (fun p=>decide (p.1=x)) l with
 | none=>simp[List.range_succ]
 | some i=>
  obtain ⟨hi,hx⟩:=qH hf
  simp[hi]
theorem aAc (e:α→V) (l:List (Tx×α)) (z v:α) {id g:Nat} {look:cA} {x:Tx} {w:V} (hw:w=e v) (h:look id=some ⟨g,false,[gF e (aCM l x z)]⟩):
  wH look (.mp id g) (.d (.int .i64 (mix l x))) w=some ⟨.undef,[(id,⟨g,false,[gF e (jG l x v)]⟩)],[id],0,0,false⟩:=by
 subst hw
 unfold wH
 have hl:live look id g=some ⟨g,false,[gF e (aCM l x z)]⟩:=by unfold live;rw[h];simp
 simp only[hl,gF,aCw _ _ (aQf l x z)]
 unfold aCM mix jG
 cases hf:List.findIdx? (fun p=>decide (p.1=x)) l with
 | none=>simp
 | some i=>
  obtain ⟨hi,hx⟩:=qH hf
  have:=aBC l x v i hi hx
  simp[List.map_set] at this ⊢
  exact this.symm
theorem vY (l r:List (Tx×α)) (y:Tx):eO (l++r) y=(eO l y).or (eO r y):=by
 unfold eO;rw[List.find?_append];cases List.find? (fun p=>decide (p.1=y)) l <;> simp
theorem aGj:∀ (l:List (Tx×α)) (x y:Tx) (v:α) (i:Nat),l.findIdx? (fun p=>decide (p.1=x))=some i→eO (l.set i (x,v)) y=if y=x then some v else eO l y
 | [],x,y,v,i,h=>by simp at h
 | p::r,x,y,v,i,h=>by
  simp only[List.findIdx?_cons] at h
  by_cases hp:p.1=x
  ·simp[hp] at h;subst h
   unfold eO
   simp only[List.set_cons_zero,List.find?_cons,hp]
   by_cases hy:y=x
   ·subst hy;simp
   ·rw[if_neg hy]
    have:decide (x=y)=false:=by simp;exact fun e=>hy e.symm
    simp[this]
  ·simp[hp] at h
   obtain ⟨k,hk,rfl⟩:=h
   have ih:=aGj r x y v k hk
   unfold eO at ih ⊢
   simp only[List.set_cons_succ,List.find?_cons]
   by_cases hy:p.1=y
   ·have hne:y≠x:=fun e=>hp (hy.trans e)
    simp[hy,hne]
   ·simp[hy]
    exact ih
theorem aCX (l:List (Tx×α)) (x y:Tx) (v:α):eO (jG l x v) y=if y=x then some v else eO l y:=by
 unfold jG
 cases hf:List.findIdx? (fun p=>decide (p.1=x)) l with
 | some i=>exact aGj l x y v i hf
 | none=>
  rw[vY]
  have hn:eO l x=none:=by rw[←z9,hf]
  by_cases hy:y=x
  ·subst hy;rw[hn,if_pos rfl];simp[eO]
  ·rw[if_neg hy]
   have hd:decide (x=y)=false:=by simp;exact fun e=>hy e.symm
   have:eO [(x,v)] y=none:=by unfold eO;simp[List.find?_cons,hd]
   rw[this];cases eO l y <;> rfl
def puts (l:List (Tx×α)):List (Tx×α)→List (Tx×α)
 | []=>l
 | p::r=>puts (jG l p.1 p.2) r
theorem gE:∀ (ds l:List (Tx×α)) (p:Tx×α),puts l (ds++[p])=jG (puts l ds) p.1 p.2
 | [],l,p=>rfl
 | d::r,l,p=>gE r (jG l d.1 d.2) p
theorem oV:∀ (a l b:List (Tx×α)),puts l (a++b)=puts (puts l a) b
 | [],l,b=>rfl
 | d::r,l,b=>oV r (jG l d.1 d.2) b
end
def dV (l:List Dc):List (Tx×Int):=l.map fun d=>(d.nm,d.t)
def dP (l:List Dc):List (Tx×Bool):=l.map fun d=>(d.nm,true)
def mV (l:List Mm):List (Tx×Int):=l.map fun d=>(d.nm,d.t)
def eI (t:Int):V:= .d (.int .i64 t)
def eBo (b:Bool):V:= .d (.bool b)
def eC (k:Cl):V:=aG k.cells
def xO (x:Cl):Ob:=⟨0,false,x.cells.map .d⟩
def kO (en:List En) (ea:List Cl) (x:Cl):Ob:=⟨5,false,[V.d (.slice (fW en)),V.d (.slice (gA ea)),V.d (.str x.nm),V.d (.slice (cM x.inn)),V.d (.slice (cM x.out)),V.d (.slice (cM x.loc)),V.d (.slice (lA x.mems)),V.d (.slice (mD x.ins)),V.d (.slice (dJ x.step)),.mp 1 1,.mp 2 2,.mp 3 3,.mp 4 4]⟩
def nHp (en:List En) (ea:List Cl) (x:Cl) (lv:List (Tx×Int)) (lp:List (Tx×Bool)) (lm:List (Tx×Int)):Hp:=[(0,xO x),(1,⟨1,false,[gF eI lv]⟩),(2,⟨2,false,[gF eBo lp]⟩),(3,⟨3,false,[gF eI lm]⟩),(4,⟨4,false,[gF eC []]⟩),(5,kO en ea x)]
theorem aWY (r:Nat):Ob.keep 29 r=Ob.k29 r:=by kernel_rfl
attribute [local simp] aWY Ob.k29
set_option maxHeartbeats 4000000 in
theorem aTr (en:List En) (ea:List Cl) (x:Cl) (hl:x.inn.length+x.out.length+x.loc.length+x.mems.length≤8388608):
  ∃ q,m9 Tryz.prog Ob.cfg 29 [dL (fW en),dL (gA ea),aG x.cells] [] 0 0=some q∧q.v= .ptr 5 5 0∧q.n=6∧q.hp=nHp en ea x (puts (puts (puts [] (dV x.inn)) (dV x.out)) (dV x.loc)) (puts (puts [] (dP x.out)) (dP x.loc)) (puts [] (mV x.mems)):=by
 have main:∃ (v:V) (t:St),m9 Tryz.prog Ob.cfg 29 [dL (fW en),dL (gA ea),aG x.cells] [] 0 0=some ⟨v,t.hp,t.n,t.c,t.wl⟩∧v= .ptr 5 5 0∧t.n=6∧t.hp=nHp en ea x (puts (puts (puts [] (dV x.inn)) (dV x.out)) (dV x.loc)) (puts (puts [] (dP x.out)) (dP x.loc)) (puts [] (mV x.mems)):=by
  refine wG (Q:=fun v (t:St)=>v= .ptr 5 5 0∧t.n=6∧t.hp=nHp en ea x (puts (puts (puts [] (dV x.inn)) (dV x.out)) (dV x.loc)) (puts (puts [] (dP x.out)) (dP x.loc)) (puts [] (mV x.mems))) Tryz.func29 rfl (by kernel_rfl) ?_
  refine a9 (j9 @aN @aO @aA @aD @aJ @qO.eq_1 @aH @aI @Value.oneCell'.eq_def) ?_
  apply WP.loop' (I:=fun D s=>∃ i:Nat,i+D=x.inn.length∧SE [(5,.ptr 0 0 0),(7,.ptr 5 5 0),(26,dL (cM x.inn)),(27,dI x.inn.length),(28,dI i)] (nHp en ea x (puts [] (dV (x.inn.take i))) [] []) 6 s) (d:=x.inn.length)
  ·exact ⟨0,by simp,SE.mk (by simp[dI,dL]) (by simp[nHp,xO,kO,Cl.cells,dL,dI,dV,puts,gF])⟩
  rintro D _ ⟨i,hi,cc,rfl⟩
  refine wk (jn @aB @aA) ?_
  show WP _ _ _ _ _ _
  refine WP.cond _ rfl (fun hb=>?_) (fun hb=>?_)
  ·simp at hb
   have bR:i<x.inn.length:=by omega
   obtain ⟨d,hd,d9,bS⟩:=bL bR
   have cF:=d6 hd
   have hw:=bG bR (by omega)
   have vD:=bM hd
   have e1:=fun look zr h=>iS eI (puts [] (dV (x.inn.take i))) d.t (id:=1) (g:=1) (sz:=1) (by_:=16) (zr:=zr) (look:=look) (x:=d.nm) (w:= .d (.int .i64 d.t)) rfl h
   refine a9 (tS @nHp.eq_1 @xO.eq_1 @kO.eq_1 @aJ @aA @aB @bS @cF @aP @aH @aI @e1) ?_
   refine aY (by simp[hw];exact Is.rfl) ?_
   exact ⟨D - 1,by omega,i+1,by omega,SE.mk (by simp[dI,dL,hw]) (by rw[vD];simp only[dV,List.map_append,List.map_cons,List.map_nil,gE];rfl)⟩
  simp at hb
  have nE:i=x.inn.length:=by omega
  subst nE
  rw[List.take_length]
  clear hb hi
  refine a9 (j8 @nHp.eq_1 @xO.eq_1 @kO.eq_1 @aJ @aA @aB @aH @aI) ?_
  apply WP.loop' (I:=fun D s=>∃ j:Nat,j+D=2∧SE [(5,.ptr 0 0 0),(7,.ptr 5 5 0),(45,.agg [dL (cM x.out),dL (cM x.loc)]),(46,dI j)] (nHp en ea x (puts (puts [] (dV x.inn)) (if j=0 then [] else if j=1 then dV x.out else dV x.out++dV x.loc)) (puts [] (if j=0 then [] else if j=1 then dP x.out else dP x.out++dP x.loc)) []) 6 s) (d:=2)
  ·exact ⟨0,by simp,SE.mk (by simp[dI,dL]) (by simp[nHp,xO,kO,Cl.cells,dL,dI,puts])⟩
  rintro D _ ⟨j,hj,cc,rfl⟩
  obtain rfl|rfl|rfl:j=0∨j=1∨j=2:=by omega
  ·refine a9 (uQ @aB @aA @jQ.eq_def @puts.eq_1 @puts.eq_2 @nHp.eq_1 @xO.eq_1 @kO.eq_1 @aJ @aA @aB) ?_
   apply WP.loop' (I:=fun D s=>∃ i:Nat,i+D=x.out.length∧SE [(5,.ptr 0 0 0),(7,.ptr 5 5 0),(45,.agg [dL (cM x.out),dL (cM x.loc)]),(46,dI 0),(49,dL (cM x.out)),(50,dI x.out.length),(51,dI i)] (nHp en ea x (puts (puts [] (dV x.inn)) (dV (x.out.take i))) (puts [] (dP (x.out.take i))) []) 6 s) (d:=x.out.length)
   ·exact ⟨0,by simp,SE.mk (by simp[dI,dL]) (by simp[nHp,xO,kO,Cl.cells,dL,dI,dV,dP,puts])⟩
   rintro D2 _ ⟨i,hi,cc2,rfl⟩
   refine wk (jn @aB @aA) ?_
   show WP _ _ _ _ _ _
   refine WP.cond _ rfl (fun hb=>?_) (fun hb=>?_)
   ·simp at hb
    have bR:i<x.out.length:=by omega
    obtain ⟨d,hd,d9,bS⟩:=bL bR
    have cF:=d6 hd
    have hw:=bG bR (by omega)
    have vD:=bM hd
    have e1:=fun look zr h=>zO eI (puts (puts [] (dV x.inn)) (dV (x.out.take i))) 0 (id:=1) (g:=1) (sz:=1) (by_:=16) (zr:=zr) (look:=look) (x:=d.nm) (w:= .d (.int .i64 0)) rfl h
    have e2:=fun look h=>aAc eI (puts (puts [] (dV x.inn)) (dV (x.out.take i))) 0 d.t (id:=1) (g:=1) (look:=look) (x:=d.nm) (w:= .d (.int .i64 d.t)) rfl h
    have e3:=fun look zr h=>zO eBo (puts [] (dP (x.out.take i))) false (id:=2) (g:=2) (sz:=1) (by_:=16) (zr:=zr) (look:=look) (x:=d.nm) (w:= .d (.bool false)) rfl h
    have e4:=fun look h=>aAc eBo (puts [] (dP (x.out.take i))) false true (id:=2) (g:=2) (look:=look) (x:=d.nm) (w:= .d (.bool true)) rfl h
    refine a9 (sS @nHp.eq_1 @xO.eq_1 @kO.eq_1 @aJ @aA @aB @bS @cF @aP @aH @aI @zt3 @zt4 @e1 @e2 @e3 @e4) ?_
    refine aY (by simp[hw];exact Is.rfl) ?_
    exact ⟨D2 - 1,by omega,i+1,by omega,SE.mk (by simp[dI,dL,hw]) (by rw[vD];simp only[dV,dP,List.map_append,List.map_cons,List.map_nil,gE];rfl)⟩
   simp at hb
   have nE:i=x.out.length:=by omega
   subst nE
   rw[List.take_length]
   clear hb hi
   refine a9 (jn @aB @aA) ?_
   refine aY (by simp;exact Is.rfl) ?_
   exact ⟨1,by omega,1,by omega,SE.mk (by simp[dI,dL];try decide) (by simp[oV,puts];try rfl)⟩
  ·refine a9 (uQ @aB @aA @jQ.eq_def @puts.eq_1 @puts.eq_2 @nHp.eq_1 @xO.eq_1 @kO.eq_1 @aJ @aA @aB) ?_
   apply WP.loop' (I:=fun D s=>∃ i:Nat,i+D=x.loc.length∧SE [(5,.ptr 0 0 0),(7,.ptr 5 5 0),(45,.agg [dL (cM x.out),dL (cM x.loc)]),(46,dI 1),(49,dL (cM x.loc)),(50,dI x.loc.length),(51,dI i)] (nHp en ea x (puts (puts (puts [] (dV x.inn)) (dV x.out)) (dV (x.loc.take i))) (puts (puts [] (dP x.out)) (dP (x.loc.take i))) []) 6 s) (d:=x.loc.length)
   ·exact ⟨0,by simp,SE.mk (by simp[dI,dL]) (by simp[nHp,xO,kO,Cl.cells,dL,dI,dV,dP,puts])⟩
   rintro D2 _ ⟨i,hi,cc2,rfl⟩
   refine wk (jn @aB @aA) ?_
   show WP _ _ _ _ _ _
   refine WP.cond _ rfl (fun hb=>?_) (fun hb=>?_)
   ·simp at hb
    have bR:i<x.loc.length:=by omega
    obtain ⟨d,hd,d9,bS⟩:=bL bR
    have cF:=d6 hd
    have hw:=bG bR (by omega)
    have vD:=bM hd
    have e1:=fun look zr h=>zO eI (puts (puts (puts [] (dV x.inn)) (dV x.out)) (dV (x.loc.take i))) 0 (id:=1) (g:=1) (sz:=1) (by_:=16) (zr:=zr) (look:=look) (x:=d.nm) (w:= .d (.int .i64 0)) rfl h
    have e2:=fun look h=>aAc eI (puts (puts (puts [] (dV x.inn)) (dV x.out)) (dV (x.loc.take i))) 0 d.t (id:=1) (g:=1) (look:=look) (x:=d.nm) (w:= .d (.int .i64 d.t)) rfl h
    have e3:=fun look zr h=>zO eBo (puts (puts [] (dP x.out)) (dP (x.loc.take i))) false (id:=2) (g:=2) (sz:=1) (by_:=16) (zr:=zr) (look:=look) (x:=d.nm) (w:= .d (.bool false)) rfl h
    have e4:=fun look h=>aAc eBo (puts (puts [] (dP x.out)) (dP (x.loc.take i))) false true (id:=2) (g:=2) (look:=look) (x:=d.nm) (w:= .d (.bool true)) rfl h
    refine a9 (sS @nHp.eq_1 @xO.eq_1 @kO.eq_1 @aJ @aA @aB @bS @cF @aP @aH @aI @zt3 @zt4 @e1 @e2 @e3 @e4) ?_
    refine aY (by simp[hw];exact Is.rfl) ?_
    exact ⟨D2 - 1,by omega,i+1,by omega,SE.mk (by simp[dI,dL,hw]) (by rw[vD];simp only[dV,dP,List.map_append,List.map_cons,List.map_nil,gE];rfl)⟩
   simp at hb
   have nE:i=x.loc.length:=by omega
   subst nE
   rw[List.take_length]
   clear hb hi
   refine a9 (jn @aB @aA) ?_
   refine aY (by simp;exact Is.rfl) ?_
   exact ⟨0,by omega,2,by omega,SE.mk (by simp[dI,dL];try decide) (by simp[oV,puts];try rfl)⟩
  ·refine a9 (uQ @aB @aA @oV @puts.eq_1 @puts.eq_2 @nHp.eq_1 @xO.eq_1 @kO.eq_1 @aJ @aA @aB) ?_
   apply WP.loop' (I:=fun D s=>∃ i:Nat,i+D=x.mems.length∧SE [(7,.ptr 5 5 0),(76,dL (lA x.mems)),(77,dI x.mems.length),(78,dI i)] (nHp en ea x (puts (puts (puts [] (dV x.inn)) (dV x.out)) (dV x.loc)) (puts (puts [] (dP x.out)) (dP x.loc)) (puts [] (mV (x.mems.take i)))) 6 s) (d:=x.mems.length)
   ·exact ⟨0,by simp,SE.mk (by simp[dI,dL]) (by simp[nHp,xO,kO,Cl.cells,dL,dI,mV,oV,puts])⟩
   rintro D2 _ ⟨i,hi,cc2,rfl⟩
   refine wk (jn @aB @aA) ?_
   show WP _ _ _ _ _ _
   refine WP.cond _ rfl (fun hb=>?_) (fun hb=>?_)
   ·simp at hb
    have bR:i<x.mems.length:=by omega
    obtain ⟨d,hd,d9,bS⟩:=bL bR
    have cF:=mU hd
    have hw:=bG bR (by omega)
    have vD:=bM hd
    have e1:=fun look zr h=>iS eI (puts [] (mV (x.mems.take i))) d.t (id:=3) (g:=3) (sz:=1) (by_:=16) (zr:=zr) (look:=look) (x:=d.nm) (w:= .d (.int .i64 d.t)) rfl h
    refine a9 (tS @nHp.eq_1 @xO.eq_1 @kO.eq_1 @aJ @aA @aB @bS @cF @Mm.cells.eq_1 @aH @aI @e1) ?_
    refine aY (by simp[hw];exact Is.rfl) ?_
    exact ⟨D2 - 1,by omega,i+1,by omega,SE.mk (by simp[dI,dL,hw]) (by rw[vD];simp only[mV,List.map_append,List.map_cons,List.map_nil,gE];rfl)⟩
   simp at hb
   have nE:i=x.mems.length:=by omega
   subst nE
   rw[List.take_length]
   refine a9 (jn @aB @aA) ?_
   exact ⟨.inr rfl,_,rfl,.inr rfl,rfl,rfl,rfl⟩
 obtain ⟨v,t,h1,h2,h3,h4⟩:=main
 exact ⟨_,h1,h2,h3,h4⟩
end Go.Ac
end
section
set_option maxRecDepth 4000
namespace Go.Ac
open Go.Proofs
attribute [local simp] Hp.get_set dA cK cR bW
theorem aUA (r:Nat):Ob.keep 107 r=Ob.k107 r:=by kernel_rfl
attribute [local simp] aUA Ob.k107
theorem lZ {f:FuncId} {fn:Func} {body:Code} {vs:List V} {v:V} {hp:Hp} {n c:Nat} (hf:Tryz.prog.funcs[f]?=some fn) (hb:fn.body=some body) (cE:(Nat.ble vs.length fn.ntmps&&fH fn.ntmps body)=true)
  (vE:Ob.cfg.thr f=false) (h:WP Tryz.prog Ob.cfg f body ⟨dD 0 vs,hp,n,c,n,[]⟩ (fun e t=>(e= .normal∨e= .ret)∧t.wl=[]∧∃ rs ids,f9 Tryz.prog t fn.results.toList=some rs∧dZ t.hp.get (tup rs)=some (v,ids)∧(v.flat||ids.all (fun i=>Nat.ble n i))=true)):kV Tryz.prog Ob.cfg f vs hp n c v:=by
 obtain ⟨w,t,h1,h2⟩:=aFM (Q:=fun w t=>w=v∧t.wl=[]) hf hb cE vE (h.mono fun e t ⟨he,jF,rs,ids,a1,a2,a3⟩=>⟨he,rs,v,ids,a1,a2,a3,rfl,jF⟩)
 obtain ⟨rfl,jF⟩:=h2
 rw[jF] at h1
 exact ⟨_,_,h1⟩
structure KG (ic gc iv gv ip gp im gm ii gi:Nat) (o:Oc) (ea:List Cl) (c:Cl) (lv:List (Tx×Int)) (lp:List (Tx×Bool)) (lm:List (Tx×Int)) (li:List (Tx×Cl)) (hp:Hp) (n:Nat):Prop where
 co:hp.get ic=some ⟨gc,false,[V.d (.slice (fW o.en)),V.d (.slice (gA ea)),V.d (.str c.nm),V.d (.slice (cM c.inn)),V.d (.slice (cM c.out)),V.d (.slice (cM c.loc)),V.d (.slice (lA c.mems)),V.d (.slice (mD c.ins)),V.d (.slice (dJ c.step)),.mp iv gv,.mp ip gp,.mp im gm,.mp ii gi]⟩
 vars:hp.get iv=some ⟨gv,false,[gF eI lv]⟩
 ports:hp.get ip=some ⟨gp,false,[gF eBo lp]⟩
 mems:hp.get im=some ⟨gm,false,[gF eI lm]⟩
 ins:hp.get ii=some ⟨gi,false,[gF eC li]⟩
 lc:ic<n
 lv:iv<n
 lp:ip<n
 lm:im<n
 li:ii<n
theorem KG.ag {ic gc iv gv ip gp im gm ii gi:Nat} {o:Oc} {ea:List Cl} {c:Cl} {lv lm:List (Tx×Int)} {lp:List (Tx×Bool)} {li:List (Tx×Cl)} {hp bD:Hp} {n n':Nat} (h:KG ic gc iv gv ip gp im gm ii gi o ea c lv lp lm li hp n) (ha:Ag n hp bD) (hn:n≤n'):KG ic gc iv gv ip gp im gm ii gi o ea c lv lp lm li bD n':=by
 obtain ⟨h1,h2,h3,h4,h5,l1,l2,l3,l4,l5⟩:=h
 rw[←ha _ l1] at h1
 rw[←ha _ l2] at h2
 rw[←ha _ l3] at h3
 rw[←ha _ l4] at h4
 rw[←ha _ l5] at h5
 exact ⟨h1,h2,h3,h4,h5,by omega,by omega,by omega,by omega,by omega⟩
section
variable {ic gc iv gv ip gp im gm ii gi:Nat} {o:Oc} {ea:List Cl} {c:Cl} {lv lm:List (Tx×Int)} {lp:List (Tx×Bool)} {li:List (Tx×Cl)}
set_option maxHeartbeats 4000000 in
theorem aLy (hL:CLen c) (hp:Hp) (n cc:Nat) (hK:KG ic gc iv gv ip gp im gm ii gi o ea c lv lp lm li hp n):kV Tryz.prog Ob.cfg 107 [.ptr ic gc 0] hp n cc (dL (eT c.names)):=by
 have hL:=hL.sum
 have eD:=hK.co
 have nc:=nf hK.lc
 refine lZ Tryz.func107 rfl (by kernel_rfl) rfl ?_
 refine cV (j7 @aN @aO @aA @eD @nc @aH @aI) ?_
 apply WP.loop' (I:=fun D s=>∃ (j g m c':Nat) (bD:Hp) (B:List Tx),j+D=3∧B=(if j=0 then ([]:List Tx) else if j=1 then c.inn.map Dc.nm else if j=2 then (c.inn.map Dc.nm++c.out.map Dc.nm) else (c.inn.map Dc.nm++c.out.map Dc.nm++c.loc.map Dc.nm))∧m=B.length∧Ag n hp bD∧bD.get n=some ⟨g,false,fl (eT B)⟩∧s=⟨[(0,.ptr ic gc 0),(3,.osl n g 0 m 1 none),(27,.agg [dL (cM c.inn),dL (cM c.out),dL (cM c.loc)]),(28,dI j)],bD,n+1,c',n,[]⟩) (d:=3)
 ·exact ⟨0,cc,_,_,_,[],by simp,by simp,rfl,by simp,by simp[fl,eT],bK (by simp[dI,dL]) rfl⟩
 rintro D _ ⟨j,g,m,c',bD,B,hj,hB,hm,d8,hx,rfl⟩
 have dR:=eq_true d8
 have eD:=(hK.ag d8 (Nat.le_refl n)).co
 obtain rfl|rfl|rfl|rfl:j=0∨j=1∨j=2∨j=3:=by omega
 ·replace hB:B=([]:List Tx):=by rw[hB];simp
  refine cV (j3 @aB @aA @jQ.eq_def) ?_
  apply WP.loop' (I:=fun D s=>∃ (i g m c':Nat) (bD:Hp) (B:List Tx),i+D=c.inn.length∧B=([]:List Tx)++(c.inn.take i).map Dc.nm∧m=B.length∧Ag n hp bD∧bD.get n=some ⟨g,false,fl (eT B)⟩∧s=⟨[(0,.ptr ic gc 0),(3,.osl n g 0 m 1 none),(27,.agg [dL (cM c.inn),dL (cM c.out),dL (cM c.loc)]),(28,dI 0),(31,dL (cM c.inn)),(32,dI c.inn.length),(33,dI i)],bD,n+1,c',n,[]⟩) (d:=c.inn.length)
  ·exact ⟨0,g,m,_,_,B,by simp,by simp[hB],hm,by simp[d8],by simp[hx],bK (by simp[dI,dL]) rfl⟩
  clear hB hm hx d8 dR eD
  rintro D2 _ ⟨i,g,m,c',bD,B,hi,hB,hm,d8,hx,rfl⟩
  have dR:=eq_true d8
  have eD:=(hK.ag d8 (Nat.le_refl n)).co
  refine qE (jn @aB @aA) ?_
  show WP _ _ _ _ _ _
  refine WP.cond _ rfl (fun hb=>?_) (fun hb=>?_)
  ·simp at hb
   have bR:i<c.inn.length:=by omega
   obtain ⟨d,hd,d9,bS⟩:=bL bR
   have cF:=d6 hd
   have dH:=bG bR (by omega)
   have hBl:m≤8388608:=by rw[hm,hB];simp;omega
   have r2:=cT (cP B)
   have r3:=cL (cP B)
   have r5:=iT B d.nm
   have r6:=dW (eT B) [.str d.nm]
   have f5:bT (m+1) 16=true:=by simp[bT];omega
   rw[aW,←hm,Nat.mul_one] at r2 r3
   rw[r5] at r6
   simp only[List.map_cons,List.map_nil] at r6
   refine cV (j21 @aB @aA @hx @eD @nc @dR @bS @cF @aP @aH @aI @aQ @aR @iE.eq_def @bI @b8 @r2 @r3 @r6 @f5 @bJ) ?_
   refine aY (by simp[dH];exact Is.rfl) ?_
   exact ⟨D2 - 1,by omega,i+1,_,m+1,_,_,B++[d.nm],by omega,by rw[hB,bM hd];simp,by simp;omega,by simp[d8],by simp;rfl,bK (by simp[dI,dL,dH]) rfl⟩
  simp at hb
  have nE:i=c.inn.length:=by omega
  rw[nE,List.take_length] at hB
  refine cV (jn @aB @aA) ?_
  refine aY (by simp;exact Is.rfl) ?_
  exact ⟨2,by omega,1,g,m,_,_,B,by omega,by simp[hB],hm,by simp[d8],by simp[hx],bK (by simp[dI,dL];try decide) rfl⟩
 ·replace hB:B=c.inn.map Dc.nm:=by rw[hB];simp
  refine cV (j3 @aB @aA @jQ.eq_def) ?_
  apply WP.loop' (I:=fun D s=>∃ (i g m c':Nat) (bD:Hp) (B:List Tx),i+D=c.out.length∧B=c.inn.map Dc.nm++(c.out.take i).map Dc.nm∧m=B.length∧Ag n hp bD∧bD.get n=some ⟨g,false,fl (eT B)⟩∧s=⟨[(0,.ptr ic gc 0),(3,.osl n g 0 m 1 none),(27,.agg [dL (cM c.inn),dL (cM c.out),dL (cM c.loc)]),(28,dI 1),(31,dL (cM c.out)),(32,dI c.out.length),(33,dI i)],bD,n+1,c',n,[]⟩) (d:=c.out.length)
  ·exact ⟨0,g,m,_,_,B,by simp,by simp[hB],hm,by simp[d8],by simp[hx],bK (by simp[dI,dL]) rfl⟩
  clear hB hm hx d8 dR eD
  rintro D2 _ ⟨i,g,m,c',bD,B,hi,hB,hm,d8,hx,rfl⟩
  have dR:=eq_true d8
  have eD:=(hK.ag d8 (Nat.le_refl n)).co
  refine qE (jn @aB @aA) ?_
  show WP _ _ _ _ _ _
  refine WP.cond _ rfl (fun hb=>?_) (fun hb=>?_)
  ·simp at hb
   have bR:i<c.out.length:=by omega
   obtain ⟨d,hd,d9,bS⟩:=bL bR
   have cF:=d6 hd
   have dH:=bG bR (by omega)
   have hBl:m≤8388608:=by rw[hm,hB];simp;omega
   have r2:=cT (cP B)
   have r3:=cL (cP B)
   have r5:=iT B d.nm
   have r6:=dW (eT B) [.str d.nm]
   have f5:bT (m+1) 16=true:=by simp[bT];omega
   rw[aW,←hm,Nat.mul_one] at r2 r3
   rw[r5] at r6
   simp only[List.map_cons,List.map_nil] at r6
   refine cV (j21 @aB @aA @hx @eD @nc @dR @bS @cF @aP @aH @aI @aQ @aR @iE.eq_def @bI @b8 @r2 @r3 @r6 @f5 @bJ) ?_
   refine aY (by simp[dH];exact Is.rfl) ?_
   exact ⟨D2 - 1,by omega,i+1,_,m+1,_,_,B++[d.nm],by omega,by rw[hB,bM hd];simp,by simp;omega,by simp[d8],by simp;rfl,bK (by simp[dI,dL,dH]) rfl⟩
  simp at hb
  have nE:i=c.out.length:=by omega
  rw[nE,List.take_length] at hB
  refine cV (jn @aB @aA) ?_
  refine aY (by simp;exact Is.rfl) ?_
  exact ⟨1,by omega,2,g,m,_,_,B,by omega,by simp[hB],hm,by simp[d8],by simp[hx],bK (by simp[dI,dL];try decide) rfl⟩
 ·replace hB:B=(c.inn.map Dc.nm++c.out.map Dc.nm):=by rw[hB];simp
  refine cV (j3 @aB @aA @jQ.eq_def) ?_
  apply WP.loop' (I:=fun D s=>∃ (i g m c':Nat) (bD:Hp) (B:List Tx),i+D=c.loc.length∧B=(c.inn.map Dc.nm++c.out.map Dc.nm)++(c.loc.take i).map Dc.nm∧m=B.length∧Ag n hp bD∧bD.get n=some ⟨g,false,fl (eT B)⟩∧s=⟨[(0,.ptr ic gc 0),(3,.osl n g 0 m 1 none),(27,.agg [dL (cM c.inn),dL (cM c.out),dL (cM c.loc)]),(28,dI 2),(31,dL (cM c.loc)),(32,dI c.loc.length),(33,dI i)],bD,n+1,c',n,[]⟩) (d:=c.loc.length)
  ·exact ⟨0,g,m,_,_,B,by simp,by simp[hB],hm,by simp[d8],by simp[hx],bK (by simp[dI,dL]) rfl⟩
  clear hB hm hx d8 dR eD
  rintro D2 _ ⟨i,g,m,c',bD,B,hi,hB,hm,d8,hx,rfl⟩
  have dR:=eq_true d8
  have eD:=(hK.ag d8 (Nat.le_refl n)).co
  refine qE (jn @aB @aA) ?_
  show WP _ _ _ _ _ _
  refine WP.cond _ rfl (fun hb=>?_) (fun hb=>?_)
  ·simp at hb
   have bR:i<c.loc.length:=by omega
   obtain ⟨d,hd,d9,bS⟩:=bL bR
   have cF:=d6 hd
   have dH:=bG bR (by omega)
   have hBl:m≤8388608:=by rw[hm,hB];simp;omega
   have r2:=cT (cP B)
   have r3:=cL (cP B)
   have r5:=iT B d.nm
   have r6:=dW (eT B) [.str d.nm]
   have f5:bT (m+1) 16=true:=by simp[bT];omega
   rw[aW,←hm,Nat.mul_one] at r2 r3
   rw[r5] at r6
   simp only[List.map_cons,List.map_nil] at r6
   refine cV (j21 @aB @aA @hx @eD @nc @dR @bS @cF @aP @aH @aI @aQ @aR @iE.eq_def @bI @b8 @r2 @r3 @r6 @f5 @bJ) ?_
   refine aY (by simp[dH];exact Is.rfl) ?_
   exact ⟨D2 - 1,by omega,i+1,_,m+1,_,_,B++[d.nm],by omega,by rw[hB,bM hd];simp,by simp;omega,by simp[d8],by simp;rfl,bK (by simp[dI,dL,dH]) rfl⟩
  simp at hb
  have nE:i=c.loc.length:=by omega
  rw[nE,List.take_length] at hB
  refine cV (jn @aB @aA) ?_
  refine aY (by simp;exact Is.rfl) ?_
  exact ⟨0,by omega,3,g,m,_,_,B,by omega,by simp[hB],hm,by simp[d8],by simp[hx],bK (by simp[dI,dL];try decide) rfl⟩
 replace hB:B=(c.inn.map Dc.nm++c.out.map Dc.nm++c.loc.map Dc.nm):=by rw[hB];simp
 refine cV (j4 @aB @aA @eD @nc) ?_
 apply WP.loop' (I:=fun D s=>∃ (i g m c':Nat) (bD:Hp) (B:List Tx),i+D=c.mems.length∧B=(c.inn.map Dc.nm++c.out.map Dc.nm++c.loc.map Dc.nm)++(c.mems.take i).map Mm.nm∧m=B.length∧Ag n hp bD∧bD.get n=some ⟨g,false,fl (eT B)⟩∧s=⟨[(0,.ptr ic gc 0),(3,.osl n g 0 m 1 none),(48,dL (lA c.mems)),(49,dI c.mems.length),(50,dI i)],bD,n+1,c',n,[]⟩) (d:=c.mems.length)
 ·exact ⟨0,g,m,_,_,B,by simp,by simp[hB],hm,by simp[d8],by simp[hx],bK (by simp[dI,dL]) rfl⟩
 clear hB hm hx d8 dR eD
 rintro D2 _ ⟨i,g,m,c',bD,B,hi,hB,hm,d8,hx,rfl⟩
 have dR:=eq_true d8
 have eD:=(hK.ag d8 (Nat.le_refl n)).co
 refine qE (jn @aB @aA) ?_
 show WP _ _ _ _ _ _
 refine WP.cond _ rfl (fun hb=>?_) (fun hb=>?_)
 ·simp at hb
  have bR:i<c.mems.length:=by omega
  obtain ⟨d,hd,d9,bS⟩:=bL bR
  have cF:=mU hd
  have dH:=bG bR (by omega)
  have hBl:m≤8388608:=by rw[hm,hB];simp;omega
  have r2:=cT (cP B)
  have r3:=cL (cP B)
  have r5:=iT B d.nm
  have r6:=dW (eT B) [.str d.nm]
  have f5:bT (m+1) 16=true:=by simp[bT];omega
  rw[aW,←hm,Nat.mul_one] at r2 r3
  rw[r5] at r6
  simp only[List.map_cons,List.map_nil] at r6
  refine cV (j21 @aB @aA @hx @eD @nc @dR @bS @cF @Mm.cells.eq_1 @aH @aI @aQ @aR @iE.eq_def @bI @b8 @r2 @r3 @r6 @f5 @bJ) ?_
  refine aY (by simp[dH];exact Is.rfl) ?_
  exact ⟨D2 - 1,by omega,i+1,_,m+1,_,_,B++[d.nm],by omega,by rw[hB,bM hd];simp,by simp;omega,by simp[d8],by simp;rfl,bK (by simp[dI,dL,dH]) rfl⟩
 simp at hb
 have nE:i=c.mems.length:=by omega
 rw[nE,List.take_length] at hB
 clear hb hi
 refine cV (j4 @aB @aA @eD @nc) ?_
 apply WP.loop' (I:=fun D s=>∃ (i g m c':Nat) (bD:Hp) (B:List Tx),i+D=c.ins.length∧B=(c.inn.map Dc.nm++c.out.map Dc.nm++c.loc.map Dc.nm++c.mems.map Mm.nm)++(c.ins.take i).map Ii.nm∧m=B.length∧Ag n hp bD∧bD.get n=some ⟨g,false,fl (eT B)⟩∧s=⟨[(3,.osl n g 0 m 1 none),(64,dL (mD c.ins)),(65,dI c.ins.length),(66,dI i)],bD,n+1,c',n,[]⟩) (d:=c.ins.length)
 ·exact ⟨0,g,m,_,_,B,by simp,by simp[hB],hm,by simp[d8],by simp[hx],bK (by simp[dI,dL]) rfl⟩
 clear hB hm hx d8 dR eD
 rintro D2 _ ⟨i,g,m,c',bD,B,hi,hB,hm,d8,hx,rfl⟩
 have dR:=eq_true d8
 have eD:=(hK.ag d8 (Nat.le_refl n)).co
 refine qE (jn @aB @aA) ?_
 show WP _ _ _ _ _ _
 refine WP.cond _ rfl (fun hb=>?_) (fun hb=>?_)
 ·simp at hb
  have bR:i<c.ins.length:=by omega
  obtain ⟨d,hd,d9,bS⟩:=bL bR
  have cF:=pV hd
  have dH:=bG bR (by omega)
  have hBl:m≤8388608:=by rw[hm,hB];simp;omega
  have r2:=cT (cP B)
  have r3:=cL (cP B)
  have r5:=iT B d.nm
  have r6:=dW (eT B) [.str d.nm]
  have f5:bT (m+1) 16=true:=by simp[bT];omega
  rw[aW,←hm,Nat.mul_one] at r2 r3
  rw[r5] at r6
  simp only[List.map_cons,List.map_nil] at r6
  refine cV (j21 @aB @aA @hx @eD @nc @dR @bS @cF @Ii.cells.eq_1 @aH @aI @aQ @aR @iE.eq_def @bI @b8 @r2 @r3 @r6 @f5 @bJ) ?_
  refine aY (by simp[dH];exact Is.rfl) ?_
  exact ⟨D2 - 1,by omega,i+1,_,m+1,_,_,B++[d.nm],by omega,by rw[hB,bM hd];simp,by simp;omega,by simp[d8],by simp;rfl,bK (by simp[dI,dL,dH]) rfl⟩
 simp at hb
 have nE:i=c.ins.length:=by omega
 rw[nE,List.take_length] at hB
 refine cV (jn @aB @aA) ?_
 have gM:=jH (look:=bD.get) (id:=n) (g:=g) (ro:=false) (cap:=none) (cP B) hx
 rw[aW,←hm] at gM
 refine ⟨.inr rfl,rfl,_,[n],rfl,?_,by simp[Nat.ble_eq]⟩
 show dZ bD.get (.osl n g 0 m 1 none)=_
 rw[gM,hB];rfl
end
end Go.Ac
end
